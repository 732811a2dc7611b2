/- The reference's search of the shortest way (for FnTop). -/
import Derived.Test.YtgbifpijjfolbaaGreatK441MolesC
import Derived.Test.YtgbifpijjfolbaaGreatK441Way
set_option linter.all false
set_option maxHeartbeats 4000000
namespace Go.DM
variable [Tok]
open Go.IntWalk
variable {w h : Int} {g : Nat → Int} {cs : List S} {L : List Cel}
theorem told_fine (hok : LawnOk w h g) (l : IsLawn w h g cs) : Gives G 84 [ar cs, ab true] (ri .i64 0) := by
  have ht := l01Told_gives l true
  rwa [show belowCode (LawnOk w h g) (true = true) True = 0 from belowCode_zero.2 ⟨hok, rfl, trivial⟩] at ht
theorem l02Small_gives (l : IsLawn w h g cs) (hok : LawnOk w h g) (c : Cel) (hO : Opn w h g c.1 c.2) (hA : (ofKind w h g 0).length ≤ 9) (hB : (ofKind w h g 0).length + (ofKind w h g 3).length ≤ 16) : Gives G 459 [ar cs, ac c.1 c.2] (ri .i64 0) := by
  have hs := hok.1
  have hs2 := hok.2.1
  have hH : Has w h c.1 c.2 := hO.1
  have hO2 := hO.2
  have h0 := told_fine hok l
  have h3 := l01Is_gives l c.1 c.2 (by simp only [Has] at hH; omega)
  have h4 := l01Open_gives l c.1 c.2 (by simp only [Has] at hH; omega)
  rw [decide_eq_true hH] at h3
  rw [decide_eq_true hO2] at h4
  have h1 := l01Cells_gives l 0 (by omega)
  have h2 := l01Cells_gives l 3 (by omega)
  generalize ofKind w h g 0 = A at h1 hA hB
  generalize ofKind w h g 3 = B at h2 hB
  refine Gives.by rfl rfl (W.seq ?_)
  repeat' first | ((with_reducible apply WR.c_s (f := 50) (fn := Code.f50)); (iterate 3 exact rfl); exact rfl; (focus ((repeat' first | exact args_nil | apply args_d | exact toD_d rfl | exact all_nil | apply all_cons | exact rfl); done)); exact h3) | ((with_reducible apply WR.c_s (f := 84) (fn := Code.f84)); (iterate 3 exact rfl); exact rfl; (focus ((repeat' first | exact args_nil | apply args_d | exact toD_d rfl | exact all_nil | apply all_cons | exact rfl); done)); exact h0) | ((with_reducible apply WR.c_s (f := 72) (fn := Code.f72)); (iterate 3 exact rfl); exact rfl; (focus ((repeat' first | exact args_nil | apply args_d | exact toD_d rfl | exact all_nil | apply all_cons | exact rfl); done)); exact h4) | ((with_reducible apply WR.c_o (f := 29) (fn := Code.f29)); (iterate 3 exact rfl); exact rfl; (focus ((repeat' first | exact args_nil | apply args_d | exact toD_d rfl | exact all_nil | apply all_cons | exact rfl); done)); exact h1; (first | (focus ((repeat' first | (with_reducible apply noPar_set) | ((with_reducible apply noPar_puto); exact rfl) | (with_reducible apply noPar_kill) | exact rfl); done)) | exact rfl)) | ((with_reducible apply WR.c_o (f := 29) (fn := Code.f29)); (iterate 3 exact rfl); exact rfl; (focus ((repeat' first | exact args_nil | apply args_d | exact toD_d rfl | exact all_nil | apply all_cons | exact rfl); done)); exact h2; (first | (focus ((repeat' first | (with_reducible apply noPar_set) | ((with_reducible apply noPar_puto); exact rfl) | (with_reducible apply noPar_kill) | exact rfl); done)) | exact rfl)) | ((with_reducible first | apply WR.mv | apply WR.le | apply WR.un | apply WR.pk); exact rfl; exact rfl) | (with_reducible first | apply WR.nil | refine andThen_n ?_ | refine inB_n ?_ | refine W.seq ?_ | refine W.region ?_ | refine W.skip ?_ | refine W.ret ?_ | refine W.block ?_) | ((with_reducible apply W.condF); exact rfl) | ((with_reducible apply Done.f); (intro hh hh2; exact (nomatch hh2)); (focus ((repeat' first | exact all_nil | apply all_cons | exact res_tmp rfl | exact rfl); done)); (focus ((repeat' first | exact all_nil | apply all_cons | exact retOf_s rfl | exact rfl); done)); exact rfl; (focus ((repeat' first | exact outs_nil | apply outs_d | exact rfl); done))) | (intro hb; try (exfalso; omega)) | ((with_reducible first | apply WR.gtr | apply WR.neq); iterate 3 exact rfl) | ((with_reducible apply WR.ld); (iterate 3 exact rfl); (exact ld2)) | ((with_reducible apply WR.ad); (iterate 3 exact rfl); (exact i64_in _ (by omega))) | ((with_reducible apply WR.bx); exact rfl; exact rfl; exact (by first | exact rfl); (first | (focus ((repeat' first | (with_reducible apply noPar_set) | ((with_reducible apply noPar_puto); exact rfl) | (with_reducible apply noPar_kill) | exact rfl); done)) | exact rfl))
  all_goals first
    | rfl
    | (exfalso; omega)
theorem bitF_drop {c : Cel} : ∀ {L : List Cel} {i j : Nat}, c ∉ L.take i → bitF c L j = bitF c (L.drop i) (j + i)
  | L, 0, j, _ => by simp
  | [], i + 1, j, _ => by simp [bitF]
  | a :: r, i + 1, j, h => by
    have h1 : ¬ a = c := fun e => h (by rw [List.take_succ_cons, e]; exact List.mem_cons_self ..)
    have h2 : c ∉ r.take i := fun k => h (by rw [List.take_succ_cons]; exact List.mem_cons_of_mem _ k)
    rw [bitF, if_neg h1, bitF_drop h2, List.drop_succ_cons, show j + 1 + i = j + (i + 1) by omega]
theorem l02Bit_gives (c : Cel) (hL : L.length ≤ 9) : Gives G 460 [asl L, ac c.1 c.2] (ri .i64 ((bitC L c : Nat) : Int)) := by
  refine Gives.by rfl rfl (W.seq ?_)
  repeat' first | ((with_reducible apply WR.mv); exact rfl; exact rfl) | (with_reducible first | apply WR.nil | refine andThen_n ?_ | refine W.seq ?_ | refine W.region ?_ | refine W.block ?_) | ((with_reducible apply WR.bx); exact rfl; exact rfl; exact (by first | exact rfl); (first | (focus ((repeat' first | exact rfl); done)) | exact rfl))
  (refine (?_ : W _ (Code.loop _) _ _))
  (refine W.loopM [0, 3] [3] [] (fun i : (Nat) => (L.length - i : Nat)) (fun i : (Nat) => (i ≤ L.length ∧ c ∉ L.take i : Prop)) (fun i : (Nat) => [(5, .a (.d (.s (.int .i64 (i : Nat)))))]) (fun i : (Nat) => []) 0 (⟨by omega, by simp⟩) ⟨rfl, trivial⟩ trivial trivial ?_)
  rintro i σ hP hN; dsimp only [setL, putL] at hP ⊢
  obtain ⟨hi, hnot⟩ := hP
  by_cases hil : i < L.length
  · have hbc : bitC L c = bitF c (L.drop i) (0 + i) := bitF_drop hnot
    have hg2 := drop_gC hil
    have htk : L.take (i + 1) = L.take i ++ [gC L i] := by
      rw [List.take_add_one, gC_get hil]; rfl
    have h5 := pow_lt9 (k := i) (by omega)
    repeat' first | ((with_reducible apply WR.shM (k := i)); (iterate 3 exact rfl); omega) | ((with_reducible first | apply WR.mv | apply WR.le); exact rfl; exact rfl) | (with_reducible first | apply WR.nil | refine andThen_n ?_ | refine andThen_r ?_ | refine inB_n ?_ | refine inB_r ?_ | refine W.seq ?_ | refine W.region ?_ | refine W.skip ?_ | refine W.ret ?_ | refine W.block ?_ | apply WH.nil | refine W.draw ?_) | ((with_reducible apply W.condT); exact rfl) | ((with_reducible apply W.condF); exact rfl) | ((with_reducible apply Done.f); (intro hh hh2; exact (nomatch hh2)); (focus ((repeat' first | exact all_nil | apply all_cons | exact res_tmp rfl); done)); (focus ((repeat' first | exact all_nil | apply all_cons | exact retOf_s rfl); done)); exact rfl; (focus ((repeat' first | exact outs_nil | apply outs_d); done))) | (intro hb; try (exfalso; omega)) | ((with_reducible first | apply WH.mv | apply WR.lss | apply WH.ec); iterate 3 exact rfl) | ((with_reducible apply WH.ld); (iterate 3 exact rfl); (first | exact ld2 | exact ldCd (by first | omega)); exact rfl) | ((with_reducible apply WH.ldd); exact rfl; exact rfl; (first | exact ld2 | exact ldCd (by first | omega)); exact rfl) | ((with_reducible apply WR.cv); exact rfl; exact rfl; (first | exact i64_in _ (by omega) | exact u64_in _ (by omega))) | ((with_reducible apply WR.ad); (iterate 3 exact rfl); (first | exact i64_in _ (by omega) | exact u64_in _ (by omega))) | ((with_reducible apply WH.idn); (iterate 3 exact rfl); omega; (exact Nat.le_of_eq (encC_length _).symm); exact rfl)
    · have e : gC L i = c := Prod.ext hb.1 hb.2
      rw [hbc, hg2, bitF, if_pos e, Nat.zero_add]; rfl
    · (refine W.nxt (i + 1) (by first | omega | (dsimp only; omega)) ?_ ⟨rfl, trivial⟩ trivial ⟨rfl, rfl, trivial⟩ ⟨rfl, trivial⟩ trivial); (try dsimp only)
      refine ⟨by omega, fun k => ?_⟩
      rw [htk] at k
      rcases List.mem_append.1 k with k | k
      · exact hnot k
      · exact hb (by rw [List.mem_singleton.1 k]; exact ⟨rfl, rfl⟩)
  · repeat' first | ((with_reducible first | apply WR.mv | apply WR.le); exact rfl; exact rfl) | (with_reducible first | apply WR.nil | refine andThen_n ?_ | refine andThen_x ?_ | refine inB_x ?_ | refine W.seq ?_ | refine W.region ?_ | refine W.ret ?_ | refine W.exit ?_) | ((with_reducible apply W.condF); exact rfl) | ((with_reducible apply Done.f); (intro hh hh2; exact (nomatch hh2)); (focus ((repeat' first | exact all_nil | apply all_cons | exact res_tmp rfl); done)); (focus ((repeat' first | exact all_nil | apply all_cons | exact retOf_s rfl); done)); exact rfl; (focus ((repeat' first | exact outs_nil | apply outs_d); done))) | (intro hb; try (exfalso; omega)) | ((with_reducible apply WR.lss); iterate 3 exact rfl)
    rw [List.take_of_length_le (by omega)] at hnot
    rw [show bitC L c = 0 from bitF_not hnot]
    rfl
theorem stB0 {p v : Bool} {n i : Nat} (h : i < n) : storeO 1 (.a (.d (.s (.bool v)))) i (.flat p (List.replicate n (S.bool false))) = some (.flat p (rowB n (gset (fun _ => false) i v))) := by
  rw [rowB_rep]; exact stB h
set_option maxRecDepth 20000 in
theorem shortestS_gives (l : IsLawn w h g cs) (hok : LawnOk w h g) (c : Cel) (hO : Opn w h g c.1 c.2) (hA : (ofKind w h g 0).length ≤ 9) (hB : (ofKind w h g 0).length + (ofKind w h g 3).length ≤ 16) : Gives G 449 [aa cs, ac c.1 c.2] (wayRes (shortW w h g (ofKind w h g 0) c)) := by
  have hs := hok.1
  have hs2 := hok.2.1
  have hs3 : w ≤ 10 ∧ h ≤ 10 := by omega
  have hsm := l02Small_gives l hok c hO hA hB
  have hgr := l01Cells_gives l 0 (by omega)
  have nd : (ofKind w h g 0).Nodup := (allC_nodup (h := h) (by omega)).filter _
  generalize ofKind w h g 0 = A at hA hgr nd ⊢
  have hbit := fun c => l02Bit_gives c hA
  have hbm := bitC_lt nd
  have hq0 := SInv.first (w := w) (h := h) (g := g) nd hO
  have hR : shortW w h g A c = srch (nxtW w h g A) (AllM A.length) lw 51200 [((c, bitC A c), [])] 0 := rfl
  have hk9 := pow_le9 hA
  have hk1 : 1 ≤ 2 ^ A.length := Nat.pow_pos (by decide)
  have hb0 := hbit c
  have hm0 := hbm c
  obtain ⟨K, hK⟩ : ∃ K : Nat, 2 ^ A.length = K := ⟨_, rfl⟩
  generalize shortW w h g A c = R at hR ⊢
  rw [hK] at hk9 hk1 hm0
  generalize bitC A c = m0 at hb0 hm0 hq0 hR
  have hcH : Has w h c.1 c.2 := hO.1
  simp only [Has] at hcH
  refine Gives.by rfl rfl (W.seq ?_)
  repeat' first | ((with_reducible apply WR.c_s (f := 459) (fn := Code.f459)); (iterate 3 exact rfl); exact rfl; (focus ((repeat' first | exact args_nil | apply args_d | exact toD_d rfl | exact toD_ptr rfl rfl | exact toD_slC rfl rfl (by first | exact rfl) | exact rfl); done)); exact hsm) | ((with_reducible apply WR.c_o (f := 29) (fn := Code.f29)); (iterate 3 exact rfl); exact rfl; (focus ((repeat' first | exact args_nil | apply args_d | exact toD_d rfl | exact toD_ptr rfl rfl | exact toD_slC rfl rfl (by first | exact rfl) | exact rfl); done)); exact hgr; (first | (focus ((repeat' first | (with_reducible apply noPar_set) | ((with_reducible apply noPar_puto); exact rfl) | (with_reducible apply noPar_kill) | exact rfl); done)) | exact rfl)) | ((with_reducible apply WH.c_s (f := 460) (fn := Code.f460)); (iterate 3 exact rfl); exact rfl; (focus ((repeat' first | exact args_nil | apply args_d | exact toD_d rfl | exact toD_ptr rfl rfl | exact toD_slC rfl rfl (by first | exact rfl) | exact rfl); done)); exact hb0; exact rfl) | ((with_reducible apply WR.shK hK); omega; iterate 3 exact rfl) | ((with_reducible apply WR.st); (iterate 3 exact rfl); exact storeAll List.length_replicate List.length_replicate) | ((with_reducible apply WH.bQ2); iterate 3 exact rfl) | ((with_reducible apply WR.bQ1); iterate 3 exact rfl) | ((with_reducible apply WH.st); (iterate 3 exact rfl); exact stB0 (by omega); exact rfl; exact rfl) | ((with_reducible first | apply WR.mv | apply WR.le | apply WR.bu); exact rfl; exact rfl) | ((with_reducible apply WH.ld); (iterate 3 exact rfl); (first | exact ld2 | exact ldM4); exact rfl) | ((with_reducible first | apply WH.lx | apply WH.mv | apply WH.fa | apply WR.neq); iterate 3 exact rfl) | ((with_reducible apply WH.ia); (iterate 3 exact rfl); omega; exact rfl) | ((with_reducible apply WR.ld); (iterate 3 exact rfl); (first | exact ld2 | exact ldM4)) | ((with_reducible apply WR.al); exact rfl; (first | (focus ((repeat' first | (with_reducible apply noPar_set) | ((with_reducible apply noPar_puto); exact rfl) | (with_reducible apply noPar_kill) | exact rfl); done)) | exact rfl)) | (with_reducible first | apply WR.nil | refine andThen_n ?_ | refine W.seq ?_ | refine W.region ?_ | refine W.skip ?_ | refine W.block ?_ | apply WH.nil | refine W.draw ?_) | ((with_reducible apply W.condF); exact rfl) | ((with_reducible apply WH.st); (iterate 3 exact rfl); exact stM2; exact rfl; exact rfl) | (intro hb; try (exfalso; omega)) | ((with_reducible apply WR.bx); exact rfl; exact rfl; exact (by first | exact IsLawn.len (by assumption) | exact rfl); (first | (focus ((repeat' first | (with_reducible apply noPar_set) | ((with_reducible apply noPar_puto); exact rfl) | (with_reducible apply noPar_kill) | exact rfl); done)) | exact rfl)) | ((with_reducible apply WR.cv); exact rfl; exact rfl; (first | exact i64_in _ (by omega) | exact u64_in _ (by omega))) | ((with_reducible apply WR.sb); (iterate 3 exact rfl); (first | exact i64_in _ (by omega) | exact u64_in _ (by omega))) | ((with_reducible apply WH.al); exact rfl; (first | (focus ((repeat' first | (with_reducible apply noPar_set) | ((with_reducible apply noPar_puto); exact rfl) | (with_reducible apply noPar_kill) | exact rfl); done)) | exact rfl); exact rfl; exact rfl)
  have hset : gset (fun _ => false) (0 + c.2.toNat * 5120 + c.1.toNat * 512 + ((m0 : Nat) : Int).toNat * 1) true = seenQ [((c, m0), [])] := by
    rw [show 0 + c.2.toNat * 5120 + c.1.toNat * 512 + ((m0 : Nat) : Int).toNat * 1 = kW (c, m0) by show _ = 5120 * c.2.toNat + 512 * c.1.toNat + m0; omega, ← seenQ_nil]
    exact seenQ_snoc [] (c, m0) []
  rw [hset]
  rw [rowB_rep 51200]
  generalize rowB 51200 (fun _ => false) = B0
  clear hb hsm hgr hb0 hset
  (refine (?_ : W _ (Code.loop _) _ _))
  (refine W.loopM [2, 7, 8, 9] [2, 22] [13, 15, 106, 107] (fun ((Q, i, n) : (List Stt) × (Nat) × (Nat)) => (n : Nat)) (fun ((Q, i, n) : (List Stt) × (Nat) × (Nat)) => (i ≤ Q.length ∧ R = srch (nxtW w h g A) (AllM A.length) lw n Q i ∧ n + i = 51200 ∧ SInv w h g A Q : Prop)) (fun z : (List Stt) × (Nat) × (Nat) => match z with | (Q, i, n) => [(11, .a (.sl 44 0 Q.length 4)), (12, .a (.d (.s (.int .i64 (i : Nat)))))]) (fun z : (List Stt) × (Nat) × (Nat) => match z with | (Q, i, n) => [(44, .flat false (encX sttC Q)), (9, .flat false (rowB 51200 (seenQ Q)))]) ([((c, m0), [])], 0, 51200) (⟨by simp, hR, rfl, hq0⟩) ⟨rfl, rfl, trivial⟩ ⟨rfl, rfl, trivial⟩ ⟨nm, nm, nm, nm, trivial⟩ ?_)
  rintro ⟨Q, i, n⟩ σ hP hN; dsimp only [setL, putL] at hP ⊢; obtain ⟨n13, hN⟩ := hN; obtain ⟨n15, hN⟩ := hN; obtain ⟨n106, hN⟩ := hN; obtain ⟨n107, hN⟩ := hN
  obtain ⟨hi, hRn, hni, hI⟩ := hP
  have hbd := hI.bound hs3 hA
  by_cases hil : i < Q.length
  · have hx := gQ_get hil
    have hxm : gQ Q i ∈ Q := List.mem_of_getElem? hx
    obtain ⟨n', rfl⟩ : ∃ n', n = n' + 1 := ⟨n - 1, by omega⟩
    have hfx := hI.fine (gQ Q i) hxm
    have hlx := hI.len (gQ Q i) hxm
    have hxH := hfx.1.1
    have hxb := hfx.2
    rw [hK] at hxb
    simp only [Has] at hxH
    have hstep := fun hg => srch_go (w := w) (h := h) (g := g) (L := A) (n := n') hx hg
    have hyes := fun hg => srch_yes (w := w) (h := h) (g := g) (L := A) (n := n') hx hg
    rw [hK] at hstep hyes
    repeat' first | ((with_reducible first | apply WR.mv | apply WR.lx | apply WR.fa | apply WR.le); exact rfl; exact rfl) | ((with_reducible apply WR.ld); (iterate 3 exact rfl); (first | exact ldQ (by first | omega))) | ((with_reducible apply WR.al); exact rfl; (assumption)) | ((with_reducible apply WR.st); (iterate 3 exact rfl); exact stM2) | (with_reducible first | apply WR.nil | refine andThen_n ?_ | refine andThen_r ?_ | refine inB_r ?_ | refine W.seq ?_ | refine W.region ?_ | refine W.skip ?_ | refine W.ret ?_ | refine W.block ?_) | ((with_reducible apply W.condT); exact rfl) | ((with_reducible apply W.condF); exact rfl) | ((with_reducible apply Done.f); (intro hh hh2; exact (nomatch hh2)); (focus ((repeat' first | exact all_nil | apply all_cons | exact res_tmp rfl); done)); (focus ((repeat' first | exact all_nil | apply all_cons | exact retOf_s rfl); done)); exact rfl; (focus ((repeat' first | exact outs_nil | apply outs_d); done))) | (intro hb; try (exfalso; omega)) | ((with_reducible first | apply WR.lss | apply WR.eql); iterate 3 exact rfl) | ((with_reducible apply WR.isn); (iterate 3 exact rfl); omega)
    · rw [hRn, hyes (by omega)]; rfl
    · rw [hstep (by omega)] at hRn
      clear hstep hyes
      generalize gQ Q i = x at hx hxm hfx hlx hxH hxb hRn ⊢
      have hex := fun j => SInv.exN nd hI (x := x) ⟨hfx.2, hlx⟩ j
      (refine (?_ : W _ (Code.loop _) _ _))
      (refine W.loopM [2, 7, 8, 9, 12, 13] [2, 13, 22] [13, 15, 106, 107] (fun ((j, E) : (Nat) × (List Stt)) => (4 - j : Nat)) (fun ((j, E) : (Nat) × (List Stt)) => (j ≤ 4 ∧ E = exN w h g A x Q j : Prop)) (fun z : (Nat) × (List Stt) => match z with | (j, E) => [(11, .a (.sl 44 0 E.length 4)), (14, .a (.d (.s (.int .i64 (j : Nat)))))]) (fun z : (Nat) × (List Stt) => match z with | (j, E) => [(44, .flat false (encX sttC E)), (9, .flat false (rowB 51200 (seenQ E)))]) (0, Q) (⟨by omega, rfl⟩) ⟨rfl, rfl, trivial⟩ ⟨rfl, rfl, trivial⟩ ⟨nm, nm, nm, nm, trivial⟩ ?_)
      rintro ⟨j, E⟩ σ hP hN; dsimp only [setL, putL] at hP ⊢; obtain ⟨n13, hN⟩ := hN; obtain ⟨n15, hN⟩ := hN; obtain ⟨n106, hN⟩ := hN; obtain ⟨n107, hN⟩ := hN
      obtain ⟨hj, hE⟩ := hP
      have hexj := hex j
      have hsu := exN_succ (w := w) (h := h) (g := g) (L := A) x Q j
      rw [← hE] at hexj hsu
      have hEb := hexj.1.bound hs3 hA
      have hEf := hexj.1.fineM hs3 hA
      by_cases hj4 : j < 4
      · have hnx := l02Next_gives x.1.1 j (by omega) (by omega)
        have hnb := Near_b (gC_mem (l := Near x.1.1.1 x.1.1.2) (k := ((j : Nat) : Int).toNat) (by show ((j : Nat) : Int).toNat < 4; omega))
        have hfr := l02Free_gives l hs3 (nx x.1.1 j).1 (nx x.1.1 j).2 (by unfold nx; omega)
        by_cases hOp : OpnS w h g x.1 j
        · have hno := expand_new (w := w) (h := h) (g := g) (L := A) (x := x) (Q := E) hOp
          have hyn := expand_in (w := w) (h := h) (g := g) (L := A) (x := x) (Q := E) (k := j)
          unfold OpnS at hOp
          unfold yS at hno hyn
          rw [decide_eq_true hOp] at hfr
          generalize nx x.1.1 j = e at hnx hfr hOp hno hyn
          have hbe := hbit e
          have hbb := hbm e
          have hmm : x.1.2 ||| bitC A e < K := by
            rw [← hK]; exact Nat.or_lt_two_pow hfx.2 hbb
          rw [hK] at hbb
          have heH := hOp.1
          simp only [Has] at heH
          generalize bitC A e = b at hbe hbb hmm hno hyn
          have had : 0 + e.2.toNat * 5120 + e.1.toNat * 512 + ((x.1.2 ||| b : Nat) : Int).toNat * 1 = kW (e, x.1.2 ||| b) := by
            show _ = 5120 * e.2.toNat + 512 * e.1.toNat + (x.1.2 ||| b)
            omega
          have hfm : FineM (e, x.1.2 ||| b) := ⟨by show 0 ≤ e.1 ∧ e.1 < 10 ∧ 0 ≤ e.2 ∧ e.2 < 10; omega, by show x.1.2 ||| b < 512; omega⟩
          have hkl := kW_lt hfm
          have hlb := ldB (f := seenQ E) hkl
          rw [seenQ_at hEf hfm, ← had] at hlb
          by_cases hin : (e, x.1.2 ||| b) ∈ E.map Prod.fst
          · rw [decide_eq_true hin] at hlb
            rw [hyn hin] at hsu
            replace hlb := fun _ : Unit => hlb
            repeat' first | ((with_reducible apply WR.c_a (f := 109) (fn := Code.f109)); (iterate 3 exact rfl); exact rfl; (focus ((repeat' first | exact args_nil | apply args_d | exact toD_d rfl | exact toD_ptr rfl rfl | exact toD_slC rfl rfl (by first | exact rfl | omega) | exact rfl); done)); exact hnx) | ((with_reducible apply WR.c_s (f := 108) (fn := Code.f108)); (iterate 3 exact rfl); exact rfl; (focus ((repeat' first | exact args_nil | apply args_d | exact toD_d rfl | exact toD_ptr rfl rfl | exact toD_slC rfl rfl (by first | exact rfl | omega) | exact rfl); done)); exact hfr) | ((with_reducible apply WH.c_s (f := 460) (fn := Code.f460)); (iterate 3 exact rfl); exact rfl; (focus ((repeat' first | exact args_nil | apply args_d | exact toD_d rfl | exact toD_ptr rfl rfl | exact toD_slC rfl rfl (by first | exact rfl | omega) | exact rfl); done)); exact hbe; exact rfl) | ((with_reducible apply WH.orM); (iterate 3 exact rfl); omega; omega) | ((with_reducible apply WH.ld); (iterate 3 exact rfl); (with_reducible exact hlb ()); exact rfl) | ((with_reducible apply WH.ld); iterate 5 exact rfl) | ((with_reducible first | apply WR.mv | apply WR.fa | apply WR.un); exact rfl; exact rfl) | ((with_reducible first | apply WH.mv | apply WH.fa | apply WR.lss); iterate 3 exact rfl) | ((with_reducible apply WH.ia); (iterate 3 exact rfl); omega; exact rfl) | ((with_reducible apply WR.ld); (iterate 3 exact rfl); (exact ld2)) | ((with_reducible apply WR.al); exact rfl; (first | assumption | exact rfl)) | ((with_reducible apply WR.st); (iterate 3 exact rfl); exact st2) | (with_reducible first | apply WR.nil | refine andThen_n ?_ | refine andThen_x ?_ | refine inB_x ?_ | refine W.seq ?_ | refine W.region ?_ | refine W.skip ?_ | refine W.exit ?_ | refine W.block ?_ | apply WH.nil | refine W.draw ?_) | ((with_reducible apply W.condT); exact rfl) | ((with_reducible apply W.condF); exact rfl) | (intro hb; try (exfalso; omega)) | ((with_reducible apply WR.ad); (iterate 3 exact rfl); (first | exact i64_in _ (by omega) | assumption))
            (refine W.nxt (j + 1, E) (by first | omega | (dsimp only; omega)) ?_ ⟨rfl, rfl, trivial⟩ ⟨rfl, rfl, trivial⟩ ⟨rfl, rfl, rfl, rfl, rfl, rfl, trivial⟩ ⟨rfl, rfl, rfl, trivial⟩ ⟨nm, nm, nm, nm, trivial⟩); (try dsimp only)
            exact ⟨by omega, hsu.symm⟩
          · rw [decide_eq_false hin] at hlb
            rw [hno hin] at hsu
            have hset2 := seenQ_snoc E (e, x.1.2 ||| b) (x.2 ++ [lw j])
            rw [← had] at hset2 hkl
            replace hlb := fun _ : Unit => hlb
            repeat' first | ((with_reducible apply WR.c_a (f := 109) (fn := Code.f109)); (iterate 3 exact rfl); exact rfl; (focus ((repeat' first | exact args_nil | apply args_d | exact toD_d rfl | exact toD_ptr rfl rfl | exact toD_slC rfl rfl (by first | exact rfl | omega) | exact rfl); done)); exact hnx) | ((with_reducible apply WR.c_s (f := 108) (fn := Code.f108)); (iterate 3 exact rfl); exact rfl; (focus ((repeat' first | exact args_nil | apply args_d | exact toD_d rfl | exact toD_ptr rfl rfl | exact toD_slC rfl rfl (by first | exact rfl | omega) | exact rfl); done)); exact hfr) | ((with_reducible apply WH.c_s (f := 460) (fn := Code.f460)); (iterate 3 exact rfl); exact rfl; (focus ((repeat' first | exact args_nil | apply args_d | exact toD_d rfl | exact toD_ptr rfl rfl | exact toD_slC rfl rfl (by first | exact rfl | omega) | exact rfl); done)); exact hbe; exact rfl) | ((with_reducible apply WH.orM); (iterate 3 exact rfl); omega; omega) | ((with_reducible apply WH.ld); (iterate 3 exact rfl); (with_reducible exact hlb ()); exact rfl) | ((with_reducible apply WH.ld); iterate 5 exact rfl) | ((with_reducible apply WH.st); (iterate 3 exact rfl); exact stB hkl; exact rfl; exact rfl) | ((with_reducible apply WH.slL hj4); iterate 4 exact rfl) | ((with_reducible apply WH.bQn); iterate 4 exact rfl) | ((with_reducible apply WH.bQ1); exact rfl; exact rfl; (first | assumption | (focus ((repeat' first | (with_reducible apply noPar_set) | ((with_reducible apply noPar_puto); exact rfl) | (with_reducible apply noPar_put) | (with_reducible apply noPar_kill) | ((with_reducible apply noPar_mix); exact rfl) | assumption | exact rfl); done)) | exact rfl); exact rfl; exact rfl) | ((with_reducible apply WH.apQ); (iterate 5 exact rfl); omega; exact rfl; (first | assumption | (focus ((repeat' first | (with_reducible apply noPar_set) | ((with_reducible apply noPar_puto); exact rfl) | (with_reducible apply noPar_put) | (with_reducible apply noPar_kill) | ((with_reducible apply noPar_mix); exact rfl) | assumption | exact rfl); done)) | exact rfl); exact rfl) | ((with_reducible first | apply WR.mv | apply WR.fa | apply WR.un); exact rfl; exact rfl) | ((with_reducible first | apply WH.mv | apply WH.fa | apply WR.lss); iterate 3 exact rfl) | ((with_reducible apply WH.ia); (iterate 3 exact rfl); omega; exact rfl) | ((with_reducible apply WR.ld); (iterate 3 exact rfl); (exact ld2)) | ((with_reducible apply WR.al); exact rfl; (first | assumption | (focus ((repeat' first | (with_reducible apply noPar_set) | ((with_reducible apply noPar_puto); exact rfl) | (with_reducible apply noPar_put) | (with_reducible apply noPar_kill) | ((with_reducible apply noPar_mix); exact rfl) | assumption | exact rfl); done)) | exact rfl)) | ((with_reducible apply WR.st); (iterate 3 exact rfl); exact st2) | (with_reducible first | apply WR.nil | refine andThen_n ?_ | refine inB_n ?_ | refine W.seq ?_ | refine W.region ?_ | refine W.skip ?_ | refine W.block ?_ | apply WH.nil | refine W.draw ?_) | ((with_reducible apply W.condT); exact rfl) | ((with_reducible apply W.condF); exact rfl) | (intro hb; try (exfalso; omega)) | ((with_reducible apply WR.ad); (iterate 3 exact rfl); (first | exact i64_in _ (by omega) | assumption)) | ((with_reducible apply WH.sad); (iterate 3 exact rfl); (first | omega | (simp only [List.length_append, List.length_cons, List.length_nil, List.length_map]; omega))) | ((with_reducible apply WH.ad); (iterate 3 exact rfl); (first | exact i64_in _ (by omega) | assumption))
            rw [hset2]
            (refine W.nxt (j + 1, E ++ [((e, x.1.2 ||| b), x.2 ++ [lw j])]) (by first | omega | (dsimp only; omega)) ?_ ⟨rfl, rfl, trivial⟩ ⟨rfl, rfl, trivial⟩ ⟨rfl, rfl, rfl, rfl, rfl, rfl, trivial⟩ ⟨rfl, rfl, rfl, trivial⟩ ⟨nm, nm, nm, nm, trivial⟩); (try dsimp only)
            exact ⟨by omega, hsu.symm⟩
        · have hyn := expand_no (w := w) (h := h) (g := g) (L := A) (x := x) (Q := E) hOp
          unfold OpnS at hOp
          rw [decide_eq_false hOp] at hfr
          rw [hyn] at hsu
          generalize nx x.1.1 j = e at hnx hfr
          repeat' first | ((with_reducible apply WR.c_a (f := 109) (fn := Code.f109)); (iterate 3 exact rfl); exact rfl; (focus ((repeat' first | exact args_nil | apply args_d | exact toD_d rfl | exact toD_ptr rfl rfl | exact rfl); done)); exact hnx) | ((with_reducible apply WR.c_s (f := 108) (fn := Code.f108)); (iterate 3 exact rfl); exact rfl; (focus ((repeat' first | exact args_nil | apply args_d | exact toD_d rfl | exact toD_ptr rfl rfl | exact rfl); done)); exact hfr) | ((with_reducible first | apply WR.mv | apply WR.fa | apply WR.un); exact rfl; exact rfl) | ((with_reducible apply WR.ld); (iterate 3 exact rfl); (exact ld2)) | ((with_reducible apply WR.al); exact rfl; (first | assumption | exact rfl)) | ((with_reducible apply WR.st); (iterate 3 exact rfl); exact st2) | (with_reducible first | apply WR.nil | refine andThen_n ?_ | refine andThen_x ?_ | refine inB_x ?_ | refine W.seq ?_ | refine W.region ?_ | refine W.skip ?_ | refine W.exit ?_ | refine W.block ?_) | ((with_reducible apply W.condT); exact rfl) | (intro hb; try (exfalso; omega)) | ((with_reducible apply WR.lss); iterate 3 exact rfl) | ((with_reducible apply WR.ad); (iterate 3 exact rfl); (first | exact i64_in _ (by omega) | assumption))
          (refine W.nxt (j + 1, E) (by first | omega | (dsimp only; omega)) ?_ ⟨rfl, rfl, trivial⟩ ⟨rfl, rfl, trivial⟩ ⟨rfl, rfl, rfl, rfl, rfl, rfl, trivial⟩ ⟨rfl, rfl, rfl, trivial⟩ ⟨nm, nm, nm, nm, trivial⟩); (try dsimp only)
          exact ⟨by omega, hsu.symm⟩
      · obtain rfl : j = 4 := by omega
        repeat' first | ((with_reducible apply WR.mv); exact rfl; exact rfl) | (with_reducible first | apply WR.nil | refine andThen_n ?_ | refine andThen_x ?_ | refine inB_n ?_ | refine inB_x ?_ | refine W.seq ?_ | refine W.region ?_ | refine W.exit ?_) | ((with_reducible apply W.condF); exact rfl) | (intro hb; try (exfalso; omega)) | ((with_reducible apply WR.lss); iterate 3 exact rfl) | ((with_reducible apply WR.ad); (iterate 3 exact rfl); (exact i64_in _ (by omega)))
        (refine W.nxt (E, i + 1, n') (by first | omega | (dsimp only; omega)) ?_ ⟨rfl, rfl, trivial⟩ ⟨rfl, rfl, trivial⟩ ⟨rfl, rfl, rfl, rfl, trivial⟩ ⟨rfl, rfl, trivial⟩ ⟨nm, nm, nm, nm, trivial⟩); (try dsimp only)
        exact ⟨by omega, by rw [hRn, hE], by omega, hexj.1⟩
  · repeat' first | ((with_reducible first | apply WR.mv | apply WR.le); exact rfl; exact rfl) | (with_reducible first | apply WR.nil | refine andThen_n ?_ | refine andThen_x ?_ | refine inB_x ?_ | refine W.seq ?_ | refine W.region ?_ | refine W.ret ?_ | refine W.exit ?_) | ((with_reducible apply W.condF); exact rfl) | ((with_reducible apply Done.f); (intro hh hh2; exact (nomatch hh2)); (focus ((repeat' first | exact all_nil | apply all_cons | exact res_tmp rfl); done)); (focus ((repeat' first | exact all_nil | apply all_cons | exact retOf_s rfl); done)); exact rfl; (focus ((repeat' first | exact outs_nil | apply outs_d); done))) | (intro hb; try (exfalso; omega)) | ((with_reducible apply WR.lss); iterate 3 exact rfl)
    rw [hRn, srch_end (by omega)]; rfl
end Go.DM
