/- Numbers drawn from bytes: next, pick, one; a lawn that is drawn. -/
import Derived.Test.YtgbifpijjfolbaaGreatK441All
import Derived.Test.YtgbifpijjfolbaaGreatK441More
set_option linter.all false
set_option maxHeartbeats 4000000
namespace Go.DM
variable [Tok]
open Go.IntWalk
section
variable {Γ : Nat → Option Fn} {dsts : Nat → Option Nat} {ops : List Oper} {Q : St → Prop} {σ : St} {d : Option Nat} {g : Option (Nat × Bool)} {l1 l2 l3 l4 : List Nat}
theorem WH.c_ws {f e : Nat} {xs : List Opd} {fn : Fn} {as : List Arg} {b : S} {outs : List (List S)} {ps : List (Nat × Ob)} (hw : wanted dsts (kill l1 (only l3 σ)).env g = some true) (hΓ : Γ f = some fn)
    (hn : nodup (mutIds fn.muts (xs.map (ev (kill l1 (only l3 σ)).env))) = true) (ha : args (kill l1 (only l3 σ)) (mutIds fn.muts (xs.map (ev (kill l1 (only l3 σ)).env))) fn.muts (xs.map (ev (kill l1 (only l3 σ)).env)) = some as) (hg : Gives Γ f as ⟨[.s b], outs⟩) (hb : backs (kill l1 (only l3 σ)) fn.muts (xs.map (ev (kill l1 (only l3 σ)).env)) outs = some ps)
    (hi : ps.all (fun p => l2.contains p.1) = true) (ho : ps.map (fun p => (p.1, killO l1 p.2)) = ps)
    (k : WH Γ dsts ops Q (set (some e) (.a (.d (.s b))) (insertAll ps σ))) : WH Γ dsts (⟨some e, .call f xs, g, l1, l2, l3, l4⟩ :: ops) Q σ := by
  refine WH.call (d := e) (v := .a (.d (.s b))) (ps := ps) (ns := []) (vs := xs.map (ev (kill l1 (only l3 σ)).env)) hw rfl rfl hΓ hn ha hg hb rfl rfl rfl (by simpa using hi) rfl rfl (by simpa using ho) ?_
  simp only [List.append_nil, List.map_nil, kill_nil]
  exact k
def gT (s : List UInt8) (n : Nat) : Int := ((s.getD n 0).toNat : Nat)
theorem gT_bound (s : List UInt8) (n : Nat) : 0 ≤ gT s n ∧ gT s n ≤ 255 := by
  have := (s.getD n 0).toNat_lt
  unfold gT
  omega
theorem ldT {s : List UInt8} {n : Nat} (h : n < s.length) : loadC 1 false (u8s s) n = some (.a (.d (.s (.int .u8 (gT s n))))) := by
  have hl : (u8s s).length = s.length := by simp [u8s]
  unfold loadC
  rw [if_pos (by omega), List.drop_eq_getElem_cons (by omega)]
  simp [u8s, ofCells, sv, gT, List.getD_eq_getElem?_getD, h]
theorem WH.it {i : Nat} {a j : Opd} {k : IntKind} {n : Nat} (hw : wanted dsts (kill l1 (only l3 σ)).env g = some true) (ha : ev (kill l1 (only l3 σ)).env a = .a (.d (.s (.tok i)))) (hi : ev (kill l1 (only l3 σ)).env j = .a (.d (.s (.int k (n : Nat))))) (hb : n < (Tok.dat i).length)
    (K : WH Γ dsts ops Q (set d (.a (.dptr (u8s (Tok.dat i)) n)) σ)) : WH Γ dsts (⟨d, .idxs 1 a j, g, l1, l2, l3, l4⟩ :: ops) Q σ :=
  WH.q hw (by simp only [veil, quiet, ha, hi, idxs, asI, Option.bind_some]; rw [if_neg (by omega), if_pos ⟨by omega, trivial⟩]; rfl) rfl K
theorem WR.mlu {a b : Opd} {x y : Int} (hw : wanted dsts σ.env g = some true) (ha : ev σ.env a = .a (.d (.s (.int .u64 x)))) (hb : ev σ.env b = .a (.d (.s (.int .u64 y))))
    (K : WR Γ dsts ops Q (set d (.a (.d (.s (.int .u64 (IntKind.u64.wrap (x * y)))))) σ)) : WR Γ dsts (⟨d, .bin .mul a b, g, l1, l2, l3, l4⟩ :: ops) Q σ :=
  WR.q hw (by simp only [quiet, ha, hb, bin, isShift, intBin, sv]; rfl) K
theorem WR.adu {a b : Opd} {x y : Int} (hw : wanted dsts σ.env g = some true) (ha : ev σ.env a = .a (.d (.s (.int .u64 x)))) (hb : ev σ.env b = .a (.d (.s (.int .u64 y))))
    (K : WR Γ dsts ops Q (set d (.a (.d (.s (.int .u64 (IntKind.u64.wrap (x + y)))))) σ)) : WR Γ dsts (⟨d, .bin .add a b, g, l1, l2, l3, l4⟩ :: ops) Q σ :=
  WR.q hw (by simp only [quiet, ha, hb, bin, isShift, intBin, sv]; rfl) K
def sh40 (x : Int) : Int := x.fdiv (2 ^ 40)
theorem WR.shu {a b : Opd} {x : Int} (hw : wanted dsts σ.env g = some true) (ha : ev σ.env a = .a (.d (.s (.int .u64 x)))) (hb : ev σ.env b = .a (.d (.s (.int .u64 40))))
    (K : WR Γ dsts ops Q (set d (.a (.d (.s (.int .u64 (sh40 x))))) σ)) : WR Γ dsts (⟨d, .bin .shr a b, g, l1, l2, l3, l4⟩ :: ops) Q σ :=
  WR.q hw (by simp only [quiet, ha, hb, bin, isShift, shiftBin, sv]; rfl) K
def lo8 (x : Int) : Int := IntKind.u64.wrap ((BitVec.ofInt IntKind.u64.bits x &&& BitVec.ofInt IntKind.u64.bits 255).toNat : Nat)
theorem WR.anu {a b : Opd} {x : Int} (hw : wanted dsts σ.env g = some true) (ha : ev σ.env a = .a (.d (.s (.int .u64 x)))) (hb : ev σ.env b = .a (.d (.s (.int .u64 255))))
    (K : WR Γ dsts ops Q (set d (.a (.d (.s (.int .u64 (lo8 x))))) σ)) : WR Γ dsts (⟨d, .bin .and a b, g, l1, l2, l3, l4⟩ :: ops) Q σ :=
  WR.q hw (by simp only [quiet, ha, hb, bin, isShift, intBin, sv]; rfl) K
theorem WR.rmi {a b : Opd} {x y : Int} (hw : wanted dsts σ.env g = some true) (ha : ev σ.env a = .a (.d (.s (.int .i64 x)))) (hb : ev σ.env b = .a (.d (.s (.int .i64 y)))) (hy : y ≠ 0)
    (K : WR Γ dsts ops Q (set d (.a (.d (.s (.int .i64 (x.tmod y))))) σ)) : WR Γ dsts (⟨d, .bin .rem a b, g, l1, l2, l3, l4⟩ :: ops) Q σ :=
  WR.q hw (by simp only [quiet, ha, hb, bin, isShift, intBin, sv]; simp [hy, sv]) K
end
theorem lo8_bound (x : Int) : 0 ≤ lo8 x ∧ lo8 x ≤ 255 := by
  have h1 : (BitVec.ofInt IntKind.u64.bits x &&& BitVec.ofInt IntKind.u64.bits 255).toNat ≤ 255 := by
    rw [BitVec.toNat_and]
    exact Nat.le_trans Nat.and_le_right (by decide)
  have h2 : lo8 x = ((BitVec.ofInt IntKind.u64.bits x &&& BitVec.ofInt IntKind.u64.bits 255).toNat : Nat) := u64_in _ (by omega)
  omega
def srcC (i n : Nat) (seed : Int) : List S := [.tok i, .int .i64 (n : Nat), .int .u64 seed]
def nxtB (s : List UInt8) (n : Nat) : Int := if n < s.length then gT s n else 0
def nxtS (s : List UInt8) (n : Nat) (seed : Int) : Int := IntKind.u64.wrap (IntKind.u64.wrap (IntKind.u64.wrap (seed * 6364136223846793005) + nxtB s n) + 1442695040888963407)
def nxtV (s : List UInt8) (n : Nat) (seed : Int) : Int := if n + 1 ≤ s.length then nxtB s n else lo8 (sh40 (nxtS s n seed))
theorem nxtB_bound (s : List UInt8) (n : Nat) : 0 ≤ nxtB s n ∧ nxtB s n ≤ 255 := by
  have := gT_bound s n
  unfold nxtB; split <;> omega
theorem nxtV_bound (s : List UInt8) (n : Nat) (seed : Int) : 0 ≤ nxtV s n seed ∧ nxtV s n seed ≤ 255 := by
  have := nxtB_bound s n
  have := lo8_bound (sh40 (nxtS s n seed))
  unfold nxtV; split <;> omega
theorem next_gives (i n : Nat) (seed : Int) (hn : n ≤ 1000000000) (hl : (Tok.dat i).length ≤ 1000000000) : Gives G 379 [.mp (srcC i n seed)] ⟨[.s (.int .i64 (nxtV (Tok.dat i) n seed))], [srcC i (n + 1) (nxtS (Tok.dat i) n seed)]⟩ := by
  have hg := gT_bound (Tok.dat i) n
  refine Gives.by rfl rfl (W.seq ?_)
  by_cases h : n < (Tok.dat i).length
  · have eS : nxtS (Tok.dat i) n seed = IntKind.u64.wrap (IntKind.u64.wrap (IntKind.u64.wrap (seed * 6364136223846793005) + gT (Tok.dat i) n) + 1442695040888963407) := by simp only [nxtS, nxtB, if_pos h]
    have eV : nxtV (Tok.dat i) n seed = gT (Tok.dat i) n := by simp only [nxtV, nxtB, if_pos h]; rw [if_pos (by omega)]
    rw [eS, eV]
    repeat' first | ((with_reducible apply WH.it); (iterate 3 exact rfl); exact h) | ((with_reducible apply WH.ldd); exact rfl; exact rfl; exact ldT h; exact rfl) | ((with_reducible apply WR.mlu); iterate 3 exact rfl) | ((with_reducible apply WR.adu); iterate 3 exact rfl) | ((with_reducible first | apply WR.mv | apply WR.fa | apply WR.nc | apply WR.lx); exact rfl; exact rfl) | ((with_reducible first | apply WH.mv | apply WH.lx | apply WH.fa | apply WH.nc | apply WH.le | apply WH.lss | apply WH.leq); iterate 3 exact rfl) | ((with_reducible apply WR.ad); (iterate 3 exact rfl); (first | exact i64_in _ (by omega) | exact u64_in _ (by omega))) | (with_reducible first | apply WR.nil | refine andThen_n ?_ | refine andThen_r ?_ | refine W.seq ?_ | refine W.region ?_ | refine W.ret ?_ | apply WH.nil | refine W.draw ?_) | ((with_reducible apply W.condT); exact rfl) | ((with_reducible apply Done.f); (intro hh hh2; exact (nomatch hh2)); (focus ((repeat' first | exact all_nil | apply all_cons | exact res_tmp rfl | exact rfl); done)); (focus ((repeat' first | exact all_nil | apply all_cons | exact retOf_s rfl | exact rfl); done)); exact rfl; (focus ((repeat' first | exact outs_nil | (apply outs_mp; exact rfl; exact (by first | exact rfl)) | exact rfl); done))) | (intro hb; try (exfalso; omega)) | ((with_reducible apply WR.cv); exact rfl; exact rfl; (first | exact i64_in _ (by omega) | exact u64_in _ (by omega))) | ((with_reducible apply WR.st); iterate 4 exact rfl) | ((with_reducible apply WH.cv); exact rfl; exact rfl; (first | exact i64_in _ (by omega) | exact u64_in _ (by omega)))
    all_goals rfl
  · have eS : nxtS (Tok.dat i) n seed = IntKind.u64.wrap (IntKind.u64.wrap (IntKind.u64.wrap (seed * 6364136223846793005) + 0) + 1442695040888963407) := by simp only [nxtS, nxtB, if_neg h]
    have eV : nxtV (Tok.dat i) n seed = lo8 (sh40 (nxtS (Tok.dat i) n seed)) := by simp only [nxtV]; rw [if_neg (by omega)]
    rw [eV, eS]
    have hlo := lo8_bound (sh40 (IntKind.u64.wrap (IntKind.u64.wrap (IntKind.u64.wrap (seed * 6364136223846793005) + 0) + 1442695040888963407)))
    repeat' first | ((with_reducible apply WR.mlu); iterate 3 exact rfl) | ((with_reducible apply WR.adu); iterate 3 exact rfl) | ((with_reducible apply WR.shu); iterate 3 exact rfl) | ((with_reducible apply WR.anu); iterate 3 exact rfl) | ((with_reducible first | apply WR.mv | apply WR.fa | apply WR.nc | apply WR.lx); exact rfl; exact rfl) | ((with_reducible first | apply WH.mv | apply WH.lx | apply WH.fa | apply WH.nc | apply WH.le | apply WH.lss | apply WH.leq); iterate 3 exact rfl) | ((with_reducible apply WR.ad); (iterate 3 exact rfl); (first | exact i64_in _ (by omega) | exact u64_in _ (by omega))) | (with_reducible first | apply WR.nil | refine andThen_n ?_ | refine W.seq ?_ | refine W.region ?_ | refine W.skip ?_ | refine W.ret ?_ | apply WH.nil | refine W.draw ?_) | ((with_reducible apply W.condF); exact rfl) | ((with_reducible apply Done.f); (intro hh hh2; exact (nomatch hh2)); (focus ((repeat' first | exact all_nil | apply all_cons | exact res_tmp rfl | exact rfl); done)); (focus ((repeat' first | exact all_nil | apply all_cons | exact retOf_s rfl | exact rfl); done)); exact rfl; (focus ((repeat' first | exact outs_nil | (apply outs_mp; exact rfl; exact (by first | exact rfl)) | exact rfl); done))) | (intro hb; try (exfalso; omega)) | ((with_reducible apply WR.cv); exact rfl; exact rfl; (first | exact i64_in _ (by omega) | exact u64_in _ (by omega))) | ((with_reducible apply WR.st); iterate 4 exact rfl)
    all_goals rfl
theorem tmod_bound {x n : Int} (hx : 0 ≤ x) (hn : 0 < n) : 0 ≤ x.tmod n ∧ x.tmod n < n :=
  ⟨Int.tmod_nonneg _ hx, Int.tmod_lt_of_pos _ hn⟩
theorem pick_gives (i n : Nat) (seed m : Int) (hn : n ≤ 1000000000) (hl : (Tok.dat i).length ≤ 1000000000) (hm : m ≤ 200) :
    ∃ (r : Int) (n' : Nat) (seed' : Int), 0 ≤ r ∧ (m ≤ 1 → r = 0) ∧ (1 ≤ m → r < m) ∧ n' ≤ n + 1 ∧ Gives G 377 [.mp (srcC i n seed), ai .i64 m] ⟨[.s (.int .i64 r)], [srcC i n' seed']⟩ := by
  by_cases h : m ≤ 1
  · refine ⟨0, n, seed, by omega, fun _ => rfl, fun _ => by omega, by omega, ?_⟩
    refine Gives.by rfl rfl (W.seq ?_)
    repeat' first | ((with_reducible apply WR.mv); exact rfl; exact rfl) | (with_reducible first | apply WR.nil | refine andThen_n ?_ | refine andThen_r ?_ | refine W.seq ?_ | refine W.region ?_ | refine W.ret ?_) | ((with_reducible apply W.condT); exact rfl) | ((with_reducible apply Done.f); (intro hh hh2; exact (nomatch hh2)); (focus ((repeat' first | exact all_nil | apply all_cons | exact res_tmp rfl); done)); (focus ((repeat' first | exact all_nil | apply all_cons | exact retOf_s rfl); done)); exact rfl; (focus ((repeat' first | exact outs_nil | apply outs_d | (apply outs_mp; exact rfl; exact (by first | (simp only [grid_len, gridB_len, encC_length, encI_length, List.length_set]; done)))); done))) | (intro hb; try (exfalso; omega)) | ((with_reducible apply WR.leq); iterate 3 exact rfl)
    all_goals first | rfl | (exfalso; omega)
  · have hv := nxtV_bound (Tok.dat i) n seed
    have hb := tmod_bound (x := nxtV (Tok.dat i) n seed) (n := m) hv.1 (by omega)
    refine ⟨_, n + 1, nxtS (Tok.dat i) n seed, hb.1, fun _ => by omega, fun _ => hb.2, by omega, ?_⟩
    refine Gives.by rfl rfl (W.seq ?_)
    repeat' first | ((with_reducible apply WR.c_ws (f := 379) (fn := Code.f379)); (iterate 3 exact rfl); (focus ((repeat' first | exact args_nil | (apply args_p; exact rfl; exact rfl) | exact all_nil | apply all_cons | exact rfl); done)); exact next_gives i n seed hn hl; (focus ((repeat' first | exact backs_nil | (apply backs_p; exact rfl; exact rfl; exact (by first | exact rfl)) | exact rfl); done)); dsimp only [insertAll]) | ((with_reducible apply WR.rmi); (iterate 3 exact rfl); omega) | ((with_reducible apply WR.mv); exact rfl; exact rfl) | (with_reducible first | apply WR.nil | refine andThen_n ?_ | refine W.seq ?_ | refine W.region ?_ | refine W.skip ?_ | refine W.ret ?_) | ((with_reducible apply W.condF); exact rfl) | ((with_reducible apply Done.f); (intro hh hh2; exact (nomatch hh2)); (focus ((repeat' first | exact all_nil | apply all_cons | exact res_tmp rfl | exact rfl); done)); (focus ((repeat' first | exact all_nil | apply all_cons | exact retOf_s rfl | exact rfl); done)); exact rfl; (focus ((repeat' first | exact outs_nil | apply outs_d | (apply outs_mp; exact rfl; exact (by first | exact rfl)) | exact rfl); done))) | (intro hb; try (exfalso; omega)) | ((with_reducible first | apply WR.leq | apply WR.gtr); iterate 3 exact rfl)
    all_goals first | rfl | (exfalso; omega)
theorem one_gives (i n : Nat) (seed m : Int) (hn : n ≤ 1000000000) (hl : (Tok.dat i).length ≤ 1000000000) (hm : m ≤ 200) :
    ∃ (r : Bool) (n' : Nat) (seed' : Int), n' ≤ n + 1 ∧ Gives G 378 [.mp (srcC i n seed), ai .i64 m] ⟨[.s (.bool r)], [srcC i n' seed']⟩ := by
  obtain ⟨r, n', seed', h1, h2, h3, h4, h5⟩ := pick_gives i n seed m hn hl hm
  refine ⟨decide (r = 0), n', seed', h4, ?_⟩
  refine Gives.by rfl rfl (W.seq ?_)
  repeat' first | ((with_reducible apply WR.c_ws (f := 377) (fn := Code.f377)); (iterate 3 exact rfl); (focus ((repeat' first | exact args_nil | apply args_d | (apply args_p; exact rfl; exact rfl) | exact toD_d rfl | exact all_nil | apply all_cons | exact rfl); done)); exact h5; (focus ((repeat' first | exact backs_no | (apply backs_p; exact rfl; exact rfl; exact (by first | exact rfl)) | exact rfl); done)); dsimp only [insertAll]) | ((with_reducible apply WR.mv); exact rfl; exact rfl) | (with_reducible first | apply WR.nil | refine andThen_n ?_ | refine W.seq ?_ | refine W.region ?_ | refine W.ret ?_) | ((with_reducible apply Done.f); (intro hh hh2; exact (nomatch hh2)); (focus ((repeat' first | exact all_nil | apply all_cons | exact res_tmp rfl | exact rfl); done)); (focus ((repeat' first | exact all_nil | apply all_cons | exact retOf_s rfl | exact rfl); done)); exact rfl; (focus ((repeat' first | exact outs_nil | apply outs_d | (apply outs_mp; exact rfl; exact (by first | exact rfl)) | exact rfl); done))) | (intro hb; try (exfalso; omega)) | ((with_reducible apply WR.eql); iterate 3 exact rfl)
  · rw [decide_eq_true (by assumption)]; rfl
  · rw [decide_eq_false (by assumption)]; rfl
theorem from_gives (i : Nat) : Gives G 375 [.d (.s (.tok i))] ⟨[.ownp (srcC i 0 0)], []⟩ := by
  refine Gives.by rfl rfl (W.seq ?_)
  repeat' first | ((with_reducible first | apply WR.mv | apply WR.bu); exact rfl; exact rfl) | (with_reducible first | apply WR.nil | refine andThen_n ?_ | refine W.seq ?_ | refine W.region ?_ | refine W.ret ?_) | ((with_reducible apply Done.f); (intro hh hh2; exact (nomatch hh2)); (focus ((repeat' first | exact all_nil | apply all_cons | exact res_tmp rfl | exact rfl); done)); (focus ((repeat' first | exact all_nil | apply all_cons | exact rfl); done)); exact rfl; (focus ((repeat' first | exact outs_nil | apply outs_d | exact rfl); done))) | ((with_reducible apply WR.bx); exact rfl; exact rfl; exact (by first | exact rfl); exact rfl)
  rfl
section
variable {Γ : Nat → Option Fn} {dsts : Nat → Option Nat} {ops : List Oper} {Q : St → Prop} {σ : St} {d : Option Nat} {g : Option (Nat × Bool)} {l1 l2 l3 l4 : List Nat}
theorem WR.c_wa {f e : Nat} {xs : List Opd} {fn : Fn} {as : List Arg} {b : List S} {outs : List (List S)} {ps : List (Nat × Ob)} (hw : wanted dsts σ.env g = some true) (hΓ : Γ f = some fn)
    (hn : nodup (mutIds fn.muts (xs.map (ev σ.env))) = true) (ha : args σ (mutIds fn.muts (xs.map (ev σ.env))) fn.muts (xs.map (ev σ.env)) = some as) (hg : Gives Γ f as ⟨[.agg b], outs⟩) (hb : backs σ fn.muts (xs.map (ev σ.env)) outs = some ps)
    (k : WR Γ dsts ops Q (set (some e) (.a (.d (.agg b))) (insertAll ps σ))) : WR Γ dsts (⟨some e, .call f xs, g, l1, l2, l3, l4⟩ :: ops) Q σ := by
  refine WR.call (d := e) (v := .a (.d (.agg b))) (ps := ps) (ns := []) hw rfl rfl hΓ hn ha hg hb rfl rfl rfl ?_
  simp only [List.append_nil, List.map_nil, kill_nil]
  exact k
theorem WH.c_wa {f e : Nat} {xs : List Opd} {fn : Fn} {as : List Arg} {b : List S} {outs : List (List S)} {ps : List (Nat × Ob)} (hw : wanted dsts (kill l1 (only l3 σ)).env g = some true) (hΓ : Γ f = some fn)
    (hn : nodup (mutIds fn.muts (xs.map (ev (kill l1 (only l3 σ)).env))) = true) (ha : args (kill l1 (only l3 σ)) (mutIds fn.muts (xs.map (ev (kill l1 (only l3 σ)).env))) fn.muts (xs.map (ev (kill l1 (only l3 σ)).env)) = some as) (hg : Gives Γ f as ⟨[.agg b], outs⟩) (hb : backs (kill l1 (only l3 σ)) fn.muts (xs.map (ev (kill l1 (only l3 σ)).env)) outs = some ps)
    (hi : ps.all (fun p => l2.contains p.1) = true) (ho : ps.map (fun p => (p.1, killO l1 p.2)) = ps)
    (k : WH Γ dsts ops Q (set (some e) (.a (.d (.agg b))) (insertAll ps σ))) : WH Γ dsts (⟨some e, .call f xs, g, l1, l2, l3, l4⟩ :: ops) Q σ := by
  refine WH.call (d := e) (v := .a (.d (.agg b))) (ps := ps) (ns := []) (vs := xs.map (ev (kill l1 (only l3 σ)).env)) hw rfl rfl hΓ hn ha hg hb rfl rfl rfl (by simpa using hi) rfl rfl (by simpa using ho) ?_
  simp only [List.append_nil, List.map_nil, kill_nil]
  exact k
theorem WR.c_n {f e : Nat} {xs : List Opd} {fn : Fn} {as : List Arg} {b0 : List S} (hw : wanted dsts σ.env g = some true) (hΓ : Γ f = some fn) (hn : mutIds fn.muts (xs.map (ev σ.env)) = []) (hb : backs σ fn.muts (xs.map (ev σ.env)) [] = some []) (ha : args σ [] fn.muts (xs.map (ev σ.env)) = some as) (hg : Gives Γ f as ⟨[.ownp b0], []⟩) (hp : noPar σ [e] = true)
    (k : WR Γ dsts ops Q (set (some e) (.a (.ptr e 0)) (put e (.flat false b0) (kill [e] σ)))) : WR Γ dsts (⟨some e, .call f xs, g, l1, l2, l3, l4⟩ :: ops) Q σ := by
  refine WR.call (d := e) (v := .a (.ptr e 0)) (ps := []) (ns := [(e, .flat false b0)]) hw rfl rfl hΓ (by rw [hn]; rfl) (by rw [hn]; exact ha) hg hb rfl rfl hp ?_
  simp only [List.nil_append, List.append_nil, List.map_nil, List.map_cons, insertAll, kill_nil]
  exact k
theorem WH.c_n {f e : Nat} {xs : List Opd} {fn : Fn} {as : List Arg} {b0 : List S} (hw : wanted dsts (kill l1 (only l3 σ)).env g = some true) (hΓ : Γ f = some fn) (hn : mutIds fn.muts (xs.map (ev (kill l1 (only l3 σ)).env)) = []) (hb : backs (kill l1 (only l3 σ)) fn.muts (xs.map (ev (kill l1 (only l3 σ)).env)) [] = some []) (ha : args (kill l1 (only l3 σ)) [] fn.muts (xs.map (ev (kill l1 (only l3 σ)).env)) = some as) (hg : Gives Γ f as ⟨[.ownp b0], []⟩) (hp : noPar σ [e] = true) (hi : ([e] : List Nat).all l2.contains = true) (hv : killV l1 (.a (.ptr e 0)) = .a (.ptr e 0))
    (k : WH Γ dsts ops Q (set (some e) (.a (.ptr e 0)) (put e (.flat false b0) (kill [e] σ)))) : WH Γ dsts (⟨some e, .call f xs, g, l1, l2, l3, l4⟩ :: ops) Q σ := by
  refine WH.call (d := e) (v := .a (.ptr e 0)) (ps := []) (ns := [(e, .flat false b0)]) (vs := xs.map (ev (kill l1 (only l3 σ)).env)) hw rfl rfl hΓ (by rw [hn]; rfl) (by rw [hn]; exact ha) hg hb rfl rfl hp (by simpa using hi) (by simpa using hi) hv rfl ?_
  simp only [List.nil_append, List.append_nil, List.map_nil, List.map_cons, insertAll, kill_nil]
  exact k
end
def DoneP (fn : Fn) (as : List Arg) (P : Res → Prop) (e : Ex) (σ : St) : Prop := ∃ r, P r ∧ Done fn as r e σ
theorem DoneP.mk {fn : Fn} {as : List Arg} {P : Res → Prop} {e : Ex} {σ : St} {r : Res} (h : Done fn as r e σ) (hp : P r) : DoneP fn as P e σ := ⟨r, hp, h⟩
theorem GivesP.by {Γ : Nat → Option Fn} {f : Nat} {fn : Fn} {as : List Arg} {P : Res → Prop} (hf : Γ f = some fn) (hm : (fn.given.isNone && marked fn.muts as) = true) (h : W Γ fn.body (DoneP fn as P) (enter as)) : ∃ r, P r ∧ Gives Γ f as r := by
  obtain ⟨n, e, σ', hx, r, hP, hD⟩ := h
  exact ⟨r, hP, Gives.by hf hm ⟨n, e, σ', hx, hD⟩⟩
def lwn (w h : Int) (q : Nat → Int) : List S := [.int .i8 w, .int .i8 h] ++ grid .u8 q
theorem isLwn (w h : Int) (q : Nat → Int) (hw : -128 ≤ w ∧ w ≤ 127) (hh : -128 ≤ h ∧ h ≤ 127) (hq : ∀ k, k < 100 → 0 ≤ q k ∧ q k ≤ 255) : IsLawn w h q (lwn w h q) :=
  ⟨hw, hh, hq, by simp [lwn, grid_len], rfl, rfl, fun k hk => by
    unfold lwn
    rw [List.getElem?_append_right (by simp)]
    simpa using grid_get hk⟩
theorem stLw {p : Bool} {w h : Int} {q : Nat → Int} {x y n : Int} (hb : 0 ≤ x ∧ x < 10 ∧ 0 ≤ y ∧ y < 10) : storeO 1 (.a (.d (.s (.int .u8 n)))) (0 + 2 + y.toNat * 10 + x.toNat * 1) (.flat p (lwn w h q)) = some (.flat p (lwn w h (gset q (10 * y.toNat + x.toNat) n))) := by
  rw [storeAt (k := 2 + (10 * y.toNat + x.toNat)) (by simp [lwn, grid_len]; omega) (by omega)]
  unfold lwn
  rw [← grid_set (k := .u8) (q := q) n (show 10 * y.toNat + x.toNat < 100 by omega)]
  rw [List.set_append_right _ _ (by simp)]
  congr 5
  simp
def kindsOk (w h : Int) (q : Nat → Int) : Prop := ∀ k, k < 100 → 0 ≤ q k ∧ cellOk w h q k
theorem kindsOk.set {w h : Int} {q : Nat → Int} (hq : kindsOk w h q) {x y n : Int} (hb : 0 ≤ x ∧ x < w ∧ 0 ≤ y ∧ y < h) (hw : w ≤ 10) (hn : 0 ≤ n ∧ n ≤ 3) : kindsOk w h (gset q (10 * y.toNat + x.toNat) n) := by
  intro k hk
  have h0 := hq k hk
  simp only [cellOk, gset] at h0 ⊢
  split
  · rename_i e
    subst e
    omega
  · exact h0
theorem drawn_gives (i n0 : Nat) (seed0 : Int) (hn : n0 ≤ 1000) (hl : (Tok.dat i).length ≤ 1000000000) :
    ∃ (w h : Int) (q : Nat → Int) (n' : Nat) (seed' : Int), 1 ≤ w ∧ w ≤ 6 ∧ 1 ≤ h ∧ h ≤ 6 ∧ kindsOk w h q ∧ n' ≤ n0 + 300 ∧ Gives G 374 [.mp (srcC i n0 seed0)] ⟨[.agg (lwn w h q)], [srcC i n' seed']⟩ := by
  obtain ⟨r1, n1, s1, a1, _, b1, c1, g1⟩ := pick_gives i n0 seed0 6 (by omega) hl (by omega)
  obtain ⟨r2, n2, s2, a2, _, b2, c2, g2⟩ := pick_gives i n1 s1 6 (by omega) hl (by omega)
  obtain ⟨r3, n3, s3, a3, _, b3, c3, g3⟩ := pick_gives i n2 s2 8 (by omega) hl (by omega)
  have lw := isLwn (1 + r1) (1 + r2) (fun _ => 0) (by omega) (by omega) (fun _ _ => ⟨by decide, by decide⟩)
  have hA := allC_len (w := 1 + r1) (h := 1 + r2) (by omega)
  have hmem := fun c => allC_mem (w := 1 + r1) (h := 1 + r2) (c := c)
  have hk0 : kindsOk (1 + r1) (1 + r2) (fun _ => 0) := fun k _ => ⟨Int.le_refl _, by show (0 : Int) ≤ 3; omega, .inl rfl⟩
  suffices hs : ∃ r : Res, (∃ (q : Nat → Int) (n' : Nat) (seed' : Int), kindsOk (1 + r1) (1 + r2) q ∧ n' ≤ n0 + 300 ∧ r = ⟨[.agg (lwn (1 + r1) (1 + r2) q)], [srcC i n' seed']⟩) ∧ Gives G 374 [.mp (srcC i n0 seed0)] r by
    obtain ⟨r, ⟨q, n', seed', h1, h2, rfl⟩, h4⟩ := hs
    exact ⟨1 + r1, 1 + r2, q, n', seed', by omega, by omega, by omega, by omega, h1, h2, h4⟩
  refine GivesP.by rfl rfl (W.seq ?_)
  repeat' first | ((with_reducible apply WR.c_ws (f := 377) (fn := Code.f377)); (iterate 3 exact rfl); (focus ((repeat' first | exact args_nil | apply args_d | (apply args_p; exact rfl; exact rfl) | exact toD_d rfl | exact toD_ptr rfl rfl | exact rfl); done)); exact g1; (focus ((repeat' first | exact backs_no | (apply backs_p; exact rfl; exact rfl; exact (by first | exact IsLawn.len (by assumption) | exact rfl)) | exact rfl); done)); dsimp only [insertAll]) | ((with_reducible apply WR.c_ws (f := 377) (fn := Code.f377)); (iterate 3 exact rfl); (focus ((repeat' first | exact args_nil | apply args_d | (apply args_p; exact rfl; exact rfl) | exact toD_d rfl | exact toD_ptr rfl rfl | exact rfl); done)); exact g2; (focus ((repeat' first | exact backs_no | (apply backs_p; exact rfl; exact rfl; exact (by first | exact IsLawn.len (by assumption) | exact rfl)) | exact rfl); done)); dsimp only [insertAll]) | ((with_reducible apply WR.c_ws (f := 377) (fn := Code.f377)); (iterate 3 exact rfl); (focus ((repeat' first | exact args_nil | apply args_d | (apply args_p; exact rfl; exact rfl) | exact toD_d rfl | exact toD_ptr rfl rfl | exact rfl); done)); exact g3; (focus ((repeat' first | exact backs_no | (apply backs_p; exact rfl; exact rfl; exact (by first | exact IsLawn.len (by assumption) | exact rfl)) | exact rfl); done)); dsimp only [insertAll]) | ((with_reducible apply WR.c_o (f := 60) (fn := Code.f60)); (iterate 3 exact rfl); (first | exact rfl | exact backs_no); (focus ((repeat' first | exact args_nil | apply args_d | (apply args_p; exact rfl; exact rfl) | exact toD_d rfl | exact toD_ptr rfl rfl | exact rfl); done)); exact l01All_gives lw (by omega); exact rfl) | ((with_reducible first | apply WR.mv | apply WR.bu); exact rfl; exact rfl) | ((with_reducible apply WR.ad); (iterate 3 exact rfl); (first | exact i64_in _ (by omega) | exact i8_in _ (by omega))) | (with_reducible first | apply WR.nil | refine andThen_n ?_ | refine W.seq ?_ | refine W.region ?_ | refine W.block ?_) | ((with_reducible apply WR.cv); exact rfl; exact rfl; (first | exact i64_in _ (by omega) | exact i8_in _ (by omega))) | ((with_reducible apply WR.al); exact rfl; exact rfl) | ((with_reducible apply WR.st); (iterate 3 exact rfl); exact storeAll (by first | exact IsLawn.len (by assumption) | exact rfl) (by first | exact IsLawn.len (by assumption) | exact rfl))
  generalize allC (1 + r1) (1 + r2) = A at hA hmem ⊢
  (refine (?_ : W _ (Code.loop _) _ _))
  (refine W.loopM [0, 2, 3, 4, 5] [2, 19] [] (fun ((k, n, sd, q) : (Nat) × (Nat) × (Int) × (Nat → Int)) => (A.length - k : Nat)) (fun ((k, n, sd, q) : (Nat) × (Nat) × (Int) × (Nat → Int)) => (k ≤ A.length ∧ n ≤ n0 + 3 + 2 * k ∧ kindsOk (1 + r1) (1 + r2) q : Prop)) (fun z : (Nat) × (Nat) × (Int) × (Nat → Int) => match z with | (k, n, sd, q) => [(6, .a (.d (.s (.int .i64 (k : Nat)))))]) (fun z : (Nat) × (Nat) × (Int) × (Nat → Int) => match z with | (k, n, sd, q) => [(0, .flat true (srcC i n sd)), (3, .flat false (lwn (1 + r1) (1 + r2) q))]) (0, n3, s3, fun _ => 0) (⟨by omega, by omega, hk0⟩) ⟨rfl, trivial⟩ ⟨rfl, rfl, trivial⟩ trivial ?_)
  rintro ⟨k, n, sd, q⟩ σ hP hN; dsimp only [setL, putL] at hP ⊢
  obtain ⟨hk, hn', hq⟩ := hP
  by_cases hka : k < A.length
  · obtain ⟨o, n5, s5, c5, g5⟩ := one_gives i n sd (2 + r3) (by omega) hl (by omega)
    cases o
    · repeat' first | ((with_reducible apply WR.c_ws (f := 378) (fn := Code.f378)); (iterate 3 exact rfl); (focus ((repeat' first | exact args_nil | apply args_d | (apply args_p; exact rfl; exact rfl) | exact toD_d rfl | exact rfl); done)); exact g5; (focus ((repeat' first | exact backs_no | (apply backs_p; exact rfl; exact rfl; exact (by first | exact rfl)) | exact rfl); done)); dsimp only [insertAll]) | ((with_reducible first | apply WR.mv | apply WR.le); exact rfl; exact rfl) | ((with_reducible apply WR.ad); (iterate 3 exact rfl); (exact i64_in _ (by omega))) | (with_reducible first | apply WR.nil | refine andThen_n ?_ | refine inB_n ?_ | refine W.seq ?_ | refine W.region ?_ | refine W.skip ?_ | refine W.block ?_) | ((with_reducible apply W.condT); exact rfl) | ((with_reducible apply W.condF); exact rfl) | (intro hb; try (exfalso; omega)) | ((with_reducible apply WR.lss); iterate 3 exact rfl)
      (refine W.nxt (k + 1, n5, s5, q) (by first | omega | (dsimp only; omega)) ?_ ⟨rfl, trivial⟩ ⟨rfl, rfl, trivial⟩ ⟨rfl, rfl, rfl, rfl, rfl, trivial⟩ ⟨rfl, rfl, trivial⟩ trivial); (try dsimp only)
      exact ⟨by omega, by omega, hq⟩
    · obtain ⟨r6, n6, s6, a6, _, b6, c6, g6⟩ := pick_gives i n5 s5 3 (by omega) hl (by omega)
      have hc := hmem _ (gC_mem (l := A) (k := k) hka)
      simp only [Has] at hc
      repeat' first | ((with_reducible apply WR.c_ws (f := 378) (fn := Code.f378)); (iterate 3 exact rfl); (focus ((repeat' first | exact args_nil | apply args_d | (apply args_p; exact rfl; exact rfl) | exact toD_d rfl | exact rfl); done)); exact g5; (focus ((repeat' first | exact backs_no | (apply backs_p; exact rfl; exact rfl; exact (by first | exact rfl)) | exact rfl); done)); dsimp only [insertAll]) | ((with_reducible apply WH.c_ws (f := 377) (fn := Code.f377)); (iterate 3 exact rfl); (focus ((repeat' first | exact args_nil | apply args_d | (apply args_p; exact rfl; exact rfl) | exact toD_d rfl | exact rfl); done)); exact g6; (focus ((repeat' first | exact backs_no | (apply backs_p; exact rfl; exact rfl; exact (by first | exact rfl)) | exact rfl); done)); exact rfl; exact rfl; dsimp only [insertAll]) | ((with_reducible apply WH.st); (iterate 3 exact rfl); exact stLw (by omega); exact rfl; exact rfl) | ((with_reducible first | apply WR.mv | apply WR.le); exact rfl; exact rfl) | ((with_reducible first | apply WH.mv | apply WH.fa | apply WR.lss); iterate 3 exact rfl) | ((with_reducible apply WR.ad); (iterate 3 exact rfl); (first | exact i64_in _ (by omega) | exact u8_in _ (by omega))) | (with_reducible first | apply WR.nil | refine andThen_n ?_ | refine inB_n ?_ | refine W.seq ?_ | refine W.region ?_ | refine W.skip ?_ | refine W.block ?_ | apply WH.nil | refine W.draw ?_) | ((with_reducible apply W.condT); exact rfl) | (intro hb; try (exfalso; omega)) | ((with_reducible first | apply WH.isn | apply WH.ia); (iterate 3 exact rfl); omega; exact rfl) | ((with_reducible apply WH.ld); (iterate 3 exact rfl); (first | exact ldCx (by first | omega) | exact ldCy (by first | omega)); exact rfl) | ((with_reducible apply WH.cv); exact rfl; exact rfl; (first | exact i64_in _ (by omega) | exact u8_in _ (by omega))) | ((with_reducible apply WH.ad); (iterate 3 exact rfl); (first | exact i64_in _ (by omega) | exact u8_in _ (by omega)))
      (refine W.nxt (k + 1, n6, s6, gset q (10 * (gC A k).2.toNat + (gC A k).1.toNat) (1 + r6)) (by first | omega | (dsimp only; omega)) ?_ ⟨rfl, trivial⟩ ⟨rfl, rfl, trivial⟩ ⟨rfl, rfl, rfl, rfl, rfl, trivial⟩ ⟨rfl, rfl, trivial⟩ trivial); (try dsimp only)
      exact ⟨by omega, by omega, hq.set (by omega) (by omega) (by omega)⟩
  · have lq := isLwn (1 + r1) (1 + r2) q (by omega) (by omega) (fun k hk => by have := hq k hk; simp only [cellOk] at this; omega)
    repeat' first | ((with_reducible first | apply WR.mv | apply WR.le); exact rfl; exact rfl) | (with_reducible first | apply WR.nil | refine andThen_n ?_ | refine andThen_x ?_ | refine inB_x ?_ | refine W.seq ?_ | refine W.region ?_ | refine W.ret ?_ | refine W.exit ?_) | ((with_reducible apply W.condF); exact rfl) | (intro hb; try (exfalso; omega)) | ((with_reducible apply WR.st); (iterate 3 exact rfl); exact storeAll (by first | exact IsLawn.len (by assumption) | exact rfl) (by first | exact IsLawn.len (by assumption) | exact rfl)) | ((with_reducible apply WR.lss); iterate 3 exact rfl) | ((with_reducible apply WR.ld); (iterate 3 exact rfl); (exact loadC_all (IsLawn.len (by assumption))))
    apply DoneP.mk
    · repeat' first | ((with_reducible apply Done.f); (intro hh hh2; exact (nomatch hh2)); (focus ((repeat' first | exact all_nil | apply all_cons | exact res_cell rfl rfl (by first | exact IsLawn.len (by assumption) | exact rfl) | exact rfl); done)); (focus ((repeat' first | exact all_nil | apply all_cons | exact retOf_a rfl | exact rfl); done)); exact rfl; (focus ((repeat' first | exact outs_nil | (apply outs_mp; exact rfl; exact (by first | exact IsLawn.len (by assumption) | exact rfl)) | exact rfl); done)))
      rfl
    · exact ⟨q, n, sd, hq, by omega, rfl⟩
theorem lwn_is {w h : Int} {q : Nat → Int} (hw : 1 ≤ w ∧ w ≤ 6) (hh : 1 ≤ h ∧ h ≤ 6) (hq : kindsOk w h q) : IsLawn w h q (lwn w h q) :=
  isLwn w h q (by omega) (by omega) (fun k hk => by have := hq k hk; simp only [cellOk] at this; omega)
theorem lwn_ok {w h : Int} {q : Nat → Int} (hw : 1 ≤ w ∧ w ≤ 6) (hh : 1 ≤ h ∧ h ≤ 6) (hq : kindsOk w h q) : LawnOk w h q :=
  ⟨by omega, by omega, fun k hk => (hq k hk).2⟩
end Go.DM
