/- Rounds: what is known of the weeds and rounds that are drawn. -/
import Derived.Test.YtgbifpijjfolbaaGreatK441RunsP
import Derived.Test.YtgbifpijjfolbaaGreatK441Text
import Derived.Test.YtgbifpijjfolbaaGreatK441Beside
import Derived.Test.YtgbifpijjfolbaaGreatK441SidesP
set_option linter.all false
set_option maxHeartbeats 4000000
namespace Go.DM
variable [Tok]
open Go.IntWalk
def inRes (n : Int) : Res := ⟨[.s (.int .i64 n), .s (.int .i64 0)], []⟩
end Go.DM

/- Maps of cells with a number each: rules. -/
namespace Go.DM
variable [Tok]
open Go.IntWalk
abbrev KC : List SK := [.int .i8, .int .i8]
def encM (M : List (Cel × Int)) : List (List S × List S) := M.map fun p => ([.int .i8 p.1.1, .int .i8 p.1.2], [.int .i64 p.2])
def cntM : List (Cel × Int) → Cel → Int
  | [], _ => 0
  | p :: r, c => if p.1 = c then p.2 else cntM r c
def hasM : List (Cel × Int) → Cel → Bool
  | [], _ => false
  | p :: r, c => if p.1 = c then true else hasM r c
def idxM : List (Cel × Int) → Cel → Nat
  | [], _ => 0
  | p :: r, c => if p.1 = c then 0 else idxM r c + 1
def entM (M : List (Cel × Int)) (c : Cel) : List (Cel × Int) := if hasM M c then M else M ++ [(c, 0)]
def stoM (j : Nat) (n : Int) (M : List (Cel × Int)) : List (Cel × Int) := match M[j]? with | some p => M.set j (p.1, n) | none => M
theorem eqKey (x y x' y' : Int) : eqSs [.int .i8 x, .int .i8 y] [.int .i8 x', .int .i8 y'] = decide ((x', y') = (x, y)) := by
  simp only [eqSs, eqS, Bool.and_true, Prod.mk.injEq]
  by_cases h1 : x = x'
  · by_cases h2 : y = y'
    · subst h1; subst h2; simp
    · simp [h1, h2, Ne.symm h2]
  · simp [h1, Ne.symm h1]
theorem mfind_M {x y : Int} : ∀ M : List (Cel × Int), (mfind [.int .i8 x, .int .i8 y] (encM M)).getD [.int .i64 0] = [.int .i64 (cntM M (x, y))] ∧ (mfind [.int .i8 x, .int .i8 y] (encM M)).isSome = hasM M (x, y) ∧ midx [.int .i8 x, .int .i8 y] (encM M) = idxM M (x, y)
  | [] => ⟨rfl, rfl, rfl⟩
  | ((x', y'), n) :: r => by
    obtain ⟨h1, h2, h3⟩ := mfind_M (x := x) (y := y) r
    simp only [encM, List.map_cons, mfind, midx, eqKey] at h1 h2 h3 ⊢
    by_cases h : (x', y') = (x, y)
    · simp only [h, decide_true, if_true, cntM, hasM, idxM]; simp
    · simp only [h, decide_false, Bool.false_eq_true, if_false, cntM, hasM, idxM]
      exact ⟨h1, h2, by rw [h3]⟩
theorem mentry_M {x y : Int} (M : List (Cel × Int)) : mentry [.int .i8 x, .int .i8 y] [.int .i64 0] (encM M) = encM (entM M (x, y)) := by
  unfold mentry entM
  rw [(mfind_M M).2.1]
  cases hasM M (x, y) with
  | true => rfl
  | false => simp [encM]
theorem mstore_M {j : Nat} {n : Int} (M : List (Cel × Int)) : mstore j [.int .i64 n] (encM M) = encM (stoM j n M) := by
  unfold mstore stoM encM
  rw [List.getElem?_map]
  cases h : M[j]? with
  | none => simp
  | some p => simp [List.map_set]
theorem encM_len (M : List (Cel × Int)) : (encM M).length = M.length := by simp [encM]
theorem noPar_putm {σ : St} {o p : Nat} {ks : List SK} {es : List (List S × List S)} (h : noPar σ [o] = true) : noPar (put p (.map ks es) σ) [o] = true := by
  rw [noPar_one] at h ⊢
  intro cs' e
  simp only [put, upd] at e
  split at e
  · cases e
  · exact h _ e
section
variable {Γ : Nat → Option Fn} {dsts : Nat → Option Nat} {ops : List Oper} {Q : St → Prop} {σ : St} {d : Option Nat} {g : Option (Nat × Bool)} {l1 l2 l3 l4 : List Nat} {call : Calls}
theorem quiet_mget {m k : Opd} {o : Nat} {M : List (Cel × Int)} {x y : Int} (hm : ev σ.env m = .a (.mp o)) (ho : σ.objs o = some (.map KC (encM M))) (hk : ev σ.env k = .a (.d (.agg [.int .i8 x, .int .i8 y]))) :
    quiet σ (.mget 1 [.int .i64 0] [.int .i8, .int .i8] false m k) = some (.a (.d (.s (.int .i64 (cntM M (x, y)))))) := by
  have h := (mfind_M (x := x) (y := y) M).1
  simp [quiet, hm, mapOf, ho, hk, cellsA, hasKs, hasK, h, ofCells, sv]
theorem WH.mget {m k : Opd} {o : Nat} {M : List (Cel × Int)} {x y : Int} (hw : wanted dsts (kill l1 (only l3 σ)).env g = some true) (hm : ev (kill l1 (only l3 σ)).env m = .a (.mp o)) (ho : (kill l1 (only l3 σ)).objs o = some (.map KC (encM M))) (hk : ev (kill l1 (only l3 σ)).env k = .a (.d (.agg [.int .i8 x, .int .i8 y])))
    (K : WH Γ dsts ops Q (set d (.a (.d (.s (.int .i64 (cntM M (x, y)))))) σ)) : WH Γ dsts (⟨d, .mget 1 [.int .i64 0] [.int .i8, .int .i8] false m k, g, l1, l2, l3, l4⟩ :: ops) Q σ := WH.q hw (quiet_mget hm ho hk) rfl K
theorem WR.mkm {e : Nat} (hw : wanted dsts σ.env g = some true) (hp : noPar σ [e] = true) (k : WR Γ dsts ops Q (set (some e) (.a (.mp e)) (put e (.map KC (encM [])) (kill [e] σ)))) : WR Γ dsts (⟨some e, .mkm [.int .i8, .int .i8], g, l1, l2, l3, l4⟩ :: ops) Q σ :=
  WR.mk (d := e) (ob := .map KC (encM [])) hw rfl rfl (by simp [makes, encM]) hp k
theorem WH.ment {m k : Opd} {o : Nat} {M : List (Cel × Int)} {x y : Int} (hw : wanted dsts (kill l1 (only l3 σ)).env g = some true) (hm : ev (kill l1 (only l3 σ)).env m = .a (.mp o)) (ho : (kill l1 (only l3 σ)).objs o = some (.map KC (encM M))) (hk : ev (kill l1 (only l3 σ)).env k = .a (.d (.agg [.int .i8 x, .int .i8 y]))) (hi : l2.contains o = true)
    (K : WH Γ dsts ops Q (set d (.tup [.dead, .d (.s (.int .i64 (idxM M (x, y) : Nat)))]) (put o (.map KC (encM (entM M (x, y)))) σ))) : WH Γ dsts (⟨d, .ment 1 [.int .i64 0] [.int .i8, .int .i8] m k, g, l1, l2, l3, l4⟩ :: ops) Q σ := by
  have h1 := (mfind_M (x := x) (y := y) M).2.2
  have h2 := mentry_M (x := x) (y := y) M
  have hd : ∀ call, delta Γ call d (kill l1 (only l3 σ)) (.ment 1 [.int .i64 0] [.int .i8, .int .i8] m k) = some { v := .tup [.dead, .d (.s (.int .i64 (idxM M (x, y) : Nat)))], puts := [(o, .map KC (encM (entM M (x, y))))] } := fun call => by
    simp [delta, hm, ho, hk, cellsA, hasKs, hasK, h1, h2]
  refine WH.cons ⟨0, stepH_dl hw (hd _) (by simp only [within, List.all_cons, List.all_nil, hi]; rfl) rfl⟩ ?_
  simp only [applyD, hideD, insertAll, List.map_cons, List.map_nil, killO, killV, deadA, kill_nil]
  exact K
theorem WH.mest {m s v : Opd} {o j : Nat} {n : Int} {M : List (Cel × Int)} (hw : wanted dsts (kill l1 (only l3 σ)).env g = some true) (hm : ev (kill l1 (only l3 σ)).env m = .a (.mp o)) (ho : (kill l1 (only l3 σ)).objs o = some (.map KC (encM M))) (hs : ev (kill l1 (only l3 σ)).env s = .a (.d (.s (.int .i64 (j : Nat))))) (hv : ev (kill l1 (only l3 σ)).env v = .a (.d (.s (.int .i64 n)))) (hj : j < M.length) (hi : l2.contains o = true)
    (K : WH Γ dsts ops Q (put o (.map KC (encM (stoM j n M))) σ)) : WH Γ dsts (⟨none, .mest 1 m s v, g, l1, l2, l3, l4⟩ :: ops) Q σ := by
  have h2 := mstore_M (j := j) (n := n) M
  have hd : ∀ call, delta Γ call none (kill l1 (only l3 σ)) (.mest 1 m s v) = some { v := .undef, puts := [(o, .map KC (encM (stoM j n M)))] } := fun call => by
    simp [delta, hm, ho, hs, hv, cellsA, encM_len, hj, h2]
  refine WH.cons ⟨0, stepH_dl hw (hd _) (by simp only [within, List.all_cons, List.all_nil, hi]; rfl) rfl⟩ ?_
  simp only [applyD, hideD, insertAll, List.map_cons, List.map_nil, killO, killV, deadA, kill_nil]
  exact K
end
theorem nm {s : St} {l : List Nat} (h : noPar s l = true := by (repeat' first | (with_reducible apply noPar_set) | ((with_reducible apply noPar_puto); exact rfl) | (with_reducible apply noPar_put) | (with_reducible apply noPar_putv) | (with_reducible apply noPar_putm) | (with_reducible apply noPar_kill) | ((with_reducible apply noPar_mix); exact rfl) | ((with_reducible apply noPar_mixT); exact rfl) | assumption | exact rfl); done) : noPar s l = true := h
end Go.DM

/- Maps of texts keyed by a state (for FnTop: the program's shortest way). -/
set_option maxHeartbeats 4000000
namespace Go.DM
variable [Tok]
open Go.IntWalk
abbrev KW : List SK := [.int .i8, .int .i8, .int .u8, .int .i64]
def keyW (x : Cel × Nat) : List S := [.int .i8 x.1.1, .int .i8 x.1.2, .int .u8 0, .int .i64 (x.2 : Nat)]
def encW (Q : List ((Cel × Nat) × List UInt8)) : List (List S × List S) := Q.map fun p => (keyW p.1, [.str p.2])
theorem eqW (a b : Cel × Nat) : eqSs (keyW a) (keyW b) = decide (b = a) := by
  obtain ⟨⟨x, y⟩, m⟩ := a
  obtain ⟨⟨x', y'⟩, m'⟩ := b
  rw [Bool.eq_iff_iff]
  simp only [keyW, eqSs, eqS, Bool.and_eq_true, decide_eq_true_eq, Prod.mk.injEq, beq_iff_eq]
  constructor
  · intro hh
    obtain ⟨h1, h2, _, h3, _⟩ := hh
    refine ⟨⟨?_, ?_⟩, ?_⟩
    all_goals omega
  · rintro ⟨⟨rfl, rfl⟩, rfl⟩
    simp
def fndW (Q : List ((Cel × Nat) × List UInt8)) (x : Cel × Nat) : Option (List UInt8) := (Q.find? fun p => decide (p.1 = x)).map Prod.snd
theorem mfind_W (x : Cel × Nat) : ∀ Q : List ((Cel × Nat) × List UInt8), mfind (keyW x) (encW Q) = (fndW Q x).map fun s => [.str s]
  | [] => rfl
  | p :: Q => by
    have ih := mfind_W x Q
    simp only [encW, List.map_cons, mfind, eqW] at ih ⊢
    unfold fndW at ih ⊢
    rw [List.find?_cons]
    by_cases e : p.1 = x
    · simp [e]
    · simp only [e, decide_false, Bool.false_eq_true, if_false]
      exact ih
theorem mset_W (x : Cel × Nat) (s : List UInt8) : ∀ Q : List ((Cel × Nat) × List UInt8), x ∉ Q.map Prod.fst → mset (keyW x) [.str s] (encW Q) = encW (Q ++ [(x, s)])
  | [], _ => rfl
  | p :: Q, h => by
    have h1 : ¬ p.1 = x := fun e => h (by rw [← e]; simp)
    have ih := mset_W x s Q (fun k => h (List.mem_cons_of_mem _ k))
    simp only [encW, List.map_cons, List.cons_append, mset, eqW, h1, decide_false, Bool.false_eq_true, if_false] at ih ⊢
    rw [ih]
theorem keyW_ks (x : Cel × Nat) : hasKs KW (keyW x) = true := rfl
section
variable {Γ : Nat → Option Fn} {dsts : Nat → Option Nat} {ops : List Oper} {P : St → Prop} {σ : St} {d : Option Nat} {gd : Option (Nat × Bool)} {l1 l2 l3 l4 : List Nat}
theorem quiet_wget {m k : Opd} {o : Nat} {Q : List ((Cel × Nat) × List UInt8)} {x : Cel × Nat} (hm : ev σ.env m = .a (.mp o)) (ho : σ.objs o = some (.map KW (encW Q))) (hk : ev σ.env k = .a (.d (.agg (keyW x)))) (ok : Bool) :
    quiet σ (.mget 1 [.str []] KW ok m k) = some (if ok then .tup [.d (.s (.str ((fndW Q x).getD []))), .d (.s (.bool (fndW Q x).isSome))] else .a (.d (.s (.str ((fndW Q x).getD []))))) := by
  have h1 : mapOf σ.objs KW (.a (.mp o)) = some (encW Q) := by simp [mapOf, ho]
  have h2 : cellsA (KW.length != 1) (.a (.d (.agg (keyW x)))) = some (keyW x) := rfl
  simp only [quiet, hm, hk, h1, h2, Option.bind_some, keyW_ks, mfind_W, Bool.true_and]
  cases fndW Q x <;> cases ok <;> simp [ofCells, sv]
theorem WR.wput {m k v : Opd} {o : Nat} {Q : List ((Cel × Nat) × List UInt8)} {x : Cel × Nat} {s : List UInt8} (hw : wanted dsts σ.env gd = some true) (hm : ev σ.env m = .a (.mp o)) (ho : σ.objs o = some (.map KW (encW Q))) (hk : ev σ.env k = .a (.d (.agg (keyW x)))) (hv : ev σ.env v = .a (.d (.s (.str s)))) (hn : x ∉ Q.map Prod.fst)
    (K : WR Γ dsts ops P (put o (.map KW (encW (Q ++ [(x, s)]))) σ)) : WR Γ dsts (⟨none, .mput 1 KW m k v, gd, l1, l2, l3, l4⟩ :: ops) P σ := by
  have h2 : cellsA (KW.length != 1) (.a (.d (.agg (keyW x)))) = some (keyW x) := rfl
  have h3 : cellsA ((1 : Nat) != 1) (.a (.d (.s (.str s)))) = some [.str s] := rfl
  refine WR.cons ⟨0, step_dl (r := ⟨.undef, [], [(o, .map KW (encW (Q ++ [(x, s)])))]⟩) hw ?_ rfl⟩ ?_
  · simp only [delta, hm, ho, hk, hv, h2, h3, Option.bind_some]
    rw [if_pos ⟨trivial, keyW_ks x, rfl⟩, mset_W x s Q hn]
  · simp only [applyD, hideD, insertAll, kill_nil, List.map_cons, List.map_nil, killO, killV, deadA]
    exact K
end
end Go.DM

/- Rows of strings: compared, marked, the marks read again. -/
set_option maxHeartbeats 4000000
namespace Go.DM
variable [Tok]
open Go.IntWalk
end Go.DM

/- Ways: their letters, the cells of a way. -/
set_option maxHeartbeats 4000000
namespace Go.DM
variable [Tok]
open Go.IntWalk
variable {w h : Int} {g : Nat → Int} {cs : List S}
def lt (c : Int) : Int := if 78 = c then 0 else if 87 = c then 1 else if 69 = c then 2 else if 83 = c then 3 else -1
theorem lt_b (c : Int) : -1 ≤ lt c ∧ lt c ≤ 3 := by unfold lt; repeat' split <;> omega
theorem l02Letter_gives (c : Int) : Gives G 110 [ai .u8 c] (ri .i64 (lt c)) := by
  refine Gives.by rfl rfl (W.seq ?_)
  unfold lt
  repeat' first | (with_reducible refine W.loop ?_) | ((with_reducible apply WR.ist); (iterate 3 exact rfl); exact (by decide)) | ((with_reducible apply WR.mv); exact rfl; exact rfl) | (with_reducible first | apply WR.nil | refine andThen_n ?_ | refine andThen_x ?_ | refine andThen_r ?_ | refine inB_n ?_ | refine inB_r ?_ | refine inB_x ?_ | refine W.seq ?_ | refine W.region ?_ | refine W.skip ?_ | refine W.ret ?_ | refine W.exit ?_ | refine W.block ?_) | ((with_reducible apply W.condT); exact rfl) | ((with_reducible apply W.condF); exact rfl) | ((with_reducible apply Done.f); (intro hh hh2; exact (nomatch hh2)); (focus ((repeat' first | exact all_nil | apply all_cons | exact res_tmp rfl); done)); (focus ((repeat' first | exact all_nil | apply all_cons | exact retOf_s rfl); done)); exact rfl; (focus ((repeat' first | exact outs_nil | apply outs_d); done))) | (intro hb; try (exfalso; omega)) | ((with_reducible first | apply WR.lss | apply WR.eql); iterate 3 exact rfl) | ((with_reducible apply WR.ad); (iterate 3 exact rfl); (exact i64_in _ (by omega)))
  · rw [if_pos (by assumption)]; rfl
  · rw [if_neg (by assumption), if_pos (by assumption)]; rfl
  · rw [if_neg (by assumption), if_neg (by assumption), if_pos (by assumption)]; rfl
  · rw [if_neg (by assumption), if_neg (by assumption), if_neg (by assumption), if_pos (by assumption)]; rfl
  · rw [if_neg (by assumption), if_neg (by assumption), if_neg (by assumption), if_neg (by assumption)]; rfl
theorem indexByte_eq (c : UInt8) : Lib.indexByte [78, 87, 69, 83] c = lt c.toNat := by
  have hk : ∀ k : UInt8, (k == c) = decide ((k.toNat : Int) = c.toNat) := fun k => by
    rw [Bool.eq_iff_iff]
    simp only [beq_iff_eq, decide_eq_true_eq, Int.natCast_inj, UInt8.toNat_inj]
  have h1 := hk 78
  have h2 := hk 87
  have h3 := hk 69
  have h4 := hk 83
  simp only [Lib.indexByte, h1, h2, h3, h4, lt]
  have e1 : ((78 : UInt8).toNat : Int) = 78 := rfl
  have e2 : ((87 : UInt8).toNat : Int) = 87 := rfl
  have e3 : ((69 : UInt8).toNat : Int) = 69 := rfl
  have e4 : ((83 : UInt8).toNat : Int) = 83 := rfl
  rw [e1, e2, e3, e4]
  generalize (c.toNat : Int) = n
  by_cases a1 : (78 : Int) = n
  · simp [← a1]
  by_cases a2 : (87 : Int) = n
  · simp [← a2]
  by_cases a3 : (69 : Int) = n
  · simp [← a3]
  by_cases a4 : (83 : Int) = n
  · simp [← a4]
  simp [a1, a2, a3, a4]
theorem indexByte_gives (s : List UInt8) (k : Nat) : Gives G 116 [.d (.s (.str [78, 87, 69, 83])), ai .u8 (gB s k)] (ri .i64 (lt (gB s k))) := by
  refine Gives.given (o := indexByteO) rfl rfl ?_
  unfold gB
  rw [← indexByte_eq]
  show some _ = some _
  simp
def wayC (s : List UInt8) : Int := if (s.length : Int) > 200 then 3 else if ∀ j, j < s.length → 0 ≤ lt (gB s j) then 0 else 5
theorem wayC_ok {s : List UInt8} (hs : ¬ (s.length : Int) > 200) {i : Nat} (hi : ¬ i < s.length) (hP : ∀ j, j < i → 0 ≤ lt (gB s j)) : wayC s = 0 := by
  unfold wayC; rw [if_neg hs, if_pos (fun j hj => hP j (by omega))]
theorem wayC_bad {s : List UInt8} (hs : ¬ (s.length : Int) > 200) {i : Nat} (hi : i < s.length) (hn : lt (gB s i) < 0) : wayC s = 5 := by
  unfold wayC; rw [if_neg hs, if_neg (fun hh => by have := hh i hi; omega)]
theorem l02Way_gives (s : List UInt8) : Gives G 107 [.d (.s (.str s))] (ri .i64 (wayC s)) := by
  refine Gives.by rfl rfl (W.seq ?_)
  repeat' first | ((with_reducible first | apply WR.mv | apply WR.le); exact rfl; exact rfl) | (with_reducible first | apply WR.nil | refine andThen_n ?_ | refine andThen_r ?_ | refine W.seq ?_ | refine W.region ?_ | refine W.skip ?_ | refine W.ret ?_ | refine W.block ?_) | ((with_reducible apply W.condT); exact rfl) | ((with_reducible apply W.condF); exact rfl) | ((with_reducible apply Done.f); (intro hh hh2; exact (nomatch hh2)); (focus ((repeat' first | exact all_nil | apply all_cons | exact res_tmp rfl); done)); (focus ((repeat' first | exact all_nil | apply all_cons | exact retOf_s rfl); done)); exact rfl; (focus ((repeat' first | exact outs_nil | apply outs_d); done))) | (intro hb; try (exfalso; omega)) | ((with_reducible apply WR.gtr); iterate 3 exact rfl)
  · unfold wayC; rw [if_pos (by assumption)]; rfl
  (refine (?_ : W _ (Code.loop _) _ _))
  (refine W.loopM [0] [] [] (fun i : (Nat) => (s.length - i : Nat)) (fun i : (Nat) => (i ≤ s.length ∧ ∀ j, j < i → 0 ≤ lt (gB s j) : Prop)) (fun i : (Nat) => [(3, .a (.d (.s (.int .i64 (i : Nat)))))]) (fun i : (Nat) => []) 0 (⟨by omega, fun j hj => by omega⟩) ⟨rfl, trivial⟩ trivial trivial ?_)
  rintro i σ hP hN; dsimp only [setL, putL] at hP ⊢
  obtain ⟨hi, hP⟩ := hP
  by_cases hil : i < s.length
  · repeat' first | ((with_reducible apply WR.ist); (iterate 3 exact rfl); exact (by omega)) | ((with_reducible apply WR.c_s (f := 110) (fn := Code.f110)); (iterate 3 exact rfl); exact rfl; (focus ((repeat' first | exact args_nil | apply args_d | exact toD_d rfl | exact all_nil | apply all_cons | exact rfl); done)); exact l02Letter_gives _) | ((with_reducible first | apply WR.mv | apply WR.le); exact rfl; exact rfl) | (with_reducible first | apply WR.nil | refine andThen_n ?_ | refine andThen_r ?_ | refine inB_n ?_ | refine inB_r ?_ | refine W.seq ?_ | refine W.region ?_ | refine W.skip ?_ | refine W.ret ?_ | refine W.block ?_) | ((with_reducible apply W.condT); exact rfl) | ((with_reducible apply W.condF); exact rfl) | ((with_reducible apply Done.f); (intro hh hh2; exact (nomatch hh2)); (focus ((repeat' first | exact all_nil | apply all_cons | exact res_tmp rfl | exact rfl); done)); (focus ((repeat' first | exact all_nil | apply all_cons | exact retOf_s rfl | exact rfl); done)); exact rfl; (focus ((repeat' first | exact outs_nil | apply outs_d | exact rfl); done))) | (intro hb; try (exfalso; omega)) | ((with_reducible apply WR.lss); iterate 3 exact rfl) | ((with_reducible apply WR.ad); (iterate 3 exact rfl); (exact i64_in _ (by omega)))
    all_goals first
      | (rw [wayC_bad (by assumption) hil (by assumption)]; rfl)
      | ((refine W.nxt (i + 1) (by first | omega | (dsimp only; omega)) ?_ ⟨rfl, trivial⟩ trivial ⟨rfl, trivial⟩ trivial trivial); (try dsimp only)
         refine ⟨by omega, fun j hj => ?_⟩
         by_cases hj2 : j = i
         · subst hj2; exact Int.not_lt.1 (by assumption)
         · exact hP j (by omega))
  · repeat' first | ((with_reducible first | apply WR.mv | apply WR.le); exact rfl; exact rfl) | (with_reducible first | apply WR.nil | refine andThen_n ?_ | refine andThen_x ?_ | refine inB_x ?_ | refine W.seq ?_ | refine W.region ?_ | refine W.ret ?_ | refine W.exit ?_) | ((with_reducible apply W.condF); exact rfl) | ((with_reducible apply Done.f); (intro hh hh2; exact (nomatch hh2)); (focus ((repeat' first | exact all_nil | apply all_cons | exact res_tmp rfl); done)); (focus ((repeat' first | exact all_nil | apply all_cons | exact retOf_s rfl); done)); exact rfl; (focus ((repeat' first | exact outs_nil | apply outs_d); done))) | (intro hb; try (exfalso; omega)) | ((with_reducible apply WR.lss); iterate 3 exact rfl)
    all_goals (rw [wayC_ok (by assumption) hil hP]; rfl)
theorem wayCode_gives (s : List UInt8) : Gives G 111 [.d (.s (.str s))] (ri .i64 (wayC s)) := by
  refine Gives.by rfl rfl (W.seq ?_)
  repeat' first | ((with_reducible first | apply WR.mv | apply WR.le); exact rfl; exact rfl) | (with_reducible first | apply WR.nil | refine andThen_n ?_ | refine andThen_r ?_ | refine W.seq ?_ | refine W.region ?_ | refine W.skip ?_ | refine W.ret ?_ | refine W.block ?_) | ((with_reducible apply W.condT); exact rfl) | ((with_reducible apply W.condF); exact rfl) | ((with_reducible apply Done.f); (intro hh hh2; exact (nomatch hh2)); (focus ((repeat' first | exact all_nil | apply all_cons | exact res_tmp rfl); done)); (focus ((repeat' first | exact all_nil | apply all_cons | exact retOf_s rfl); done)); exact rfl; (focus ((repeat' first | exact outs_nil | apply outs_d); done))) | (intro hb; try (exfalso; omega)) | ((with_reducible apply WR.gtr); iterate 3 exact rfl)
  · unfold wayC; rw [if_pos (by assumption)]; rfl
  (refine (?_ : W _ (Code.loop _) _ _))
  (refine W.loopM [0, 8] [] [] (fun i : (Nat) => (s.length - i : Nat)) (fun i : (Nat) => (i ≤ s.length ∧ ∀ j, j < i → 0 ≤ lt (gB s j) : Prop)) (fun i : (Nat) => [(9, .a (.d (.s (.int .i64 (i : Nat)))))]) (fun i : (Nat) => []) 0 (⟨by omega, fun j hj => by omega⟩) ⟨rfl, trivial⟩ trivial trivial ?_)
  rintro i σ hP hN; dsimp only [setL, putL] at hP ⊢
  obtain ⟨hi, hP⟩ := hP
  by_cases hil : i < s.length
  · repeat' first | ((with_reducible apply WR.ist); (iterate 3 exact rfl); exact (by omega)) | ((with_reducible apply WR.c_s (f := 116) (fn := Code.f116)); (iterate 3 exact rfl); exact rfl; (focus ((repeat' first | exact args_nil | apply args_d | exact toD_d rfl | exact all_nil | apply all_cons | exact rfl); done)); exact indexByte_gives _ _) | ((with_reducible apply WR.mv); exact rfl; exact rfl) | (with_reducible first | apply WR.nil | refine andThen_n ?_ | refine andThen_r ?_ | refine inB_n ?_ | refine inB_r ?_ | refine W.seq ?_ | refine W.region ?_ | refine W.skip ?_ | refine W.ret ?_ | refine W.block ?_) | ((with_reducible apply W.condT); exact rfl) | ((with_reducible apply W.condF); exact rfl) | ((with_reducible apply Done.f); (intro hh hh2; exact (nomatch hh2)); (focus ((repeat' first | exact all_nil | apply all_cons | exact res_tmp rfl | exact rfl); done)); (focus ((repeat' first | exact all_nil | apply all_cons | exact retOf_s rfl | exact rfl); done)); exact rfl; (focus ((repeat' first | exact outs_nil | apply outs_d | exact rfl); done))) | (intro hb; try (exfalso; omega)) | ((with_reducible apply WR.lss); iterate 3 exact rfl) | ((with_reducible apply WR.ad); (iterate 3 exact rfl); (exact i64_in _ (by omega)))
    all_goals first
      | (rw [wayC_bad (by assumption) hil (by assumption)]; rfl)
      | ((refine W.nxt (i + 1) (by first | omega | (dsimp only; omega)) ?_ ⟨rfl, trivial⟩ trivial ⟨rfl, rfl, trivial⟩ trivial trivial); (try dsimp only)
         refine ⟨by omega, fun j hj => ?_⟩
         by_cases hj2 : j = i
         · subst hj2; exact Int.not_lt.1 (by assumption)
         · exact hP j (by omega))
  · repeat' first | ((with_reducible apply WR.mv); exact rfl; exact rfl) | (with_reducible first | apply WR.nil | refine andThen_n ?_ | refine andThen_x ?_ | refine inB_x ?_ | refine W.seq ?_ | refine W.region ?_ | refine W.ret ?_ | refine W.exit ?_) | ((with_reducible apply W.condF); exact rfl) | ((with_reducible apply Done.f); (intro hh hh2; exact (nomatch hh2)); (focus ((repeat' first | exact all_nil | apply all_cons | exact res_tmp rfl); done)); (focus ((repeat' first | exact all_nil | apply all_cons | exact retOf_s rfl); done)); exact rfl; (focus ((repeat' first | exact outs_nil | apply outs_d); done))) | (intro hb; try (exfalso; omega)) | ((with_reducible apply WR.lss); iterate 3 exact rfl)
    all_goals (rw [wayC_ok (by assumption) hil hP]; rfl)
theorem l02Free_gives (l : IsLawn w h g cs) (hs : w ≤ 10 ∧ h ≤ 10) (x y : Int) (hx : -128 ≤ x ∧ x ≤ 127 ∧ -128 ≤ y ∧ y ≤ 127) : Gives G 108 [ar cs, ac x y] (rb (decide (Opn w h g x y))) := by
  refine Gives.by rfl rfl (W.seq ?_)
  repeat' first | ((with_reducible apply WR.c_p (f := 50) (fn := Code.f50)); (iterate 3 exact rfl); exact rfl; (focus ((repeat' first | exact args_nil | apply args_d | exact toD_d rfl | exact all_nil | apply all_cons | exact rfl); done)); exact l01Is_gives (by assumption) _ _ (by omega)) | ((with_reducible apply WR.c_p (f := 72) (fn := Code.f72)); (iterate 3 exact rfl); exact rfl; (focus ((repeat' first | exact args_nil | apply args_d | exact toD_d rfl | exact all_nil | apply all_cons | exact rfl); done)); exact l01Open_gives (by assumption) _ _ (by omega)) | ((with_reducible apply WR.c_p (f := 50) (fn := Code.f50)); (iterate 3 exact rfl); exact rfl; (focus ((repeat' first | exact args_nil | apply args_d | exact toD_d rfl | exact all_nil | apply all_cons | exact rfl); done)); exact l01Is_gives (by assumption) _ _ (by omega)) | ((with_reducible apply WR.c_p (f := 72) (fn := Code.f72)); (iterate 3 exact rfl); exact rfl; (focus ((repeat' first | exact args_nil | apply args_d | exact toD_d rfl | exact all_nil | apply all_cons | exact rfl); done)); exact l01Open_gives (by assumption) _ _ (by omega)) | ((with_reducible first | apply WR.mv | apply WR.pk); exact rfl; exact rfl) | (with_reducible first | apply WR.nil | refine andThen_n ?_ | refine W.seq ?_ | refine W.region ?_ | refine W.ret ?_) | ((with_reducible apply Done.f); (intro hh hh2; exact (nomatch hh2)); (focus ((repeat' first | exact all_nil | apply all_cons | exact res_tmp rfl | exact rfl); done)); (focus ((repeat' first | exact all_nil | apply all_cons | exact retOf_s rfl | exact rfl); done)); exact rfl; (focus ((repeat' first | exact outs_nil | apply outs_d | exact rfl); done))) | (intro hb; try (exfalso; omega)) | ((with_reducible apply WR.ld); (iterate 3 exact rfl); (exact ld2)) | ((with_reducible apply WR.off); exact rfl) | ((with_reducible apply WR.bx); exact rfl; exact rfl; exact (by first | exact rfl); exact rfl)
  all_goals first
    | exact rb_t ⟨by assumption, by assumption⟩
    | exact rb_f (fun hh => by first | exact absurd hh.1 (by assumption) | exact absurd hh.2 (by assumption))
def nx (c : Cel) (k : Int) : Cel := gC (Near c.1 c.2) k.toNat
theorem l02Next_gives (c : Cel) (k : Int) (hk : 0 ≤ k ∧ k ≤ 3) (hx : -127 ≤ c.1 ∧ c.1 ≤ 126 ∧ -127 ≤ c.2 ∧ c.2 ≤ 126) : Gives G 109 [ac c.1 c.2, ai .i64 k] ⟨[.agg [.int .i8 (nx c k).1, .int .i8 (nx c k).2]], []⟩ := by
  obtain rfl | rfl | rfl | rfl : k = 0 ∨ k = 1 ∨ k = 2 ∨ k = 3 := by omega
  all_goals
    refine Gives.by rfl rfl (W.seq ?_)
    repeat' first | ((with_reducible first | apply WR.lx | apply WR.fa | apply WR.mv); exact rfl; exact rfl) | ((with_reducible first | apply WR.bC | apply WR.eql); iterate 3 exact rfl) | ((with_reducible apply WR.st); (iterate 3 exact rfl); exact st2) | (with_reducible first | apply WR.nil | refine andThen_n ?_ | refine andThen_r ?_ | refine inB_n ?_ | refine inB_r ?_ | refine W.seq ?_ | refine W.region ?_ | refine W.skip ?_ | refine W.ret ?_ | refine W.block ?_) | ((with_reducible apply W.condT); exact rfl) | ((with_reducible apply W.condF); exact rfl) | ((with_reducible apply Done.f); (intro hh hh2; exact (nomatch hh2)); (focus ((repeat' first | exact all_nil | apply all_cons | exact res_cell rfl rfl (by first | exact rfl) | exact rfl); done)); (focus ((repeat' first | exact all_nil | apply all_cons | exact retOf_a rfl | exact rfl); done)); exact rfl; (focus ((repeat' first | exact outs_nil | apply outs_d | exact rfl); done))) | (intro hb; try (exfalso; omega)) | ((with_reducible apply WR.ad); (iterate 3 exact rfl); (exact i8_in _ (by omega))) | ((with_reducible apply WR.sb); (iterate 3 exact rfl); (exact i8_in _ (by omega))) | ((with_reducible apply WR.bx); exact rfl; exact rfl; exact (by first | exact rfl); exact rfl) | ((with_reducible apply WR.al); exact rfl; exact rfl)
  all_goals rfl
theorem go1_gives (s : List UInt8) (j : Nat) (c : Cel) (hk : 0 ≤ lt (gB s j)) (hx : -127 ≤ c.1 ∧ c.1 ≤ 126 ∧ -127 ≤ c.2 ∧ c.2 ≤ 126) : Gives G 117 [ac c.1 c.2, ai .u8 (gB s j)] ⟨[.agg [.int .i8 (nx c (lt (gB s j))).1, .int .i8 (nx c (lt (gB s j))).2]], []⟩ := by
  have hb := lt_b (gB s j)
  have hi := indexByte_gives s j
  have hn := beside_gives c.1 c.2 (by omega)
  have hl : (Near c.1 c.2).length = 4 := rfl
  unfold nx
  generalize lt (gB s j) = k at hk hb hi
  generalize Near c.1 c.2 = L at hn hl
  rw [← hl] at hn
  refine Gives.by rfl rfl (W.seq ?_)
  repeat' first | ((with_reducible apply WR.c_o (f := 89) (fn := Code.f89)); (iterate 3 exact rfl); exact rfl; (focus ((repeat' first | exact args_nil | apply args_d | exact toD_d rfl | exact all_nil | apply all_cons | exact rfl); done)); exact hn; exact rfl) | ((with_reducible apply WR.c_s (f := 116) (fn := Code.f116)); (iterate 3 exact rfl); exact rfl; (focus ((repeat' first | exact args_nil | apply args_d | exact toD_d rfl | exact all_nil | apply all_cons | exact rfl); done)); exact hi) | (with_reducible first | apply WR.nil | refine andThen_n ?_ | refine W.seq ?_ | refine W.region ?_ | refine W.ret ?_) | ((with_reducible apply Done.f); (intro hh hh2; exact (nomatch hh2)); (focus ((repeat' first | exact all_nil | apply all_cons | exact res_cell rfl rfl (by first | exact rfl) | exact rfl); done)); (focus ((repeat' first | exact all_nil | apply all_cons | exact retOf_a rfl | exact rfl); done)); exact rfl; (focus ((repeat' first | exact outs_nil | apply outs_d | exact rfl); done))) | ((with_reducible apply WR.ld); (iterate 3 exact rfl); (first | exact ld2 | exact ldC (by first | omega))) | ((with_reducible apply WR.mv); exact rfl; exact rfl) | ((with_reducible apply WR.bx); exact rfl; exact rfl; exact (by first | exact rfl); exact rfl) | ((with_reducible apply WR.is); (iterate 3 exact rfl); omega) | ((with_reducible apply WR.al); exact rfl; exact rfl) | ((with_reducible apply WR.st); (iterate 3 exact rfl); exact st2)
  all_goals rfl
end Go.DM
