/- Rules for the search: maps of texts, numbers of cells, bits (for FnTop). -/
import Derived.Test.YtgbifpijjfolbaaGreatK441RunsP
import Derived.Test.YtgbifpijjfolbaaGreatK441Way
import Derived.Test.YtgbifpijjfolbaaGreatK441ShortQ
import Derived.Test.YtgbifpijjfolbaaGreatK441Loop
import Derived.Test.YtgbifpijjfolbaaGreatK441SidesP
import Derived.Test.YtgbifpijjfolbaaGreatK441SidesW
set_option linter.all false
set_option maxHeartbeats 4000000
namespace Go.DM
variable [Tok]
open Go.IntWalk
def numM : List Cel → Nat → List (Cel × Int)
  | [], _ => []
  | c :: r, i => (c, (i : Int)) :: numM r (i + 1)
theorem numM_len : ∀ (L : List Cel) (i : Nat), (numM L i).length = L.length
  | [], _ => rfl
  | c :: r, i => by simp only [numM, List.length_cons, numM_len r]
theorem numM_snoc (c : Cel) : ∀ (L : List Cel) (i : Nat), numM (L ++ [c]) i = numM L i ++ [(c, ((i + L.length : Nat) : Int))]
  | [], i => rfl
  | d :: r, i => by
    simp only [List.cons_append, numM, numM_snoc c r, List.length_cons]
    rw [show i + 1 + r.length = i + (r.length + 1) by omega]
theorem numM_has (c : Cel) : ∀ (L : List Cel) (i : Nat), hasM (numM L i) c = decide (c ∈ L)
  | [], i => by simp [numM, hasM]
  | d :: r, i => by
    simp only [numM, hasM, numM_has c r]
    by_cases h : d = c
    · simp [h]
    · have h2 : ¬ c = d := fun e => h e.symm
      simp [h, h2]
theorem numM_cnt (c : Cel) : ∀ (L : List Cel) (i : Nat), c ∈ L → ∃ k : Nat, cntM (numM L i) c = (k : Int) ∧ k < i + L.length ∧ bitF c L i = 2 ^ k
  | [], i, h => by cases h
  | d :: r, i, h => by
    by_cases e : d = c
    · exact ⟨i, by simp [numM, cntM, e], by simp, by simp [bitF, e]⟩
    · obtain ⟨k, h1, h2, h3⟩ := numM_cnt c r (i + 1) ((List.mem_cons.1 h).resolve_left (fun k => e k.symm))
      refine ⟨k, ?_, ?_, ?_⟩
      · simp only [numM, cntM, if_neg e, h1]
      · simp only [List.length_cons]; omega
      · simp only [bitF, if_neg e, h3]
theorem mset_M {n x y : Int} : ∀ M : List (Cel × Int), hasM M (x, y) = false → mset [.int .i8 x, .int .i8 y] [.int .i64 n] (encM M) = encM (M ++ [((x, y), n)])
  | [], _ => rfl
  | ((x', y'), m) :: r, h => by
    simp only [hasM] at h
    split at h
    · cases h
    · rename_i hne
      have ih := mset_M (n := n) r h
      simp only [encM, List.map_cons, List.cons_append, mset, eqKey, hne, decide_false, Bool.false_eq_true, if_false] at ih ⊢
      rw [ih]
theorem wrap64 {n : Int} (h : 0 ≤ n ∧ n < 9223372036854775808) : IntKind.i64.wrap n = n := i64_in _ (by omega)
theorem pow_le9 {k : Nat} (h : k ≤ 9) : (2 : Nat) ^ k ≤ 512 := by
  have : (2 : Nat) ^ k ≤ 2 ^ 9 := Nat.pow_le_pow_right (by decide) h
  omega
section
variable {Γ : Nat → Option Fn} {dsts : Nat → Option Nat} {ops : List Oper} {P : St → Prop} {σ : St} {d : Option Nat} {g : Option (Nat × Bool)} {l1 l2 l3 l4 : List Nat}
theorem quiet_shM {a b : Opd} {kb : IntKind} {k : Nat} (ha : ev σ.env a = .a (.d (.s (.int .i64 1)))) (hb : ev σ.env b = .a (.d (.s (.int kb (k : Nat))))) (hk : k ≤ 9) : quiet σ (.bin .shl a b) = some (.a (.d (.s (.int .i64 ((2 ^ k : Nat) : Int))))) := by
  have hp := pow_le9 hk
  simp only [quiet, ha, hb, bin, isShift, if_true, shiftBin]
  rw [if_neg (by omega)]
  have e : Nat.min ((k : Nat) : Int).toNat IntKind.i64.bits = k := by
    rw [Int.toNat_natCast]
    exact Nat.min_eq_left (by show k ≤ 64; omega)
  have hp2 : ((2 : Int) ^ k) = ((2 ^ k : Nat) : Int) := by push_cast; rfl
  rw [e, Int.one_mul, hp2]
  generalize 2 ^ k = q at hp
  rw [wrap64 (by omega)]
  rfl
theorem WR.shM {a b : Opd} {kb : IntKind} {k : Nat} (hw : wanted dsts σ.env g = some true) (ha : ev σ.env a = .a (.d (.s (.int .i64 1)))) (hb : ev σ.env b = .a (.d (.s (.int kb (k : Nat))))) (hk : k ≤ 9)
    (K : WR Γ dsts ops P (set d (.a (.d (.s (.int .i64 ((2 ^ k : Nat) : Int))))) σ)) : WR Γ dsts (⟨d, .bin .shl a b, g, l1, l2, l3, l4⟩ :: ops) P σ := WR.q hw (quiet_shM ha hb hk) K
theorem WH.shM {a b : Opd} {kb : IntKind} {k : Nat} (hw : wanted dsts (kill l1 (only l3 σ)).env g = some true) (ha : ev (kill l1 (only l3 σ)).env a = .a (.d (.s (.int .i64 1)))) (hb : ev (kill l1 (only l3 σ)).env b = .a (.d (.s (.int kb (k : Nat))))) (hk : k ≤ 9)
    (K : WH Γ dsts ops P (set d (.a (.d (.s (.int .i64 ((2 ^ k : Nat) : Int))))) σ)) : WH Γ dsts (⟨d, .bin .shl a b, g, l1, l2, l3, l4⟩ :: ops) P σ := WH.q hw (quiet_shM ha hb hk) rfl K
theorem quiet_orM {a b : Opd} {m n : Nat} (ha : ev σ.env a = .a (.d (.s (.int .i64 (m : Nat))))) (hb : ev σ.env b = .a (.d (.s (.int .i64 (n : Nat))))) (hm : m < 512) (hn : n < 512) : quiet σ (.bin .or a b) = some (.a (.d (.s (.int .i64 ((m ||| n : Nat) : Int))))) := by
  have hlt : m ||| n < 2 ^ 9 := Nat.or_lt_two_pow hm hn
  have e : ((BitVec.ofInt 64 (m : Int) ||| BitVec.ofInt 64 (n : Int)).toNat : Int) = ((m ||| n : Nat) : Int) := by
    rw [BitVec.toNat_or, BitVec.ofInt_natCast, BitVec.ofInt_natCast, BitVec.toNat_ofNat, BitVec.toNat_ofNat, Nat.mod_eq_of_lt (by omega), Nat.mod_eq_of_lt (by omega)]
  simp only [quiet, ha, hb, bin, isShift, if_true, intBin]
  have e2 : IntKind.i64.wrap ((BitVec.ofInt IntKind.i64.bits (m : Int) ||| BitVec.ofInt IntKind.i64.bits (n : Int)).toNat : Int) = ((m ||| n : Nat) : Int) := by
    show IntKind.i64.wrap ((BitVec.ofInt 64 (m : Int) ||| BitVec.ofInt 64 (n : Int)).toNat : Int) = _
    rw [e]
    have h5 : m ||| n < 512 := hlt
    generalize m ||| n = q at h5
    exact wrap64 (by omega)
  rw [e2]; rfl
theorem WR.orM {a b : Opd} {m n : Nat} (hw : wanted dsts σ.env g = some true) (ha : ev σ.env a = .a (.d (.s (.int .i64 (m : Nat))))) (hb : ev σ.env b = .a (.d (.s (.int .i64 (n : Nat))))) (hm : m < 512) (hn : n < 512)
    (K : WR Γ dsts ops P (set d (.a (.d (.s (.int .i64 ((m ||| n : Nat) : Int))))) σ)) : WR Γ dsts (⟨d, .bin .or a b, g, l1, l2, l3, l4⟩ :: ops) P σ := WR.q hw (quiet_orM ha hb hm hn) K
theorem WH.orM {a b : Opd} {m n : Nat} (hw : wanted dsts (kill l1 (only l3 σ)).env g = some true) (ha : ev (kill l1 (only l3 σ)).env a = .a (.d (.s (.int .i64 (m : Nat))))) (hb : ev (kill l1 (only l3 σ)).env b = .a (.d (.s (.int .i64 (n : Nat))))) (hm : m < 512) (hn : n < 512)
    (K : WH Γ dsts ops P (set d (.a (.d (.s (.int .i64 ((m ||| n : Nat) : Int))))) σ)) : WH Γ dsts (⟨d, .bin .or a b, g, l1, l2, l3, l4⟩ :: ops) P σ := WH.q hw (quiet_orM ha hb hm hn) rfl K
theorem quiet_mgetT {m k : Opd} {M : List (Cel × Int)} {x y : Int} (hm : ev σ.env m = .a (.d (.map KC (encM M)))) (hk : ev σ.env k = .a (.d (.agg [.int .i8 x, .int .i8 y]))) :
    quiet σ (.mget 1 [.int .i64 0] [.int .i8, .int .i8] true m k) = some (.tup [.d (.s (.int .i64 (cntM M (x, y)))), .d (.s (.bool (hasM M (x, y))))]) := by
  obtain ⟨h, h2, _⟩ := mfind_M (x := x) (y := y) M
  simp [quiet, hm, mapOf, hk, cellsA, hasKs, hasK, h, h2, ofCells, sv]
theorem WR.mgetT {m k : Opd} {M : List (Cel × Int)} {x y n : Int} {b : Bool} (h1 : cntM M (x, y) = n) (h2 : hasM M (x, y) = b) (hw : wanted dsts σ.env g = some true) (hm : ev σ.env m = .a (.d (.map KC (encM M)))) (hk : ev σ.env k = .a (.d (.agg [.int .i8 x, .int .i8 y])))
    (K : WR Γ dsts ops P (set d (.tup [.d (.s (.int .i64 n)), .d (.s (.bool b))]) σ)) : WR Γ dsts (⟨d, .mget 1 [.int .i64 0] [.int .i8, .int .i8] true m k, g, l1, l2, l3, l4⟩ :: ops) P σ := by
  subst h1; subst h2
  exact WR.q hw (quiet_mgetT hm hk) K
theorem WR.mputC {m k v : Opd} {o : Nat} {M : List (Cel × Int)} {x y n : Int} (hn : hasM M (x, y) = false) (hw : wanted dsts σ.env g = some true) (hm : ev σ.env m = .a (.mp o)) (ho : σ.objs o = some (.map KC (encM M))) (hk : ev σ.env k = .a (.d (.agg [.int .i8 x, .int .i8 y]))) (hv : ev σ.env v = .a (.d (.s (.int .i64 n))))
    (K : WR Γ dsts ops P (put o (.map KC (encM (M ++ [((x, y), n)]))) σ)) : WR Γ dsts (⟨none, .mput 1 [.int .i8, .int .i8] m k v, g, l1, l2, l3, l4⟩ :: ops) P σ := by
  have h2 : cellsA (KC.length != 1) (.a (.d (.agg [.int .i8 x, .int .i8 y]))) = some [.int .i8 x, .int .i8 y] := rfl
  have h3 : cellsA ((1 : Nat) != 1) (.a (.d (.s (.int .i64 n)))) = some [.int .i64 n] := rfl
  refine WR.cons ⟨0, step_dl (r := ⟨.undef, [], [(o, .map KC (encM (M ++ [((x, y), n)])))]⟩) hw ?_ rfl⟩ ?_
  · simp only [delta, hm, ho, hk, hv, h2, h3, Option.bind_some]
    rw [if_pos ⟨trivial, rfl, rfl⟩, mset_M M hn]
  · simp only [applyD, hideD, insertAll, kill_nil, List.map_cons, List.map_nil, killO, killV, deadA]
    exact K
theorem quiet_lenM {a : Opd} {o : Nat} {M : List (Cel × Int)} (hm : ev σ.env a = .a (.mp o)) (ho : σ.objs o = some (.map KC (encM M))) : quiet σ (.len (.mp [.int .i8, .int .i8]) a) = some (.a (.d (.s (.int .i64 (M.length : Nat))))) := by
  simp [quiet, hm, mapOf, ho, encM_len, sv]
theorem WH.lenM {a : Opd} {o : Nat} {M : List (Cel × Int)} (hw : wanted dsts (kill l1 (only l3 σ)).env g = some true) (hm : ev (kill l1 (only l3 σ)).env a = .a (.mp o)) (ho : (kill l1 (only l3 σ)).objs o = some (.map KC (encM M)))
    (K : WH Γ dsts ops P (set d (.a (.d (.s (.int .i64 (M.length : Nat))))) σ)) : WH Γ dsts (⟨d, .len (.mp [.int .i8, .int .i8]) a, g, l1, l2, l3, l4⟩ :: ops) P σ :=
  WH.q hw (quiet_lenM hm ho) rfl K
theorem WH.wmkm {e : Nat} (hw : wanted dsts (kill l1 (only l3 σ)).env g = some true) (hp : noPar σ [e] = true) (hi : l2.contains e = true) (hv : killV l1 (.a (.mp e)) = .a (.mp e)) (k : WH Γ dsts ops P (set (some e) (.a (.mp e)) (put e (.map KW (encW [])) (kill [e] σ)))) : WH Γ dsts (⟨some e, .mkm [.int .i8, .int .i8, .int .u8, .int .i64], g, l1, l2, l3, l4⟩ :: ops) P σ :=
  WH.mk (d := e) (ob := .map KW (encW [])) hw rfl rfl (by simp [makes, encW]) hp hi hv rfl k
theorem WR.wgT {m k : Opd} {o : Nat} {Q : List (Mw × List UInt8)} {x y : Int} {n : Nat} {b : Bool} (hb : (fndW Q ((x, y), n)).isSome = b) (hw : wanted dsts σ.env g = some true) (hm : ev σ.env m = .a (.mp o)) (ho : σ.objs o = some (.map KW (encW Q))) (hk : ev σ.env k = .a (.d (.agg [.int .i8 x, .int .i8 y, .int .u8 0, .int .i64 (n : Nat)])))
    (K : WR Γ dsts ops P (set d (.tup [.d (.s (.str ((fndW Q ((x, y), n)).getD []))), .d (.s (.bool b))]) σ)) : WR Γ dsts (⟨d, .mget 1 [.str []] [.int .i8, .int .i8, .int .u8, .int .i64] true m k, g, l1, l2, l3, l4⟩ :: ops) P σ := by
  subst hb
  exact WR.q hw (quiet_wget hm ho hk true) K
theorem WR.wgV {m k : Opd} {o : Nat} {Q : List (Mw × List UInt8)} {x y : Int} {n : Nat} {s : List UInt8} (hs : (fndW Q ((x, y), n)).getD [] = s) (hw : wanted dsts σ.env g = some true) (hm : ev σ.env m = .a (.mp o)) (ho : σ.objs o = some (.map KW (encW Q))) (hk : ev σ.env k = .a (.d (.agg [.int .i8 x, .int .i8 y, .int .u8 0, .int .i64 (n : Nat)])))
    (K : WR Γ dsts ops P (set d (.a (.d (.s (.str s)))) σ)) : WR Γ dsts (⟨d, .mget 1 [.str []] [.int .i8, .int .i8, .int .u8, .int .i64] false m k, g, l1, l2, l3, l4⟩ :: ops) P σ := by
  subst hs
  exact WR.q hw (quiet_wget hm ho hk false) K
theorem WH.wgV {m k : Opd} {o : Nat} {Q : List (Mw × List UInt8)} {x y : Int} {n : Nat} {s : List UInt8} (hs : (fndW Q ((x, y), n)).getD [] = s) (hw : wanted dsts (kill l1 (only l3 σ)).env g = some true) (hm : ev (kill l1 (only l3 σ)).env m = .a (.mp o)) (ho : (kill l1 (only l3 σ)).objs o = some (.map KW (encW Q))) (hk : ev (kill l1 (only l3 σ)).env k = .a (.d (.agg [.int .i8 x, .int .i8 y, .int .u8 0, .int .i64 (n : Nat)])))
    (K : WH Γ dsts ops P (set d (.a (.d (.s (.str s)))) σ)) : WH Γ dsts (⟨d, .mget 1 [.str []] [.int .i8, .int .i8, .int .u8, .int .i64] false m k, g, l1, l2, l3, l4⟩ :: ops) P σ := by
  subst hs
  exact WH.q hw (quiet_wget hm ho hk false) rfl K
theorem WH.wput {m k v : Opd} {o : Nat} {Q : List (Mw × List UInt8)} {x y : Int} {n : Nat} {s : List UInt8} (hn : ((x, y), n) ∉ Q.map Prod.fst) (hw : wanted dsts (kill l1 (only l3 σ)).env g = some true) (hm : ev (kill l1 (only l3 σ)).env m = .a (.mp o)) (ho : (kill l1 (only l3 σ)).objs o = some (.map KW (encW Q))) (hk : ev (kill l1 (only l3 σ)).env k = .a (.d (.agg [.int .i8 x, .int .i8 y, .int .u8 0, .int .i64 (n : Nat)]))) (hv : ev (kill l1 (only l3 σ)).env v = .a (.d (.s (.str s)))) (hi : l2.contains o = true)
    (K : WH Γ dsts ops P (put o (.map KW (encW (Q ++ [(((x, y), n), s)]))) σ)) : WH Γ dsts (⟨none, .mput 1 [.int .i8, .int .i8, .int .u8, .int .i64] m k v, g, l1, l2, l3, l4⟩ :: ops) P σ := by
  have h2 : cellsA (KW.length != 1) (.a (.d (.agg [.int .i8 x, .int .i8 y, .int .u8 0, .int .i64 (n : Nat)]))) = some (keyW ((x, y), n)) := rfl
  have h3 : cellsA ((1 : Nat) != 1) (.a (.d (.s (.str s)))) = some [.str s] := rfl
  have hd : ∀ call, delta Γ call none (kill l1 (only l3 σ)) (.mput 1 KW m k v) = some { v := .undef, puts := [(o, .map KW (encW (Q ++ [(((x, y), n), s)])))] } := fun call => by
    simp only [delta, hm, ho, hk, hv, h2, h3, Option.bind_some]
    rw [if_pos ⟨trivial, keyW_ks _, rfl⟩, mset_W _ s Q hn]
  refine WH.cons ⟨0, stepH_dl hw (hd _) (by simp only [within, List.all_cons, List.all_nil, hi]; rfl) rfl⟩ ?_
  simp only [applyD, hideD, insertAll, List.map_cons, List.map_nil, killO, killV, deadA, kill_nil]
  exact K
theorem WR.c_k {f e : Nat} {xs : List Opd} {fn : Fn} {as : List Arg} {ks : List SK} {es : List (List S × List S)} (hw : wanted dsts σ.env g = some true) (hΓ : Γ f = some fn) (hn : mutIds fn.muts (xs.map (ev σ.env)) = []) (hb : backs σ fn.muts (xs.map (ev σ.env)) [] = some []) (ha : args σ [] fn.muts (xs.map (ev σ.env)) = some as) (hg : Gives Γ f as ⟨[.ownm ks es], []⟩) (hp : noPar σ [e] = true)
    (k : WR Γ dsts ops P (set (some e) (.a (.mp e)) (put e (.map ks es) (kill [e] σ)))) : WR Γ dsts (⟨some e, .call f xs, g, l1, l2, l3, l4⟩ :: ops) P σ := by
  refine WR.call (d := e) (v := .a (.mp e)) (ps := []) (ns := [(e, .map ks es)]) hw rfl rfl hΓ (by rw [hn]; rfl) (by rw [hn]; exact ha) hg hb rfl rfl hp ?_
  simp only [List.nil_append, List.append_nil, List.map_nil, List.map_cons, insertAll, kill_nil]
  exact k
theorem WR.bM1 {e : Nat} {a0 : Opd} {x y : Int} {m : Nat} (hw : wanted dsts σ.env g = some true) (h0 : ev σ.env a0 = .a (.d (.agg [.int .i8 x, .int .i8 y, .int .u8 0, .int .i64 (m : Nat)]))) (hp : noPar σ [e] = true) (k : WR Γ dsts ops P (set (some e) (.a (.sl e 0 1 4)) (put e (.flat false (encX mowC [((x, y), m)])) (kill [e] σ)))) : WR Γ dsts (⟨some e, .bsl 4 1 [.int .i8 0, .int .i8 0, .int .u8 0, .int .i64 0] [(0, a0)], g, l1, l2, l3, l4⟩ :: ops) P σ :=
  WR.mk (d := e) (ob := .flat false (encX mowC [((x, y), m)])) hw rfl rfl (by simp [makes, all?, h0, cellsOf, fill, replicate, List.replicate, encX, mowC]) hp k
theorem encX_drop {α : Type} {F : α → List S} {n : Nat} (hF : ∀ a, (F a).length = n) : ∀ (L : List α) (k : Nat), (encX F L).drop (k * n) = encX F (L.drop k)
  | L, 0 => by rw [Nat.zero_mul, List.drop_zero, List.drop_zero]
  | [], k + 1 => by simp [encX]
  | a :: r, k + 1 => by
    rw [encX, show (k + 1) * n = (F a).length + k * n by rw [hF, Nat.succ_mul]; omega, List.drop_append, List.drop_eq_nil_of_le (by omega), List.nil_append, show (F a).length + k * n - (F a).length = k * n by omega, List.drop_succ_cons]
    exact encX_drop hF r k
theorem WR.apM {p e off m k : Nat} {a b : Opd} {l : List Mw} {z : Mw} (hw : wanted dsts σ.env g = some true) (ha : ev σ.env a = .a (.sl p off m 4)) (ho : σ.objs p = some (.flat false (encX mowC l))) (hb : ev σ.env b = .a (.sl e 0 1 4)) (hbo : σ.objs e = some (.flat false (encX mowC [z]))) (hoff : off = k * 4) (hm : m = l.length - k) (hk : k ≤ l.length) (h2 : l.length ≤ 1000000)
    (K : WR Γ dsts ops P (set d (.a (.sl p 0 (l.drop k ++ [z]).length 4)) (put p (.flat false (encX mowC (l.drop k ++ [z]))) (kill [p] σ)))) : WR Γ dsts (⟨d, .app 4 a b, g, l1, l2, l3, l4⟩ :: ops) P σ := by
  refine WR.cons ⟨0, step_dl (r := ⟨.a (.sl p 0 (l.drop k ++ [z]).length 4), [p], [(p, .flat false (encX mowC (l.drop k ++ [z])))]⟩) hw ?_ (by rw [noPar_one]; intro cs e; rw [ho] at e; cases e)⟩ K
  subst hoff
  subst hm
  have hl := encX_length mowC_len l
  have hl2 := encX_length mowC_len (l.drop k)
  have hb2 : elems σ.objs 4 (ev σ.env b) = some (1, mowC z) := by
    simp [elems, hb, hbo, encX, mowC]
  rw [List.length_drop] at hl2
  simp only [delta, append, ha, hb2, ho]
  rw [if_pos ⟨trivial, by omega, by simp only [big]; omega⟩, encX_append, List.length_append, List.length_drop, encX_drop mowC_len, List.take_of_length_le (by omega)]
  rw [List.length_singleton]
  simp only [encX, List.append_nil]
theorem quiet_bQn {a b c : Opd} {x y : Int} {m : Nat} {s : List UInt8} (ha : ev σ.env a = .a (.d (.agg [.int .i8 x, .int .i8 y]))) (hb : ev σ.env b = .a (.d (.s (.int .i64 (m : Nat))))) (hc : ev σ.env c = .a (.d (.s (.str s)))) : quiet σ (.build [.int .i8 0, .int .i8 0, .int .i64 0, .str []] [(0, 2, a), (2, 1, b), (3, 1, c)]) = some (.a (.d (.agg [.int .i8 x, .int .i8 y, .int .i64 (m : Nat), .str s]))) := by
  simp [quiet, all?, ha, hb, hc, cellsOf, fill, av]
theorem quiet_bQ2 {a b : Opd} {x y : Int} {m : Nat} (ha : ev σ.env a = .a (.d (.agg [.int .i8 x, .int .i8 y]))) (hb : ev σ.env b = .a (.d (.s (.int .i64 (m : Nat))))) : quiet σ (.build [.int .i8 0, .int .i8 0, .int .i64 0, .str []] [(0, 2, a), (2, 1, b)]) = some (.a (.d (.agg [.int .i8 x, .int .i8 y, .int .i64 (m : Nat), .str []]))) := by
  simp [quiet, all?, ha, hb, cellsOf, fill, av]
theorem WR.bQn {a b c : Opd} {x y : Int} {m : Nat} {s : List UInt8} (hw : wanted dsts σ.env g = some true) (ha : ev σ.env a = .a (.d (.agg [.int .i8 x, .int .i8 y]))) (hb : ev σ.env b = .a (.d (.s (.int .i64 (m : Nat))))) (hc : ev σ.env c = .a (.d (.s (.str s)))) (k : WR Γ dsts ops P (set d (.a (.d (.agg [.int .i8 x, .int .i8 y, .int .i64 (m : Nat), .str s]))) σ)) : WR Γ dsts (⟨d, .build [.int .i8 0, .int .i8 0, .int .i64 0, .str []] [(0, 2, a), (2, 1, b), (3, 1, c)], g, l1, l2, l3, l4⟩ :: ops) P σ :=
  WR.q hw (quiet_bQn ha hb hc) k
theorem WH.bQn {a b c : Opd} {x y : Int} {m : Nat} {s : List UInt8} (hw : wanted dsts (kill l1 (only l3 σ)).env g = some true) (ha : ev (kill l1 (only l3 σ)).env a = .a (.d (.agg [.int .i8 x, .int .i8 y]))) (hb : ev (kill l1 (only l3 σ)).env b = .a (.d (.s (.int .i64 (m : Nat))))) (hc : ev (kill l1 (only l3 σ)).env c = .a (.d (.s (.str s)))) (k : WH Γ dsts ops P (set d (.a (.d (.agg [.int .i8 x, .int .i8 y, .int .i64 (m : Nat), .str s]))) σ)) : WH Γ dsts (⟨d, .build [.int .i8 0, .int .i8 0, .int .i64 0, .str []] [(0, 2, a), (2, 1, b), (3, 1, c)], g, l1, l2, l3, l4⟩ :: ops) P σ :=
  WH.q hw (quiet_bQn ha hb hc) rfl k
theorem WH.bQ2 {a b : Opd} {x y : Int} {m : Nat} (hw : wanted dsts (kill l1 (only l3 σ)).env g = some true) (ha : ev (kill l1 (only l3 σ)).env a = .a (.d (.agg [.int .i8 x, .int .i8 y]))) (hb : ev (kill l1 (only l3 σ)).env b = .a (.d (.s (.int .i64 (m : Nat))))) (k : WH Γ dsts ops P (set d (.a (.d (.agg [.int .i8 x, .int .i8 y, .int .i64 (m : Nat), .str []]))) σ)) : WH Γ dsts (⟨d, .build [.int .i8 0, .int .i8 0, .int .i64 0, .str []] [(0, 2, a), (2, 1, b)], g, l1, l2, l3, l4⟩ :: ops) P σ :=
  WH.q hw (quiet_bQ2 ha hb) rfl k
theorem WR.bQ1 {e : Nat} {a0 : Opd} {x y : Int} {m : Nat} {s : List UInt8} (hw : wanted dsts σ.env g = some true) (h0 : ev σ.env a0 = .a (.d (.agg [.int .i8 x, .int .i8 y, .int .i64 (m : Nat), .str s]))) (hp : noPar σ [e] = true) (k : WR Γ dsts ops P (set (some e) (.a (.sl e 0 1 4)) (put e (.flat false (encX sttC [(((x, y), m), s)])) (kill [e] σ)))) : WR Γ dsts (⟨some e, .bsl 4 1 [.int .i8 0, .int .i8 0, .int .i64 0, .str []] [(0, a0)], g, l1, l2, l3, l4⟩ :: ops) P σ :=
  WR.mk (d := e) (ob := .flat false (encX sttC [(((x, y), m), s)])) hw rfl rfl (by simp [makes, all?, h0, cellsOf, fill, replicate, List.replicate, encX, sttC]) hp k
theorem WH.bQ1 {e : Nat} {a0 : Opd} {x y : Int} {m : Nat} {s : List UInt8} (hw : wanted dsts (kill l1 (only l3 σ)).env g = some true) (h0 : ev (kill l1 (only l3 σ)).env a0 = .a (.d (.agg [.int .i8 x, .int .i8 y, .int .i64 (m : Nat), .str s]))) (hp : noPar σ [e] = true) (hi : l2.contains e = true) (hv : killV l1 (.a (.sl e 0 1 4)) = .a (.sl e 0 1 4)) (k : WH Γ dsts ops P (set (some e) (.a (.sl e 0 1 4)) (put e (.flat false (encX sttC [(((x, y), m), s)])) (kill [e] σ)))) : WH Γ dsts (⟨some e, .bsl 4 1 [.int .i8 0, .int .i8 0, .int .i64 0, .str []] [(0, a0)], g, l1, l2, l3, l4⟩ :: ops) P σ :=
  WH.mk (d := e) (ob := .flat false (encX sttC [(((x, y), m), s)])) hw rfl rfl (by simp [makes, veil, all?, h0, cellsOf, fill, replicate, List.replicate, encX, sttC]) hp hi hv rfl k
theorem WH.apQ {p e : Nat} {a b : Opd} {l : List Stt} {z : Stt} (hw : wanted dsts (kill l1 (only l3 σ)).env g = some true) (ha : ev (kill l1 (only l3 σ)).env a = .a (.sl p 0 l.length 4)) (ho : (kill l1 (only l3 σ)).objs p = some (.flat false (encX sttC l))) (hb : ev (kill l1 (only l3 σ)).env b = .a (.sl e 0 1 4)) (hbo : (kill l1 (only l3 σ)).objs e = some (.flat false (encX sttC [z]))) (h2 : l.length ≤ 1000000)
    (hi : l2.contains p = true) (hp : noPar σ [p] = true) (hh : l1.contains p = false)
    (k : WH Γ dsts ops P (set d (.a (.sl p 0 (l ++ [z]).length 4)) (put p (.flat false (encX sttC (l ++ [z]))) (kill [p] σ)))) : WH Γ dsts (⟨d, .app 4 a b, g, l1, l2, l3, l4⟩ :: ops) P σ := by
  have hb2 : elems (kill l1 (only l3 σ)).objs 4 (ev (kill l1 (only l3 σ)).env b) = some (1, sttC z) := by
    simp [elems, hb, hbo, encX, sttC]
  refine WH.cons ⟨0, stepH_dl hw (apX_dl sttC_len ha ho hb2 h2 (by decide)) (by simp only [within, List.all_cons, List.all_nil, hi]; rfl) hp⟩ ?_
  simp only [applyD, hideD, insertAll, List.map_cons, List.map_nil, killO, killV, deadA, hh]
  exact k
end
end Go.DM

/- Long rows of bools (for FnTop: what the reference's search has seen). -/
set_option maxHeartbeats 4000000
namespace Go.DM
variable [Tok]
open Go.IntWalk
def rowB (n : Nat) (f : Nat → Bool) : List S := (List.range n).map fun i => .bool (f i)
theorem rowB_len {n : Nat} {f : Nat → Bool} : (rowB n f).length = n := by simp [rowB]
theorem rowB_get {n i : Nat} {f : Nat → Bool} (h : i < n) : (rowB n f)[i]? = some (.bool (f i)) := by simp [rowB, h]
theorem rowB_set {n i : Nat} {f : Nat → Bool} (v : Bool) (h : i < n) : (rowB n f).set i (.bool v) = rowB n (gset f i v) := by
  apply List.ext_getElem?
  intro j
  by_cases hj : j < n
  · by_cases e : i = j
    · subst e; rw [List.getElem?_set_self (by rw [rowB_len]; exact h), rowB_get hj]; simp [gset]
    · rw [List.getElem?_set_ne e, rowB_get hj, rowB_get hj]; simp only [gset]; rw [if_neg (fun h => e h.symm)]
  · rw [List.getElem?_eq_none (by rw [List.length_set, rowB_len]; omega), List.getElem?_eq_none (by rw [rowB_len]; omega)]
theorem rowB_rep (n : Nat) : List.replicate n (S.bool false) = rowB n fun _ => false := by
  apply List.ext_getElem?
  intro j
  by_cases hj : j < n
  · rw [rowB_get hj, List.getElem?_replicate, if_pos hj]
  · rw [List.getElem?_eq_none (by rw [List.length_replicate]; omega), List.getElem?_eq_none (by rw [rowB_len]; omega)]
theorem ldB {n i : Nat} {f : Nat → Bool} (h : i < n) : loadC 1 false (rowB n f) i = some (.a (.d (.s (.bool (f i))))) := loadC_one (rowB_get h)
theorem stB {p : Bool} {n i : Nat} {f : Nat → Bool} {v : Bool} (h : i < n) : storeO 1 (.a (.d (.s (.bool v)))) i (.flat p (rowB n f)) = some (.flat p (rowB n (gset f i v))) := by
  rw [storeAt (k := i) (by rw [rowB_len]; exact h) rfl, rowB_set v h]
end Go.DM

/- The search for the shortest whole way, plainly (for FnTop). -/
set_option maxHeartbeats 4000000
namespace Go.DM
variable [Tok]
open Go.IntWalk
section
variable {α β : Type} [DecidableEq α]
def srch (nxt : α → Nat → Option α) (goal : α → Prop) [DecidablePred goal] (lt : Nat → β) : Nat → List (α × List β) → Nat → Option (List β)
  | 0, _, _ => none
  | n + 1, Q, i => match Q[i]? with
    | none => none
    | some x => if goal x.1 then some x.2 else srch nxt goal lt n (stepW nxt lt x Q) (i + 1)
theorem srch_least {nxt : α → Nat → Option α} {goal : α → Prop} [DecidablePred goal] {lt : Nat → β} {a : α} {s : List β} {m : Nat} {y : α} (r : Goes nxt a m y) (hy : goal y) : ∀ (n : Nat) (Q : List (α × List β)) (i : Nat), QInv nxt goal Q i → Q[0]? = some (a, []) → srch nxt goal lt n Q i = some s → s.length ≤ m
  | 0, Q, i, q, h0, h => by cases h
  | n + 1, Q, i, q, h0, h => by
    rw [srch] at h
    split at h
    · cases h
    · rename_i x hx
      split at h
      · cases h
        exact q.least h0 hx r hy
      · rename_i hg
        exact srch_least r hy n _ _ (q.step hx hg) (stepW_first q.nd h0) h
theorem srch_none {nxt : α → Nat → Option α} {goal : α → Prop} [DecidablePred goal] {lt : Nat → β} {a : α} {m : Nat} {y : α} (r : Goes nxt a m y) {Good : List (α × List β) → Prop} {N : Nat} (hG : ∀ (Q : List (α × List β)) (x : α × List β), Good Q → x ∈ Q → Good (stepW nxt lt x Q)) (hB : ∀ Q : List (α × List β), Good Q → Q.length ≤ N) :
    ∀ (n : Nat) (Q : List (α × List β)) (i : Nat), QInv nxt goal Q i → Good Q → n + i = N → Q[0]? = some (a, []) → srch nxt goal lt n Q i = none → ¬ goal y
  | 0, Q, i, q, gd, hn, h0, h => by
    have h1 := hB Q gd
    have h2 := q.le
    obtain rfl : i = Q.length := by omega
    exact q.none h0 r
  | n + 1, Q, i, q, gd, hn, h0, h => by
    rw [srch] at h
    split at h
    · rename_i hx
      have h1 := List.getElem?_eq_none_iff.1 hx
      have h2 := q.le
      obtain rfl : i = Q.length := by omega
      exact q.none h0 r
    · rename_i x hx
      split at h
      · cases h
      · rename_i hg
        exact srch_none r hG hB n _ _ (q.step hx hg) (hG Q x gd (List.mem_of_getElem? hx)) (by omega) (stepW_first q.nd h0) h
end
theorem nodup_mapOn {α β : Type} {f : α → β} : ∀ {L : List α}, L.Nodup → (∀ a ∈ L, ∀ b ∈ L, f a = f b → a = b) → (L.map f).Nodup
  | [], _, _ => by simp
  | a :: r, nd, hh => by
    obtain ⟨h1, h2⟩ := List.nodup_cons.1 nd
    rw [List.map_cons, List.nodup_cons]
    refine ⟨fun hm => ?_, nodup_mapOn h2 fun x hx y hy e => hh x (List.mem_cons_of_mem _ hx) y (List.mem_cons_of_mem _ hy) e⟩
    obtain ⟨b, hb, e⟩ := List.mem_map.1 hm
    have := hh b (List.mem_cons_of_mem _ hb) a (List.mem_cons_self ..) e
    exact h1 (this ▸ hb)
variable {w h : Int} {g : Nat → Int} {cs : List S} {L : List Cel}
theorem pow_lt9 {k : Nat} (h : k < 9) : (2 : Nat) ^ k < 512 := by
  have : (2 : Nat) ^ k ≤ 2 ^ 8 := Nat.pow_le_pow_right (by decide) (by omega)
  omega
abbrev NW : List UInt8 := [78, 87, 69, 83]
def lw (k : Nat) : UInt8 := ([78, 87, 69, 83] : List UInt8).getD k 0
theorem lw_slice {j : Nat} (hj : j < 4) : (([78, 87, 69, 83] : List UInt8).drop j).take (j + 1 - j) = [lw j] := by
  obtain rfl | rfl | rfl | rfl : j = 0 ∨ j = 1 ∨ j = 2 ∨ j = 3 := by omega
  all_goals rfl
theorem lw_lt {j : Nat} (hj : j < 4) : lt (gB [78, 87, 69, 83] j) = j := by
  obtain rfl | rfl | rfl | rfl : j = 0 ∨ j = 1 ∨ j = 2 ∨ j = 3 := by omega
  all_goals decide
def yS (L : List Cel) (x : Mw) (k : Nat) : Mw := (nx x.1 (k : Nat), x.2 ||| bitC L (nx x.1 (k : Nat)))
def OpnS (w h : Int) (g : Nat → Int) (x : Mw) (k : Nat) : Prop := Opn w h g (nx x.1 (k : Nat)).1 (nx x.1 (k : Nat)).2
def exN (w h : Int) (g : Nat → Int) (L : List Cel) (x : Stt) (Q : List Stt) (j : Nat) : List Stt := (List.range j).foldl (expand (nxtW w h g L) lw x) Q
theorem exN_four (x : Stt) (Q : List Stt) : stepW (nxtW w h g L) lw x Q = exN w h g L x Q 4 := rfl
theorem exN_succ (x : Stt) (Q : List Stt) (j : Nat) : exN w h g L x Q (j + 1) = expand (nxtW w h g L) lw x (exN w h g L x Q j) j := by
  unfold exN
  rw [List.range_succ, List.foldl_append]; rfl
theorem expand_no {x : Stt} {Q : List Stt} {k : Nat} (hO : ¬ OpnS w h g x.1 k) : expand (nxtW w h g L) lw x Q k = Q := by
  unfold OpnS at hO
  unfold expand nxtW
  rw [if_neg hO]
theorem expand_in {x : Stt} {Q : List Stt} {k : Nat} (hm : yS L x.1 k ∈ Q.map Prod.fst) : expand (nxtW w h g L) lw x Q k = Q := by
  by_cases hO : OpnS w h g x.1 k
  · unfold OpnS at hO
    unfold expand nxtW
    rw [if_pos hO]
    exact if_pos hm
  · exact expand_no hO
theorem expand_new {x : Stt} {Q : List Stt} {k : Nat} (hO : OpnS w h g x.1 k) (hm : yS L x.1 k ∉ Q.map Prod.fst) : expand (nxtW w h g L) lw x Q k = Q ++ [(yS L x.1 k, x.2 ++ [lw k])] := by
  unfold OpnS at hO
  unfold expand nxtW
  rw [if_pos hO]
  exact if_neg hm
structure SInv (w h : Int) (g : Nat → Int) (L : List Cel) (Q : List Stt) : Prop where
  nd : (Q.map Prod.fst).Nodup
  fine : ∀ x ∈ Q, Opn w h g x.1.1.1 x.1.1.2 ∧ x.1.2 < 2 ^ L.length
  len : ∀ x ∈ Q, x.2.length < Q.length
theorem SInv.first (nd : L.Nodup) {c : Cel} (hO : Opn w h g c.1 c.2) : SInv w h g L [((c, bitC L c), [])] where
  nd := by simp
  fine := fun x hx => by rw [List.mem_singleton.1 hx]; exact ⟨hO, bitC_lt nd c⟩
  len := fun x hx => by rw [List.mem_singleton.1 hx]; simp
theorem SInv.ex (nd : L.Nodup) {x : Stt} {Q : List Stt} (q : SInv w h g L Q) (hx : x.1.2 < 2 ^ L.length ∧ x.2.length < Q.length) (k : Nat) : SInv w h g L (expand (nxtW w h g L) lw x Q k) ∧ Q.length ≤ (expand (nxtW w h g L) lw x Q k).length := by
  by_cases hm : yS L x.1 k ∈ Q.map Prod.fst
  · rw [expand_in hm]; exact ⟨q, Nat.le_refl _⟩
  · by_cases hO : OpnS w h g x.1 k
    · rw [expand_new hO hm]
      refine ⟨⟨?_, fun z hz => ?_, fun z hz => ?_⟩, by rw [List.length_append]; omega⟩
      · rw [List.map_append, List.map_cons, List.map_nil]
        refine List.nodup_append.2 ⟨q.nd, by simp, fun a ha b hb hab => ?_⟩
        rw [List.mem_singleton.1 hb] at hab
        exact hm (by rw [show yS L x.1 k = a from hab.symm]; exact ha)
      · rcases List.mem_append.1 hz with hz | hz
        · exact q.fine z hz
        · rw [List.mem_singleton.1 hz]
          exact ⟨hO, Nat.or_lt_two_pow hx.1 (bitC_lt nd _)⟩
      · rw [List.length_append, List.length_singleton]
        rcases List.mem_append.1 hz with hz | hz
        · have := q.len z hz; omega
        · rw [List.mem_singleton.1 hz]
          simp only [List.length_append, List.length_singleton]
          omega
    · rw [expand_no hO]; exact ⟨q, Nat.le_refl _⟩
theorem SInv.exN (nd : L.Nodup) {x : Stt} {Q : List Stt} (q : SInv w h g L Q) (hx : x.1.2 < 2 ^ L.length ∧ x.2.length < Q.length) : ∀ j, SInv w h g L (exN w h g L x Q j) ∧ Q.length ≤ (DM.exN w h g L x Q j).length
  | 0 => ⟨q, Nat.le_refl _⟩
  | j + 1 => by
    obtain ⟨h1, h2⟩ := SInv.exN nd q hx j
    rw [exN_succ]
    obtain ⟨h3, h4⟩ := h1.ex nd (x := x) ⟨hx.1, by omega⟩ j
    exact ⟨h3, by omega⟩
theorem exN_get {x : Stt} {Q : List Stt} (nd : (Q.map Prod.fst).Nodup) {i : Nat} (hi : i < Q.length) (j : Nat) : (exN w h g L x Q j)[i]? = Q[i]? := by
  obtain ⟨⟨E, hE, _⟩, _, _⟩ := QMid.all (nxt := nxtW w h g L) (lt := lw) (x := x) nd j
  have hE' : exN w h g L x Q j = Q ++ E := hE
  rw [hE', List.getElem?_append_left hi]
def kW (y : Mw) : Nat := 5120 * y.1.2.toNat + 512 * y.1.1.toNat + y.2
def FineM (y : Mw) : Prop := (0 ≤ y.1.1 ∧ y.1.1 < 10 ∧ 0 ≤ y.1.2 ∧ y.1.2 < 10) ∧ y.2 < 512
theorem kW_lt {y : Mw} (hy : FineM y) : kW y < 51200 := by
  obtain ⟨h1, h2⟩ := hy
  unfold kW; omega
theorem kW_inj {y z : Mw} (hy : FineM y) (hz : FineM z) (e : kW y = kW z) : y = z := by
  obtain ⟨h1, h2⟩ := hy
  obtain ⟨h3, h4⟩ := hz
  unfold kW at e
  have e1 : y.1.2 = z.1.2 := by omega
  have e2 : y.1.1 = z.1.1 := by omega
  have e3 : y.2 = z.2 := by omega
  exact Prod.ext (Prod.ext e2 e1) e3
theorem SInv.fineM {Q : List Stt} (q : SInv w h g L Q) (hs : w ≤ 10 ∧ h ≤ 10) (hL : L.length ≤ 9) : ∀ y ∈ Q.map Prod.fst, FineM y := fun y hy => by
  obtain ⟨x, hx, rfl⟩ := List.mem_map.1 hy
  obtain ⟨h1, h2⟩ := q.fine x hx
  have h3 := pow_le9 hL
  have h4 : Has w h x.1.1.1 x.1.1.2 := h1.1
  exact ⟨by omega, by omega⟩
theorem SInv.bound {Q : List Stt} (q : SInv w h g L Q) (hs : w ≤ 10 ∧ h ≤ 10) (hL : L.length ≤ 9) : Q.length ≤ 51200 := by
  have hf := q.fineM hs hL
  have h1 := nodup_mapOn (f := kW) q.nd fun a ha b hb e => kW_inj (hf a ha) (hf b hb) e
  have h2 := nodup_le 51200 _ h1 fun n hn => by
    obtain ⟨y, hy, rfl⟩ := List.mem_map.1 hn
    exact kW_lt (hf y hy)
  simpa using h2
theorem fndW_is (Q : List Stt) (y : Mw) : (fndW Q y).isSome = decide (y ∈ Q.map Prod.fst) := by
  unfold fndW
  rw [Option.isSome_map, Bool.eq_iff_iff, List.find?_isSome, decide_eq_true_eq, List.mem_map]
  constructor
  · rintro ⟨x, hx, e⟩; exact ⟨x, hx, by simpa using e⟩
  · rintro ⟨x, hx, e⟩; exact ⟨x, hx, by simpa using e⟩
theorem fndW_at {x : Stt} : ∀ {Q : List Stt}, (Q.map Prod.fst).Nodup → x ∈ Q → (fndW Q x.1).getD [] = x.2
  | [], _, hx => by cases hx
  | z :: r, nd, hx => by
    rw [List.map_cons, List.nodup_cons] at nd
    unfold fndW
    by_cases e : z.1 = x.1
    · rw [List.find?_cons_of_pos (by simpa using e)]
      rcases List.mem_cons.1 hx with rfl | k
      · rfl
      · exact absurd (List.mem_map.2 ⟨x, k, e.symm⟩) nd.1
    · rw [List.find?_cons_of_neg (by simpa using e)]
      have hx2 : x ∈ r := (List.mem_cons.1 hx).resolve_left fun k => e (by rw [k])
      exact fndW_at nd.2 hx2
def seenQ (Q : List Stt) : Nat → Bool := fun i => Q.any fun x => kW x.1 == i
theorem seenQ_at {Q : List Stt} {y : Mw} (hf : ∀ z ∈ Q.map Prod.fst, FineM z) (hy : FineM y) : seenQ Q (kW y) = decide (y ∈ Q.map Prod.fst) := by
  unfold seenQ
  rw [Bool.eq_iff_iff, List.any_eq_true, decide_eq_true_eq, List.mem_map]
  constructor
  · rintro ⟨x, hx, e⟩
    exact ⟨x, hx, kW_inj (hf _ (List.mem_map.2 ⟨x, hx, rfl⟩)) hy (by simpa using e)⟩
  · rintro ⟨x, hx, e⟩
    exact ⟨x, hx, by simp [e]⟩
theorem seenQ_snoc (Q : List Stt) (y : Mw) (s : List UInt8) : gset (seenQ Q) (kW y) true = seenQ (Q ++ [(y, s)]) := by
  funext i
  simp only [gset, seenQ, List.any_append, List.any_cons, List.any_nil, Bool.or_false]
  by_cases e : i = kW y
  · subst e; simp
  · rw [if_neg e]
    have : (kW y == i) = false := by simpa using fun k : kW y = i => e k.symm
    rw [this, Bool.or_false]
theorem seenQ_nil : seenQ [] = fun _ => false := rfl
section
variable {Γ : Nat → Option Fn} {dsts : Nat → Option Nat} {ops : List Oper} {P : St → Prop} {σ : St} {d : Option Nat} {gd : Option (Nat × Bool)} {l1 l2 l3 l4 : List Nat}
theorem WR.shK {a b : Opd} {kb : IntKind} {k K : Nat} (hK : 2 ^ k = K) (hk : k ≤ 9) (hw : wanted dsts σ.env gd = some true) (ha : ev σ.env a = .a (.d (.s (.int .i64 1)))) (hb : ev σ.env b = .a (.d (.s (.int kb (k : Nat)))))
    (n : WR Γ dsts ops P (set d (.a (.d (.s (.int .i64 (K : Nat))))) σ)) : WR Γ dsts (⟨d, .bin .shl a b, gd, l1, l2, l3, l4⟩ :: ops) P σ := by
  subst hK
  exact WR.shM hw ha hb hk n
theorem WH.shK {a b : Opd} {kb : IntKind} {k K : Nat} (hK : 2 ^ k = K) (hk : k ≤ 9) (hw : wanted dsts (kill l1 (only l3 σ)).env gd = some true) (ha : ev (kill l1 (only l3 σ)).env a = .a (.d (.s (.int .i64 1)))) (hb : ev (kill l1 (only l3 σ)).env b = .a (.d (.s (.int kb (k : Nat)))))
    (n : WH Γ dsts ops P (set d (.a (.d (.s (.int .i64 (K : Nat))))) σ)) : WH Γ dsts (⟨d, .bin .shl a b, gd, l1, l2, l3, l4⟩ :: ops) P σ := by
  subst hK
  exact WH.shM hw ha hb hk n
theorem WH.slL {a lo hi : Opd} {j : Nat} (hj : j < 4) (hw : wanted dsts (kill l1 (only l3 σ)).env gd = some true) (ha : ev (kill l1 (only l3 σ)).env a = .a (.d (.s (.str [78, 87, 69, 83])))) (hl : ev (kill l1 (only l3 σ)).env lo = .a (.d (.s (.int .i64 (j : Nat))))) (hh : ev (kill l1 (only l3 σ)).env hi = .a (.d (.s (.int .i64 ((j : Nat) + 1)))))
    (K : WH Γ dsts ops P (set d (.a (.d (.s (.str [lw j])))) σ)) : WH Γ dsts (⟨d, .slc .str a (some lo) (some hi), gd, l1, l2, l3, l4⟩ :: ops) P σ := by
  have hb : ∀ m, bound (some (.a (.d (.s (.int .i64 ((j : Int) + 1)))))) m = some (j + 1) := fun m => by
    show (if 0 ≤ ((j : Int) + 1) then some ((j : Int) + 1).toNat else none) = _
    rw [if_pos (by omega)]; congr 1
  refine WH.sst (l := j) (h := j + 1) hw ha (by rw [Option.map_some, hl]; exact bound_n) (by rw [Option.map_some, hh]; exact hb _) ⟨by omega, by show j + 1 ≤ 4; omega⟩ ?_
  rw [lw_slice hj]; exact K
end
def AllM (n : Nat) (x : Mw) : Prop := x.2 = 2 ^ n - 1
instance (n : Nat) : DecidablePred (AllM n) := fun x => inferInstanceAs (Decidable (_ = _))
def shortW (w h : Int) (g : Nat → Int) (L : List Cel) (c : Cel) : Option (List UInt8) := srch (nxtW w h g L) (AllM L.length) lw 51200 [((c, bitC L c), [])] 0
theorem srch_end {w h : Int} {g : Nat → Int} {L : List Cel} {Q : List Stt} {i : Nat} (hi : Q.length ≤ i) : ∀ n, srch (nxtW w h g L) (AllM L.length) lw n Q i = none
  | 0 => rfl
  | n + 1 => by
    rw [srch, List.getElem?_eq_none hi]
theorem srch_yes {w h : Int} {g : Nat → Int} {L : List Cel} {Q : List Stt} {i n : Nat} {x : Stt} (hx : Q[i]? = some x) (hg : x.1.2 = 2 ^ L.length - 1) : srch (nxtW w h g L) (AllM L.length) lw (n + 1) Q i = some x.2 := by
  rw [srch, hx]
  exact if_pos hg
theorem srch_go {w h : Int} {g : Nat → Int} {L : List Cel} {Q : List Stt} {i n : Nat} {x : Stt} (hx : Q[i]? = some x) (hg : ¬ x.1.2 = 2 ^ L.length - 1) : srch (nxtW w h g L) (AllM L.length) lw (n + 1) Q i = srch (nxtW w h g L) (AllM L.length) lw n (exN w h g L x Q 4) (i + 1) := by
  rw [srch, hx]
  exact if_neg hg
def wayRes : Option (List UInt8) → Res
  | some s => ⟨[.s (.str s), .s (.int .i64 0)], []⟩
  | none => ⟨[.s (.str []), .s (.int .i64 6)], []⟩
end Go.DM

/- The law of lawns, ways and weeds: what is known of what is drawn (for FnTop). -/
set_option maxHeartbeats 4000000
namespace Go.DM
variable [Tok]
open Go.IntWalk
def boolRs (b : Bool) : Res := ⟨[.s (.bool b), .s (.int .i64 0)], []⟩
def wayRs (sh : List UInt8) (n : Int) : Res := ⟨[.s (.str sh), .s (.int .i64 n)], []⟩
structure FinIn (w h : Int) (g : Nat → Int) (cs : List S) (L : List Run) (gn : Nat) (f : Nat → Int) (q : Nat → Int) (n0 : Int) (k : Nat) (oth : Nat → Int) : Prop where
  l : IsLawn w h g cs
  ok : LawnOk w h g
  wb : 1 ≤ w ∧ w ≤ 6
  hb : 1 ≤ h ∧ h ≤ 6
  good : WGood w h g q
  nb : 0 ≤ n0 ∧ n0 ≤ 2
  kb : k ≤ 2
  ob : ∀ j, 0 ≤ oth j ∧ oth j < h
  big : Gives G 381 [.d (.s (.tok 0)), .d (.s (.tok 1))] (rb false)
  lawn : Gives G 403 [.d (.s (.tok 0))] ⟨[.agg cs], []⟩
  r42 : Gives G 442 [aa cs, ab true] (runs2Res L)
  r43 : Gives G 443 [aa cs, ab true] (runs2Res L)
  ll : L.length ≤ 100
  lb : ∀ r ∈ L, 0 ≤ r.2 ∧ r.2 ≤ 10
  ls : sumT L = (gn : Nat)
  gb : gn ≤ 100
  k44 : Gives G 444 [aa cs, ai .i64 0] (inRes (gn : Nat))
  s46 : Gives G 446 [aa cs] (sides2Res f)
  s47 : Gives G 447 [aa cs] (sides2Res f)
  fs : sum5 f = 4 * gn
  fb : ∀ j, 0 ≤ f j
  weeds : Gives G 404 [.d (.s (.tok 1)), aa cs] ⟨[.agg (wR q)], []⟩
  a0 : Gives G 406 [.d (.s (.tok 1)), ai .i64 0, ai .i64 3] (ri .i64 n0)
  a1 : Gives G 406 [.d (.s (.tok 1)), ai .i64 1, ai .i64 3] (ri .i64 (k : Nat))
  ao : ∀ j : Nat, j ≤ 2 → Gives G 406 [.d (.s (.tok 0)), ai .i64 (j : Nat), ai .i64 h] (ri .i64 (oth j))
structure FinWay (cs : List S) (c : Cel) (s sh : List UInt8) (n4 : Int) (b : Bool) : Prop where
  w48 : Gives G 448 [aa cs, ac c.1 c.2] (wayRs sh n4)
  w49 : Gives G 449 [aa cs, ac c.1 c.2] (wayRs sh n4)
  i18 : Gives G 18 [aa cs, ac c.1 c.2, .d (.s (.str s))] (boolRs b)
  i17 : Gives G 17 [aa cs, ac c.1 c.2, .d (.s (.str s))] (boolRs b)
  sl : s.length ≤ 19
  lz : ∃ w h g, IsLawn w h g cs
  sm : Gives G 382 [.d (.s (.tok 1))] ⟨[.agg cs, .agg [.int .i8 c.1, .int .i8 c.2]], []⟩
  wy : Gives G 383 [.d (.s (.tok 0)), aa cs, ac c.1 c.2] ⟨[.s (.str s)], []⟩
  fit : (b = true ∧ n4 = 0 ∧ sh.length ≤ s.length) ∨ (b = false ∧ n4 = 0) ∨ (b = false ∧ n4 = 6)
end Go.DM

/- A state is told anew. -/
namespace Go.DM
variable [Tok]
theorem W.cutC {Γ : Nat → Option Fn} {c : Code} {Q : Ex → St → Prop} {σ0 : St} (N : List Nat) (E : List (Nat × V)) (O : List (Nat × Ob)) (hE : isE σ0 E) (hO : isO σ0 O) (hN : noP σ0 N) (h : ∀ σ, noP σ N → W Γ c Q (putL O (setL E σ))) : W Γ c Q σ0 := by
  have := h σ0 hN
  rw [setL_self hE, putL_self hO] at this
  exact this
end Go.DM
