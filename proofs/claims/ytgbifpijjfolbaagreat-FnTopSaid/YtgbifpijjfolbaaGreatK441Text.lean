/- A mole's night: the program's side. -/
import Derived.Test.YtgbifpijjfolbaaGreatK441More
import Derived.Test.YtgbifpijjfolbaaGreatK441Loop
import Derived.Test.YtgbifpijjfolbaaGreatK441Given
set_option linter.all false
namespace Go.DM
variable [Tok]
open Go.IntWalk
variable {w h : Int} {g : Nat → Int} {cs : List S} {q : Nat → Int} {qs : List S}
theorem encC_takeA (l r : List Cel) : ((encC (l ++ r)).drop 0).take (l.length * 2) = encC l := by
  rw [List.drop_zero, encC_tk, List.take_left']; rfl
section
variable {Γ : Nat → Option Fn} {dsts : Nat → Option Nat} {ops : List Oper} {Q : St → Prop} {σ : St} {d : Option Nat} {gd : Option (Nat × Bool)} {l1 l2 l3 l4 : List Nat}
theorem WR.de {e p f : Nat} {fn : Fn} {z : D} {a b : Opd} {v : V} (P : Cel → Prop) [DecidablePred P] (l r : List Cel) (hl : l.length ≤ 1000) (hf : G f = some fn) (hm : fn.muts = []) (hP : ∀ c ∈ l, Gives G f [ac c.1 c.2, .d z] (rb (decide (P c))))
    (hw : wanted dsts σ.env gd = some true) (ha : ev σ.env a = .a (.sl p 0 l.length 2)) (ho : σ.objs p = some (.flat false (encC (l ++ r)))) (hb : ev σ.env b = v) (hz : toDV (fun o => if [p].contains o then none else σ.objs o) depth v = some (.clo f [] [z])) (hv : mutIds [] [v] = [])
    (k : WR G dsts ops Q (set (some e) (.a (.sl p 0 (kept P l).length 2)) (put p (.flat false (encC (kept P l ++ (List.replicate (l.length - (kept P l).length) (0, 0) ++ r)))) σ))) : WR G dsts (⟨some e, .call 63 [a, b], gd, l1, l2, l3, l4⟩ :: ops) Q σ := by
  have hkl : (kept P l).length ≤ l.length := List.length_filter_le ..
  have hlen : (encC (kept P l ++ List.replicate (l.length - (kept P l).length) (0, 0))).length = l.length * 2 := by
    rw [encC_length, List.length_append, List.length_replicate]; omega
  have hL : (encC (l ++ r)).length = (l.length + r.length) * 2 := by rw [encC_length, List.length_append]
  refine WR.call (d := e) (f := 63) (fn := Code.f63) (vs := [.a (.sl p 0 l.length 2), v]) (as := [.ms l.length 2 (encC l), .d (.clo f [] [z])]) (ps := [(p, .flat false (encC (kept P l ++ (List.replicate (l.length - (kept P l).length) (0, 0) ++ r))))]) (ns := []) (v := .a (.sl p 0 (kept P l).length 2))
    hw rfl (by simp only [callee, List.map_cons, List.map_nil, ha, hb]) rfl ?_ ?_ (deleteFunc_gives P l hl hf hm hP) ?_ ?_ rfl rfl ?_
  · show nodup (p :: mutIds [] [v]) = true
    rw [hv]; rfl
  · show args σ (p :: mutIds [] [v]) [true] [.a (.sl p 0 l.length 2), v] = _
    rw [hv]
    simp only [args, if_true, writable, ho]
    rw [if_pos (by rw [hL]; omega), encC_takeA, hz]
    rfl
  · show backs σ [true] [.a (.sl p 0 l.length 2), v] [_] = _
    simp only [backs, ho]
    rw [if_pos ⟨hlen, by rw [hL]; omega⟩]
    have e1 : (encC (l ++ r)).drop (0 + l.length * 2) = encC r := by
      rw [Nat.zero_add, encC_dr, List.drop_left']; rfl
    simp only [List.take_zero, List.nil_append, e1]
    rw [← encC_append, List.append_assoc]
    cases v <;> rfl
  · simp [retsV, retV]
  · simp only [List.append_nil, List.map_nil, insertAll, kill_nil]
    exact k
end
def lv (q : Nat → Int) (c : Cel) : Int := q (10 * c.2.toNat + c.1.toNat)
def lowest (q : Nat → Int) (at' : Cel) : List Cel → Cel
  | [] => at'
  | c :: r => r.foldl (fun t c => if lv q c < lv q t then c else t) c
def goes (w h : Int) (g q : Nat → Int) (a b : Cel) : Cel :=
  let near := kept (fun c => ¬ Is w h g 0 c.1 c.2) (Near a.1 a.2)
  lowest q a (if 1 < near.length then kept (fun c => c.1 = b.1 ∧ c.2 = b.2) near else near)
theorem kept_mem {P : Cel → Prop} [DecidablePred P] {l : List Cel} {c : Cel} (h : c ∈ kept P l) : c ∈ l ∧ ¬ P c := by
  unfold kept at h
  rw [List.mem_filter] at h
  exact ⟨h.1, by simpa using h.2⟩
theorem near_in (hs : w ≤ 10 ∧ h ≤ 10) {a b : Cel} {c : Cel} (hc : c ∈ (if 1 < (kept (fun c => ¬ Is w h g 0 c.1 c.2) (Near a.1 a.2)).length then kept (fun c => c.1 = b.1 ∧ c.2 = b.2) (kept (fun c => ¬ Is w h g 0 c.1 c.2) (Near a.1 a.2)) else kept (fun c => ¬ Is w h g 0 c.1 c.2) (Near a.1 a.2))) :
    0 ≤ c.1 ∧ c.1 < 10 ∧ 0 ≤ c.2 ∧ c.2 < 10 := by
  have : c ∈ kept (fun c => ¬ Is w h g 0 c.1 c.2) (Near a.1 a.2) := by
    split at hc
    · exact (kept_mem hc).1
    · exact hc
  have h2 := Decidable.not_not.1 (kept_mem this).2
  simp only [Is] at h2
  omega
section
variable {Γ : Nat → Option Fn} {dsts : Nat → Option Nat} {ops : List Oper} {Q : St → Prop} {σ : St} {gd : Option (Nat × Bool)} {l1 l2 l3 l4 : List Nat}
end
def nightLev (q : Nat → Int) (qs : List S) (t : Cel) : List S := if lv q t < 9 then qs.set (10 * t.2.toNat + t.1.toNat) (.int .i8 (lv q t + 1)) else qs
end Go.DM

/- More rules: products, the greater of two, slices that are made and copied, functions that came as data. -/
namespace Go.DM
variable [Tok]
open Go.IntWalk
section
variable {Γ : Nat → Option Fn} {dsts : Nat → Option Nat} {ops : List Oper} {Q : St → Prop} {σ : St} {d : Option Nat} {g : Option (Nat × Bool)} {l1 l2 l3 l4 : List Nat}
theorem WR.ml {k : IntKind} {a b : Opd} {x y : Int} (hw : wanted dsts σ.env g = some true) (ha : ev σ.env a = .a (.d (.s (.int k x)))) (hb : ev σ.env b = .a (.d (.s (.int k y)))) (hn : k.wrap (x * y) = x * y)
    (K : WR Γ dsts ops Q (set d (.a (.d (.s (.int k (x * y))))) σ)) : WR Γ dsts (⟨d, .bin .mul a b, g, l1, l2, l3, l4⟩ :: ops) Q σ :=
  WR.q hw (by simp [quiet, ha, hb, bin, isShift, intBin, hn, sv]) K
theorem WR.mx {k k' : IntKind} {a b : Opd} {x y : Int} (hw : wanted dsts σ.env g = some true) (ha : ev σ.env a = .a (.d (.s (.int k x)))) (hb : ev σ.env b = .a (.d (.s (.int k' y))))
    (K : WR Γ dsts ops Q (set d (.a (.d (.s (.int k (max x y))))) σ)) : WR Γ dsts (⟨d, .mm true a b, g, l1, l2, l3, l4⟩ :: ops) Q σ :=
  WR.q hw (by simp only [quiet, ha, hb, mm, sv, if_true]; rw [show (if x < y then y else x) = max x y by omega]) K
theorem WR.sh {k k' : IntKind} {a b : Opd} {x : Int} (hw : wanted dsts σ.env g = some true) (ha : ev σ.env a = .a (.d (.s (.int k x)))) (hb : ev σ.env b = .a (.d (.s (.int k' 32)))) (hx : 0 ≤ x ∧ x < 4294967296) (hk : k.bits = 64)
    (K : WR Γ dsts ops Q (set d (.a (.d (.s (.int k 0)))) σ)) : WR Γ dsts (⟨d, .bin .shr a b, g, l1, l2, l3, l4⟩ :: ops) Q σ :=
  WR.q hw (by
    simp only [quiet, ha, hb, bin, isShift, if_true, shiftBin, hk, sv]
    have : Int.fdiv x (2 ^ (Nat.min (Int.toNat 32) 64)) = 0 := by
      have e : (2 : Int) ^ (Nat.min (Int.toNat 32) 64) = 4294967296 := by decide
      rw [e, Int.fdiv_eq_ediv_of_nonneg _ (by omega)]; omega
    rw [show (2 : Int) ^ (Nat.min (Int.toNat 32) 64) = 4294967296 by decide] at this
    simp [this, sv]) K
theorem WH.ml {k : IntKind} {a b : Opd} {x y : Int} (hw : wanted dsts (kill l1 (only l3 σ)).env g = some true) (ha : ev (kill l1 (only l3 σ)).env a = .a (.d (.s (.int k x)))) (hb : ev (kill l1 (only l3 σ)).env b = .a (.d (.s (.int k y)))) (hn : k.wrap (x * y) = x * y)
    (K : WH Γ dsts ops Q (set d (.a (.d (.s (.int k (x * y))))) σ)) : WH Γ dsts (⟨d, .bin .mul a b, g, l1, l2, l3, l4⟩ :: ops) Q σ :=
  WH.q hw (by simp [veil, quiet, ha, hb, bin, isShift, intBin, hn, sv]) rfl K
theorem WH.mx {k k' : IntKind} {a b : Opd} {x y : Int} (hw : wanted dsts (kill l1 (only l3 σ)).env g = some true) (ha : ev (kill l1 (only l3 σ)).env a = .a (.d (.s (.int k x)))) (hb : ev (kill l1 (only l3 σ)).env b = .a (.d (.s (.int k' y))))
    (K : WH Γ dsts ops Q (set d (.a (.d (.s (.int k (max x y))))) σ)) : WH Γ dsts (⟨d, .mm true a b, g, l1, l2, l3, l4⟩ :: ops) Q σ :=
  WH.q hw (by simp only [veil, quiet, ha, hb, mm, sv, if_true]; rw [show (if x < y then y else x) = max x y by omega]) rfl K
theorem WH.sh {k k' : IntKind} {a b : Opd} {x : Int} (hw : wanted dsts (kill l1 (only l3 σ)).env g = some true) (ha : ev (kill l1 (only l3 σ)).env a = .a (.d (.s (.int k x)))) (hb : ev (kill l1 (only l3 σ)).env b = .a (.d (.s (.int k' 32)))) (hx : 0 ≤ x ∧ x < 4294967296) (hk : k.bits = 64)
    (K : WH Γ dsts ops Q (set d (.a (.d (.s (.int k 0)))) σ)) : WH Γ dsts (⟨d, .bin .shr a b, g, l1, l2, l3, l4⟩ :: ops) Q σ :=
  WH.q hw (by
    simp only [veil, quiet, ha, hb, bin, isShift, if_true, shiftBin, hk, sv]
    have : Int.fdiv x (2 ^ (Nat.min (Int.toNat 32) 64)) = 0 := by
      have e : (2 : Int) ^ (Nat.min (Int.toNat 32) 64) = 4294967296 := by decide
      rw [e, Int.fdiv_eq_ediv_of_nonneg _ (by omega)]; omega
    rw [show (2 : Int) ^ (Nat.min (Int.toNat 32) 64) = 4294967296 by decide] at this
    simp [this, sv]) rfl K
theorem u64_in (n : Int) (h : 0 ≤ n ∧ n < 18446744073709551616) : IntKind.u64.wrap n = n := by simp [IntKind.wrap, IntKind.bits, IntKind.signed]; omega
theorem replicate_one (x : S) : ∀ n : Nat, replicate n [x] = List.replicate n x
  | 0 => rfl
  | n + 1 => by
    have ih := replicate_one x n
    simp only [replicate, List.replicate_succ, List.flatten_cons] at ih ⊢
    rw [ih]; rfl
theorem WR.mks {e n : Nat} {k k1 k2 : IntKind} {l c : Opd} (hw : wanted dsts σ.env g = some true) (hl : ev σ.env l = .a (.d (.s (.int k1 (n : Nat))))) (hc : ev σ.env c = .a (.d (.s (.int k2 (n : Nat))))) (hn : n ≤ 100000) (hp : noPar σ [e] = true)
    (K : WR Γ dsts ops Q (set (some e) (.a (.sl e 0 n 1)) (put e (.flat false (rowI k n fun _ => 0)) (kill [e] σ)))) : WR Γ dsts (⟨some e, .mks 1 [.int k 0] l c, g, l1, l2, l3, l4⟩ :: ops) Q σ := by
  refine WR.mk (d := e) (ob := .flat false (rowI k n fun _ => 0)) hw rfl rfl ?_ hp K
  simp only [makes, hl, hc, asI]
  rw [if_pos ⟨by omega, by trivial, by simp only [big]; omega, by trivial⟩]
  have : replicate (Int.toNat (n : Int)) [S.int k 0] = rowI k n fun _ => 0 := by
    rw [Int.toNat_natCast, replicate_one]
    simp only [rowI, List.map_const', List.length_range]
  rw [this]
  rfl
theorem cpy_dl {a b : Opd} {es o off n m : Nat} {p : Bool} {cs ys : List S} (hs : ∀ s, ev σ.env b ≠ .a (.d (.s (.str s)))) (ha : ev σ.env a = .a (.sl o off n es)) (ho : σ.objs o = some (.flat p cs)) (hb : elems σ.objs es (ev σ.env b) = some (m, ys)) (hle : off + n * es ≤ cs.length) {call : Calls} :
    delta Γ call d σ (.cpy es a b) = some ⟨.a (.d (.s (.int .i64 (Nat.min m n : Nat)))), [], [(o, .flat p (cs.take off ++ ys.take (Nat.min m n * es) ++ cs.drop (off + Nat.min m n * es)))]⟩ := by
  simp only [delta]
  split
  · rename_i h; first | (rw [hb] at h; cases h) | exact absurd h (hs _)
  · rename_i h
    rw [hb] at h; cases h
    simp only [ha, ho]
    rw [if_pos ⟨trivial, hle⟩]; rfl
theorem WR.cy {a b : Opd} {es o off n m : Nat} {p : Bool} {cs ys : List S} (hw : wanted dsts σ.env g = some true) (hs : ∀ s, ev σ.env b ≠ .a (.d (.s (.str s)))) (ha : ev σ.env a = .a (.sl o off n es)) (ho : σ.objs o = some (.flat p cs)) (hb : elems σ.objs es (ev σ.env b) = some (m, ys)) (hle : off + n * es ≤ cs.length)
    (K : WR Γ dsts ops Q (set d (.a (.d (.s (.int .i64 (Nat.min m n : Nat))))) (put o (.flat p (cs.take off ++ ys.take (Nat.min m n * es) ++ cs.drop (off + Nat.min m n * es))) σ))) : WR Γ dsts (⟨d, .cpy es a b, g, l1, l2, l3, l4⟩ :: ops) Q σ := by
  refine WR.cons ⟨0, step_dl hw (cpy_dl hs ha ho hb hle) rfl⟩ ?_
  simp only [applyD, insertAll, kill_nil]
  exact K
theorem WH.cy {a b : Opd} {es o off n m : Nat} {p : Bool} {cs ys : List S} (hw : wanted dsts (kill l1 (only l3 σ)).env g = some true) (hs : ∀ s, ev (kill l1 (only l3 σ)).env b ≠ .a (.d (.s (.str s)))) (ha : ev (kill l1 (only l3 σ)).env a = .a (.sl o off n es)) (ho : (kill l1 (only l3 σ)).objs o = some (.flat p cs)) (hb : elems (kill l1 (only l3 σ)).objs es (ev (kill l1 (only l3 σ)).env b) = some (m, ys)) (hle : off + n * es ≤ cs.length) (hi : l2.contains o = true)
    (K : WH Γ dsts ops Q (set d (.a (.d (.s (.int .i64 (Nat.min m n : Nat))))) (put o (.flat p (cs.take off ++ ys.take (Nat.min m n * es) ++ cs.drop (off + Nat.min m n * es))) σ))) : WH Γ dsts (⟨d, .cpy es a b, g, l1, l2, l3, l4⟩ :: ops) Q σ := by
  refine WH.cons ⟨0, stepH_dl hw (cpy_dl hs ha ho hb hle) (by simp only [within, List.all_cons, List.all_nil, hi]; rfl) rfl⟩ ?_
  simp only [applyD, hideD, insertAll, kill_nil, List.map_cons, List.map_nil, killO, killV, deadA]
  exact K
end
section
variable {Γ : Nat → Option Fn} {dsts : Nat → Option Nat} {ops : List Oper} {Q : St → Prop} {σ : St} {d : Option Nat} {gd : Option (Nat × Bool)} {l1 l2 l3 l4 : List Nat}
end
def HoldsC (Γ : Nat → Option Fn) (x : D) (P : Cel → Prop) [DecidablePred P] (dom : Cel → Prop) : Prop :=
  ∃ f fn pre post, x = .clo f pre post ∧ Γ f = some fn ∧ fn.muts = [] ∧ ∀ c, dom c → Gives Γ f (pre.map .d ++ [ac c.1 c.2] ++ post.map .d) (rb (decide (P c)))
section
variable {Γ : Nat → Option Fn} {dsts : Nat → Option Nat} {ops : List Oper} {Q : St → Prop} {σ : St} {g : Option (Nat × Bool)} {l1 l2 l3 l4 : List Nat}
theorem args_pre (σ : St) : ∀ (ds : List D) (vs : List V) (as : List Arg), args σ [] [] vs = some as → args σ [] [] (ds.map (fun x => V.a (.d x)) ++ vs) = some (ds.map .d ++ as)
  | [], vs, as, h => h
  | d :: ds, vs, as, h => args_d (toD_d rfl) (args_pre σ ds vs as h)
theorem holds_call {x : D} {P : Cel → Prop} [DecidablePred P] {dom : Cel → Prop} (hx : HoldsC Γ x P dom) {a b : Opd} {u v : Int} {e : Nat} {σ : St} (ha : ev σ.env a = .a (.d x)) (hb : ev σ.env b = .a (.d (.agg [.int .i8 u, .int .i8 v]))) (hd : dom (u, v)) :
    ∃ f fn vs as, callee σ (.callv a [b]) = some (f, vs) ∧ Γ f = some fn ∧ mutIds fn.muts vs = [] ∧ args σ [] fn.muts vs = some as ∧ Gives Γ f as (rb (decide (P (u, v)))) ∧ backs σ fn.muts vs [] = some [] := by
  obtain ⟨f, fn, pre, post, rfl, h1, h2, h3⟩ := hx
  refine ⟨f, fn, _, _, by simp [callee, ha, hb]; rfl, h1, ?_, ?_, h3 _ hd, ?_⟩
  · rw [h2]
    cases h : (pre.map (fun x => V.a (.d x)) ++ _ : List V) <;> rfl
  · rw [h2]
    have h0 : args σ [] [] (post.map fun x => V.a (.d x)) = some (post.map .d) := by
      have := args_pre σ post [] [] args_nil
      simpa using this
    have h4 := args_d (σ := σ) (ids := []) (v := .a (.d (.agg [.int .i8 u, .int .i8 v]))) (toD_d rfl) h0
    have h5 := args_pre σ pre _ _ h4
    simpa using h5
  · rw [h2]; exact backs_no
theorem WR.vh {x : D} {P : Cel → Prop} [DecidablePred P] {dom : Cel → Prop} (hx : HoldsC Γ x P dom) {a b : Opd} {u v : Int} {e : Nat} (hw : wanted dsts σ.env g = some true) (ha : ev σ.env a = .a (.d x)) (hb : ev σ.env b = .a (.d (.agg [.int .i8 u, .int .i8 v]))) (hd : dom (u, v))
    (k1 : P (u, v) → WR Γ dsts ops Q (set (some e) (.a (.d (.s (.bool true)))) σ)) (k2 : ¬ P (u, v) → WR Γ dsts ops Q (set (some e) (.a (.d (.s (.bool false)))) σ)) : WR Γ dsts (⟨some e, .callv a [b], g, l1, l2, l3, l4⟩ :: ops) Q σ := by
  obtain ⟨f, fn, vs, as, h1, h2, h3, h4, h5, h6⟩ := holds_call (e := e) hx ha hb hd
  refine WR.call (d := e) (v := .a (.d (.s (.bool (decide (P (u, v))))))) (ps := []) (ns := []) hw rfl h1 h2 (by rw [h3]; rfl) (by rw [h3]; exact h4) h5 h6 rfl rfl rfl ?_
  simp only [List.append_nil, List.map_nil, insertAll, kill_nil]
  by_cases h : P (u, v)
  · simp only [h, decide_true]; exact k1 h
  · simp only [h, decide_false]; exact k2 h
end
theorem retOf_o2 {σ : St} {as : List Arg} {v : V} {p n : Nat} {l r : List Cel} (h : v = .a (.sl p 0 n 2)) (ho : σ.objs p = some (.flat false (encC (l ++ r)))) (hl : n = l.length) : retOf as σ v = some (.own l.length 2 (encC l), some p) := by
  subst h hl
  simp only [retOf, ho]
  rw [if_pos (by rw [encC_length, List.length_append]; omega), encC_takeA]
theorem ldAt {n off : Nat} {ag : Bool} {cs : List S} {v : V} (h : loadC n ag cs off = some v) : loadC n ag cs off = some v := h
theorem rowI_set {k : IntKind} {n i : Nat} {f : Nat → Int} (v : Int) (h : i < n) : (rowI k n f).set i (.int k v) = rowI k n (gset f i v) := by
  refine List.ext_getElem? fun j => ?_
  by_cases hj : j < n
  · rw [rowI_get hj]
    by_cases e : i = j
    · subst e; rw [List.getElem?_set_self (by rw [rowI_len]; exact h)]; simp [gset]
    · rw [List.getElem?_set_ne e, rowI_get hj]; simp only [gset]; rw [if_neg (fun h => e h.symm)]
  · rw [List.getElem?_eq_none (by rw [List.length_set, rowI_len]; omega), List.getElem?_eq_none (by rw [rowI_len]; omega)]
theorem stR {p : Bool} {k : IntKind} {n i : Nat} {f : Nat → Int} {v : Int} (h : i < n) : storeO 1 (.a (.d (.s (.int k v)))) (0 + i * 1) (.flat p (rowI k n f)) = some (.flat p (rowI k n (gset f i v))) := by
  rw [storeAt (k := i) (by rw [rowI_len]; exact h) (by omega), rowI_set v h]
theorem rowI_congr {k : IntKind} {n : Nat} {f f' : Nat → Int} (h : ∀ i, i < n → f i = f' i) : rowI k n f = rowI k n f' := by
  unfold rowI
  apply List.map_congr_left
  intro i hi
  rw [h i (List.mem_range.1 hi)]
section
variable {Γ : Nat → Option Fn} {dsts : Nat → Option Nat} {ops : List Oper} {Q : St → Prop} {σ : St} {d : Option Nat} {g : Option (Nat × Bool)} {l1 l2 l3 l4 : List Nat}
end
section
variable {objs : Nat → Option Ob} {k : Nat}
theorem toD_clo {v : V} {f : Nat} {pre post : List A} {pre' post' : List D} (hv : v = .clo f pre post) (h1 : all? (toDA objs (toDV objs k)) pre = some pre') (h2 : all? (toDA objs (toDV objs k)) post = some post') : toDV objs (k + 1) v = some (.clo f pre' post') := by
  subst hv; simp only [toDV, h1, h2, Option.bind_some, Option.map_some]
theorem toDA_var {r : V → Option D} {o : Nat} {x : V} {d : D} (ho : objs o = some (.var x)) (hr : r x = some d) : toDA objs r (.ptr o 0) = some (.refd d) := by simp only [toDA, ho, if_true, hr, Option.map_some]
theorem toD_slX {v : V} {o n es : Nat} {b : Bool} {cs : List S} (hv : v = .a (.sl o 0 n es)) (ho : objs o = some (.flat b cs)) (hl : cs.length = n * es) : toDV objs (k + 1) v = some (.sl n es cs) := by
  subst hv
  simp only [toDV, toDA, ho]
  rw [if_pos (by omega), List.drop_zero, ← hl, List.take_length]
end
theorem ldRd {k : IntKind} {n : Nat} {f : Nat → Int} {i : Nat} (h : i < n) : loadC 1 false (rowI k n f) (i * 1) = some (.a (.d (.s (.int k (f i))))) :=
  loadC_one (by rw [Nat.mul_one]; exact rowI_get h)
end Go.DM

/- More rules: two cells that are compared. -/
namespace Go.DM
variable [Tok]
theorem noPar_mixT {σ σ0 : St} {o : Nat} {L LO : List Nat} (hn : has LO o = true) (h : noPar σ0 [o] = true) : noPar (mix L LO σ0 σ) [o] = true := by
  rw [noPar_one] at h ⊢
  intro cs' e
  simp only [mix, hn, cond_true] at e
  exact h _ e
section
variable {Γ : Nat → Option Fn} {dsts : Nat → Option Nat} {ops : List Oper} {Q : St → Prop} {σ : St} {d : Option Nat} {g : Option (Nat × Bool)} {l1 l2 l3 l4 : List Nat}
theorem eb_q {σ : St} {ng : Bool} {a b : Opd} {x y : Bool} (ha : ev σ.env a = .a (.d (.s (.bool x)))) (hb : ev σ.env b = .a (.d (.s (.bool y)))) : quiet σ (.eqa ng false [.bool] a b) = some (.a (.d (.s (.bool ((x == y) != ng))))) := by
  cases ng <;> cases x <;> cases y <;> simp [quiet, ha, hb, cellsA, hasKs, hasK, eqSs, eqS, sv]
theorem WR.ebb {ng : Bool} {a b : Opd} {x y : Bool} (hw : wanted dsts σ.env g = some true) (ha : ev σ.env a = .a (.d (.s (.bool x)))) (hb : ev σ.env b = .a (.d (.s (.bool y))))
    (K : WR Γ dsts ops Q (set d (.a (.d (.s (.bool ((x == y) != ng))))) σ)) : WR Γ dsts (⟨d, .eqa ng false [.bool] a b, g, l1, l2, l3, l4⟩ :: ops) Q σ := WR.q hw (eb_q ha hb) K
theorem WH.ebb {ng : Bool} {a b : Opd} {x y : Bool} (hw : wanted dsts (kill l1 (only l3 σ)).env g = some true) (ha : ev (kill l1 (only l3 σ)).env a = .a (.d (.s (.bool x)))) (hb : ev (kill l1 (only l3 σ)).env b = .a (.d (.s (.bool y))))
    (K : WH Γ dsts ops Q (set d (.a (.d (.s (.bool ((x == y) != ng))))) σ)) : WH Γ dsts (⟨d, .eqa ng false [.bool] a b, g, l1, l2, l3, l4⟩ :: ops) Q σ := WH.q hw (eb_q ha hb) rfl K
end
theorem np {s : St} {l : List Nat} (h : noPar s l = true := by (repeat' first | exact rfl | assumption | (with_reducible apply noPar_set) | ((with_reducible apply noPar_puto); exact rfl) | (with_reducible apply noPar_put) | (with_reducible apply noPar_putv) | (with_reducible apply noPar_kill) | ((with_reducible apply noPar_mix); exact rfl) | ((with_reducible apply noPar_mixT); exact rfl)); done) : noPar s l = true := h
theorem npb {s : St} {l : List Nat} (h : noPar s l = true := by (repeat' first | (with_reducible apply noPar_set) | ((with_reducible apply noPar_puto); exact rfl) | (with_reducible apply noPar_put) | (with_reducible apply noPar_putv) | (with_reducible apply noPar_kill) | ((with_reducible apply noPar_mix); exact rfl) | ((with_reducible apply noPar_mixT); exact rfl) | assumption | exact rfl); done) : noPar s l = true := h
end Go.DM

/- Rules for texts: strings, rows of strings, bytes. -/
namespace Go.DM
variable [Tok]
open Go.IntWalk
def gB (s : List UInt8) (k : Nat) : Int := ((s.getD k 0).toNat : Int)
section
variable {dsts : Nat → Option Nat} {ops : List Oper} {Q : St → Prop} {σ : St} {d : Option Nat} {gd : Option (Nat × Bool)} {l1 l2 l3 l4 : List Nat} {Γ : Nat → Option Fn}
theorem quiet_ist {a i : Opd} {s : List UInt8} {k : IntKind} {n : Int} (ha : ev σ.env a = .a (.d (.s (.str s)))) (hi : ev σ.env i = .a (.d (.s (.int k n)))) (hb : 0 ≤ n ∧ n < s.length) : quiet σ (.idxstr a i) = some (.a (.d (.s (.int .u8 (gB s n.toNat))))) := by
  have hl : n.toNat < s.length := by omega
  simp only [quiet, ha, hi]
  rw [if_pos hb.1, List.getElem?_eq_getElem hl, Option.map_some]
  simp [gB, List.getD_eq_getElem?_getD, hl, sv]
theorem WR.ist {a i : Opd} {s : List UInt8} {k : IntKind} {n : Int} (hw : wanted dsts σ.env gd = some true) (ha : ev σ.env a = .a (.d (.s (.str s)))) (hi : ev σ.env i = .a (.d (.s (.int k n)))) (hb : 0 ≤ n ∧ n < s.length)
    (K : WR Γ dsts ops Q (set d (.a (.d (.s (.int .u8 (gB s n.toNat))))) σ)) : WR Γ dsts (⟨d, .idxstr a i, gd, l1, l2, l3, l4⟩ :: ops) Q σ := WR.q hw (quiet_ist ha hi hb) K
theorem WH.ist {a i : Opd} {s : List UInt8} {k : IntKind} {n : Int} (hw : wanted dsts (kill l1 (only l3 σ)).env gd = some true) (ha : ev (kill l1 (only l3 σ)).env a = .a (.d (.s (.str s)))) (hi : ev (kill l1 (only l3 σ)).env i = .a (.d (.s (.int k n)))) (hb : 0 ≤ n ∧ n < s.length)
    (K : WH Γ dsts ops Q (set d (.a (.d (.s (.int .u8 (gB s n.toNat))))) σ)) : WH Γ dsts (⟨d, .idxstr a i, gd, l1, l2, l3, l4⟩ :: ops) Q σ := WH.q hw (quiet_ist ha hi hb) rfl K
end
section
variable {dsts : Nat → Option Nat} {ops : List Oper} {Q : St → Prop} {σ : St} {d : Option Nat} {gd : Option (Nat × Bool)} {l1 l2 l3 l4 : List Nat} {Γ : Nat → Option Fn}
theorem quiet_sad {a b : Opd} {s t : List UInt8} (ha : ev σ.env a = .a (.d (.s (.str s)))) (hb : ev σ.env b = .a (.d (.s (.str t)))) (hl : s.length + t.length ≤ 1073741824) : quiet σ (.bin .add a b) = some (.a (.d (.s (.str (s ++ t))))) := by
  simp only [quiet, ha, hb, bin, strBin]
  rw [if_pos (show s.length + t.length ≤ big from hl)]; rfl
theorem WR.sad {a b : Opd} {s t : List UInt8} (hw : wanted dsts σ.env gd = some true) (ha : ev σ.env a = .a (.d (.s (.str s)))) (hb : ev σ.env b = .a (.d (.s (.str t)))) (hl : s.length + t.length ≤ 1073741824)
    (K : WR Γ dsts ops Q (set d (.a (.d (.s (.str (s ++ t))))) σ)) : WR Γ dsts (⟨d, .bin .add a b, gd, l1, l2, l3, l4⟩ :: ops) Q σ := WR.q hw (quiet_sad ha hb hl) K
theorem WH.sad {a b : Opd} {s t : List UInt8} (hw : wanted dsts (kill l1 (only l3 σ)).env gd = some true) (ha : ev (kill l1 (only l3 σ)).env a = .a (.d (.s (.str s)))) (hb : ev (kill l1 (only l3 σ)).env b = .a (.d (.s (.str t)))) (hl : s.length + t.length ≤ 1073741824)
    (K : WH Γ dsts ops Q (set d (.a (.d (.s (.str (s ++ t))))) σ)) : WH Γ dsts (⟨d, .bin .add a b, gd, l1, l2, l3, l4⟩ :: ops) Q σ := WH.q hw (quiet_sad ha hb hl) rfl K
theorem quiet_rem {a b : Opd} {k : IntKind} {n m : Int} (ha : ev σ.env a = .a (.d (.s (.int k n)))) (hb : ev σ.env b = .a (.d (.s (.int k m)))) (hm : m ≠ 0) : quiet σ (.bin .rem a b) = some (.a (.d (.s (.int k (n.tmod m))))) := by
  simp only [quiet, ha, hb, bin, isShift, intBin, if_true]
  rw [if_neg hm]; rfl
theorem WR.rem {a b : Opd} {k : IntKind} {n m : Int} (hw : wanted dsts σ.env gd = some true) (ha : ev σ.env a = .a (.d (.s (.int k n)))) (hb : ev σ.env b = .a (.d (.s (.int k m)))) (hm : m ≠ 0)
    (K : WR Γ dsts ops Q (set d (.a (.d (.s (.int k (n.tmod m))))) σ)) : WR Γ dsts (⟨d, .bin .rem a b, gd, l1, l2, l3, l4⟩ :: ops) Q σ := WR.q hw (quiet_rem ha hb hm) K
theorem WH.rem {a b : Opd} {k : IntKind} {n m : Int} (hw : wanted dsts (kill l1 (only l3 σ)).env gd = some true) (ha : ev (kill l1 (only l3 σ)).env a = .a (.d (.s (.int k n)))) (hb : ev (kill l1 (only l3 σ)).env b = .a (.d (.s (.int k m)))) (hm : m ≠ 0)
    (K : WH Γ dsts ops Q (set d (.a (.d (.s (.int k (n.tmod m))))) σ)) : WH Γ dsts (⟨d, .bin .rem a b, gd, l1, l2, l3, l4⟩ :: ops) Q σ := WH.q hw (quiet_rem ha hb hm) rfl K
theorem quiet_quo {a b : Opd} {k : IntKind} {n m : Int} (ha : ev σ.env a = .a (.d (.s (.int k n)))) (hb : ev σ.env b = .a (.d (.s (.int k m)))) (hm : m ≠ 0) (hn : k.wrap (n.tdiv m) = n.tdiv m) : quiet σ (.bin .quo a b) = some (.a (.d (.s (.int k (n.tdiv m))))) := by
  simp only [quiet, ha, hb, bin, isShift, intBin, if_true]
  rw [if_neg hm, hn]; rfl
theorem WR.quo {a b : Opd} {k : IntKind} {n m : Int} (hw : wanted dsts σ.env gd = some true) (ha : ev σ.env a = .a (.d (.s (.int k n)))) (hb : ev σ.env b = .a (.d (.s (.int k m)))) (hm : m ≠ 0) (hn : k.wrap (n.tdiv m) = n.tdiv m)
    (K : WR Γ dsts ops Q (set d (.a (.d (.s (.int k (n.tdiv m))))) σ)) : WR Γ dsts (⟨d, .bin .quo a b, gd, l1, l2, l3, l4⟩ :: ops) Q σ := WR.q hw (quiet_quo ha hb hm hn) K
theorem WH.quo {a b : Opd} {k : IntKind} {n m : Int} (hw : wanted dsts (kill l1 (only l3 σ)).env gd = some true) (ha : ev (kill l1 (only l3 σ)).env a = .a (.d (.s (.int k n)))) (hb : ev (kill l1 (only l3 σ)).env b = .a (.d (.s (.int k m)))) (hm : m ≠ 0) (hn : k.wrap (n.tdiv m) = n.tdiv m)
    (K : WH Γ dsts ops Q (set d (.a (.d (.s (.int k (n.tdiv m))))) σ)) : WH Γ dsts (⟨d, .bin .quo a b, gd, l1, l2, l3, l4⟩ :: ops) Q σ := WH.q hw (quiet_quo ha hb hm hn) rfl K
theorem WR.remp {a b : Opd} {k : IntKind} {n m : Int} (hw : wanted dsts σ.env gd = some true) (ha : ev σ.env a = .a (.d (.s (.int k n)))) (hb : ev σ.env b = .a (.d (.s (.int k m)))) (hm : 0 ≤ n ∧ 0 < m)
    (K : WR Γ dsts ops Q (set d (.a (.d (.s (.int k (n % m))))) σ)) : WR Γ dsts (⟨d, .bin .rem a b, gd, l1, l2, l3, l4⟩ :: ops) Q σ := WR.q hw (by
      have := quiet_rem ha hb (by omega)
      rw [Int.tmod_eq_emod_of_nonneg hm.1] at this; exact this) K
theorem WH.remp {a b : Opd} {k : IntKind} {n m : Int} (hw : wanted dsts (kill l1 (only l3 σ)).env gd = some true) (ha : ev (kill l1 (only l3 σ)).env a = .a (.d (.s (.int k n)))) (hb : ev (kill l1 (only l3 σ)).env b = .a (.d (.s (.int k m)))) (hm : 0 ≤ n ∧ 0 < m)
    (K : WH Γ dsts ops Q (set d (.a (.d (.s (.int k (n % m))))) σ)) : WH Γ dsts (⟨d, .bin .rem a b, gd, l1, l2, l3, l4⟩ :: ops) Q σ := WH.q hw (by
      have := quiet_rem ha hb (by omega)
      rw [Int.tmod_eq_emod_of_nonneg hm.1] at this; exact this) rfl K
theorem quiet_sst {a : Opd} {lo hi : Option Opd} {s : List UInt8} {l h : Nat} (ha : ev σ.env a = .a (.d (.s (.str s)))) (hl : bound (lo.map (ev σ.env)) 0 = some l) (hh : bound (hi.map (ev σ.env)) s.length = some h) (hb : l ≤ h ∧ h ≤ s.length) : quiet σ (.slc .str a lo hi) = some (.a (.d (.s (.str ((s.drop l).take (h - l)))))) := by
  simp only [quiet, ha, slc, hl, hh, Option.bind_some]
  rw [if_pos hb]; rfl
theorem WR.sst {a : Opd} {lo hi : Option Opd} {s : List UInt8} {l h : Nat} (hw : wanted dsts σ.env gd = some true) (ha : ev σ.env a = .a (.d (.s (.str s)))) (hl : bound (lo.map (ev σ.env)) 0 = some l) (hh : bound (hi.map (ev σ.env)) s.length = some h) (hb : l ≤ h ∧ h ≤ s.length)
    (K : WR Γ dsts ops Q (set d (.a (.d (.s (.str ((s.drop l).take (h - l)))))) σ)) : WR Γ dsts (⟨d, .slc .str a lo hi, gd, l1, l2, l3, l4⟩ :: ops) Q σ := WR.q hw (quiet_sst ha hl hh hb) K
theorem WH.sst {a : Opd} {lo hi : Option Opd} {s : List UInt8} {l h : Nat} (hw : wanted dsts (kill l1 (only l3 σ)).env gd = some true) (ha : ev (kill l1 (only l3 σ)).env a = .a (.d (.s (.str s)))) (hl : bound (lo.map (ev (kill l1 (only l3 σ)).env)) 0 = some l) (hh : bound (hi.map (ev (kill l1 (only l3 σ)).env)) s.length = some h) (hb : l ≤ h ∧ h ≤ s.length)
    (K : WH Γ dsts ops Q (set d (.a (.d (.s (.str ((s.drop l).take (h - l)))))) σ)) : WH Γ dsts (⟨d, .slc .str a lo hi, gd, l1, l2, l3, l4⟩ :: ops) Q σ := WH.q hw (quiet_sst ha hl hh hb) rfl K
theorem quiet_seq {ng : Bool} {a b : Opd} {s t : List UInt8} (ha : ev σ.env a = .a (.d (.s (.str s)))) (hb : ev σ.env b = .a (.d (.s (.str t)))) : quiet σ (.bin (if ng then .neq else .eql) a b) = some (.a (.d (.s (.bool (if ng then !(s == t) else (s == t)))))) := by
  cases ng <;> simp [quiet, ha, hb, bin, strBin, sv, bne]
theorem WR.snq {a b : Opd} {s t : List UInt8} (hw : wanted dsts σ.env gd = some true) (ha : ev σ.env a = .a (.d (.s (.str s)))) (hb : ev σ.env b = .a (.d (.s (.str t))))
    (k1 : s ≠ t → WR Γ dsts ops Q (set d (.a (.d (.s (.bool true)))) σ)) (k2 : s = t → WR Γ dsts ops Q (set d (.a (.d (.s (.bool false)))) σ)) : WR Γ dsts (⟨d, .bin .neq a b, gd, l1, l2, l3, l4⟩ :: ops) Q σ := by
  by_cases h : s = t
  · exact WR.q hw (by rw [show BinOp.neq = (if true then BinOp.neq else .eql) from rfl, quiet_seq ha hb]; simp [h]) (k2 h)
  · exact WR.q hw (by rw [show BinOp.neq = (if true then BinOp.neq else .eql) from rfl, quiet_seq ha hb]; simp [h]) (k1 h)
theorem WH.snq {a b : Opd} {s t : List UInt8} (hw : wanted dsts (kill l1 (only l3 σ)).env gd = some true) (ha : ev (kill l1 (only l3 σ)).env a = .a (.d (.s (.str s)))) (hb : ev (kill l1 (only l3 σ)).env b = .a (.d (.s (.str t))))
    (k1 : s ≠ t → WH Γ dsts ops Q (set d (.a (.d (.s (.bool true)))) σ)) (k2 : s = t → WH Γ dsts ops Q (set d (.a (.d (.s (.bool false)))) σ)) : WH Γ dsts (⟨d, .bin .neq a b, gd, l1, l2, l3, l4⟩ :: ops) Q σ := by
  by_cases h : s = t
  · exact WH.q hw (by rw [show veil _ σ = kill l1 (only l3 σ) from rfl, show BinOp.neq = (if true then BinOp.neq else .eql) from rfl, quiet_seq ha hb]; simp [h]) rfl (k2 h)
  · exact WH.q hw (by rw [show veil _ σ = kill l1 (only l3 σ) from rfl, show BinOp.neq = (if true then BinOp.neq else .eql) from rfl, quiet_seq ha hb]; simp [h]) rfl (k1 h)
theorem bytesOf_encI : ∀ l : List Int, bytesOf (encI .u8 l) = some (l.map fun n => UInt8.ofNat n.toNat)
  | [] => rfl
  | n :: r => by simp only [encI, bytesOf, bytesOf_encI r, Option.map_some, List.map_cons]
theorem quiet_ob {a : Opd} {p : Nat} {b : Bool} {l : List Int} (ha : ev σ.env a = .a (.sl p 0 l.length 1)) (ho : σ.objs p = some (.flat b (encI .u8 l))) : quiet σ (.conv .ofBytes a) = some (.a (.d (.s (.str (l.map fun n => UInt8.ofNat n.toNat))))) := by
  have hl := encI_length .u8 l
  simp only [quiet, ha, elems, ho]
  rw [if_pos ⟨trivial, by omega⟩, Option.bind_some]
  simp only [List.drop_zero]
  rw [List.take_of_length_le (by omega), bytesOf_encI]; rfl
theorem WR.ob {a : Opd} {p : Nat} {b : Bool} {l : List Int} (hw : wanted dsts σ.env gd = some true) (ha : ev σ.env a = .a (.sl p 0 l.length 1)) (ho : σ.objs p = some (.flat b (encI .u8 l)))
    (K : WR Γ dsts ops Q (set d (.a (.d (.s (.str (l.map fun n => UInt8.ofNat n.toNat))))) σ)) : WR Γ dsts (⟨d, .conv .ofBytes a, gd, l1, l2, l3, l4⟩ :: ops) Q σ := WR.q hw (quiet_ob ha ho) K
theorem WH.ob {a : Opd} {p : Nat} {b : Bool} {l : List Int} (hw : wanted dsts (kill l1 (only l3 σ)).env gd = some true) (ha : ev (kill l1 (only l3 σ)).env a = .a (.sl p 0 l.length 1)) (ho : (kill l1 (only l3 σ)).objs p = some (.flat b (encI .u8 l)))
    (K : WH Γ dsts ops Q (set d (.a (.d (.s (.str (l.map fun n => UInt8.ofNat n.toNat))))) σ)) : WH Γ dsts (⟨d, .conv .ofBytes a, gd, l1, l2, l3, l4⟩ :: ops) Q σ := WH.q hw (quiet_ob ha ho) rfl K
theorem WR.bsI1 {e : Nat} {a0 : Opd} {ik : IntKind} {x0 : Int} (hw : wanted dsts σ.env gd = some true) (h0 : ev σ.env a0 = .a (.d (.s (.int ik x0)))) (hp : noPar σ [e] = true) (k : WR Γ dsts ops Q (set (some e) (.a (.sl e 0 [x0].length 1)) (put e (.flat false (encI ik [x0])) (kill [e] σ)))) : WR Γ dsts (⟨some e, .bsl 1 1 [.int ik 0] [(0, a0)], gd, l1, l2, l3, l4⟩ :: ops) Q σ :=
  WR.mk (d := e) (ob := .flat false (encI ik [x0])) hw rfl rfl (by simp [makes, all?, h0, cellsOf, fill, replicate, List.replicate, encI]) hp k
theorem WH.bsI1 {e : Nat} {a0 : Opd} {ik : IntKind} {x0 : Int} (hw : wanted dsts (kill l1 (only l3 σ)).env gd = some true) (h0 : ev (kill l1 (only l3 σ)).env a0 = .a (.d (.s (.int ik x0)))) (hp : noPar σ [e] = true) (hi : l2.contains e = true) (hv : killV l1 (.a (.sl e 0 [x0].length 1)) = .a (.sl e 0 [x0].length 1)) (k : WH Γ dsts ops Q (set (some e) (.a (.sl e 0 [x0].length 1)) (put e (.flat false (encI ik [x0])) (kill [e] σ)))) : WH Γ dsts (⟨some e, .bsl 1 1 [.int ik 0] [(0, a0)], gd, l1, l2, l3, l4⟩ :: ops) Q σ :=
  WH.mk (d := e) (ob := .flat false (encI ik [x0])) hw rfl rfl (by simp [makes, veil, all?, h0, cellsOf, fill, replicate, List.replicate, encI]) hp hi hv rfl k
end
abbrev gS (l : List (List UInt8)) (k : Nat) : List UInt8 := l.getD k []
section
variable {dsts : Nat → Option Nat} {ops : List Oper} {Q : St → Prop} {σ : St} {d : Option Nat} {g : Option (Nat × Bool)} {l1 l2 l3 l4 : List Nat} {Γ : Nat → Option Fn}
end
end Go.DM
