/- Rules for runs of the small machine, one operation each: the state stays written out, so that what an operation reads is found by computation. -/
import Derived.Test.YtgbifpijjfolbaaGreatK441Given
import Derived.IntWalk
set_option linter.all false
namespace Go.DM
variable [Tok]
theorem deadA_nil (x : A) : deadA [] x = false := by cases x <;> simp [deadA]
theorem killV_nil (v : V) : killV [] v = v := by
  cases v with
  | a x => simp [killV, deadA_nil]
  | clo f p q => simp [killV, deadA_nil]
  | tup xs => simp [killV, deadA_nil]
  | undef => rfl
theorem kill_nil (σ : St) : kill [] σ = σ := by
  cases σ with
  | mk e o =>
    simp only [kill, killV_nil, St.mk.injEq, true_and]
    funext i
    cases o i with
    | none => simp
    | some ob => cases ob <;> simp [killO, killV_nil, deadA_nil]
section
variable {Γ : Nat → Option Fn} {dsts : Nat → Option Nat} {o : Oper} {ops : List Oper} {Q : St → Prop} {σ : St}
theorem delta_quiet {call : Calls} {v : V} (hq : quiet σ o.op = some v) : delta Γ call o.dst σ o.op = some { v := v } := by
  obtain ⟨d, op, g, h, w, s, b⟩ := o
  simp only at hq
  cases op <;> first
    | (simp [quiet] at hq; done)
    | (simp only [delta, hq])
theorem step_quiet {call : Calls} {v : V} (hw : wanted dsts σ.env o.guard = some true) (hq : quiet σ o.op = some v) : step Γ call dsts o σ = some (set o.dst v σ) := by
  simp [step, deltaG, hw, delta_quiet hq, noPar, applyD, insertAll, kill_nil]
theorem delta_makes {call : Calls} {d : Nat} {v : V} {ps : List (Nat × Ob)} (hd : o.dst = some d) (hq : quiet σ o.op = none) (hm : makes σ d o.op = some (v, ps)) : delta Γ call o.dst σ o.op = some { v := v, kills := ps.map (·.1), puts := ps } := by
  obtain ⟨d', op, g, h, w, s, b⟩ := o
  simp only at hq hm hd
  subst hd
  cases op <;> first
    | (simp [makes] at hm; done)
    | (simp only [delta, hq, Option.bind_some, hm, Option.map_some])
theorem WR.mk {d : Nat} {ob : Ob} {v : V} (hw : wanted dsts σ.env o.guard = some true) (hd : o.dst = some d) (hq : quiet σ o.op = none) (hm : makes σ d o.op = some (v, [(d, ob)])) (hp : noPar σ [d] = true)
    (k : WR Γ dsts ops Q (set (some d) v (put d ob (kill [d] σ)))) : WR Γ dsts (o :: ops) Q σ :=
  WR.cons ⟨0, by
    have h := delta_makes (Γ := Γ) (call := callN Γ 0) hd hq hm
    rw [hd] at h
    simp only [step, deltaG, hw, Option.bind_some, if_true, hd, h, List.map_cons, List.map_nil, hp, applyD, insertAll]⟩ k
theorem WR.q_mk {e : Nat} {zs : List S} {g : Option (Nat × Bool)} {l1 l2 l3 l4 : List Nat} (hw : wanted dsts σ.env g = some true) (hp : noPar σ [e] = true) (k : WR Γ dsts ops Q (set (some e) (.a (.ptr e 0)) (put e (.flat false zs) (kill [e] σ)))) : WR Γ dsts (⟨some e, .alloc zs, g, l1, l2, l3, l4⟩ :: ops) Q σ :=
  WR.mk (d := e) (ob := .flat false zs) hw rfl rfl rfl hp k
theorem WR.q_box {n e : Nat} {a : Opd} {v : V} {ob : Ob} {g : Option (Nat × Bool)} {l1 l2 l3 l4 : List Nat} (hw : wanted dsts σ.env g = some true) (hm : boxV e n (ev σ.env a) = some (v, [(e, ob)])) (hp : noPar σ [e] = true) (k : WR Γ dsts ops Q (set (some e) v (put e ob (kill [e] σ)))) : WR Γ dsts (⟨some e, .box n a, g, l1, l2, l3, l4⟩ :: ops) Q σ :=
  WR.mk (d := e) (ob := ob) hw rfl rfl hm hp k
theorem WR.q {v : V} (hw : wanted dsts σ.env o.guard = some true) (hq : quiet σ o.op = some v) (k : WR Γ dsts ops Q (set o.dst v σ)) : WR Γ dsts (o :: ops) Q σ :=
  WR.cons ⟨0, step_quiet hw hq⟩ k
section
variable {d : Option Nat} {g : Option (Nat × Bool)} {l1 l2 l3 l4 : List Nat}
theorem WR.x {x : A} (hw : wanted dsts σ.env o.guard = some true) (hq : quiet σ o.op = some (.a x)) (k : WR Γ dsts ops Q (set o.dst (.a x) σ)) : WR Γ dsts (o :: ops) Q σ := WR.q hw hq k
theorem WR.y {x : V} (hw : wanted dsts σ.env o.guard = some true) (hq : quiet σ o.op = some x) (k : WR Γ dsts ops Q (set o.dst x σ)) : WR Γ dsts (o :: ops) Q σ := WR.q hw hq k
theorem WR.mv {a : Opd} {x : A} (hw : wanted dsts σ.env g = some true) (hq : ev σ.env a = .a x) (k : WR Γ dsts ops Q (set d (.a x) σ)) : WR Γ dsts (⟨d, .mv a, g, l1, l2, l3, l4⟩ :: ops) Q σ := WR.q hw (congrArg some hq) k
theorem WR.mvt {a : Opd} {x : List A} (hw : wanted dsts σ.env g = some true) (hq : ev σ.env a = .tup x) (k : WR Γ dsts ops Q (set d (.tup x) σ)) : WR Γ dsts (⟨d, .mv a, g, l1, l2, l3, l4⟩ :: ops) Q σ := WR.q hw (congrArg some hq) k
theorem WR.lss {ik : IntKind} {a b : Opd} {x y : Int} (hw : wanted dsts σ.env g = some true) (ha : ev σ.env a = .a (.d (.s (.int ik x)))) (hb : ev σ.env b = .a (.d (.s (.int ik y)))) (k1 : x < y → WR Γ dsts ops Q (set d (.a (.d (.s (.bool true)))) σ)) (k2 : ¬ x < y → WR Γ dsts ops Q (set d (.a (.d (.s (.bool false)))) σ)) : WR Γ dsts (⟨d, .bin .lss a b, g, l1, l2, l3, l4⟩ :: ops) Q σ := by
  by_cases h : x < y
  · exact WR.q hw (by simp [quiet, ha, hb, bin, isShift, intBin, h, sv]) (k1 h)
  · exact WR.q hw (by simp [quiet, ha, hb, bin, isShift, intBin, h, sv]; try omega) (k2 h)
theorem WR.leq {ik : IntKind} {a b : Opd} {x y : Int} (hw : wanted dsts σ.env g = some true) (ha : ev σ.env a = .a (.d (.s (.int ik x)))) (hb : ev σ.env b = .a (.d (.s (.int ik y)))) (k1 : x ≤ y → WR Γ dsts ops Q (set d (.a (.d (.s (.bool true)))) σ)) (k2 : ¬ x ≤ y → WR Γ dsts ops Q (set d (.a (.d (.s (.bool false)))) σ)) : WR Γ dsts (⟨d, .bin .leq a b, g, l1, l2, l3, l4⟩ :: ops) Q σ := by
  by_cases h : x ≤ y
  · exact WR.q hw (by simp [quiet, ha, hb, bin, isShift, intBin, h, sv]) (k1 h)
  · exact WR.q hw (by simp [quiet, ha, hb, bin, isShift, intBin, h, sv]; try omega) (k2 h)
theorem WR.gtr {ik : IntKind} {a b : Opd} {x y : Int} (hw : wanted dsts σ.env g = some true) (ha : ev σ.env a = .a (.d (.s (.int ik x)))) (hb : ev σ.env b = .a (.d (.s (.int ik y)))) (k1 : x > y → WR Γ dsts ops Q (set d (.a (.d (.s (.bool true)))) σ)) (k2 : ¬ x > y → WR Γ dsts ops Q (set d (.a (.d (.s (.bool false)))) σ)) : WR Γ dsts (⟨d, .bin .gtr a b, g, l1, l2, l3, l4⟩ :: ops) Q σ := by
  by_cases h : x > y
  · exact WR.q hw (by simp [quiet, ha, hb, bin, isShift, intBin, h, sv]) (k1 h)
  · exact WR.q hw (by simp [quiet, ha, hb, bin, isShift, intBin, h, sv]; try omega) (k2 h)
theorem WR.geq {ik : IntKind} {a b : Opd} {x y : Int} (hw : wanted dsts σ.env g = some true) (ha : ev σ.env a = .a (.d (.s (.int ik x)))) (hb : ev σ.env b = .a (.d (.s (.int ik y)))) (k1 : x ≥ y → WR Γ dsts ops Q (set d (.a (.d (.s (.bool true)))) σ)) (k2 : ¬ x ≥ y → WR Γ dsts ops Q (set d (.a (.d (.s (.bool false)))) σ)) : WR Γ dsts (⟨d, .bin .geq a b, g, l1, l2, l3, l4⟩ :: ops) Q σ := by
  by_cases h : x ≥ y
  · exact WR.q hw (by simp [quiet, ha, hb, bin, isShift, intBin, h, sv]) (k1 h)
  · exact WR.q hw (by simp [quiet, ha, hb, bin, isShift, intBin, h, sv]; try omega) (k2 h)
theorem WR.eql {ik : IntKind} {a b : Opd} {x y : Int} (hw : wanted dsts σ.env g = some true) (ha : ev σ.env a = .a (.d (.s (.int ik x)))) (hb : ev σ.env b = .a (.d (.s (.int ik y)))) (k1 : x = y → WR Γ dsts ops Q (set d (.a (.d (.s (.bool true)))) σ)) (k2 : ¬ x = y → WR Γ dsts ops Q (set d (.a (.d (.s (.bool false)))) σ)) : WR Γ dsts (⟨d, .bin .eql a b, g, l1, l2, l3, l4⟩ :: ops) Q σ := by
  by_cases h : x = y
  · exact WR.q hw (by simp [quiet, ha, hb, bin, isShift, intBin, h, sv]) (k1 h)
  · exact WR.q hw (by simp [quiet, ha, hb, bin, isShift, intBin, h, sv]) (k2 h)
theorem WR.neq {ik : IntKind} {a b : Opd} {x y : Int} (hw : wanted dsts σ.env g = some true) (ha : ev σ.env a = .a (.d (.s (.int ik x)))) (hb : ev σ.env b = .a (.d (.s (.int ik y)))) (k1 : ¬ x = y → WR Γ dsts ops Q (set d (.a (.d (.s (.bool true)))) σ)) (k2 : x = y → WR Γ dsts ops Q (set d (.a (.d (.s (.bool false)))) σ)) : WR Γ dsts (⟨d, .bin .neq a b, g, l1, l2, l3, l4⟩ :: ops) Q σ := by
  by_cases h : x = y
  · exact WR.q hw (by simp [quiet, ha, hb, bin, isShift, intBin, h, sv]) (k2 h)
  · exact WR.q hw (by simp [quiet, ha, hb, bin, isShift, intBin, h, sv]) (k1 h)
theorem WR.eb {ng ag : Bool} {ks : List SK} {a b : Opd} {c : Bool} (hw : wanted dsts σ.env g = some true) (hq : quiet σ (.eqa ng ag ks a b) = some (.a (.d (.s (.bool c))))) (k : ∀ b', c = b' → WR Γ dsts ops Q (set d (.a (.d (.s (.bool b')))) σ)) : WR Γ dsts (⟨d, .eqa ng ag ks a b, g, l1, l2, l3, l4⟩ :: ops) Q σ :=
  WR.q hw hq (k c rfl)
theorem WR.un {op : UnOp} {a : Opd} {x : A} (hw : wanted dsts σ.env g = some true) (hq : unop op (ev σ.env a) = some (.a x)) (k : WR Γ dsts ops Q (set d (.a x) σ)) : WR Γ dsts (⟨d, .un op a, g, l1, l2, l3, l4⟩ :: ops) Q σ := WR.q hw hq k
theorem WR.pk {c a b : Opd} {x : A} (hw : wanted dsts σ.env g = some true) (hq : quiet σ (.pick c a b) = some (.a x)) (k : WR Γ dsts ops Q (set d (.a x) σ)) : WR Γ dsts (⟨d, .pick c a b, g, l1, l2, l3, l4⟩ :: ops) Q σ := WR.q hw hq k
theorem WR.fa {off : Nat} {a : Opd} {x : A} (hw : wanted dsts σ.env g = some true) (hq : fadr off (ev σ.env a) = some (.a x)) (k : WR Γ dsts ops Q (set d (.a x) σ)) : WR Γ dsts (⟨d, .fadr off a, g, l1, l2, l3, l4⟩ :: ops) Q σ := WR.q hw hq k
theorem WR.nc {a : Opd} {x : A} (hw : wanted dsts σ.env g = some true) (hq : nilc (ev σ.env a) = some (.a x)) (k : WR Γ dsts ops Q (set d (.a x) σ)) : WR Γ dsts (⟨d, .nilc a, g, l1, l2, l3, l4⟩ :: ops) Q σ := WR.q hw hq k
theorem WR.bu {zs : List S} {ps : List (Nat × Nat × Opd)} {cs : List S} (hw : wanted dsts σ.env g = some true) (hq : quiet σ (.build zs ps) = some (.a (.d (.agg cs)))) (k : WR Γ dsts ops Q (set d (.a (.d (.agg cs))) σ)) : WR Γ dsts (⟨d, .build zs ps, g, l1, l2, l3, l4⟩ :: ops) Q σ := WR.q hw hq k
theorem WR.ex {a : Opd} {i : Nat} {x : A} (hw : wanted dsts σ.env g = some true) (hq : quiet σ (.ext a i) = some (.a x)) (k : WR Γ dsts ops Q (set d (.a x) σ)) : WR Γ dsts (⟨d, .ext a i, g, l1, l2, l3, l4⟩ :: ops) Q σ := WR.q hw hq k
theorem WR.le {kd : SlK} {a : Opd} {x : A} (hw : wanted dsts σ.env g = some true) (hq : quiet σ (.len kd a) = some (.a x)) (k : WR Γ dsts ops Q (set d (.a x) σ)) : WR Γ dsts (⟨d, .len kd a, g, l1, l2, l3, l4⟩ :: ops) Q σ := WR.q hw hq k
theorem WR.lx {n : Nat} {ag : Bool} {a : Opd} {x : A} (hw : wanted dsts σ.env g = some true) (hq : load σ.objs n ag (ev σ.env a) = some (.a x)) (k : WR Γ dsts ops Q (set d (.a x) σ)) : WR Γ dsts (⟨d, .load n ag a, g, l1, l2, l3, l4⟩ :: ops) Q σ := WR.q hw hq k
theorem WR.al {e : Nat} {zs : List S} (hw : wanted dsts σ.env g = some true) (hp : noPar σ [e] = true) (k : WR Γ dsts ops Q (set (some e) (.a (.ptr e 0)) (put e (.flat false zs) (kill [e] σ)))) : WR Γ dsts (⟨some e, .alloc zs, g, l1, l2, l3, l4⟩ :: ops) Q σ :=
  WR.q_mk hw hp k
theorem WR.bo {n e : Nat} {a : Opd} {v : V} {ob : Ob} (hw : wanted dsts σ.env g = some true) (hm : boxV e n (ev σ.env a) = some (v, [(e, ob)])) (hp : noPar σ [e] = true) (k : WR Γ dsts ops Q (set (some e) v (put e ob (kill [e] σ)))) : WR Γ dsts (⟨some e, .box n a, g, l1, l2, l3, l4⟩ :: ops) Q σ :=
  WR.q_box hw hm hp k
theorem WR.ec {a b : Opd} {x y x' y' : Int} (hw : wanted dsts σ.env g = some true) (ha : ev σ.env a = .a (.d (.agg [.int .i8 x, .int .i8 y]))) (hb : ev σ.env b = .a (.d (.agg [.int .i8 x', .int .i8 y'])))
    (k1 : x = x' ∧ y = y' → WR Γ dsts ops Q (set d (.a (.d (.s (.bool true)))) σ)) (k2 : ¬ (x = x' ∧ y = y') → WR Γ dsts ops Q (set d (.a (.d (.s (.bool false)))) σ)) : WR Γ dsts (⟨d, .eqa false true [.int .i8, .int .i8] a b, g, l1, l2, l3, l4⟩ :: ops) Q σ := by
  have hq : quiet σ (.eqa false true [.int .i8, .int .i8] a b) = some (.a (.d (.s (.bool (decide (x = x' ∧ y = y')))))) := by
    simp [quiet, ha, hb, cellsA, hasKs, hasK, eqSs, eqS, sv, Bool.decide_and]
    rw [show (x == x') = decide (x = x') from rfl, show (y == y') = decide (y = y') from rfl]
  by_cases h : x = x' ∧ y = y'
  · exact WR.q hw (by rw [hq]; simp only [h, and_self, decide_true]) (k1 h)
  · exact WR.q hw (by rw [hq]; simp only [h, decide_false]) (k2 h)
theorem WR.off {op : Op} {q : Nat × Bool} (hw : wanted dsts σ.env (some q) = some false) (k : WR Γ dsts ops Q (set d (.tup []) σ)) : WR Γ dsts (⟨d, op, some q, l1, l2, l3, l4⟩ :: ops) Q σ :=
  WR.cons ⟨0, by simp [step, deltaG, hw, noPar, applyD, insertAll, kill_nil]⟩ k
end
theorem WR.st {n p off : Nat} {a v : Opd} {ob ob' : Ob} {g : Option (Nat × Bool)} {l1 l2 l3 l4 : List Nat} (hw : wanted dsts σ.env g = some true) (ha : ev σ.env a = .a (.ptr p off)) (hb : σ.objs p = some ob) (hs : storeO n (ev σ.env v) off ob = some ob')
    (k : WR Γ dsts ops Q (put p ob' σ)) : WR Γ dsts (⟨none, .store n a v, g, l1, l2, l3, l4⟩ :: ops) Q σ :=
  WR.cons ⟨0, by simp [step, deltaG, hw, delta, ha, hb, hs, noPar, applyD, insertAll, kill_nil, set]⟩ k
theorem WR.call {f : Nat} {vs : List V} {fn : Fn} {as : List Arg} {r : Res} {ps ns : List (Nat × Ob)} {d : Nat} {v : V} (hw : wanted dsts σ.env o.guard = some true) (hd : o.dst = some d) (hc : callee σ o.op = some (f, vs)) (hΓ : Γ f = some fn)
    (hn : nodup (mutIds fn.muts vs) = true) (ha : args σ (mutIds fn.muts vs) fn.muts vs = some as) (hg : Gives Γ f as r) (hb : backs σ fn.muts vs r.outs = some ps) (hr : retsV vs d r.rets = some (v, ns))
    (hx : ns.all (fun x => !(ps.map (·.1)).contains x.1) = true) (hp : noPar σ (ns.map (·.1)) = true) (k : WR Γ dsts ops Q (set (some d) v (insertAll (ps ++ ns) (kill (ns.map (·.1)) σ)))) : WR Γ dsts (o :: ops) Q σ := by
  obtain ⟨n, hg⟩ := hg
  refine WR.cons ⟨n, ?_⟩ k
  obtain ⟨d', op, g, h, w, s, b⟩ := o
  simp only at hd hw hc
  subst hd
  have : delta Γ (callN Γ n) (some d) σ op = some { v := v, kills := ns.map (·.1), puts := ps ++ ns } := by
    cases op <;> first
      | (simp [callee] at hc; done)
      | (simp only [delta, hc, Option.bind_some, callF, hΓ, hn, if_true, ha, hg, hb, Option.map_some, hr, hx])
  simp [step, deltaG, hw, this, hp, applyD]
section
variable {d : Option Nat} {g : Option (Nat × Bool)} {l1 l2 l3 l4 : List Nat}
theorem WR.ia {len es p off : Nat} {a i : Opd} {k : IntKind} {n : Int} (hw : wanted dsts σ.env g = some true) (ha : ev σ.env a = .a (.ptr p off)) (hi : ev σ.env i = .a (.d (.s (.int k n)))) (hb : 0 ≤ n ∧ n < len)
    (K : WR Γ dsts ops Q (set d (.a (.ptr p (off + n.toNat * es))) σ)) : WR Γ dsts (⟨d, .idxa len es a i, g, l1, l2, l3, l4⟩ :: ops) Q σ :=
  WR.q hw (by simp only [quiet, ha, hi, idxa, asI, Option.bind_some, if_pos hb, fadr]) K
theorem WR.ga {len es : Nat} {ag : Bool} {a i : Opd} {k : IntKind} {n : Int} {cs : List S} {v : V} (hw : wanted dsts σ.env g = some true) (ha : ev σ.env a = .a (.d (.agg cs))) (hi : ev σ.env i = .a (.d (.s (.int k n)))) (hb : 0 ≤ n ∧ n < len) (hl : loadC es ag cs (n.toNat * es) = some v)
    (K : WR Γ dsts ops Q (set d v σ)) : WR Γ dsts (⟨d, .idxagg len es ag a i, g, l1, l2, l3, l4⟩ :: ops) Q σ :=
  WR.q hw (by simp only [quiet, ha, hi, if_pos hb, hl]) K
theorem WR.iad {len es off : Nat} {a i : Opd} {k : IntKind} {n : Int} {cs : List S} (hw : wanted dsts σ.env g = some true) (ha : ev σ.env a = .a (.dptr cs off)) (hi : ev σ.env i = .a (.d (.s (.int k n)))) (hb : 0 ≤ n ∧ n < len)
    (K : WR Γ dsts ops Q (set d (.a (.dptr cs (off + n.toNat * es))) σ)) : WR Γ dsts (⟨d, .idxa len es a i, g, l1, l2, l3, l4⟩ :: ops) Q σ :=
  WR.q hw (by simp only [quiet, ha, hi, idxa, asI, Option.bind_some, if_pos hb, fadr]) K
theorem WR.iar {len es : Nat} {a i : Opd} {k : IntKind} {n : Int} {cs : List S} (hw : wanted dsts σ.env g = some true) (ha : ev σ.env a = .a (.d (.ref cs))) (hi : ev σ.env i = .a (.d (.s (.int k n)))) (hb : 0 ≤ n ∧ n < len)
    (K : WR Γ dsts ops Q (set d (.a (.dptr cs (0 + n.toNat * es))) σ)) : WR Γ dsts (⟨d, .idxa len es a i, g, l1, l2, l3, l4⟩ :: ops) Q σ :=
  WR.q hw (by simp only [quiet, ha, hi, idxa, asI, Option.bind_some, if_pos hb, fadr, Nat.zero_add]) K
theorem WR.is {es p off m : Nat} {a i : Opd} {k : IntKind} {n : Int} (hw : wanted dsts σ.env g = some true) (ha : ev σ.env a = .a (.sl p off m es)) (hi : ev σ.env i = .a (.d (.s (.int k n)))) (hb : 0 ≤ n ∧ n < m)
    (K : WR Γ dsts ops Q (set d (.a (.ptr p (off + n.toNat * es))) σ)) : WR Γ dsts (⟨d, .idxs es a i, g, l1, l2, l3, l4⟩ :: ops) Q σ :=
  WR.q hw (by simp only [quiet, ha, hi, idxs, asI, Option.bind_some]; rw [if_neg (by omega), if_pos ⟨hb.2, trivial⟩]) K
theorem WR.id {es m : Nat} {cs : List S} {a i : Opd} {k : IntKind} {n : Int} (hw : wanted dsts σ.env g = some true) (ha : ev σ.env a = .a (.d (.sl m es cs))) (hi : ev σ.env i = .a (.d (.s (.int k n)))) (hb : 0 ≤ n ∧ n < m) (hc : m * es ≤ cs.length)
    (K : WR Γ dsts ops Q (set d (.a (.dptr cs (n.toNat * es))) σ)) : WR Γ dsts (⟨d, .idxs es a i, g, l1, l2, l3, l4⟩ :: ops) Q σ :=
  WR.q hw (by simp only [quiet, ha, hi, idxs, asI, Option.bind_some]; rw [if_neg (by omega), if_pos ⟨hb.2, trivial, hc⟩]) K
theorem WR.ld {n p off : Nat} {agg par : Bool} {a : Opd} {cs : List S} {v : V} (hw : wanted dsts σ.env g = some true) (ha : ev σ.env a = .a (.ptr p off)) (hb : σ.objs p = some (.flat par cs)) (hl : loadC n agg cs off = some v)
    (K : WR Γ dsts ops Q (set d v σ)) : WR Γ dsts (⟨d, .load n agg a, g, l1, l2, l3, l4⟩ :: ops) Q σ :=
  WR.q hw (by simp only [quiet, ha, DM.load, hb, hl]) K
theorem WR.ldd {n off : Nat} {agg : Bool} {a : Opd} {cs : List S} {v : V} (hw : wanted dsts σ.env g = some true) (ha : ev σ.env a = .a (.dptr cs off)) (hl : loadC n agg cs off = some v)
    (K : WR Γ dsts ops Q (set d v σ)) : WR Γ dsts (⟨d, .load n agg a, g, l1, l2, l3, l4⟩ :: ops) Q σ :=
  WR.q hw (by simp only [quiet, ha, DM.load, hl]) K
theorem WR.ldr {n : Nat} {agg : Bool} {a : Opd} {cs : List S} {v : V} (hw : wanted dsts σ.env g = some true) (ha : ev σ.env a = .a (.d (.ref cs))) (hl : loadC n agg cs 0 = some v)
    (K : WR Γ dsts ops Q (set d v σ)) : WR Γ dsts (⟨d, .load n agg a, g, l1, l2, l3, l4⟩ :: ops) Q σ :=
  WR.q hw (by simp only [quiet, ha, DM.load, hl]) K
theorem WR.cv {k k' : IntKind} {a : Opd} {n : Int} (hw : wanted dsts σ.env g = some true) (ha : ev σ.env a = .a (.d (.s (.int k' n)))) (hn : k.wrap n = n)
    (K : WR Γ dsts ops Q (set d (.a (.d (.s (.int k n)))) σ)) : WR Γ dsts (⟨d, .conv (.int k) a, g, l1, l2, l3, l4⟩ :: ops) Q σ :=
  WR.q hw (by simp only [quiet, ha, convInt, hn, sv]) K
theorem WR.ad {k : IntKind} {a b : Opd} {x y : Int} (hw : wanted dsts σ.env g = some true) (ha : ev σ.env a = .a (.d (.s (.int k x)))) (hb : ev σ.env b = .a (.d (.s (.int k y)))) (hn : k.wrap (x + y) = x + y)
    (K : WR Γ dsts ops Q (set d (.a (.d (.s (.int k (x + y))))) σ)) : WR Γ dsts (⟨d, .bin .add a b, g, l1, l2, l3, l4⟩ :: ops) Q σ :=
  WR.q hw (by simp [quiet, ha, hb, bin, isShift, intBin, hn, sv]) K
theorem WR.sb {k : IntKind} {a b : Opd} {x y : Int} (hw : wanted dsts σ.env g = some true) (ha : ev σ.env a = .a (.d (.s (.int k x)))) (hb : ev σ.env b = .a (.d (.s (.int k y)))) (hn : k.wrap (x - y) = x - y)
    (K : WR Γ dsts ops Q (set d (.a (.d (.s (.int k (x - y))))) σ)) : WR Γ dsts (⟨d, .bin .sub a b, g, l1, l2, l3, l4⟩ :: ops) Q σ :=
  WR.q hw (by simp [quiet, ha, hb, bin, isShift, intBin, hn, sv]) K
theorem WR.bx {n e : Nat} {cs : List S} {a : Opd} (hw : wanted dsts σ.env g = some true) (ha : ev σ.env a = .a (.d (.agg cs))) (hl : cs.length = n) (hp : noPar σ [e] = true)
    (k : WR Γ dsts ops Q (set (some e) (.a (.ptr e 0)) (put e (.flat false cs) (kill [e] σ)))) : WR Γ dsts (⟨some e, .box n a, g, l1, l2, l3, l4⟩ :: ops) Q σ :=
  WR.mk (d := e) (ob := .flat false cs) hw rfl rfl (by simp only [makes, ha, boxV, cellsOf, hl, if_true]) hp k
theorem WR.vp {f e : Nat} {a : Opd} {xs : List Opd} {fn : Fn} {as : List Arg} {z : D} {p : Prop} {dp : Decidable p} (hw : wanted dsts σ.env g = some true) (hc : ev σ.env a = .a (.d (.clo f [] [z]))) (hΓ : Γ f = some fn) (hm : fn.muts = [])
    (ha : args σ [] [] (xs.map (ev σ.env)) = some as) (hg : Gives Γ f (as ++ [.d z]) ⟨[.s (.bool (decide p))], []⟩)
    (k1 : p → WR Γ dsts ops Q (set (some e) (.a (.d (.s (.bool true)))) σ)) (k2 : ¬ p → WR Γ dsts ops Q (set (some e) (.a (.d (.s (.bool false)))) σ)) : WR Γ dsts (⟨some e, .callv a xs, g, l1, l2, l3, l4⟩ :: ops) Q σ := by
  have hmut : ∀ vs : List V, mutIds [] vs = [] := fun vs => by cases vs <;> rfl
  have hbk : ∀ vs : List V, backs σ [] vs [] = some [] := fun vs => by cases vs <;> rfl
  have hargs : ∀ (vs : List V) (as : List Arg), args σ [] [] vs = some as → args σ [] [] (vs ++ [.a (.d z)]) = some (as ++ [.d z]) := by
    intro vs
    induction vs with
    | nil => intro as h; cases h; rfl
    | cons v vs ih =>
      intro as h
      simp only [List.cons_append, args] at h ⊢
      rw [obs] at h
      obtain ⟨x, h1, h2⟩ := h
      rw [Option.map_eq_some_iff] at h2
      obtain ⟨as', h2, rfl⟩ := h2
      rw [h1, Option.bind_some, ih as' h2]
      rfl
  refine WR.call (d := e) (v := .a (.d (.s (.bool (decide p))))) (ps := []) (ns := []) (vs := xs.map (ev σ.env) ++ [.a (.d z)]) (as := as ++ [.d z]) hw rfl (by simp [callee, hc]) hΓ (by rw [hm, hmut]; rfl) (by rw [hm, hmut]; exact hargs _ _ ha) hg (by rw [hm]; exact hbk _) rfl rfl rfl ?_
  simp only [List.append_nil, List.map_nil, insertAll, kill_nil]
  by_cases h : p
  · simp only [h, decide_true]; exact k1 h
  · simp only [h, decide_false]; exact k2 h
theorem WR.ix {es : Nat} {a i : Opd} {x : A} (hw : wanted dsts σ.env g = some true) (hq : idxs es (ev σ.env a) (ev σ.env i) = some (.a x)) (k : WR Γ dsts ops Q (set d (.a x) σ)) : WR Γ dsts (⟨d, .idxs es a i, g, l1, l2, l3, l4⟩ :: ops) Q σ := WR.q hw hq k
theorem WR.sc {kd : SlK} {a : Opd} {lo hi : Option Opd} {x : A} (hw : wanted dsts σ.env g = some true) (hq : quiet σ (.slc kd a lo hi) = some (.a x)) (k : WR Γ dsts ops Q (set d (.a x) σ)) : WR Γ dsts (⟨d, .slc kd a lo hi, g, l1, l2, l3, l4⟩ :: ops) Q σ := WR.q hw hq k
theorem WR.mf {f : Nat} {p q : List Opd} {x : V} (hw : wanted dsts σ.env g = some true) (hq : quiet σ (.mkf f p q) = some x) (k : WR Γ dsts ops Q (set d x σ)) : WR Γ dsts (⟨d, .mkf f p q, g, l1, l2, l3, l4⟩ :: ops) Q σ := WR.q hw hq k
theorem WR.bs {es len e : Nat} {zs : List S} {ps : List (Nat × Opd)} {v : V} {ob : Ob} (hw : wanted dsts σ.env g = some true) (hm : makes σ e (.bsl es len zs ps) = some (v, [(e, ob)])) (hp : noPar σ [e] = true)
    (k : WR Γ dsts ops Q (set (some e) v (put e ob (kill [e] σ)))) : WR Γ dsts (⟨some e, .bsl es len zs ps, g, l1, l2, l3, l4⟩ :: ops) Q σ :=
  WR.mk (d := e) (ob := ob) hw rfl rfl hm hp k
theorem step_dl {call : Calls} {r : Dl} (hw : wanted dsts σ.env o.guard = some true) (hd : delta Γ call o.dst σ o.op = some r) (hp : noPar σ r.kills = true) : step Γ call dsts o σ = some (applyD o.dst r σ) := by
  simp [step, deltaG, hw, hd, hp]
theorem WR.an {es e m : Nat} {a b : Opd} {ys : List S} (hw : wanted dsts σ.env g = some true) (ha : ev σ.env a = .a (.d (.s .nils))) (hb : elems σ.objs es (ev σ.env b) = some (m, ys)) (h0 : m ≠ 0) (h2 : m * (es + 1) ≤ big) (hp : noPar σ [e] = true)
    (k : WR Γ dsts ops Q (set (some e) (.a (.sl e 0 m es)) (put e (.flat false ys) (kill [e] σ)))) : WR Γ dsts (⟨some e, .app es a b, g, l1, l2, l3, l4⟩ :: ops) Q σ := by
  refine WR.cons ⟨0, step_dl (r := ⟨.a (.sl e 0 m es), [e], [(e, .flat false ys)]⟩) hw ?_ hp⟩ k
  simp only [delta, append, ha, hb, if_neg h0, if_pos h2, Option.map_some]
theorem WR.cb {f e : Nat} {xs : List Opd} {fn : Fn} {as : List Arg} {b : Bool} (hw : wanted dsts σ.env g = some true) (hΓ : Γ f = some fn)
    (hn : mutIds fn.muts (xs.map (ev σ.env)) = []) (ha : args σ [] fn.muts (xs.map (ev σ.env)) = some as) (hg : Gives Γ f as ⟨[.s (.bool b)], []⟩) (hb : backs σ fn.muts (xs.map (ev σ.env)) [] = some [])
    (k : ∀ b', b = b' → WR Γ dsts ops Q (set (some e) (.a (.d (.s (.bool b')))) σ)) : WR Γ dsts (⟨some e, .call f xs, g, l1, l2, l3, l4⟩ :: ops) Q σ := by
  refine WR.call (d := e) (v := .a (.d (.s (.bool b)))) (ps := []) (ns := []) hw rfl rfl hΓ (by rw [hn]; rfl) (by rw [hn]; exact ha) hg hb rfl rfl rfl ?_
  simp only [List.append_nil, List.map_nil, insertAll, kill_nil]
  exact k b rfl
theorem WR.cp {f e : Nat} {xs : List Opd} {fn : Fn} {as : List Arg} {p : Prop} {dp : Decidable p} (hw : wanted dsts σ.env g = some true) (hΓ : Γ f = some fn)
    (hn : mutIds fn.muts (xs.map (ev σ.env)) = []) (ha : args σ [] fn.muts (xs.map (ev σ.env)) = some as) (hg : Gives Γ f as ⟨[.s (.bool (decide p))], []⟩) (hb : backs σ fn.muts (xs.map (ev σ.env)) [] = some [])
    (k1 : p → WR Γ dsts ops Q (set (some e) (.a (.d (.s (.bool true)))) σ)) (k2 : ¬ p → WR Γ dsts ops Q (set (some e) (.a (.d (.s (.bool false)))) σ)) : WR Γ dsts (⟨some e, .call f xs, g, l1, l2, l3, l4⟩ :: ops) Q σ := by
  refine WR.cb hw hΓ hn ha hg hb fun b hb => ?_
  by_cases h : p
  · simp only [h, decide_true] at hb; subst hb; exact k1 h
  · simp only [h, decide_false] at hb; subst hb; exact k2 h
theorem WR.cs {f e : Nat} {xs : List Opd} {fn : Fn} {as : List Arg} {b : S} (hw : wanted dsts σ.env g = some true) (hΓ : Γ f = some fn)
    (hn : mutIds fn.muts (xs.map (ev σ.env)) = []) (ha : args σ [] fn.muts (xs.map (ev σ.env)) = some as) (hg : Gives Γ f as ⟨[.s b], []⟩) (hb : backs σ fn.muts (xs.map (ev σ.env)) [] = some [])
    (k : WR Γ dsts ops Q (set (some e) (.a (.d (.s b))) σ)) : WR Γ dsts (⟨some e, .call f xs, g, l1, l2, l3, l4⟩ :: ops) Q σ := by
  refine WR.call (d := e) (v := .a (.d (.s b))) (ps := []) (ns := []) hw rfl rfl hΓ (by rw [hn]; rfl) (by rw [hn]; exact ha) hg hb rfl rfl rfl ?_
  simp only [List.append_nil, List.map_nil, insertAll, kill_nil]
  exact k
end
section
variable {R : Ex → St → Prop} {K : St → Prop} {id id' : Nat}
theorem andThen_n (h : K σ) : andThen K R .normal σ := h
theorem andThen_x (h : R (.exit id) σ) : andThen K R (.exit id) σ := h
theorem andThen_r (h : R .ret σ) : andThen K R .ret σ := h
theorem inB_n (h : R .normal σ) : inB id R .normal σ := h
theorem inB_r (h : R .ret σ) : inB id R .ret σ := h
theorem inB_x (h : R .normal σ) : inB id R (.exit id) σ := by simp [inB, h]
theorem W.condT {x : Opd} {a b : Code} (hc : ev σ.env x = .a (.d (.s (.bool true)))) (h : W Γ a R σ) : W Γ (.cond x a b) R σ := W.cond hc h
theorem W.condF {x : Opd} {a b : Code} (hc : ev σ.env x = .a (.d (.s (.bool false)))) (h : W Γ b R σ) : W Γ (.cond x a b) R σ := W.cond hc h
end
def Done (fn : Fn) (as : List Arg) (r : Res) (e : Ex) (σ : St) : Prop := (∀ id, e ≠ .exit id) ∧ ∃ r', finish fn as σ = some r' ∧ r' = r
theorem Done.r {fn : Fn} {as : List Arg} {r r' : Res} (h : finish fn as σ = some r') (k : r' = r) : Done fn as r .ret σ := ⟨fun _ h => (nomatch h), r', h, k⟩
theorem Gives.by {f : Nat} {fn : Fn} {as : List Arg} {r : Res} (hf : Γ f = some fn) (hm : (fn.given.isNone && marked fn.muts as) = true) (h : W Γ fn.body (Done fn as r) (enter as)) : Gives Γ f as r :=
  Gives.of_W hf hm (h.mono fun e σ ⟨h1, r', h2, h3⟩ => ⟨h1, h3 ▸ h2⟩)
theorem set_self {t : Nat} {v : V} (h : σ.env t = v) : set (some t) v σ = σ := by
  cases σ
  simp only [set, St.mk.injEq, and_true]
  funext i
  simp only [upd]
  split
  · rename_i e; rw [← h, e]
  · rfl
theorem put_self {p : Nat} {ob : Ob} (h : σ.objs p = some ob) : put p ob σ = σ := by
  cases σ
  simp only [put, St.mk.injEq, true_and]
  funext i
  simp only [upd]
  split
  · rename_i e; rw [← h, e]
  · rfl
end
theorem loadC_all {n : Nat} {cs : List S} (h : cs.length = n) : loadC n true cs 0 = some (.a (.d (.agg cs))) := by
  simp [loadC, ofCells, av, ← h]
theorem loadC_one {cs : List S} {off : Nat} {s : S} (h : cs[off]? = some s) : loadC 1 false cs off = some (.a (.d (.s s))) := by
  obtain ⟨h1, h2⟩ := List.getElem?_eq_some_iff.1 h
  have : (cs.drop off).take 1 = [s] := by
    rw [List.drop_eq_getElem_cons h1, ← h2]; rfl
  simp only [loadC, this, ofCells, Bool.false_eq_true, if_false, sv]
  rw [if_pos (by omega)]
structure IsLawn (w h : Int) (g : Nat → Int) (cs : List S) : Prop where
  wb : -128 ≤ w ∧ w ≤ 127
  hb : -128 ≤ h ∧ h ≤ 127
  cb : ∀ k, k < 100 → 0 ≤ g k ∧ g k ≤ 255
  len : cs.length = 102
  w : cs[0]? = some (.int .i8 w)
  h : cs[1]? = some (.int .i8 h)
  c : ∀ k, k < 100 → cs[k + 2]? = some (.int .u8 (g k))
structure IsLev (g : Nat → Int) (cs : List S) : Prop where
  cb : ∀ k, k < 100 → -128 ≤ g k ∧ g k ≤ 127
  len : cs.length = 100
  c : ∀ k, k < 100 → cs[k]? = some (.int .i8 (g k))
theorem lawn_w {w h : Int} {g : Nat → Int} {cs : List S} (l : IsLawn w h g cs) : loadC 1 false cs 0 = some (.a (.d (.s (.int .i8 w)))) := loadC_one l.w
theorem lawn_h {w h : Int} {g : Nat → Int} {cs : List S} (l : IsLawn w h g cs) : loadC 1 false cs 1 = some (.a (.d (.s (.int .i8 h)))) := loadC_one l.h
theorem lawn_c {w h : Int} {g : Nat → Int} {cs : List S} (l : IsLawn w h g cs) {x y : Int} (hb : 0 ≤ x ∧ x < 10 ∧ 0 ≤ y ∧ y < 10) : loadC 1 false cs (0 + 2 + y.toNat * 10 + x.toNat * 1) = some (.a (.d (.s (.int .u8 (g (10 * y.toNat + x.toNat)))))) := by
  refine loadC_one ?_
  have e : 0 + 2 + y.toNat * 10 + x.toNat * 1 = (10 * y.toNat + x.toNat) + 2 := by omega
  rw [e]
  exact l.c _ (by omega)
theorem lawn_wrap {w h : Int} {g : Nat → Int} {cs : List S} (l : IsLawn w h g cs) {k : Nat} (hk : k < 100) : IntKind.i64.wrap (g k) = g k := by
  have := l.cb k hk
  exact Go.IntWalk.i64_in _ (by omega)
theorem lawn_ww {w h : Int} {g : Nat → Int} {cs : List S} (l : IsLawn w h g cs) : IntKind.i64.wrap w = w := by
  have := l.wb
  exact Go.IntWalk.i64_in _ (by omega)
theorem lawn_hw {w h : Int} {g : Nat → Int} {cs : List S} (l : IsLawn w h g cs) : IntKind.i64.wrap h = h := by
  have := l.hb
  exact Go.IntWalk.i64_in _ (by omega)
abbrev ai (k : IntKind) (n : Int) : Arg := .d (.s (.int k n))
abbrev ab (n : Bool) : Arg := .d (.s (.bool n))
abbrev rb (n : Bool) : Res := ⟨[.s (.bool n)], []⟩
abbrev ri (k : IntKind) (n : Int) : Res := ⟨[.s (.int k n)], []⟩
abbrev ac (x y : Int) : Arg := .d (.agg [.int .i8 x, .int .i8 y])
abbrev ar (cs : List S) : Arg := .d (.ref cs)
abbrev aa (cs : List S) : Arg := .d (.agg cs)
theorem rb_t {p : Prop} {dp : Decidable p} (h : p) : (⟨[.s (.bool true)], []⟩ : Res) = rb (decide p) := by simp [h]
theorem rb_f {p : Prop} {dp : Decidable p} (h : ¬ p) : (⟨[.s (.bool false)], []⟩ : Res) = rb (decide p) := by simp [h]
def Is (w h : Int) (g : Nat → Int) (k x y : Int) : Prop := (0 ≤ x ∧ x < w ∧ 0 ≤ y ∧ y < h) ∧ g (10 * y.toNat + x.toNat) = k
instance (w h : Int) (g : Nat → Int) (k x y : Int) : Decidable (Is w h g k x y) := inferInstanceAs (Decidable (_ ∧ _))
theorem W.loopI {Γ : Nat → Option Fn} {c : Code} {Q : Ex → St → Prop} (I : Nat → St → Prop) (h : ∀ n σ, I n σ → W Γ c (andThen (fun σ' => ∃ m, m < n ∧ I m σ') Q) σ) : ∀ n σ, I n σ → W Γ (.loop c) Q σ := by
  intro n
  induction n using Nat.strongRecOn with
  | ind n ih =>
    intro σ hI
    refine W.loop ((h n σ hI).mono fun e σ' hq => ?_)
    cases e with
    | normal =>
      obtain ⟨m, hm, hI'⟩ := hq
      exact ih m hm σ' hI'
    | exit id => exact hq
    | ret => exact hq
def cellOk (w h : Int) (g : Nat → Int) (k : Nat) : Prop := g k ≤ 3 ∧ (g k = 0 ∨ ((k % 10 : Nat) < w ∧ (k / 10 : Nat) < h))
instance (w h : Int) (g : Nat → Int) (k : Nat) : Decidable (cellOk w h g k) := inferInstanceAs (Decidable (_ ∧ _))
def LawnOk (w h : Int) (g : Nat → Int) : Prop := (1 ≤ w ∧ w ≤ 10) ∧ (1 ≤ h ∧ h ≤ 10) ∧ ∀ k, k < 100 → cellOk w h g k
instance (w h : Int) (g : Nat → Int) : Decidable (LawnOk w h g) := inferInstanceAs (Decidable (_ ∧ _ ∧ _))
theorem upTo1 {p : Nat → Prop} {y x : Int} (hx : 0 ≤ x) (h : ∀ k, k < 10 * y.toNat + x.toNat → p k) (hn : p (10 * y.toNat + x.toNat)) : ∀ k, k < 10 * y.toNat + (x + 1).toNat → p k := fun k hk => by
  by_cases e : k = 10 * y.toNat + x.toNat
  · rw [e]; exact hn
  · exact h k (by omega)
theorem upTo2 {p : Nat → Prop} {y x : Int} (hy : 0 ≤ y) (hx : ¬ x < 10) (h : ∀ k, k < 10 * y.toNat + x.toNat → p k) : ∀ k, k < 10 * (y + 1).toNat → p k := fun k hk => h k (by omega)
def levCell (w h : Int) (g q : Nat → Int) (k : Nat) : Prop := (-9 ≤ q k ∧ q k ≤ 9) ∧ (q k = 0 ∨ ((k % 10 : Nat) < w ∧ (k / 10 : Nat) < h ∧ g k = 0))
instance (w h : Int) (g q : Nat → Int) (k : Nat) : Decidable (levCell w h g q k) := inferInstanceAs (Decidable (_ ∧ _))
def LevOk (w h : Int) (g q : Nat → Int) : Prop := LawnOk w h g ∧ ∀ k, k < 100 → levCell w h g q k
instance (w h : Int) (g q : Nat → Int) : Decidable (LevOk w h g q) := inferInstanceAs (Decidable (_ ∧ _))
def encC : List (Int × Int) → List S
  | [] => []
  | p :: r => .int .i8 p.1 :: .int .i8 p.2 :: encC r
theorem encC_length : ∀ l : List (Int × Int), (encC l).length = l.length * 2
  | [] => rfl
  | p :: r => by simp only [encC, List.length_cons, encC_length r]; omega
theorem encC_append : ∀ a b : List (Int × Int), encC (a ++ b) = encC a ++ encC b
  | [], b => rfl
  | p :: r, b => by simp only [List.cons_append, encC, encC_append r b]
theorem encC_load : ∀ (l : List (Int × Int)) (i : Nat) (c : Int × Int), l[i]? = some c → loadC 2 true (encC l) (i * 2) = some (.a (.d (.agg [.int .i8 c.1, .int .i8 c.2])))
  | [], i, c, h => by simp at h
  | p :: r, 0, c, h => by
    simp at h; subst h
    simp [loadC, encC, ofCells, av]
  | p :: r, i + 1, c, h => by
    have ih := encC_load r i c (by simpa using h)
    have e : (i + 1) * 2 = i * 2 + 2 := by omega
    simp only [loadC, encC, List.length_cons, e] at ih ⊢
    rw [List.drop_succ_cons, List.drop_succ_cons]
    split at ih
    · rename_i hc
      rw [if_pos (by omega)]; exact ih
    · cases ih
theorem encC_load' (l : List (Int × Int)) (i : Int) (hi : 0 ≤ i) (c : Int × Int) (h : l[i.toNat]? = some c) : loadC 2 true (encC l) (0 + i.toNat * 2) = some (.a (.d (.agg [.int .i8 c.1, .int .i8 c.2]))) := by
  rw [Nat.zero_add]; exact encC_load l _ c h
theorem encC_take (l : List (Int × Int)) (n : Nat) (h : n = l.length) : ((encC l).drop 0).take (n * 2) = encC l := by
  rw [List.drop_zero, h, ← encC_length, List.take_length]
def belowCode (ok fine grass : Prop) [Decidable ok] [Decidable fine] [Decidable grass] : Int := if ok then (if fine then (if grass then 0 else 4) else 2) else 1
section
variable {ok fine grass : Prop} {d1 : Decidable ok} {d2 : Decidable fine} {d3 : Decidable grass}
theorem bc1 (h : ¬ ok) : (⟨[.s (.int .i64 1)], []⟩ : Res) = ri .i64 (belowCode ok fine grass) := by simp [belowCode, h]
theorem bc2 (h : ok) (h2 : ¬ fine) : (⟨[.s (.int .i64 2)], []⟩ : Res) = ri .i64 (belowCode ok fine grass) := by simp [belowCode, h, h2]
theorem bc4 (h : ok) (h2 : fine) (h3 : ¬ grass) : (⟨[.s (.int .i64 4)], []⟩ : Res) = ri .i64 (belowCode ok fine grass) := by simp [belowCode, h, h2, h3]
theorem bc0 (h : ok) (h2 : fine) (h3 : grass) : (⟨[.s (.int .i64 0)], []⟩ : Res) = ri .i64 (belowCode ok fine grass) := by simp [belowCode, h, h2, h3]
end
abbrev Has (w h x y : Int) : Prop := 0 ≤ x ∧ x < w ∧ 0 ≤ y ∧ y < h
abbrev Cel := Int × Int
def idxOf (P : Cel → Prop) [DecidablePred P] : List Cel → Int → Int
  | [], _ => -1
  | c :: r, i => if P c then i else idxOf P r (i + 1)
theorem idxOf_nonneg (P : Cel → Prop) [DecidablePred P] : ∀ (l : List Cel) (i : Int), 0 ≤ i → (0 ≤ idxOf P l i ↔ ∃ c ∈ l, P c)
  | [], i, hi => by simp [idxOf]
  | c :: r, i, hi => by
    simp only [idxOf]
    split
    · rename_i h; exact ⟨fun _ => ⟨c, List.mem_cons_self .., h⟩, fun _ => hi⟩
    · rename_i h
      rw [idxOf_nonneg P r (i + 1) (by omega)]
      constructor
      · rintro ⟨d, hd, hp⟩; exact ⟨d, List.mem_cons_of_mem _ hd, hp⟩
      · rintro ⟨d, hd, hp⟩
        rcases List.mem_cons.1 hd with rfl | hd
        · exact (h hp).elim
        · exact ⟨d, hd, hp⟩
theorem idxOf_step (P : Cel → Prop) [DecidablePred P] {l : List Cel} {i : Int} (hi : 0 ≤ i) {c : Cel} (hc : l[i.toNat]? = some c) : idxOf P (l.drop i.toNat) i = if P c then i else idxOf P (l.drop (i + 1).toNat) (i + 1) := by
  obtain ⟨h1, h2⟩ := List.getElem?_eq_some_iff.1 hc
  rw [List.drop_eq_getElem_cons h1, h2, show (i + 1).toNat = i.toNat + 1 by omega]
  rfl
theorem get_of_lt {l : List Cel} {i : Int} (hi : 0 ≤ i) (h : i < (l.length : Nat)) : ∃ c, l[i.toNat]? = some c := ⟨l[i.toNat]'(by omega), by simp⟩
abbrev asl (l : List Cel) : Arg := .d (.sl l.length 2 (encC l))
theorem belowCode_zero {ok fine grass : Prop} {d1 : Decidable ok} {d2 : Decidable fine} {d3 : Decidable grass} : belowCode ok fine grass = 0 ↔ ok ∧ fine ∧ grass := by
  unfold belowCode
  by_cases h1 : ok <;> by_cases h2 : fine <;> by_cases h3 : grass <;> simp [h1, h2, h3]
theorem not_ex {α : Type} {p : α → Prop} {l : List α} (h : ¬ ∃ c ∈ l, ¬ p c) : ∀ c ∈ l, p c := fun c hc => Classical.byContradiction fun hn => h ⟨c, hc, hn⟩
theorem ex_not {α : Type} {p : α → Prop} {l : List α} (h : ∃ c ∈ l, ¬ p c) : ¬ ∀ c ∈ l, p c := fun ha => by obtain ⟨c, hc, hn⟩ := h; exact hn (ha c hc)
theorem ri_congr {k : IntKind} {a b : Int} (h : a = b) : (⟨[.s (.int k a)], []⟩ : Res) = ri k b := by rw [h]
def Near (x y : Int) : List Cel := [(x, y - 1), (x - 1, y), (x + 1, y), (x, y + 1)]
section
variable {ok0 ok fine grass nights : Prop} {d0 : Decidable ok0} {d1 : Decidable ok} {d2 : Decidable fine} {d3 : Decidable grass} {d4 : Decidable nights}
end
end Go.DM
