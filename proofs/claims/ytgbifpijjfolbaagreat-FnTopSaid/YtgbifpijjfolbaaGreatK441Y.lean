/- Arguments as they come: lawns, levels, cells. -/
import Derived.Test.YtgbifpijjfolbaaGreatK441Given
import Derived.Test.YtgbifpijjfolbaaGreatK441X
set_option linter.all false
namespace Go.DM
variable [Tok]
section
open Go.ChangeShapes Go.WideShapes Go.ChangeAt Go.RowKit
variable {H : Type} {enc' : TypeId × Value → H} {P : Program} {w : World} {base : Nat} {sp : Nat → Bool} {held : Bool}
end
end Go.DM

/- Rules for regions whose order is drawn: as those for regions in order, but what an operation reads is what is not hidden from it. By mkdraw.py. -/
namespace Go.DM
variable [Tok]
section
variable {Γ : Nat → Option Fn} {dsts : Nat → Option Nat} {o : Oper} {ops : List Oper} {Q : St → Prop} {σ : St}
theorem stepH_quiet {call : Calls} {v : V} (hw : wanted dsts (veil o σ).env o.guard = some true) (hq : quiet (veil o σ) o.op = some v) (hv : killV o.hid v = v) : stepH Γ call dsts o σ = some (set o.dst v σ) := by
  have h : delta Γ call o.dst (veil o σ) o.op = some { v := v } := delta_quiet hq
  simp [stepH, deltaG, hw, h, noPar, within, hideD, applyD, insertAll, kill_nil, hv]
theorem WH.q {v : V} (hw : wanted dsts (veil o σ).env o.guard = some true) (hq : quiet (veil o σ) o.op = some v) (hv : killV o.hid v = v) (k : WH Γ dsts ops Q (set o.dst v σ)) : WH Γ dsts (o :: ops) Q σ :=
  WH.cons ⟨0, stepH_quiet hw hq hv⟩ k
theorem WH.mk {d : Nat} {ob : Ob} {v : V} (hw : wanted dsts (veil o σ).env o.guard = some true) (hd : o.dst = some d) (hq : quiet (veil o σ) o.op = none) (hm : makes (veil o σ) d o.op = some (v, [(d, ob)])) (hp : noPar σ [d] = true) (hi : o.wr.contains d = true)
    (hv : killV o.hid v = v) (ho : killO o.hid ob = ob) (k : WH Γ dsts ops Q (set (some d) v (put d ob (kill [d] σ)))) : WH Γ dsts (o :: ops) Q σ :=
  WH.cons ⟨0, by
    have h := delta_makes (Γ := Γ) (call := callN Γ 0) hd hq hm
    rw [hd] at h
    simp only [stepH, deltaG, hw, Option.bind_some, if_true, hd, h, List.map_cons, List.map_nil, hp, applyD, insertAll, within, hideD, List.all_cons, List.all_nil, hi, Bool.and_true, hv, ho]⟩ k
theorem WH.st {n p off : Nat} {a v : Opd} {ob ob' : Ob} {g : Option (Nat × Bool)} {l1 l2 l3 l4 : List Nat} (hw : wanted dsts (kill l1 (only l3 σ)).env g = some true) (ha : ev (kill l1 (only l3 σ)).env a = .a (.ptr p off)) (hb : (kill l1 (only l3 σ)).objs p = some ob)
    (hs : storeO n (ev (kill l1 (only l3 σ)).env v) off ob = some ob') (hi : l2.contains p = true) (ho : killO l1 ob' = ob') (k : WH Γ dsts ops Q (put p ob' σ)) : WH Γ dsts (⟨none, .store n a v, g, l1, l2, l3, l4⟩ :: ops) Q σ :=
  WH.cons ⟨0, by
    simp only [stepH, deltaG, veil, hw, Option.bind_some, if_true, delta, ha, hb, hs, Option.map_some, within, List.all_cons, List.all_nil, hi, Bool.and_true, noPar, hideD, List.map_cons, List.map_nil, ho, applyD, insertAll, kill_nil, set, Bool.and_self]⟩ k
theorem WH.call {f : Nat} {vs : List V} {fn : Fn} {as : List Arg} {r : Res} {ps ns : List (Nat × Ob)} {d : Nat} {v : V} (hw : wanted dsts (veil o σ).env o.guard = some true) (hd : o.dst = some d) (hc : callee (veil o σ) o.op = some (f, vs)) (hΓ : Γ f = some fn)
    (hn : nodup (mutIds fn.muts vs) = true) (ha : args (veil o σ) (mutIds fn.muts vs) fn.muts vs = some as) (hg : Gives Γ f as r) (hb : backs (veil o σ) fn.muts vs r.outs = some ps) (hr : retsV vs d r.rets = some (v, ns))
    (hx : ns.all (fun x => !(ps.map (·.1)).contains x.1) = true) (hp : noPar σ (ns.map (·.1)) = true) (hi : (ps ++ ns).all (fun p => o.wr.contains p.1) = true) (hi' : (ns.map (·.1)).all o.wr.contains = true) (hv : killV o.hid v = v) (ho : (ps ++ ns).map (fun p => (p.1, killO o.hid p.2)) = ps ++ ns)
    (k : WH Γ dsts ops Q (set (some d) v (insertAll (ps ++ ns) (kill (ns.map (·.1)) σ)))) : WH Γ dsts (o :: ops) Q σ := by
  obtain ⟨n, hg⟩ := hg
  refine WH.cons ⟨n, ?_⟩ k
  obtain ⟨d', op, g, h, w, s, b⟩ := o
  simp only at hd hw hc hi hi' hv ho
  subst hd
  have : delta Γ (callN Γ n) (some d) (veil ⟨some d, op, g, h, w, s, b⟩ σ) op = some { v := v, kills := ns.map (·.1), puts := ps ++ ns } := by
    cases op <;> first
      | (simp [callee] at hc; done)
      | (simp only [delta, hc, Option.bind_some, callF, hΓ, hn, if_true, ha, hg, hb, Option.map_some, hr, hx])
  simp only [stepH, deltaG, hw, Option.bind_some, if_true, this, within, hi, hi', Bool.and_self, hp, hideD, hv, ho, applyD]
theorem WH.cs {f e : Nat} {xs : List Opd} {fn : Fn} {as : List Arg} {b : S} {g : Option (Nat × Bool)} {l1 l2 l3 l4 : List Nat} (hw : wanted dsts (kill l1 (only l3 σ)).env g = some true) (hΓ : Γ f = some fn)
    (hn : mutIds fn.muts (xs.map (ev (kill l1 (only l3 σ)).env)) = []) (ha : args (kill l1 (only l3 σ)) [] fn.muts (xs.map (ev (kill l1 (only l3 σ)).env)) = some as) (hg : Gives Γ f as ⟨[.s b], []⟩) (hb : backs (kill l1 (only l3 σ)) fn.muts (xs.map (ev (kill l1 (only l3 σ)).env)) [] = some [])
    (k : WH Γ dsts ops Q (set (some e) (.a (.d (.s b))) σ)) : WH Γ dsts (⟨some e, .call f xs, g, l1, l2, l3, l4⟩ :: ops) Q σ := by
  refine WH.call (d := e) (v := .a (.d (.s b))) (ps := []) (ns := []) (vs := xs.map (ev (kill l1 (only l3 σ)).env)) hw rfl rfl hΓ (by rw [hn]; rfl) (by rw [hn]; exact ha) hg hb rfl rfl rfl rfl rfl rfl rfl ?_
  simp only [List.append_nil, List.map_nil, insertAll, kill_nil]
  exact k
theorem WH.cp {f e : Nat} {xs : List Opd} {fn : Fn} {as : List Arg} {p : Prop} {dp : Decidable p} {g : Option (Nat × Bool)} {l1 l2 l3 l4 : List Nat} (hw : wanted dsts (kill l1 (only l3 σ)).env g = some true) (hΓ : Γ f = some fn)
    (hn : mutIds fn.muts (xs.map (ev (kill l1 (only l3 σ)).env)) = []) (ha : args (kill l1 (only l3 σ)) [] fn.muts (xs.map (ev (kill l1 (only l3 σ)).env)) = some as) (hg : Gives Γ f as ⟨[.s (.bool (decide p))], []⟩) (hb : backs (kill l1 (only l3 σ)) fn.muts (xs.map (ev (kill l1 (only l3 σ)).env)) [] = some [])
    (k1 : p → WH Γ dsts ops Q (set (some e) (.a (.d (.s (.bool true)))) σ)) (k2 : ¬ p → WH Γ dsts ops Q (set (some e) (.a (.d (.s (.bool false)))) σ)) : WH Γ dsts (⟨some e, .call f xs, g, l1, l2, l3, l4⟩ :: ops) Q σ := by
  refine WH.cs hw hΓ hn ha hg hb ?_
  by_cases h : p
  · simp only [h, decide_true]; exact k1 h
  · simp only [h, decide_false]; exact k2 h
theorem WH.bs {es len e : Nat} {zs : List S} {ps : List (Nat × Opd)} {v : V} {ob : Ob} {g : Option (Nat × Bool)} {l1 l2 l3 l4 : List Nat} (hw : wanted dsts (kill l1 (only l3 σ)).env g = some true) (hm : makes (kill l1 (only l3 σ)) e (.bsl es len zs ps) = some (v, [(e, ob)])) (hp : noPar σ [e] = true) (hi : l2.contains e = true)
    (hv : killV l1 v = v) (ho : killO l1 ob = ob) (k : WH Γ dsts ops Q (set (some e) v (put e ob (kill [e] σ)))) : WH Γ dsts (⟨some e, .bsl es len zs ps, g, l1, l2, l3, l4⟩ :: ops) Q σ :=
  WH.mk (d := e) (ob := ob) hw rfl rfl hm hp hi hv ho k
theorem WH.ec {d : Option Nat} {a b : Opd} {x y x' y' : Int} {g : Option (Nat × Bool)} {l1 l2 l3 l4 : List Nat} (hw : wanted dsts (kill l1 (only l3 σ)).env g = some true) (ha : ev (kill l1 (only l3 σ)).env a = .a (.d (.agg [.int .i8 x, .int .i8 y]))) (hb : ev (kill l1 (only l3 σ)).env b = .a (.d (.agg [.int .i8 x', .int .i8 y'])))
    (k1 : x = x' ∧ y = y' → WH Γ dsts ops Q (set d (.a (.d (.s (.bool true)))) σ)) (k2 : ¬ (x = x' ∧ y = y') → WH Γ dsts ops Q (set d (.a (.d (.s (.bool false)))) σ)) : WH Γ dsts (⟨d, .eqa false true [.int .i8, .int .i8] a b, g, l1, l2, l3, l4⟩ :: ops) Q σ := by
  have hq : quiet (kill l1 (only l3 σ)) (.eqa false true [.int .i8, .int .i8] a b) = some (.a (.d (.s (.bool (decide (x = x' ∧ y = y')))))) := by
    simp [quiet, ha, hb, cellsA, hasKs, hasK, eqSs, eqS, sv, Bool.decide_and]
    rw [show (x == x') = decide (x = x') from rfl, show (y == y') = decide (y = y') from rfl]
  by_cases h : x = x' ∧ y = y'
  · exact WH.q hw (by rw [show veil _ σ = kill l1 (only l3 σ) from rfl, hq]; simp only [h, and_self, decide_true]) rfl (k1 h)
  · exact WH.q hw (by rw [show veil _ σ = kill l1 (only l3 σ) from rfl, hq]; simp only [h, decide_false]) rfl (k2 h)
section
variable {d : Option Nat} {g : Option (Nat × Bool)} {l1 l2 l3 l4 : List Nat}
theorem WH.mv {a : Opd} {x : A} (hw : wanted dsts (kill l1 (only l3 σ)).env g = some true) (hq : ev (kill l1 (only l3 σ)).env a = .a x) (hv : killV l1 (.a x) = (.a x)) (k : WH Γ dsts ops Q (set d (.a x) σ)) : WH Γ dsts (⟨d, .mv a, g, l1, l2, l3, l4⟩ :: ops) Q σ := WH.q hw (congrArg some hq) hv k
theorem WH.mvt {a : Opd} {x : List A} (hw : wanted dsts (kill l1 (only l3 σ)).env g = some true) (hq : ev (kill l1 (only l3 σ)).env a = .tup x) (hv : killV l1 (.tup x) = (.tup x)) (k : WH Γ dsts ops Q (set d (.tup x) σ)) : WH Γ dsts (⟨d, .mv a, g, l1, l2, l3, l4⟩ :: ops) Q σ := WH.q hw (congrArg some hq) hv k
theorem WH.lss {ik : IntKind} {a b : Opd} {x y : Int} (hw : wanted dsts (kill l1 (only l3 σ)).env g = some true) (ha : ev (kill l1 (only l3 σ)).env a = .a (.d (.s (.int ik x)))) (hb : ev (kill l1 (only l3 σ)).env b = .a (.d (.s (.int ik y)))) (k1 : x < y → WH Γ dsts ops Q (set d (.a (.d (.s (.bool true)))) σ)) (k2 : ¬ x < y → WH Γ dsts ops Q (set d (.a (.d (.s (.bool false)))) σ)) : WH Γ dsts (⟨d, .bin .lss a b, g, l1, l2, l3, l4⟩ :: ops) Q σ := by
  by_cases h : x < y
  · exact WH.q hw (by simp [veil, quiet, ha, hb, bin, isShift, intBin, h, sv]) rfl (k1 h)
  · exact WH.q hw (by simp [veil, quiet, ha, hb, bin, isShift, intBin, h, sv]; try omega) rfl (k2 h)
theorem WH.leq {ik : IntKind} {a b : Opd} {x y : Int} (hw : wanted dsts (kill l1 (only l3 σ)).env g = some true) (ha : ev (kill l1 (only l3 σ)).env a = .a (.d (.s (.int ik x)))) (hb : ev (kill l1 (only l3 σ)).env b = .a (.d (.s (.int ik y)))) (k1 : x ≤ y → WH Γ dsts ops Q (set d (.a (.d (.s (.bool true)))) σ)) (k2 : ¬ x ≤ y → WH Γ dsts ops Q (set d (.a (.d (.s (.bool false)))) σ)) : WH Γ dsts (⟨d, .bin .leq a b, g, l1, l2, l3, l4⟩ :: ops) Q σ := by
  by_cases h : x ≤ y
  · exact WH.q hw (by simp [veil, quiet, ha, hb, bin, isShift, intBin, h, sv]) rfl (k1 h)
  · exact WH.q hw (by simp [veil, quiet, ha, hb, bin, isShift, intBin, h, sv]; try omega) rfl (k2 h)
theorem WH.gtr {ik : IntKind} {a b : Opd} {x y : Int} (hw : wanted dsts (kill l1 (only l3 σ)).env g = some true) (ha : ev (kill l1 (only l3 σ)).env a = .a (.d (.s (.int ik x)))) (hb : ev (kill l1 (only l3 σ)).env b = .a (.d (.s (.int ik y)))) (k1 : x > y → WH Γ dsts ops Q (set d (.a (.d (.s (.bool true)))) σ)) (k2 : ¬ x > y → WH Γ dsts ops Q (set d (.a (.d (.s (.bool false)))) σ)) : WH Γ dsts (⟨d, .bin .gtr a b, g, l1, l2, l3, l4⟩ :: ops) Q σ := by
  by_cases h : x > y
  · exact WH.q hw (by simp [veil, quiet, ha, hb, bin, isShift, intBin, h, sv]) rfl (k1 h)
  · exact WH.q hw (by simp [veil, quiet, ha, hb, bin, isShift, intBin, h, sv]; try omega) rfl (k2 h)
theorem WH.geq {ik : IntKind} {a b : Opd} {x y : Int} (hw : wanted dsts (kill l1 (only l3 σ)).env g = some true) (ha : ev (kill l1 (only l3 σ)).env a = .a (.d (.s (.int ik x)))) (hb : ev (kill l1 (only l3 σ)).env b = .a (.d (.s (.int ik y)))) (k1 : x ≥ y → WH Γ dsts ops Q (set d (.a (.d (.s (.bool true)))) σ)) (k2 : ¬ x ≥ y → WH Γ dsts ops Q (set d (.a (.d (.s (.bool false)))) σ)) : WH Γ dsts (⟨d, .bin .geq a b, g, l1, l2, l3, l4⟩ :: ops) Q σ := by
  by_cases h : x ≥ y
  · exact WH.q hw (by simp [veil, quiet, ha, hb, bin, isShift, intBin, h, sv]) rfl (k1 h)
  · exact WH.q hw (by simp [veil, quiet, ha, hb, bin, isShift, intBin, h, sv]; try omega) rfl (k2 h)
theorem WH.eql {ik : IntKind} {a b : Opd} {x y : Int} (hw : wanted dsts (kill l1 (only l3 σ)).env g = some true) (ha : ev (kill l1 (only l3 σ)).env a = .a (.d (.s (.int ik x)))) (hb : ev (kill l1 (only l3 σ)).env b = .a (.d (.s (.int ik y)))) (k1 : x = y → WH Γ dsts ops Q (set d (.a (.d (.s (.bool true)))) σ)) (k2 : ¬ x = y → WH Γ dsts ops Q (set d (.a (.d (.s (.bool false)))) σ)) : WH Γ dsts (⟨d, .bin .eql a b, g, l1, l2, l3, l4⟩ :: ops) Q σ := by
  by_cases h : x = y
  · exact WH.q hw (by simp [veil, quiet, ha, hb, bin, isShift, intBin, h, sv]) rfl (k1 h)
  · exact WH.q hw (by simp [veil, quiet, ha, hb, bin, isShift, intBin, h, sv]) rfl (k2 h)
theorem WH.neq {ik : IntKind} {a b : Opd} {x y : Int} (hw : wanted dsts (kill l1 (only l3 σ)).env g = some true) (ha : ev (kill l1 (only l3 σ)).env a = .a (.d (.s (.int ik x)))) (hb : ev (kill l1 (only l3 σ)).env b = .a (.d (.s (.int ik y)))) (k1 : ¬ x = y → WH Γ dsts ops Q (set d (.a (.d (.s (.bool true)))) σ)) (k2 : x = y → WH Γ dsts ops Q (set d (.a (.d (.s (.bool false)))) σ)) : WH Γ dsts (⟨d, .bin .neq a b, g, l1, l2, l3, l4⟩ :: ops) Q σ := by
  by_cases h : x = y
  · exact WH.q hw (by simp [veil, quiet, ha, hb, bin, isShift, intBin, h, sv]) rfl (k2 h)
  · exact WH.q hw (by simp [veil, quiet, ha, hb, bin, isShift, intBin, h, sv]) rfl (k1 h)
theorem WH.eb {ng ag : Bool} {ks : List SK} {a b : Opd} {c : Bool} (hw : wanted dsts (kill l1 (only l3 σ)).env g = some true) (hq : quiet (kill l1 (only l3 σ)) (.eqa ng ag ks a b) = some (.a (.d (.s (.bool c))))) (k : ∀ b', c = b' → WH Γ dsts ops Q (set d (.a (.d (.s (.bool b')))) σ)) : WH Γ dsts (⟨d, .eqa ng ag ks a b, g, l1, l2, l3, l4⟩ :: ops) Q σ :=
  WH.q hw hq rfl (k c rfl)
theorem WH.un {op : UnOp} {a : Opd} {x : A} (hw : wanted dsts (kill l1 (only l3 σ)).env g = some true) (hq : unop op (ev (kill l1 (only l3 σ)).env a) = some (.a x)) (hv : killV l1 (.a x) = (.a x)) (k : WH Γ dsts ops Q (set d (.a x) σ)) : WH Γ dsts (⟨d, .un op a, g, l1, l2, l3, l4⟩ :: ops) Q σ := WH.q hw hq hv k
theorem WH.pk {c a b : Opd} {x : A} (hw : wanted dsts (kill l1 (only l3 σ)).env g = some true) (hq : quiet (kill l1 (only l3 σ)) (.pick c a b) = some (.a x)) (hv : killV l1 (.a x) = (.a x)) (k : WH Γ dsts ops Q (set d (.a x) σ)) : WH Γ dsts (⟨d, .pick c a b, g, l1, l2, l3, l4⟩ :: ops) Q σ := WH.q hw hq hv k
theorem WH.fa {off : Nat} {a : Opd} {x : A} (hw : wanted dsts (kill l1 (only l3 σ)).env g = some true) (hq : fadr off (ev (kill l1 (only l3 σ)).env a) = some (.a x)) (hv : killV l1 (.a x) = (.a x)) (k : WH Γ dsts ops Q (set d (.a x) σ)) : WH Γ dsts (⟨d, .fadr off a, g, l1, l2, l3, l4⟩ :: ops) Q σ := WH.q hw hq hv k
theorem WH.nc {a : Opd} {x : A} (hw : wanted dsts (kill l1 (only l3 σ)).env g = some true) (hq : nilc (ev (kill l1 (only l3 σ)).env a) = some (.a x)) (hv : killV l1 (.a x) = (.a x)) (k : WH Γ dsts ops Q (set d (.a x) σ)) : WH Γ dsts (⟨d, .nilc a, g, l1, l2, l3, l4⟩ :: ops) Q σ := WH.q hw hq hv k
theorem WH.bu {zs : List S} {ps : List (Nat × Nat × Opd)} {cs : List S} (hw : wanted dsts (kill l1 (only l3 σ)).env g = some true) (hq : quiet (kill l1 (only l3 σ)) (.build zs ps) = some (.a (.d (.agg cs)))) (k : WH Γ dsts ops Q (set d (.a (.d (.agg cs))) σ)) : WH Γ dsts (⟨d, .build zs ps, g, l1, l2, l3, l4⟩ :: ops) Q σ := WH.q hw hq rfl k
theorem WH.ex {a : Opd} {i : Nat} {x : A} (hw : wanted dsts (kill l1 (only l3 σ)).env g = some true) (hq : quiet (kill l1 (only l3 σ)) (.ext a i) = some (.a x)) (hv : killV l1 (.a x) = (.a x)) (k : WH Γ dsts ops Q (set d (.a x) σ)) : WH Γ dsts (⟨d, .ext a i, g, l1, l2, l3, l4⟩ :: ops) Q σ := WH.q hw hq hv k
theorem WH.le {kd : SlK} {a : Opd} {x : A} (hw : wanted dsts (kill l1 (only l3 σ)).env g = some true) (hq : quiet (kill l1 (only l3 σ)) (.len kd a) = some (.a x)) (hv : killV l1 (.a x) = (.a x)) (k : WH Γ dsts ops Q (set d (.a x) σ)) : WH Γ dsts (⟨d, .len kd a, g, l1, l2, l3, l4⟩ :: ops) Q σ := WH.q hw hq hv k
theorem WH.lx {n : Nat} {ag : Bool} {a : Opd} {x : A} (hw : wanted dsts (kill l1 (only l3 σ)).env g = some true) (hq : load (kill l1 (only l3 σ)).objs n ag (ev (kill l1 (only l3 σ)).env a) = some (.a x)) (hv : killV l1 (.a x) = (.a x)) (k : WH Γ dsts ops Q (set d (.a x) σ)) : WH Γ dsts (⟨d, .load n ag a, g, l1, l2, l3, l4⟩ :: ops) Q σ := WH.q hw hq hv k
theorem WH.al {e : Nat} {zs : List S} (hw : wanted dsts (kill l1 (only l3 σ)).env g = some true) (hp : noPar σ [e] = true) (hi : l2.contains e = true) (hv : killV l1 (.a (.ptr e 0)) = .a (.ptr e 0)) (k : WH Γ dsts ops Q (set (some e) (.a (.ptr e 0)) (put e (.flat false zs) (kill [e] σ)))) : WH Γ dsts (⟨some e, .alloc zs, g, l1, l2, l3, l4⟩ :: ops) Q σ :=
  WH.mk (d := e) (ob := .flat false zs) hw rfl rfl rfl hp hi hv rfl k
theorem WH.bo {n e : Nat} {a : Opd} {v : V} {ob : Ob} (hw : wanted dsts (kill l1 (only l3 σ)).env g = some true) (hm : boxV e n (ev (kill l1 (only l3 σ)).env a) = some (v, [(e, ob)])) (hp : noPar σ [e] = true) (hi : l2.contains e = true) (hv : killV l1 v = v) (ho : killO l1 ob = ob) (k : WH Γ dsts ops Q (set (some e) v (put e ob (kill [e] σ)))) : WH Γ dsts (⟨some e, .box n a, g, l1, l2, l3, l4⟩ :: ops) Q σ :=
  WH.mk (d := e) (ob := ob) hw rfl rfl hm hp hi hv ho k
theorem WH.off {op : Op} {q : Nat × Bool} (hw : wanted dsts (kill l1 (only l3 σ)).env (some q) = some false) (k : WH Γ dsts ops Q (set d (.tup []) σ)) : WH Γ dsts (⟨d, op, some q, l1, l2, l3, l4⟩ :: ops) Q σ :=
  WH.cons ⟨0, by simp [stepH, deltaG, veil, hw, noPar, within, hideD, killV, applyD, insertAll, kill_nil]⟩ k
theorem WH.ia {len es p off : Nat} {a i : Opd} {k : IntKind} {n : Int} (hw : wanted dsts (kill l1 (only l3 σ)).env g = some true) (ha : ev (kill l1 (only l3 σ)).env a = .a (.ptr p off)) (hi : ev (kill l1 (only l3 σ)).env i = .a (.d (.s (.int k n)))) (hb : 0 ≤ n ∧ n < len)
    (hv : killV l1 (.a (.ptr p (off + n.toNat * es))) = (.a (.ptr p (off + n.toNat * es)))) (K : WH Γ dsts ops Q (set d (.a (.ptr p (off + n.toNat * es))) σ)) : WH Γ dsts (⟨d, .idxa len es a i, g, l1, l2, l3, l4⟩ :: ops) Q σ :=
  WH.q hw (by simp only [veil, quiet, ha, hi, idxa, asI, Option.bind_some, if_pos hb, fadr]) hv K
theorem WH.ga {len es : Nat} {ag : Bool} {a i : Opd} {k : IntKind} {n : Int} {cs : List S} {v : V} (hw : wanted dsts (kill l1 (only l3 σ)).env g = some true) (ha : ev (kill l1 (only l3 σ)).env a = .a (.d (.agg cs))) (hi : ev (kill l1 (only l3 σ)).env i = .a (.d (.s (.int k n)))) (hb : 0 ≤ n ∧ n < len) (hl : loadC es ag cs (n.toNat * es) = some v)
    (hv : killV l1 v = v) (K : WH Γ dsts ops Q (set d v σ)) : WH Γ dsts (⟨d, .idxagg len es ag a i, g, l1, l2, l3, l4⟩ :: ops) Q σ :=
  WH.q hw (by simp only [veil, quiet, ha, hi, if_pos hb, hl]) hv K
theorem WH.iad {len es off : Nat} {a i : Opd} {k : IntKind} {n : Int} {cs : List S} (hw : wanted dsts (kill l1 (only l3 σ)).env g = some true) (ha : ev (kill l1 (only l3 σ)).env a = .a (.dptr cs off)) (hi : ev (kill l1 (only l3 σ)).env i = .a (.d (.s (.int k n)))) (hb : 0 ≤ n ∧ n < len)
    (hv : killV l1 (.a (.dptr cs (off + n.toNat * es))) = (.a (.dptr cs (off + n.toNat * es)))) (K : WH Γ dsts ops Q (set d (.a (.dptr cs (off + n.toNat * es))) σ)) : WH Γ dsts (⟨d, .idxa len es a i, g, l1, l2, l3, l4⟩ :: ops) Q σ :=
  WH.q hw (by simp only [veil, quiet, ha, hi, idxa, asI, Option.bind_some, if_pos hb, fadr]) hv K
theorem WH.iar {len es : Nat} {a i : Opd} {k : IntKind} {n : Int} {cs : List S} (hw : wanted dsts (kill l1 (only l3 σ)).env g = some true) (ha : ev (kill l1 (only l3 σ)).env a = .a (.d (.ref cs))) (hi : ev (kill l1 (only l3 σ)).env i = .a (.d (.s (.int k n)))) (hb : 0 ≤ n ∧ n < len)
    (hv : killV l1 (.a (.dptr cs (0 + n.toNat * es))) = (.a (.dptr cs (0 + n.toNat * es)))) (K : WH Γ dsts ops Q (set d (.a (.dptr cs (0 + n.toNat * es))) σ)) : WH Γ dsts (⟨d, .idxa len es a i, g, l1, l2, l3, l4⟩ :: ops) Q σ :=
  WH.q hw (by simp only [veil, quiet, ha, hi, idxa, asI, Option.bind_some, if_pos hb, fadr, Nat.zero_add]) hv K
theorem WH.is {es p off m : Nat} {a i : Opd} {k : IntKind} {n : Int} (hw : wanted dsts (kill l1 (only l3 σ)).env g = some true) (ha : ev (kill l1 (only l3 σ)).env a = .a (.sl p off m es)) (hi : ev (kill l1 (only l3 σ)).env i = .a (.d (.s (.int k n)))) (hb : 0 ≤ n ∧ n < m)
    (hv : killV l1 (.a (.ptr p (off + n.toNat * es))) = (.a (.ptr p (off + n.toNat * es)))) (K : WH Γ dsts ops Q (set d (.a (.ptr p (off + n.toNat * es))) σ)) : WH Γ dsts (⟨d, .idxs es a i, g, l1, l2, l3, l4⟩ :: ops) Q σ :=
  WH.q hw (by simp only [veil, quiet, ha, hi, idxs, asI, Option.bind_some]; rw [if_neg (by omega), if_pos ⟨hb.2, trivial⟩]) hv K
theorem WH.id {es m : Nat} {cs : List S} {a i : Opd} {k : IntKind} {n : Int} (hw : wanted dsts (kill l1 (only l3 σ)).env g = some true) (ha : ev (kill l1 (only l3 σ)).env a = .a (.d (.sl m es cs))) (hi : ev (kill l1 (only l3 σ)).env i = .a (.d (.s (.int k n)))) (hb : 0 ≤ n ∧ n < m) (hc : m * es ≤ cs.length)
    (hv : killV l1 (.a (.dptr cs (n.toNat * es))) = (.a (.dptr cs (n.toNat * es)))) (K : WH Γ dsts ops Q (set d (.a (.dptr cs (n.toNat * es))) σ)) : WH Γ dsts (⟨d, .idxs es a i, g, l1, l2, l3, l4⟩ :: ops) Q σ :=
  WH.q hw (by simp only [veil, quiet, ha, hi, idxs, asI, Option.bind_some]; rw [if_neg (by omega), if_pos ⟨hb.2, trivial, hc⟩]) hv K
theorem WH.ld {n p off : Nat} {agg par : Bool} {a : Opd} {cs : List S} {v : V} (hw : wanted dsts (kill l1 (only l3 σ)).env g = some true) (ha : ev (kill l1 (only l3 σ)).env a = .a (.ptr p off)) (hb : (kill l1 (only l3 σ)).objs p = some (.flat par cs)) (hl : loadC n agg cs off = some v)
    (hv : killV l1 v = v) (K : WH Γ dsts ops Q (set d v σ)) : WH Γ dsts (⟨d, .load n agg a, g, l1, l2, l3, l4⟩ :: ops) Q σ :=
  WH.q hw (by simp only [veil, quiet, ha, DM.load, hb, hl]) hv K
theorem WH.ldd {n off : Nat} {agg : Bool} {a : Opd} {cs : List S} {v : V} (hw : wanted dsts (kill l1 (only l3 σ)).env g = some true) (ha : ev (kill l1 (only l3 σ)).env a = .a (.dptr cs off)) (hl : loadC n agg cs off = some v)
    (hv : killV l1 v = v) (K : WH Γ dsts ops Q (set d v σ)) : WH Γ dsts (⟨d, .load n agg a, g, l1, l2, l3, l4⟩ :: ops) Q σ :=
  WH.q hw (by simp only [veil, quiet, ha, DM.load, hl]) hv K
theorem WH.ldr {n : Nat} {agg : Bool} {a : Opd} {cs : List S} {v : V} (hw : wanted dsts (kill l1 (only l3 σ)).env g = some true) (ha : ev (kill l1 (only l3 σ)).env a = .a (.d (.ref cs))) (hl : loadC n agg cs 0 = some v)
    (hv : killV l1 v = v) (K : WH Γ dsts ops Q (set d v σ)) : WH Γ dsts (⟨d, .load n agg a, g, l1, l2, l3, l4⟩ :: ops) Q σ :=
  WH.q hw (by simp only [veil, quiet, ha, DM.load, hl]) hv K
theorem WH.cv {k k' : IntKind} {a : Opd} {n : Int} (hw : wanted dsts (kill l1 (only l3 σ)).env g = some true) (ha : ev (kill l1 (only l3 σ)).env a = .a (.d (.s (.int k' n)))) (hn : k.wrap n = n)
    (K : WH Γ dsts ops Q (set d (.a (.d (.s (.int k n)))) σ)) : WH Γ dsts (⟨d, .conv (.int k) a, g, l1, l2, l3, l4⟩ :: ops) Q σ :=
  WH.q hw (by simp only [veil, quiet, ha, convInt, hn, sv]) rfl K
theorem WH.ad {k : IntKind} {a b : Opd} {x y : Int} (hw : wanted dsts (kill l1 (only l3 σ)).env g = some true) (ha : ev (kill l1 (only l3 σ)).env a = .a (.d (.s (.int k x)))) (hb : ev (kill l1 (only l3 σ)).env b = .a (.d (.s (.int k y)))) (hn : k.wrap (x + y) = x + y)
    (K : WH Γ dsts ops Q (set d (.a (.d (.s (.int k (x + y))))) σ)) : WH Γ dsts (⟨d, .bin .add a b, g, l1, l2, l3, l4⟩ :: ops) Q σ :=
  WH.q hw (by simp [veil, quiet, ha, hb, bin, isShift, intBin, hn, sv]) rfl K
theorem WH.sb {k : IntKind} {a b : Opd} {x y : Int} (hw : wanted dsts (kill l1 (only l3 σ)).env g = some true) (ha : ev (kill l1 (only l3 σ)).env a = .a (.d (.s (.int k x)))) (hb : ev (kill l1 (only l3 σ)).env b = .a (.d (.s (.int k y)))) (hn : k.wrap (x - y) = x - y)
    (K : WH Γ dsts ops Q (set d (.a (.d (.s (.int k (x - y))))) σ)) : WH Γ dsts (⟨d, .bin .sub a b, g, l1, l2, l3, l4⟩ :: ops) Q σ :=
  WH.q hw (by simp [veil, quiet, ha, hb, bin, isShift, intBin, hn, sv]) rfl K
theorem WH.bx {n e : Nat} {cs : List S} {a : Opd} (hw : wanted dsts (kill l1 (only l3 σ)).env g = some true) (ha : ev (kill l1 (only l3 σ)).env a = .a (.d (.agg cs))) (hl : cs.length = n) (hp : noPar σ [e] = true) (hi : l2.contains e = true)
    (hv : killV l1 (.a (.ptr e 0)) = .a (.ptr e 0)) (k : WH Γ dsts ops Q (set (some e) (.a (.ptr e 0)) (put e (.flat false cs) (kill [e] σ)))) : WH Γ dsts (⟨some e, .box n a, g, l1, l2, l3, l4⟩ :: ops) Q σ :=
  WH.mk (d := e) (ob := .flat false cs) hw rfl rfl (by simp only [makes, veil, ha, boxV, cellsOf, hl, if_true]) hp hi hv rfl k
theorem WH.ix {es : Nat} {a i : Opd} {x : A} (hw : wanted dsts (kill l1 (only l3 σ)).env g = some true) (hq : idxs es (ev (kill l1 (only l3 σ)).env a) (ev (kill l1 (only l3 σ)).env i) = some (.a x)) (hv : killV l1 (.a x) = (.a x)) (k : WH Γ dsts ops Q (set d (.a x) σ)) : WH Γ dsts (⟨d, .idxs es a i, g, l1, l2, l3, l4⟩ :: ops) Q σ := WH.q hw hq hv k
theorem WH.sc {kd : SlK} {a : Opd} {lo hi : Option Opd} {x : A} (hw : wanted dsts (kill l1 (only l3 σ)).env g = some true) (hq : quiet (kill l1 (only l3 σ)) (.slc kd a lo hi) = some (.a x)) (hv : killV l1 (.a x) = (.a x)) (k : WH Γ dsts ops Q (set d (.a x) σ)) : WH Γ dsts (⟨d, .slc kd a lo hi, g, l1, l2, l3, l4⟩ :: ops) Q σ := WH.q hw hq hv k
theorem WH.mf {f : Nat} {p q : List Opd} {x : V} (hw : wanted dsts (kill l1 (only l3 σ)).env g = some true) (hq : quiet (kill l1 (only l3 σ)) (.mkf f p q) = some x) (hv : killV l1 x = x) (k : WH Γ dsts ops Q (set d x σ)) : WH Γ dsts (⟨d, .mkf f p q, g, l1, l2, l3, l4⟩ :: ops) Q σ := WH.q hw hq hv k
end
end
end Go.DM
