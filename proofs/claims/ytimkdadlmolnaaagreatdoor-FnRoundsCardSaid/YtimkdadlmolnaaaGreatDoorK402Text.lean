/- Rules for texts: strings, rows of strings, bytes. -/
import Derived.Test.YtimkdadlmolnaaaGreatDoorK402Rule2
import Derived.Test.YtimkdadlmolnaaaGreatDoorK402Given
set_option linter.unusedSectionVars false
set_option linter.unusedSimpArgs false
set_option linter.unusedVariables false
namespace Go.DM
variable [Tok]
open Go.IntWalk
def gB (s : List UInt8) (k : Nat) : Int := ((s.getD k 0).toNat : Int)
section
variable {dsts : Nat → Option Nat} {ops : List Oper} {Q : St → Prop} {σ : St} {d : Option Nat} {gd : Option (Nat × Bool)} {l1 l2 l3 l4 : List Nat} {Γ : Nat → Option Fn}
theorem quiet_ist {a i : Opd} {s : List UInt8} {k : IntKind} {n : Int} (ha : ev σ.env a = .a (.d (.s (.str s)))) (hi : ev σ.env i = .a (.d (.s (.int k n)))) (hb : 0 ≤ n ∧ n < s.length) : quiet σ (.idxstr a i) = some (.a (.d (.s (.int .u8 (gB s n.toNat))))) := by
  have hl : n.toNat < s.length := by omega
  simp only [quiet, ha, hi]
  rw [if_pos hb.1, List.getElem?_eq_getElem hl, Option.map_some]
  simp [gB, List.getD_eq_getElem?_getD, hl, sv]
theorem WR.ist {a i : Opd} {s : List UInt8} {k : IntKind} {n : Int} (hw : wanted dsts σ.env gd = some true) (ha : ev σ.env a = .a (.d (.s (.str s)))) (hi : ev σ.env i = .a (.d (.s (.int k n)))) (hb : 0 ≤ n ∧ n < s.length)
    (K : WR Γ dsts ops Q (set d (.a (.d (.s (.int .u8 (gB s n.toNat))))) σ)) : WR Γ dsts (⟨d, .idxstr a i, gd, l1, l2, l3, l4⟩ :: ops) Q σ := WR.q hw (quiet_ist ha hi hb) K
theorem WH.ist {a i : Opd} {s : List UInt8} {k : IntKind} {n : Int} (hw : wanted dsts (kill l1 (only l3 σ)).env gd = some true) (ha : ev (kill l1 (only l3 σ)).env a = .a (.d (.s (.str s)))) (hi : ev (kill l1 (only l3 σ)).env i = .a (.d (.s (.int k n)))) (hb : 0 ≤ n ∧ n < s.length)
    (K : WH Γ dsts ops Q (set d (.a (.d (.s (.int .u8 (gB s n.toNat))))) σ)) : WH Γ dsts (⟨d, .idxstr a i, gd, l1, l2, l3, l4⟩ :: ops) Q σ := WH.q hw (quiet_ist ha hi hb) rfl K
end
section
variable {dsts : Nat → Option Nat} {ops : List Oper} {Q : St → Prop} {σ : St} {d : Option Nat} {gd : Option (Nat × Bool)} {l1 l2 l3 l4 : List Nat} {Γ : Nat → Option Fn}
theorem quiet_sad {a b : Opd} {s t : List UInt8} (ha : ev σ.env a = .a (.d (.s (.str s)))) (hb : ev σ.env b = .a (.d (.s (.str t)))) (hl : s.length + t.length ≤ 1073741824) : quiet σ (.bin .add a b) = some (.a (.d (.s (.str (s ++ t))))) := by
  simp only [quiet, ha, hb, bin, strBin]
  rw [if_pos (show s.length + t.length ≤ big from hl)]; rfl
theorem WR.sad {a b : Opd} {s t : List UInt8} (hw : wanted dsts σ.env gd = some true) (ha : ev σ.env a = .a (.d (.s (.str s)))) (hb : ev σ.env b = .a (.d (.s (.str t)))) (hl : s.length + t.length ≤ 1073741824)
    (K : WR Γ dsts ops Q (set d (.a (.d (.s (.str (s ++ t))))) σ)) : WR Γ dsts (⟨d, .bin .add a b, gd, l1, l2, l3, l4⟩ :: ops) Q σ := WR.q hw (quiet_sad ha hb hl) K
theorem WH.sad {a b : Opd} {s t : List UInt8} (hw : wanted dsts (kill l1 (only l3 σ)).env gd = some true) (ha : ev (kill l1 (only l3 σ)).env a = .a (.d (.s (.str s)))) (hb : ev (kill l1 (only l3 σ)).env b = .a (.d (.s (.str t)))) (hl : s.length + t.length ≤ 1073741824)
    (K : WH Γ dsts ops Q (set d (.a (.d (.s (.str (s ++ t))))) σ)) : WH Γ dsts (⟨d, .bin .add a b, gd, l1, l2, l3, l4⟩ :: ops) Q σ := WH.q hw (quiet_sad ha hb hl) rfl K
theorem quiet_rem {a b : Opd} {k : IntKind} {n m : Int} (ha : ev σ.env a = .a (.d (.s (.int k n)))) (hb : ev σ.env b = .a (.d (.s (.int k m)))) (hm : m ≠ 0) : quiet σ (.bin .rem a b) = some (.a (.d (.s (.int k (n.tmod m))))) := by
  simp only [quiet, ha, hb, bin, isShift, intBin, if_true]
  rw [if_neg hm]; rfl
theorem WR.rem {a b : Opd} {k : IntKind} {n m : Int} (hw : wanted dsts σ.env gd = some true) (ha : ev σ.env a = .a (.d (.s (.int k n)))) (hb : ev σ.env b = .a (.d (.s (.int k m)))) (hm : m ≠ 0)
    (K : WR Γ dsts ops Q (set d (.a (.d (.s (.int k (n.tmod m))))) σ)) : WR Γ dsts (⟨d, .bin .rem a b, gd, l1, l2, l3, l4⟩ :: ops) Q σ := WR.q hw (quiet_rem ha hb hm) K
theorem WH.rem {a b : Opd} {k : IntKind} {n m : Int} (hw : wanted dsts (kill l1 (only l3 σ)).env gd = some true) (ha : ev (kill l1 (only l3 σ)).env a = .a (.d (.s (.int k n)))) (hb : ev (kill l1 (only l3 σ)).env b = .a (.d (.s (.int k m)))) (hm : m ≠ 0)
    (K : WH Γ dsts ops Q (set d (.a (.d (.s (.int k (n.tmod m))))) σ)) : WH Γ dsts (⟨d, .bin .rem a b, gd, l1, l2, l3, l4⟩ :: ops) Q σ := WH.q hw (quiet_rem ha hb hm) rfl K
theorem quiet_quo {a b : Opd} {k : IntKind} {n m : Int} (ha : ev σ.env a = .a (.d (.s (.int k n)))) (hb : ev σ.env b = .a (.d (.s (.int k m)))) (hm : m ≠ 0) (hn : k.wrap (n.tdiv m) = n.tdiv m) : quiet σ (.bin .quo a b) = some (.a (.d (.s (.int k (n.tdiv m))))) := by
  simp only [quiet, ha, hb, bin, isShift, intBin, if_true]
  rw [if_neg hm, hn]; rfl
theorem WR.quo {a b : Opd} {k : IntKind} {n m : Int} (hw : wanted dsts σ.env gd = some true) (ha : ev σ.env a = .a (.d (.s (.int k n)))) (hb : ev σ.env b = .a (.d (.s (.int k m)))) (hm : m ≠ 0) (hn : k.wrap (n.tdiv m) = n.tdiv m)
    (K : WR Γ dsts ops Q (set d (.a (.d (.s (.int k (n.tdiv m))))) σ)) : WR Γ dsts (⟨d, .bin .quo a b, gd, l1, l2, l3, l4⟩ :: ops) Q σ := WR.q hw (quiet_quo ha hb hm hn) K
theorem WH.quo {a b : Opd} {k : IntKind} {n m : Int} (hw : wanted dsts (kill l1 (only l3 σ)).env gd = some true) (ha : ev (kill l1 (only l3 σ)).env a = .a (.d (.s (.int k n)))) (hb : ev (kill l1 (only l3 σ)).env b = .a (.d (.s (.int k m)))) (hm : m ≠ 0) (hn : k.wrap (n.tdiv m) = n.tdiv m)
    (K : WH Γ dsts ops Q (set d (.a (.d (.s (.int k (n.tdiv m))))) σ)) : WH Γ dsts (⟨d, .bin .quo a b, gd, l1, l2, l3, l4⟩ :: ops) Q σ := WH.q hw (quiet_quo ha hb hm hn) rfl K
theorem WR.remp {a b : Opd} {k : IntKind} {n m : Int} (hw : wanted dsts σ.env gd = some true) (ha : ev σ.env a = .a (.d (.s (.int k n)))) (hb : ev σ.env b = .a (.d (.s (.int k m)))) (hm : 0 ≤ n ∧ 0 < m)
    (K : WR Γ dsts ops Q (set d (.a (.d (.s (.int k (n % m))))) σ)) : WR Γ dsts (⟨d, .bin .rem a b, gd, l1, l2, l3, l4⟩ :: ops) Q σ := WR.q hw (by
      have := quiet_rem ha hb (by omega)
      rw [Int.tmod_eq_emod_of_nonneg hm.1] at this; exact this) K
theorem WH.remp {a b : Opd} {k : IntKind} {n m : Int} (hw : wanted dsts (kill l1 (only l3 σ)).env gd = some true) (ha : ev (kill l1 (only l3 σ)).env a = .a (.d (.s (.int k n)))) (hb : ev (kill l1 (only l3 σ)).env b = .a (.d (.s (.int k m)))) (hm : 0 ≤ n ∧ 0 < m)
    (K : WH Γ dsts ops Q (set d (.a (.d (.s (.int k (n % m))))) σ)) : WH Γ dsts (⟨d, .bin .rem a b, gd, l1, l2, l3, l4⟩ :: ops) Q σ := WH.q hw (by
      have := quiet_rem ha hb (by omega)
      rw [Int.tmod_eq_emod_of_nonneg hm.1] at this; exact this) rfl K
theorem quiet_sst {a : Opd} {lo hi : Option Opd} {s : List UInt8} {l h : Nat} (ha : ev σ.env a = .a (.d (.s (.str s)))) (hl : bound (lo.map (ev σ.env)) 0 = some l) (hh : bound (hi.map (ev σ.env)) s.length = some h) (hb : l ≤ h ∧ h ≤ s.length) : quiet σ (.slc .str a lo hi) = some (.a (.d (.s (.str ((s.drop l).take (h - l)))))) := by
  simp only [quiet, ha, slc, hl, hh, Option.bind_some]
  rw [if_pos hb]; rfl
theorem WR.sst {a : Opd} {lo hi : Option Opd} {s : List UInt8} {l h : Nat} (hw : wanted dsts σ.env gd = some true) (ha : ev σ.env a = .a (.d (.s (.str s)))) (hl : bound (lo.map (ev σ.env)) 0 = some l) (hh : bound (hi.map (ev σ.env)) s.length = some h) (hb : l ≤ h ∧ h ≤ s.length)
    (K : WR Γ dsts ops Q (set d (.a (.d (.s (.str ((s.drop l).take (h - l)))))) σ)) : WR Γ dsts (⟨d, .slc .str a lo hi, gd, l1, l2, l3, l4⟩ :: ops) Q σ := WR.q hw (quiet_sst ha hl hh hb) K
theorem WH.sst {a : Opd} {lo hi : Option Opd} {s : List UInt8} {l h : Nat} (hw : wanted dsts (kill l1 (only l3 σ)).env gd = some true) (ha : ev (kill l1 (only l3 σ)).env a = .a (.d (.s (.str s)))) (hl : bound (lo.map (ev (kill l1 (only l3 σ)).env)) 0 = some l) (hh : bound (hi.map (ev (kill l1 (only l3 σ)).env)) s.length = some h) (hb : l ≤ h ∧ h ≤ s.length)
    (K : WH Γ dsts ops Q (set d (.a (.d (.s (.str ((s.drop l).take (h - l)))))) σ)) : WH Γ dsts (⟨d, .slc .str a lo hi, gd, l1, l2, l3, l4⟩ :: ops) Q σ := WH.q hw (quiet_sst ha hl hh hb) rfl K
theorem quiet_seq {ng : Bool} {a b : Opd} {s t : List UInt8} (ha : ev σ.env a = .a (.d (.s (.str s)))) (hb : ev σ.env b = .a (.d (.s (.str t)))) : quiet σ (.bin (if ng then .neq else .eql) a b) = some (.a (.d (.s (.bool (if ng then !(s == t) else (s == t)))))) := by
  cases ng <;> simp [quiet, ha, hb, bin, strBin, sv, bne]
theorem WR.seq_ {a b : Opd} {s t : List UInt8} (hw : wanted dsts σ.env gd = some true) (ha : ev σ.env a = .a (.d (.s (.str s)))) (hb : ev σ.env b = .a (.d (.s (.str t))))
    (k1 : s = t → WR Γ dsts ops Q (set d (.a (.d (.s (.bool true)))) σ)) (k2 : s ≠ t → WR Γ dsts ops Q (set d (.a (.d (.s (.bool false)))) σ)) : WR Γ dsts (⟨d, .bin .eql a b, gd, l1, l2, l3, l4⟩ :: ops) Q σ := by
  by_cases h : s = t
  · exact WR.q hw (by rw [show BinOp.eql = (if false then BinOp.neq else .eql) from rfl, quiet_seq ha hb]; simp [h]) (k1 h)
  · exact WR.q hw (by rw [show BinOp.eql = (if false then BinOp.neq else .eql) from rfl, quiet_seq ha hb]; simp [h]) (k2 h)
theorem WR.snq {a b : Opd} {s t : List UInt8} (hw : wanted dsts σ.env gd = some true) (ha : ev σ.env a = .a (.d (.s (.str s)))) (hb : ev σ.env b = .a (.d (.s (.str t))))
    (k1 : s ≠ t → WR Γ dsts ops Q (set d (.a (.d (.s (.bool true)))) σ)) (k2 : s = t → WR Γ dsts ops Q (set d (.a (.d (.s (.bool false)))) σ)) : WR Γ dsts (⟨d, .bin .neq a b, gd, l1, l2, l3, l4⟩ :: ops) Q σ := by
  by_cases h : s = t
  · exact WR.q hw (by rw [show BinOp.neq = (if true then BinOp.neq else .eql) from rfl, quiet_seq ha hb]; simp [h]) (k2 h)
  · exact WR.q hw (by rw [show BinOp.neq = (if true then BinOp.neq else .eql) from rfl, quiet_seq ha hb]; simp [h]) (k1 h)
theorem WH.seq_ {a b : Opd} {s t : List UInt8} (hw : wanted dsts (kill l1 (only l3 σ)).env gd = some true) (ha : ev (kill l1 (only l3 σ)).env a = .a (.d (.s (.str s)))) (hb : ev (kill l1 (only l3 σ)).env b = .a (.d (.s (.str t))))
    (k1 : s = t → WH Γ dsts ops Q (set d (.a (.d (.s (.bool true)))) σ)) (k2 : s ≠ t → WH Γ dsts ops Q (set d (.a (.d (.s (.bool false)))) σ)) : WH Γ dsts (⟨d, .bin .eql a b, gd, l1, l2, l3, l4⟩ :: ops) Q σ := by
  by_cases h : s = t
  · exact WH.q hw (by rw [show veil _ σ = kill l1 (only l3 σ) from rfl, show BinOp.eql = (if false then BinOp.neq else .eql) from rfl, quiet_seq ha hb]; simp [h]) rfl (k1 h)
  · exact WH.q hw (by rw [show veil _ σ = kill l1 (only l3 σ) from rfl, show BinOp.eql = (if false then BinOp.neq else .eql) from rfl, quiet_seq ha hb]; simp [h]) rfl (k2 h)
theorem WH.snq {a b : Opd} {s t : List UInt8} (hw : wanted dsts (kill l1 (only l3 σ)).env gd = some true) (ha : ev (kill l1 (only l3 σ)).env a = .a (.d (.s (.str s)))) (hb : ev (kill l1 (only l3 σ)).env b = .a (.d (.s (.str t))))
    (k1 : s ≠ t → WH Γ dsts ops Q (set d (.a (.d (.s (.bool true)))) σ)) (k2 : s = t → WH Γ dsts ops Q (set d (.a (.d (.s (.bool false)))) σ)) : WH Γ dsts (⟨d, .bin .neq a b, gd, l1, l2, l3, l4⟩ :: ops) Q σ := by
  by_cases h : s = t
  · exact WH.q hw (by rw [show veil _ σ = kill l1 (only l3 σ) from rfl, show BinOp.neq = (if true then BinOp.neq else .eql) from rfl, quiet_seq ha hb]; simp [h]) rfl (k2 h)
  · exact WH.q hw (by rw [show veil _ σ = kill l1 (only l3 σ) from rfl, show BinOp.neq = (if true then BinOp.neq else .eql) from rfl, quiet_seq ha hb]; simp [h]) rfl (k1 h)
theorem bytesOf_encI : ∀ l : List Int, bytesOf (encI .u8 l) = some (l.map fun n => UInt8.ofNat n.toNat)
  | [] => rfl
  | n :: r => by simp only [encI, bytesOf, bytesOf_encI r, Option.map_some, List.map_cons]
theorem quiet_ob {a : Opd} {p : Nat} {b : Bool} {l : List Int} (ha : ev σ.env a = .a (.sl p 0 l.length 1)) (ho : σ.objs p = some (.flat b (encI .u8 l))) : quiet σ (.conv .ofBytes a) = some (.a (.d (.s (.str (l.map fun n => UInt8.ofNat n.toNat))))) := by
  have hl := encI_length .u8 l
  simp only [quiet, ha, elems, ho]
  rw [if_pos ⟨trivial, by omega⟩, Option.bind_some]
  simp only [List.drop_zero]
  rw [List.take_of_length_le (by omega), bytesOf_encI]; rfl
theorem WR.ob {a : Opd} {p : Nat} {b : Bool} {l : List Int} (hw : wanted dsts σ.env gd = some true) (ha : ev σ.env a = .a (.sl p 0 l.length 1)) (ho : σ.objs p = some (.flat b (encI .u8 l)))
    (K : WR Γ dsts ops Q (set d (.a (.d (.s (.str (l.map fun n => UInt8.ofNat n.toNat))))) σ)) : WR Γ dsts (⟨d, .conv .ofBytes a, gd, l1, l2, l3, l4⟩ :: ops) Q σ := WR.q hw (quiet_ob ha ho) K
theorem WH.ob {a : Opd} {p : Nat} {b : Bool} {l : List Int} (hw : wanted dsts (kill l1 (only l3 σ)).env gd = some true) (ha : ev (kill l1 (only l3 σ)).env a = .a (.sl p 0 l.length 1)) (ho : (kill l1 (only l3 σ)).objs p = some (.flat b (encI .u8 l)))
    (K : WH Γ dsts ops Q (set d (.a (.d (.s (.str (l.map fun n => UInt8.ofNat n.toNat))))) σ)) : WH Γ dsts (⟨d, .conv .ofBytes a, gd, l1, l2, l3, l4⟩ :: ops) Q σ := WH.q hw (quiet_ob ha ho) rfl K
theorem WR.bsI1 {e : Nat} {a0 : Opd} {ik : IntKind} {x0 : Int} (hw : wanted dsts σ.env gd = some true) (h0 : ev σ.env a0 = .a (.d (.s (.int ik x0)))) (hp : noPar σ [e] = true) (k : WR Γ dsts ops Q (set (some e) (.a (.sl e 0 [x0].length 1)) (put e (.flat false (encI ik [x0])) (kill [e] σ)))) : WR Γ dsts (⟨some e, .bsl 1 1 [.int ik 0] [(0, a0)], gd, l1, l2, l3, l4⟩ :: ops) Q σ :=
  WR.mk (d := e) (ob := .flat false (encI ik [x0])) hw rfl rfl (by simp [makes, all?, h0, cellsOf, fill, replicate, List.replicate, encI]) hp k
theorem WH.bsI1 {e : Nat} {a0 : Opd} {ik : IntKind} {x0 : Int} (hw : wanted dsts (kill l1 (only l3 σ)).env gd = some true) (h0 : ev (kill l1 (only l3 σ)).env a0 = .a (.d (.s (.int ik x0)))) (hp : noPar σ [e] = true) (hi : l2.contains e = true) (hv : killV l1 (.a (.sl e 0 [x0].length 1)) = .a (.sl e 0 [x0].length 1)) (k : WH Γ dsts ops Q (set (some e) (.a (.sl e 0 [x0].length 1)) (put e (.flat false (encI ik [x0])) (kill [e] σ)))) : WH Γ dsts (⟨some e, .bsl 1 1 [.int ik 0] [(0, a0)], gd, l1, l2, l3, l4⟩ :: ops) Q σ :=
  WH.mk (d := e) (ob := .flat false (encI ik [x0])) hw rfl rfl (by simp [makes, veil, all?, h0, cellsOf, fill, replicate, List.replicate, encI]) hp hi hv rfl k
end
theorem W.condV {Γ : Nat → Option Fn} {c : Opd} {a b : Code} {Q : Ex → St → Prop} {σ : St} {t : Bool} (h : ev σ.env c = .a (.d (.s (.bool t)))) (k1 : t = true → W Γ a Q σ) (k2 : t = false → W Γ b Q σ) : W Γ (.cond c a b) Q σ := by
  cases t with
  | true => exact W.condT h (k1 rfl)
  | false => exact W.condF h (k2 rfl)
def encS : List (List UInt8) → List S
  | [] => []
  | s :: r => .str s :: encS r
theorem encS_length : ∀ l, (encS l).length = l.length
  | [] => rfl
  | n :: r => by simp only [encS, List.length_cons, encS_length r]
theorem encS_append : ∀ a b, encS (a ++ b) = encS a ++ encS b
  | [], b => rfl
  | n :: r, b => by simp only [List.cons_append, encS, encS_append r b]
theorem encS_map : ∀ l, encS l = l.map .str
  | [] => rfl
  | n :: r => by simp only [encS, List.map_cons, encS_map r]
theorem strsOf_encS : ∀ l, strsOf (encS l) = some l
  | [] => rfl
  | n :: r => by simp only [encS, strsOf, strsOf_encS r, Option.map_some]
abbrev gS (l : List (List UInt8)) (k : Nat) : List UInt8 := l.getD k []
theorem gS_get {l : List (List UInt8)} {k : Nat} (h : k < l.length) : l[k]? = some (gS l k) := by
  simp [gS, List.getD_eq_getElem?_getD, h]
theorem gS_mem {l : List (List UInt8)} {k : Nat} (h : k < l.length) : gS l k ∈ l := List.mem_of_getElem? (gS_get h)
theorem ldS {l : List (List UInt8)} {k : Nat} (h : k < l.length) : loadC 1 false (encS l) (0 + k * 1) = some (.a (.d (.s (.str (gS l k))))) :=
  loadC_one (by rw [Nat.zero_add, Nat.mul_one, encS_map, List.getElem?_map, gS_get h]; rfl)
theorem apS_dl {σ : St} {d : Option Nat} {p : Nat} {a b : Opd} {l : List (List UInt8)} {x : List UInt8} (ha : ev σ.env a = .a (.sl p 0 l.length 1)) (ho : σ.objs p = some (.flat false (encS l))) (hb : elems σ.objs 1 (ev σ.env b) = some (1, [.str x])) (h2 : l.length ≤ 100000000) {Γ : Nat → Option Fn} {call : Calls} :
    delta Γ call d σ (.app 1 a b) = some ⟨.a (.sl p 0 (l ++ [x]).length 1), [p], [(p, .flat false (encS (l ++ [x])))]⟩ := by
  have hl := encS_length l
  simp only [delta, append, ha, hb, ho]
  rw [if_pos ⟨trivial, by omega, by simp only [big]; omega⟩, encS_append, List.length_append, List.drop_zero, List.take_of_length_le (by omega)]
  rfl
section
variable {dsts : Nat → Option Nat} {ops : List Oper} {Q : St → Prop} {σ : St} {d : Option Nat} {g : Option (Nat × Bool)} {l1 l2 l3 l4 : List Nat} {Γ : Nat → Option Fn}
theorem WR.apS {p : Nat} {a b : Opd} {l : List (List UInt8)} {x : List UInt8} (hw : wanted dsts σ.env g = some true) (ha : ev σ.env a = .a (.sl p 0 l.length 1)) (ho : σ.objs p = some (.flat false (encS l))) (hb : elems σ.objs 1 (ev σ.env b) = some (1, [.str x])) (h2 : l.length ≤ 100000000)
    (k : WR Γ dsts ops Q (set d (.a (.sl p 0 (l ++ [x]).length 1)) (put p (.flat false (encS (l ++ [x]))) (kill [p] σ)))) : WR Γ dsts (⟨d, .app 1 a b, g, l1, l2, l3, l4⟩ :: ops) Q σ :=
  WR.cons ⟨0, step_dl hw (apS_dl ha ho hb h2) (by rw [noPar_one]; intro cs e; rw [ho] at e; cases e)⟩ k
theorem WR.bsS0 {e : Nat} (hw : wanted dsts σ.env g = some true) (hp : noPar σ [e] = true) (k : WR Γ dsts ops Q (set (some e) (.a (.sl e 0 0 1)) (put e (.flat false (encS [])) (kill [e] σ)))) : WR Γ dsts (⟨some e, .bsl 1 0 [.str []] [], g, l1, l2, l3, l4⟩ :: ops) Q σ :=
  WR.mk (d := e) (ob := .flat false (encS [])) hw rfl rfl (by simp [makes, all?, cellsOf, fill, replicate, List.replicate, encS]) hp k
theorem WR.bsS1 {e : Nat} {a0 : Opd} {x0 : List UInt8} (hw : wanted dsts σ.env g = some true) (h0 : ev σ.env a0 = .a (.d (.s (.str x0)))) (hp : noPar σ [e] = true) (k : WR Γ dsts ops Q (set (some e) (.a (.sl e 0 1 1)) (put e (.flat false (encS [x0])) (kill [e] σ)))) : WR Γ dsts (⟨some e, .bsl 1 1 [.str []] [(0, a0)], g, l1, l2, l3, l4⟩ :: ops) Q σ :=
  WR.mk (d := e) (ob := .flat false (encS [x0])) hw rfl rfl (by simp [makes, all?, h0, cellsOf, fill, replicate, List.replicate, encS]) hp k
theorem WH.apS {p : Nat} {a b : Opd} {l : List (List UInt8)} {x : List UInt8} (hw : wanted dsts (kill l1 (only l3 σ)).env g = some true) (ha : ev (kill l1 (only l3 σ)).env a = .a (.sl p 0 l.length 1)) (ho : (kill l1 (only l3 σ)).objs p = some (.flat false (encS l))) (hb : elems (kill l1 (only l3 σ)).objs 1 (ev (kill l1 (only l3 σ)).env b) = some (1, [.str x])) (h2 : l.length ≤ 100000000)
    (hi : l2.contains p = true) (hp : noPar σ [p] = true) (hh : l1.contains p = false)
    (k : WH Γ dsts ops Q (set d (.a (.sl p 0 (l ++ [x]).length 1)) (put p (.flat false (encS (l ++ [x]))) (kill [p] σ)))) : WH Γ dsts (⟨d, .app 1 a b, g, l1, l2, l3, l4⟩ :: ops) Q σ := by
  refine WH.cons ⟨0, stepH_dl hw (apS_dl ha ho hb h2) (by simp only [within, List.all_cons, List.all_nil, hi]; rfl) hp⟩ ?_
  simp only [applyD, hideD, insertAll, List.map_cons, List.map_nil, killO, killV, deadA, hh]
  exact k
theorem WH.bsS1 {e : Nat} {a0 : Opd} {x0 : List UInt8} (hw : wanted dsts (kill l1 (only l3 σ)).env g = some true) (h0 : ev (kill l1 (only l3 σ)).env a0 = .a (.d (.s (.str x0)))) (hp : noPar σ [e] = true) (hi : l2.contains e = true) (hv : killV l1 (.a (.sl e 0 1 1)) = .a (.sl e 0 1 1)) (k : WH Γ dsts ops Q (set (some e) (.a (.sl e 0 1 1)) (put e (.flat false (encS [x0])) (kill [e] σ)))) : WH Γ dsts (⟨some e, .bsl 1 1 [.str []] [(0, a0)], g, l1, l2, l3, l4⟩ :: ops) Q σ :=
  WH.mk (d := e) (ob := .flat false (encS [x0])) hw rfl rfl (by simp [makes, veil, all?, h0, cellsOf, fill, replicate, List.replicate, encS]) hp hi hv rfl k
end
end Go.DM
