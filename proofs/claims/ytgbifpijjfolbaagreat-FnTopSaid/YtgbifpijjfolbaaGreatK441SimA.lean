/- When an operation of the small machine stands for one of the program: a check by computation. -/
import Derived.Test.YtgbifpijjfolbaaGreatK441Rel
import Derived.Laws.Rows
import Derived.Laws.Strings
import Derived.Laws.Concat
import Derived.Laws.StructEq
import Derived.ChangeKeysEq
set_option linter.all false
namespace Go.DM
variable [Tok]
def eqC : Value → S → Bool
  | .bool a, .bool b => a == b
  | .int k n, .int k' m => decide (k = k') && decide (n = m)
  | .string s, .str l => s.data.toList == l
  | .slice none 0 0, .nils => true
  | .pointer none, .nilp => true
  | .map none, .nilm => true
  | .nilFunc, .nilf => true
  | .nilIface, .nilI => true
  | _, _ => false
theorem eqC_eq {v : Value} {x : S} (h : eqC v x = true) : v = enc x := by
  unfold eqC at h
  split at h <;> simp_all [enc]
  rename_i s l
  rw [← h]
def eqCs : List Value → List S → Bool
  | [], [] => true
  | v :: vs, x :: xs => eqC v x && eqCs vs xs
  | _, _ => false
theorem eqCs_eq : ∀ {vs : List Value} {xs : List S}, eqCs vs xs = true → vs = encs xs
  | [], [], _ => rfl
  | v :: vs, x :: xs, h => by
    simp only [eqCs, Bool.and_eq_true] at h
    simp [encs, eqC_eq h.1, eqCs_eq h.2]
  | [], _ :: _, h => by simp [eqCs] at h
  | _ :: _, [], h => by simp [eqCs] at h
def sizeIs (P : Program) (t : TypeId) (n : Nat) : Bool := match P.info? t with | some i => decide (i.size = n) | none => false
def bytesOk (P : Program) (t : TypeId) (es : Nat) : Bool := match P.info? t with | some i => decide (i.bytes ≤ 16 * (es + 1)) | none => false
def rowIs (P : Program) (t : TypeId) (agg : Bool) : Bool := match P.underlying t with | some d => d.isRow == agg | none => false
def zeroIs (P : Program) (t : TypeId) (zs : List S) : Bool :=
  match P.info? t with
  | some i => decide (i.size = zs.length) && (match i.zero with | some v => eqCs v.cells.toList zs | none => false)
  | none => false
def sliceOf (P : Program) (t : TypeId) : Option TypeId := match P.underlying t with | some (.slice e) => some e | _ => none
def arrayOf (P : Program) (t : TypeId) : Option (Nat × TypeId) := match P.underlying t with | some (.array n e) => some (n, e) | _ => none
def isStr (P : Program) (t : TypeId) : Bool := match P.underlying t with | some .string => true | _ => false
def intOf? (P : Program) (t : TypeId) : Option IntKind := match P.underlying t with | some (.int k) => some k | _ => none
def fieldOf (P : Program) (t : TypeId) (f : Nat) : Option Field := match P.underlying t with | some (.struct fs) => fs[f]? | _ => none
def sz (P : Program) (t : TypeId) : Option Nat := (P.info? t).map (·.size)
def kindsF (g : TypeId → Option (List SK)) : List Field → List SK → Option (List SK)
  | [], acc => some acc
  | f :: fs, acc => if f.name = "_" ∨ f.offset ≠ acc.length then none else (g f.type).bind fun ks => kindsF g fs (acc ++ ks)
def kindsOf (P : Program) : Nat → TypeId → Option (List SK)
  | 0, _ => none
  | d + 1, t => match P.underlying t with
    | some .bool => if sizeIs P t 1 then some [.bool] else none
    | some (.int k) => if sizeIs P t 1 then some [.int k] else none
    | some .string => if sizeIs P t 1 then some [.str] else none
    | some (.struct fs) =>
      if P.stoodInHeld t then none else (kindsF (kindsOf P d) fs.toList []).bind fun ks => if sizeIs P t ks.length then some ks else none
    | _ => none
def kindsE (P : Program) : Nat → TypeId → Option (List SK)
  | 0, _ => none
  | d + 1, t => match P.underlying t with
    | some (.array n e) => (kindsE P d e).bind fun ks => if P.cellsOf e = ks.length ∧ sizeIs P t (n * ks.length) = true then some (List.replicate n ks).flatten else none
    | _ => kindsOf P (d + 1) t
def eqKs : Option (List SK) → List SK → Bool
  | some [], [] => true
  | some (x :: xs), y :: ys => (match x, y with | .bool, .bool | .str, .str => true | .int k, .int k' => decide (k = k') | _, _ => false) && eqKs (some xs) ys
  | _, _ => false
theorem eqKs_eq : ∀ {xs : List SK} {ys : List SK}, eqKs (some xs) ys = true → xs = ys
  | [], [], _ => rfl
  | x :: xs, y :: ys, h => by
    simp only [eqKs, Bool.and_eq_true] at h
    have := eqKs_eq h.2
    subst this
    have h1 := h.1
    split at h1 <;> simp_all
  | [], _ :: _, h => by simp [eqKs] at h
  | _ :: _, [], h => by simp [eqKs] at h
def okX (ρ : Nat → Nat) : Operand → Opd → Bool
  | .tmp t, .t n => t == n
  | .const v, .c x => eqC v x
  | .func f, .f k => f == ρ k
  | _, _ => false
def okXs (ρ : Nat → Nat) : List Operand → List Opd → Bool
  | [], [] => true
  | x :: xs, a :: as => okX ρ x a && okXs ρ xs as
  | _, _ => false
def okXo (ρ : Nat → Nat) : Option Operand → Option Opd → Bool
  | none, none => true
  | some x, some a => okX ρ x a
  | _, _ => false
def okParts (ρ : Nat → Nat) (place : Nat → Option (Nat × Nat)) : List (Nat × Operand) → List (Nat × Nat × Opd) → Bool
  | [], [] => true
  | (i, x) :: xs, (off, n, a) :: as => okX ρ x a && place i == some (off, n) && okParts ρ place xs as
  | _, _ => false
def okElems (ρ : Nat → Nat) : List (Nat × Operand) → List (Nat × Opd) → Bool
  | [], [] => true
  | (i, x) :: xs, (j, a) :: as => okX ρ x a && i == j && okElems ρ xs as
  | _, _ => false
def structPlace (P : Program) (fs : Array Field) (i : Nat) : Option (Nat × Nat) := (fs[i]?).bind fun f => (sz P f.type).map fun n => (f.offset, n)
def sized (P : Program) (fs : Array Field) : Bool := fs.toList.all fun f => (P.info? f.type).isSome
def mapTys (P : Program) (t : TypeId) : Option (TypeId × TypeId) := match P.underlying t with | some (.map k e) => some (k, e) | _ => none
def zeroEq (P : Program) (t : TypeId) (zs : List S) : Bool := match P.info? t with
  | some i => (match i.zero with
    | some (.agg c) => zs.length != 1 && eqCs c.toList zs
    | some v => (match zs with | [x] => eqC v x | _ => false)
    | none => false)
  | none => false
def okMap (P : Program) (t : TypeId) (ks : List SK) (vn : Nat) : Bool := match mapTys P t with
  | some (k, e) => eqKs (kindsOf P 20 k) ks && (match P.underlying k with | some (.struct _) => true | _ => false) && ks.length != 1 && rowIs P e (vn != 1)
  | none => false
def okO (P : Program) (ρ : Nat → Nat) : Go.Op → Op → Bool
  | .move x, .mv a | .assign x, .mv a | .assign x, .ren a => okX ρ x a
  | .pick c x y, .pick c' a b => okX ρ c c' && okX ρ x a && okX ρ y b
  | .alloc T, .alloc zs => zeroIs P T zs && !zs.isEmpty
  | .box _ x, .box _ a => okX ρ x a
  | .build T ps, .build zs qs => zeroIs P T zs && (match P.underlying T with
    | some (.struct fs) => sized P fs && okParts ρ (structPlace P fs) ps.toList qs
    | some (.array _ e) => (match sz P e with | some n => okParts ρ (fun i => some (i * n, n)) ps.toList qs | none => false)
    | _ => false)
  | .buildSlice T len ps, .bsl es len' zs qs => (match sliceOf P T with | some e => zeroIs P e zs && zs.length == es && len == len' && okElems ρ ps.toList qs && es != 0 | none => false)
  | .buildSlice T len ps, .bslr len' qs => (match sliceOf P T with | some e => zeroIs P e [.nils] && len == len' && okElems ρ ps.toList qs | none => false)
  | .load T x, .load n agg a => okX ρ x a && sizeIs P T n && rowIs P T agg && (agg || n == 1)
  | .store T x y, .store n a v => okX ρ x a && okX ρ y v && sizeIs P T n
  | .nilCheck x, .nilc a => okX ρ x a
  | .binOp op _ x y _, .bin op' a b => op == op' && okX ρ x a && okX ρ y b
  | .binOp .eql T x y _, .eqa false agg ks a b => okX ρ x a && okX ρ y b && rowIs P T agg && eqKs (kindsE P 20 T) ks && !P.eqGuardType P.depth T
  | .binOp .neq T x y _, .eqa true agg ks a b => okX ρ x a && okX ρ y b && rowIs P T agg && eqKs (kindsE P 20 T) ks && !P.eqGuardType P.depth T
  | .unOp op _ x, .un op' a => op == op' && okX ρ x a
  | .convert s d x, .conv (.int k) a => okX ρ x a && intOf? P d == some k && (P.underlying s).isSome
  | .convert s d x, .conv .ofBytes a => okX ρ x a && isStr P d && (match sliceOf P s with | some e => intOf? P e == some .u8 && sizeIs P e 1 | none => false)
  | .convert s d x, .conv .same a => okX ρ x a && isStr P d && isStr P s
  | .makeFunc (.func f) pre post, .mkf f' p q => f == ρ f' && okXs ρ pre.toList p && okXs ρ post.toList q
  | .slice T x lo hi none, .slc .str a l h => okX ρ x a && okXo ρ lo l && okXo ρ hi h && isStr P T
  | .slice T x lo hi none, .slc (.sl es) a l h => okX ρ x a && okXo ρ lo l && okXo ρ hi h && (match sliceOf P T with | some e => sizeIs P e es | none => false)
  | .field T x f, .fld off n agg a => okX ρ x a && (match fieldOf P T f with | some fd => fd.offset == off && sizeIs P fd.type n && rowIs P fd.type agg && (agg || n == 1) | none => false)
  | .fieldAddr T x f, .fadr off a => okX ρ x a && (match fieldOf P T f with | some fd => fd.offset == off && (match sz P fd.type with | some n => n != 0 | none => false) | none => false)
  | .indexAddr T x i, .idxs es a j => okX ρ x a && okX ρ i j && (match sliceOf P T with | some e => sizeIs P e es | none => false)
  | .indexAddr T x i, .idxa len es a j => okX ρ x a && okX ρ i j && (match arrayOf P T with | some (n, e) => n == len && sizeIs P e es | none => false)
  | .index T x i, .idxstr a j => okX ρ x a && okX ρ i j && isStr P T
  | .index T x i, .idxagg len es agg a j => okX ρ x a && okX ρ i j && (match arrayOf P T with | some (n, e) => n == len && sizeIs P e es && rowIs P e agg && (agg || es == 1) | none => false)
  | .extract x i, .ext a j => okX ρ x a && i == j
  | .call { callee := .value (.func f), args, .. }, .call f' as => f == ρ f' && okXs ρ args.toList as
  | .call { callee := .value (.tmp t), args, .. }, .callv a as => okX ρ (.tmp t) a && okXs ρ args.toList as
  | .call { callee := .builtin .append, args, argTypes }, .app es a b => okXs ρ args.toList [a, b] && (match argTypes.toList with
    | [T, T'] => (match sliceOf P T with | some e => sizeIs P e es && es != 0 && bytesOk P e es && (match P.info? e with | some i => (match i.zero with | some z => z.cells.size == es | none => false) | none => false) | none => false) && ((sliceOf P T').isSome || isStr P T')
    | _ => false)
  | .call { callee := .builtin .len, args, argTypes }, .len k a => okXs ρ args.toList [a] && (match argTypes.toList, k with
    | [T], .str => isStr P T
    | [T], .sl _ => (sliceOf P T).isSome
    | [T], .arr n _ => (match arrayOf P T with | some (n', _) => n == n' | none => false)
    | [T], .mp _ => (mapTys P T).isSome
    | _, _ => false)
  | .call { callee := .builtin .max, args, .. }, .mm true a b => okXs ρ args.toList [a, b]
  | .call { callee := .builtin .min, args, .. }, .mm false a b => okXs ρ args.toList [a, b]
  | .call { callee := .builtin .clear, args, argTypes }, .clr es zs a => okXs ρ args.toList [a] && (match argTypes.toList with
    | [T] => (match sliceOf P T with | some e => zeroIs P e zs && zs.length == es | none => false)
    | _ => false)
  | .call { callee := .builtin .copy, args, argTypes }, .cpy es a b => okXs ρ args.toList [a, b] && (match argTypes.toList with
    | [T, T'] => (match sliceOf P T with | some e => sizeIs P e es && es != 0 | none => false) && (sliceOf P T').isSome
    | _ => false)
  | .makeSlice T l c, .mks es zs l' c' => okX ρ l l' && okX ρ c c' && (match sliceOf P T with | some e => zeroIs P e zs && zs.length == es && es != 0 && bytesOk P e es | none => false)
  | .makeMap _ none, .mkm _ => true
  | .makeMap T (some x), .mkm _ => (match x with | .const (.int _ _) => true | _ => false) && (mapTys P T).isSome
  | .lookup T x k ok, .mget vn zv ks ok' m k' => okX ρ x m && okX ρ k k' && ok == ok' && okMap P T ks vn && (match mapTys P T with | some (_, e) => zeroEq P e zv | none => false)
  | .mapEntry T x k, .ment vn zv ks m k' => okX ρ x m && okX ρ k k' && okMap P T ks vn && (match mapTys P T with | some (_, e) => zeroEq P e zv | none => false)
  | .entryStore _ x s v, .mest _ m s' v' => okX ρ x m && okX ρ s s' && okX ρ v v'
  | .mapUpdate T x k v, .mput vn ks m k' v' | .insert T x k v, .mput vn ks m k' v' => okX ρ x m && okX ρ k k' && okX ρ v v' && okMap P T ks vn
  | _, _ => false
end Go.DM

/- Each operation of the small machine that only computes or reads does what the program's own operation does. -/
namespace Go.DM
variable [Tok]
structure Base (X : Cx) (φ : Nat → Option Loc) (σ : St) (a : Act) (w : World) : Prop where
  env : ∀ t, VRel X φ w (σ.env t) (a.tmps.getD t Go.undef)
  objs : ∀ o ob, σ.objs o = some ob → ∃ l, φ o = some l ∧ ObRel X φ w ob l
  toks : TokAt X.κ.n0 w ∧ ∀ b, b < X.κ.n0 → X.I b
theorem Rel.base {X : Cx} {B : Nat} {M : List Reg} {φ : Nat → Option Loc} {σ : St} {a : Act} {w : World} (h : Rel X B M φ σ a w) : Base X φ σ a w := ⟨h.env, h.objs, h.know.1.2, h.know.2.2.2⟩
section
variable {P : Program} {X : Cx} {φ : Nat → Option Loc} {w : World} {σ : St} {a : Act}
theorem sv_rel {x : S} {v : Value} (h : VRel X φ w (sv x) v) : v = enc x := by
  have h : DRel X.ρ X.I w (.s x) v := h
  cases h; rfl
theorem sv_mk (x : S) : VRel X φ w (sv x) (enc x) := DRel.s x
theorem av_rel {cs : List S} {v : Value} (h : VRel X φ w (av cs) v) : v = .agg (encs cs).toArray := by
  have h : DRel X.ρ X.I w (.agg cs) v := h
  cases h; rfl
theorem av_mk (cs : List S) : VRel X φ w (av cs) (.agg (encs cs).toArray) := DRel.agg cs
theorem encs_length (cs : List S) : (encs cs).length = cs.length := by simp [encs]
theorem encs_append (a b : List S) : encs (a ++ b) = encs a ++ encs b := by simp [encs]
theorem cellsOf_rel {x : V} {cs : List S} {v : Value} (h : VRel X φ w x v) (hc : cellsOf x = some cs) : v.cells = (encs cs).toArray := by
  unfold cellsOf at hc
  split at hc
  · cases hc
    rw [sv_rel h]
    rename_i x
    cases x <;> simp [enc, Value.cells, encs]
  · cases hc
    rw [av_rel h]
    rfl
  · cases hc
theorem asI_rel {x : V} {n : Int} {v : Value} (h : VRel X φ w x v) (hc : asI x = some n) : ∃ k, v = .int k n := by
  unfold asI at hc
  split at hc
  · cases hc; exact ⟨_, sv_rel h⟩
  · cases hc
theorem okX_sim (b : Base X φ σ a w) {x : Operand} {y : Opd} (h : okX X.ρ x y = true) : VRel X φ w (ev σ.env y) (a.eval x) := by
  unfold okX at h
  split at h
  · rename_i t n
    have e : t = n := eq_of_beq h
    subst e
    exact b.env _
  · rw [show a.eval (.const _) = _ from rfl, eqC_eq h]
    exact sv_mk _
  · rename_i f k
    have e : f = X.ρ k := eq_of_beq h
    subst e
    exact ⟨[], [], rfl, .nil, .nil⟩
  · cases h
theorem okXs_sim (b : Base X φ σ a w) : ∀ {xs : List Operand} {ys : List Opd}, okXs X.ρ xs ys = true → All2 (VRel X φ w) (ys.map (ev σ.env)) (xs.map a.eval)
  | [], [], _ => .nil
  | x :: xs, y :: ys, h => by
    simp only [okXs, Bool.and_eq_true] at h
    exact .cons (okX_sim b h.1) (okXs_sim b h.2)
  | [], _ :: _, h => by simp [okXs] at h
  | _ :: _, [], h => by simp [okXs] at h
theorem rangeAt_sub {b o : Nat} {cs : List S} (h : w.rangeAt b o (encs cs)) (off n : Nat) : w.rangeAt b (o + off) (encs ((cs.drop off).take n)) := fun j v hv => by
  have : (encs cs)[off + j]? = some v := by
    simp only [encs, List.getElem?_map, Option.map_eq_some_iff] at hv ⊢
    obtain ⟨x, h1, h2⟩ := hv
    refine ⟨x, ?_, h2⟩
    rw [List.getElem?_take] at h1
    split at h1
    · rwa [List.getElem?_drop] at h1
    · cases h1
  have := h _ v this
  rwa [show o + (off + j) = o + off + j by omega] at this
theorem sizeIs_eq {t : TypeId} {n : Nat} (h : sizeIs P t n = true) : (P.info? t).map (·.size) = some n := by
  unfold sizeIs at h
  split at h
  · rename_i i hi; simp at h; simp [hi, h]
  · cases h
theorem run_sizeOf' {t : TypeId} {n : Nat} (h : sizeIs P t n = true) (w : World) : (sizeOf t).run P w = .ok n w := by
  have := sizeIs_eq h
  rw [Option.map_eq_some_iff] at this
  obtain ⟨i, hi, hn⟩ := this
  simp [sizeOf, typeInfo, hi, hn]
theorem rowIs_run {t : TypeId} {agg : Bool} (h : rowIs P t agg = true) (w : World) : (isAgg t).run P w = .ok agg w := by
  unfold rowIs at h
  split at h
  · rename_i d hd
    have : d.isRow = agg := by simpa using h
    subst this
    unfold isAgg
    rw [Sem.run_bind, run_underlying hd w]
    cases d <;> rfl
  · cases h
theorem run_loadVar_one {t : TypeId} {p : Addr} {v : Value} (h : rowIs P t false = true) (hc : w.cell? p = some v) : (loadVar t p).run P w = .ok v w := by
  unfold loadVar
  rw [Sem.run_bind, rowIs_run h w]
  simp [hc]
theorem run_loadVar_cells {t : TypeId} {b o : Nat} {cs : List Value} (h : rowIs P t true = true) (hs : sizeIs P t cs.length = true) (hc : w.rangeAt b o cs) : (loadVar t ⟨b, o, none⟩).run P w = .ok (.agg cs.toArray) w := by
  have h' := h
  unfold rowIs at h
  split at h
  · rename_i d hd
    exact run_loadVar_mid w b o t cs d hc hd (by simpa using h) (sizeIs_eq hs)
  · cases h
theorem ofCells_sim {t : TypeId} {agg : Bool} {b o : Nat} {cs : List S} {r : V} (hr : rowIs P t agg = true) (hs : sizeIs P t cs.length = true) (hc : w.rangeAt b o (encs cs)) (h : ofCells agg cs = some r) :
    ∃ u, (loadVar t ⟨b, o, none⟩).run P w = .ok u w ∧ VRel X φ w r u := by
  unfold ofCells at h
  cases agg with
  | true =>
    simp at h; subst h
    exact ⟨_, run_loadVar_cells hr (by rw [encs_length]; exact hs) hc, av_mk _⟩
  | false =>
    simp at h
    split at h
    · cases h
      rename_i x
      exact ⟨_, run_loadVar_one hr (by simpa using hc 0 (enc x) rfl), sv_mk x⟩
    · cases h
theorem loadC_sim {t : TypeId} {n : Nat} {agg : Bool} {b o off : Nat} {cs : List S} {r : V} (hr : rowIs P t agg = true) (hs : sizeIs P t n = true) (hc : w.rangeAt b o (encs cs)) (h : loadC n agg cs off = some r) :
    ∃ u, (loadVar t ⟨b, o + off, none⟩).run P w = .ok u w ∧ VRel X φ w r u := by
  unfold loadC at h
  split at h
  · rename_i hle
    exact ofCells_sim hr (by rw [List.length_take, List.length_drop, Nat.min_eq_left (by omega)]; exact hs) (rangeAt_sub hc off n) h
  · cases h
theorem flat_range {p : Bool} {cs : List S} {l : Loc} (h : ObRel X φ w (.flat p cs) l) : w.rangeAt l.1 l.2 (encs cs) := by
  obtain ⟨_, _, _, _, _, h⟩ := h; exact h
theorem load_sim (b : Base X φ σ a w) {t : TypeId} {n : Nat} {agg : Bool} {x r : V} {u : Value} (hr : rowIs P t agg = true) (hs : sizeIs P t n = true) (hx : VRel X φ w x u) (h : load σ.objs n agg x = some r) :
    ∃ v, (Instr.loadAt t u).run P w = .ok v w ∧ VRel X φ w r v := by
  unfold load at h
  split at h
  · obtain ⟨l, h1, rfl⟩ := hx
    split at h
    · rename_i hob
      obtain ⟨l', h1', h2⟩ := b.objs _ _ hob
      rw [h1] at h1'; cases h1'
      obtain ⟨v, g1, g2⟩ := loadC_sim (X := X) (φ := φ) hr hs (flat_range h2) h
      exact ⟨v, by simp [Instr.loadAt, Instr.sureAddr, g1], g2⟩
    · rename_i hob
      obtain ⟨l', h1', h2⟩ := b.objs _ _ hob
      rw [h1] at h1'; cases h1'
      split at h
      · rename_i hc
        obtain ⟨rfl, rfl, rfl⟩ := hc
        cases h
        obtain ⟨c, T, fz, v, k1, k2, _, k4⟩ := h2
        refine ⟨v, ?_, k4⟩
        simp only [Instr.loadAt, Instr.sureAddr, Sem.run_bind, Sem.run_pure, Result.andThen_ok, Nat.add_zero]
        exact run_loadVar_one hr (by simp [World.cell?, k1.1, k2])
      · cases h
    · cases h
  · obtain ⟨b', o, _, rfl, h3⟩ := hx
    obtain ⟨v, g1, g2⟩ := loadC_sim (X := X) (φ := φ) hr hs h3 h
    exact ⟨v, by simp [Instr.loadAt, Instr.sureAddr, g1], g2⟩
  · have hx : DRel _ _ _ _ _ := hx
    cases hx with
    | ref cs b' off _ h3 =>
      obtain ⟨v, g1, g2⟩ := loadC_sim (X := X) (φ := φ) hr hs h3 h
      exact ⟨v, by simpa [Instr.loadAt, Instr.sureAddr] using g1, g2⟩
  · have hx : DRel _ _ _ _ _ := hx
    cases hx with
    | refd x b' off v _ h2 h3 =>
      split at h
      · rename_i hc
        obtain ⟨rfl, rfl⟩ := hc
        cases h
        exact ⟨v, by simpa [Instr.loadAt, Instr.sureAddr] using run_loadVar_one hr h2, h3⟩
      · cases h
  · obtain ⟨b', o, vs, _, rfl, h2, h3⟩ := hx
    split at h
    · rename_i hc
      obtain ⟨rfl, rfl⟩ := hc
      rw [Option.map_eq_some_iff] at h
      obtain ⟨d, h4, rfl⟩ := h
      obtain ⟨v, h5, h6⟩ := h3.get h4
      exact ⟨v, by simpa [Instr.loadAt, Instr.sureAddr] using run_loadVar_one hr (h2 _ v h5), h6⟩
    · cases h
  · cases h
theorem nilc_sim {x r : V} {u : Value} (hx : VRel X φ w x u) (h : nilc x = some r) : r = x ∧ ((∃ p, u = .pointer (some p)) ∨ (∃ f ps qs, u = .func (.func f) ps qs)) := by
  unfold nilc at h
  split at h <;> first | (cases h; done) | (injection h with h; subst h; refine ⟨rfl, ?_⟩)
  · obtain ⟨l, _, rfl⟩ := hx; exact .inl ⟨_, rfl⟩
  · obtain ⟨b, o, _, rfl, _⟩ := hx; exact .inl ⟨_, rfl⟩
  · have hx : DRel _ _ _ _ _ := hx; cases hx; exact .inl ⟨_, rfl⟩
  · have hx : DRel _ _ _ _ _ := hx; cases hx; exact .inl ⟨_, rfl⟩
  · obtain ⟨b, o, vs, _, rfl, _⟩ := hx; exact .inl ⟨_, rfl⟩
  · obtain ⟨ps, qs, rfl, _⟩ := hx; exact .inr ⟨_, _, _, rfl⟩
  · have hx : DRel _ _ _ _ _ := hx; cases hx; exact .inr ⟨_, _, _, rfl⟩
theorem intBin_sim {op : BinOp} {k : IntKind} {x y : Int} {r : S} (h : intBin op k x y = some r) :
    (match op with
    | .add | .sub | .mul => Op.intArith op k x y
    | .quo | .rem => Op.intDiv op k x y
    | .and | .or | .xor | .andNot => Op.intBits op k x y
    | _ => Op.intCmp op x y : Sem Value).run P w = .ok (enc r) w := by
  cases op <;> simp only [intBin] at h <;> first
    | (cases h; done)
    | (cases h; rfl)
    | (split at h
       · exact absurd h (by simp)
       · rename_i hy
         injection h with h
         subst h
         simp [Op.intDiv, hy, enc_int])
    | (cases h; simp [Op.intBits, enc_int])
theorem strBin_sim {op : BinOp} {x y : List UInt8} {r : S} (h : strBin op x y = some r) : (Op.stringOp op ⟨x.toArray⟩ ⟨y.toArray⟩).run P w = .ok (enc r) w := by
  cases op <;> simp only [strBin] at h <;> first
    | (cases h; done)
    | (cases h; simp [Op.stringOp, enc_bool]; done)
    | (cases h; simp [Op.stringOp, enc_bool, bne]; done)
    | (split at h
       · rename_i hb
         cases h
         refine (run_string_add_sum (P := P) (w := w) ⟨x.toArray⟩ ⟨y.toArray⟩ (by simp only [ByteArray.size, List.size_toArray, big] at *; omega)).trans ?_
         rw [enc_str]
         congr 2
       · exact absurd h (by simp))
theorem bin_sim {op : BinOp} {t : TypeId} {ox oy : Operand} {x y r : V} {u v : Value} (hx : VRel X φ w x u) (hy : VRel X φ w y v) (h : bin op x y = some r) :
    ∃ z, (do eqGuard op t ox oy u v; binOp op t u v : Sem Value).run P w = .ok z w ∧ VRel X φ w r z := by
  unfold bin at h
  split at h
  · rename_i k x k' y
    rw [sv_rel hx, sv_rel hy, enc_int, enc_int]
    have hg : (eqGuard op t ox oy (.int k x) (.int k' y)).run P w = .ok () w := by cases op <;> simp [eqGuard]
    split at h
    · rename_i hs
      rw [Option.map_eq_some_iff] at h
      obtain ⟨s, h1, rfl⟩ := h
      refine ⟨enc s, ?_, sv_mk s⟩
      simp only [enc_int, enc_str, Sem.run_bind, hg, Result.andThen_ok]
      unfold shiftBin at h1
      split at h1
      · cases h1
      · rename_i hy'
        cases op <;> simp [isShift] at hs <;> simp at h1 <;> subst h1 <;> simp [binOp, Op.shift, hy', enc_int]
    · rename_i hs
      split at h
      · rename_i hk
        subst hk
        rw [Option.map_eq_some_iff] at h
        obtain ⟨s, h1, rfl⟩ := h
        refine ⟨enc s, ?_, sv_mk s⟩
        simp only [enc_int, enc_str, Sem.run_bind, hg, Result.andThen_ok]
        have := intBin_sim (P := P) (w := w) h1
        cases op <;> simp [isShift] at hs <;> simpa [binOp] using this
      · cases h
  · rename_i x y
    rw [sv_rel hx, sv_rel hy]
    rw [Option.map_eq_some_iff] at h
    obtain ⟨s, h1, rfl⟩ := h
    refine ⟨enc s, ?_, sv_mk s⟩
    have hg : (eqGuard op t ox oy (.string ⟨x.toArray⟩) (.string ⟨y.toArray⟩)).run P w = .ok () w := by cases op <;> simp [eqGuard]
    simp only [enc_int, enc_str, Sem.run_bind, hg, Result.andThen_ok]
    have := strBin_sim (P := P) (w := w) h1
    cases op <;> first | (simp [strBin] at h1; done) | (simpa [binOp] using this)
  · cases h
def rep (agg : Bool) (cs : List S) : Value := if agg then .agg (encs cs).toArray else match cs with | x :: _ => enc x | [] => Go.undef
theorem run_part {t : TypeId} {agg : Bool} {n off : Nat} {cs : List S} (hr : rowIs P t agg = true) (hs : sizeIs P t n = true) (h1 : agg = true ∨ n = 1) (hl : off + n ≤ cs.length) (w : World) :
    (part t (encs cs).toArray off).run P w = .ok (rep agg ((cs.drop off).take n)) w := by
  unfold part
  rw [Sem.run_bind, rowIs_run hr w]
  simp only [Result.andThen_ok]
  cases agg with
  | true =>
    simp only [if_true, Sem.run_bind, run_sizeOf' hs w, Result.andThen_ok, Sem.run_pure, rep]
    congr 2
    apply Array.ext'
    simp [encs, List.map_drop, List.map_take, List.extract_eq_take_drop]
  | false =>
    obtain rfl : n = 1 := by simpa using h1
    have hlt : off < cs.length := by omega
    have hx : (encs cs).toArray[off]? = some (enc cs[off]) := by simp [encs, List.getElem?_eq_getElem hlt]
    simp only [Bool.false_eq_true, if_false, hx, Sem.run_pure, rep]
    rw [List.drop_eq_getElem_cons hlt]
    rfl
theorem hasKs_length : ∀ {ks : List SK} {xs : List S}, hasKs ks xs = true → xs.length = ks.length
  | [], [], _ => rfl
  | k :: ks, x :: xs, h => by
    simp only [hasKs, Bool.and_eq_true] at h
    simp [hasKs_length h.2]
  | [], _ :: _, h => by simp [hasKs] at h
  | _ :: _, [], h => by simp [hasKs] at h
theorem hasKs_append : ∀ {ks ls : List SK} {xs : List S}, hasKs (ks ++ ls) xs = true → hasKs ks (xs.take ks.length) = true ∧ hasKs ls (xs.drop ks.length) = true
  | [], ls, xs, h => by simpa [hasKs] using h
  | k :: ks, ls, x :: xs, h => by
    simp only [List.cons_append, hasKs, Bool.and_eq_true] at h
    have := hasKs_append h.2
    simp [hasKs, h.1, this.1, this.2]
  | _ :: _, _, [], h => by simp [hasKs] at h
theorem eqSs_append : ∀ {a b c d : List S}, a.length = b.length → eqSs (a ++ c) (b ++ d) = (eqSs a b && eqSs c d)
  | [], [], c, d, _ => by simp [eqSs]
  | x :: a, y :: b, c, d, h => by
    simp only [List.cons_append, eqSs]
    rw [eqSs_append (by simpa using h), Bool.and_assoc]
  | [], _ :: _, _, _, h => by simp at h
  | _ :: _, [], _, _, h => by simp at h
theorem kindsF_sim {g : TypeId → Option (List SK)} {d : Nat}
    (hg : ∀ t ks, g t = some ks → ∃ agg, rowIs P t agg = true ∧ sizeIs P t ks.length = true ∧ (agg = true ∨ ks.length = 1) ∧
      ∀ xs ys w, hasKs ks xs = true → hasKs ks ys = true → (Op.equalIn d t (rep agg xs) (rep agg ys)).run P w = .ok (eqSs xs ys) w) :
    ∀ (fs : List Field) (acc ks : List SK), kindsF g fs acc = some ks → ∃ ls, ks = acc ++ ls ∧
      ∀ (cx cy : List S) w, cx.length = ks.length → cy.length = ks.length → hasKs ls (cx.drop acc.length) = true → hasKs ls (cy.drop acc.length) = true →
        (Op.eqFields d (encs cx).toArray (encs cy).toArray fs).run P w = .ok (eqSs (cx.drop acc.length) (cy.drop acc.length)) w
  | [], acc, ks, h => by
    cases h
    refine ⟨[], by simp, fun cx cy w h1 h2 _ _ => ?_⟩
    rw [List.drop_eq_nil_of_le (by omega), List.drop_eq_nil_of_le (by omega)]
    rfl
  | f :: fs, acc, ks, h => by
    simp only [kindsF] at h
    split at h
    · cases h
    · rename_i hn
      rw [obs] at h
      obtain ⟨k1, h1, h2⟩ := h
      obtain ⟨ls, h3, h4⟩ := kindsF_sim hg fs (acc ++ k1) ks h2
      obtain ⟨agg, g1, g2, g3, g4⟩ := hg _ _ h1
      have hname : f.name ≠ "_" := fun e => hn (.inl e)
      have hoff : f.offset = acc.length := by
        by_cases e : f.offset = acc.length
        · exact e
        · exact (hn (.inr e)).elim
      refine ⟨k1 ++ ls, by rw [h3, List.append_assoc], fun cx cy w hx hy kx ky => ?_⟩
      have hlen : acc.length + k1.length ≤ ks.length := by rw [h3]; simp
      obtain ⟨kx1, kx2⟩ := hasKs_append kx
      obtain ⟨ky1, ky2⟩ := hasKs_append ky
      have e1 : (cx.drop acc.length).drop k1.length = cx.drop (acc ++ k1).length := by rw [List.drop_drop, List.length_append]
      have e2 : (cy.drop acc.length).drop k1.length = cy.drop (acc ++ k1).length := by rw [List.drop_drop, List.length_append]
      simp only [Op.eqFields, hname, ne_eq, not_false_eq_true, if_true, Sem.run_bind, hoff,
        run_part (cs := cx) (off := acc.length) g1 g2 g3 (by omega) w, run_part (cs := cy) (off := acc.length) g1 g2 g3 (by omega) w, Result.andThen_ok, g4 _ _ w kx1 ky1]
      have es : eqSs (cx.drop acc.length) (cy.drop acc.length) = (eqSs ((cx.drop acc.length).take k1.length) ((cy.drop acc.length).take k1.length) && eqSs (cx.drop (acc ++ k1).length) (cy.drop (acc ++ k1).length)) := by
        rw [← e1, ← e2, ← eqSs_append (by rw [hasKs_length kx1, hasKs_length ky1]), List.take_append_drop, List.take_append_drop]
      rw [es]
      cases he : eqSs ((cx.drop acc.length).take k1.length) ((cy.drop acc.length).take k1.length) with
      | false => simp
      | true =>
        simp only [Bool.not_true, Bool.false_eq_true, if_false, Bool.true_and]
        exact h4 cx cy w hx hy (e1 ▸ kx2) (e2 ▸ ky2)
theorem hasKs_one {k : SK} {xs : List S} (h : hasKs [k] xs = true) : ∃ x, xs = [x] ∧ hasK k x = true := by
  cases xs with
  | nil => simp [hasKs] at h
  | cons x xs =>
    cases xs with
    | nil => exact ⟨x, rfl, by simpa [hasKs] using h⟩
    | cons y ys => simp [hasKs] at h
theorem items_sim {e : TypeId} {d : Nat} {agg : Bool} {ks : List SK} (g1 : rowIs P e agg = true) (g2 : sizeIs P e ks.length = true) (g3 : agg = true ∨ ks.length = 1)
    (g4 : ∀ xs ys w, hasKs ks xs = true → hasKs ks ys = true → (Op.equalIn d e (rep agg xs) (rep agg ys)).run P w = .ok (eqSs xs ys) w) :
    ∀ (m j : Nat) (cx cy : List S) (w : World), cx.length = (j + m) * ks.length → cy.length = (j + m) * ks.length → hasKs (List.replicate m ks).flatten (cx.drop (j * ks.length)) = true → hasKs (List.replicate m ks).flatten (cy.drop (j * ks.length)) = true →
      (Op.eqItems d e ks.length (encs cx).toArray (encs cy).toArray (List.range' j m)).run P w = .ok (eqSs (cx.drop (j * ks.length)) (cy.drop (j * ks.length))) w
  | 0, j, cx, cy, w, hx, hy, kx, ky => by
    have h1 := hasKs_length kx
    have h2 := hasKs_length ky
    simp only [List.replicate_zero, List.flatten_nil, List.length_nil] at h1 h2
    rw [List.eq_nil_of_length_eq_zero h1, List.eq_nil_of_length_eq_zero h2]
    simp [Op.eqItems, eqSs]
  | m + 1, j, cx, cy, w, hx, hy, kx, ky => by
    rw [List.replicate_succ, List.flatten_cons] at kx ky
    obtain ⟨kx1, kx2⟩ := hasKs_append kx
    obtain ⟨ky1, ky2⟩ := hasKs_append ky
    have e0 : (j + 1) * ks.length = j * ks.length + ks.length := Nat.succ_mul ..
    have e3 : (j + (m + 1)) * ks.length = j * ks.length + (m + 1) * ks.length := Nat.add_mul ..
    have e4 : (m + 1) * ks.length = m * ks.length + ks.length := Nat.succ_mul ..
    have e5 : (j + 1 + m) * ks.length = (j + (m + 1)) * ks.length := by congr 1; omega
    have e1 : (cx.drop (j * ks.length)).drop ks.length = cx.drop ((j + 1) * ks.length) := by rw [List.drop_drop, e0]
    have e2 : (cy.drop (j * ks.length)).drop ks.length = cy.drop ((j + 1) * ks.length) := by rw [List.drop_drop, e0]
    rw [List.range'_succ]
    simp only [Op.eqItems, Sem.run_bind, run_part (cs := cx) (off := j * ks.length) g1 g2 g3 (by omega) w, run_part (cs := cy) (off := j * ks.length) g1 g2 g3 (by omega) w, Result.andThen_ok, g4 _ _ w kx1 ky1]
    have es : eqSs (cx.drop (j * ks.length)) (cy.drop (j * ks.length)) = (eqSs ((cx.drop (j * ks.length)).take ks.length) ((cy.drop (j * ks.length)).take ks.length) && eqSs (cx.drop ((j + 1) * ks.length)) (cy.drop ((j + 1) * ks.length))) := by
      rw [← e1, ← e2, ← eqSs_append (by rw [hasKs_length kx1, hasKs_length ky1]), List.take_append_drop, List.take_append_drop]
    rw [es]
    cases he : eqSs ((cx.drop (j * ks.length)).take ks.length) ((cy.drop (j * ks.length)).take ks.length) with
    | false => simp
    | true =>
      simp only [Bool.not_true, Bool.false_eq_true, if_false, Bool.true_and]
      exact items_sim g1 g2 g3 g4 m (j + 1) cx cy w (by omega) (by omega) (e1 ▸ kx2) (e2 ▸ ky2)
theorem kindsOf_sim : ∀ (d : Nat) (n : Nat), d ≤ n → ∀ t ks, kindsOf P d t = some ks → ∃ agg, rowIs P t agg = true ∧ sizeIs P t ks.length = true ∧ (agg = true ∨ ks.length = 1) ∧
    ∀ xs ys w, hasKs ks xs = true → hasKs ks ys = true → (Op.equalIn n t (rep agg xs) (rep agg ys)).run P w = .ok (eqSs xs ys) w
  | 0, _, _, t, ks, h => by simp [kindsOf] at h
  | d + 1, 0, hn, _, _, _ => by omega
  | d + 1, n + 1, hn, t, ks, h => by
    unfold kindsOf at h
    split at h
    · rename_i hu
      split at h
      · rename_i hs
        cases h
        refine ⟨false, by simp [rowIs, hu], hs, .inr rfl, fun xs ys w hx hy => ?_⟩
        obtain ⟨x, rfl, h1⟩ := hasKs_one hx
        obtain ⟨y, rfl, h2⟩ := hasKs_one hy
        cases x <;> simp [hasK] at h1
        cases y <;> simp [hasK] at h2
        simp [rep, enc, eqSs, eqS, run_equalIn_bool' _ _ _ _ _ hu]
      · cases h
    · rename_i k hu
      split at h
      · rename_i hs
        cases h
        refine ⟨false, by simp [rowIs, hu], hs, .inr rfl, fun xs ys w hx hy => ?_⟩
        obtain ⟨x, rfl, h1⟩ := hasKs_one hx
        obtain ⟨y, rfl, h2⟩ := hasKs_one hy
        cases x <;> simp [hasK] at h1
        cases y <;> simp [hasK] at h2
        subst h1; subst h2
        simp [rep, enc, eqSs, eqS, run_equalIn_int _ _ _ _ _ _ _ hu]
      · cases h
    · rename_i hu
      split at h
      · rename_i hs
        cases h
        refine ⟨false, by simp [rowIs, hu], hs, .inr rfl, fun xs ys w hx hy => ?_⟩
        obtain ⟨x, rfl, h1⟩ := hasKs_one hx
        obtain ⟨y, rfl, h2⟩ := hasKs_one hy
        cases x <;> simp [hasK] at h1
        cases y <;> simp [hasK] at h2
        simp [rep, enc, eqSs, eqS, run_equalIn_string _ _ _ _ _ hu]
      · cases h
    · rename_i fs hu
      split at h
      · cases h
      · rename_i hst
        rw [obs] at h
        obtain ⟨ks', h1, h2⟩ := h
        split at h2
        · rename_i hs
          cases h2
          obtain ⟨ls, h3, h4⟩ := kindsF_sim (P := P) (d := n) (fun t ks h => kindsOf_sim d n (by omega) t ks h) fs.toList [] ks h1
          simp only [List.nil_append] at h3
          subst h3
          refine ⟨true, by simp [rowIs, hu], hs, .inl rfl, fun xs ys w hx hy => ?_⟩
          have hf : P.fieldsOf t = fs := by simp [Program.fieldsOf, hu]
          simp only [rep, if_true]
          rw [run_equalIn_struct w n t _ _ (by rw [hf]; exact hu) (by simpa using hst), hf]
          exact h4 xs ys w (hasKs_length hx) (hasKs_length hy) hx hy
        · cases h2
    · cases h
theorem kindsE_sim : ∀ (d : Nat) (n : Nat), d ≤ n → ∀ t ks, kindsE P d t = some ks → ∃ agg, rowIs P t agg = true ∧ sizeIs P t ks.length = true ∧ (agg = true ∨ ks.length = 1) ∧
    ∀ xs ys w, hasKs ks xs = true → hasKs ks ys = true → (Op.equalIn n t (rep agg xs) (rep agg ys)).run P w = .ok (eqSs xs ys) w
  | 0, _, _, t, ks, h => by simp [kindsE] at h
  | d + 1, 0, hn, _, _, _ => by omega
  | d + 1, n + 1, hn, t, ks, h => by
    unfold kindsE at h
    split at h
    · rename_i m e hu
      rw [obs] at h
      obtain ⟨ks', h1, h2⟩ := h
      split at h2
      · rename_i hs
        obtain ⟨hs1, hs2⟩ := hs
        cases h2
        obtain ⟨agg, g1, g2, g3, g4⟩ := kindsE_sim d n (by omega) e ks' h1
        have hl : (List.replicate m ks').flatten.length = m * ks'.length := by simp
        obtain ⟨i, hi⟩ : ∃ i, P.info? e = some i := by
          unfold sizeIs at g2
          split at g2
          · rename_i i hi; exact ⟨i, hi⟩
          · cases g2
        refine ⟨true, by simp [rowIs, hu], by rw [hl]; exact hs2, .inl rfl, fun xs ys w hx hy => ?_⟩
        simp only [rep, if_true]
        rw [run_equalIn_array (w := w) n _ _ hu hi, hs1, List.range_eq_range']
        have := items_sim g1 g2 g3 g4 m 0 xs ys w (by rw [hasKs_length hx, hl, Nat.zero_add]) (by rw [hasKs_length hy, hl, Nat.zero_add]) (by simpa using hx) (by simpa using hy)
        simpa using this
      · cases h2
    · exact kindsOf_sim (d + 1) (n + 1) hn t ks h
theorem cellsA_rel {agg : Bool} {x : V} {cs : List S} {v : Value} (h : VRel X φ w x v) (hc : cellsA agg x = some cs) : v = rep agg cs := by
  unfold cellsA at hc
  split at hc
  · cases hc; exact sv_rel h
  · cases hc; exact av_rel h
  · cases hc
theorem eqa_sim {neg agg : Bool} {ks : List SK} {t : TypeId} {ox oy : Operand} {x y r : V} {u v : Value} (hr : rowIs P t agg = true) (hk : eqKs (kindsE P 20 t) ks = true) (hg : (!P.eqGuardType P.depth t) = true)
    (hx : VRel X φ w x u) (hy : VRel X φ w y v)
    (h : ((cellsA agg x).bind fun x => (cellsA agg y).bind fun y => if hasKs ks x && hasKs ks y then some (sv (.bool (if neg then !(eqSs x y) else eqSs x y))) else none) = some r) :
    ∃ z, (do eqGuard (if neg then .neq else .eql) t ox oy u v; binOp (if neg then .neq else .eql) t u v : Sem Value).run P w = .ok z w ∧ VRel X φ w r z := by
  rw [obs] at h
  obtain ⟨xs, h1, h⟩ := h
  rw [obs] at h
  obtain ⟨ys, h2, h⟩ := h
  split at h
  · rename_i hc
    cases h
    rw [Bool.and_eq_true] at hc
    refine ⟨_, ?_, sv_mk _⟩
    cases hko : kindsE P 20 t with
    | none => rw [hko] at hk; simp [eqKs] at hk
    | some ks' =>
      rw [hko] at hk
      have := eqKs_eq hk
      subst this
      obtain ⟨agg', g1, g2, g3, g4⟩ := kindsE_sim (P := P) 20 10000 (by omega) t _ hko
      have e : agg' = agg := by
        unfold rowIs at g1 hr
        split at g1
        · rename_i hu
          rw [hu] at hr
          rw [← eq_of_beq g1, ← eq_of_beq hr]
        · cases g1
      subst e
      have he := g4 xs ys w hc.1 hc.2
      have e1 := cellsA_rel hx h1
      have e2 := cellsA_rel hy h2
      have hgd : ∀ op, (eqGuard op t ox oy u v).run P w = .ok () w := by
        intro op
        rw [e1, e2]
        cases agg' with
        | true => exact run_eqGuard_agg w op t ox oy _ _ (by simpa using hg)
        | false =>
          unfold cellsA at h1 h2
          split at h1 <;> first | (cases h1; done) | skip
          · rename_i x0 heq0
            cases h1
            split at h2 <;> first | (cases h2; done) | skip
            · rename_i y0 _
              cases h2
              have hx0 := hasKs_length hc.1
              obtain ⟨k, hk1⟩ : ∃ k, ks' = [k] := by
                cases ks' with
                | nil => simp at hx0
                | cons k ks =>
                  cases ks with
                  | nil => exact ⟨k, rfl⟩
                  | cons k' ks => simp at hx0
              subst hk1
              have hc1 := hc.1
              have hc2 := hc.2
              simp only [hasKs, Bool.and_true] at hc1 hc2
              cases op <;> cases k <;> cases x0 <;> simp [hasK] at hc1 <;> cases y0 <;> simp [hasK] at hc2 <;> simp [rep, enc, eqGuard]
            · simp at *
          · simp at *
      have hb : ∀ w' : World, w' = w → ∀ op, (op = .eql ∨ op = .neq) → (binOp op t u v).run P w' = .ok (.bool (if op = .neq then !(eqSs xs ys) else eqSs xs ys)) w' := by
        rintro w' rfl op hop
        rw [e1, e2] at *
        cases agg' with
        | true =>
          simp only [rep, if_true] at he ⊢
          rcases hop with rfl | rfl
          · rw [run_eql_struct, he]; simp
          · rw [run_neq_struct, he]; simp
        | false =>
          unfold cellsA at h1 h2
          split at h1 <;> first | (cases h1; done) | skip
          · rename_i x0 heq0
            cases h1
            split at h2 <;> first | (cases h2; done) | skip
            · rename_i y0 _
              cases h2
              have hx0 := hasKs_length hc.1
              obtain ⟨k, hk1⟩ : ∃ k, ks' = [k] := by
                cases ks' with
                | nil => simp at hx0
                | cons k ks =>
                  cases ks with
                  | nil => exact ⟨k, rfl⟩
                  | cons k' ks => simp at hx0
              subst hk1
              have hc1 := hc.1
              have hc2 := hc.2
              simp only [hasKs, Bool.and_true] at hc1 hc2
              simp only [rep, Bool.false_eq_true, if_false] at he ⊢
              cases k <;> cases x0 <;> simp [hasK] at hc1 <;> cases y0 <;> simp [hasK] at hc2
              · simp only [enc_bool] at he ⊢
                rcases hop with rfl | rfl <;> simp [binOp, Op.equal, Op.maxDepth, he]
              · subst hc1; subst hc2
                rcases hop with rfl | rfl <;> simp [binOp, Op.intCmp, enc_int, eqSs, eqS, bne]
              · rcases hop with rfl | rfl <;> simp [binOp, Op.stringOp, enc_str, eqSs, eqS]
            · simp at *
          · simp at *
      simp only [Sem.run_bind, hgd, Result.andThen_ok]
      cases neg
      · simpa [enc_bool] using hb w rfl .eql (.inl rfl)
      · simpa [enc_bool] using hb w rfl .neq (.inr rfl)
  · cases h
end
end Go.DM
