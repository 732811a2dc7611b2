/- When an operation of the small machine stands for one of the program: a check by computation. -/
import Derived.Test.YtimkdadlmolnaaaGreatDoorK402Rel
set_option linter.unusedSectionVars false
set_option linter.unusedSimpArgs false
set_option linter.unusedVariables false
namespace Go.DM
variable [Tok]
def eqC : Value → S → Bool
  | .bool a, .bool b => a == b
  | .int k n, .int k' m => decide (k = k') && decide (n = m)
  | .string s, .str l => s.data.toList == l
  | .slice none 0 0, .nils => true
  | .pointer none, .nilp => true
  | .map none, .nilm => true
  | .nilFunc, .nilf => true
  | .nilIface, .nilI => true
  | _, _ => false
theorem eqC_eq {v : Value} {x : S} (h : eqC v x = true) : v = enc x := by
  unfold eqC at h
  split at h <;> simp_all [enc]
  rename_i s l
  rw [← h]
def eqCs : List Value → List S → Bool
  | [], [] => true
  | v :: vs, x :: xs => eqC v x && eqCs vs xs
  | _, _ => false
theorem eqCs_eq : ∀ {vs : List Value} {xs : List S}, eqCs vs xs = true → vs = encs xs
  | [], [], _ => rfl
  | v :: vs, x :: xs, h => by
    simp only [eqCs, Bool.and_eq_true] at h
    simp [encs, eqC_eq h.1, eqCs_eq h.2]
  | [], _ :: _, h => by simp [eqCs] at h
  | _ :: _, [], h => by simp [eqCs] at h
def sizeIs (P : Program) (t : TypeId) (n : Nat) : Bool := match P.info? t with | some i => decide (i.size = n) | none => false
def bytesOk (P : Program) (t : TypeId) (es : Nat) : Bool := match P.info? t with | some i => decide (i.bytes ≤ 16 * (es + 1)) | none => false
def rowIs (P : Program) (t : TypeId) (agg : Bool) : Bool := match P.underlying t with | some d => d.isRow == agg | none => false
def zeroIs (P : Program) (t : TypeId) (zs : List S) : Bool :=
  match P.info? t with
  | some i => decide (i.size = zs.length) && (match i.zero with | some v => eqCs v.cells.toList zs | none => false)
  | none => false
def sliceOf (P : Program) (t : TypeId) : Option TypeId := match P.underlying t with | some (.slice e) => some e | _ => none
def arrayOf (P : Program) (t : TypeId) : Option (Nat × TypeId) := match P.underlying t with | some (.array n e) => some (n, e) | _ => none
def isStr (P : Program) (t : TypeId) : Bool := match P.underlying t with | some .string => true | _ => false
def intOf? (P : Program) (t : TypeId) : Option IntKind := match P.underlying t with | some (.int k) => some k | _ => none
def fieldOf (P : Program) (t : TypeId) (f : Nat) : Option Field := match P.underlying t with | some (.struct fs) => fs[f]? | _ => none
def sz (P : Program) (t : TypeId) : Option Nat := (P.info? t).map (·.size)
def kindsF (g : TypeId → Option (List SK)) : List Field → List SK → Option (List SK)
  | [], acc => some acc
  | f :: fs, acc => if f.name = "_" ∨ f.offset ≠ acc.length then none else (g f.type).bind fun ks => kindsF g fs (acc ++ ks)
def kindsOf (P : Program) : Nat → TypeId → Option (List SK)
  | 0, _ => none
  | d + 1, t => match P.underlying t with
    | some .bool => if sizeIs P t 1 then some [.bool] else none
    | some (.int k) => if sizeIs P t 1 then some [.int k] else none
    | some .string => if sizeIs P t 1 then some [.str] else none
    | some (.struct fs) =>
      if P.stoodInHeld t then none else (kindsF (kindsOf P d) fs.toList []).bind fun ks => if sizeIs P t ks.length then some ks else none
    | _ => none
def kindsE (P : Program) : Nat → TypeId → Option (List SK)
  | 0, _ => none
  | d + 1, t => match P.underlying t with
    | some (.array n e) => (kindsE P d e).bind fun ks => if P.cellsOf e = ks.length ∧ sizeIs P t (n * ks.length) = true then some (List.replicate n ks).flatten else none
    | _ => kindsOf P (d + 1) t
def eqKs : Option (List SK) → List SK → Bool
  | some [], [] => true
  | some (x :: xs), y :: ys => (match x, y with | .bool, .bool | .str, .str => true | .int k, .int k' => decide (k = k') | _, _ => false) && eqKs (some xs) ys
  | _, _ => false
theorem eqKs_eq : ∀ {xs : List SK} {ys : List SK}, eqKs (some xs) ys = true → xs = ys
  | [], [], _ => rfl
  | x :: xs, y :: ys, h => by
    simp only [eqKs, Bool.and_eq_true] at h
    have := eqKs_eq h.2
    subst this
    have h1 := h.1
    split at h1 <;> simp_all
  | [], _ :: _, h => by simp [eqKs] at h
  | _ :: _, [], h => by simp [eqKs] at h
def okX (ρ : Nat → Nat) : Operand → Opd → Bool
  | .tmp t, .t n => t == n
  | .const v, .c x => eqC v x
  | .func f, .f k => f == ρ k
  | _, _ => false
def okXs (ρ : Nat → Nat) : List Operand → List Opd → Bool
  | [], [] => true
  | x :: xs, a :: as => okX ρ x a && okXs ρ xs as
  | _, _ => false
def okXo (ρ : Nat → Nat) : Option Operand → Option Opd → Bool
  | none, none => true
  | some x, some a => okX ρ x a
  | _, _ => false
def okParts (ρ : Nat → Nat) (place : Nat → Option (Nat × Nat)) : List (Nat × Operand) → List (Nat × Nat × Opd) → Bool
  | [], [] => true
  | (i, x) :: xs, (off, n, a) :: as => okX ρ x a && place i == some (off, n) && okParts ρ place xs as
  | _, _ => false
def okElems (ρ : Nat → Nat) : List (Nat × Operand) → List (Nat × Opd) → Bool
  | [], [] => true
  | (i, x) :: xs, (j, a) :: as => okX ρ x a && i == j && okElems ρ xs as
  | _, _ => false
def structPlace (P : Program) (fs : Array Field) (i : Nat) : Option (Nat × Nat) := (fs[i]?).bind fun f => (sz P f.type).map fun n => (f.offset, n)
def sized (P : Program) (fs : Array Field) : Bool := fs.toList.all fun f => (P.info? f.type).isSome
def mapTys (P : Program) (t : TypeId) : Option (TypeId × TypeId) := match P.underlying t with | some (.map k e) => some (k, e) | _ => none
def zeroEq (P : Program) (t : TypeId) (zs : List S) : Bool := match P.info? t with
  | some i => (match i.zero with
    | some (.agg c) => zs.length != 1 && eqCs c.toList zs
    | some v => (match zs with | [x] => eqC v x | _ => false)
    | none => false)
  | none => false
def okMap (P : Program) (t : TypeId) (ks : List SK) (vn : Nat) : Bool := match mapTys P t with
  | some (k, e) => eqKs (kindsOf P 20 k) ks && (match P.underlying k with | some (.struct _) => true | _ => false) && ks.length != 1 && rowIs P e (vn != 1)
  | none => false
def okO (P : Program) (ρ : Nat → Nat) : Go.Op → Op → Bool
  | .move x, .mv a | .assign x, .mv a | .assign x, .ren a => okX ρ x a
  | .pick c x y, .pick c' a b => okX ρ c c' && okX ρ x a && okX ρ y b
  | .alloc T, .alloc zs => zeroIs P T zs && !zs.isEmpty
  | .box _ x, .box _ a => okX ρ x a
  | .build T ps, .build zs qs => zeroIs P T zs && (match P.underlying T with
    | some (.struct fs) => sized P fs && okParts ρ (structPlace P fs) ps.toList qs
    | some (.array _ e) => (match sz P e with | some n => okParts ρ (fun i => some (i * n, n)) ps.toList qs | none => false)
    | _ => false)
  | .buildSlice T len ps, .bsl es len' zs qs => (match sliceOf P T with | some e => zeroIs P e zs && zs.length == es && len == len' && okElems ρ ps.toList qs && es != 0 | none => false)
  | .buildSlice T len ps, .bslr len' qs => (match sliceOf P T with | some e => zeroIs P e [.nils] && len == len' && okElems ρ ps.toList qs | none => false)
  | .load T x, .load n agg a => okX ρ x a && sizeIs P T n && rowIs P T agg && (agg || n == 1)
  | .store T x y, .store n a v => okX ρ x a && okX ρ y v && sizeIs P T n
  | .nilCheck x, .nilc a => okX ρ x a
  | .binOp op _ x y _, .bin op' a b => op == op' && okX ρ x a && okX ρ y b
  | .binOp .eql T x y _, .eqa false agg ks a b => okX ρ x a && okX ρ y b && rowIs P T agg && eqKs (kindsE P 20 T) ks && !P.eqGuardType P.depth T
  | .binOp .neq T x y _, .eqa true agg ks a b => okX ρ x a && okX ρ y b && rowIs P T agg && eqKs (kindsE P 20 T) ks && !P.eqGuardType P.depth T
  | .unOp op _ x, .un op' a => op == op' && okX ρ x a
  | .convert s d x, .conv (.int k) a => okX ρ x a && intOf? P d == some k && (P.underlying s).isSome
  | .convert s d x, .conv .ofBytes a => okX ρ x a && isStr P d && (match sliceOf P s with | some e => intOf? P e == some .u8 && sizeIs P e 1 | none => false)
  | .convert s d x, .conv .same a => okX ρ x a && isStr P d && isStr P s
  | .makeFunc (.func f) pre post, .mkf f' p q => f == ρ f' && okXs ρ pre.toList p && okXs ρ post.toList q
  | .slice T x lo hi none, .slc .str a l h => okX ρ x a && okXo ρ lo l && okXo ρ hi h && isStr P T
  | .slice T x lo hi none, .slc (.sl es) a l h => okX ρ x a && okXo ρ lo l && okXo ρ hi h && (match sliceOf P T with | some e => sizeIs P e es | none => false)
  | .field T x f, .fld off n agg a => okX ρ x a && (match fieldOf P T f with | some fd => fd.offset == off && sizeIs P fd.type n && rowIs P fd.type agg && (agg || n == 1) | none => false)
  | .fieldAddr T x f, .fadr off a => okX ρ x a && (match fieldOf P T f with | some fd => fd.offset == off && (match sz P fd.type with | some n => n != 0 | none => false) | none => false)
  | .indexAddr T x i, .idxs es a j => okX ρ x a && okX ρ i j && (match sliceOf P T with | some e => sizeIs P e es | none => false)
  | .indexAddr T x i, .idxa len es a j => okX ρ x a && okX ρ i j && (match arrayOf P T with | some (n, e) => n == len && sizeIs P e es | none => false)
  | .index T x i, .idxstr a j => okX ρ x a && okX ρ i j && isStr P T
  | .index T x i, .idxagg len es agg a j => okX ρ x a && okX ρ i j && (match arrayOf P T with | some (n, e) => n == len && sizeIs P e es && rowIs P e agg && (agg || es == 1) | none => false)
  | .extract x i, .ext a j => okX ρ x a && i == j
  | .call { callee := .value (.func f), args, .. }, .call f' as => f == ρ f' && okXs ρ args.toList as
  | .call { callee := .value (.tmp t), args, .. }, .callv a as => okX ρ (.tmp t) a && okXs ρ args.toList as
  | .call { callee := .builtin .append, args, argTypes }, .app es a b => okXs ρ args.toList [a, b] && (match argTypes.toList with
    | [T, T'] => (match sliceOf P T with | some e => sizeIs P e es && es != 0 && bytesOk P e es && (match P.info? e with | some i => (match i.zero with | some z => z.cells.size == es | none => false) | none => false) | none => false) && ((sliceOf P T').isSome || isStr P T')
    | _ => false)
  | .call { callee := .builtin .len, args, argTypes }, .len k a => okXs ρ args.toList [a] && (match argTypes.toList, k with
    | [T], .str => isStr P T
    | [T], .sl _ => (sliceOf P T).isSome
    | [T], .arr n _ => (match arrayOf P T with | some (n', _) => n == n' | none => false)
    | _, _ => false)
  | .call { callee := .builtin .max, args, .. }, .mm true a b => okXs ρ args.toList [a, b]
  | .call { callee := .builtin .min, args, .. }, .mm false a b => okXs ρ args.toList [a, b]
  | .call { callee := .builtin .clear, args, argTypes }, .clr es zs a => okXs ρ args.toList [a] && (match argTypes.toList with
    | [T] => (match sliceOf P T with | some e => zeroIs P e zs && zs.length == es | none => false)
    | _ => false)
  | .call { callee := .builtin .copy, args, argTypes }, .cpy es a b => okXs ρ args.toList [a, b] && (match argTypes.toList with
    | [T, T'] => (match sliceOf P T with | some e => sizeIs P e es && es != 0 | none => false) && (sliceOf P T').isSome
    | _ => false)
  | .makeSlice T l c, .mks es zs l' c' => okX ρ l l' && okX ρ c c' && (match sliceOf P T with | some e => zeroIs P e zs && zs.length == es && es != 0 && bytesOk P e es | none => false)
  | .makeMap _ none, .mkm _ => true
  | .makeMap T (some x), .mkm _ => (match x with | .const (.int _ _) => true | _ => false) && (mapTys P T).isSome
  | .lookup T x k ok, .mget vn zv ks ok' m k' => okX ρ x m && okX ρ k k' && ok == ok' && okMap P T ks vn && (match mapTys P T with | some (_, e) => zeroEq P e zv | none => false)
  | .mapEntry T x k, .ment vn zv ks m k' => okX ρ x m && okX ρ k k' && okMap P T ks vn && (match mapTys P T with | some (_, e) => zeroEq P e zv | none => false)
  | .entryStore _ x s v, .mest _ m s' v' => okX ρ x m && okX ρ s s' && okX ρ v v'
  | .mapUpdate T x k v, .mput vn ks m k' v' | .insert T x k v, .mput vn ks m k' v' => okX ρ x m && okX ρ k k' && okX ρ v v' && okMap P T ks vn
  | _, _ => false
end Go.DM
