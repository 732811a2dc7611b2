/- A small deterministic machine over data without memory addresses: what a Go function of this program computes. Definitions alone. -/
import GoSem.Step
set_option linter.all false
namespace Go.DM
theorem obs {α β : Type _} {o : Option α} {f : α → Option β} {b : β} : o.bind f = some b ↔ ∃ a, o = some a ∧ f a = some b := Option.bind_eq_some_iff
class Tok where
  adr : Nat → Option Addr
  cap : Nat → Nat
  dat : Nat → List UInt8
abbrev Tok.none : Tok := ⟨fun _ => Option.none, fun _ => 0, fun _ => []⟩
variable [Tok]
inductive S where
  | bool (b : Bool) | int (k : IntKind) (n : Int) | str (s : List UInt8)
  | nils | nilp | nilm | nilf | nilI
  | tok (i : Nat)
inductive SK where
  | bool | int (k : IntKind) | str
deriving DecidableEq
inductive D where
  | s (x : S) | agg (cs : List S) | sl (n es : Nat) (cs : List S) | sld (ds : List D)
  | ref (cs : List S) | refd (x : D) | clo (f : Nat) (pre post : List D) | map (ks : List SK) (es : List (List S × List S))
inductive A where
  | d (x : D) | ptr (o off : Nat) | sl (o off len es : Nat) | dptr (cs : List S) (off : Nat) | dptrd (ds : List D) (i : Nat) | mp (o : Nat) | dead
inductive V where
  | a (x : A) | clo (f : Nat) (pre post : List A) | tup (vs : List A) | undef
inductive Ob where
  | flat (par : Bool) (cs : List S) | var (x : V) | map (ks : List SK) (es : List (List S × List S)) | row (xs : List A)
inductive Opd where
  | t (n : Nat) | c (x : S) | f (k : Nat)
inductive SlK where
  | str | sl (es : Nat) | arr (n es : Nat) | mp (ks : List SK)
inductive Cv where
  | int (k : IntKind) | toBytes | ofBytes | same
inductive Op where
  | mv (a : Opd) | ren (a : Opd) | pick (c a b : Opd)
  | alloc (zs : List S) | box (n : Nat) (a : Opd)
  | build (zs : List S) (parts : List (Nat × Nat × Opd))
  | bsl (es len : Nat) (zs : List S) (parts : List (Nat × Opd)) | bslr (len : Nat) (parts : List (Nat × Opd))
  | load (n : Nat) (agg : Bool) (a : Opd) | store (n : Nat) (a v : Opd)
  | nilc (a : Opd)
  | bin (op : BinOp) (a b : Opd) | eqa (neg agg : Bool) (ks : List SK) (a b : Opd) | un (op : UnOp) (a : Opd)
  | conv (k : Cv) (a : Opd)
  | mkf (f : Nat) (pre post : List Opd)
  | slc (k : SlK) (a : Opd) (lo hi : Option Opd)
  | fld (off n : Nat) (agg : Bool) (a : Opd) | fadr (off : Nat) (a : Opd)
  | idxs (es : Nat) (a i : Opd) | idxa (len es : Nat) (a i : Opd) | idxstr (a i : Opd) | idxagg (len es : Nat) (agg : Bool) (a i : Opd)
  | ext (a : Opd) (i : Nat)
  | call (f : Nat) (args : List Opd) | callv (a : Opd) (args : List Opd)
  | app (es : Nat) (a b : Opd) | len (k : SlK) (a : Opd) | mm (mx : Bool) (a b : Opd)
  | mks (es : Nat) (zs : List S) (l c : Opd) | clr (es : Nat) (zs : List S) (a : Opd) | cpy (es : Nat) (a b : Opd)
  | mkm (ks : List SK) | mget (vn : Nat) (zv : List S) (ks : List SK) (ok : Bool) (m k : Opd) | mput (vn : Nat) (ks : List SK) (m k v : Opd)
  | ment (vn : Nat) (zv : List S) (ks : List SK) (m k : Opd) | mest (vn : Nat) (m s v : Opd)
  | mki (a : Opd) | bad
structure Oper where
  dst : Option Nat
  op : Op
  guard : Option (Nat × Bool) := none
  hid : List Nat := []
  wr : List Nat := []
  sees : List Nat := []
  bef : List Nat := []
inductive Code where
  | skip | region (ops : List Oper) (draw : Bool) | seq (a b : Code) | cond (c : Opd) (a b : Code)
  | block (id : Nat) (c : Code) | loop (c : Code) | exit (id : Nat) | ret
inductive Rs where
  | tmp (t : Nat) | cell (t n : Nat) (agg : Bool)
inductive Arg where
  | d (x : D) | mp (cs : List S) | ms (n es : Nat) (cs : List S)
inductive Ret where
  | s (x : S) | agg (cs : List S) | own (n es : Nat) (cs : List S) | ownp (cs : List S) | par (i off n es : Nat) | ownm (ks : List SK) (es : List (List S × List S))
structure Res where
  rets : List Ret
  outs : List (List S)
structure Fn where
  muts : List Bool
  res : List Rs
  body : Code
  given : Option (List Arg → Option Res) := none
def upd {α : Type} (f : Nat → α) (k : Nat) (v : α) : Nat → α := fun i => if i = k then v else f i
structure St where
  env : Nat → V
  objs : Nat → Option Ob
abbrev Calls := Nat → List Arg → Option Res
def sv (x : S) : V := .a (.d (.s x))
def av (cs : List S) : V := .a (.d (.agg cs))
def ev (env : Nat → V) : Opd → V
  | .t n => env n
  | .c x => sv x
  | .f k => .clo k [] []
def deadA (ids : List Nat) : A → Bool
  | .ptr o _ | .sl o _ _ _ | .mp o => ids.contains o
  | _ => false
def killV (ids : List Nat) : V → V
  | .a x => if deadA ids x then .undef else .a x
  | .clo f p q => if p.any (deadA ids) || q.any (deadA ids) then .undef else .clo f p q
  | .tup vs => .tup (vs.map fun x => if deadA ids x then .dead else x)
  | .undef => .undef
def killO (ids : List Nat) : Ob → Ob
  | .var x => .var (killV ids x)
  | .row xs => .row (xs.map fun x => if deadA ids x then .dead else x)
  | o => o
def kill (ids : List Nat) (σ : St) : St :=
  { env := fun t => killV ids (σ.env t), objs := fun o => if ids.contains o then none else (σ.objs o).map (killO ids) }
def put (o : Nat) (ob : Ob) (σ : St) : St := { σ with objs := upd σ.objs o (some ob) }
def set (dst : Option Nat) (v : V) (σ : St) : St := match dst with | some d => { σ with env := upd σ.env d v } | none => σ
def intBin (op : BinOp) (k : IntKind) (x y : Int) : Option S :=
  match op with
  | .add => some (.int k (k.wrap (x + y))) | .sub => some (.int k (k.wrap (x - y))) | .mul => some (.int k (k.wrap (x * y)))
  | .quo => if y = 0 then none else some (.int k (k.wrap (x.tdiv y))) | .rem => if y = 0 then none else some (.int k (x.tmod y))
  | .and => some (.int k (k.wrap (BitVec.ofInt k.bits x &&& BitVec.ofInt k.bits y).toNat))
  | .or => some (.int k (k.wrap (BitVec.ofInt k.bits x ||| BitVec.ofInt k.bits y).toNat))
  | .xor => some (.int k (k.wrap (BitVec.ofInt k.bits x ^^^ BitVec.ofInt k.bits y).toNat))
  | .andNot => some (.int k (k.wrap (BitVec.ofInt k.bits x &&& ~~~(BitVec.ofInt k.bits y)).toNat))
  | .eql => some (.bool (x == y)) | .neq => some (.bool (x != y)) | .lss => some (.bool (x < y)) | .leq => some (.bool (x ≤ y))
  | .gtr => some (.bool (x > y)) | .geq => some (.bool (x ≥ y))
  | .shl | .shr => none
def shiftBin (op : BinOp) (k : IntKind) (x y : Int) : Option S :=
  if y < 0 then none else match op with
  | .shl => some (.int k (k.wrap (x * 2 ^ (Nat.min y.toNat k.bits)))) | .shr => some (.int k (x.fdiv (2 ^ (Nat.min y.toNat k.bits)))) | _ => none
def big : Nat := 1073741824
def strBin (op : BinOp) (x y : List UInt8) : Option S :=
  match op with
  | .add => if x.length + y.length ≤ big then some (.str (x ++ y)) else none
  | .eql => some (.bool (x == y)) | .neq => some (.bool (x != y))
  | .lss => some (.bool (Op.bytesLess x y)) | .leq => some (.bool (Op.bytesLess x y || x == y))
  | .gtr => some (.bool !(Op.bytesLess x y || x == y)) | .geq => some (.bool !(Op.bytesLess x y))
  | _ => none
def isShift : BinOp → Bool | .shl | .shr => true | _ => false
def bin (op : BinOp) : V → V → Option V
  | .a (.d (.s (.int k x))), .a (.d (.s (.int k' y))) => if isShift op then (shiftBin op k x y).map sv else if k = k' then (intBin op k x y).map sv else none
  | .a (.d (.s (.str x))), .a (.d (.s (.str y))) => (strBin op x y).map sv
  | _, _ => none
def hasK : SK → S → Bool
  | .bool, .bool _ | .str, .str _ => true
  | .int k, .int k' _ => decide (k = k')
  | _, _ => false
def hasKs : List SK → List S → Bool
  | [], [] => true
  | k :: ks, x :: xs => hasK k x && hasKs ks xs
  | _, _ => false
def eqS : S → S → Bool
  | .bool a, .bool b => a == b
  | .int _ a, .int _ b => a == b
  | .str a, .str b => a == b
  | _, _ => false
def eqSs : List S → List S → Bool
  | [], [] => true
  | x :: xs, y :: ys => eqS x y && eqSs xs ys
  | _, _ => false
def cellsOf : V → Option (List S)
  | .a (.d (.s x)) => some [x]
  | .a (.d (.agg cs)) => some cs
  | _ => none
def cellsA : Bool → V → Option (List S)
  | false, .a (.d (.s x)) => some [x]
  | true, .a (.d (.agg cs)) => some cs
  | _, _ => none
def asI : V → Option Int
  | .a (.d (.s (.int _ n))) => some n
  | _ => none
def ofCells (agg : Bool) (cs : List S) : Option V := if agg then some (av cs) else match cs with | [x] => some (sv x) | _ => none
def u8s (s : List UInt8) : List S := s.map fun b => .int .u8 b.toNat
def all? {α β : Type} (f : α → Option β) : List α → Option (List β)
  | [] => some []
  | x :: xs => (f x).bind fun y => (all? f xs).map (y :: ·)
def toDA (objs : Nat → Option Ob) (rec : V → Option D) : A → Option D
  | .d x => some x
  | .ptr o off => match objs o with
    | some (.flat _ cs) => some (.ref (cs.drop off))
    | some (.var x) => if off = 0 then (rec x).map .refd else none
    | _ => none
  | .sl o off len es => match objs o with
    | some (.flat _ cs) => if off + len * es ≤ cs.length then some (.sl len es ((cs.drop off).take (len * es))) else none
    | some (.row xs) => if off = 0 ∧ es = 1 ∧ len = xs.length then (all? (fun x => rec (.a x)) xs).map .sld else none
    | _ => none
  | .dptr cs off => some (.ref (cs.drop off))
  | .dptrd _ _ | .dead => none
  | .mp o => match objs o with | some (.map ks es) => some (.map ks es) | _ => none
def toDV (objs : Nat → Option Ob) : Nat → V → Option D
  | 0, _ => none
  | n + 1, .a x => toDA objs (toDV objs n) x
  | n + 1, .clo f p q => (all? (toDA objs (toDV objs n)) p).bind fun p' => (all? (toDA objs (toDV objs n)) q).map fun q' => .clo f p' q'
  | _, _ => none
def depth : Nat := 6
def fill (zs : List S) : List (Nat × List S) → Option (List S)
  | [] => some zs
  | (off, cs) :: r => if off + cs.length ≤ zs.length then fill (zs.take off ++ cs ++ zs.drop (off + cs.length)) r else none
def loadC (n : Nat) (agg : Bool) (cs : List S) (off : Nat) : Option V :=
  if off + n ≤ cs.length then ofCells agg ((cs.drop off).take n) else none
def load (objs : Nat → Option Ob) (n : Nat) (agg : Bool) : V → Option V
  | .a (.ptr o off) => match objs o with
    | some (.flat _ cs) => loadC n agg cs off
    | some (.var x) => if n = 1 ∧ off = 0 ∧ agg = false then some x else none
    | _ => none
  | .a (.dptr cs off) => loadC n agg cs off
  | .a (.d (.ref cs)) => loadC n agg cs 0
  | .a (.d (.refd x)) => if n = 1 ∧ agg = false then some (.a (.d x)) else none
  | .a (.dptrd ds i) => if n = 1 ∧ agg = false then (ds[i]?).map fun x => .a (.d x) else none
  | _ => none
def lenV : SlK → V → Option Nat
  | .str, .a (.d (.s (.str s))) => some s.length
  | .sl _, .a (.d (.s .nils)) => some 0
  | .sl _, .a (.d (.s (.tok i))) => some (Tok.dat i).length
  | .sl _, .a (.d (.sl n _ _)) => some n
  | .sl _, .a (.d (.sld ds)) => some ds.length
  | .sl _, .a (.sl _ _ n _) => some n
  | .arr n _, _ => some n
  | _, _ => none
def bound (x : Option V) (dflt : Nat) : Option Nat :=
  match x with
  | none => some dflt
  | some v => (asI v).bind fun i => if 0 ≤ i then some i.toNat else none
def slc (k : SlK) (x : V) (lo hi : Option V) : Option V :=
  match k, x with
  | .str, .a (.d (.s (.str s))) => (bound lo 0).bind fun l => (bound hi s.length).bind fun h => if l ≤ h ∧ h ≤ s.length then some (sv (.str ((s.drop l).take (h - l)))) else none
  | .sl _, .a (.d (.s .nils)) => (bound lo 0).bind fun l => (bound hi 0).bind fun h => if l = 0 ∧ h = 0 then some (sv .nils) else none
  | .sl es, .a (.d (.sl n es' cs)) => (bound lo 0).bind fun l => (bound hi n).bind fun h =>
      if l ≤ h ∧ h ≤ n ∧ es = es' ∧ n * es ≤ cs.length then some (.a (.d (.sl (h - l) es ((cs.drop (l * es)).take ((h - l) * es))))) else none
  | .sl es, .a (.sl o off n es') => (bound lo 0).bind fun l => (bound hi n).bind fun h => if l ≤ h ∧ h ≤ n ∧ es = es' then some (.a (.sl o (off + l * es) (h - l) es)) else none
  | _, _ => none
def idxs (es : Nat) (x i : V) : Option V :=
  (asI i).bind fun i => if i < 0 then none else match x with
  | .a (.sl o off n es') => if i < n ∧ es = es' then some (.a (.ptr o (off + i.toNat * es))) else none
  | .a (.d (.sl n es' cs)) => if i < n ∧ es = es' ∧ n * es ≤ cs.length then some (.a (.dptr cs (i.toNat * es))) else none
  | .a (.d (.sld ds)) => if i < ds.length ∧ es = 1 then some (.a (.dptrd ds i.toNat)) else none
  | .a (.d (.s (.tok j))) => if i < (Tok.dat j).length ∧ es = 1 then some (.a (.dptr (u8s (Tok.dat j)) i.toNat)) else none
  | _ => none
def fadr (off' : Nat) : V → Option V
  | .a (.ptr o off) => some (.a (.ptr o (off + off')))
  | .a (.dptr cs off) => some (.a (.dptr cs (off + off')))
  | .a (.d (.ref cs)) => some (.a (.dptr cs off'))
  | _ => none
def idxa (len es : Nat) (x i : V) : Option V := (asI i).bind fun i => if 0 ≤ i ∧ i < len then fadr (i.toNat * es) x else none
def nilc : V → Option V
  | .a (.ptr o off) => some (.a (.ptr o off))
  | .a (.dptr cs off) => some (.a (.dptr cs off))
  | .a (.d (.ref cs)) => some (.a (.d (.ref cs)))
  | .a (.d (.refd x)) => some (.a (.d (.refd x)))
  | .a (.dptrd ds i) => some (.a (.dptrd ds i))
  | .clo f p q => some (.clo f p q)
  | .a (.d (.clo f p q)) => some (.a (.d (.clo f p q)))
  | _ => none
def asAs : List V → Option (List A)
  | [] => some []
  | .a x :: r => (asAs r).map (x :: ·)
  | _ => none
def bytesOf : List S → Option (List UInt8)
  | [] => some []
  | .int .u8 n :: r => (bytesOf r).map (UInt8.ofNat n.toNat :: ·)
  | _ => none
def elems (objs : Nat → Option Ob) (es : Nat) : V → Option (Nat × List S)
  | .a (.d (.s .nils)) => some (0, [])
  | .a (.d (.sl n es' cs)) => if es = es' ∧ cs.length = n * es then some (n, cs) else none
  | .a (.sl o off n es') => match objs o with
    | some (.flat _ cs) => if es = es' ∧ off + n * es ≤ cs.length then some (n, (cs.drop off).take (n * es)) else none
    | _ => none
  | .a (.d (.s (.str s))) => if es = 1 then some (s.length, s.map fun b => .int .u8 b.toNat) else none
  | _ => none
def mfind (k : List S) : List (List S × List S) → Option (List S)
  | [] => none
  | (k', v) :: r => if eqSs k k' then some v else mfind k r
def mset (k v : List S) : List (List S × List S) → List (List S × List S)
  | [] => [(k, v)]
  | (k', v') :: r => if eqSs k k' then (k, v) :: r else (k', v') :: mset k v r
def midx (k : List S) : List (List S × List S) → Nat
  | [] => 0
  | (k', _) :: r => if eqSs k k' then 0 else midx k r + 1
def mentry (k z : List S) (es : List (List S × List S)) : List (List S × List S) := if (mfind k es).isSome then es else es ++ [(k, z)]
def mstore (j : Nat) (u : List S) (es : List (List S × List S)) : List (List S × List S) := match es[j]? with | some p => es.set j (p.1, u) | none => es
def mapOf (objs : Nat → Option Ob) (ks : List SK) : V → Option (List (List S × List S))
  | .a (.mp o) => match objs o with | some (.map ks' es) => if ks = ks' then some es else none | _ => none
  | .a (.d (.map ks' es)) => if ks = ks' then some es else none
  | .a (.d (.s .nilm)) => some []
  | _ => none
def convInt (k : IntKind) : V → Option V
  | .a (.d (.s (.int _ n))) => some (sv (.int k (k.wrap n)))
  | _ => none
def convSame : V → Option V
  | .a (.d (.s (.str s))) => some (sv (.str s))
  | _ => none
def unop : UnOp → V → Option V
  | .not, .a (.d (.s (.bool b))) => some (sv (.bool !b))
  | .neg, .a (.d (.s (.int k n))) => some (sv (.int k (k.wrap (0 - n))))
  | _, _ => none
def mm (mx : Bool) : V → V → Option V
  | .a (.d (.s (.int k x))), .a (.d (.s (.int _ y))) => some (sv (.int k (if mx then (if x < y then y else x) else (if y < x then y else x))))
  | _, _ => none
def quiet (σ : St) : Op → Option V
  | .mv a => some (ev σ.env a)
  | .pick c a b => match ev σ.env c with | .a (.d (.s (.bool t))) => some (if t then ev σ.env a else ev σ.env b) | _ => none
  | .build zs parts => (all? (fun p : Nat × Nat × Opd => (cellsOf (ev σ.env p.2.2)).bind fun cs => if cs.length = p.2.1 then some (p.1, cs) else none) parts).bind fun ps => (fill zs ps).map av
  | .load n agg a => load σ.objs n agg (ev σ.env a)
  | .nilc a => nilc (ev σ.env a)
  | .bin op a b => bin op (ev σ.env a) (ev σ.env b)
  | .eqa neg agg ks a b => (cellsA agg (ev σ.env a)).bind fun x => (cellsA agg (ev σ.env b)).bind fun y => if hasKs ks x && hasKs ks y then some (sv (.bool (if neg then !(eqSs x y) else eqSs x y))) else none
  | .un op a => unop op (ev σ.env a)
  | .conv (.int k) a => convInt k (ev σ.env a)
  | .conv .ofBytes a => (elems σ.objs 1 (ev σ.env a)).bind fun p => (bytesOf p.2).map fun s => sv (.str s)
  | .conv .same a => convSame (ev σ.env a)
  | .mkf f pre post => (asAs (pre.map (ev σ.env))).bind fun p => (asAs (post.map (ev σ.env))).map fun q => .clo f p q
  | .slc k a lo hi => slc k (ev σ.env a) (lo.map (ev σ.env)) (hi.map (ev σ.env))
  | .fld off n agg a => match ev σ.env a with | .a (.d (.agg cs)) => loadC n agg cs off | _ => none
  | .fadr off a => fadr off (ev σ.env a)
  | .idxs es a i => idxs es (ev σ.env a) (ev σ.env i)
  | .idxa len es a i => idxa len es (ev σ.env a) (ev σ.env i)
  | .idxstr a i => match ev σ.env a, ev σ.env i with
    | .a (.d (.s (.str s))), .a (.d (.s (.int _ i))) => if 0 ≤ i then (s[i.toNat]?).map fun b => sv (.int .u8 b.toNat) else none
    | _, _ => none
  | .idxagg len es agg a i => match ev σ.env a, ev σ.env i with
    | .a (.d (.agg cs)), .a (.d (.s (.int _ i))) => if 0 ≤ i ∧ i < len then loadC es agg cs (i.toNat * es) else none
    | _, _ => none
  | .ext a i => match ev σ.env a with | .tup vs => (vs[i]?).map .a | _ => none
  | .len (.mp ks) a => (mapOf σ.objs ks (ev σ.env a)).map fun es => sv (.int .i64 (es.length : Nat))
  | .len k a => (lenV k (ev σ.env a)).map fun (n : Nat) => sv (.int .i64 (n : Int))
  | .mm mx a b => mm mx (ev σ.env a) (ev σ.env b)
  | .mget vn zv ks ok m k => (mapOf σ.objs ks (ev σ.env m)).bind fun es => (cellsA (ks.length != 1) (ev σ.env k)).bind fun key =>
      if hasKs ks key && ((mfind key es).getD zv).length == vn then (match ofCells (vn != 1) ((mfind key es).getD zv) with
        | some (.a x) => some (if ok then .tup [x, .d (.s (.bool (mfind key es).isSome))] else .a x)
        | _ => none) else none
  | _ => none
def replicate (n : Nat) (zs : List S) : List S := (List.replicate n zs).flatten
def boxV (d n : Nat) (x : V) : Option (V × List (Nat × Ob)) :=
  match cellsOf x with
  | some cs => if cs.length = n then some (.a (.ptr d 0), [(d, .flat false cs)]) else none
  | none => match x with
    | .tup _ | .undef | .a .dead => none
    | x => if n = 1 then some (.a (.ptr d 0), [(d, .var (killV [d] x))]) else none
def partV : V → Option A
  | .a (.d (.agg _)) | .a .dead => none
  | .a x => some x
  | _ => none
def inOrder : Nat → List (Nat × Opd) → Bool
  | _, [] => true
  | k, p :: ps => p.1 == k && inOrder (k + 1) ps
def makes (σ : St) (dst : Nat) : Op → Option (V × List (Nat × Ob))
  | .alloc zs => some (.a (.ptr dst 0), [(dst, .flat false zs)])
  | .box n a => boxV dst n (ev σ.env a)
  | .bsl es len zs parts => if zs.length = es ∧ len * es ≤ 16777216 then
      (all? (fun p : Nat × Opd => (cellsOf (ev σ.env p.2)).bind fun cs => if cs.length = es then some (p.1 * es, cs) else none) parts).bind fun ps =>
        (fill (replicate len zs) ps).map fun cs => (.a (.sl dst 0 len es), [(dst, .flat false cs)])
      else none
  | .bslr len parts => if parts.length = len ∧ len ≤ 16777216 ∧ inOrder 0 parts then
      (all? (fun p : Nat × Opd => partV (ev σ.env p.2)) parts).map fun xs => (.a (.sl dst 0 len 1), [(dst, .row (xs.map fun x => if deadA [dst] x then .dead else x))])
      else none
  | .mks es zs l c => match asI (ev σ.env l), asI (ev σ.env c) with
    | some l, some c => if 0 ≤ l ∧ l = c ∧ l * (es + 1) ≤ big ∧ zs.length = es then some (.a (.sl dst 0 l.toNat es), [(dst, .flat false (replicate l.toNat zs))]) else none
    | _, _ => none
  | .conv .toBytes a => match ev σ.env a with
    | .a (.d (.s (.str s))) => some (.a (.sl dst 0 s.length 1), [(dst, .flat false (s.map fun b => .int .u8 b.toNat))])
    | _ => none
  | .mkm ks => some (.a (.mp dst), [(dst, .map ks [])])
  | _ => none
def writable (σ : St) (v : V) : Option (Arg × Option Nat) :=
  match v with
  | .a (.ptr o 0) => match σ.objs o with | some (.flat _ cs) => some (.mp cs, some o) | _ => none
  | .a (.sl o off n es) => match σ.objs o with
    | some (.flat _ cs) => if off + n * es ≤ cs.length then some (.ms n es ((cs.drop off).take (n * es)), some o) else none
    | _ => none
  | .a (.d (.s .nils)) => some (.d (.s .nils), none)
  | _ => none
def mutIds : List Bool → List V → List Nat
  | true :: ms, .a (.ptr o _) :: vs | true :: ms, .a (.sl o _ _ _) :: vs => o :: mutIds ms vs
  | _ :: ms, _ :: vs => mutIds ms vs
  | _, _ => []
def args (σ : St) (ids : List Nat) : List Bool → List V → Option (List Arg)
  | _, [] => some []
  | m :: ms, v :: vs => (if m then (writable σ v).map (·.1) else (toDV (fun o => if ids.contains o then none else σ.objs o) depth v).map .d).bind fun x => (args σ ids ms vs).map (x :: ·)
  | [], v :: vs => (toDV (fun o => if ids.contains o then none else σ.objs o) depth v).bind fun x => (args σ ids [] vs).map (.d x :: ·)
def backs (σ : St) : List Bool → List V → List (List S) → Option (List (Nat × Ob))
  | true :: ms, .a (.ptr o _) :: vs, c :: cs => match σ.objs o with
    | some (.flat p old) => if c.length = old.length then (backs σ ms vs cs).map ((o, .flat p c) :: ·) else none
    | _ => none
  | true :: ms, .a (.sl o off n es) :: vs, c :: cs => match σ.objs o with
    | some (.flat p old) => if c.length = n * es ∧ off + n * es ≤ old.length then (backs σ ms vs cs).map ((o, .flat p (old.take off ++ c ++ old.drop (off + n * es))) :: ·) else none
    | _ => none
  | _ :: ms, _ :: vs, cs => backs σ ms vs cs
  | _, _, [] => some []
  | _, _, _ => none
def retV (vs : List V) (id : Nat) : Ret → Option (A × List (Nat × Ob))
  | .s x => some (.d (.s x), [])
  | .agg cs => some (.d (.agg cs), [])
  | .own n es cs => some (.sl id 0 n es, [(id, .flat false cs)])
  | .ownp cs => some (.ptr id 0, [(id, .flat false cs)])
  | .ownm ks es => some (.mp id, [(id, .map ks es)])
  | .par i off n es => match vs[i]? with | some (.a (.sl o off' _ _)) => some (.sl o (off' + off) n es, []) | _ => none
def retVs (vs : List V) (dst : Nat) : Nat → List Ret → Option (List A × List (Nat × Ob))
  | _, [] => some ([], [])
  | i, r :: rs => (retV vs (1000 * (i + 1) + dst) r).bind fun p => (retVs vs dst (i + 1) rs).map fun q => (p.1 :: q.1, p.2 ++ q.2)
def retsV (vs : List V) (dst : Nat) : List Ret → Option (V × List (Nat × Ob))
  | [r] => (retV vs dst r).map fun p => (.a p.1, p.2)
  | rs => (retVs vs dst 0 rs).map fun p => (.tup p.1, p.2)
def nodup : List Nat → Bool
  | [] => true
  | x :: xs => !xs.contains x && nodup xs
def callF (Γ : Nat → Option Fn) (call : Calls) (σ : St) (f : Nat) (vs : List V) : Option (Res × List (Nat × Ob)) :=
  (Γ f).bind fun fn =>
    if nodup (mutIds fn.muts vs) then
      (args σ (mutIds fn.muts vs) fn.muts vs).bind fun as => (call f as).bind fun r => (backs σ fn.muts vs r.outs).map fun ps => (r, ps)
    else none
def callee (σ : St) : Op → Option (Nat × List V)
  | .call f xs => some (f, xs.map (ev σ.env))
  | .callv a xs => match ev σ.env a with
    | .clo f p q => some (f, p.map .a ++ xs.map (ev σ.env) ++ q.map .a)
    | .a (.d (.clo f p q)) => some (f, p.map (fun x => .a (.d x)) ++ xs.map (ev σ.env) ++ q.map (fun x => .a (.d x)))
    | _ => none
  | _ => none
def storeO (n : Nat) (v : V) (off : Nat) : Ob → Option Ob
  | .flat p cs => match cellsOf v with
    | some xs => if xs.length = n ∧ off + n ≤ cs.length then some (.flat p (cs.take off ++ xs ++ cs.drop (off + n))) else none
    | none => match v with
      | .tup _ | .undef | .a .dead => none
      | v => if n = 1 ∧ off = 0 ∧ cs.length = 1 ∧ p = false then some (.var v) else none
  | .var _ => if n = 1 ∧ off = 0 then (match cellsOf v with
      | some [x] => some (.flat false [x])
      | some _ => none
      | none => match v with | .tup _ | .undef | .a .dead => none | v => some (.var v)) else none
  | .map _ _ | .row _ => none
def insertAll : List (Nat × Ob) → St → St
  | [], σ => σ
  | p :: ps, σ => insertAll ps (put p.1 p.2 σ)
structure Dl where
  v : V
  kills : List Nat := []
  puts : List (Nat × Ob) := []
def append (σ : St) (dst : Option Nat) (es : Nat) (a b : V) : Option Dl :=
  match elems σ.objs es b with
  | none => none
  | some (m, ys) => match a with
    | .a (.sl o off n es') => match σ.objs o with
      | some (.flat false cs) => if es = es' ∧ off + n * es ≤ cs.length ∧ (n + m) * (es + 1) ≤ big then
          some { v := .a (.sl o 0 (n + m) es), kills := [o], puts := [(o, .flat false ((cs.drop off).take (n * es) ++ ys))] } else none
      | _ => none
    | .a (.d (.s .nils)) => if m = 0 then some { v := sv .nils } else if m * (es + 1) ≤ big then dst.map fun d => { v := .a (.sl d 0 m es), kills := [d], puts := [(d, .flat false ys)] } else none
    | _ => none
def delta (Γ : Nat → Option Fn) (call : Calls) (dst : Option Nat) (σ : St) (op : Op) : Option Dl :=
  match op with
  | .store n a v => match ev σ.env a with
    | .a (.ptr o off) => (σ.objs o).bind fun ob => (storeO n (ev σ.env v) off ob).map fun ob' => { v := .undef, puts := [(o, ob')] }
    | _ => none
  | .ren a => match ev σ.env a, dst with
    | .a (.sl o off n es), some d => if o = d then some { v := .a (.sl o off n es) } else match σ.objs o with
      | some (.flat false cs) => some { v := .a (.sl d off n es), kills := [o, d], puts := [(d, .flat false cs)] }
      | _ => none
    | v, _ => some { v := v }
  | .app es a b => append σ dst es (ev σ.env a) (ev σ.env b)
  | .clr es zs a => match ev σ.env a with
    | .a (.d (.s .nils)) => some { v := .tup [] }
    | .a (.sl o off n es') => match σ.objs o with
      | some (.flat p cs) => if es = es' ∧ zs.length = es ∧ off + n * es ≤ cs.length then some { v := .tup [], puts := [(o, .flat p (cs.take off ++ replicate n zs ++ cs.drop (off + n * es)))] } else none
      | _ => none
    | _ => none
  | .cpy es a b => match ev σ.env b with
    | .a (.d (.s (.str _))) => none
    | vb => match elems σ.objs es vb with
      | none => none
      | some (m, ys) => match ev σ.env a with
        | .a (.sl o off n es') => match σ.objs o with
          | some (.flat p cs) => if es = es' ∧ off + n * es ≤ cs.length then
              some { v := sv (.int .i64 (Nat.min m n : Nat)), puts := [(o, .flat p (cs.take off ++ ys.take (Nat.min m n * es) ++ cs.drop (off + Nat.min m n * es)))] } else none
          | _ => none
        | _ => none
  | .mput vn ks m k v => match ev σ.env m with
    | .a (.mp o) => match σ.objs o with
      | some (.map ks' es) => (cellsA (ks.length != 1) (ev σ.env k)).bind fun key => (cellsA (vn != 1) (ev σ.env v)).bind fun u =>
          if ks = ks' ∧ hasKs ks key ∧ u.length = vn then some { v := .undef, puts := [(o, .map ks (mset key u es))] } else none
      | _ => none
    | _ => none
  | .ment vn zv ks m k => match ev σ.env m with
    | .a (.mp o) => match σ.objs o with
      | some (.map ks' es) => (cellsA (ks.length != 1) (ev σ.env k)).bind fun key =>
          if ks = ks' ∧ hasKs ks key ∧ zv.length = vn then some { v := .tup [.dead, .d (.s (.int .i64 (midx key es : Nat)))], puts := [(o, .map ks (mentry key zv es))] } else none
      | _ => none
    | _ => none
  | .mest vn m s v => match ev σ.env m with
    | .a (.mp o) => match σ.objs o with
      | some (.map ks es) => match ev σ.env s with
        | .a (.d (.s (.int .i64 j))) => (cellsA (vn != 1) (ev σ.env v)).bind fun u =>
          if 0 ≤ j ∧ j.toNat < es.length ∧ u.length = vn then some { v := .undef, puts := [(o, .map ks (mstore j.toNat u es))] } else none
        | _ => none
      | _ => none
    | _ => none
  | .call .. | .callv .. => (callee σ op).bind fun p => (callF Γ call σ p.1 p.2).bind fun r =>
      match dst with
      | some d => (retsV p.2 d r.1.rets).bind fun q => if q.2.all (fun x => !(r.2.map (·.1)).contains x.1) then some { v := q.1, kills := q.2.map (·.1), puts := r.2 ++ q.2 } else none
      | none => some { v := .undef, puts := r.2 }
  | op => match quiet σ op with
    | some v => some { v := v }
    | none => dst.bind fun d => (makes σ d op).map fun p => { v := p.1, kills := p.2.map (·.1), puts := p.2 }
def applyD (dst : Option Nat) (r : Dl) (σ : St) : St := set dst r.v (insertAll r.puts (kill r.kills σ))
def wanted (dsts : Nat → Option Nat) (env : Nat → V) : Option (Nat × Bool) → Option Bool
  | none => some true
  | some (j, b) => (dsts j).bind fun t => match env t with | .a (.d (.s (.bool x))) => some (x == b) | .tup [] => some false | _ => none
def dstsOf (ops : List Oper) (j : Nat) : Option Nat := (ops[j]?).bind (·.dst)
def noPar (σ : St) (ids : List Nat) : Bool := ids.all fun o => match σ.objs o with | some (.flat true _) => false | _ => true
def deltaG (Γ : Nat → Option Fn) (call : Calls) (dsts : Nat → Option Nat) (o : Oper) (σ : St) : Option Dl :=
  (wanted dsts σ.env o.guard).bind fun b => if b then delta Γ call o.dst σ o.op else some { v := .tup [] }
def step (Γ : Nat → Option Fn) (call : Calls) (dsts : Nat → Option Nat) (o : Oper) (σ : St) : Option St :=
  (deltaG Γ call dsts o σ).bind fun r => if noPar σ r.kills then some (applyD o.dst r σ) else none
def run (f : Oper → St → Option St) : List Oper → St → Option St
  | [], σ => some σ
  | o :: r, σ => (f o σ).bind (run f r)
def only (ts : List Nat) (σ : St) : St := { σ with env := fun t => if ts.contains t then σ.env t else .undef }
def veil (o : Oper) (σ : St) : St := kill o.hid (only o.sees σ)
def within (o : Oper) (r : Dl) : Bool := r.puts.all (fun p => o.wr.contains p.1) && r.kills.all o.wr.contains
def hideD (hid : List Nat) (r : Dl) : Dl := { v := killV hid r.v, kills := r.kills, puts := r.puts.map fun p => (p.1, killO hid p.2) }
def stepH (Γ : Nat → Option Fn) (call : Calls) (dsts : Nat → Option Nat) (o : Oper) (σ : St) : Option St :=
  (deltaG Γ call dsts o (veil o σ)).bind fun r => if within o r && noPar σ r.kills then some (applyD o.dst (hideD o.hid r) σ) else none
inductive Ex where
  | normal | exit (id : Nat) | ret
def exec (reg : List Oper → Bool → St → Option St) (iter : (St → Option (Ex × St)) → St → Option (Ex × St)) : Code → St → Option (Ex × St)
  | .skip, σ => some (.normal, σ)
  | .region ops draw, σ => (reg ops draw σ).map fun σ' => (.normal, σ')
  | .seq a b, σ => (exec reg iter a σ).bind fun r => match r.1 with
    | .normal => exec reg iter b r.2
    | e => some (e, r.2)
  | .cond c a b, σ => match ev σ.env c with
    | .a (.d (.s (.bool t))) => if t then exec reg iter a σ else exec reg iter b σ
    | _ => none
  | .block id c, σ => (exec reg iter c σ).map fun r => match r.1 with
    | .exit id' => if id' = id then (.normal, r.2) else (.exit id', r.2)
    | e => (e, r.2)
  | .loop c, σ => iter (exec reg iter c) σ
  | .exit id, σ => some (.exit id, σ)
  | .ret, σ => some (.ret, σ)
def region (Γ : Nat → Option Fn) (call : Calls) (ops : List Oper) (draw : Bool) (σ : St) : Option St :=
  if draw then run (stepH Γ call (dstsOf ops)) ops σ else run (step Γ call (dstsOf ops)) ops σ
def iterN : Nat → (St → Option (Ex × St)) → St → Option (Ex × St)
  | 0, _, _ => none
  | n + 1, f, σ => (f σ).bind fun r => match r.1 with
    | .normal => iterN n f r.2
    | e => some (e, r.2)
def argV (i : Nat) : Arg → V
  | .d x => .a (.d x)
  | .mp _ => .a (.ptr i 0)
  | .ms n es _ => .a (.sl i 0 n es)
def argO : Arg → Option Ob
  | .d _ => none
  | .mp cs => some (.flat true cs)
  | .ms _ _ cs => some (.flat true cs)
def enter (as : List Arg) : St :=
  { env := fun i => match as[i]? with | some x => argV i x | none => .undef, objs := fun i => (as[i]?).bind argO }
def isMut : Arg → Bool | .d _ => false | _ => true
def retOf (as : List Arg) (σ : St) : V → Option (Ret × Option Nat)
  | .a (.d (.s x)) => some (.s x, none)
  | .a (.d (.agg cs)) => some (.agg cs, none)
  | .a (.sl o off n es) => match σ.objs o with
    | some (.flat false cs) => if off + n * es ≤ cs.length then some (.own n es ((cs.drop off).take (n * es)), some o) else none
    | some (.flat true _) => match as[o]? with | some (.ms ..) => some (.par o off n es, none) | _ => none
    | _ => none
  | .a (.ptr o 0) => match σ.objs o with
    | some (.flat false cs) => some (.ownp cs, some o)
    | _ => none
  | .a (.mp o) => match σ.objs o with
    | some (.map ks es) => some (.ownm ks es, some o)
    | _ => none
  | _ => none
def resV (σ : St) : Rs → Option V
  | .tmp t => some (σ.env t)
  | .cell t n agg => load σ.objs n agg (σ.env t)
def outOf (σ : St) (i : Nat) (x : Arg) : Option (List S) :=
  match x, σ.objs i with
  | .mp cs, some (.flat true cs') | .ms _ _ cs, some (.flat true cs') => if cs'.length = cs.length then some cs' else none
  | _, _ => none
def outsOf (σ : St) : Nat → List Arg → Option (List (List S))
  | _, [] => some []
  | i, x :: xs => if isMut x then (outOf σ i x).bind fun c => (outsOf σ (i + 1) xs).map (c :: ·) else outsOf σ (i + 1) xs
def finish (fn : Fn) (as : List Arg) (σ : St) : Option Res :=
  (all? (resV σ) fn.res).bind fun vs => (all? (retOf as σ) vs).bind fun rs =>
    if nodup (rs.filterMap (·.2)) then (outsOf σ 0 as).map fun outs => { rets := rs.map (·.1), outs } else none
def marked : List Bool → List Arg → Bool
  | m :: ms, x :: xs => (m || !isMut x) && marked ms xs
  | [], x :: xs => !isMut x && marked [] xs
  | _, [] => true
def callN (Γ : Nat → Option Fn) : Nat → Calls
  | 0, _, _ => none
  | n + 1, f, as => (Γ f).bind fun fn => match fn.given with
    | some o => o as
    | none => if marked fn.muts as then (exec (region Γ (callN Γ n)) (iterN n) fn.body (enter as)).bind fun r => match r.1 with
      | .exit _ => none
      | _ => finish fn as r.2
    else none
end Go.DM
