/- Functions of Go's library whose answers are given: what they give. -/
import Derived.Test.YteghgkdakhelfaaDoorK218
import Derived.Lib.Bytealg
import Derived.Lib.Repeat
import Derived.Lib.Join
import Derived.Lib.ItoaNum
namespace Go.DM
def indexByteO : List Arg → Option Res
  | [.d (.s (.str s)), .d (.s (.int .u8 c))] => some ⟨[.s (.int .i64 (Lib.indexByte s c.toNat.toUInt8))], []⟩
  | _ => none
def repeatO : List Arg → Option Res
  | [.d (.s (.str s)), .d (.s (.int .i64 n))] => if 0 ≤ n ∧ n ≤ 1000000 ∧ s.length ≤ 1000000 then some ⟨[.s (.str (Lib.repeatL s n.toNat))], []⟩ else none
  | _ => none
def strsOf : List S → Option (List (List UInt8))
  | [] => some []
  | .str s :: r => (strsOf r).map (s :: ·)
  | _ => none
def joinO : List Arg → Option Res
  | [.d (.sl n 1 cs), .d (.s (.str sep))] => (strsOf cs).bind fun xs => if xs.length = n ∧ n ≤ 1000000 ∧ (Lib.join xs sep).length ≤ 1000000 then some ⟨[.s (.str (Lib.join xs sep))], []⟩ else none
  | _ => none
def formatO : List Arg → Option Res
  | [.d (.s (.int .i64 n)), .d (.s (.int .i64 10))] => if 0 ≤ n ∧ n < 100 then some ⟨[.s (.str (Lib.decDigits n.toNat))], []⟩ else if -100 ≤ n ∧ n < 0 then some ⟨[.s (.str (Lib.itoa n))], []⟩ else none
  | _ => none
/-- A text, cut at each byte c. -/
def pieces (c : UInt8) : List UInt8 → List (List UInt8)
  | [] => [[]]
  | b :: r => if b = c then [] :: pieces c r else match pieces c r with | [] => [[b]] | p :: ps => (b :: p) :: ps
def splitO : List Arg → Option Res
  | [.d (.s (.str s)), .d (.s (.str [c]))] => if s.length ≤ 2000000 then some ⟨[.own (pieces c s).length 1 ((pieces c s).map S.str)], []⟩ else none
  | _ => none
end Go.DM
