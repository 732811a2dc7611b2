/- Functions of Go's library whose answers are given: what they give. -/
import Derived.Test.YtkmhpkcpilhkmaaK6
import Derived.Lib.Bytealg
namespace Go.DM
def indexByteO : List Arg → Option Res
  | [.d (.s (.str s)), .d (.s (.int .u8 c))] => some ⟨[.s (.int .i64 (Lib.indexByte s c.toNat.toUInt8))], []⟩
  | _ => none
end Go.DM
