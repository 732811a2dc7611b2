/-
  No cell of these rows narrows 'for every input' (looked for: loops, veiled, ifaces, maps, wideKeys, modest, calm, conditions, laid).
  DERIVED. THE GIVEN ROWS OF THIS SEAT. 3 by the template 'for every input the law returns true; each argument reads behind the call as it read before'; 0 by the template 'total and deterministic' (their statements: YtaocbbdkiemhaaaTotals.lean).
  GIVEN WITH THE SEED: the statements are not yours to turn. If you find one false, say at which input.
  Laid BY PROGRAM, IN A SANDBOX (cutbox-rows.mjs): the forced cells as the released guide's own fill.sh prints them over the translation 74ba6566c74ddcf6… (all of the seat's roots in one cut). By AI agents, Wed Nov 11 2026. No macro, syntax, notation, axiom, sorry.
-/
import Derived.Test.YtaocbbdkiemhaaaChecked
import GoSem.Claim
import GoSem.ClaimJoined
import GoSem.ClaimMapViews
import Derived.JoinedTies
import Derived.KernelRfl
namespace Go.Proofs.Ytaocbbdkiemhaaa
/- THE CELL 'sum', in the pinned program and in every row, IS THE sha256 OF THE DUMP (.gsa) THAT YtaocbbdkiemhaaaProg.lean LOADS. Nothing in Lean hashes anything: it is a label: what it is worth is what the hold of that sum in a sandbox is worth. -/
noncomputable def Try.pinned : Pinned := { name := "ytaocbbdkiemhaaa", sum := "74ba6566c74ddcf6862cd358cfed8856815135cd21b382c2d7a1ba7879bd3af3", checked := Try.checked }
namespace Rows
def none {H : Type} : Left H := { results := [], args := [] }

/-- 'laws.FnExactLeastDelay': WHATEVER THE INPUT: true; the input reads as it did. -/
def fnExactLeastDelaySpec : ChangeSpec := { name := "fnExactLeastDelay", fn := fun _ => fun
  | [d1, d2, d3] => { results := [.lit (.bool true)], args := [d1, d2, d3] }
  | _ => none }
def fnExactLeastDelayRow : OpenClaim := { program := "ytaocbbdkiemhaaa", sum := "74ba6566c74ddcf6862cd358cfed8856815135cd21b382c2d7a1ba7879bd3af3", func := "loop.example/g01405/laws.FnExactLeastDelay", spec := "fnExactLeastDelay", unfollowed := true, recurses := true, plainKeys := false, apart := false }
def FnExactLeastDelaySaid : Prop := fnExactLeastDelayRow.holds Try.pinned (OpenSpec.ofChange fnExactLeastDelaySpec)

/-- ITS FALSE NEIGHBOUR: 'it returns false'. Refute it at one input. -/
def fnExactLeastDelayWrong : ChangeSpec := { name := "fnExactLeastDelay", fn := fun _ => fun
  | [d1, d2, d3] => { results := [.lit (.bool false)], args := [d1, d2, d3] }
  | _ => none }
def FnExactLeastDelayWrongFalsely : Prop := fnExactLeastDelayRow.holds Try.pinned (OpenSpec.ofChange fnExactLeastDelayWrong)

/-- 'laws.FnMoles': WHATEVER THE INPUT: true; the input reads as it did. -/
def fnMolesSpec : ChangeSpec := { name := "fnMoles", fn := fun _ => fun
  | [d1, d2] => { results := [.lit (.bool true)], args := [d1, d2] }
  | _ => none }
def fnMolesRow : OpenClaim := { program := "ytaocbbdkiemhaaa", sum := "74ba6566c74ddcf6862cd358cfed8856815135cd21b382c2d7a1ba7879bd3af3", func := "loop.example/g01405/laws.FnMoles", spec := "fnMoles", unfollowed := true, recurses := true, plainKeys := false, apart := false }
def FnMolesSaid : Prop := fnMolesRow.holds Try.pinned (OpenSpec.ofChange fnMolesSpec)

/-- ITS FALSE NEIGHBOUR: 'it returns false'. Refute it at one input. -/
def fnMolesWrong : ChangeSpec := { name := "fnMoles", fn := fun _ => fun
  | [d1, d2] => { results := [.lit (.bool false)], args := [d1, d2] }
  | _ => none }
def FnMolesWrongFalsely : Prop := fnMolesRow.holds Try.pinned (OpenSpec.ofChange fnMolesWrong)

/-- 'laws.FnClash': WHATEVER THE INPUT: true; the input reads as it did. -/
def fnClashSpec : ChangeSpec := { name := "fnClash", fn := fun _ => fun
  | [d1, d2] => { results := [.lit (.bool true)], args := [d1, d2] }
  | _ => none }
def fnClashRow : OpenClaim := { program := "ytaocbbdkiemhaaa", sum := "74ba6566c74ddcf6862cd358cfed8856815135cd21b382c2d7a1ba7879bd3af3", func := "loop.example/g01405/laws.FnClash", spec := "fnClash", unfollowed := true, recurses := true, plainKeys := false, apart := false }
def FnClashSaid : Prop := fnClashRow.holds Try.pinned (OpenSpec.ofChange fnClashSpec)

/-- ITS FALSE NEIGHBOUR: 'it returns false'. Refute it at one input. -/
def fnClashWrong : ChangeSpec := { name := "fnClash", fn := fun _ => fun
  | [d1, d2] => { results := [.lit (.bool false)], args := [d1, d2] }
  | _ => none }
def FnClashWrongFalsely : Prop := fnClashRow.holds Try.pinned (OpenSpec.ofChange fnClashWrong)

/- THE SECOND FORM. 'bulk': how many values and letters a reading holds, each counted each time it is reached (what is shared counts as often as it is met; a slice's spare places count too). A statement '..UptoSaid' is the law's where the arguments, and the package variables that the reading takes, are together of bulk at most 1048576: NARROWER than '..Said'. Prove '..Said' where nothing that the law and all that it calls make is longer than what came in: it says more and counts as full. Else prove '..UptoSaid'. A law counts once. -/
mutual
def uptoBulk {H : Type} : DataW H → Nat
  | .lit (.string bytes) => bytes.length + 1
  | .lit _ => 1
  | .nil => 1
  | .ptr d => uptoBulk d + 1
  | .slice elems spare => uptoBulkAll elems + uptoBulkAll spare + 1
  | .agg parts => uptoBulkAll parts + 1
  | .iface _ d => uptoBulk d + 1
  | .map entries => uptoBulkEntries entries + 1
  | .held _ => 1
def uptoBulkAll {H : Type} : List (DataW H) → Nat
  | [] => 0
  | d :: r => uptoBulk d + uptoBulkAll r
def uptoBulkEntries {H : Type} : List (Lit × DataW H) → Nat
  | [] => 0
  | x :: r => uptoBulkEntry x + uptoBulkEntries r
def uptoBulkEntry {H : Type} : Lit × DataW H → Nat
  | (.string bytes, d) => bytes.length + uptoBulk d + 1
  | (_, d) => uptoBulk d + 1
 end
def uptoSmall : (H : Type) → List (DataW H) → Bool := fun _ ds => decide (uptoBulkAll ds ≤ 1048576)
def OpenSpec.upto (s : _root_.Go.ChangeSpec) : _root_.Go.OpenSpec := { _root_.Go.OpenSpec.ofChange s with cond := some uptoSmall }

/-- 'laws.FnExactLeastDelay', WHERE WHAT IT READS IS OF BULK AT MOST 1048576: true; the input reads as it did. -/
def fnExactLeastDelayUptoRow : OpenClaim := { program := "ytaocbbdkiemhaaa", sum := "74ba6566c74ddcf6862cd358cfed8856815135cd21b382c2d7a1ba7879bd3af3", func := "loop.example/g01405/laws.FnExactLeastDelay", spec := "fnExactLeastDelay", unfollowed := true, recurses := true, plainKeys := false, apart := false, narrowed := true }
def FnExactLeastDelayUptoSaid : Prop := fnExactLeastDelayUptoRow.holds Try.pinned (OpenSpec.upto fnExactLeastDelaySpec)

/-- 'laws.FnMoles', WHERE WHAT IT READS IS OF BULK AT MOST 1048576: true; the input reads as it did. -/
def fnMolesUptoRow : OpenClaim := { program := "ytaocbbdkiemhaaa", sum := "74ba6566c74ddcf6862cd358cfed8856815135cd21b382c2d7a1ba7879bd3af3", func := "loop.example/g01405/laws.FnMoles", spec := "fnMoles", unfollowed := true, recurses := true, plainKeys := false, apart := false, narrowed := true }
def FnMolesUptoSaid : Prop := fnMolesUptoRow.holds Try.pinned (OpenSpec.upto fnMolesSpec)

/-- 'laws.FnClash', WHERE WHAT IT READS IS OF BULK AT MOST 1048576: true; the input reads as it did. -/
def fnClashUptoRow : OpenClaim := { program := "ytaocbbdkiemhaaa", sum := "74ba6566c74ddcf6862cd358cfed8856815135cd21b382c2d7a1ba7879bd3af3", func := "loop.example/g01405/laws.FnClash", spec := "fnClash", unfollowed := true, recurses := true, plainKeys := false, apart := false, narrowed := true }
def FnClashUptoSaid : Prop := fnClashUptoRow.holds Try.pinned (OpenSpec.upto fnClashSpec)

end Rows
end Go.Proofs.Ytaocbbdkiemhaaa
