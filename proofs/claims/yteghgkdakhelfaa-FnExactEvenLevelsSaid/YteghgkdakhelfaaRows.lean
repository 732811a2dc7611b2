/-
  No cell of these rows narrows 'for every input' (looked for: loops, veiled, ifaces, maps, wideKeys, modest, calm, conditions, laid).
  DERIVED. THE GIVEN ROWS OF THIS SEAT. 5 by the template 'for every input the law returns true; each argument reads behind the call as it read before'; 0 by the template 'total and deterministic' (their statements: YteghgkdakhelfaaTotals.lean).
  GIVEN WITH THE SEED: the statements are not yours to turn. If you find one false, say at which input.
  Laid BY PROGRAM, IN A SANDBOX (cutbox-rows.mjs): the forced cells as the released guide's own fill.sh prints them over the translation 04a9fcceadd6d64b… (all of the seat's roots in one cut). By AI agents, Wed Nov 11 2026. No macro, syntax, notation, axiom, sorry.
-/
import Derived.Test.YteghgkdakhelfaaChecked
import GoSem.Claim
import GoSem.ClaimJoined
import GoSem.ClaimMapViews
import Derived.JoinedTies
import Derived.KernelRfl
namespace Go.Proofs.Yteghgkdakhelfaa
/- THE CELL 'sum', in the pinned program and in every row, IS THE sha256 OF THE DUMP (.gsa) THAT YteghgkdakhelfaaProg.lean LOADS. Nothing in Lean hashes anything: it is a label: what it is worth is what the hold of that sum in a sandbox is worth. -/
noncomputable def Try.pinned : Pinned := { name := "yteghgkdakhelfaa", sum := "04a9fcceadd6d64bbfac52b94415b950d2cc5f3e6e5b65d2d4ddfdd134f11b76", checked := Try.checked }
namespace Rows
def none {H : Type} : Left H := { results := [], args := [] }

/-- 'laws.FnExactLeftBy': WHATEVER THE INPUT: true; the input reads as it did. -/
def fnExactLeftBySpec : ChangeSpec := { name := "fnExactLeftBy", fn := fun _ => fun
  | [d1, d2, d3] => { results := [.lit (.bool true)], args := [d1, d2, d3] }
  | _ => none }
def fnExactLeftByRow : OpenClaim := { program := "yteghgkdakhelfaa", sum := "04a9fcceadd6d64bbfac52b94415b950d2cc5f3e6e5b65d2d4ddfdd134f11b76", func := "loop.example/g01405/laws.FnExactLeftBy", spec := "fnExactLeftBy", inPlace := ["internal/bytealg.IndexByteString"], unfollowed := true, recurses := true, plainKeys := false, apart := false }
def FnExactLeftBySaid : Prop := fnExactLeftByRow.holds Try.pinned (OpenSpec.ofChange fnExactLeftBySpec)

/-- ITS FALSE NEIGHBOUR: 'it returns false'. Refute it at one input. -/
def fnExactLeftByWrong : ChangeSpec := { name := "fnExactLeftBy", fn := fun _ => fun
  | [d1, d2, d3] => { results := [.lit (.bool false)], args := [d1, d2, d3] }
  | _ => none }
def FnExactLeftByWrongFalsely : Prop := fnExactLeftByRow.holds Try.pinned (OpenSpec.ofChange fnExactLeftByWrong)

/-- 'laws.FnExactMownBy': WHATEVER THE INPUT: true; the input reads as it did. -/
def fnExactMownBySpec : ChangeSpec := { name := "fnExactMownBy", fn := fun _ => fun
  | [d1, d2, d3] => { results := [.lit (.bool true)], args := [d1, d2, d3] }
  | _ => none }
def fnExactMownByRow : OpenClaim := { program := "yteghgkdakhelfaa", sum := "04a9fcceadd6d64bbfac52b94415b950d2cc5f3e6e5b65d2d4ddfdd134f11b76", func := "loop.example/g01405/laws.FnExactMownBy", spec := "fnExactMownBy", inPlace := ["internal/bytealg.IndexByteString"], unfollowed := true, recurses := true, plainKeys := false, apart := false }
def FnExactMownBySaid : Prop := fnExactMownByRow.holds Try.pinned (OpenSpec.ofChange fnExactMownBySpec)

/-- ITS FALSE NEIGHBOUR: 'it returns false'. Refute it at one input. -/
def fnExactMownByWrong : ChangeSpec := { name := "fnExactMownBy", fn := fun _ => fun
  | [d1, d2, d3] => { results := [.lit (.bool false)], args := [d1, d2, d3] }
  | _ => none }
def FnExactMownByWrongFalsely : Prop := fnExactMownByRow.holds Try.pinned (OpenSpec.ofChange fnExactMownByWrong)

/-- 'laws.FnExactMostVisited': WHATEVER THE INPUT: true; the input reads as it did. -/
def fnExactMostVisitedSpec : ChangeSpec := { name := "fnExactMostVisited", fn := fun _ => fun
  | [d1, d2, d3, d4] => { results := [.lit (.bool true)], args := [d1, d2, d3, d4] }
  | _ => none }
def fnExactMostVisitedRow : OpenClaim := { program := "yteghgkdakhelfaa", sum := "04a9fcceadd6d64bbfac52b94415b950d2cc5f3e6e5b65d2d4ddfdd134f11b76", func := "loop.example/g01405/laws.FnExactMostVisited", spec := "fnExactMostVisited", unfollowed := true, recurses := true, plainKeys := false, apart := false }
def FnExactMostVisitedSaid : Prop := fnExactMostVisitedRow.holds Try.pinned (OpenSpec.ofChange fnExactMostVisitedSpec)

/-- ITS FALSE NEIGHBOUR: 'it returns false'. Refute it at one input. -/
def fnExactMostVisitedWrong : ChangeSpec := { name := "fnExactMostVisited", fn := fun _ => fun
  | [d1, d2, d3, d4] => { results := [.lit (.bool false)], args := [d1, d2, d3, d4] }
  | _ => none }
def FnExactMostVisitedWrongFalsely : Prop := fnExactMostVisitedRow.holds Try.pinned (OpenSpec.ofChange fnExactMostVisitedWrong)

/-- 'laws.FnExactBestTrap': WHATEVER THE INPUT: true; the input reads as it did. -/
def fnExactBestTrapSpec : ChangeSpec := { name := "fnExactBestTrap", fn := fun _ => fun
  | [d1, d2, d3] => { results := [.lit (.bool true)], args := [d1, d2, d3] }
  | _ => none }
def fnExactBestTrapRow : OpenClaim := { program := "yteghgkdakhelfaa", sum := "04a9fcceadd6d64bbfac52b94415b950d2cc5f3e6e5b65d2d4ddfdd134f11b76", func := "loop.example/g01405/laws.FnExactBestTrap", spec := "fnExactBestTrap", unfollowed := true, recurses := true, plainKeys := false, apart := false }
def FnExactBestTrapSaid : Prop := fnExactBestTrapRow.holds Try.pinned (OpenSpec.ofChange fnExactBestTrapSpec)

/-- ITS FALSE NEIGHBOUR: 'it returns false'. Refute it at one input. -/
def fnExactBestTrapWrong : ChangeSpec := { name := "fnExactBestTrap", fn := fun _ => fun
  | [d1, d2, d3] => { results := [.lit (.bool false)], args := [d1, d2, d3] }
  | _ => none }
def FnExactBestTrapWrongFalsely : Prop := fnExactBestTrapRow.holds Try.pinned (OpenSpec.ofChange fnExactBestTrapWrong)

/-- 'laws.FnExactEvenLevels': WHATEVER THE INPUT: true; the input reads as it did. -/
def fnExactEvenLevelsSpec : ChangeSpec := { name := "fnExactEvenLevels", fn := fun _ => fun
  | [d1, d2] => { results := [.lit (.bool true)], args := [d1, d2] }
  | _ => none }
def fnExactEvenLevelsRow : OpenClaim := { program := "yteghgkdakhelfaa", sum := "04a9fcceadd6d64bbfac52b94415b950d2cc5f3e6e5b65d2d4ddfdd134f11b76", func := "loop.example/g01405/laws.FnExactEvenLevels", spec := "fnExactEvenLevels", unfollowed := true, recurses := true, plainKeys := false, apart := false }
def FnExactEvenLevelsSaid : Prop := fnExactEvenLevelsRow.holds Try.pinned (OpenSpec.ofChange fnExactEvenLevelsSpec)

/-- ITS FALSE NEIGHBOUR: 'it returns false'. Refute it at one input. -/
def fnExactEvenLevelsWrong : ChangeSpec := { name := "fnExactEvenLevels", fn := fun _ => fun
  | [d1, d2] => { results := [.lit (.bool false)], args := [d1, d2] }
  | _ => none }
def FnExactEvenLevelsWrongFalsely : Prop := fnExactEvenLevelsRow.holds Try.pinned (OpenSpec.ofChange fnExactEvenLevelsWrong)

/- THE SECOND FORM. 'bulk': how many values and letters a reading holds, each counted each time it is reached (what is shared counts as often as it is met; a slice's spare places count too). A statement '..UptoSaid' is the law's where the arguments, and the package variables that the reading takes, are together of bulk at most 1048576: NARROWER than '..Said'. Prove '..Said' where nothing that the law and all that it calls make is longer than what came in: it says more and counts as full. Else prove '..UptoSaid'. A law counts once. -/
mutual
def uptoBulk {H : Type} : DataW H → Nat
  | .lit (.string bytes) => bytes.length + 1
  | .lit _ => 1
  | .nil => 1
  | .ptr d => uptoBulk d + 1
  | .slice elems spare => uptoBulkAll elems + uptoBulkAll spare + 1
  | .agg parts => uptoBulkAll parts + 1
  | .iface _ d => uptoBulk d + 1
  | .map entries => uptoBulkEntries entries + 1
  | .held _ => 1
def uptoBulkAll {H : Type} : List (DataW H) → Nat
  | [] => 0
  | d :: r => uptoBulk d + uptoBulkAll r
def uptoBulkEntries {H : Type} : List (Lit × DataW H) → Nat
  | [] => 0
  | x :: r => uptoBulkEntry x + uptoBulkEntries r
def uptoBulkEntry {H : Type} : Lit × DataW H → Nat
  | (.string bytes, d) => bytes.length + uptoBulk d + 1
  | (_, d) => uptoBulk d + 1
 end
def uptoSmall : (H : Type) → List (DataW H) → Bool := fun _ ds => decide (uptoBulkAll ds ≤ 1048576)
def OpenSpec.upto (s : _root_.Go.ChangeSpec) : _root_.Go.OpenSpec := { _root_.Go.OpenSpec.ofChange s with cond := some uptoSmall }

/-- 'laws.FnExactLeftBy', WHERE WHAT IT READS IS OF BULK AT MOST 1048576: true; the input reads as it did. -/
def fnExactLeftByUptoRow : OpenClaim := { program := "yteghgkdakhelfaa", sum := "04a9fcceadd6d64bbfac52b94415b950d2cc5f3e6e5b65d2d4ddfdd134f11b76", func := "loop.example/g01405/laws.FnExactLeftBy", spec := "fnExactLeftBy", inPlace := ["internal/bytealg.IndexByteString"], unfollowed := true, recurses := true, plainKeys := false, apart := false, narrowed := true }
def FnExactLeftByUptoSaid : Prop := fnExactLeftByUptoRow.holds Try.pinned (OpenSpec.upto fnExactLeftBySpec)

/-- 'laws.FnExactMownBy', WHERE WHAT IT READS IS OF BULK AT MOST 1048576: true; the input reads as it did. -/
def fnExactMownByUptoRow : OpenClaim := { program := "yteghgkdakhelfaa", sum := "04a9fcceadd6d64bbfac52b94415b950d2cc5f3e6e5b65d2d4ddfdd134f11b76", func := "loop.example/g01405/laws.FnExactMownBy", spec := "fnExactMownBy", inPlace := ["internal/bytealg.IndexByteString"], unfollowed := true, recurses := true, plainKeys := false, apart := false, narrowed := true }
def FnExactMownByUptoSaid : Prop := fnExactMownByUptoRow.holds Try.pinned (OpenSpec.upto fnExactMownBySpec)

/-- 'laws.FnExactMostVisited', WHERE WHAT IT READS IS OF BULK AT MOST 1048576: true; the input reads as it did. -/
def fnExactMostVisitedUptoRow : OpenClaim := { program := "yteghgkdakhelfaa", sum := "04a9fcceadd6d64bbfac52b94415b950d2cc5f3e6e5b65d2d4ddfdd134f11b76", func := "loop.example/g01405/laws.FnExactMostVisited", spec := "fnExactMostVisited", unfollowed := true, recurses := true, plainKeys := false, apart := false, narrowed := true }
def FnExactMostVisitedUptoSaid : Prop := fnExactMostVisitedUptoRow.holds Try.pinned (OpenSpec.upto fnExactMostVisitedSpec)

/-- 'laws.FnExactBestTrap', WHERE WHAT IT READS IS OF BULK AT MOST 1048576: true; the input reads as it did. -/
def fnExactBestTrapUptoRow : OpenClaim := { program := "yteghgkdakhelfaa", sum := "04a9fcceadd6d64bbfac52b94415b950d2cc5f3e6e5b65d2d4ddfdd134f11b76", func := "loop.example/g01405/laws.FnExactBestTrap", spec := "fnExactBestTrap", unfollowed := true, recurses := true, plainKeys := false, apart := false, narrowed := true }
def FnExactBestTrapUptoSaid : Prop := fnExactBestTrapUptoRow.holds Try.pinned (OpenSpec.upto fnExactBestTrapSpec)

/-- 'laws.FnExactEvenLevels', WHERE WHAT IT READS IS OF BULK AT MOST 1048576: true; the input reads as it did. -/
def fnExactEvenLevelsUptoRow : OpenClaim := { program := "yteghgkdakhelfaa", sum := "04a9fcceadd6d64bbfac52b94415b950d2cc5f3e6e5b65d2d4ddfdd134f11b76", func := "loop.example/g01405/laws.FnExactEvenLevels", spec := "fnExactEvenLevels", unfollowed := true, recurses := true, plainKeys := false, apart := false, narrowed := true }
def FnExactEvenLevelsUptoSaid : Prop := fnExactEvenLevelsUptoRow.holds Try.pinned (OpenSpec.upto fnExactEvenLevelsSpec)

end Rows
end Go.Proofs.Yteghgkdakhelfaa
