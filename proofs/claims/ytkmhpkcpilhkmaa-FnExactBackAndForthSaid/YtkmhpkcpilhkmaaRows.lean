/-
  No cell of these rows narrows 'for every input' (looked for: loops, veiled, ifaces, maps, wideKeys, modest, calm, conditions, laid).
  DERIVED. THE GIVEN ROWS OF THIS SEAT. 12 by the template 'for every input the law returns true; each argument reads behind the call as it read before'; 0 by the template 'total and deterministic' (their statements: YtkmhpkcpilhkmaaTotals.lean).
  GIVEN WITH THE SEED: the statements are not yours to turn. If you find one false, say at which input.
  Laid BY PROGRAM, IN A SANDBOX (cutbox-rows.mjs): the forced cells as the released guide's own fill.sh prints them over the translation 5319cb2459ba860c… (all of the seat's roots in one cut). By AI agents, Wed Nov 11 2026. No macro, syntax, notation, axiom, sorry.
-/
import Derived.Test.YtkmhpkcpilhkmaaChecked
import GoSem.Claim
import GoSem.ClaimJoined
import GoSem.ClaimMapViews
import Derived.JoinedTies
import Derived.KernelRfl
namespace Go.Proofs.Ytkmhpkcpilhkmaa
/- THE CELL 'sum', in the pinned program and in every row, IS THE sha256 OF THE DUMP (.gsa) THAT YtkmhpkcpilhkmaaProg.lean LOADS. Nothing in Lean hashes anything: it is a label: what it is worth is what the hold of that sum in a sandbox is worth. -/
noncomputable def Try.pinned : Pinned := { name := "ytkmhpkcpilhkmaa", sum := "5319cb2459ba860c75b343ddacee189224f458c04ff93c4d0d6535aa39523374", checked := Try.checked }
namespace Rows
def none {H : Type} : Left H := { results := [], args := [] }

/-- 'laws.FnExactNightOf': WHATEVER THE INPUT: true; the input reads as it did. -/
def fnExactNightOfSpec : ChangeSpec := { name := "fnExactNightOf", fn := fun _ => fun
  | [d1, d2, d3, d4] => { results := [.lit (.bool true)], args := [d1, d2, d3, d4] }
  | _ => none }
def fnExactNightOfRow : OpenClaim := { program := "ytkmhpkcpilhkmaa", sum := "5319cb2459ba860c75b343ddacee189224f458c04ff93c4d0d6535aa39523374", func := "loop.example/g01405/laws.FnExactNightOf", spec := "fnExactNightOf", unfollowed := true, recurses := true, apart := false }
def FnExactNightOfSaid : Prop := fnExactNightOfRow.holds Try.pinned (OpenSpec.ofChange fnExactNightOfSpec)

/-- ITS FALSE NEIGHBOUR: 'it returns false'. Refute it at one input. -/
def fnExactNightOfWrong : ChangeSpec := { name := "fnExactNightOf", fn := fun _ => fun
  | [d1, d2, d3, d4] => { results := [.lit (.bool false)], args := [d1, d2, d3, d4] }
  | _ => none }
def FnExactNightOfWrongFalsely : Prop := fnExactNightOfRow.holds Try.pinned (OpenSpec.ofChange fnExactNightOfWrong)

/-- 'laws.FnExactMownTimes': WHATEVER THE INPUT: true; the input reads as it did. -/
def fnExactMownTimesSpec : ChangeSpec := { name := "fnExactMownTimes", fn := fun _ => fun
  | [d1, d2, d3] => { results := [.lit (.bool true)], args := [d1, d2, d3] }
  | _ => none }
def fnExactMownTimesRow : OpenClaim := { program := "ytkmhpkcpilhkmaa", sum := "5319cb2459ba860c75b343ddacee189224f458c04ff93c4d0d6535aa39523374", func := "loop.example/g01405/laws.FnExactMownTimes", spec := "fnExactMownTimes", inPlace := ["internal/bytealg.IndexByteString"], unfollowed := true, recurses := true, apart := false }
def FnExactMownTimesSaid : Prop := fnExactMownTimesRow.holds Try.pinned (OpenSpec.ofChange fnExactMownTimesSpec)

/-- ITS FALSE NEIGHBOUR: 'it returns false'. Refute it at one input. -/
def fnExactMownTimesWrong : ChangeSpec := { name := "fnExactMownTimes", fn := fun _ => fun
  | [d1, d2, d3] => { results := [.lit (.bool false)], args := [d1, d2, d3] }
  | _ => none }
def FnExactMownTimesWrongFalsely : Prop := fnExactMownTimesRow.holds Try.pinned (OpenSpec.ofChange fnExactMownTimesWrong)

/-- 'laws.FnExactBackAndForth': WHATEVER THE INPUT: true; the input reads as it did. -/
def fnExactBackAndForthSpec : ChangeSpec := { name := "fnExactBackAndForth", fn := fun _ => fun
  | [d] => { results := [.lit (.bool true)], args := [d] }
  | _ => none }
def fnExactBackAndForthRow : OpenClaim := { program := "ytkmhpkcpilhkmaa", sum := "5319cb2459ba860c75b343ddacee189224f458c04ff93c4d0d6535aa39523374", func := "loop.example/g01405/laws.FnExactBackAndForth", spec := "fnExactBackAndForth", inPlace := ["internal/abi.NoEscape", "internal/bytealg.MakeNoZero"], unfollowed := true, recurses := true, apart := false }
def FnExactBackAndForthSaid : Prop := fnExactBackAndForthRow.holds Try.pinned (OpenSpec.ofChange fnExactBackAndForthSpec)

/-- ITS FALSE NEIGHBOUR: 'it returns false'. Refute it at one input. -/
def fnExactBackAndForthWrong : ChangeSpec := { name := "fnExactBackAndForth", fn := fun _ => fun
  | [d] => { results := [.lit (.bool false)], args := [d] }
  | _ => none }
def FnExactBackAndForthWrongFalsely : Prop := fnExactBackAndForthRow.holds Try.pinned (OpenSpec.ofChange fnExactBackAndForthWrong)

/-- 'laws.FnExactLeastBattery': WHATEVER THE INPUT: true; the input reads as it did. -/
def fnExactLeastBatterySpec : ChangeSpec := { name := "fnExactLeastBattery", fn := fun _ => fun
  | [d1, d2] => { results := [.lit (.bool true)], args := [d1, d2] }
  | _ => none }
def fnExactLeastBatteryRow : OpenClaim := { program := "ytkmhpkcpilhkmaa", sum := "5319cb2459ba860c75b343ddacee189224f458c04ff93c4d0d6535aa39523374", func := "loop.example/g01405/laws.FnExactLeastBattery", spec := "fnExactLeastBattery", unfollowed := true, recurses := true, apart := false }
def FnExactLeastBatterySaid : Prop := fnExactLeastBatteryRow.holds Try.pinned (OpenSpec.ofChange fnExactLeastBatterySpec)

/-- ITS FALSE NEIGHBOUR: 'it returns false'. Refute it at one input. -/
def fnExactLeastBatteryWrong : ChangeSpec := { name := "fnExactLeastBattery", fn := fun _ => fun
  | [d1, d2] => { results := [.lit (.bool false)], args := [d1, d2] }
  | _ => none }
def FnExactLeastBatteryWrongFalsely : Prop := fnExactLeastBatteryRow.holds Try.pinned (OpenSpec.ofChange fnExactLeastBatteryWrong)

/-- 'laws.FnExactLeastDelay': WHATEVER THE INPUT: true; the input reads as it did. -/
def fnExactLeastDelaySpec : ChangeSpec := { name := "fnExactLeastDelay", fn := fun _ => fun
  | [d1, d2, d3] => { results := [.lit (.bool true)], args := [d1, d2, d3] }
  | _ => none }
def fnExactLeastDelayRow : OpenClaim := { program := "ytkmhpkcpilhkmaa", sum := "5319cb2459ba860c75b343ddacee189224f458c04ff93c4d0d6535aa39523374", func := "loop.example/g01405/laws.FnExactLeastDelay", spec := "fnExactLeastDelay", unfollowed := true, recurses := true, apart := false }
def FnExactLeastDelaySaid : Prop := fnExactLeastDelayRow.holds Try.pinned (OpenSpec.ofChange fnExactLeastDelaySpec)

/-- ITS FALSE NEIGHBOUR: 'it returns false'. Refute it at one input. -/
def fnExactLeastDelayWrong : ChangeSpec := { name := "fnExactLeastDelay", fn := fun _ => fun
  | [d1, d2, d3] => { results := [.lit (.bool false)], args := [d1, d2, d3] }
  | _ => none }
def FnExactLeastDelayWrongFalsely : Prop := fnExactLeastDelayRow.holds Try.pinned (OpenSpec.ofChange fnExactLeastDelayWrong)

/-- 'laws.FnExactBackHome': WHATEVER THE INPUT: true; the input reads as it did. -/
def fnExactBackHomeSpec : ChangeSpec := { name := "fnExactBackHome", fn := fun _ => fun
  | [d1, d2, d3] => { results := [.lit (.bool true)], args := [d1, d2, d3] }
  | _ => none }
def fnExactBackHomeRow : OpenClaim := { program := "ytkmhpkcpilhkmaa", sum := "5319cb2459ba860c75b343ddacee189224f458c04ff93c4d0d6535aa39523374", func := "loop.example/g01405/laws.FnExactBackHome", spec := "fnExactBackHome", unfollowed := true, recurses := true, apart := false }
def FnExactBackHomeSaid : Prop := fnExactBackHomeRow.holds Try.pinned (OpenSpec.ofChange fnExactBackHomeSpec)

/-- ITS FALSE NEIGHBOUR: 'it returns false'. Refute it at one input. -/
def fnExactBackHomeWrong : ChangeSpec := { name := "fnExactBackHome", fn := fun _ => fun
  | [d1, d2, d3] => { results := [.lit (.bool false)], args := [d1, d2, d3] }
  | _ => none }
def FnExactBackHomeWrongFalsely : Prop := fnExactBackHomeRow.holds Try.pinned (OpenSpec.ofChange fnExactBackHomeWrong)

/-- 'laws.FnExactMeetCell': WHATEVER THE INPUT: true; the input reads as it did. -/
def fnExactMeetCellSpec : ChangeSpec := { name := "fnExactMeetCell", fn := fun _ => fun
  | [d1, d2, d3] => { results := [.lit (.bool true)], args := [d1, d2, d3] }
  | _ => none }
def fnExactMeetCellRow : OpenClaim := { program := "ytkmhpkcpilhkmaa", sum := "5319cb2459ba860c75b343ddacee189224f458c04ff93c4d0d6535aa39523374", func := "loop.example/g01405/laws.FnExactMeetCell", spec := "fnExactMeetCell", unfollowed := true, recurses := true, apart := false }
def FnExactMeetCellSaid : Prop := fnExactMeetCellRow.holds Try.pinned (OpenSpec.ofChange fnExactMeetCellSpec)

/-- ITS FALSE NEIGHBOUR: 'it returns false'. Refute it at one input. -/
def fnExactMeetCellWrong : ChangeSpec := { name := "fnExactMeetCell", fn := fun _ => fun
  | [d1, d2, d3] => { results := [.lit (.bool false)], args := [d1, d2, d3] }
  | _ => none }
def FnExactMeetCellWrongFalsely : Prop := fnExactMeetCellRow.holds Try.pinned (OpenSpec.ofChange fnExactMeetCellWrong)

/-- 'laws.FnExactIsWhole': WHATEVER THE INPUT: true; the input reads as it did. -/
def fnExactIsWholeSpec : ChangeSpec := { name := "fnExactIsWhole", fn := fun _ => fun
  | [d1, d2, d3] => { results := [.lit (.bool true)], args := [d1, d2, d3] }
  | _ => none }
def fnExactIsWholeRow : OpenClaim := { program := "ytkmhpkcpilhkmaa", sum := "5319cb2459ba860c75b343ddacee189224f458c04ff93c4d0d6535aa39523374", func := "loop.example/g01405/laws.FnExactIsWhole", spec := "fnExactIsWhole", inPlace := ["internal/bytealg.IndexByteString"], unfollowed := true, recurses := true, apart := false }
def FnExactIsWholeSaid : Prop := fnExactIsWholeRow.holds Try.pinned (OpenSpec.ofChange fnExactIsWholeSpec)

/-- ITS FALSE NEIGHBOUR: 'it returns false'. Refute it at one input. -/
def fnExactIsWholeWrong : ChangeSpec := { name := "fnExactIsWhole", fn := fun _ => fun
  | [d1, d2, d3] => { results := [.lit (.bool false)], args := [d1, d2, d3] }
  | _ => none }
def FnExactIsWholeWrongFalsely : Prop := fnExactIsWholeRow.holds Try.pinned (OpenSpec.ofChange fnExactIsWholeWrong)

/-- 'laws.FnExactFirstWhole': WHATEVER THE INPUT: true; the input reads as it did. -/
def fnExactFirstWholeSpec : ChangeSpec := { name := "fnExactFirstWhole", fn := fun _ => fun
  | [d1, d2, d3] => { results := [.lit (.bool true)], args := [d1, d2, d3] }
  | _ => none }
def fnExactFirstWholeRow : OpenClaim := { program := "ytkmhpkcpilhkmaa", sum := "5319cb2459ba860c75b343ddacee189224f458c04ff93c4d0d6535aa39523374", func := "loop.example/g01405/laws.FnExactFirstWhole", spec := "fnExactFirstWhole", inPlace := ["internal/bytealg.IndexByteString"], unfollowed := true, recurses := true, apart := false }
def FnExactFirstWholeSaid : Prop := fnExactFirstWholeRow.holds Try.pinned (OpenSpec.ofChange fnExactFirstWholeSpec)

/-- ITS FALSE NEIGHBOUR: 'it returns false'. Refute it at one input. -/
def fnExactFirstWholeWrong : ChangeSpec := { name := "fnExactFirstWhole", fn := fun _ => fun
  | [d1, d2, d3] => { results := [.lit (.bool false)], args := [d1, d2, d3] }
  | _ => none }
def FnExactFirstWholeWrongFalsely : Prop := fnExactFirstWholeRow.holds Try.pinned (OpenSpec.ofChange fnExactFirstWholeWrong)

/-- 'laws.FnExactDepthOf': WHATEVER THE INPUT: true; the input reads as it did. -/
def fnExactDepthOfSpec : ChangeSpec := { name := "fnExactDepthOf", fn := fun _ => fun
  | [d1, d2] => { results := [.lit (.bool true)], args := [d1, d2] }
  | _ => none }
def fnExactDepthOfRow : OpenClaim := { program := "ytkmhpkcpilhkmaa", sum := "5319cb2459ba860c75b343ddacee189224f458c04ff93c4d0d6535aa39523374", func := "loop.example/g01405/laws.FnExactDepthOf", spec := "fnExactDepthOf", unfollowed := true, recurses := true, apart := false }
def FnExactDepthOfSaid : Prop := fnExactDepthOfRow.holds Try.pinned (OpenSpec.ofChange fnExactDepthOfSpec)

/-- ITS FALSE NEIGHBOUR: 'it returns false'. Refute it at one input. -/
def fnExactDepthOfWrong : ChangeSpec := { name := "fnExactDepthOf", fn := fun _ => fun
  | [d1, d2] => { results := [.lit (.bool false)], args := [d1, d2] }
  | _ => none }
def FnExactDepthOfWrongFalsely : Prop := fnExactDepthOfRow.holds Try.pinned (OpenSpec.ofChange fnExactDepthOfWrong)

/-- 'laws.FnExactMoleNights': WHATEVER THE INPUT: true; the input reads as it did. -/
def fnExactMoleNightsSpec : ChangeSpec := { name := "fnExactMoleNights", fn := fun _ => fun
  | [d1, d2, d3, d4] => { results := [.lit (.bool true)], args := [d1, d2, d3, d4] }
  | _ => none }
def fnExactMoleNightsRow : OpenClaim := { program := "ytkmhpkcpilhkmaa", sum := "5319cb2459ba860c75b343ddacee189224f458c04ff93c4d0d6535aa39523374", func := "loop.example/g01405/laws.FnExactMoleNights", spec := "fnExactMoleNights", unfollowed := true, recurses := true, apart := false }
def FnExactMoleNightsSaid : Prop := fnExactMoleNightsRow.holds Try.pinned (OpenSpec.ofChange fnExactMoleNightsSpec)

/-- ITS FALSE NEIGHBOUR: 'it returns false'. Refute it at one input. -/
def fnExactMoleNightsWrong : ChangeSpec := { name := "fnExactMoleNights", fn := fun _ => fun
  | [d1, d2, d3, d4] => { results := [.lit (.bool false)], args := [d1, d2, d3, d4] }
  | _ => none }
def FnExactMoleNightsWrongFalsely : Prop := fnExactMoleNightsRow.holds Try.pinned (OpenSpec.ofChange fnExactMoleNightsWrong)

/-- 'laws.FnExactReachOf': WHATEVER THE INPUT: true; the input reads as it did. -/
def fnExactReachOfSpec : ChangeSpec := { name := "fnExactReachOf", fn := fun _ => fun
  | [d1, d2, d3] => { results := [.lit (.bool true)], args := [d1, d2, d3] }
  | _ => none }
def fnExactReachOfRow : OpenClaim := { program := "ytkmhpkcpilhkmaa", sum := "5319cb2459ba860c75b343ddacee189224f458c04ff93c4d0d6535aa39523374", func := "loop.example/g01405/laws.FnExactReachOf", spec := "fnExactReachOf", unfollowed := true, recurses := true, apart := false }
def FnExactReachOfSaid : Prop := fnExactReachOfRow.holds Try.pinned (OpenSpec.ofChange fnExactReachOfSpec)

/-- ITS FALSE NEIGHBOUR: 'it returns false'. Refute it at one input. -/
def fnExactReachOfWrong : ChangeSpec := { name := "fnExactReachOf", fn := fun _ => fun
  | [d1, d2, d3] => { results := [.lit (.bool false)], args := [d1, d2, d3] }
  | _ => none }
def FnExactReachOfWrongFalsely : Prop := fnExactReachOfRow.holds Try.pinned (OpenSpec.ofChange fnExactReachOfWrong)

/- THE SECOND FORM. 'bulk': how many values and letters a reading holds, each counted each time it is reached (what is shared counts as often as it is met; a slice's spare places count too). A statement '..UptoSaid' is the law's where the arguments, and the package variables that the reading takes, are together of bulk at most 1048576: NARROWER than '..Said'. Prove '..Said' where nothing that the law and all that it calls make is longer than what came in: it says more and counts as full. Else prove '..UptoSaid'. A law counts once. -/
mutual
def uptoBulk {H : Type} : DataW H → Nat
  | .lit (.string bytes) => bytes.length + 1
  | .lit _ => 1
  | .nil => 1
  | .ptr d => uptoBulk d + 1
  | .slice elems spare => uptoBulkAll elems + uptoBulkAll spare + 1
  | .agg parts => uptoBulkAll parts + 1
  | .iface _ d => uptoBulk d + 1
  | .map entries => uptoBulkEntries entries + 1
  | .held _ => 1
def uptoBulkAll {H : Type} : List (DataW H) → Nat
  | [] => 0
  | d :: r => uptoBulk d + uptoBulkAll r
def uptoBulkEntries {H : Type} : List (Lit × DataW H) → Nat
  | [] => 0
  | x :: r => uptoBulkEntry x + uptoBulkEntries r
def uptoBulkEntry {H : Type} : Lit × DataW H → Nat
  | (.string bytes, d) => bytes.length + uptoBulk d + 1
  | (_, d) => uptoBulk d + 1
 end
def uptoSmall : (H : Type) → List (DataW H) → Bool := fun _ ds => decide (uptoBulkAll ds ≤ 1048576)
def OpenSpec.upto (s : _root_.Go.ChangeSpec) : _root_.Go.OpenSpec := { _root_.Go.OpenSpec.ofChange s with cond := some uptoSmall }

/-- 'laws.FnExactNightOf', WHERE WHAT IT READS IS OF BULK AT MOST 1048576: true; the input reads as it did. -/
def fnExactNightOfUptoRow : OpenClaim := { program := "ytkmhpkcpilhkmaa", sum := "5319cb2459ba860c75b343ddacee189224f458c04ff93c4d0d6535aa39523374", func := "loop.example/g01405/laws.FnExactNightOf", spec := "fnExactNightOf", unfollowed := true, recurses := true, apart := false, narrowed := true }
def FnExactNightOfUptoSaid : Prop := fnExactNightOfUptoRow.holds Try.pinned (OpenSpec.upto fnExactNightOfSpec)

/-- 'laws.FnExactMownTimes', WHERE WHAT IT READS IS OF BULK AT MOST 1048576: true; the input reads as it did. -/
def fnExactMownTimesUptoRow : OpenClaim := { program := "ytkmhpkcpilhkmaa", sum := "5319cb2459ba860c75b343ddacee189224f458c04ff93c4d0d6535aa39523374", func := "loop.example/g01405/laws.FnExactMownTimes", spec := "fnExactMownTimes", inPlace := ["internal/bytealg.IndexByteString"], unfollowed := true, recurses := true, apart := false, narrowed := true }
def FnExactMownTimesUptoSaid : Prop := fnExactMownTimesUptoRow.holds Try.pinned (OpenSpec.upto fnExactMownTimesSpec)

/-- 'laws.FnExactBackAndForth', WHERE WHAT IT READS IS OF BULK AT MOST 1048576: true; the input reads as it did. -/
def fnExactBackAndForthUptoRow : OpenClaim := { program := "ytkmhpkcpilhkmaa", sum := "5319cb2459ba860c75b343ddacee189224f458c04ff93c4d0d6535aa39523374", func := "loop.example/g01405/laws.FnExactBackAndForth", spec := "fnExactBackAndForth", inPlace := ["internal/abi.NoEscape", "internal/bytealg.MakeNoZero"], unfollowed := true, recurses := true, apart := false, narrowed := true }
def FnExactBackAndForthUptoSaid : Prop := fnExactBackAndForthUptoRow.holds Try.pinned (OpenSpec.upto fnExactBackAndForthSpec)

/-- 'laws.FnExactLeastBattery', WHERE WHAT IT READS IS OF BULK AT MOST 1048576: true; the input reads as it did. -/
def fnExactLeastBatteryUptoRow : OpenClaim := { program := "ytkmhpkcpilhkmaa", sum := "5319cb2459ba860c75b343ddacee189224f458c04ff93c4d0d6535aa39523374", func := "loop.example/g01405/laws.FnExactLeastBattery", spec := "fnExactLeastBattery", unfollowed := true, recurses := true, apart := false, narrowed := true }
def FnExactLeastBatteryUptoSaid : Prop := fnExactLeastBatteryUptoRow.holds Try.pinned (OpenSpec.upto fnExactLeastBatterySpec)

/-- 'laws.FnExactLeastDelay', WHERE WHAT IT READS IS OF BULK AT MOST 1048576: true; the input reads as it did. -/
def fnExactLeastDelayUptoRow : OpenClaim := { program := "ytkmhpkcpilhkmaa", sum := "5319cb2459ba860c75b343ddacee189224f458c04ff93c4d0d6535aa39523374", func := "loop.example/g01405/laws.FnExactLeastDelay", spec := "fnExactLeastDelay", unfollowed := true, recurses := true, apart := false, narrowed := true }
def FnExactLeastDelayUptoSaid : Prop := fnExactLeastDelayUptoRow.holds Try.pinned (OpenSpec.upto fnExactLeastDelaySpec)

/-- 'laws.FnExactBackHome', WHERE WHAT IT READS IS OF BULK AT MOST 1048576: true; the input reads as it did. -/
def fnExactBackHomeUptoRow : OpenClaim := { program := "ytkmhpkcpilhkmaa", sum := "5319cb2459ba860c75b343ddacee189224f458c04ff93c4d0d6535aa39523374", func := "loop.example/g01405/laws.FnExactBackHome", spec := "fnExactBackHome", unfollowed := true, recurses := true, apart := false, narrowed := true }
def FnExactBackHomeUptoSaid : Prop := fnExactBackHomeUptoRow.holds Try.pinned (OpenSpec.upto fnExactBackHomeSpec)

/-- 'laws.FnExactMeetCell', WHERE WHAT IT READS IS OF BULK AT MOST 1048576: true; the input reads as it did. -/
def fnExactMeetCellUptoRow : OpenClaim := { program := "ytkmhpkcpilhkmaa", sum := "5319cb2459ba860c75b343ddacee189224f458c04ff93c4d0d6535aa39523374", func := "loop.example/g01405/laws.FnExactMeetCell", spec := "fnExactMeetCell", unfollowed := true, recurses := true, apart := false, narrowed := true }
def FnExactMeetCellUptoSaid : Prop := fnExactMeetCellUptoRow.holds Try.pinned (OpenSpec.upto fnExactMeetCellSpec)

/-- 'laws.FnExactIsWhole', WHERE WHAT IT READS IS OF BULK AT MOST 1048576: true; the input reads as it did. -/
def fnExactIsWholeUptoRow : OpenClaim := { program := "ytkmhpkcpilhkmaa", sum := "5319cb2459ba860c75b343ddacee189224f458c04ff93c4d0d6535aa39523374", func := "loop.example/g01405/laws.FnExactIsWhole", spec := "fnExactIsWhole", inPlace := ["internal/bytealg.IndexByteString"], unfollowed := true, recurses := true, apart := false, narrowed := true }
def FnExactIsWholeUptoSaid : Prop := fnExactIsWholeUptoRow.holds Try.pinned (OpenSpec.upto fnExactIsWholeSpec)

/-- 'laws.FnExactFirstWhole', WHERE WHAT IT READS IS OF BULK AT MOST 1048576: true; the input reads as it did. -/
def fnExactFirstWholeUptoRow : OpenClaim := { program := "ytkmhpkcpilhkmaa", sum := "5319cb2459ba860c75b343ddacee189224f458c04ff93c4d0d6535aa39523374", func := "loop.example/g01405/laws.FnExactFirstWhole", spec := "fnExactFirstWhole", inPlace := ["internal/bytealg.IndexByteString"], unfollowed := true, recurses := true, apart := false, narrowed := true }
def FnExactFirstWholeUptoSaid : Prop := fnExactFirstWholeUptoRow.holds Try.pinned (OpenSpec.upto fnExactFirstWholeSpec)

/-- 'laws.FnExactDepthOf', WHERE WHAT IT READS IS OF BULK AT MOST 1048576: true; the input reads as it did. -/
def fnExactDepthOfUptoRow : OpenClaim := { program := "ytkmhpkcpilhkmaa", sum := "5319cb2459ba860c75b343ddacee189224f458c04ff93c4d0d6535aa39523374", func := "loop.example/g01405/laws.FnExactDepthOf", spec := "fnExactDepthOf", unfollowed := true, recurses := true, apart := false, narrowed := true }
def FnExactDepthOfUptoSaid : Prop := fnExactDepthOfUptoRow.holds Try.pinned (OpenSpec.upto fnExactDepthOfSpec)

/-- 'laws.FnExactMoleNights', WHERE WHAT IT READS IS OF BULK AT MOST 1048576: true; the input reads as it did. -/
def fnExactMoleNightsUptoRow : OpenClaim := { program := "ytkmhpkcpilhkmaa", sum := "5319cb2459ba860c75b343ddacee189224f458c04ff93c4d0d6535aa39523374", func := "loop.example/g01405/laws.FnExactMoleNights", spec := "fnExactMoleNights", unfollowed := true, recurses := true, apart := false, narrowed := true }
def FnExactMoleNightsUptoSaid : Prop := fnExactMoleNightsUptoRow.holds Try.pinned (OpenSpec.upto fnExactMoleNightsSpec)

/-- 'laws.FnExactReachOf', WHERE WHAT IT READS IS OF BULK AT MOST 1048576: true; the input reads as it did. -/
def fnExactReachOfUptoRow : OpenClaim := { program := "ytkmhpkcpilhkmaa", sum := "5319cb2459ba860c75b343ddacee189224f458c04ff93c4d0d6535aa39523374", func := "loop.example/g01405/laws.FnExactReachOf", spec := "fnExactReachOf", unfollowed := true, recurses := true, apart := false, narrowed := true }
def FnExactReachOfUptoSaid : Prop := fnExactReachOfUptoRow.holds Try.pinned (OpenSpec.upto fnExactReachOfSpec)

end Rows
end Go.Proofs.Ytkmhpkcpilhkmaa
