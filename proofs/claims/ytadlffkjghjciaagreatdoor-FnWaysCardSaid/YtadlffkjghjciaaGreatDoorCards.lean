/-
  DERIVED. GIVEN WITH THE SEED: THE CARDS: each row of YtadlffkjghjciaaGreatDoorRows.lean that lists a variable, with what it lists TIED to the program's text (the seventh form; the later family's looks); each row that meets fmt, with fmt's text TOLD by the authors' own Lean function (tested against real Go, not proved from fmt's source: count such statements apart). THE CARD IS WHAT COUNTS. Prove the row's statement (the work); the ties are given (YtadlffkjghjciaaGreatDoorTie.lean); close each card by the builder's one call (the guide's Derived/Test/ToyasCard.lean, 'card_holds'). Laid BY PROGRAM, IN A SANDBOX (cutbox-door.mjs). By AI agents, Wed Nov 11 2026. No macro, syntax, notation, axiom, sorry.
-/
import Derived.Test.YtadlffkjghjciaaGreatDoorRows
import GoSem.ClaimSeven
namespace Go.Proofs.YtadlffkjghjciaaGreatDoor
namespace Rows

/-- THE TIED CARD OF 'laws.FnWays'. -/
def fnWaysCard : Claim7 := { stood := { row := fnWaysRow, standIns := [], harness := (true, "01ec4ed573a3ecb66d836f5bff2d417241b77f72e82939d28fdfe9632cd649da"), looks := false }, kinds := [], alts := [], laidByText := true, laidKinds := [.data, .pinned], laidTests := true, laidLooks := .later }
def FnWaysCardSaid : Prop := Claim7.holds Tryz.pinned (.plain (OpenSpec.ofChange fnWaysSpec)) fnWaysCard

/-- THE SECOND FORM's CARD OF 'laws.FnWays'. -/
def fnWaysUptoCard : Claim7 := { stood := { row := fnWaysUptoRow, standIns := [], harness := (true, "01ec4ed573a3ecb66d836f5bff2d417241b77f72e82939d28fdfe9632cd649da"), looks := false }, kinds := [], alts := [], laidByText := true, laidKinds := [.data, .pinned], laidTests := true, laidLooks := .later }
def FnWaysUptoCardSaid : Prop := Claim7.holds Tryz.pinned (.plain (OpenSpec.upto fnWaysSpec)) fnWaysUptoCard
end Rows
end Go.Proofs.YtadlffkjghjciaaGreatDoor
