/-
  DERIVED. GIVEN WITH THE SEED: THE CARDS: each row of YtppmmeciihmnjaaDoorRows.lean that lists a variable, with what it lists TIED to the program's text (the seventh form; the later family's looks); each row that meets fmt, with fmt's text TOLD by the authors' own Lean function (tested against real Go, not proved from fmt's source: count such statements apart). THE CARD IS WHAT COUNTS. Prove the row's statement (the work); the ties are given (YtppmmeciihmnjaaDoorTie.lean); close each card by the builder's one call (the guide's Derived/Test/ToyasCard.lean, 'card_holds'). Laid BY PROGRAM, IN A SANDBOX (cutbox-door.mjs). By AI agents, Wed Nov 11 2026. No macro, syntax, notation, axiom, sorry.
-/
import Derived.Test.YtppmmeciihmnjaaDoorRows
import GoSem.ClaimSeven
namespace Go.Proofs.YtppmmeciihmnjaaDoor
namespace Rows

/-- THE TIED CARD OF 'laws.FnExactReadWeeds'. -/
def fnExactReadWeedsCard : Claim7 := { stood := { row := fnExactReadWeedsRow, standIns := [], harness := (true, "ede2ae40d4148bf46e065850b90296dcc2dfb70e16e56bad46174f0c77a1aa61"), looks := true }, kinds := [], alts := [], laidByText := true, laidKinds := [.data, .pinned], laidTests := true, laidLooks := .later }
def FnExactReadWeedsCardSaid : Prop := Claim7.holds Tryd.pinned (.plain (OpenSpec.ofChange fnExactReadWeedsSpec)) fnExactReadWeedsCard

/-- THE TIED CARD OF 'laws.FnExactBitWalk'. -/
def fnExactBitWalkCard : Claim7 := { stood := { row := fnExactBitWalkRow, standIns := [], harness := (true, "ede2ae40d4148bf46e065850b90296dcc2dfb70e16e56bad46174f0c77a1aa61"), looks := true }, kinds := [], alts := [], laidByText := true, laidKinds := [.data, .pinned], laidTests := true, laidLooks := .later }
def FnExactBitWalkCardSaid : Prop := Claim7.holds Tryd.pinned (.plain (OpenSpec.ofChange fnExactBitWalkSpec)) fnExactBitWalkCard

/-- THE TIED CARD OF 'laws.FnExactStripesBy'. -/
def fnExactStripesByCard : Claim7 := { stood := { row := fnExactStripesByRow, standIns := [], harness := (true, "ede2ae40d4148bf46e065850b90296dcc2dfb70e16e56bad46174f0c77a1aa61"), looks := true }, kinds := [], alts := [], laidByText := true, laidKinds := [.data, .pinned], laidTests := true, laidLooks := .later }
def FnExactStripesByCardSaid : Prop := Claim7.holds Tryd.pinned (.plain (OpenSpec.ofChange fnExactStripesBySpec)) fnExactStripesByCard

/-- THE TIED CARD OF 'laws.FnExactReadLevels'. -/
def fnExactReadLevelsCard : Claim7 := { stood := { row := fnExactReadLevelsRow, standIns := [], harness := (true, "ede2ae40d4148bf46e065850b90296dcc2dfb70e16e56bad46174f0c77a1aa61"), looks := true }, kinds := [], alts := [], laidByText := true, laidKinds := [.data, .data, .data, .sentinel, .sentinel], laidTests := true, laidLooks := .later }
def FnExactReadLevelsCardSaid : Prop := Claim7.holds Tryd.pinned (.plain (OpenSpec.ofChange fnExactReadLevelsSpec)) fnExactReadLevelsCard

/-- THE TIED CARD OF 'laws.FnExactReadRounds'. -/
def fnExactReadRoundsCard : Claim7 := { stood := { row := fnExactReadRoundsRow, standIns := [], harness := (true, "ede2ae40d4148bf46e065850b90296dcc2dfb70e16e56bad46174f0c77a1aa61"), looks := true }, kinds := [], alts := [], laidByText := true, laidKinds := [.data, .data, .data, .data, .sentinel, .sentinel, .pinned], laidTests := true, laidLooks := .later }
def FnExactReadRoundsCardSaid : Prop := Claim7.holds Tryd.pinned (.plain (OpenSpec.ofChange fnExactReadRoundsSpec)) fnExactReadRoundsCard

/-- THE SECOND FORM's CARD OF 'laws.FnExactReadWeeds'. -/
def fnExactReadWeedsUptoCard : Claim7 := { stood := { row := fnExactReadWeedsUptoRow, standIns := [], harness := (true, "ede2ae40d4148bf46e065850b90296dcc2dfb70e16e56bad46174f0c77a1aa61"), looks := true }, kinds := [], alts := [], laidByText := true, laidKinds := [.data, .pinned], laidTests := true, laidLooks := .later }
def FnExactReadWeedsUptoCardSaid : Prop := Claim7.holds Tryd.pinned (.plain (OpenSpec.upto fnExactReadWeedsSpec)) fnExactReadWeedsUptoCard

/-- THE SECOND FORM's CARD OF 'laws.FnExactBitWalk'. -/
def fnExactBitWalkUptoCard : Claim7 := { stood := { row := fnExactBitWalkUptoRow, standIns := [], harness := (true, "ede2ae40d4148bf46e065850b90296dcc2dfb70e16e56bad46174f0c77a1aa61"), looks := true }, kinds := [], alts := [], laidByText := true, laidKinds := [.data, .pinned], laidTests := true, laidLooks := .later }
def FnExactBitWalkUptoCardSaid : Prop := Claim7.holds Tryd.pinned (.plain (OpenSpec.upto fnExactBitWalkSpec)) fnExactBitWalkUptoCard

/-- THE SECOND FORM's CARD OF 'laws.FnExactStripesBy'. -/
def fnExactStripesByUptoCard : Claim7 := { stood := { row := fnExactStripesByUptoRow, standIns := [], harness := (true, "ede2ae40d4148bf46e065850b90296dcc2dfb70e16e56bad46174f0c77a1aa61"), looks := true }, kinds := [], alts := [], laidByText := true, laidKinds := [.data, .pinned], laidTests := true, laidLooks := .later }
def FnExactStripesByUptoCardSaid : Prop := Claim7.holds Tryd.pinned (.plain (OpenSpec.upto fnExactStripesBySpec)) fnExactStripesByUptoCard

/-- THE SECOND FORM's CARD OF 'laws.FnExactReadLevels'. -/
def fnExactReadLevelsUptoCard : Claim7 := { stood := { row := fnExactReadLevelsUptoRow, standIns := [], harness := (true, "ede2ae40d4148bf46e065850b90296dcc2dfb70e16e56bad46174f0c77a1aa61"), looks := true }, kinds := [], alts := [], laidByText := true, laidKinds := [.data, .data, .data, .sentinel, .sentinel], laidTests := true, laidLooks := .later }
def FnExactReadLevelsUptoCardSaid : Prop := Claim7.holds Tryd.pinned (.plain (OpenSpec.upto fnExactReadLevelsSpec)) fnExactReadLevelsUptoCard

/-- THE SECOND FORM's CARD OF 'laws.FnExactReadRounds'. -/
def fnExactReadRoundsUptoCard : Claim7 := { stood := { row := fnExactReadRoundsUptoRow, standIns := [], harness := (true, "ede2ae40d4148bf46e065850b90296dcc2dfb70e16e56bad46174f0c77a1aa61"), looks := true }, kinds := [], alts := [], laidByText := true, laidKinds := [.data, .data, .data, .data, .sentinel, .sentinel, .pinned], laidTests := true, laidLooks := .later }
def FnExactReadRoundsUptoCardSaid : Prop := Claim7.holds Tryd.pinned (.plain (OpenSpec.upto fnExactReadRoundsSpec)) fnExactReadRoundsUptoCard
end Rows
end Go.Proofs.YtppmmeciihmnjaaDoor
