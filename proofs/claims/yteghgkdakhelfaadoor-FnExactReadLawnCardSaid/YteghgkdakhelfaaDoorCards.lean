/-
  DERIVED. GIVEN WITH THE SEED: THE CARDS: each row of YteghgkdakhelfaaDoorRows.lean that lists a variable, with what it lists TIED to the program's text (the seventh form; the later family's looks); each row that meets fmt, with fmt's text TOLD by the authors' own Lean function (tested against real Go, not proved from fmt's source: count such statements apart). THE CARD IS WHAT COUNTS. Prove the row's statement (the work); the ties are given (YteghgkdakhelfaaDoorTie.lean); close each card by the builder's one call (the guide's Derived/Test/ToyasCard.lean, 'card_holds'). Laid BY PROGRAM, IN A SANDBOX (cutbox-door.mjs). By AI agents, Wed Nov 11 2026. No macro, syntax, notation, axiom, sorry.
-/
import Derived.Test.YteghgkdakhelfaaDoorRows
import GoSem.ClaimSeven
namespace Go.Proofs.YteghgkdakhelfaaDoor
namespace Rows

/-- THE TIED CARD OF 'laws.FnExactLevelsText'. -/
def fnExactLevelsTextCard : Claim7 := { stood := { row := fnExactLevelsTextRow, standIns := [], harness := (true, "bb1679031cf5ecaed62bd12f7a09a7aa04e0465164521dddd7597d37a0530222"), looks := false }, kinds := [], alts := [], laidByText := true, laidKinds := [.data, .data, .data], laidTests := true, laidLooks := .later }
def FnExactLevelsTextCardSaid : Prop := Claim7.holds Tryd.pinned (.plain (OpenSpec.ofChange fnExactLevelsTextSpec)) fnExactLevelsTextCard

/-- THE TIED CARD OF 'laws.FnExactRoundsText'. -/
def fnExactRoundsTextCard : Claim7 := { stood := { row := fnExactRoundsTextRow, standIns := [], harness := (true, "bb1679031cf5ecaed62bd12f7a09a7aa04e0465164521dddd7597d37a0530222"), looks := false }, kinds := [], alts := [], laidByText := true, laidKinds := [.data, .data, .data], laidTests := true, laidLooks := .later }
def FnExactRoundsTextCardSaid : Prop := Claim7.holds Tryd.pinned (.plain (OpenSpec.ofChange fnExactRoundsTextSpec)) fnExactRoundsTextCard

/-- THE TIED CARD OF 'laws.FnExactReadLawn'. -/
def fnExactReadLawnCard : Claim7 := { stood := { row := fnExactReadLawnRow, standIns := [], harness := (true, "bb1679031cf5ecaed62bd12f7a09a7aa04e0465164521dddd7597d37a0530222"), looks := false }, kinds := [], alts := [], laidByText := true, laidKinds := [.data, .pinned], laidTests := true, laidLooks := .later }
def FnExactReadLawnCardSaid : Prop := Claim7.holds Tryd.pinned (.plain (OpenSpec.ofChange fnExactReadLawnSpec)) fnExactReadLawnCard

/-- THE SECOND FORM's CARD OF 'laws.FnExactLevelsText'. -/
def fnExactLevelsTextUptoCard : Claim7 := { stood := { row := fnExactLevelsTextUptoRow, standIns := [], harness := (true, "bb1679031cf5ecaed62bd12f7a09a7aa04e0465164521dddd7597d37a0530222"), looks := false }, kinds := [], alts := [], laidByText := true, laidKinds := [.data, .data, .data], laidTests := true, laidLooks := .later }
def FnExactLevelsTextUptoCardSaid : Prop := Claim7.holds Tryd.pinned (.plain (OpenSpec.upto fnExactLevelsTextSpec)) fnExactLevelsTextUptoCard

/-- THE SECOND FORM's CARD OF 'laws.FnExactRoundsText'. -/
def fnExactRoundsTextUptoCard : Claim7 := { stood := { row := fnExactRoundsTextUptoRow, standIns := [], harness := (true, "bb1679031cf5ecaed62bd12f7a09a7aa04e0465164521dddd7597d37a0530222"), looks := false }, kinds := [], alts := [], laidByText := true, laidKinds := [.data, .data, .data], laidTests := true, laidLooks := .later }
def FnExactRoundsTextUptoCardSaid : Prop := Claim7.holds Tryd.pinned (.plain (OpenSpec.upto fnExactRoundsTextSpec)) fnExactRoundsTextUptoCard

/-- THE SECOND FORM's CARD OF 'laws.FnExactReadLawn'. -/
def fnExactReadLawnUptoCard : Claim7 := { stood := { row := fnExactReadLawnUptoRow, standIns := [], harness := (true, "bb1679031cf5ecaed62bd12f7a09a7aa04e0465164521dddd7597d37a0530222"), looks := false }, kinds := [], alts := [], laidByText := true, laidKinds := [.data, .pinned], laidTests := true, laidLooks := .later }
def FnExactReadLawnUptoCardSaid : Prop := Claim7.holds Tryd.pinned (.plain (OpenSpec.upto fnExactReadLawnSpec)) fnExactReadLawnUptoCard
end Rows
end Go.Proofs.YteghgkdakhelfaaDoor
