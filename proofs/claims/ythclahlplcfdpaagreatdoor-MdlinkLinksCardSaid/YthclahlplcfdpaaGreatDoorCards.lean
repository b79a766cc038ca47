/-
  DERIVED. GIVEN WITH THE SEED: THE CARDS: each row of YthclahlplcfdpaaGreatDoorRows.lean that lists a variable, with what it lists TIED to the program's text (the seventh form; the later family's looks); each row that meets fmt, with fmt's text TOLD by the authors' own Lean function (tested against real Go, not proved from fmt's source: count such statements apart). THE CARD IS WHAT COUNTS. Prove the row's statement (the work); the ties are given (YthclahlplcfdpaaGreatDoorTie.lean); close each card by the builder's one call (the guide's Derived/Test/ToyasCard.lean, 'card_holds'). Laid BY PROGRAM, IN A SANDBOX (cutbox-door.mjs). By AI agents, Wed Nov 11 2026. No macro, syntax, notation, axiom, sorry.
-/
import Derived.Test.YthclahlplcfdpaaGreatDoorRows
import GoSem.ClaimSeven
namespace Go.Proofs.YthclahlplcfdpaaGreatDoor
namespace Rows

/-- THE TIED CARD OF 'indenturelaw22.MdlinkTargets'. -/
def mdlinkTargetsCard : Claim7 := { stood := { row := mdlinkTargetsRow, standIns := [], harness := (true, "2e534fd7b39db0b08830851461015a1ad6db99221da18a31f4108196f22b5838"), looks := false }, kinds := [], alts := [], laidByText := true, laidKinds := [.data, .pinned], laidTests := true, laidLooks := .later }
def MdlinkTargetsCardSaid : Prop := Claim7.holds Tryz.pinned (.plain (OpenSpec.ofChange mdlinkTargetsSpec)) mdlinkTargetsCard

/-- THE TIED CARD OF 'indenturelaw22.MdlinkLinks'. -/
def mdlinkLinksCard : Claim7 := { stood := { row := mdlinkLinksRow, standIns := [], harness := (true, "2e534fd7b39db0b08830851461015a1ad6db99221da18a31f4108196f22b5838"), looks := false }, kinds := [], alts := [], laidByText := true, laidKinds := [.data, .pinned], laidTests := true, laidLooks := .later }
def MdlinkLinksCardSaid : Prop := Claim7.holds Tryz.pinned (.plain (OpenSpec.ofChange mdlinkLinksSpec)) mdlinkLinksCard

/-- THE TIED CARD OF 'indenturelaw22.MdlinkNests'. -/
def mdlinkNestsCard : Claim7 := { stood := { row := mdlinkNestsRow, standIns := [], harness := (true, "2e534fd7b39db0b08830851461015a1ad6db99221da18a31f4108196f22b5838"), looks := false }, kinds := [], alts := [], laidByText := true, laidKinds := [.data, .pinned], laidTests := true, laidLooks := .later }
def MdlinkNestsCardSaid : Prop := Claim7.holds Tryz.pinned (.plain (OpenSpec.ofChange mdlinkNestsSpec)) mdlinkNestsCard

/-- THE TIED CARD OF 'indenturelaw22.MdlinkLaid'. -/
def mdlinkLaidCard : Claim7 := { stood := { row := mdlinkLaidRow, standIns := [], harness := (true, "2e534fd7b39db0b08830851461015a1ad6db99221da18a31f4108196f22b5838"), looks := false }, kinds := [], alts := [], laidByText := true, laidKinds := [.data, .pinned], laidTests := true, laidLooks := .later }
def MdlinkLaidCardSaid : Prop := Claim7.holds Tryz.pinned (.plain (OpenSpec.ofChange mdlinkLaidSpec)) mdlinkLaidCard

/-- THE TIED CARD OF 'indenturelaw22.MdlinkMentions'. -/
def mdlinkMentionsCard : Claim7 := { stood := { row := mdlinkMentionsRow, standIns := [], harness := (true, "2e534fd7b39db0b08830851461015a1ad6db99221da18a31f4108196f22b5838"), looks := false }, kinds := [], alts := [], laidByText := true, laidKinds := [.data, .pinned], laidTests := true, laidLooks := .later }
def MdlinkMentionsCardSaid : Prop := Claim7.holds Tryz.pinned (.plain (OpenSpec.ofChange mdlinkMentionsSpec)) mdlinkMentionsCard

/-- THE TIED CARD OF 'indenturelaw22.MdlinkFar'. -/
def mdlinkFarCard : Claim7 := { stood := { row := mdlinkFarRow, standIns := [], harness := (true, "2e534fd7b39db0b08830851461015a1ad6db99221da18a31f4108196f22b5838"), looks := false }, kinds := [], alts := [], laidByText := true, laidKinds := [.data, .pinned], laidTests := true, laidLooks := .later }
def MdlinkFarCardSaid : Prop := Claim7.holds Tryz.pinned (.plain (OpenSpec.ofChange mdlinkFarSpec)) mdlinkFarCard

/-- THE TIED CARD OF 'indenturelaw22.MdlinkKnown'. -/
def mdlinkKnownCard : Claim7 := { stood := { row := mdlinkKnownRow, standIns := [], harness := (true, "2e534fd7b39db0b08830851461015a1ad6db99221da18a31f4108196f22b5838"), looks := false }, kinds := [], alts := [], laidByText := true, laidKinds := [.data, .pinned], laidTests := true, laidLooks := .later }
def MdlinkKnownCardSaid : Prop := Claim7.holds Tryz.pinned (.plain (OpenSpec.ofChange mdlinkKnownSpec)) mdlinkKnownCard

/-- THE SECOND FORM's CARD OF 'indenturelaw22.MdlinkTargets'. -/
def mdlinkTargetsUptoCard : Claim7 := { stood := { row := mdlinkTargetsUptoRow, standIns := [], harness := (true, "2e534fd7b39db0b08830851461015a1ad6db99221da18a31f4108196f22b5838"), looks := false }, kinds := [], alts := [], laidByText := true, laidKinds := [.data, .pinned], laidTests := true, laidLooks := .later }
def MdlinkTargetsUptoCardSaid : Prop := Claim7.holds Tryz.pinned (.plain (OpenSpec.upto mdlinkTargetsSpec)) mdlinkTargetsUptoCard

/-- THE SECOND FORM's CARD OF 'indenturelaw22.MdlinkLinks'. -/
def mdlinkLinksUptoCard : Claim7 := { stood := { row := mdlinkLinksUptoRow, standIns := [], harness := (true, "2e534fd7b39db0b08830851461015a1ad6db99221da18a31f4108196f22b5838"), looks := false }, kinds := [], alts := [], laidByText := true, laidKinds := [.data, .pinned], laidTests := true, laidLooks := .later }
def MdlinkLinksUptoCardSaid : Prop := Claim7.holds Tryz.pinned (.plain (OpenSpec.upto mdlinkLinksSpec)) mdlinkLinksUptoCard

/-- THE SECOND FORM's CARD OF 'indenturelaw22.MdlinkNests'. -/
def mdlinkNestsUptoCard : Claim7 := { stood := { row := mdlinkNestsUptoRow, standIns := [], harness := (true, "2e534fd7b39db0b08830851461015a1ad6db99221da18a31f4108196f22b5838"), looks := false }, kinds := [], alts := [], laidByText := true, laidKinds := [.data, .pinned], laidTests := true, laidLooks := .later }
def MdlinkNestsUptoCardSaid : Prop := Claim7.holds Tryz.pinned (.plain (OpenSpec.upto mdlinkNestsSpec)) mdlinkNestsUptoCard

/-- THE SECOND FORM's CARD OF 'indenturelaw22.MdlinkLaid'. -/
def mdlinkLaidUptoCard : Claim7 := { stood := { row := mdlinkLaidUptoRow, standIns := [], harness := (true, "2e534fd7b39db0b08830851461015a1ad6db99221da18a31f4108196f22b5838"), looks := false }, kinds := [], alts := [], laidByText := true, laidKinds := [.data, .pinned], laidTests := true, laidLooks := .later }
def MdlinkLaidUptoCardSaid : Prop := Claim7.holds Tryz.pinned (.plain (OpenSpec.upto mdlinkLaidSpec)) mdlinkLaidUptoCard

/-- THE SECOND FORM's CARD OF 'indenturelaw22.MdlinkMentions'. -/
def mdlinkMentionsUptoCard : Claim7 := { stood := { row := mdlinkMentionsUptoRow, standIns := [], harness := (true, "2e534fd7b39db0b08830851461015a1ad6db99221da18a31f4108196f22b5838"), looks := false }, kinds := [], alts := [], laidByText := true, laidKinds := [.data, .pinned], laidTests := true, laidLooks := .later }
def MdlinkMentionsUptoCardSaid : Prop := Claim7.holds Tryz.pinned (.plain (OpenSpec.upto mdlinkMentionsSpec)) mdlinkMentionsUptoCard

/-- THE SECOND FORM's CARD OF 'indenturelaw22.MdlinkFar'. -/
def mdlinkFarUptoCard : Claim7 := { stood := { row := mdlinkFarUptoRow, standIns := [], harness := (true, "2e534fd7b39db0b08830851461015a1ad6db99221da18a31f4108196f22b5838"), looks := false }, kinds := [], alts := [], laidByText := true, laidKinds := [.data, .pinned], laidTests := true, laidLooks := .later }
def MdlinkFarUptoCardSaid : Prop := Claim7.holds Tryz.pinned (.plain (OpenSpec.upto mdlinkFarSpec)) mdlinkFarUptoCard

/-- THE SECOND FORM's CARD OF 'indenturelaw22.MdlinkKnown'. -/
def mdlinkKnownUptoCard : Claim7 := { stood := { row := mdlinkKnownUptoRow, standIns := [], harness := (true, "2e534fd7b39db0b08830851461015a1ad6db99221da18a31f4108196f22b5838"), looks := false }, kinds := [], alts := [], laidByText := true, laidKinds := [.data, .pinned], laidTests := true, laidLooks := .later }
def MdlinkKnownUptoCardSaid : Prop := Claim7.holds Tryz.pinned (.plain (OpenSpec.upto mdlinkKnownSpec)) mdlinkKnownUptoCard
end Rows
end Go.Proofs.YthclahlplcfdpaaGreatDoor
