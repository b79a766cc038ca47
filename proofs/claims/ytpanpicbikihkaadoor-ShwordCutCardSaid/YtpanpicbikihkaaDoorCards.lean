/-
  DERIVED. GIVEN WITH THE SEED: THE CARDS: each row of YtpanpicbikihkaaDoorRows.lean that lists a variable, with what it lists TIED to the program's text (the seventh form; the later family's looks); each row that meets fmt, with fmt's text TOLD by the authors' own Lean function (tested against real Go, not proved from fmt's source: count such statements apart). THE CARD IS WHAT COUNTS. Prove the row's statement (the work); the ties are given (YtpanpicbikihkaaDoorTie.lean); close each card by the builder's one call (the guide's Derived/Test/ToyasCard.lean, 'card_holds'). Laid BY PROGRAM, IN A SANDBOX (cutbox-door.mjs). By AI agents, Wed Nov 11 2026. No macro, syntax, notation, axiom, sorry.
-/
import Derived.Test.YtpanpicbikihkaaDoorRows
import GoSem.ClaimSeven
namespace Go.Proofs.YtpanpicbikihkaaDoor
namespace Rows

/-- THE TIED CARD OF 'indenturelaw15.ShwordReads'. -/
def shwordReadsCard : Claim7 := { stood := { row := shwordReadsRow, standIns := [], harness := (true, "2d2115c6fde36445447216151cfdec53ac3b415c83df284ac179f96ffc2e1eb9"), looks := false }, kinds := [], alts := [], laidByText := true, laidKinds := [.data], laidTests := true, laidLooks := .later }
def ShwordReadsCardSaid : Prop := Claim7.holds Tryd.pinned (.plain (OpenSpec.ofChange shwordReadsSpec)) shwordReadsCard

/-- THE TIED CARD OF 'indenturelaw15.ShwordOps'. -/
def shwordOpsCard : Claim7 := { stood := { row := shwordOpsRow, standIns := [], harness := (true, "2d2115c6fde36445447216151cfdec53ac3b415c83df284ac179f96ffc2e1eb9"), looks := false }, kinds := [], alts := [], laidByText := true, laidKinds := [.data], laidTests := true, laidLooks := .later }
def ShwordOpsCardSaid : Prop := Claim7.holds Tryd.pinned (.plain (OpenSpec.ofChange shwordOpsSpec)) shwordOpsCard

/-- THE TIED CARD OF 'indenturelaw15.ShwordTile'. -/
def shwordTileCard : Claim7 := { stood := { row := shwordTileRow, standIns := [], harness := (true, "2d2115c6fde36445447216151cfdec53ac3b415c83df284ac179f96ffc2e1eb9"), looks := false }, kinds := [], alts := [], laidByText := true, laidKinds := [.data], laidTests := true, laidLooks := .later }
def ShwordTileCardSaid : Prop := Claim7.holds Tryd.pinned (.plain (OpenSpec.ofChange shwordTileSpec)) shwordTileCard

/-- THE TIED CARD OF 'indenturelaw15.ShwordQuoted'. -/
def shwordQuotedCard : Claim7 := { stood := { row := shwordQuotedRow, standIns := [], harness := (true, "2d2115c6fde36445447216151cfdec53ac3b415c83df284ac179f96ffc2e1eb9"), looks := false }, kinds := [], alts := [], laidByText := true, laidKinds := [.data], laidTests := true, laidLooks := .later }
def ShwordQuotedCardSaid : Prop := Claim7.holds Tryd.pinned (.plain (OpenSpec.ofChange shwordQuotedSpec)) shwordQuotedCard

/-- THE TIED CARD OF 'indenturelaw15.ShwordCut'. -/
def shwordCutCard : Claim7 := { stood := { row := shwordCutRow, standIns := [], harness := (true, "2d2115c6fde36445447216151cfdec53ac3b415c83df284ac179f96ffc2e1eb9"), looks := false }, kinds := [], alts := [], laidByText := true, laidKinds := [.data], laidTests := true, laidLooks := .later }
def ShwordCutCardSaid : Prop := Claim7.holds Tryd.pinned (.plain (OpenSpec.ofChange shwordCutSpec)) shwordCutCard

/-- THE SECOND FORM's CARD OF 'indenturelaw15.ShwordReads'. -/
def shwordReadsUptoCard : Claim7 := { stood := { row := shwordReadsUptoRow, standIns := [], harness := (true, "2d2115c6fde36445447216151cfdec53ac3b415c83df284ac179f96ffc2e1eb9"), looks := false }, kinds := [], alts := [], laidByText := true, laidKinds := [.data], laidTests := true, laidLooks := .later }
def ShwordReadsUptoCardSaid : Prop := Claim7.holds Tryd.pinned (.plain (OpenSpec.upto shwordReadsSpec)) shwordReadsUptoCard

/-- THE SECOND FORM's CARD OF 'indenturelaw15.ShwordOps'. -/
def shwordOpsUptoCard : Claim7 := { stood := { row := shwordOpsUptoRow, standIns := [], harness := (true, "2d2115c6fde36445447216151cfdec53ac3b415c83df284ac179f96ffc2e1eb9"), looks := false }, kinds := [], alts := [], laidByText := true, laidKinds := [.data], laidTests := true, laidLooks := .later }
def ShwordOpsUptoCardSaid : Prop := Claim7.holds Tryd.pinned (.plain (OpenSpec.upto shwordOpsSpec)) shwordOpsUptoCard

/-- THE SECOND FORM's CARD OF 'indenturelaw15.ShwordTile'. -/
def shwordTileUptoCard : Claim7 := { stood := { row := shwordTileUptoRow, standIns := [], harness := (true, "2d2115c6fde36445447216151cfdec53ac3b415c83df284ac179f96ffc2e1eb9"), looks := false }, kinds := [], alts := [], laidByText := true, laidKinds := [.data], laidTests := true, laidLooks := .later }
def ShwordTileUptoCardSaid : Prop := Claim7.holds Tryd.pinned (.plain (OpenSpec.upto shwordTileSpec)) shwordTileUptoCard

/-- THE SECOND FORM's CARD OF 'indenturelaw15.ShwordQuoted'. -/
def shwordQuotedUptoCard : Claim7 := { stood := { row := shwordQuotedUptoRow, standIns := [], harness := (true, "2d2115c6fde36445447216151cfdec53ac3b415c83df284ac179f96ffc2e1eb9"), looks := false }, kinds := [], alts := [], laidByText := true, laidKinds := [.data], laidTests := true, laidLooks := .later }
def ShwordQuotedUptoCardSaid : Prop := Claim7.holds Tryd.pinned (.plain (OpenSpec.upto shwordQuotedSpec)) shwordQuotedUptoCard

/-- THE SECOND FORM's CARD OF 'indenturelaw15.ShwordCut'. -/
def shwordCutUptoCard : Claim7 := { stood := { row := shwordCutUptoRow, standIns := [], harness := (true, "2d2115c6fde36445447216151cfdec53ac3b415c83df284ac179f96ffc2e1eb9"), looks := false }, kinds := [], alts := [], laidByText := true, laidKinds := [.data], laidTests := true, laidLooks := .later }
def ShwordCutUptoCardSaid : Prop := Claim7.holds Tryd.pinned (.plain (OpenSpec.upto shwordCutSpec)) shwordCutUptoCard
end Rows
end Go.Proofs.YtpanpicbikihkaaDoor
