/-
  DERIVED. GIVEN WITH THE SEED: THE CARDS: each row of YtdgclgfhcgdehaaDoorRows.lean that lists a variable, with what it lists TIED to the program's text (the seventh form; the later family's looks); each row that meets fmt, with fmt's text TOLD by the authors' own Lean function (tested against real Go, not proved from fmt's source: count such statements apart). THE CARD IS WHAT COUNTS. Prove the row's statement (the work); the ties are given (YtdgclgfhcgdehaaDoorTie.lean); close each card by the builder's one call (the guide's Derived/Test/ToyasCard.lean, 'card_holds'). Laid BY PROGRAM, IN A SANDBOX (cutbox-door.mjs). By AI agents, Wed Nov 11 2026. No macro, syntax, notation, axiom, sorry.
-/
import Derived.Test.YtdgclgfhcgdehaaDoorRows
import GoSem.ClaimSeven
namespace Go.Proofs.YtdgclgfhcgdehaaDoor
namespace Rows

/-- THE TIED CARD OF 'indenturelaw16.ShdocScans'. -/
def shdocScansCard : Claim7 := { stood := { row := shdocScansRow, standIns := [], harness := (true, "762370412fd8fdfb487d96e0cd32da77240968d92934ebf90c0e9dbae0a2dd67"), looks := false }, kinds := [], alts := [], laidByText := true, laidKinds := [.data, .data, .pinned], laidTests := true, laidLooks := .later }
def ShdocScansCardSaid : Prop := Claim7.holds Tryd.pinned (.plain (OpenSpec.ofChange shdocScansSpec)) shdocScansCard

/-- THE TIED CARD OF 'indenturelaw16.ShdocEnds'. -/
def shdocEndsCard : Claim7 := { stood := { row := shdocEndsRow, standIns := [], harness := (true, "762370412fd8fdfb487d96e0cd32da77240968d92934ebf90c0e9dbae0a2dd67"), looks := false }, kinds := [], alts := [], laidByText := true, laidKinds := [.data, .data, .pinned], laidTests := true, laidLooks := .later }
def ShdocEndsCardSaid : Prop := Claim7.holds Tryd.pinned (.plain (OpenSpec.ofChange shdocEndsSpec)) shdocEndsCard

/-- THE TIED CARD OF 'indenturelaw16.ShdocLines'. -/
def shdocLinesCard : Claim7 := { stood := { row := shdocLinesRow, standIns := [], harness := (true, "762370412fd8fdfb487d96e0cd32da77240968d92934ebf90c0e9dbae0a2dd67"), looks := false }, kinds := [], alts := [], laidByText := true, laidKinds := [.data, .data, .pinned], laidTests := true, laidLooks := .later }
def ShdocLinesCardSaid : Prop := Claim7.holds Tryd.pinned (.plain (OpenSpec.ofChange shdocLinesSpec)) shdocLinesCard

/-- THE TIED CARD OF 'indenturelaw16.ShdocDoc'. -/
def shdocDocCard : Claim7 := { stood := { row := shdocDocRow, standIns := [], harness := (true, "762370412fd8fdfb487d96e0cd32da77240968d92934ebf90c0e9dbae0a2dd67"), looks := false }, kinds := [], alts := [], laidByText := true, laidKinds := [.data, .data, .pinned], laidTests := true, laidLooks := .later }
def ShdocDocCardSaid : Prop := Claim7.holds Tryd.pinned (.plain (OpenSpec.ofChange shdocDocSpec)) shdocDocCard

/-- THE TIED CARD OF 'indenturelaw16.ShdocAny'. -/
def shdocAnyCard : Claim7 := { stood := { row := shdocAnyRow, standIns := [], harness := (true, "762370412fd8fdfb487d96e0cd32da77240968d92934ebf90c0e9dbae0a2dd67"), looks := false }, kinds := [], alts := [], laidByText := true, laidKinds := [.data, .data, .pinned], laidTests := true, laidLooks := .later }
def ShdocAnyCardSaid : Prop := Claim7.holds Tryd.pinned (.plain (OpenSpec.ofChange shdocAnySpec)) shdocAnyCard

/-- THE TIED CARD OF 'indenturelaw16.ShdocSound'. -/
def shdocSoundCard : Claim7 := { stood := { row := shdocSoundRow, standIns := [], harness := (true, "762370412fd8fdfb487d96e0cd32da77240968d92934ebf90c0e9dbae0a2dd67"), looks := false }, kinds := [], alts := [], laidByText := true, laidKinds := [.data, .data, .pinned], laidTests := true, laidLooks := .later }
def ShdocSoundCardSaid : Prop := Claim7.holds Tryd.pinned (.plain (OpenSpec.ofChange shdocSoundSpec)) shdocSoundCard

/-- THE SECOND FORM's CARD OF 'indenturelaw16.ShdocScans'. -/
def shdocScansUptoCard : Claim7 := { stood := { row := shdocScansUptoRow, standIns := [], harness := (true, "762370412fd8fdfb487d96e0cd32da77240968d92934ebf90c0e9dbae0a2dd67"), looks := false }, kinds := [], alts := [], laidByText := true, laidKinds := [.data, .data, .pinned], laidTests := true, laidLooks := .later }
def ShdocScansUptoCardSaid : Prop := Claim7.holds Tryd.pinned (.plain (OpenSpec.upto shdocScansSpec)) shdocScansUptoCard

/-- THE SECOND FORM's CARD OF 'indenturelaw16.ShdocEnds'. -/
def shdocEndsUptoCard : Claim7 := { stood := { row := shdocEndsUptoRow, standIns := [], harness := (true, "762370412fd8fdfb487d96e0cd32da77240968d92934ebf90c0e9dbae0a2dd67"), looks := false }, kinds := [], alts := [], laidByText := true, laidKinds := [.data, .data, .pinned], laidTests := true, laidLooks := .later }
def ShdocEndsUptoCardSaid : Prop := Claim7.holds Tryd.pinned (.plain (OpenSpec.upto shdocEndsSpec)) shdocEndsUptoCard

/-- THE SECOND FORM's CARD OF 'indenturelaw16.ShdocLines'. -/
def shdocLinesUptoCard : Claim7 := { stood := { row := shdocLinesUptoRow, standIns := [], harness := (true, "762370412fd8fdfb487d96e0cd32da77240968d92934ebf90c0e9dbae0a2dd67"), looks := false }, kinds := [], alts := [], laidByText := true, laidKinds := [.data, .data, .pinned], laidTests := true, laidLooks := .later }
def ShdocLinesUptoCardSaid : Prop := Claim7.holds Tryd.pinned (.plain (OpenSpec.upto shdocLinesSpec)) shdocLinesUptoCard

/-- THE SECOND FORM's CARD OF 'indenturelaw16.ShdocDoc'. -/
def shdocDocUptoCard : Claim7 := { stood := { row := shdocDocUptoRow, standIns := [], harness := (true, "762370412fd8fdfb487d96e0cd32da77240968d92934ebf90c0e9dbae0a2dd67"), looks := false }, kinds := [], alts := [], laidByText := true, laidKinds := [.data, .data, .pinned], laidTests := true, laidLooks := .later }
def ShdocDocUptoCardSaid : Prop := Claim7.holds Tryd.pinned (.plain (OpenSpec.upto shdocDocSpec)) shdocDocUptoCard

/-- THE SECOND FORM's CARD OF 'indenturelaw16.ShdocAny'. -/
def shdocAnyUptoCard : Claim7 := { stood := { row := shdocAnyUptoRow, standIns := [], harness := (true, "762370412fd8fdfb487d96e0cd32da77240968d92934ebf90c0e9dbae0a2dd67"), looks := false }, kinds := [], alts := [], laidByText := true, laidKinds := [.data, .data, .pinned], laidTests := true, laidLooks := .later }
def ShdocAnyUptoCardSaid : Prop := Claim7.holds Tryd.pinned (.plain (OpenSpec.upto shdocAnySpec)) shdocAnyUptoCard

/-- THE SECOND FORM's CARD OF 'indenturelaw16.ShdocSound'. -/
def shdocSoundUptoCard : Claim7 := { stood := { row := shdocSoundUptoRow, standIns := [], harness := (true, "762370412fd8fdfb487d96e0cd32da77240968d92934ebf90c0e9dbae0a2dd67"), looks := false }, kinds := [], alts := [], laidByText := true, laidKinds := [.data, .data, .pinned], laidTests := true, laidLooks := .later }
def ShdocSoundUptoCardSaid : Prop := Claim7.holds Tryd.pinned (.plain (OpenSpec.upto shdocSoundSpec)) shdocSoundUptoCard
end Rows
end Go.Proofs.YtdgclgfhcgdehaaDoor
