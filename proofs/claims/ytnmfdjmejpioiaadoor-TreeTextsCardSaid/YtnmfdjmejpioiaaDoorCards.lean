/-
  DERIVED. GIVEN WITH THE SEED: THE CARDS: each row of YtnmfdjmejpioiaaDoorRows.lean that lists a variable, with what it lists TIED to the program's text (the seventh form; the later family's looks); each row that meets fmt, with fmt's text TOLD by the authors' own Lean function (tested against real Go, not proved from fmt's source: count such statements apart). THE CARD IS WHAT COUNTS. Prove the row's statement (the work); the ties are given (YtnmfdjmejpioiaaDoorTie.lean); close each card by the builder's one call (the guide's Derived/Test/ToyasCard.lean, 'card_holds'). Laid BY PROGRAM, IN A SANDBOX (cutbox-door.mjs). By AI agents, Wed Nov 11 2026. No macro, syntax, notation, axiom, sorry.
-/
import Derived.Test.YtnmfdjmejpioiaaDoorRows
import GoSem.ClaimSeven
namespace Go.Proofs.YtnmfdjmejpioiaaDoor
namespace Rows

/-- THE TIED CARD OF 'indenturelaw06.TreeChecks'. -/
def treeChecksCard : Claim7 := { stood := { row := treeChecksRow, standIns := [], harness := (true, "941c2d36f69a0ee3ce82870923b9d39124aaf6e6aba0b17a7483d67650bf7116"), looks := true }, kinds := [], alts := [], laidByText := true, laidKinds := [.data, .data, .data], laidTests := true, laidLooks := .later }
def TreeChecksCardSaid : Prop := Claim7.holds Tryd.pinned (.plain (OpenSpec.ofChange treeChecksSpec)) treeChecksCard

/-- THE TIED CARD OF 'indenturelaw06.TreeAts'. -/
def treeAtsCard : Claim7 := { stood := { row := treeAtsRow, standIns := [], harness := (true, "941c2d36f69a0ee3ce82870923b9d39124aaf6e6aba0b17a7483d67650bf7116"), looks := true }, kinds := [], alts := [], laidByText := true, laidKinds := [.data, .data, .data], laidTests := true, laidLooks := .later }
def TreeAtsCardSaid : Prop := Claim7.holds Tryd.pinned (.plain (OpenSpec.ofChange treeAtsSpec)) treeAtsCard

/-- THE TIED CARD OF 'indenturelaw06.TreeSums'. -/
def treeSumsCard : Claim7 := { stood := { row := treeSumsRow, standIns := [], harness := (true, "941c2d36f69a0ee3ce82870923b9d39124aaf6e6aba0b17a7483d67650bf7116"), looks := true }, kinds := [], alts := [], laidByText := true, laidKinds := [.data, .data, .data], laidTests := true, laidLooks := .later }
def TreeSumsCardSaid : Prop := Claim7.holds Tryd.pinned (.plain (OpenSpec.ofChange treeSumsSpec)) treeSumsCard

/-- THE TIED CARD OF 'indenturelaw06.TreeMoved'. -/
def treeMovedCard : Claim7 := { stood := { row := treeMovedRow, standIns := [], harness := (true, "941c2d36f69a0ee3ce82870923b9d39124aaf6e6aba0b17a7483d67650bf7116"), looks := true }, kinds := [], alts := [], laidByText := true, laidKinds := [.data, .data, .data], laidTests := true, laidLooks := .later }
def TreeMovedCardSaid : Prop := Claim7.holds Tryd.pinned (.plain (OpenSpec.ofChange treeMovedSpec)) treeMovedCard

/-- THE TIED CARD OF 'indenturelaw06.TreeLooks'. -/
def treeLooksCard : Claim7 := { stood := { row := treeLooksRow, standIns := [], harness := (true, "941c2d36f69a0ee3ce82870923b9d39124aaf6e6aba0b17a7483d67650bf7116"), looks := true }, kinds := [], alts := [], laidByText := true, laidKinds := [.data, .data, .data], laidTests := true, laidLooks := .later }
def TreeLooksCardSaid : Prop := Claim7.holds Tryd.pinned (.plain (OpenSpec.ofChange treeLooksSpec)) treeLooksCard

/-- THE TIED CARD OF 'indenturelaw06.TreeFamily'. -/
def treeFamilyCard : Claim7 := { stood := { row := treeFamilyRow, standIns := [], harness := (true, "941c2d36f69a0ee3ce82870923b9d39124aaf6e6aba0b17a7483d67650bf7116"), looks := true }, kinds := [], alts := [], laidByText := true, laidKinds := [.data, .data, .data], laidTests := true, laidLooks := .later }
def TreeFamilyCardSaid : Prop := Claim7.holds Tryd.pinned (.plain (OpenSpec.ofChange treeFamilySpec)) treeFamilyCard

/-- THE TIED CARD OF 'indenturelaw06.TreeTexts'. -/
def treeTextsCard : Claim7 := { stood := { row := treeTextsRow, standIns := [], harness := (true, "941c2d36f69a0ee3ce82870923b9d39124aaf6e6aba0b17a7483d67650bf7116"), looks := true }, kinds := [], alts := [], laidByText := true, laidKinds := [.data, .data, .data, .data, .sentinel, .sentinel, .pinned], laidTests := true, laidLooks := .later }
def TreeTextsCardSaid : Prop := Claim7.holds Tryd.pinned (.plain (OpenSpec.ofChange treeTextsSpec)) treeTextsCard

/-- THE TIED CARD OF 'indenturelaw06.TreeBack'. -/
def treeBackCard : Claim7 := { stood := { row := treeBackRow, standIns := [], harness := (true, "941c2d36f69a0ee3ce82870923b9d39124aaf6e6aba0b17a7483d67650bf7116"), looks := true }, kinds := [], alts := [], laidByText := true, laidKinds := [.data, .data, .data, .data, .sentinel, .sentinel, .pinned], laidTests := true, laidLooks := .later }
def TreeBackCardSaid : Prop := Claim7.holds Tryd.pinned (.plain (OpenSpec.ofChange treeBackSpec)) treeBackCard

/-- THE SECOND FORM's CARD OF 'indenturelaw06.TreeChecks'. -/
def treeChecksUptoCard : Claim7 := { stood := { row := treeChecksUptoRow, standIns := [], harness := (true, "941c2d36f69a0ee3ce82870923b9d39124aaf6e6aba0b17a7483d67650bf7116"), looks := true }, kinds := [], alts := [], laidByText := true, laidKinds := [.data, .data, .data], laidTests := true, laidLooks := .later }
def TreeChecksUptoCardSaid : Prop := Claim7.holds Tryd.pinned (.plain (OpenSpec.upto treeChecksSpec)) treeChecksUptoCard

/-- THE SECOND FORM's CARD OF 'indenturelaw06.TreeAts'. -/
def treeAtsUptoCard : Claim7 := { stood := { row := treeAtsUptoRow, standIns := [], harness := (true, "941c2d36f69a0ee3ce82870923b9d39124aaf6e6aba0b17a7483d67650bf7116"), looks := true }, kinds := [], alts := [], laidByText := true, laidKinds := [.data, .data, .data], laidTests := true, laidLooks := .later }
def TreeAtsUptoCardSaid : Prop := Claim7.holds Tryd.pinned (.plain (OpenSpec.upto treeAtsSpec)) treeAtsUptoCard

/-- THE SECOND FORM's CARD OF 'indenturelaw06.TreeSums'. -/
def treeSumsUptoCard : Claim7 := { stood := { row := treeSumsUptoRow, standIns := [], harness := (true, "941c2d36f69a0ee3ce82870923b9d39124aaf6e6aba0b17a7483d67650bf7116"), looks := true }, kinds := [], alts := [], laidByText := true, laidKinds := [.data, .data, .data], laidTests := true, laidLooks := .later }
def TreeSumsUptoCardSaid : Prop := Claim7.holds Tryd.pinned (.plain (OpenSpec.upto treeSumsSpec)) treeSumsUptoCard

/-- THE SECOND FORM's CARD OF 'indenturelaw06.TreeMoved'. -/
def treeMovedUptoCard : Claim7 := { stood := { row := treeMovedUptoRow, standIns := [], harness := (true, "941c2d36f69a0ee3ce82870923b9d39124aaf6e6aba0b17a7483d67650bf7116"), looks := true }, kinds := [], alts := [], laidByText := true, laidKinds := [.data, .data, .data], laidTests := true, laidLooks := .later }
def TreeMovedUptoCardSaid : Prop := Claim7.holds Tryd.pinned (.plain (OpenSpec.upto treeMovedSpec)) treeMovedUptoCard

/-- THE SECOND FORM's CARD OF 'indenturelaw06.TreeLooks'. -/
def treeLooksUptoCard : Claim7 := { stood := { row := treeLooksUptoRow, standIns := [], harness := (true, "941c2d36f69a0ee3ce82870923b9d39124aaf6e6aba0b17a7483d67650bf7116"), looks := true }, kinds := [], alts := [], laidByText := true, laidKinds := [.data, .data, .data], laidTests := true, laidLooks := .later }
def TreeLooksUptoCardSaid : Prop := Claim7.holds Tryd.pinned (.plain (OpenSpec.upto treeLooksSpec)) treeLooksUptoCard

/-- THE SECOND FORM's CARD OF 'indenturelaw06.TreeFamily'. -/
def treeFamilyUptoCard : Claim7 := { stood := { row := treeFamilyUptoRow, standIns := [], harness := (true, "941c2d36f69a0ee3ce82870923b9d39124aaf6e6aba0b17a7483d67650bf7116"), looks := true }, kinds := [], alts := [], laidByText := true, laidKinds := [.data, .data, .data], laidTests := true, laidLooks := .later }
def TreeFamilyUptoCardSaid : Prop := Claim7.holds Tryd.pinned (.plain (OpenSpec.upto treeFamilySpec)) treeFamilyUptoCard

/-- THE SECOND FORM's CARD OF 'indenturelaw06.TreeTexts'. -/
def treeTextsUptoCard : Claim7 := { stood := { row := treeTextsUptoRow, standIns := [], harness := (true, "941c2d36f69a0ee3ce82870923b9d39124aaf6e6aba0b17a7483d67650bf7116"), looks := true }, kinds := [], alts := [], laidByText := true, laidKinds := [.data, .data, .data, .data, .sentinel, .sentinel, .pinned], laidTests := true, laidLooks := .later }
def TreeTextsUptoCardSaid : Prop := Claim7.holds Tryd.pinned (.plain (OpenSpec.upto treeTextsSpec)) treeTextsUptoCard

/-- THE SECOND FORM's CARD OF 'indenturelaw06.TreeBack'. -/
def treeBackUptoCard : Claim7 := { stood := { row := treeBackUptoRow, standIns := [], harness := (true, "941c2d36f69a0ee3ce82870923b9d39124aaf6e6aba0b17a7483d67650bf7116"), looks := true }, kinds := [], alts := [], laidByText := true, laidKinds := [.data, .data, .data, .data, .sentinel, .sentinel, .pinned], laidTests := true, laidLooks := .later }
def TreeBackUptoCardSaid : Prop := Claim7.holds Tryd.pinned (.plain (OpenSpec.upto treeBackSpec)) treeBackUptoCard
end Rows
end Go.Proofs.YtnmfdjmejpioiaaDoor
