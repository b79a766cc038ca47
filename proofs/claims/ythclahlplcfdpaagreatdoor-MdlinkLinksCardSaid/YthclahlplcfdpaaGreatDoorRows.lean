/-
  NARROWER THAN 'FOR EVERY INPUT', by the rows' own cells (each row's printed sentence says how): MdlinkTargets: laid · MdlinkLinks: laid · MdlinkNests: laid · MdlinkLaid: laid · MdlinkMentions: laid · MdlinkFar: laid · MdlinkKnown: laid.
  DERIVED. THE GIVEN ROWS OF THIS SEAT. 7 by the template 'for every input the law returns true; each argument reads behind the call as it read before'; 0 by the template 'total and deterministic' (their statements: YthclahlplcfdpaaGreatDoorTotals.lean).
  GIVEN WITH THE SEED: the statements are not yours to turn. If you find one false, say at which input.
  Laid BY PROGRAM, IN A SANDBOX (cutbox-rows.mjs): the forced cells as the released guide's own fill.sh prints them over the translation 1f376fd31ef1063d… (all of the seat's roots in one cut). By AI agents, Wed Nov 11 2026. No macro, syntax, notation, axiom, sorry.
-/
import Derived.Test.YthclahlplcfdpaaGreatDoorChecked
import GoSem.PinnedTables
import GoSem.Claim
import GoSem.ClaimJoined
import GoSem.ClaimMapViews
import Derived.JoinedTies
import Derived.KernelRfl
namespace Go.Proofs.YthclahlplcfdpaaGreatDoor
/- THE CELL 'sum', in the pinned program and in every row, IS THE sha256 OF THE DUMP (.gsa) THAT YthclahlplcfdpaaGreatDoorProg.lean LOADS. Nothing in Lean hashes anything: it is a label: what it is worth is what the hold of that sum in a sandbox is worth. -/
noncomputable def Tryz.pinned : Pinned := { name := "ythclahlplcfdpaagreatdoor", sum := "1f376fd31ef1063d080ffc60c98ee49af23c25dab6423b832e0bc0765e0070d3", checked := Tryz.checked }
namespace Rows
def none {H : Type} : Left H := { results := [], args := [] }

/- WHAT THE LISTED PACKAGE-LEVEL VARIABLES READ AS WHEN THE CALL BEGINS. Each datum BY PROGRAM (the guide's laid-datum.mjs) off the statement by which the dump's own 'gosem.cut.vars' lays the variable. In a bare row this is a premise. The card (YthclahlplcfdpaaGreatDoorCards.lean) ties it to the program's text. -/
def laid_unicode_utf8_acceptRanges {H : Type} : DataW H := .agg [.agg [.lit (.int .u8 128), .lit (.int .u8 191)], .agg [.lit (.int .u8 160), .lit (.int .u8 191)], .agg [.lit (.int .u8 128), .lit (.int .u8 159)], .agg [.lit (.int .u8 144), .lit (.int .u8 191)], .agg [.lit (.int .u8 128), .lit (.int .u8 143)], .agg [.lit (.int .u8 0), .lit (.int .u8 0)], .agg [.lit (.int .u8 0), .lit (.int .u8 0)], .agg [.lit (.int .u8 0), .lit (.int .u8 0)], .agg [.lit (.int .u8 0), .lit (.int .u8 0)], .agg [.lit (.int .u8 0), .lit (.int .u8 0)], .agg [.lit (.int .u8 0), .lit (.int .u8 0)], .agg [.lit (.int .u8 0), .lit (.int .u8 0)], .agg [.lit (.int .u8 0), .lit (.int .u8 0)], .agg [.lit (.int .u8 0), .lit (.int .u8 0)], .agg [.lit (.int .u8 0), .lit (.int .u8 0)], .agg [.lit (.int .u8 0), .lit (.int .u8 0)]]
/-- One of Go's own tables, pinned by name: the form's constant. -/
def laid_unicode_utf8_first : DataW Unit := Go.Pinned.utf8First

/-- 'indenturelaw22.MdlinkTargets': WHATEVER THE INPUT: true; the input reads as it did. -/
def mdlinkTargetsSpec : ChangeSpec := { name := "mdlinkTargets", fn := fun _ => fun
  | [d1, d2, d3] => { results := [.lit (.bool true)], args := [d1, d2, d3] }
  | _ => none }
def mdlinkTargetsRow : OpenClaim := { program := "ythclahlplcfdpaagreatdoor", sum := "1f376fd31ef1063d080ffc60c98ee49af23c25dab6423b832e0bc0765e0070d3", func := "indenture/indenturelaw22.MdlinkTargets", spec := "mdlinkTargets", inPlace := ["internal/bytealg.IndexByteString", "internal/bytealg.IndexString", "internal/bytealg.CountString", "internal/abi.NoEscape", "internal/bytealg.MakeNoZero", "internal/reflectlite.ValueOf", "internal/reflectlite.Swapper", "(internal/reflectlite.Value).Len"], unfollowed := true, recurses := true, named := ["internal/bytealg.MaxLen", "unicode/utf8.first", "unicode/utf8.acceptRanges"], apart := false, laid := [("unicode/utf8.acceptRanges", laid_unicode_utf8_acceptRanges), ("unicode/utf8.first", laid_unicode_utf8_first)] }
def MdlinkTargetsSaid : Prop := mdlinkTargetsRow.holds Tryz.pinned (OpenSpec.ofChange mdlinkTargetsSpec)

/-- ITS FALSE NEIGHBOUR: 'it returns false'. Refute it at one input. -/
def mdlinkTargetsWrong : ChangeSpec := { name := "mdlinkTargets", fn := fun _ => fun
  | [d1, d2, d3] => { results := [.lit (.bool false)], args := [d1, d2, d3] }
  | _ => none }
def MdlinkTargetsWrongFalsely : Prop := mdlinkTargetsRow.holds Tryz.pinned (OpenSpec.ofChange mdlinkTargetsWrong)

/-- 'indenturelaw22.MdlinkLinks': WHATEVER THE INPUT: true; the input reads as it did. -/
def mdlinkLinksSpec : ChangeSpec := { name := "mdlinkLinks", fn := fun _ => fun
  | [d1, d2, d3, d4] => { results := [.lit (.bool true)], args := [d1, d2, d3, d4] }
  | _ => none }
def mdlinkLinksRow : OpenClaim := { program := "ythclahlplcfdpaagreatdoor", sum := "1f376fd31ef1063d080ffc60c98ee49af23c25dab6423b832e0bc0765e0070d3", func := "indenture/indenturelaw22.MdlinkLinks", spec := "mdlinkLinks", inPlace := ["internal/bytealg.IndexByteString", "internal/bytealg.IndexString", "internal/bytealg.CountString", "internal/abi.NoEscape", "internal/bytealg.MakeNoZero", "internal/reflectlite.ValueOf", "internal/reflectlite.Swapper", "(internal/reflectlite.Value).Len"], unfollowed := true, recurses := true, named := ["internal/bytealg.MaxLen", "unicode/utf8.first", "unicode/utf8.acceptRanges"], apart := false, laid := [("unicode/utf8.acceptRanges", laid_unicode_utf8_acceptRanges), ("unicode/utf8.first", laid_unicode_utf8_first)] }
def MdlinkLinksSaid : Prop := mdlinkLinksRow.holds Tryz.pinned (OpenSpec.ofChange mdlinkLinksSpec)

/-- ITS FALSE NEIGHBOUR: 'it returns false'. Refute it at one input. -/
def mdlinkLinksWrong : ChangeSpec := { name := "mdlinkLinks", fn := fun _ => fun
  | [d1, d2, d3, d4] => { results := [.lit (.bool false)], args := [d1, d2, d3, d4] }
  | _ => none }
def MdlinkLinksWrongFalsely : Prop := mdlinkLinksRow.holds Tryz.pinned (OpenSpec.ofChange mdlinkLinksWrong)

/-- 'indenturelaw22.MdlinkNests': WHATEVER THE INPUT: true; the input reads as it did. -/
def mdlinkNestsSpec : ChangeSpec := { name := "mdlinkNests", fn := fun _ => fun
  | [d1, d2, d3, d4] => { results := [.lit (.bool true)], args := [d1, d2, d3, d4] }
  | _ => none }
def mdlinkNestsRow : OpenClaim := { program := "ythclahlplcfdpaagreatdoor", sum := "1f376fd31ef1063d080ffc60c98ee49af23c25dab6423b832e0bc0765e0070d3", func := "indenture/indenturelaw22.MdlinkNests", spec := "mdlinkNests", inPlace := ["internal/bytealg.IndexByteString", "internal/bytealg.IndexString", "internal/bytealg.CountString", "internal/abi.NoEscape", "internal/bytealg.MakeNoZero", "internal/reflectlite.ValueOf", "internal/reflectlite.Swapper", "(internal/reflectlite.Value).Len"], unfollowed := true, recurses := true, named := ["internal/bytealg.MaxLen", "unicode/utf8.first", "unicode/utf8.acceptRanges"], apart := false, laid := [("unicode/utf8.acceptRanges", laid_unicode_utf8_acceptRanges), ("unicode/utf8.first", laid_unicode_utf8_first)] }
def MdlinkNestsSaid : Prop := mdlinkNestsRow.holds Tryz.pinned (OpenSpec.ofChange mdlinkNestsSpec)

/-- ITS FALSE NEIGHBOUR: 'it returns false'. Refute it at one input. -/
def mdlinkNestsWrong : ChangeSpec := { name := "mdlinkNests", fn := fun _ => fun
  | [d1, d2, d3, d4] => { results := [.lit (.bool false)], args := [d1, d2, d3, d4] }
  | _ => none }
def MdlinkNestsWrongFalsely : Prop := mdlinkNestsRow.holds Tryz.pinned (OpenSpec.ofChange mdlinkNestsWrong)

/-- 'indenturelaw22.MdlinkLaid': WHATEVER THE INPUT: true; the input reads as it did. -/
def mdlinkLaidSpec : ChangeSpec := { name := "mdlinkLaid", fn := fun _ => fun
  | [d1, d2, d3, d4, d5, d6] => { results := [.lit (.bool true)], args := [d1, d2, d3, d4, d5, d6] }
  | _ => none }
def mdlinkLaidRow : OpenClaim := { program := "ythclahlplcfdpaagreatdoor", sum := "1f376fd31ef1063d080ffc60c98ee49af23c25dab6423b832e0bc0765e0070d3", func := "indenture/indenturelaw22.MdlinkLaid", spec := "mdlinkLaid", inPlace := ["internal/bytealg.IndexByteString", "internal/bytealg.IndexString", "internal/bytealg.CountString", "internal/abi.NoEscape", "internal/bytealg.MakeNoZero", "internal/reflectlite.ValueOf", "internal/reflectlite.Swapper", "(internal/reflectlite.Value).Len"], unfollowed := true, recurses := true, named := ["internal/bytealg.MaxLen", "unicode/utf8.first", "unicode/utf8.acceptRanges"], apart := false, laid := [("unicode/utf8.acceptRanges", laid_unicode_utf8_acceptRanges), ("unicode/utf8.first", laid_unicode_utf8_first)] }
def MdlinkLaidSaid : Prop := mdlinkLaidRow.holds Tryz.pinned (OpenSpec.ofChange mdlinkLaidSpec)

/-- ITS FALSE NEIGHBOUR: 'it returns false'. Refute it at one input. -/
def mdlinkLaidWrong : ChangeSpec := { name := "mdlinkLaid", fn := fun _ => fun
  | [d1, d2, d3, d4, d5, d6] => { results := [.lit (.bool false)], args := [d1, d2, d3, d4, d5, d6] }
  | _ => none }
def MdlinkLaidWrongFalsely : Prop := mdlinkLaidRow.holds Tryz.pinned (OpenSpec.ofChange mdlinkLaidWrong)

/-- 'indenturelaw22.MdlinkMentions': WHATEVER THE INPUT: true; the input reads as it did. -/
def mdlinkMentionsSpec : ChangeSpec := { name := "mdlinkMentions", fn := fun _ => fun
  | [d1, d2, d3] => { results := [.lit (.bool true)], args := [d1, d2, d3] }
  | _ => none }
def mdlinkMentionsRow : OpenClaim := { program := "ythclahlplcfdpaagreatdoor", sum := "1f376fd31ef1063d080ffc60c98ee49af23c25dab6423b832e0bc0765e0070d3", func := "indenture/indenturelaw22.MdlinkMentions", spec := "mdlinkMentions", inPlace := ["internal/bytealg.IndexByteString", "internal/bytealg.IndexString", "internal/abi.NoEscape", "internal/bytealg.MakeNoZero", "internal/bytealg.CountString", "internal/reflectlite.ValueOf", "internal/reflectlite.Swapper", "(internal/reflectlite.Value).Len"], unfollowed := true, recurses := true, named := ["internal/bytealg.MaxLen", "unicode/utf8.first", "unicode/utf8.acceptRanges"], apart := false, laid := [("unicode/utf8.acceptRanges", laid_unicode_utf8_acceptRanges), ("unicode/utf8.first", laid_unicode_utf8_first)] }
def MdlinkMentionsSaid : Prop := mdlinkMentionsRow.holds Tryz.pinned (OpenSpec.ofChange mdlinkMentionsSpec)

/-- ITS FALSE NEIGHBOUR: 'it returns false'. Refute it at one input. -/
def mdlinkMentionsWrong : ChangeSpec := { name := "mdlinkMentions", fn := fun _ => fun
  | [d1, d2, d3] => { results := [.lit (.bool false)], args := [d1, d2, d3] }
  | _ => none }
def MdlinkMentionsWrongFalsely : Prop := mdlinkMentionsRow.holds Tryz.pinned (OpenSpec.ofChange mdlinkMentionsWrong)

/-- 'indenturelaw22.MdlinkFar': WHATEVER THE INPUT: true; the input reads as it did. -/
def mdlinkFarSpec : ChangeSpec := { name := "mdlinkFar", fn := fun _ => fun
  | [d1, d2, d3, d4, d5] => { results := [.lit (.bool true)], args := [d1, d2, d3, d4, d5] }
  | _ => none }
def mdlinkFarRow : OpenClaim := { program := "ythclahlplcfdpaagreatdoor", sum := "1f376fd31ef1063d080ffc60c98ee49af23c25dab6423b832e0bc0765e0070d3", func := "indenture/indenturelaw22.MdlinkFar", spec := "mdlinkFar", inPlace := ["internal/bytealg.IndexByteString", "internal/bytealg.IndexString", "internal/abi.NoEscape", "internal/bytealg.MakeNoZero", "internal/bytealg.CountString", "internal/reflectlite.ValueOf", "internal/reflectlite.Swapper", "(internal/reflectlite.Value).Len"], unfollowed := true, recurses := true, named := ["internal/bytealg.MaxLen", "unicode/utf8.first", "unicode/utf8.acceptRanges"], apart := false, laid := [("unicode/utf8.acceptRanges", laid_unicode_utf8_acceptRanges), ("unicode/utf8.first", laid_unicode_utf8_first)] }
def MdlinkFarSaid : Prop := mdlinkFarRow.holds Tryz.pinned (OpenSpec.ofChange mdlinkFarSpec)

/-- ITS FALSE NEIGHBOUR: 'it returns false'. Refute it at one input. -/
def mdlinkFarWrong : ChangeSpec := { name := "mdlinkFar", fn := fun _ => fun
  | [d1, d2, d3, d4, d5] => { results := [.lit (.bool false)], args := [d1, d2, d3, d4, d5] }
  | _ => none }
def MdlinkFarWrongFalsely : Prop := mdlinkFarRow.holds Tryz.pinned (OpenSpec.ofChange mdlinkFarWrong)

/-- 'indenturelaw22.MdlinkKnown': WHATEVER THE INPUT: true; the input reads as it did. -/
def mdlinkKnownSpec : ChangeSpec := { name := "mdlinkKnown", fn := fun _ => fun
  | [] => { results := [.lit (.bool true)], args := [] }
  | _ => none }
def mdlinkKnownRow : OpenClaim := { program := "ythclahlplcfdpaagreatdoor", sum := "1f376fd31ef1063d080ffc60c98ee49af23c25dab6423b832e0bc0765e0070d3", func := "indenture/indenturelaw22.MdlinkKnown", spec := "mdlinkKnown", inPlace := ["internal/bytealg.IndexByteString", "internal/bytealg.IndexString", "internal/bytealg.CountString", "internal/abi.NoEscape", "internal/bytealg.MakeNoZero", "internal/reflectlite.ValueOf", "internal/reflectlite.Swapper", "(internal/reflectlite.Value).Len"], unfollowed := true, recurses := true, named := ["internal/bytealg.MaxLen", "unicode/utf8.first", "unicode/utf8.acceptRanges"], apart := false, laid := [("unicode/utf8.acceptRanges", laid_unicode_utf8_acceptRanges), ("unicode/utf8.first", laid_unicode_utf8_first)] }
def MdlinkKnownSaid : Prop := mdlinkKnownRow.holds Tryz.pinned (OpenSpec.ofChange mdlinkKnownSpec)

/-- ITS FALSE NEIGHBOUR: 'it returns false'. Refute it at one input. -/
def mdlinkKnownWrong : ChangeSpec := { name := "mdlinkKnown", fn := fun _ => fun
  | [] => { results := [.lit (.bool false)], args := [] }
  | _ => none }
def MdlinkKnownWrongFalsely : Prop := mdlinkKnownRow.holds Tryz.pinned (OpenSpec.ofChange mdlinkKnownWrong)

/- THE SECOND FORM. 'bulk': how many values and letters a reading holds, each counted each time it is reached (what is shared counts as often as it is met; a slice's spare places count too). A statement '..UptoSaid' is the law's where the arguments, and the package variables that the reading takes, are together of bulk at most 1048576: NARROWER than '..Said'. Prove '..Said' where nothing that the law and all that it calls make is longer than what came in: it says more and counts as full. Else prove '..UptoSaid'. A law counts once. -/
mutual
def uptoBulk {H : Type} : DataW H → Nat
  | .lit (.string bytes) => bytes.length + 1
  | .lit _ => 1
  | .nil => 1
  | .ptr d => uptoBulk d + 1
  | .slice elems spare => uptoBulkAll elems + uptoBulkAll spare + 1
  | .agg parts => uptoBulkAll parts + 1
  | .iface _ d => uptoBulk d + 1
  | .map entries => uptoBulkEntries entries + 1
  | .held _ => 1
def uptoBulkAll {H : Type} : List (DataW H) → Nat
  | [] => 0
  | d :: r => uptoBulk d + uptoBulkAll r
def uptoBulkEntries {H : Type} : List (Lit × DataW H) → Nat
  | [] => 0
  | x :: r => uptoBulkEntry x + uptoBulkEntries r
def uptoBulkEntry {H : Type} : Lit × DataW H → Nat
  | (.string bytes, d) => bytes.length + uptoBulk d + 1
  | (_, d) => uptoBulk d + 1
 end
def uptoSmall : (H : Type) → List (DataW H) → Bool := fun _ ds => decide (uptoBulkAll ds ≤ 1048576)
def OpenSpec.upto (s : _root_.Go.ChangeSpec) : _root_.Go.OpenSpec := { _root_.Go.OpenSpec.ofChange s with cond := some uptoSmall }

/-- 'indenturelaw22.MdlinkTargets', WHERE WHAT IT READS IS OF BULK AT MOST 1048576: true; the input reads as it did. -/
def mdlinkTargetsUptoRow : OpenClaim := { program := "ythclahlplcfdpaagreatdoor", sum := "1f376fd31ef1063d080ffc60c98ee49af23c25dab6423b832e0bc0765e0070d3", func := "indenture/indenturelaw22.MdlinkTargets", spec := "mdlinkTargets", inPlace := ["internal/bytealg.IndexByteString", "internal/bytealg.IndexString", "internal/bytealg.CountString", "internal/abi.NoEscape", "internal/bytealg.MakeNoZero", "internal/reflectlite.ValueOf", "internal/reflectlite.Swapper", "(internal/reflectlite.Value).Len"], unfollowed := true, recurses := true, named := ["internal/bytealg.MaxLen", "unicode/utf8.first", "unicode/utf8.acceptRanges"], apart := false, laid := [("unicode/utf8.acceptRanges", laid_unicode_utf8_acceptRanges), ("unicode/utf8.first", laid_unicode_utf8_first)], narrowed := true }
def MdlinkTargetsUptoSaid : Prop := mdlinkTargetsUptoRow.holds Tryz.pinned (OpenSpec.upto mdlinkTargetsSpec)

/-- 'indenturelaw22.MdlinkLinks', WHERE WHAT IT READS IS OF BULK AT MOST 1048576: true; the input reads as it did. -/
def mdlinkLinksUptoRow : OpenClaim := { program := "ythclahlplcfdpaagreatdoor", sum := "1f376fd31ef1063d080ffc60c98ee49af23c25dab6423b832e0bc0765e0070d3", func := "indenture/indenturelaw22.MdlinkLinks", spec := "mdlinkLinks", inPlace := ["internal/bytealg.IndexByteString", "internal/bytealg.IndexString", "internal/bytealg.CountString", "internal/abi.NoEscape", "internal/bytealg.MakeNoZero", "internal/reflectlite.ValueOf", "internal/reflectlite.Swapper", "(internal/reflectlite.Value).Len"], unfollowed := true, recurses := true, named := ["internal/bytealg.MaxLen", "unicode/utf8.first", "unicode/utf8.acceptRanges"], apart := false, laid := [("unicode/utf8.acceptRanges", laid_unicode_utf8_acceptRanges), ("unicode/utf8.first", laid_unicode_utf8_first)], narrowed := true }
def MdlinkLinksUptoSaid : Prop := mdlinkLinksUptoRow.holds Tryz.pinned (OpenSpec.upto mdlinkLinksSpec)

/-- 'indenturelaw22.MdlinkNests', WHERE WHAT IT READS IS OF BULK AT MOST 1048576: true; the input reads as it did. -/
def mdlinkNestsUptoRow : OpenClaim := { program := "ythclahlplcfdpaagreatdoor", sum := "1f376fd31ef1063d080ffc60c98ee49af23c25dab6423b832e0bc0765e0070d3", func := "indenture/indenturelaw22.MdlinkNests", spec := "mdlinkNests", inPlace := ["internal/bytealg.IndexByteString", "internal/bytealg.IndexString", "internal/bytealg.CountString", "internal/abi.NoEscape", "internal/bytealg.MakeNoZero", "internal/reflectlite.ValueOf", "internal/reflectlite.Swapper", "(internal/reflectlite.Value).Len"], unfollowed := true, recurses := true, named := ["internal/bytealg.MaxLen", "unicode/utf8.first", "unicode/utf8.acceptRanges"], apart := false, laid := [("unicode/utf8.acceptRanges", laid_unicode_utf8_acceptRanges), ("unicode/utf8.first", laid_unicode_utf8_first)], narrowed := true }
def MdlinkNestsUptoSaid : Prop := mdlinkNestsUptoRow.holds Tryz.pinned (OpenSpec.upto mdlinkNestsSpec)

/-- 'indenturelaw22.MdlinkLaid', WHERE WHAT IT READS IS OF BULK AT MOST 1048576: true; the input reads as it did. -/
def mdlinkLaidUptoRow : OpenClaim := { program := "ythclahlplcfdpaagreatdoor", sum := "1f376fd31ef1063d080ffc60c98ee49af23c25dab6423b832e0bc0765e0070d3", func := "indenture/indenturelaw22.MdlinkLaid", spec := "mdlinkLaid", inPlace := ["internal/bytealg.IndexByteString", "internal/bytealg.IndexString", "internal/bytealg.CountString", "internal/abi.NoEscape", "internal/bytealg.MakeNoZero", "internal/reflectlite.ValueOf", "internal/reflectlite.Swapper", "(internal/reflectlite.Value).Len"], unfollowed := true, recurses := true, named := ["internal/bytealg.MaxLen", "unicode/utf8.first", "unicode/utf8.acceptRanges"], apart := false, laid := [("unicode/utf8.acceptRanges", laid_unicode_utf8_acceptRanges), ("unicode/utf8.first", laid_unicode_utf8_first)], narrowed := true }
def MdlinkLaidUptoSaid : Prop := mdlinkLaidUptoRow.holds Tryz.pinned (OpenSpec.upto mdlinkLaidSpec)

/-- 'indenturelaw22.MdlinkMentions', WHERE WHAT IT READS IS OF BULK AT MOST 1048576: true; the input reads as it did. -/
def mdlinkMentionsUptoRow : OpenClaim := { program := "ythclahlplcfdpaagreatdoor", sum := "1f376fd31ef1063d080ffc60c98ee49af23c25dab6423b832e0bc0765e0070d3", func := "indenture/indenturelaw22.MdlinkMentions", spec := "mdlinkMentions", inPlace := ["internal/bytealg.IndexByteString", "internal/bytealg.IndexString", "internal/abi.NoEscape", "internal/bytealg.MakeNoZero", "internal/bytealg.CountString", "internal/reflectlite.ValueOf", "internal/reflectlite.Swapper", "(internal/reflectlite.Value).Len"], unfollowed := true, recurses := true, named := ["internal/bytealg.MaxLen", "unicode/utf8.first", "unicode/utf8.acceptRanges"], apart := false, laid := [("unicode/utf8.acceptRanges", laid_unicode_utf8_acceptRanges), ("unicode/utf8.first", laid_unicode_utf8_first)], narrowed := true }
def MdlinkMentionsUptoSaid : Prop := mdlinkMentionsUptoRow.holds Tryz.pinned (OpenSpec.upto mdlinkMentionsSpec)

/-- 'indenturelaw22.MdlinkFar', WHERE WHAT IT READS IS OF BULK AT MOST 1048576: true; the input reads as it did. -/
def mdlinkFarUptoRow : OpenClaim := { program := "ythclahlplcfdpaagreatdoor", sum := "1f376fd31ef1063d080ffc60c98ee49af23c25dab6423b832e0bc0765e0070d3", func := "indenture/indenturelaw22.MdlinkFar", spec := "mdlinkFar", inPlace := ["internal/bytealg.IndexByteString", "internal/bytealg.IndexString", "internal/abi.NoEscape", "internal/bytealg.MakeNoZero", "internal/bytealg.CountString", "internal/reflectlite.ValueOf", "internal/reflectlite.Swapper", "(internal/reflectlite.Value).Len"], unfollowed := true, recurses := true, named := ["internal/bytealg.MaxLen", "unicode/utf8.first", "unicode/utf8.acceptRanges"], apart := false, laid := [("unicode/utf8.acceptRanges", laid_unicode_utf8_acceptRanges), ("unicode/utf8.first", laid_unicode_utf8_first)], narrowed := true }
def MdlinkFarUptoSaid : Prop := mdlinkFarUptoRow.holds Tryz.pinned (OpenSpec.upto mdlinkFarSpec)

/-- 'indenturelaw22.MdlinkKnown', WHERE WHAT IT READS IS OF BULK AT MOST 1048576: true; the input reads as it did. -/
def mdlinkKnownUptoRow : OpenClaim := { program := "ythclahlplcfdpaagreatdoor", sum := "1f376fd31ef1063d080ffc60c98ee49af23c25dab6423b832e0bc0765e0070d3", func := "indenture/indenturelaw22.MdlinkKnown", spec := "mdlinkKnown", inPlace := ["internal/bytealg.IndexByteString", "internal/bytealg.IndexString", "internal/bytealg.CountString", "internal/abi.NoEscape", "internal/bytealg.MakeNoZero", "internal/reflectlite.ValueOf", "internal/reflectlite.Swapper", "(internal/reflectlite.Value).Len"], unfollowed := true, recurses := true, named := ["internal/bytealg.MaxLen", "unicode/utf8.first", "unicode/utf8.acceptRanges"], apart := false, laid := [("unicode/utf8.acceptRanges", laid_unicode_utf8_acceptRanges), ("unicode/utf8.first", laid_unicode_utf8_first)], narrowed := true }
def MdlinkKnownUptoSaid : Prop := mdlinkKnownUptoRow.holds Tryz.pinned (OpenSpec.upto mdlinkKnownSpec)

end Rows
end Go.Proofs.YthclahlplcfdpaaGreatDoor
