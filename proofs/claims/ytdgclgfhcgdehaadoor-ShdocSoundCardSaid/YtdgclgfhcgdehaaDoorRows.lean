/-
  NARROWER THAN 'FOR EVERY INPUT', by the rows' own cells (each row's printed sentence says how): ShdocScans: laid · ShdocEnds: laid · ShdocLines: laid · ShdocDoc: laid · ShdocAny: laid · ShdocSound: laid.
  DERIVED. THE GIVEN ROWS OF THIS SEAT. 6 by the template 'for every input the law returns true; each argument reads behind the call as it read before'; 0 by the template 'total and deterministic' (their statements: YtdgclgfhcgdehaaDoorTotals.lean).
  GIVEN WITH THE SEED: the statements are not yours to turn. If you find one false, say at which input.
  Laid BY PROGRAM, IN A SANDBOX (cutbox-rows.mjs): the forced cells as the released guide's own fill.sh prints them over the translation 329b0b20142a66ab… (all of the seat's roots in one cut). By AI agents, Wed Nov 11 2026. No macro, syntax, notation, axiom, sorry.
-/
import Derived.Test.YtdgclgfhcgdehaaDoorChecked
import GoSem.PinnedTables
import GoSem.Claim
import GoSem.ClaimJoined
import GoSem.ClaimMapViews
import Derived.JoinedTies
import Derived.KernelRfl
namespace Go.Proofs.YtdgclgfhcgdehaaDoor
/- THE CELL 'sum', in the pinned program and in every row, IS THE sha256 OF THE DUMP (.gsa) THAT YtdgclgfhcgdehaaDoorProg.lean LOADS. Nothing in Lean hashes anything: it is a label: what it is worth is what the hold of that sum in a sandbox is worth. -/
noncomputable def Tryd.pinned : Pinned := { name := "ytdgclgfhcgdehaadoor", sum := "329b0b20142a66ab4bb8ba7a2d601543dadfe7acbbd7b76f1cb6412efc4e524c", checked := Tryd.checked }
namespace Rows
def none {H : Type} : Left H := { results := [], args := [] }

/- WHAT THE LISTED PACKAGE-LEVEL VARIABLES READ AS WHEN THE CALL BEGINS. Each datum BY PROGRAM (the guide's laid-datum.mjs) off the statement by which the dump's own 'gosem.cut.vars' lays the variable. In a bare row this is a premise. The card (YtdgclgfhcgdehaaDoorCards.lean) ties it to the program's text. -/
def laid_unicode_utf8_acceptRanges {H : Type} : DataW H := .agg [.agg [.lit (.int .u8 128), .lit (.int .u8 191)], .agg [.lit (.int .u8 160), .lit (.int .u8 191)], .agg [.lit (.int .u8 128), .lit (.int .u8 159)], .agg [.lit (.int .u8 144), .lit (.int .u8 191)], .agg [.lit (.int .u8 128), .lit (.int .u8 143)], .agg [.lit (.int .u8 0), .lit (.int .u8 0)], .agg [.lit (.int .u8 0), .lit (.int .u8 0)], .agg [.lit (.int .u8 0), .lit (.int .u8 0)], .agg [.lit (.int .u8 0), .lit (.int .u8 0)], .agg [.lit (.int .u8 0), .lit (.int .u8 0)], .agg [.lit (.int .u8 0), .lit (.int .u8 0)], .agg [.lit (.int .u8 0), .lit (.int .u8 0)], .agg [.lit (.int .u8 0), .lit (.int .u8 0)], .agg [.lit (.int .u8 0), .lit (.int .u8 0)], .agg [.lit (.int .u8 0), .lit (.int .u8 0)], .agg [.lit (.int .u8 0), .lit (.int .u8 0)]]
def laid_indenture_shword_operators {H : Type} : DataW H := .agg [.lit (.string [60, 60, 45]), .lit (.string [38, 38]), .lit (.string [124, 124]), .lit (.string [59, 59]), .lit (.string [60, 60]), .lit (.string [62, 62]), .lit (.string [60, 38]), .lit (.string [62, 38]), .lit (.string [60, 62]), .lit (.string [62, 124]), .lit (.string [38]), .lit (.string [124]), .lit (.string [59]), .lit (.string [60]), .lit (.string [62]), .lit (.string [40]), .lit (.string [41])]
/-- One of Go's own tables, pinned by name: the form's constant. -/
def laid_unicode_utf8_first : DataW Unit := Go.Pinned.utf8First

/-- 'indenturelaw16.ShdocScans': WHATEVER THE INPUT: true; the input reads as it did. -/
def shdocScansSpec : ChangeSpec := { name := "shdocScans", fn := fun _ => fun
  | [d1, d2] => { results := [.lit (.bool true)], args := [d1, d2] }
  | _ => none }
def shdocScansRow : OpenClaim := { program := "ytdgclgfhcgdehaadoor", sum := "329b0b20142a66ab4bb8ba7a2d601543dadfe7acbbd7b76f1cb6412efc4e524c", func := "indenture/indenturelaw16.ShdocScans", spec := "shdocScans", inPlace := ["internal/abi.NoEscape", "internal/bytealg.IndexByteString", "internal/bytealg.IndexString"], unfollowed := true, recurses := true, named := ["indenture/shword.operators", "internal/bytealg.MaxLen", "unicode/utf8.first", "unicode/utf8.acceptRanges"], apart := false, laid := [("unicode/utf8.acceptRanges", laid_unicode_utf8_acceptRanges), ("indenture/shword.operators", laid_indenture_shword_operators), ("unicode/utf8.first", laid_unicode_utf8_first)] }
def ShdocScansSaid : Prop := shdocScansRow.holds Tryd.pinned (OpenSpec.ofChange shdocScansSpec)

/-- ITS FALSE NEIGHBOUR: 'it returns false'. Refute it at one input. -/
def shdocScansWrong : ChangeSpec := { name := "shdocScans", fn := fun _ => fun
  | [d1, d2] => { results := [.lit (.bool false)], args := [d1, d2] }
  | _ => none }
def ShdocScansWrongFalsely : Prop := shdocScansRow.holds Tryd.pinned (OpenSpec.ofChange shdocScansWrong)

/-- 'indenturelaw16.ShdocEnds': WHATEVER THE INPUT: true; the input reads as it did. -/
def shdocEndsSpec : ChangeSpec := { name := "shdocEnds", fn := fun _ => fun
  | [d] => { results := [.lit (.bool true)], args := [d] }
  | _ => none }
def shdocEndsRow : OpenClaim := { program := "ytdgclgfhcgdehaadoor", sum := "329b0b20142a66ab4bb8ba7a2d601543dadfe7acbbd7b76f1cb6412efc4e524c", func := "indenture/indenturelaw16.ShdocEnds", spec := "shdocEnds", inPlace := ["internal/abi.NoEscape", "internal/bytealg.IndexByteString", "internal/bytealg.IndexString"], unfollowed := true, recurses := true, named := ["indenture/shword.operators", "internal/bytealg.MaxLen", "unicode/utf8.first", "unicode/utf8.acceptRanges"], apart := false, laid := [("unicode/utf8.acceptRanges", laid_unicode_utf8_acceptRanges), ("indenture/shword.operators", laid_indenture_shword_operators), ("unicode/utf8.first", laid_unicode_utf8_first)] }
def ShdocEndsSaid : Prop := shdocEndsRow.holds Tryd.pinned (OpenSpec.ofChange shdocEndsSpec)

/-- ITS FALSE NEIGHBOUR: 'it returns false'. Refute it at one input. -/
def shdocEndsWrong : ChangeSpec := { name := "shdocEnds", fn := fun _ => fun
  | [d] => { results := [.lit (.bool false)], args := [d] }
  | _ => none }
def ShdocEndsWrongFalsely : Prop := shdocEndsRow.holds Tryd.pinned (OpenSpec.ofChange shdocEndsWrong)

/-- 'indenturelaw16.ShdocLines': WHATEVER THE INPUT: true; the input reads as it did. -/
def shdocLinesSpec : ChangeSpec := { name := "shdocLines", fn := fun _ => fun
  | [d] => { results := [.lit (.bool true)], args := [d] }
  | _ => none }
def shdocLinesRow : OpenClaim := { program := "ytdgclgfhcgdehaadoor", sum := "329b0b20142a66ab4bb8ba7a2d601543dadfe7acbbd7b76f1cb6412efc4e524c", func := "indenture/indenturelaw16.ShdocLines", spec := "shdocLines", inPlace := ["internal/abi.NoEscape", "internal/bytealg.IndexByteString", "internal/bytealg.IndexString"], unfollowed := true, recurses := true, named := ["indenture/shword.operators", "internal/bytealg.MaxLen", "unicode/utf8.first", "unicode/utf8.acceptRanges"], apart := false, laid := [("unicode/utf8.acceptRanges", laid_unicode_utf8_acceptRanges), ("indenture/shword.operators", laid_indenture_shword_operators), ("unicode/utf8.first", laid_unicode_utf8_first)] }
def ShdocLinesSaid : Prop := shdocLinesRow.holds Tryd.pinned (OpenSpec.ofChange shdocLinesSpec)

/-- ITS FALSE NEIGHBOUR: 'it returns false'. Refute it at one input. -/
def shdocLinesWrong : ChangeSpec := { name := "shdocLines", fn := fun _ => fun
  | [d] => { results := [.lit (.bool false)], args := [d] }
  | _ => none }
def ShdocLinesWrongFalsely : Prop := shdocLinesRow.holds Tryd.pinned (OpenSpec.ofChange shdocLinesWrong)

/-- 'indenturelaw16.ShdocDoc': WHATEVER THE INPUT: true; the input reads as it did. -/
def shdocDocSpec : ChangeSpec := { name := "shdocDoc", fn := fun _ => fun
  | [d1, d2, d3] => { results := [.lit (.bool true)], args := [d1, d2, d3] }
  | _ => none }
def shdocDocRow : OpenClaim := { program := "ytdgclgfhcgdehaadoor", sum := "329b0b20142a66ab4bb8ba7a2d601543dadfe7acbbd7b76f1cb6412efc4e524c", func := "indenture/indenturelaw16.ShdocDoc", spec := "shdocDoc", inPlace := ["internal/abi.NoEscape", "internal/bytealg.IndexByteString", "internal/bytealg.IndexString"], unfollowed := true, recurses := true, named := ["indenture/shword.operators", "internal/bytealg.MaxLen", "unicode/utf8.first", "unicode/utf8.acceptRanges"], apart := false, laid := [("unicode/utf8.acceptRanges", laid_unicode_utf8_acceptRanges), ("indenture/shword.operators", laid_indenture_shword_operators), ("unicode/utf8.first", laid_unicode_utf8_first)] }
def ShdocDocSaid : Prop := shdocDocRow.holds Tryd.pinned (OpenSpec.ofChange shdocDocSpec)

/-- ITS FALSE NEIGHBOUR: 'it returns false'. Refute it at one input. -/
def shdocDocWrong : ChangeSpec := { name := "shdocDoc", fn := fun _ => fun
  | [d1, d2, d3] => { results := [.lit (.bool false)], args := [d1, d2, d3] }
  | _ => none }
def ShdocDocWrongFalsely : Prop := shdocDocRow.holds Tryd.pinned (OpenSpec.ofChange shdocDocWrong)

/-- 'indenturelaw16.ShdocAny': WHATEVER THE INPUT: true; the input reads as it did. -/
def shdocAnySpec : ChangeSpec := { name := "shdocAny", fn := fun _ => fun
  | [d1, d2] => { results := [.lit (.bool true)], args := [d1, d2] }
  | _ => none }
def shdocAnyRow : OpenClaim := { program := "ytdgclgfhcgdehaadoor", sum := "329b0b20142a66ab4bb8ba7a2d601543dadfe7acbbd7b76f1cb6412efc4e524c", func := "indenture/indenturelaw16.ShdocAny", spec := "shdocAny", inPlace := ["internal/abi.NoEscape", "internal/bytealg.IndexByteString", "internal/bytealg.IndexString"], unfollowed := true, recurses := true, named := ["indenture/shword.operators", "internal/bytealg.MaxLen", "unicode/utf8.first", "unicode/utf8.acceptRanges"], apart := false, laid := [("unicode/utf8.acceptRanges", laid_unicode_utf8_acceptRanges), ("indenture/shword.operators", laid_indenture_shword_operators), ("unicode/utf8.first", laid_unicode_utf8_first)] }
def ShdocAnySaid : Prop := shdocAnyRow.holds Tryd.pinned (OpenSpec.ofChange shdocAnySpec)

/-- ITS FALSE NEIGHBOUR: 'it returns false'. Refute it at one input. -/
def shdocAnyWrong : ChangeSpec := { name := "shdocAny", fn := fun _ => fun
  | [d1, d2] => { results := [.lit (.bool false)], args := [d1, d2] }
  | _ => none }
def ShdocAnyWrongFalsely : Prop := shdocAnyRow.holds Tryd.pinned (OpenSpec.ofChange shdocAnyWrong)

/-- 'indenturelaw16.ShdocSound': WHATEVER THE INPUT: true; the input reads as it did. -/
def shdocSoundSpec : ChangeSpec := { name := "shdocSound", fn := fun _ => fun
  | [d] => { results := [.lit (.bool true)], args := [d] }
  | _ => none }
def shdocSoundRow : OpenClaim := { program := "ytdgclgfhcgdehaadoor", sum := "329b0b20142a66ab4bb8ba7a2d601543dadfe7acbbd7b76f1cb6412efc4e524c", func := "indenture/indenturelaw16.ShdocSound", spec := "shdocSound", inPlace := ["internal/abi.NoEscape", "internal/bytealg.IndexByteString", "internal/bytealg.IndexString"], unfollowed := true, recurses := true, named := ["indenture/shword.operators", "internal/bytealg.MaxLen", "unicode/utf8.first", "unicode/utf8.acceptRanges"], apart := false, laid := [("unicode/utf8.acceptRanges", laid_unicode_utf8_acceptRanges), ("indenture/shword.operators", laid_indenture_shword_operators), ("unicode/utf8.first", laid_unicode_utf8_first)] }
def ShdocSoundSaid : Prop := shdocSoundRow.holds Tryd.pinned (OpenSpec.ofChange shdocSoundSpec)

/-- ITS FALSE NEIGHBOUR: 'it returns false'. Refute it at one input. -/
def shdocSoundWrong : ChangeSpec := { name := "shdocSound", fn := fun _ => fun
  | [d] => { results := [.lit (.bool false)], args := [d] }
  | _ => none }
def ShdocSoundWrongFalsely : Prop := shdocSoundRow.holds Tryd.pinned (OpenSpec.ofChange shdocSoundWrong)

/- THE SECOND FORM. 'bulk': how many values and letters a reading holds, each counted each time it is reached (what is shared counts as often as it is met; a slice's spare places count too). A statement '..UptoSaid' is the law's where the arguments, and the package variables that the reading takes, are together of bulk at most 1048576: NARROWER than '..Said'. Prove '..Said' where nothing that the law and all that it calls make is longer than what came in: it says more and counts as full. Else prove '..UptoSaid'. A law counts once. -/
mutual
def uptoBulk {H : Type} : DataW H → Nat
  | .lit (.string bytes) => bytes.length + 1
  | .lit _ => 1
  | .nil => 1
  | .ptr d => uptoBulk d + 1
  | .slice elems spare => uptoBulkAll elems + uptoBulkAll spare + 1
  | .agg parts => uptoBulkAll parts + 1
  | .iface _ d => uptoBulk d + 1
  | .map entries => uptoBulkEntries entries + 1
  | .held _ => 1
def uptoBulkAll {H : Type} : List (DataW H) → Nat
  | [] => 0
  | d :: r => uptoBulk d + uptoBulkAll r
def uptoBulkEntries {H : Type} : List (Lit × DataW H) → Nat
  | [] => 0
  | x :: r => uptoBulkEntry x + uptoBulkEntries r
def uptoBulkEntry {H : Type} : Lit × DataW H → Nat
  | (.string bytes, d) => bytes.length + uptoBulk d + 1
  | (_, d) => uptoBulk d + 1
 end
def uptoSmall : (H : Type) → List (DataW H) → Bool := fun _ ds => decide (uptoBulkAll ds ≤ 1048576)
def OpenSpec.upto (s : _root_.Go.ChangeSpec) : _root_.Go.OpenSpec := { _root_.Go.OpenSpec.ofChange s with cond := some uptoSmall }

/-- 'indenturelaw16.ShdocScans', WHERE WHAT IT READS IS OF BULK AT MOST 1048576: true; the input reads as it did. -/
def shdocScansUptoRow : OpenClaim := { program := "ytdgclgfhcgdehaadoor", sum := "329b0b20142a66ab4bb8ba7a2d601543dadfe7acbbd7b76f1cb6412efc4e524c", func := "indenture/indenturelaw16.ShdocScans", spec := "shdocScans", inPlace := ["internal/abi.NoEscape", "internal/bytealg.IndexByteString", "internal/bytealg.IndexString"], unfollowed := true, recurses := true, named := ["indenture/shword.operators", "internal/bytealg.MaxLen", "unicode/utf8.first", "unicode/utf8.acceptRanges"], apart := false, laid := [("unicode/utf8.acceptRanges", laid_unicode_utf8_acceptRanges), ("indenture/shword.operators", laid_indenture_shword_operators), ("unicode/utf8.first", laid_unicode_utf8_first)], narrowed := true }
def ShdocScansUptoSaid : Prop := shdocScansUptoRow.holds Tryd.pinned (OpenSpec.upto shdocScansSpec)

/-- 'indenturelaw16.ShdocEnds', WHERE WHAT IT READS IS OF BULK AT MOST 1048576: true; the input reads as it did. -/
def shdocEndsUptoRow : OpenClaim := { program := "ytdgclgfhcgdehaadoor", sum := "329b0b20142a66ab4bb8ba7a2d601543dadfe7acbbd7b76f1cb6412efc4e524c", func := "indenture/indenturelaw16.ShdocEnds", spec := "shdocEnds", inPlace := ["internal/abi.NoEscape", "internal/bytealg.IndexByteString", "internal/bytealg.IndexString"], unfollowed := true, recurses := true, named := ["indenture/shword.operators", "internal/bytealg.MaxLen", "unicode/utf8.first", "unicode/utf8.acceptRanges"], apart := false, laid := [("unicode/utf8.acceptRanges", laid_unicode_utf8_acceptRanges), ("indenture/shword.operators", laid_indenture_shword_operators), ("unicode/utf8.first", laid_unicode_utf8_first)], narrowed := true }
def ShdocEndsUptoSaid : Prop := shdocEndsUptoRow.holds Tryd.pinned (OpenSpec.upto shdocEndsSpec)

/-- 'indenturelaw16.ShdocLines', WHERE WHAT IT READS IS OF BULK AT MOST 1048576: true; the input reads as it did. -/
def shdocLinesUptoRow : OpenClaim := { program := "ytdgclgfhcgdehaadoor", sum := "329b0b20142a66ab4bb8ba7a2d601543dadfe7acbbd7b76f1cb6412efc4e524c", func := "indenture/indenturelaw16.ShdocLines", spec := "shdocLines", inPlace := ["internal/abi.NoEscape", "internal/bytealg.IndexByteString", "internal/bytealg.IndexString"], unfollowed := true, recurses := true, named := ["indenture/shword.operators", "internal/bytealg.MaxLen", "unicode/utf8.first", "unicode/utf8.acceptRanges"], apart := false, laid := [("unicode/utf8.acceptRanges", laid_unicode_utf8_acceptRanges), ("indenture/shword.operators", laid_indenture_shword_operators), ("unicode/utf8.first", laid_unicode_utf8_first)], narrowed := true }
def ShdocLinesUptoSaid : Prop := shdocLinesUptoRow.holds Tryd.pinned (OpenSpec.upto shdocLinesSpec)

/-- 'indenturelaw16.ShdocDoc', WHERE WHAT IT READS IS OF BULK AT MOST 1048576: true; the input reads as it did. -/
def shdocDocUptoRow : OpenClaim := { program := "ytdgclgfhcgdehaadoor", sum := "329b0b20142a66ab4bb8ba7a2d601543dadfe7acbbd7b76f1cb6412efc4e524c", func := "indenture/indenturelaw16.ShdocDoc", spec := "shdocDoc", inPlace := ["internal/abi.NoEscape", "internal/bytealg.IndexByteString", "internal/bytealg.IndexString"], unfollowed := true, recurses := true, named := ["indenture/shword.operators", "internal/bytealg.MaxLen", "unicode/utf8.first", "unicode/utf8.acceptRanges"], apart := false, laid := [("unicode/utf8.acceptRanges", laid_unicode_utf8_acceptRanges), ("indenture/shword.operators", laid_indenture_shword_operators), ("unicode/utf8.first", laid_unicode_utf8_first)], narrowed := true }
def ShdocDocUptoSaid : Prop := shdocDocUptoRow.holds Tryd.pinned (OpenSpec.upto shdocDocSpec)

/-- 'indenturelaw16.ShdocAny', WHERE WHAT IT READS IS OF BULK AT MOST 1048576: true; the input reads as it did. -/
def shdocAnyUptoRow : OpenClaim := { program := "ytdgclgfhcgdehaadoor", sum := "329b0b20142a66ab4bb8ba7a2d601543dadfe7acbbd7b76f1cb6412efc4e524c", func := "indenture/indenturelaw16.ShdocAny", spec := "shdocAny", inPlace := ["internal/abi.NoEscape", "internal/bytealg.IndexByteString", "internal/bytealg.IndexString"], unfollowed := true, recurses := true, named := ["indenture/shword.operators", "internal/bytealg.MaxLen", "unicode/utf8.first", "unicode/utf8.acceptRanges"], apart := false, laid := [("unicode/utf8.acceptRanges", laid_unicode_utf8_acceptRanges), ("indenture/shword.operators", laid_indenture_shword_operators), ("unicode/utf8.first", laid_unicode_utf8_first)], narrowed := true }
def ShdocAnyUptoSaid : Prop := shdocAnyUptoRow.holds Tryd.pinned (OpenSpec.upto shdocAnySpec)

/-- 'indenturelaw16.ShdocSound', WHERE WHAT IT READS IS OF BULK AT MOST 1048576: true; the input reads as it did. -/
def shdocSoundUptoRow : OpenClaim := { program := "ytdgclgfhcgdehaadoor", sum := "329b0b20142a66ab4bb8ba7a2d601543dadfe7acbbd7b76f1cb6412efc4e524c", func := "indenture/indenturelaw16.ShdocSound", spec := "shdocSound", inPlace := ["internal/abi.NoEscape", "internal/bytealg.IndexByteString", "internal/bytealg.IndexString"], unfollowed := true, recurses := true, named := ["indenture/shword.operators", "internal/bytealg.MaxLen", "unicode/utf8.first", "unicode/utf8.acceptRanges"], apart := false, laid := [("unicode/utf8.acceptRanges", laid_unicode_utf8_acceptRanges), ("indenture/shword.operators", laid_indenture_shword_operators), ("unicode/utf8.first", laid_unicode_utf8_first)], narrowed := true }
def ShdocSoundUptoSaid : Prop := shdocSoundUptoRow.holds Tryd.pinned (OpenSpec.upto shdocSoundSpec)

end Rows
end Go.Proofs.YtdgclgfhcgdehaaDoor
