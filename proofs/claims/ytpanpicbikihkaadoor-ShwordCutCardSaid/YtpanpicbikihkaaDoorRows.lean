/-
  NARROWER THAN 'FOR EVERY INPUT', by the rows' own cells (each row's printed sentence says how): ShwordReads: laid · ShwordOps: laid · ShwordTile: laid · ShwordQuoted: laid · ShwordCut: laid.
  DERIVED. THE GIVEN ROWS OF THIS SEAT. 5 by the template 'for every input the law returns true; each argument reads behind the call as it read before'; 0 by the template 'total and deterministic' (their statements: YtpanpicbikihkaaDoorTotals.lean).
  GIVEN WITH THE SEED: the statements are not yours to turn. If you find one false, say at which input.
  Laid BY PROGRAM, IN A SANDBOX (cutbox-rows.mjs): the forced cells as the released guide's own fill.sh prints them over the translation ea78fd4feacf4a50… (all of the seat's roots in one cut). By AI agents, Wed Nov 11 2026. No macro, syntax, notation, axiom, sorry.
-/
import Derived.Test.YtpanpicbikihkaaDoorChecked
import GoSem.Claim
import GoSem.ClaimJoined
import GoSem.ClaimMapViews
import Derived.JoinedTies
import Derived.KernelRfl
namespace Go.Proofs.YtpanpicbikihkaaDoor
/- THE CELL 'sum', in the pinned program and in every row, IS THE sha256 OF THE DUMP (.gsa) THAT YtpanpicbikihkaaDoorProg.lean LOADS. Nothing in Lean hashes anything: it is a label: what it is worth is what the hold of that sum in a sandbox is worth. -/
noncomputable def Tryd.pinned : Pinned := { name := "ytpanpicbikihkaadoor", sum := "ea78fd4feacf4a50e8fc4bff16b5c877fd3d7792a7eec886ec37544b799e4c12", checked := Tryd.checked }
namespace Rows
def none {H : Type} : Left H := { results := [], args := [] }

/- WHAT THE LISTED PACKAGE-LEVEL VARIABLES READ AS WHEN THE CALL BEGINS. Each datum BY PROGRAM (the guide's laid-datum.mjs) off the statement by which the dump's own 'gosem.cut.vars' lays the variable. In a bare row this is a premise. The card (YtpanpicbikihkaaDoorCards.lean) ties it to the program's text. -/
def laid_indenture_shword_operators {H : Type} : DataW H := .agg [.lit (.string [60, 60, 45]), .lit (.string [38, 38]), .lit (.string [124, 124]), .lit (.string [59, 59]), .lit (.string [60, 60]), .lit (.string [62, 62]), .lit (.string [60, 38]), .lit (.string [62, 38]), .lit (.string [60, 62]), .lit (.string [62, 124]), .lit (.string [38]), .lit (.string [124]), .lit (.string [59]), .lit (.string [60]), .lit (.string [62]), .lit (.string [40]), .lit (.string [41])]

/-- 'indenturelaw15.ShwordReads': WHATEVER THE INPUT: true; the input reads as it did. -/
def shwordReadsSpec : ChangeSpec := { name := "shwordReads", fn := fun _ => fun
  | [d1, d2, d3] => { results := [.lit (.bool true)], args := [d1, d2, d3] }
  | _ => none }
def shwordReadsRow : OpenClaim := { program := "ytpanpicbikihkaadoor", sum := "ea78fd4feacf4a50e8fc4bff16b5c877fd3d7792a7eec886ec37544b799e4c12", func := "indenture/indenturelaw15.ShwordReads", spec := "shwordReads", inPlace := ["internal/abi.NoEscape", "internal/bytealg.IndexByteString"], unfollowed := true, recurses := true, named := ["indenture/shword.operators"], apart := false, laid := [("indenture/shword.operators", laid_indenture_shword_operators)] }
def ShwordReadsSaid : Prop := shwordReadsRow.holds Tryd.pinned (OpenSpec.ofChange shwordReadsSpec)

/-- ITS FALSE NEIGHBOUR: 'it returns false'. Refute it at one input. -/
def shwordReadsWrong : ChangeSpec := { name := "shwordReads", fn := fun _ => fun
  | [d1, d2, d3] => { results := [.lit (.bool false)], args := [d1, d2, d3] }
  | _ => none }
def ShwordReadsWrongFalsely : Prop := shwordReadsRow.holds Tryd.pinned (OpenSpec.ofChange shwordReadsWrong)

/-- 'indenturelaw15.ShwordOps': WHATEVER THE INPUT: true; the input reads as it did. -/
def shwordOpsSpec : ChangeSpec := { name := "shwordOps", fn := fun _ => fun
  | [d1, d2] => { results := [.lit (.bool true)], args := [d1, d2] }
  | _ => none }
def shwordOpsRow : OpenClaim := { program := "ytpanpicbikihkaadoor", sum := "ea78fd4feacf4a50e8fc4bff16b5c877fd3d7792a7eec886ec37544b799e4c12", func := "indenture/indenturelaw15.ShwordOps", spec := "shwordOps", inPlace := ["internal/abi.NoEscape", "internal/bytealg.IndexByteString"], unfollowed := true, recurses := true, named := ["indenture/shword.operators"], apart := false, laid := [("indenture/shword.operators", laid_indenture_shword_operators)] }
def ShwordOpsSaid : Prop := shwordOpsRow.holds Tryd.pinned (OpenSpec.ofChange shwordOpsSpec)

/-- ITS FALSE NEIGHBOUR: 'it returns false'. Refute it at one input. -/
def shwordOpsWrong : ChangeSpec := { name := "shwordOps", fn := fun _ => fun
  | [d1, d2] => { results := [.lit (.bool false)], args := [d1, d2] }
  | _ => none }
def ShwordOpsWrongFalsely : Prop := shwordOpsRow.holds Tryd.pinned (OpenSpec.ofChange shwordOpsWrong)

/-- 'indenturelaw15.ShwordTile': WHATEVER THE INPUT: true; the input reads as it did. -/
def shwordTileSpec : ChangeSpec := { name := "shwordTile", fn := fun _ => fun
  | [d1, d2, d3] => { results := [.lit (.bool true)], args := [d1, d2, d3] }
  | _ => none }
def shwordTileRow : OpenClaim := { program := "ytpanpicbikihkaadoor", sum := "ea78fd4feacf4a50e8fc4bff16b5c877fd3d7792a7eec886ec37544b799e4c12", func := "indenture/indenturelaw15.ShwordTile", spec := "shwordTile", inPlace := ["internal/abi.NoEscape", "internal/bytealg.IndexByteString"], unfollowed := true, recurses := true, named := ["indenture/shword.operators"], apart := false, laid := [("indenture/shword.operators", laid_indenture_shword_operators)] }
def ShwordTileSaid : Prop := shwordTileRow.holds Tryd.pinned (OpenSpec.ofChange shwordTileSpec)

/-- ITS FALSE NEIGHBOUR: 'it returns false'. Refute it at one input. -/
def shwordTileWrong : ChangeSpec := { name := "shwordTile", fn := fun _ => fun
  | [d1, d2, d3] => { results := [.lit (.bool false)], args := [d1, d2, d3] }
  | _ => none }
def ShwordTileWrongFalsely : Prop := shwordTileRow.holds Tryd.pinned (OpenSpec.ofChange shwordTileWrong)

/-- 'indenturelaw15.ShwordQuoted': WHATEVER THE INPUT: true; the input reads as it did. -/
def shwordQuotedSpec : ChangeSpec := { name := "shwordQuoted", fn := fun _ => fun
  | [d1, d2, d3] => { results := [.lit (.bool true)], args := [d1, d2, d3] }
  | _ => none }
def shwordQuotedRow : OpenClaim := { program := "ytpanpicbikihkaadoor", sum := "ea78fd4feacf4a50e8fc4bff16b5c877fd3d7792a7eec886ec37544b799e4c12", func := "indenture/indenturelaw15.ShwordQuoted", spec := "shwordQuoted", inPlace := ["internal/abi.NoEscape", "internal/bytealg.IndexByteString"], unfollowed := true, recurses := true, named := ["indenture/shword.operators"], apart := false, laid := [("indenture/shword.operators", laid_indenture_shword_operators)] }
def ShwordQuotedSaid : Prop := shwordQuotedRow.holds Tryd.pinned (OpenSpec.ofChange shwordQuotedSpec)

/-- ITS FALSE NEIGHBOUR: 'it returns false'. Refute it at one input. -/
def shwordQuotedWrong : ChangeSpec := { name := "shwordQuoted", fn := fun _ => fun
  | [d1, d2, d3] => { results := [.lit (.bool false)], args := [d1, d2, d3] }
  | _ => none }
def ShwordQuotedWrongFalsely : Prop := shwordQuotedRow.holds Tryd.pinned (OpenSpec.ofChange shwordQuotedWrong)

/-- 'indenturelaw15.ShwordCut': WHATEVER THE INPUT: true; the input reads as it did. -/
def shwordCutSpec : ChangeSpec := { name := "shwordCut", fn := fun _ => fun
  | [d1, d2] => { results := [.lit (.bool true)], args := [d1, d2] }
  | _ => none }
def shwordCutRow : OpenClaim := { program := "ytpanpicbikihkaadoor", sum := "ea78fd4feacf4a50e8fc4bff16b5c877fd3d7792a7eec886ec37544b799e4c12", func := "indenture/indenturelaw15.ShwordCut", spec := "shwordCut", inPlace := ["internal/abi.NoEscape", "internal/bytealg.IndexByteString"], unfollowed := true, recurses := true, named := ["indenture/shword.operators"], apart := false, laid := [("indenture/shword.operators", laid_indenture_shword_operators)] }
def ShwordCutSaid : Prop := shwordCutRow.holds Tryd.pinned (OpenSpec.ofChange shwordCutSpec)

/-- ITS FALSE NEIGHBOUR: 'it returns false'. Refute it at one input. -/
def shwordCutWrong : ChangeSpec := { name := "shwordCut", fn := fun _ => fun
  | [d1, d2] => { results := [.lit (.bool false)], args := [d1, d2] }
  | _ => none }
def ShwordCutWrongFalsely : Prop := shwordCutRow.holds Tryd.pinned (OpenSpec.ofChange shwordCutWrong)

/- THE SECOND FORM. 'bulk': how many values and letters a reading holds, each counted each time it is reached (what is shared counts as often as it is met; a slice's spare places count too). A statement '..UptoSaid' is the law's where the arguments, and the package variables that the reading takes, are together of bulk at most 1048576: NARROWER than '..Said'. Prove '..Said' where nothing that the law and all that it calls make is longer than what came in: it says more and counts as full. Else prove '..UptoSaid'. A law counts once. -/
mutual
def uptoBulk {H : Type} : DataW H → Nat
  | .lit (.string bytes) => bytes.length + 1
  | .lit _ => 1
  | .nil => 1
  | .ptr d => uptoBulk d + 1
  | .slice elems spare => uptoBulkAll elems + uptoBulkAll spare + 1
  | .agg parts => uptoBulkAll parts + 1
  | .iface _ d => uptoBulk d + 1
  | .map entries => uptoBulkEntries entries + 1
  | .held _ => 1
def uptoBulkAll {H : Type} : List (DataW H) → Nat
  | [] => 0
  | d :: r => uptoBulk d + uptoBulkAll r
def uptoBulkEntries {H : Type} : List (Lit × DataW H) → Nat
  | [] => 0
  | x :: r => uptoBulkEntry x + uptoBulkEntries r
def uptoBulkEntry {H : Type} : Lit × DataW H → Nat
  | (.string bytes, d) => bytes.length + uptoBulk d + 1
  | (_, d) => uptoBulk d + 1
 end
def uptoSmall : (H : Type) → List (DataW H) → Bool := fun _ ds => decide (uptoBulkAll ds ≤ 1048576)
def OpenSpec.upto (s : _root_.Go.ChangeSpec) : _root_.Go.OpenSpec := { _root_.Go.OpenSpec.ofChange s with cond := some uptoSmall }

/-- 'indenturelaw15.ShwordReads', WHERE WHAT IT READS IS OF BULK AT MOST 1048576: true; the input reads as it did. -/
def shwordReadsUptoRow : OpenClaim := { program := "ytpanpicbikihkaadoor", sum := "ea78fd4feacf4a50e8fc4bff16b5c877fd3d7792a7eec886ec37544b799e4c12", func := "indenture/indenturelaw15.ShwordReads", spec := "shwordReads", inPlace := ["internal/abi.NoEscape", "internal/bytealg.IndexByteString"], unfollowed := true, recurses := true, named := ["indenture/shword.operators"], apart := false, laid := [("indenture/shword.operators", laid_indenture_shword_operators)], narrowed := true }
def ShwordReadsUptoSaid : Prop := shwordReadsUptoRow.holds Tryd.pinned (OpenSpec.upto shwordReadsSpec)

/-- 'indenturelaw15.ShwordOps', WHERE WHAT IT READS IS OF BULK AT MOST 1048576: true; the input reads as it did. -/
def shwordOpsUptoRow : OpenClaim := { program := "ytpanpicbikihkaadoor", sum := "ea78fd4feacf4a50e8fc4bff16b5c877fd3d7792a7eec886ec37544b799e4c12", func := "indenture/indenturelaw15.ShwordOps", spec := "shwordOps", inPlace := ["internal/abi.NoEscape", "internal/bytealg.IndexByteString"], unfollowed := true, recurses := true, named := ["indenture/shword.operators"], apart := false, laid := [("indenture/shword.operators", laid_indenture_shword_operators)], narrowed := true }
def ShwordOpsUptoSaid : Prop := shwordOpsUptoRow.holds Tryd.pinned (OpenSpec.upto shwordOpsSpec)

/-- 'indenturelaw15.ShwordTile', WHERE WHAT IT READS IS OF BULK AT MOST 1048576: true; the input reads as it did. -/
def shwordTileUptoRow : OpenClaim := { program := "ytpanpicbikihkaadoor", sum := "ea78fd4feacf4a50e8fc4bff16b5c877fd3d7792a7eec886ec37544b799e4c12", func := "indenture/indenturelaw15.ShwordTile", spec := "shwordTile", inPlace := ["internal/abi.NoEscape", "internal/bytealg.IndexByteString"], unfollowed := true, recurses := true, named := ["indenture/shword.operators"], apart := false, laid := [("indenture/shword.operators", laid_indenture_shword_operators)], narrowed := true }
def ShwordTileUptoSaid : Prop := shwordTileUptoRow.holds Tryd.pinned (OpenSpec.upto shwordTileSpec)

/-- 'indenturelaw15.ShwordQuoted', WHERE WHAT IT READS IS OF BULK AT MOST 1048576: true; the input reads as it did. -/
def shwordQuotedUptoRow : OpenClaim := { program := "ytpanpicbikihkaadoor", sum := "ea78fd4feacf4a50e8fc4bff16b5c877fd3d7792a7eec886ec37544b799e4c12", func := "indenture/indenturelaw15.ShwordQuoted", spec := "shwordQuoted", inPlace := ["internal/abi.NoEscape", "internal/bytealg.IndexByteString"], unfollowed := true, recurses := true, named := ["indenture/shword.operators"], apart := false, laid := [("indenture/shword.operators", laid_indenture_shword_operators)], narrowed := true }
def ShwordQuotedUptoSaid : Prop := shwordQuotedUptoRow.holds Tryd.pinned (OpenSpec.upto shwordQuotedSpec)

/-- 'indenturelaw15.ShwordCut', WHERE WHAT IT READS IS OF BULK AT MOST 1048576: true; the input reads as it did. -/
def shwordCutUptoRow : OpenClaim := { program := "ytpanpicbikihkaadoor", sum := "ea78fd4feacf4a50e8fc4bff16b5c877fd3d7792a7eec886ec37544b799e4c12", func := "indenture/indenturelaw15.ShwordCut", spec := "shwordCut", inPlace := ["internal/abi.NoEscape", "internal/bytealg.IndexByteString"], unfollowed := true, recurses := true, named := ["indenture/shword.operators"], apart := false, laid := [("indenture/shword.operators", laid_indenture_shword_operators)], narrowed := true }
def ShwordCutUptoSaid : Prop := shwordCutUptoRow.holds Tryd.pinned (OpenSpec.upto shwordCutSpec)

end Rows
end Go.Proofs.YtpanpicbikihkaaDoor
