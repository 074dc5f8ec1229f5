/-
  NARROWER THAN 'FOR EVERY INPUT', by the rows' own cells (each row's printed sentence says how): FnExactReplyBytes: laid · FnExactEditDo: laid · FnExactReqParse: laid · FnExactActOk: laid · FnExactReqBytes: laid · FnExactEditsDo: laid · FnExactRopeJoin: laid · FnExactOutsOk: laid · FnExactWaits: laid · FnExactDocNew: laid · FnExactMachNew: laid.
  DERIVED. THE GIVEN ROWS OF THIS SEAT. 11 by the template 'for every input the law returns true; each argument reads behind the call as it read before'; 0 by the template 'total and deterministic' (their statements: YtiinphgjeafpnaaDoorTotals.lean).
  GIVEN WITH THE SEED: the statements are not yours to turn. If you find one false, say at which input.
  Laid BY PROGRAM, IN A SANDBOX (cutbox-rows.mjs): the forced cells as the released guide's own fill.sh prints them over the translation ba9231e0ca6d5433… (all of the seat's roots in one cut). By AI agents, Wed Nov 11 2026. No macro, syntax, notation, axiom, sorry.
-/
import Derived.Test.YtiinphgjeafpnaaDoorChecked
import GoSem.PinnedTables
import GoSem.Claim
import GoSem.ClaimJoined
import GoSem.ClaimMapViews
import Derived.JoinedTies
import Derived.KernelRfl
namespace Go.Proofs.YtiinphgjeafpnaaDoor
/- THE CELL 'sum', in the pinned program and in every row, IS THE sha256 OF THE DUMP (.gsa) THAT YtiinphgjeafpnaaDoorProg.lean LOADS. Nothing in Lean hashes anything: it is a label: what it is worth is what the hold of that sum in a sandbox is worth. -/
noncomputable def Tryd.pinned : Pinned := { name := "ytiinphgjeafpnaadoor", sum := "ba9231e0ca6d5433c7499c5175c553d8fdfd4a40954e32c474c7de7a64a72e39", checked := Tryd.checked }
namespace Rows
def none {H : Type} : Left H := { results := [], args := [] }

/- WHAT THE LISTED PACKAGE-LEVEL VARIABLES READ AS WHEN THE CALL BEGINS. Each datum BY PROGRAM (the guide's laid-datum.mjs) off the statement by which the dump's own 'gosem.cut.vars' lays the variable. In a bare row this is a premise. The card (YtiinphgjeafpnaaDoorCards.lean) ties it to the program's text. -/
def laid_unicode_utf8_acceptRanges {H : Type} : DataW H := .agg [.agg [.lit (.int .u8 128), .lit (.int .u8 191)], .agg [.lit (.int .u8 160), .lit (.int .u8 191)], .agg [.lit (.int .u8 128), .lit (.int .u8 159)], .agg [.lit (.int .u8 144), .lit (.int .u8 191)], .agg [.lit (.int .u8 128), .lit (.int .u8 143)], .agg [.lit (.int .u8 0), .lit (.int .u8 0)], .agg [.lit (.int .u8 0), .lit (.int .u8 0)], .agg [.lit (.int .u8 0), .lit (.int .u8 0)], .agg [.lit (.int .u8 0), .lit (.int .u8 0)], .agg [.lit (.int .u8 0), .lit (.int .u8 0)], .agg [.lit (.int .u8 0), .lit (.int .u8 0)], .agg [.lit (.int .u8 0), .lit (.int .u8 0)], .agg [.lit (.int .u8 0), .lit (.int .u8 0)], .agg [.lit (.int .u8 0), .lit (.int .u8 0)], .agg [.lit (.int .u8 0), .lit (.int .u8 0)], .agg [.lit (.int .u8 0), .lit (.int .u8 0)]]
/-- One of Go's own tables, pinned by name: the form's constant. -/
def laid_unicode_utf8_first : DataW Unit := Go.Pinned.utf8First

/-- 'laws.FnExactReplyBytes': WHATEVER THE INPUT: true; the input reads as it did. -/
def fnExactReplyBytesSpec : ChangeSpec := { name := "fnExactReplyBytes", fn := fun _ => fun
  | [d] => { results := [.lit (.bool true)], args := [d] }
  | _ => none }
def fnExactReplyBytesRow : OpenClaim := { program := "ytiinphgjeafpnaadoor", sum := "ba9231e0ca6d5433c7499c5175c553d8fdfd4a40954e32c474c7de7a64a72e39", func := "loop.example/g00677/laws.FnExactReplyBytes", spec := "fnExactReplyBytes", named := ["unicode/utf8.first", "unicode/utf8.acceptRanges"], apart := false, laid := [("unicode/utf8.acceptRanges", laid_unicode_utf8_acceptRanges), ("unicode/utf8.first", laid_unicode_utf8_first)] }
def FnExactReplyBytesSaid : Prop := fnExactReplyBytesRow.holds Tryd.pinned (OpenSpec.ofChange fnExactReplyBytesSpec)

/-- ITS FALSE NEIGHBOUR: 'it returns false'. Refute it at one input. -/
def fnExactReplyBytesWrong : ChangeSpec := { name := "fnExactReplyBytes", fn := fun _ => fun
  | [d] => { results := [.lit (.bool false)], args := [d] }
  | _ => none }
def FnExactReplyBytesWrongFalsely : Prop := fnExactReplyBytesRow.holds Tryd.pinned (OpenSpec.ofChange fnExactReplyBytesWrong)

/-- 'laws.FnExactEditDo': WHATEVER THE INPUT: true; the input reads as it did. -/
def fnExactEditDoSpec : ChangeSpec := { name := "fnExactEditDo", fn := fun _ => fun
  | [d1, d2] => { results := [.lit (.bool true)], args := [d1, d2] }
  | _ => none }
def fnExactEditDoRow : OpenClaim := { program := "ytiinphgjeafpnaadoor", sum := "ba9231e0ca6d5433c7499c5175c553d8fdfd4a40954e32c474c7de7a64a72e39", func := "loop.example/g00677/laws.FnExactEditDo", spec := "fnExactEditDo", named := ["unicode/utf8.first", "unicode/utf8.acceptRanges"], apart := false, laid := [("unicode/utf8.acceptRanges", laid_unicode_utf8_acceptRanges), ("unicode/utf8.first", laid_unicode_utf8_first)] }
def FnExactEditDoSaid : Prop := fnExactEditDoRow.holds Tryd.pinned (OpenSpec.ofChange fnExactEditDoSpec)

/-- ITS FALSE NEIGHBOUR: 'it returns false'. Refute it at one input. -/
def fnExactEditDoWrong : ChangeSpec := { name := "fnExactEditDo", fn := fun _ => fun
  | [d1, d2] => { results := [.lit (.bool false)], args := [d1, d2] }
  | _ => none }
def FnExactEditDoWrongFalsely : Prop := fnExactEditDoRow.holds Tryd.pinned (OpenSpec.ofChange fnExactEditDoWrong)

/-- 'laws.FnExactReqParse': WHATEVER THE INPUT: true; the input reads as it did. -/
def fnExactReqParseSpec : ChangeSpec := { name := "fnExactReqParse", fn := fun _ => fun
  | [d] => { results := [.lit (.bool true)], args := [d] }
  | _ => none }
def fnExactReqParseRow : OpenClaim := { program := "ytiinphgjeafpnaadoor", sum := "ba9231e0ca6d5433c7499c5175c553d8fdfd4a40954e32c474c7de7a64a72e39", func := "loop.example/g00677/laws.FnExactReqParse", spec := "fnExactReqParse", named := ["unicode/utf8.first", "unicode/utf8.acceptRanges"], apart := false, laid := [("unicode/utf8.acceptRanges", laid_unicode_utf8_acceptRanges), ("unicode/utf8.first", laid_unicode_utf8_first)] }
def FnExactReqParseSaid : Prop := fnExactReqParseRow.holds Tryd.pinned (OpenSpec.ofChange fnExactReqParseSpec)

/-- ITS FALSE NEIGHBOUR: 'it returns false'. Refute it at one input. -/
def fnExactReqParseWrong : ChangeSpec := { name := "fnExactReqParse", fn := fun _ => fun
  | [d] => { results := [.lit (.bool false)], args := [d] }
  | _ => none }
def FnExactReqParseWrongFalsely : Prop := fnExactReqParseRow.holds Tryd.pinned (OpenSpec.ofChange fnExactReqParseWrong)

/-- 'laws.FnExactActOk': WHATEVER THE INPUT: true; the input reads as it did. -/
def fnExactActOkSpec : ChangeSpec := { name := "fnExactActOk", fn := fun _ => fun
  | [d] => { results := [.lit (.bool true)], args := [d] }
  | _ => none }
def fnExactActOkRow : OpenClaim := { program := "ytiinphgjeafpnaadoor", sum := "ba9231e0ca6d5433c7499c5175c553d8fdfd4a40954e32c474c7de7a64a72e39", func := "loop.example/g00677/laws.FnExactActOk", spec := "fnExactActOk", named := ["unicode/utf8.first", "unicode/utf8.acceptRanges"], apart := false, laid := [("unicode/utf8.acceptRanges", laid_unicode_utf8_acceptRanges), ("unicode/utf8.first", laid_unicode_utf8_first)] }
def FnExactActOkSaid : Prop := fnExactActOkRow.holds Tryd.pinned (OpenSpec.ofChange fnExactActOkSpec)

/-- ITS FALSE NEIGHBOUR: 'it returns false'. Refute it at one input. -/
def fnExactActOkWrong : ChangeSpec := { name := "fnExactActOk", fn := fun _ => fun
  | [d] => { results := [.lit (.bool false)], args := [d] }
  | _ => none }
def FnExactActOkWrongFalsely : Prop := fnExactActOkRow.holds Tryd.pinned (OpenSpec.ofChange fnExactActOkWrong)

/-- 'laws.FnExactReqBytes': WHATEVER THE INPUT: true; the input reads as it did. -/
def fnExactReqBytesSpec : ChangeSpec := { name := "fnExactReqBytes", fn := fun _ => fun
  | [d] => { results := [.lit (.bool true)], args := [d] }
  | _ => none }
def fnExactReqBytesRow : OpenClaim := { program := "ytiinphgjeafpnaadoor", sum := "ba9231e0ca6d5433c7499c5175c553d8fdfd4a40954e32c474c7de7a64a72e39", func := "loop.example/g00677/laws.FnExactReqBytes", spec := "fnExactReqBytes", named := ["unicode/utf8.first", "unicode/utf8.acceptRanges"], apart := false, laid := [("unicode/utf8.acceptRanges", laid_unicode_utf8_acceptRanges), ("unicode/utf8.first", laid_unicode_utf8_first)] }
def FnExactReqBytesSaid : Prop := fnExactReqBytesRow.holds Tryd.pinned (OpenSpec.ofChange fnExactReqBytesSpec)

/-- ITS FALSE NEIGHBOUR: 'it returns false'. Refute it at one input. -/
def fnExactReqBytesWrong : ChangeSpec := { name := "fnExactReqBytes", fn := fun _ => fun
  | [d] => { results := [.lit (.bool false)], args := [d] }
  | _ => none }
def FnExactReqBytesWrongFalsely : Prop := fnExactReqBytesRow.holds Tryd.pinned (OpenSpec.ofChange fnExactReqBytesWrong)

/-- 'laws.FnExactEditsDo': WHATEVER THE INPUT: true; the input reads as it did. -/
def fnExactEditsDoSpec : ChangeSpec := { name := "fnExactEditsDo", fn := fun _ => fun
  | [d1, d2] => { results := [.lit (.bool true)], args := [d1, d2] }
  | _ => none }
def fnExactEditsDoRow : OpenClaim := { program := "ytiinphgjeafpnaadoor", sum := "ba9231e0ca6d5433c7499c5175c553d8fdfd4a40954e32c474c7de7a64a72e39", func := "loop.example/g00677/laws.FnExactEditsDo", spec := "fnExactEditsDo", named := ["unicode/utf8.first", "unicode/utf8.acceptRanges"], apart := false, laid := [("unicode/utf8.acceptRanges", laid_unicode_utf8_acceptRanges), ("unicode/utf8.first", laid_unicode_utf8_first)] }
def FnExactEditsDoSaid : Prop := fnExactEditsDoRow.holds Tryd.pinned (OpenSpec.ofChange fnExactEditsDoSpec)

/-- ITS FALSE NEIGHBOUR: 'it returns false'. Refute it at one input. -/
def fnExactEditsDoWrong : ChangeSpec := { name := "fnExactEditsDo", fn := fun _ => fun
  | [d1, d2] => { results := [.lit (.bool false)], args := [d1, d2] }
  | _ => none }
def FnExactEditsDoWrongFalsely : Prop := fnExactEditsDoRow.holds Tryd.pinned (OpenSpec.ofChange fnExactEditsDoWrong)

/-- 'laws.FnExactRopeJoin': WHATEVER THE INPUT: true; the input reads as it did. -/
def fnExactRopeJoinSpec : ChangeSpec := { name := "fnExactRopeJoin", fn := fun _ => fun
  | [d1, d2] => { results := [.lit (.bool true)], args := [d1, d2] }
  | _ => none }
def fnExactRopeJoinRow : OpenClaim := { program := "ytiinphgjeafpnaadoor", sum := "ba9231e0ca6d5433c7499c5175c553d8fdfd4a40954e32c474c7de7a64a72e39", func := "loop.example/g00677/laws.FnExactRopeJoin", spec := "fnExactRopeJoin", named := ["unicode/utf8.first", "unicode/utf8.acceptRanges"], apart := false, laid := [("unicode/utf8.acceptRanges", laid_unicode_utf8_acceptRanges), ("unicode/utf8.first", laid_unicode_utf8_first)] }
def FnExactRopeJoinSaid : Prop := fnExactRopeJoinRow.holds Tryd.pinned (OpenSpec.ofChange fnExactRopeJoinSpec)

/-- ITS FALSE NEIGHBOUR: 'it returns false'. Refute it at one input. -/
def fnExactRopeJoinWrong : ChangeSpec := { name := "fnExactRopeJoin", fn := fun _ => fun
  | [d1, d2] => { results := [.lit (.bool false)], args := [d1, d2] }
  | _ => none }
def FnExactRopeJoinWrongFalsely : Prop := fnExactRopeJoinRow.holds Tryd.pinned (OpenSpec.ofChange fnExactRopeJoinWrong)

/-- 'laws.FnExactOutsOk': WHATEVER THE INPUT: true; the input reads as it did. -/
def fnExactOutsOkSpec : ChangeSpec := { name := "fnExactOutsOk", fn := fun _ => fun
  | [d1, d2] => { results := [.lit (.bool true)], args := [d1, d2] }
  | _ => none }
def fnExactOutsOkRow : OpenClaim := { program := "ytiinphgjeafpnaadoor", sum := "ba9231e0ca6d5433c7499c5175c553d8fdfd4a40954e32c474c7de7a64a72e39", func := "loop.example/g00677/laws.FnExactOutsOk", spec := "fnExactOutsOk", unfollowed := true, recurses := true, named := ["unicode/utf8.first", "unicode/utf8.acceptRanges"], apart := false, laid := [("unicode/utf8.acceptRanges", laid_unicode_utf8_acceptRanges), ("unicode/utf8.first", laid_unicode_utf8_first)] }
def FnExactOutsOkSaid : Prop := fnExactOutsOkRow.holds Tryd.pinned (OpenSpec.ofChange fnExactOutsOkSpec)

/-- ITS FALSE NEIGHBOUR: 'it returns false'. Refute it at one input. -/
def fnExactOutsOkWrong : ChangeSpec := { name := "fnExactOutsOk", fn := fun _ => fun
  | [d1, d2] => { results := [.lit (.bool false)], args := [d1, d2] }
  | _ => none }
def FnExactOutsOkWrongFalsely : Prop := fnExactOutsOkRow.holds Tryd.pinned (OpenSpec.ofChange fnExactOutsOkWrong)

/-- 'laws.FnExactWaits': WHATEVER THE INPUT: true; the input reads as it did. -/
def fnExactWaitsSpec : ChangeSpec := { name := "fnExactWaits", fn := fun _ => fun
  | [d1, d2, d3] => { results := [.lit (.bool true)], args := [d1, d2, d3] }
  | _ => none }
def fnExactWaitsRow : OpenClaim := { program := "ytiinphgjeafpnaadoor", sum := "ba9231e0ca6d5433c7499c5175c553d8fdfd4a40954e32c474c7de7a64a72e39", func := "loop.example/g00677/laws.FnExactWaits", spec := "fnExactWaits", unfollowed := true, recurses := true, named := ["unicode/utf8.first", "unicode/utf8.acceptRanges"], apart := false, laid := [("unicode/utf8.acceptRanges", laid_unicode_utf8_acceptRanges), ("unicode/utf8.first", laid_unicode_utf8_first)] }
def FnExactWaitsSaid : Prop := fnExactWaitsRow.holds Tryd.pinned (OpenSpec.ofChange fnExactWaitsSpec)

/-- ITS FALSE NEIGHBOUR: 'it returns false'. Refute it at one input. -/
def fnExactWaitsWrong : ChangeSpec := { name := "fnExactWaits", fn := fun _ => fun
  | [d1, d2, d3] => { results := [.lit (.bool false)], args := [d1, d2, d3] }
  | _ => none }
def FnExactWaitsWrongFalsely : Prop := fnExactWaitsRow.holds Tryd.pinned (OpenSpec.ofChange fnExactWaitsWrong)

/-- 'laws.FnExactDocNew': WHATEVER THE INPUT: true; the input reads as it did. -/
def fnExactDocNewSpec : ChangeSpec := { name := "fnExactDocNew", fn := fun _ => fun
  | [d] => { results := [.lit (.bool true)], args := [d] }
  | _ => none }
def fnExactDocNewRow : OpenClaim := { program := "ytiinphgjeafpnaadoor", sum := "ba9231e0ca6d5433c7499c5175c553d8fdfd4a40954e32c474c7de7a64a72e39", func := "loop.example/g00677/laws.FnExactDocNew", spec := "fnExactDocNew", named := ["unicode/utf8.first", "unicode/utf8.acceptRanges"], apart := false, laid := [("unicode/utf8.acceptRanges", laid_unicode_utf8_acceptRanges), ("unicode/utf8.first", laid_unicode_utf8_first)] }
def FnExactDocNewSaid : Prop := fnExactDocNewRow.holds Tryd.pinned (OpenSpec.ofChange fnExactDocNewSpec)

/-- ITS FALSE NEIGHBOUR: 'it returns false'. Refute it at one input. -/
def fnExactDocNewWrong : ChangeSpec := { name := "fnExactDocNew", fn := fun _ => fun
  | [d] => { results := [.lit (.bool false)], args := [d] }
  | _ => none }
def FnExactDocNewWrongFalsely : Prop := fnExactDocNewRow.holds Tryd.pinned (OpenSpec.ofChange fnExactDocNewWrong)

/-- 'laws.FnExactMachNew': WHATEVER THE INPUT: true; the input reads as it did. -/
def fnExactMachNewSpec : ChangeSpec := { name := "fnExactMachNew", fn := fun _ => fun
  | [d] => { results := [.lit (.bool true)], args := [d] }
  | _ => none }
def fnExactMachNewRow : OpenClaim := { program := "ytiinphgjeafpnaadoor", sum := "ba9231e0ca6d5433c7499c5175c553d8fdfd4a40954e32c474c7de7a64a72e39", func := "loop.example/g00677/laws.FnExactMachNew", spec := "fnExactMachNew", named := ["unicode/utf8.first", "unicode/utf8.acceptRanges"], apart := false, laid := [("unicode/utf8.acceptRanges", laid_unicode_utf8_acceptRanges), ("unicode/utf8.first", laid_unicode_utf8_first)] }
def FnExactMachNewSaid : Prop := fnExactMachNewRow.holds Tryd.pinned (OpenSpec.ofChange fnExactMachNewSpec)

/-- ITS FALSE NEIGHBOUR: 'it returns false'. Refute it at one input. -/
def fnExactMachNewWrong : ChangeSpec := { name := "fnExactMachNew", fn := fun _ => fun
  | [d] => { results := [.lit (.bool false)], args := [d] }
  | _ => none }
def FnExactMachNewWrongFalsely : Prop := fnExactMachNewRow.holds Tryd.pinned (OpenSpec.ofChange fnExactMachNewWrong)

/- THE SECOND FORM. 'bulk': how many values and letters a reading holds, each counted each time it is reached (what is shared counts as often as it is met; a slice's spare places count too). A statement '..UptoSaid' is the law's where the arguments, and the package variables that the reading takes, are together of bulk at most 1048576: NARROWER than '..Said'. Prove '..Said' where nothing that the law and all that it calls make is longer than what came in: it says more and counts as full. Else prove '..UptoSaid'. A law counts once. -/
mutual
def uptoBulk {H : Type} : DataW H → Nat
  | .lit (.string bytes) => bytes.length + 1
  | .lit _ => 1
  | .nil => 1
  | .ptr d => uptoBulk d + 1
  | .slice elems spare => uptoBulkAll elems + uptoBulkAll spare + 1
  | .agg parts => uptoBulkAll parts + 1
  | .iface _ d => uptoBulk d + 1
  | .map entries => uptoBulkEntries entries + 1
  | .held _ => 1
def uptoBulkAll {H : Type} : List (DataW H) → Nat
  | [] => 0
  | d :: r => uptoBulk d + uptoBulkAll r
def uptoBulkEntries {H : Type} : List (Lit × DataW H) → Nat
  | [] => 0
  | x :: r => uptoBulkEntry x + uptoBulkEntries r
def uptoBulkEntry {H : Type} : Lit × DataW H → Nat
  | (.string bytes, d) => bytes.length + uptoBulk d + 1
  | (_, d) => uptoBulk d + 1
 end
def uptoSmall : (H : Type) → List (DataW H) → Bool := fun _ ds => decide (uptoBulkAll ds ≤ 1048576)
def OpenSpec.upto (s : _root_.Go.ChangeSpec) : _root_.Go.OpenSpec := { _root_.Go.OpenSpec.ofChange s with cond := some uptoSmall }

/-- 'laws.FnExactReplyBytes', WHERE WHAT IT READS IS OF BULK AT MOST 1048576: true; the input reads as it did. -/
def fnExactReplyBytesUptoRow : OpenClaim := { program := "ytiinphgjeafpnaadoor", sum := "ba9231e0ca6d5433c7499c5175c553d8fdfd4a40954e32c474c7de7a64a72e39", func := "loop.example/g00677/laws.FnExactReplyBytes", spec := "fnExactReplyBytes", named := ["unicode/utf8.first", "unicode/utf8.acceptRanges"], apart := false, laid := [("unicode/utf8.acceptRanges", laid_unicode_utf8_acceptRanges), ("unicode/utf8.first", laid_unicode_utf8_first)], narrowed := true }
def FnExactReplyBytesUptoSaid : Prop := fnExactReplyBytesUptoRow.holds Tryd.pinned (OpenSpec.upto fnExactReplyBytesSpec)

/-- 'laws.FnExactEditDo', WHERE WHAT IT READS IS OF BULK AT MOST 1048576: true; the input reads as it did. -/
def fnExactEditDoUptoRow : OpenClaim := { program := "ytiinphgjeafpnaadoor", sum := "ba9231e0ca6d5433c7499c5175c553d8fdfd4a40954e32c474c7de7a64a72e39", func := "loop.example/g00677/laws.FnExactEditDo", spec := "fnExactEditDo", named := ["unicode/utf8.first", "unicode/utf8.acceptRanges"], apart := false, laid := [("unicode/utf8.acceptRanges", laid_unicode_utf8_acceptRanges), ("unicode/utf8.first", laid_unicode_utf8_first)], narrowed := true }
def FnExactEditDoUptoSaid : Prop := fnExactEditDoUptoRow.holds Tryd.pinned (OpenSpec.upto fnExactEditDoSpec)

/-- 'laws.FnExactReqParse', WHERE WHAT IT READS IS OF BULK AT MOST 1048576: true; the input reads as it did. -/
def fnExactReqParseUptoRow : OpenClaim := { program := "ytiinphgjeafpnaadoor", sum := "ba9231e0ca6d5433c7499c5175c553d8fdfd4a40954e32c474c7de7a64a72e39", func := "loop.example/g00677/laws.FnExactReqParse", spec := "fnExactReqParse", named := ["unicode/utf8.first", "unicode/utf8.acceptRanges"], apart := false, laid := [("unicode/utf8.acceptRanges", laid_unicode_utf8_acceptRanges), ("unicode/utf8.first", laid_unicode_utf8_first)], narrowed := true }
def FnExactReqParseUptoSaid : Prop := fnExactReqParseUptoRow.holds Tryd.pinned (OpenSpec.upto fnExactReqParseSpec)

/-- 'laws.FnExactActOk', WHERE WHAT IT READS IS OF BULK AT MOST 1048576: true; the input reads as it did. -/
def fnExactActOkUptoRow : OpenClaim := { program := "ytiinphgjeafpnaadoor", sum := "ba9231e0ca6d5433c7499c5175c553d8fdfd4a40954e32c474c7de7a64a72e39", func := "loop.example/g00677/laws.FnExactActOk", spec := "fnExactActOk", named := ["unicode/utf8.first", "unicode/utf8.acceptRanges"], apart := false, laid := [("unicode/utf8.acceptRanges", laid_unicode_utf8_acceptRanges), ("unicode/utf8.first", laid_unicode_utf8_first)], narrowed := true }
def FnExactActOkUptoSaid : Prop := fnExactActOkUptoRow.holds Tryd.pinned (OpenSpec.upto fnExactActOkSpec)

/-- 'laws.FnExactReqBytes', WHERE WHAT IT READS IS OF BULK AT MOST 1048576: true; the input reads as it did. -/
def fnExactReqBytesUptoRow : OpenClaim := { program := "ytiinphgjeafpnaadoor", sum := "ba9231e0ca6d5433c7499c5175c553d8fdfd4a40954e32c474c7de7a64a72e39", func := "loop.example/g00677/laws.FnExactReqBytes", spec := "fnExactReqBytes", named := ["unicode/utf8.first", "unicode/utf8.acceptRanges"], apart := false, laid := [("unicode/utf8.acceptRanges", laid_unicode_utf8_acceptRanges), ("unicode/utf8.first", laid_unicode_utf8_first)], narrowed := true }
def FnExactReqBytesUptoSaid : Prop := fnExactReqBytesUptoRow.holds Tryd.pinned (OpenSpec.upto fnExactReqBytesSpec)

/-- 'laws.FnExactEditsDo', WHERE WHAT IT READS IS OF BULK AT MOST 1048576: true; the input reads as it did. -/
def fnExactEditsDoUptoRow : OpenClaim := { program := "ytiinphgjeafpnaadoor", sum := "ba9231e0ca6d5433c7499c5175c553d8fdfd4a40954e32c474c7de7a64a72e39", func := "loop.example/g00677/laws.FnExactEditsDo", spec := "fnExactEditsDo", named := ["unicode/utf8.first", "unicode/utf8.acceptRanges"], apart := false, laid := [("unicode/utf8.acceptRanges", laid_unicode_utf8_acceptRanges), ("unicode/utf8.first", laid_unicode_utf8_first)], narrowed := true }
def FnExactEditsDoUptoSaid : Prop := fnExactEditsDoUptoRow.holds Tryd.pinned (OpenSpec.upto fnExactEditsDoSpec)

/-- 'laws.FnExactRopeJoin', WHERE WHAT IT READS IS OF BULK AT MOST 1048576: true; the input reads as it did. -/
def fnExactRopeJoinUptoRow : OpenClaim := { program := "ytiinphgjeafpnaadoor", sum := "ba9231e0ca6d5433c7499c5175c553d8fdfd4a40954e32c474c7de7a64a72e39", func := "loop.example/g00677/laws.FnExactRopeJoin", spec := "fnExactRopeJoin", named := ["unicode/utf8.first", "unicode/utf8.acceptRanges"], apart := false, laid := [("unicode/utf8.acceptRanges", laid_unicode_utf8_acceptRanges), ("unicode/utf8.first", laid_unicode_utf8_first)], narrowed := true }
def FnExactRopeJoinUptoSaid : Prop := fnExactRopeJoinUptoRow.holds Tryd.pinned (OpenSpec.upto fnExactRopeJoinSpec)

/-- 'laws.FnExactOutsOk', WHERE WHAT IT READS IS OF BULK AT MOST 1048576: true; the input reads as it did. -/
def fnExactOutsOkUptoRow : OpenClaim := { program := "ytiinphgjeafpnaadoor", sum := "ba9231e0ca6d5433c7499c5175c553d8fdfd4a40954e32c474c7de7a64a72e39", func := "loop.example/g00677/laws.FnExactOutsOk", spec := "fnExactOutsOk", unfollowed := true, recurses := true, named := ["unicode/utf8.first", "unicode/utf8.acceptRanges"], apart := false, laid := [("unicode/utf8.acceptRanges", laid_unicode_utf8_acceptRanges), ("unicode/utf8.first", laid_unicode_utf8_first)], narrowed := true }
def FnExactOutsOkUptoSaid : Prop := fnExactOutsOkUptoRow.holds Tryd.pinned (OpenSpec.upto fnExactOutsOkSpec)

/-- 'laws.FnExactWaits', WHERE WHAT IT READS IS OF BULK AT MOST 1048576: true; the input reads as it did. -/
def fnExactWaitsUptoRow : OpenClaim := { program := "ytiinphgjeafpnaadoor", sum := "ba9231e0ca6d5433c7499c5175c553d8fdfd4a40954e32c474c7de7a64a72e39", func := "loop.example/g00677/laws.FnExactWaits", spec := "fnExactWaits", unfollowed := true, recurses := true, named := ["unicode/utf8.first", "unicode/utf8.acceptRanges"], apart := false, laid := [("unicode/utf8.acceptRanges", laid_unicode_utf8_acceptRanges), ("unicode/utf8.first", laid_unicode_utf8_first)], narrowed := true }
def FnExactWaitsUptoSaid : Prop := fnExactWaitsUptoRow.holds Tryd.pinned (OpenSpec.upto fnExactWaitsSpec)

/-- 'laws.FnExactDocNew', WHERE WHAT IT READS IS OF BULK AT MOST 1048576: true; the input reads as it did. -/
def fnExactDocNewUptoRow : OpenClaim := { program := "ytiinphgjeafpnaadoor", sum := "ba9231e0ca6d5433c7499c5175c553d8fdfd4a40954e32c474c7de7a64a72e39", func := "loop.example/g00677/laws.FnExactDocNew", spec := "fnExactDocNew", named := ["unicode/utf8.first", "unicode/utf8.acceptRanges"], apart := false, laid := [("unicode/utf8.acceptRanges", laid_unicode_utf8_acceptRanges), ("unicode/utf8.first", laid_unicode_utf8_first)], narrowed := true }
def FnExactDocNewUptoSaid : Prop := fnExactDocNewUptoRow.holds Tryd.pinned (OpenSpec.upto fnExactDocNewSpec)

/-- 'laws.FnExactMachNew', WHERE WHAT IT READS IS OF BULK AT MOST 1048576: true; the input reads as it did. -/
def fnExactMachNewUptoRow : OpenClaim := { program := "ytiinphgjeafpnaadoor", sum := "ba9231e0ca6d5433c7499c5175c553d8fdfd4a40954e32c474c7de7a64a72e39", func := "loop.example/g00677/laws.FnExactMachNew", spec := "fnExactMachNew", named := ["unicode/utf8.first", "unicode/utf8.acceptRanges"], apart := false, laid := [("unicode/utf8.acceptRanges", laid_unicode_utf8_acceptRanges), ("unicode/utf8.first", laid_unicode_utf8_first)], narrowed := true }
def FnExactMachNewUptoSaid : Prop := fnExactMachNewUptoRow.holds Tryd.pinned (OpenSpec.upto fnExactMachNewSpec)

end Rows
end Go.Proofs.YtiinphgjeafpnaaDoor
