/-
  NARROWER THAN 'FOR EVERY INPUT', by the rows' own cells (each row's printed sentence says how): FnRuneBack: laid · FnChunkFor: laid · FnPlaces: laid · FnReqBack: laid · FnChunks: laid · FnLines: laid · FnRopeFind: laid.
  DERIVED. THE GIVEN ROWS OF THIS SEAT. 7 by the template 'for every input the law returns true; each argument reads behind the call as it read before'; 0 by the template 'total and deterministic' (their statements: YtinmmaccoenphaaDoorTotals.lean).
  GIVEN WITH THE SEED: the statements are not yours to turn. If you find one false, say at which input.
  Laid BY PROGRAM, IN A SANDBOX (cutbox-rows.mjs): the forced cells as the released guide's own fill.sh prints them over the translation 61b1ef8b5d59dbe1… (all of the seat's roots in one cut). By AI agents, Wed Nov 11 2026. No macro, syntax, notation, axiom, sorry.
-/
import Derived.Test.YtinmmaccoenphaaDoorChecked
import GoSem.PinnedTables
import GoSem.Claim
import GoSem.ClaimJoined
import GoSem.ClaimMapViews
import Derived.JoinedTies
import Derived.KernelRfl
namespace Go.Proofs.YtinmmaccoenphaaDoor
/- THE CELL 'sum', in the pinned program and in every row, IS THE sha256 OF THE DUMP (.gsa) THAT YtinmmaccoenphaaDoorProg.lean LOADS. Nothing in Lean hashes anything: it is a label: what it is worth is what the hold of that sum in a sandbox is worth. -/
noncomputable def Tryd.pinned : Pinned := { name := "ytinmmaccoenphaadoor", sum := "61b1ef8b5d59dbe14bd2137bb1e84219b69d129a2619f07f0de2dfe939760bbf", checked := Tryd.checked }
namespace Rows
def none {H : Type} : Left H := { results := [], args := [] }

/- WHAT THE LISTED PACKAGE-LEVEL VARIABLES READ AS WHEN THE CALL BEGINS. Each datum BY PROGRAM (the guide's laid-datum.mjs) off the statement by which the dump's own 'gosem.cut.vars' lays the variable. In a bare row this is a premise. The card (YtinmmaccoenphaaDoorCards.lean) ties it to the program's text. -/
def laid_unicode_utf8_acceptRanges {H : Type} : DataW H := .agg [.agg [.lit (.int .u8 128), .lit (.int .u8 191)], .agg [.lit (.int .u8 160), .lit (.int .u8 191)], .agg [.lit (.int .u8 128), .lit (.int .u8 159)], .agg [.lit (.int .u8 144), .lit (.int .u8 191)], .agg [.lit (.int .u8 128), .lit (.int .u8 143)], .agg [.lit (.int .u8 0), .lit (.int .u8 0)], .agg [.lit (.int .u8 0), .lit (.int .u8 0)], .agg [.lit (.int .u8 0), .lit (.int .u8 0)], .agg [.lit (.int .u8 0), .lit (.int .u8 0)], .agg [.lit (.int .u8 0), .lit (.int .u8 0)], .agg [.lit (.int .u8 0), .lit (.int .u8 0)], .agg [.lit (.int .u8 0), .lit (.int .u8 0)], .agg [.lit (.int .u8 0), .lit (.int .u8 0)], .agg [.lit (.int .u8 0), .lit (.int .u8 0)], .agg [.lit (.int .u8 0), .lit (.int .u8 0)], .agg [.lit (.int .u8 0), .lit (.int .u8 0)]]
/-- One of Go's own tables, pinned by name: the form's constant. -/
def laid_unicode_utf8_first : DataW Unit := Go.Pinned.utf8First

/-- 'laws.FnRuneBack': WHATEVER THE INPUT: true; the input reads as it did. -/
def fnRuneBackSpec : ChangeSpec := { name := "fnRuneBack", fn := fun _ => fun
  | [d] => { results := [.lit (.bool true)], args := [d] }
  | _ => none }
def fnRuneBackRow : OpenClaim := { program := "ytinmmaccoenphaadoor", sum := "61b1ef8b5d59dbe14bd2137bb1e84219b69d129a2619f07f0de2dfe939760bbf", func := "loop.example/g00677/laws.FnRuneBack", spec := "fnRuneBack", named := ["unicode/utf8.first", "unicode/utf8.acceptRanges"], apart := false, laid := [("unicode/utf8.acceptRanges", laid_unicode_utf8_acceptRanges), ("unicode/utf8.first", laid_unicode_utf8_first)] }
def FnRuneBackSaid : Prop := fnRuneBackRow.holds Tryd.pinned (OpenSpec.ofChange fnRuneBackSpec)

/-- ITS FALSE NEIGHBOUR: 'it returns false'. Refute it at one input. -/
def fnRuneBackWrong : ChangeSpec := { name := "fnRuneBack", fn := fun _ => fun
  | [d] => { results := [.lit (.bool false)], args := [d] }
  | _ => none }
def FnRuneBackWrongFalsely : Prop := fnRuneBackRow.holds Tryd.pinned (OpenSpec.ofChange fnRuneBackWrong)

/-- 'laws.FnChunkFor': WHATEVER THE INPUT: true; the input reads as it did. -/
def fnChunkForSpec : ChangeSpec := { name := "fnChunkFor", fn := fun _ => fun
  | [d] => { results := [.lit (.bool true)], args := [d] }
  | _ => none }
def fnChunkForRow : OpenClaim := { program := "ytinmmaccoenphaadoor", sum := "61b1ef8b5d59dbe14bd2137bb1e84219b69d129a2619f07f0de2dfe939760bbf", func := "loop.example/g00677/laws.FnChunkFor", spec := "fnChunkFor", named := ["unicode/utf8.first", "unicode/utf8.acceptRanges"], apart := false, laid := [("unicode/utf8.acceptRanges", laid_unicode_utf8_acceptRanges), ("unicode/utf8.first", laid_unicode_utf8_first)] }
def FnChunkForSaid : Prop := fnChunkForRow.holds Tryd.pinned (OpenSpec.ofChange fnChunkForSpec)

/-- ITS FALSE NEIGHBOUR: 'it returns false'. Refute it at one input. -/
def fnChunkForWrong : ChangeSpec := { name := "fnChunkFor", fn := fun _ => fun
  | [d] => { results := [.lit (.bool false)], args := [d] }
  | _ => none }
def FnChunkForWrongFalsely : Prop := fnChunkForRow.holds Tryd.pinned (OpenSpec.ofChange fnChunkForWrong)

/-- 'laws.FnPlaces': WHATEVER THE INPUT: true; the input reads as it did. -/
def fnPlacesSpec : ChangeSpec := { name := "fnPlaces", fn := fun _ => fun
  | [d] => { results := [.lit (.bool true)], args := [d] }
  | _ => none }
def fnPlacesRow : OpenClaim := { program := "ytinmmaccoenphaadoor", sum := "61b1ef8b5d59dbe14bd2137bb1e84219b69d129a2619f07f0de2dfe939760bbf", func := "loop.example/g00677/laws.FnPlaces", spec := "fnPlaces", named := ["unicode/utf8.first", "unicode/utf8.acceptRanges"], apart := false, laid := [("unicode/utf8.acceptRanges", laid_unicode_utf8_acceptRanges), ("unicode/utf8.first", laid_unicode_utf8_first)] }
def FnPlacesSaid : Prop := fnPlacesRow.holds Tryd.pinned (OpenSpec.ofChange fnPlacesSpec)

/-- ITS FALSE NEIGHBOUR: 'it returns false'. Refute it at one input. -/
def fnPlacesWrong : ChangeSpec := { name := "fnPlaces", fn := fun _ => fun
  | [d] => { results := [.lit (.bool false)], args := [d] }
  | _ => none }
def FnPlacesWrongFalsely : Prop := fnPlacesRow.holds Tryd.pinned (OpenSpec.ofChange fnPlacesWrong)

/-- 'laws.FnReqBack': WHATEVER THE INPUT: true; the input reads as it did. -/
def fnReqBackSpec : ChangeSpec := { name := "fnReqBack", fn := fun _ => fun
  | [d] => { results := [.lit (.bool true)], args := [d] }
  | _ => none }
def fnReqBackRow : OpenClaim := { program := "ytinmmaccoenphaadoor", sum := "61b1ef8b5d59dbe14bd2137bb1e84219b69d129a2619f07f0de2dfe939760bbf", func := "loop.example/g00677/laws.FnReqBack", spec := "fnReqBack", named := ["unicode/utf8.first", "unicode/utf8.acceptRanges"], apart := false, laid := [("unicode/utf8.acceptRanges", laid_unicode_utf8_acceptRanges), ("unicode/utf8.first", laid_unicode_utf8_first)] }
def FnReqBackSaid : Prop := fnReqBackRow.holds Tryd.pinned (OpenSpec.ofChange fnReqBackSpec)

/-- ITS FALSE NEIGHBOUR: 'it returns false'. Refute it at one input. -/
def fnReqBackWrong : ChangeSpec := { name := "fnReqBack", fn := fun _ => fun
  | [d] => { results := [.lit (.bool false)], args := [d] }
  | _ => none }
def FnReqBackWrongFalsely : Prop := fnReqBackRow.holds Tryd.pinned (OpenSpec.ofChange fnReqBackWrong)

/-- 'laws.FnChunks': WHATEVER THE INPUT: true; the input reads as it did. -/
def fnChunksSpec : ChangeSpec := { name := "fnChunks", fn := fun _ => fun
  | [d] => { results := [.lit (.bool true)], args := [d] }
  | _ => none }
def fnChunksRow : OpenClaim := { program := "ytinmmaccoenphaadoor", sum := "61b1ef8b5d59dbe14bd2137bb1e84219b69d129a2619f07f0de2dfe939760bbf", func := "loop.example/g00677/laws.FnChunks", spec := "fnChunks", inPlace := ["internal/bytealg.Count", "internal/bytealg.IndexByte", "internal/bytealg.Index"], named := ["unicode/utf8.first", "unicode/utf8.acceptRanges", "internal/bytealg.MaxLen"], apart := false, laid := [("unicode/utf8.acceptRanges", laid_unicode_utf8_acceptRanges), ("unicode/utf8.first", laid_unicode_utf8_first)] }
def FnChunksSaid : Prop := fnChunksRow.holds Tryd.pinned (OpenSpec.ofChange fnChunksSpec)

/-- ITS FALSE NEIGHBOUR: 'it returns false'. Refute it at one input. -/
def fnChunksWrong : ChangeSpec := { name := "fnChunks", fn := fun _ => fun
  | [d] => { results := [.lit (.bool false)], args := [d] }
  | _ => none }
def FnChunksWrongFalsely : Prop := fnChunksRow.holds Tryd.pinned (OpenSpec.ofChange fnChunksWrong)

/-- 'laws.FnLines': WHATEVER THE INPUT: true; the input reads as it did. -/
def fnLinesSpec : ChangeSpec := { name := "fnLines", fn := fun _ => fun
  | [d] => { results := [.lit (.bool true)], args := [d] }
  | _ => none }
def fnLinesRow : OpenClaim := { program := "ytinmmaccoenphaadoor", sum := "61b1ef8b5d59dbe14bd2137bb1e84219b69d129a2619f07f0de2dfe939760bbf", func := "loop.example/g00677/laws.FnLines", spec := "fnLines", inPlace := ["internal/bytealg.Count", "internal/bytealg.IndexByte", "internal/bytealg.Index"], named := ["unicode/utf8.first", "unicode/utf8.acceptRanges", "internal/bytealg.MaxLen"], apart := false, laid := [("unicode/utf8.acceptRanges", laid_unicode_utf8_acceptRanges), ("unicode/utf8.first", laid_unicode_utf8_first)] }
def FnLinesSaid : Prop := fnLinesRow.holds Tryd.pinned (OpenSpec.ofChange fnLinesSpec)

/-- ITS FALSE NEIGHBOUR: 'it returns false'. Refute it at one input. -/
def fnLinesWrong : ChangeSpec := { name := "fnLines", fn := fun _ => fun
  | [d] => { results := [.lit (.bool false)], args := [d] }
  | _ => none }
def FnLinesWrongFalsely : Prop := fnLinesRow.holds Tryd.pinned (OpenSpec.ofChange fnLinesWrong)

/-- 'laws.FnRopeFind': WHATEVER THE INPUT: true; the input reads as it did. -/
def fnRopeFindSpec : ChangeSpec := { name := "fnRopeFind", fn := fun _ => fun
  | [d] => { results := [.lit (.bool true)], args := [d] }
  | _ => none }
def fnRopeFindRow : OpenClaim := { program := "ytinmmaccoenphaadoor", sum := "61b1ef8b5d59dbe14bd2137bb1e84219b69d129a2619f07f0de2dfe939760bbf", func := "loop.example/g00677/laws.FnRopeFind", spec := "fnRopeFind", inPlace := ["internal/bytealg.IndexByte", "internal/bytealg.Index"], named := ["unicode/utf8.first", "unicode/utf8.acceptRanges", "internal/bytealg.MaxLen"], apart := false, laid := [("unicode/utf8.acceptRanges", laid_unicode_utf8_acceptRanges), ("unicode/utf8.first", laid_unicode_utf8_first)] }
def FnRopeFindSaid : Prop := fnRopeFindRow.holds Tryd.pinned (OpenSpec.ofChange fnRopeFindSpec)

/-- ITS FALSE NEIGHBOUR: 'it returns false'. Refute it at one input. -/
def fnRopeFindWrong : ChangeSpec := { name := "fnRopeFind", fn := fun _ => fun
  | [d] => { results := [.lit (.bool false)], args := [d] }
  | _ => none }
def FnRopeFindWrongFalsely : Prop := fnRopeFindRow.holds Tryd.pinned (OpenSpec.ofChange fnRopeFindWrong)

/- THE SECOND FORM. 'bulk': how many values and letters a reading holds, each counted each time it is reached (what is shared counts as often as it is met; a slice's spare places count too). A statement '..UptoSaid' is the law's where the arguments, and the package variables that the reading takes, are together of bulk at most 1048576: NARROWER than '..Said'. Prove '..Said' where nothing that the law and all that it calls make is longer than what came in: it says more and counts as full. Else prove '..UptoSaid'. A law counts once. -/
mutual
def uptoBulk {H : Type} : DataW H → Nat
  | .lit (.string bytes) => bytes.length + 1
  | .lit _ => 1
  | .nil => 1
  | .ptr d => uptoBulk d + 1
  | .slice elems spare => uptoBulkAll elems + uptoBulkAll spare + 1
  | .agg parts => uptoBulkAll parts + 1
  | .iface _ d => uptoBulk d + 1
  | .map entries => uptoBulkEntries entries + 1
  | .held _ => 1
def uptoBulkAll {H : Type} : List (DataW H) → Nat
  | [] => 0
  | d :: r => uptoBulk d + uptoBulkAll r
def uptoBulkEntries {H : Type} : List (Lit × DataW H) → Nat
  | [] => 0
  | x :: r => uptoBulkEntry x + uptoBulkEntries r
def uptoBulkEntry {H : Type} : Lit × DataW H → Nat
  | (.string bytes, d) => bytes.length + uptoBulk d + 1
  | (_, d) => uptoBulk d + 1
 end
def uptoSmall : (H : Type) → List (DataW H) → Bool := fun _ ds => decide (uptoBulkAll ds ≤ 1048576)
def OpenSpec.upto (s : _root_.Go.ChangeSpec) : _root_.Go.OpenSpec := { _root_.Go.OpenSpec.ofChange s with cond := some uptoSmall }

/-- 'laws.FnRuneBack', WHERE WHAT IT READS IS OF BULK AT MOST 1048576: true; the input reads as it did. -/
def fnRuneBackUptoRow : OpenClaim := { program := "ytinmmaccoenphaadoor", sum := "61b1ef8b5d59dbe14bd2137bb1e84219b69d129a2619f07f0de2dfe939760bbf", func := "loop.example/g00677/laws.FnRuneBack", spec := "fnRuneBack", named := ["unicode/utf8.first", "unicode/utf8.acceptRanges"], apart := false, laid := [("unicode/utf8.acceptRanges", laid_unicode_utf8_acceptRanges), ("unicode/utf8.first", laid_unicode_utf8_first)], narrowed := true }
def FnRuneBackUptoSaid : Prop := fnRuneBackUptoRow.holds Tryd.pinned (OpenSpec.upto fnRuneBackSpec)

/-- 'laws.FnChunkFor', WHERE WHAT IT READS IS OF BULK AT MOST 1048576: true; the input reads as it did. -/
def fnChunkForUptoRow : OpenClaim := { program := "ytinmmaccoenphaadoor", sum := "61b1ef8b5d59dbe14bd2137bb1e84219b69d129a2619f07f0de2dfe939760bbf", func := "loop.example/g00677/laws.FnChunkFor", spec := "fnChunkFor", named := ["unicode/utf8.first", "unicode/utf8.acceptRanges"], apart := false, laid := [("unicode/utf8.acceptRanges", laid_unicode_utf8_acceptRanges), ("unicode/utf8.first", laid_unicode_utf8_first)], narrowed := true }
def FnChunkForUptoSaid : Prop := fnChunkForUptoRow.holds Tryd.pinned (OpenSpec.upto fnChunkForSpec)

/-- 'laws.FnPlaces', WHERE WHAT IT READS IS OF BULK AT MOST 1048576: true; the input reads as it did. -/
def fnPlacesUptoRow : OpenClaim := { program := "ytinmmaccoenphaadoor", sum := "61b1ef8b5d59dbe14bd2137bb1e84219b69d129a2619f07f0de2dfe939760bbf", func := "loop.example/g00677/laws.FnPlaces", spec := "fnPlaces", named := ["unicode/utf8.first", "unicode/utf8.acceptRanges"], apart := false, laid := [("unicode/utf8.acceptRanges", laid_unicode_utf8_acceptRanges), ("unicode/utf8.first", laid_unicode_utf8_first)], narrowed := true }
def FnPlacesUptoSaid : Prop := fnPlacesUptoRow.holds Tryd.pinned (OpenSpec.upto fnPlacesSpec)

/-- 'laws.FnReqBack', WHERE WHAT IT READS IS OF BULK AT MOST 1048576: true; the input reads as it did. -/
def fnReqBackUptoRow : OpenClaim := { program := "ytinmmaccoenphaadoor", sum := "61b1ef8b5d59dbe14bd2137bb1e84219b69d129a2619f07f0de2dfe939760bbf", func := "loop.example/g00677/laws.FnReqBack", spec := "fnReqBack", named := ["unicode/utf8.first", "unicode/utf8.acceptRanges"], apart := false, laid := [("unicode/utf8.acceptRanges", laid_unicode_utf8_acceptRanges), ("unicode/utf8.first", laid_unicode_utf8_first)], narrowed := true }
def FnReqBackUptoSaid : Prop := fnReqBackUptoRow.holds Tryd.pinned (OpenSpec.upto fnReqBackSpec)

/-- 'laws.FnChunks', WHERE WHAT IT READS IS OF BULK AT MOST 1048576: true; the input reads as it did. -/
def fnChunksUptoRow : OpenClaim := { program := "ytinmmaccoenphaadoor", sum := "61b1ef8b5d59dbe14bd2137bb1e84219b69d129a2619f07f0de2dfe939760bbf", func := "loop.example/g00677/laws.FnChunks", spec := "fnChunks", inPlace := ["internal/bytealg.Count", "internal/bytealg.IndexByte", "internal/bytealg.Index"], named := ["unicode/utf8.first", "unicode/utf8.acceptRanges", "internal/bytealg.MaxLen"], apart := false, laid := [("unicode/utf8.acceptRanges", laid_unicode_utf8_acceptRanges), ("unicode/utf8.first", laid_unicode_utf8_first)], narrowed := true }
def FnChunksUptoSaid : Prop := fnChunksUptoRow.holds Tryd.pinned (OpenSpec.upto fnChunksSpec)

/-- 'laws.FnLines', WHERE WHAT IT READS IS OF BULK AT MOST 1048576: true; the input reads as it did. -/
def fnLinesUptoRow : OpenClaim := { program := "ytinmmaccoenphaadoor", sum := "61b1ef8b5d59dbe14bd2137bb1e84219b69d129a2619f07f0de2dfe939760bbf", func := "loop.example/g00677/laws.FnLines", spec := "fnLines", inPlace := ["internal/bytealg.Count", "internal/bytealg.IndexByte", "internal/bytealg.Index"], named := ["unicode/utf8.first", "unicode/utf8.acceptRanges", "internal/bytealg.MaxLen"], apart := false, laid := [("unicode/utf8.acceptRanges", laid_unicode_utf8_acceptRanges), ("unicode/utf8.first", laid_unicode_utf8_first)], narrowed := true }
def FnLinesUptoSaid : Prop := fnLinesUptoRow.holds Tryd.pinned (OpenSpec.upto fnLinesSpec)

/-- 'laws.FnRopeFind', WHERE WHAT IT READS IS OF BULK AT MOST 1048576: true; the input reads as it did. -/
def fnRopeFindUptoRow : OpenClaim := { program := "ytinmmaccoenphaadoor", sum := "61b1ef8b5d59dbe14bd2137bb1e84219b69d129a2619f07f0de2dfe939760bbf", func := "loop.example/g00677/laws.FnRopeFind", spec := "fnRopeFind", inPlace := ["internal/bytealg.IndexByte", "internal/bytealg.Index"], named := ["unicode/utf8.first", "unicode/utf8.acceptRanges", "internal/bytealg.MaxLen"], apart := false, laid := [("unicode/utf8.acceptRanges", laid_unicode_utf8_acceptRanges), ("unicode/utf8.first", laid_unicode_utf8_first)], narrowed := true }
def FnRopeFindUptoSaid : Prop := fnRopeFindUptoRow.holds Tryd.pinned (OpenSpec.upto fnRopeFindSpec)

end Rows
end Go.Proofs.YtinmmaccoenphaaDoor
