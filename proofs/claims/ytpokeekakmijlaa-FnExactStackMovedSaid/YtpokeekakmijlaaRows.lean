/-
  No cell of these rows narrows 'for every input' (looked for: loops, veiled, ifaces, maps, wideKeys, modest, calm, conditions, laid).
  DERIVED. THE GIVEN ROWS OF THIS SEAT. 11 by the template 'for every input the law returns true; each argument reads behind the call as it read before'; 0 by the template 'total and deterministic' (their statements: YtpokeekakmijlaaTotals.lean).
  GIVEN WITH THE SEED: the statements are not yours to turn. If you find one false, say at which input.
  Laid BY PROGRAM, IN A SANDBOX (cutbox-rows.mjs): the forced cells as the released guide's own fill.sh prints them over the translation 3654bab4533eb678… (all of the seat's roots in one cut). By AI agents, Wed Nov 11 2026. No macro, syntax, notation, axiom, sorry.
-/
import Derived.Test.YtpokeekakmijlaaChecked
import GoSem.Claim
import GoSem.ClaimJoined
import GoSem.ClaimMapViews
import Derived.JoinedTies
import Derived.KernelRfl
namespace Go.Proofs.Ytpokeekakmijlaa
/- THE CELL 'sum', in the pinned program and in every row, IS THE sha256 OF THE DUMP (.gsa) THAT YtpokeekakmijlaaProg.lean LOADS. Nothing in Lean hashes anything: it is a label: what it is worth is what the hold of that sum in a sandbox is worth. -/
noncomputable def Try.pinned : Pinned := { name := "ytpokeekakmijlaa", sum := "3654bab4533eb6787daf4533ee8ea8f8f8aa1e2f22e4539a44f899d40740c970", checked := Try.checked }
namespace Rows
def none {H : Type} : Left H := { results := [], args := [] }

/-- 'laws.FnLeaseBook': WHATEVER THE INPUT: true; the input reads as it did. -/
def fnLeaseBookSpec : ChangeSpec := { name := "fnLeaseBook", fn := fun _ => fun
  | [d] => { results := [.lit (.bool true)], args := [d] }
  | _ => none }
def fnLeaseBookRow : OpenClaim := { program := "ytpokeekakmijlaa", sum := "3654bab4533eb6787daf4533ee8ea8f8f8aa1e2f22e4539a44f899d40740c970", func := "loop.example/g00677/laws.FnLeaseBook", spec := "fnLeaseBook", inPlace := ["slices.overlaps[loop.example/g00677/impl.Lease]"], unfollowed := true, recurses := true, apart := false }
def FnLeaseBookSaid : Prop := fnLeaseBookRow.holds Try.pinned (OpenSpec.ofChange fnLeaseBookSpec)

/-- ITS FALSE NEIGHBOUR: 'it returns false'. Refute it at one input. -/
def fnLeaseBookWrong : ChangeSpec := { name := "fnLeaseBook", fn := fun _ => fun
  | [d] => { results := [.lit (.bool false)], args := [d] }
  | _ => none }
def FnLeaseBookWrongFalsely : Prop := fnLeaseBookRow.holds Try.pinned (OpenSpec.ofChange fnLeaseBookWrong)

/-- 'laws.FnLeasesApart': WHATEVER THE INPUT: true; the input reads as it did. -/
def fnLeasesApartSpec : ChangeSpec := { name := "fnLeasesApart", fn := fun _ => fun
  | [d] => { results := [.lit (.bool true)], args := [d] }
  | _ => none }
def fnLeasesApartRow : OpenClaim := { program := "ytpokeekakmijlaa", sum := "3654bab4533eb6787daf4533ee8ea8f8f8aa1e2f22e4539a44f899d40740c970", func := "loop.example/g00677/laws.FnLeasesApart", spec := "fnLeasesApart", inPlace := ["slices.overlaps[loop.example/g00677/impl.Lease]"], unfollowed := true, recurses := true, apart := false }
def FnLeasesApartSaid : Prop := fnLeasesApartRow.holds Try.pinned (OpenSpec.ofChange fnLeasesApartSpec)

/-- ITS FALSE NEIGHBOUR: 'it returns false'. Refute it at one input. -/
def fnLeasesApartWrong : ChangeSpec := { name := "fnLeasesApart", fn := fun _ => fun
  | [d] => { results := [.lit (.bool false)], args := [d] }
  | _ => none }
def FnLeasesApartWrongFalsely : Prop := fnLeasesApartRow.holds Try.pinned (OpenSpec.ofChange fnLeasesApartWrong)

/-- 'laws.FnExactStackMoved': WHATEVER THE INPUT: true; the input reads as it did. -/
def fnExactStackMovedSpec : ChangeSpec := { name := "fnExactStackMoved", fn := fun _ => fun
  | [d1, d2] => { results := [.lit (.bool true)], args := [d1, d2] }
  | _ => none }
def fnExactStackMovedRow : OpenClaim := { program := "ytpokeekakmijlaa", sum := "3654bab4533eb6787daf4533ee8ea8f8f8aa1e2f22e4539a44f899d40740c970", func := "loop.example/g00677/laws.FnExactStackMoved", spec := "fnExactStackMoved", unfollowed := true, recurses := true, apart := false }
def FnExactStackMovedSaid : Prop := fnExactStackMovedRow.holds Try.pinned (OpenSpec.ofChange fnExactStackMovedSpec)

/-- ITS FALSE NEIGHBOUR: 'it returns false'. Refute it at one input. -/
def fnExactStackMovedWrong : ChangeSpec := { name := "fnExactStackMoved", fn := fun _ => fun
  | [d1, d2] => { results := [.lit (.bool false)], args := [d1, d2] }
  | _ => none }
def FnExactStackMovedWrongFalsely : Prop := fnExactStackMovedRow.holds Try.pinned (OpenSpec.ofChange fnExactStackMovedWrong)

/-- 'laws.FnExactFingUncons': WHATEVER THE INPUT: true; the input reads as it did. -/
def fnExactFingUnconsSpec : ChangeSpec := { name := "fnExactFingUncons", fn := fun _ => fun
  | [d] => { results := [.lit (.bool true)], args := [d] }
  | _ => none }
def fnExactFingUnconsRow : OpenClaim := { program := "ytpokeekakmijlaa", sum := "3654bab4533eb6787daf4533ee8ea8f8f8aa1e2f22e4539a44f899d40740c970", func := "loop.example/g00677/laws.FnExactFingUncons", spec := "fnExactFingUncons", inPlace := ["internal/bytealg.CountString", "internal/bytealg.IndexByteString", "internal/bytealg.IndexString"], unfollowed := true, recurses := true, named := ["internal/bytealg.MaxLen"], apart := false }
def FnExactFingUnconsSaid : Prop := fnExactFingUnconsRow.holds Try.pinned (OpenSpec.ofChange fnExactFingUnconsSpec)

/-- ITS FALSE NEIGHBOUR: 'it returns false'. Refute it at one input. -/
def fnExactFingUnconsWrong : ChangeSpec := { name := "fnExactFingUncons", fn := fun _ => fun
  | [d] => { results := [.lit (.bool false)], args := [d] }
  | _ => none }
def FnExactFingUnconsWrongFalsely : Prop := fnExactFingUnconsRow.holds Try.pinned (OpenSpec.ofChange fnExactFingUnconsWrong)

/-- 'laws.FnExactFingUnsnoc': WHATEVER THE INPUT: true; the input reads as it did. -/
def fnExactFingUnsnocSpec : ChangeSpec := { name := "fnExactFingUnsnoc", fn := fun _ => fun
  | [d] => { results := [.lit (.bool true)], args := [d] }
  | _ => none }
def fnExactFingUnsnocRow : OpenClaim := { program := "ytpokeekakmijlaa", sum := "3654bab4533eb6787daf4533ee8ea8f8f8aa1e2f22e4539a44f899d40740c970", func := "loop.example/g00677/laws.FnExactFingUnsnoc", spec := "fnExactFingUnsnoc", inPlace := ["internal/bytealg.CountString", "internal/bytealg.IndexByteString", "internal/bytealg.IndexString"], unfollowed := true, recurses := true, named := ["internal/bytealg.MaxLen"], apart := false }
def FnExactFingUnsnocSaid : Prop := fnExactFingUnsnocRow.holds Try.pinned (OpenSpec.ofChange fnExactFingUnsnocSpec)

/-- ITS FALSE NEIGHBOUR: 'it returns false'. Refute it at one input. -/
def fnExactFingUnsnocWrong : ChangeSpec := { name := "fnExactFingUnsnoc", fn := fun _ => fun
  | [d] => { results := [.lit (.bool false)], args := [d] }
  | _ => none }
def FnExactFingUnsnocWrongFalsely : Prop := fnExactFingUnsnocRow.holds Try.pinned (OpenSpec.ofChange fnExactFingUnsnocWrong)

/-- 'laws.FnFingEmpty': WHATEVER THE INPUT: true; the input reads as it did. -/
def fnFingEmptySpec : ChangeSpec := { name := "fnFingEmpty", fn := fun _ => fun
  | [d] => { results := [.lit (.bool true)], args := [d] }
  | _ => none }
def fnFingEmptyRow : OpenClaim := { program := "ytpokeekakmijlaa", sum := "3654bab4533eb6787daf4533ee8ea8f8f8aa1e2f22e4539a44f899d40740c970", func := "loop.example/g00677/laws.FnFingEmpty", spec := "fnFingEmpty", inPlace := ["internal/bytealg.CountString", "internal/bytealg.IndexByteString", "internal/bytealg.IndexString"], unfollowed := true, recurses := true, named := ["internal/bytealg.MaxLen"], apart := false }
def FnFingEmptySaid : Prop := fnFingEmptyRow.holds Try.pinned (OpenSpec.ofChange fnFingEmptySpec)

/-- ITS FALSE NEIGHBOUR: 'it returns false'. Refute it at one input. -/
def fnFingEmptyWrong : ChangeSpec := { name := "fnFingEmpty", fn := fun _ => fun
  | [d] => { results := [.lit (.bool false)], args := [d] }
  | _ => none }
def FnFingEmptyWrongFalsely : Prop := fnFingEmptyRow.holds Try.pinned (OpenSpec.ofChange fnFingEmptyWrong)

/-- 'laws.FnExactFingSnoc': WHATEVER THE INPUT: true; the input reads as it did. -/
def fnExactFingSnocSpec : ChangeSpec := { name := "fnExactFingSnoc", fn := fun _ => fun
  | [d] => { results := [.lit (.bool true)], args := [d] }
  | _ => none }
def fnExactFingSnocRow : OpenClaim := { program := "ytpokeekakmijlaa", sum := "3654bab4533eb6787daf4533ee8ea8f8f8aa1e2f22e4539a44f899d40740c970", func := "loop.example/g00677/laws.FnExactFingSnoc", spec := "fnExactFingSnoc", inPlace := ["internal/bytealg.CountString", "internal/bytealg.IndexByteString", "internal/bytealg.IndexString", "internal/abi.NoEscape", "internal/bytealg.MakeNoZero"], unfollowed := true, recurses := true, named := ["internal/bytealg.MaxLen"], apart := false }
def FnExactFingSnocSaid : Prop := fnExactFingSnocRow.holds Try.pinned (OpenSpec.ofChange fnExactFingSnocSpec)

/-- ITS FALSE NEIGHBOUR: 'it returns false'. Refute it at one input. -/
def fnExactFingSnocWrong : ChangeSpec := { name := "fnExactFingSnoc", fn := fun _ => fun
  | [d] => { results := [.lit (.bool false)], args := [d] }
  | _ => none }
def FnExactFingSnocWrongFalsely : Prop := fnExactFingSnocRow.holds Try.pinned (OpenSpec.ofChange fnExactFingSnocWrong)

/-- 'laws.FnExactFingCons': WHATEVER THE INPUT: true; the input reads as it did. -/
def fnExactFingConsSpec : ChangeSpec := { name := "fnExactFingCons", fn := fun _ => fun
  | [d] => { results := [.lit (.bool true)], args := [d] }
  | _ => none }
def fnExactFingConsRow : OpenClaim := { program := "ytpokeekakmijlaa", sum := "3654bab4533eb6787daf4533ee8ea8f8f8aa1e2f22e4539a44f899d40740c970", func := "loop.example/g00677/laws.FnExactFingCons", spec := "fnExactFingCons", inPlace := ["internal/bytealg.CountString", "internal/bytealg.IndexByteString", "internal/bytealg.IndexString", "slices.overlaps[string]", "internal/abi.NoEscape", "internal/bytealg.MakeNoZero"], unfollowed := true, recurses := true, named := ["internal/bytealg.MaxLen"], apart := false }
def FnExactFingConsSaid : Prop := fnExactFingConsRow.holds Try.pinned (OpenSpec.ofChange fnExactFingConsSpec)

/-- ITS FALSE NEIGHBOUR: 'it returns false'. Refute it at one input. -/
def fnExactFingConsWrong : ChangeSpec := { name := "fnExactFingCons", fn := fun _ => fun
  | [d] => { results := [.lit (.bool false)], args := [d] }
  | _ => none }
def FnExactFingConsWrongFalsely : Prop := fnExactFingConsRow.holds Try.pinned (OpenSpec.ofChange fnExactFingConsWrong)

/-- 'laws.FnExactFingConcat': WHATEVER THE INPUT: true; the input reads as it did. -/
def fnExactFingConcatSpec : ChangeSpec := { name := "fnExactFingConcat", fn := fun _ => fun
  | [d1, d2] => { results := [.lit (.bool true)], args := [d1, d2] }
  | _ => none }
def fnExactFingConcatRow : OpenClaim := { program := "ytpokeekakmijlaa", sum := "3654bab4533eb6787daf4533ee8ea8f8f8aa1e2f22e4539a44f899d40740c970", func := "loop.example/g00677/laws.FnExactFingConcat", spec := "fnExactFingConcat", inPlace := ["internal/bytealg.CountString", "internal/bytealg.IndexByteString", "internal/bytealg.IndexString", "slices.overlaps[string]", "internal/abi.NoEscape", "internal/bytealg.MakeNoZero"], unfollowed := true, recurses := true, named := ["internal/bytealg.MaxLen"], apart := false }
def FnExactFingConcatSaid : Prop := fnExactFingConcatRow.holds Try.pinned (OpenSpec.ofChange fnExactFingConcatSpec)

/-- ITS FALSE NEIGHBOUR: 'it returns false'. Refute it at one input. -/
def fnExactFingConcatWrong : ChangeSpec := { name := "fnExactFingConcat", fn := fun _ => fun
  | [d1, d2] => { results := [.lit (.bool false)], args := [d1, d2] }
  | _ => none }
def FnExactFingConcatWrongFalsely : Prop := fnExactFingConcatRow.holds Try.pinned (OpenSpec.ofChange fnExactFingConcatWrong)

/-- 'laws.FnFingConcat': WHATEVER THE INPUT: true; the input reads as it did. -/
def fnFingConcatSpec : ChangeSpec := { name := "fnFingConcat", fn := fun _ => fun
  | [d] => { results := [.lit (.bool true)], args := [d] }
  | _ => none }
def fnFingConcatRow : OpenClaim := { program := "ytpokeekakmijlaa", sum := "3654bab4533eb6787daf4533ee8ea8f8f8aa1e2f22e4539a44f899d40740c970", func := "loop.example/g00677/laws.FnFingConcat", spec := "fnFingConcat", inPlace := ["internal/bytealg.CountString", "internal/bytealg.IndexByteString", "internal/bytealg.IndexString", "slices.overlaps[string]", "internal/abi.NoEscape", "internal/bytealg.MakeNoZero"], unfollowed := true, recurses := true, named := ["internal/bytealg.MaxLen"], apart := false }
def FnFingConcatSaid : Prop := fnFingConcatRow.holds Try.pinned (OpenSpec.ofChange fnFingConcatSpec)

/-- ITS FALSE NEIGHBOUR: 'it returns false'. Refute it at one input. -/
def fnFingConcatWrong : ChangeSpec := { name := "fnFingConcat", fn := fun _ => fun
  | [d] => { results := [.lit (.bool false)], args := [d] }
  | _ => none }
def FnFingConcatWrongFalsely : Prop := fnFingConcatRow.holds Try.pinned (OpenSpec.ofChange fnFingConcatWrong)

/-- 'laws.FnFingers': WHATEVER THE INPUT: true; the input reads as it did. -/
def fnFingersSpec : ChangeSpec := { name := "fnFingers", fn := fun _ => fun
  | [d] => { results := [.lit (.bool true)], args := [d] }
  | _ => none }
def fnFingersRow : OpenClaim := { program := "ytpokeekakmijlaa", sum := "3654bab4533eb6787daf4533ee8ea8f8f8aa1e2f22e4539a44f899d40740c970", func := "loop.example/g00677/laws.FnFingers", spec := "fnFingers", inPlace := ["internal/bytealg.CountString", "internal/bytealg.IndexByteString", "internal/bytealg.IndexString", "slices.overlaps[string]", "internal/abi.NoEscape", "internal/bytealg.MakeNoZero"], unfollowed := true, recurses := true, named := ["internal/bytealg.MaxLen"], apart := false }
def FnFingersSaid : Prop := fnFingersRow.holds Try.pinned (OpenSpec.ofChange fnFingersSpec)

/-- ITS FALSE NEIGHBOUR: 'it returns false'. Refute it at one input. -/
def fnFingersWrong : ChangeSpec := { name := "fnFingers", fn := fun _ => fun
  | [d] => { results := [.lit (.bool false)], args := [d] }
  | _ => none }
def FnFingersWrongFalsely : Prop := fnFingersRow.holds Try.pinned (OpenSpec.ofChange fnFingersWrong)

/- THE SECOND FORM. 'bulk': how many values and letters a reading holds, each counted each time it is reached (what is shared counts as often as it is met; a slice's spare places count too). A statement '..UptoSaid' is the law's where the arguments, and the package variables that the reading takes, are together of bulk at most 1048576: NARROWER than '..Said'. Prove '..Said' where nothing that the law and all that it calls make is longer than what came in: it says more and counts as full. Else prove '..UptoSaid'. A law counts once. -/
mutual
def uptoBulk {H : Type} : DataW H → Nat
  | .lit (.string bytes) => bytes.length + 1
  | .lit _ => 1
  | .nil => 1
  | .ptr d => uptoBulk d + 1
  | .slice elems spare => uptoBulkAll elems + uptoBulkAll spare + 1
  | .agg parts => uptoBulkAll parts + 1
  | .iface _ d => uptoBulk d + 1
  | .map entries => uptoBulkEntries entries + 1
  | .held _ => 1
def uptoBulkAll {H : Type} : List (DataW H) → Nat
  | [] => 0
  | d :: r => uptoBulk d + uptoBulkAll r
def uptoBulkEntries {H : Type} : List (Lit × DataW H) → Nat
  | [] => 0
  | x :: r => uptoBulkEntry x + uptoBulkEntries r
def uptoBulkEntry {H : Type} : Lit × DataW H → Nat
  | (.string bytes, d) => bytes.length + uptoBulk d + 1
  | (_, d) => uptoBulk d + 1
 end
def uptoSmall : (H : Type) → List (DataW H) → Bool := fun _ ds => decide (uptoBulkAll ds ≤ 1048576)
def OpenSpec.upto (s : _root_.Go.ChangeSpec) : _root_.Go.OpenSpec := { _root_.Go.OpenSpec.ofChange s with cond := some uptoSmall }

/-- 'laws.FnLeaseBook', WHERE WHAT IT READS IS OF BULK AT MOST 1048576: true; the input reads as it did. -/
def fnLeaseBookUptoRow : OpenClaim := { program := "ytpokeekakmijlaa", sum := "3654bab4533eb6787daf4533ee8ea8f8f8aa1e2f22e4539a44f899d40740c970", func := "loop.example/g00677/laws.FnLeaseBook", spec := "fnLeaseBook", inPlace := ["slices.overlaps[loop.example/g00677/impl.Lease]"], unfollowed := true, recurses := true, apart := false, narrowed := true }
def FnLeaseBookUptoSaid : Prop := fnLeaseBookUptoRow.holds Try.pinned (OpenSpec.upto fnLeaseBookSpec)

/-- 'laws.FnLeasesApart', WHERE WHAT IT READS IS OF BULK AT MOST 1048576: true; the input reads as it did. -/
def fnLeasesApartUptoRow : OpenClaim := { program := "ytpokeekakmijlaa", sum := "3654bab4533eb6787daf4533ee8ea8f8f8aa1e2f22e4539a44f899d40740c970", func := "loop.example/g00677/laws.FnLeasesApart", spec := "fnLeasesApart", inPlace := ["slices.overlaps[loop.example/g00677/impl.Lease]"], unfollowed := true, recurses := true, apart := false, narrowed := true }
def FnLeasesApartUptoSaid : Prop := fnLeasesApartUptoRow.holds Try.pinned (OpenSpec.upto fnLeasesApartSpec)

/-- 'laws.FnExactStackMoved', WHERE WHAT IT READS IS OF BULK AT MOST 1048576: true; the input reads as it did. -/
def fnExactStackMovedUptoRow : OpenClaim := { program := "ytpokeekakmijlaa", sum := "3654bab4533eb6787daf4533ee8ea8f8f8aa1e2f22e4539a44f899d40740c970", func := "loop.example/g00677/laws.FnExactStackMoved", spec := "fnExactStackMoved", unfollowed := true, recurses := true, apart := false, narrowed := true }
def FnExactStackMovedUptoSaid : Prop := fnExactStackMovedUptoRow.holds Try.pinned (OpenSpec.upto fnExactStackMovedSpec)

/-- 'laws.FnExactFingUncons', WHERE WHAT IT READS IS OF BULK AT MOST 1048576: true; the input reads as it did. -/
def fnExactFingUnconsUptoRow : OpenClaim := { program := "ytpokeekakmijlaa", sum := "3654bab4533eb6787daf4533ee8ea8f8f8aa1e2f22e4539a44f899d40740c970", func := "loop.example/g00677/laws.FnExactFingUncons", spec := "fnExactFingUncons", inPlace := ["internal/bytealg.CountString", "internal/bytealg.IndexByteString", "internal/bytealg.IndexString"], unfollowed := true, recurses := true, named := ["internal/bytealg.MaxLen"], apart := false, narrowed := true }
def FnExactFingUnconsUptoSaid : Prop := fnExactFingUnconsUptoRow.holds Try.pinned (OpenSpec.upto fnExactFingUnconsSpec)

/-- 'laws.FnExactFingUnsnoc', WHERE WHAT IT READS IS OF BULK AT MOST 1048576: true; the input reads as it did. -/
def fnExactFingUnsnocUptoRow : OpenClaim := { program := "ytpokeekakmijlaa", sum := "3654bab4533eb6787daf4533ee8ea8f8f8aa1e2f22e4539a44f899d40740c970", func := "loop.example/g00677/laws.FnExactFingUnsnoc", spec := "fnExactFingUnsnoc", inPlace := ["internal/bytealg.CountString", "internal/bytealg.IndexByteString", "internal/bytealg.IndexString"], unfollowed := true, recurses := true, named := ["internal/bytealg.MaxLen"], apart := false, narrowed := true }
def FnExactFingUnsnocUptoSaid : Prop := fnExactFingUnsnocUptoRow.holds Try.pinned (OpenSpec.upto fnExactFingUnsnocSpec)

/-- 'laws.FnFingEmpty', WHERE WHAT IT READS IS OF BULK AT MOST 1048576: true; the input reads as it did. -/
def fnFingEmptyUptoRow : OpenClaim := { program := "ytpokeekakmijlaa", sum := "3654bab4533eb6787daf4533ee8ea8f8f8aa1e2f22e4539a44f899d40740c970", func := "loop.example/g00677/laws.FnFingEmpty", spec := "fnFingEmpty", inPlace := ["internal/bytealg.CountString", "internal/bytealg.IndexByteString", "internal/bytealg.IndexString"], unfollowed := true, recurses := true, named := ["internal/bytealg.MaxLen"], apart := false, narrowed := true }
def FnFingEmptyUptoSaid : Prop := fnFingEmptyUptoRow.holds Try.pinned (OpenSpec.upto fnFingEmptySpec)

/-- 'laws.FnExactFingSnoc', WHERE WHAT IT READS IS OF BULK AT MOST 1048576: true; the input reads as it did. -/
def fnExactFingSnocUptoRow : OpenClaim := { program := "ytpokeekakmijlaa", sum := "3654bab4533eb6787daf4533ee8ea8f8f8aa1e2f22e4539a44f899d40740c970", func := "loop.example/g00677/laws.FnExactFingSnoc", spec := "fnExactFingSnoc", inPlace := ["internal/bytealg.CountString", "internal/bytealg.IndexByteString", "internal/bytealg.IndexString", "internal/abi.NoEscape", "internal/bytealg.MakeNoZero"], unfollowed := true, recurses := true, named := ["internal/bytealg.MaxLen"], apart := false, narrowed := true }
def FnExactFingSnocUptoSaid : Prop := fnExactFingSnocUptoRow.holds Try.pinned (OpenSpec.upto fnExactFingSnocSpec)

/-- 'laws.FnExactFingCons', WHERE WHAT IT READS IS OF BULK AT MOST 1048576: true; the input reads as it did. -/
def fnExactFingConsUptoRow : OpenClaim := { program := "ytpokeekakmijlaa", sum := "3654bab4533eb6787daf4533ee8ea8f8f8aa1e2f22e4539a44f899d40740c970", func := "loop.example/g00677/laws.FnExactFingCons", spec := "fnExactFingCons", inPlace := ["internal/bytealg.CountString", "internal/bytealg.IndexByteString", "internal/bytealg.IndexString", "slices.overlaps[string]", "internal/abi.NoEscape", "internal/bytealg.MakeNoZero"], unfollowed := true, recurses := true, named := ["internal/bytealg.MaxLen"], apart := false, narrowed := true }
def FnExactFingConsUptoSaid : Prop := fnExactFingConsUptoRow.holds Try.pinned (OpenSpec.upto fnExactFingConsSpec)

/-- 'laws.FnExactFingConcat', WHERE WHAT IT READS IS OF BULK AT MOST 1048576: true; the input reads as it did. -/
def fnExactFingConcatUptoRow : OpenClaim := { program := "ytpokeekakmijlaa", sum := "3654bab4533eb6787daf4533ee8ea8f8f8aa1e2f22e4539a44f899d40740c970", func := "loop.example/g00677/laws.FnExactFingConcat", spec := "fnExactFingConcat", inPlace := ["internal/bytealg.CountString", "internal/bytealg.IndexByteString", "internal/bytealg.IndexString", "slices.overlaps[string]", "internal/abi.NoEscape", "internal/bytealg.MakeNoZero"], unfollowed := true, recurses := true, named := ["internal/bytealg.MaxLen"], apart := false, narrowed := true }
def FnExactFingConcatUptoSaid : Prop := fnExactFingConcatUptoRow.holds Try.pinned (OpenSpec.upto fnExactFingConcatSpec)

/-- 'laws.FnFingConcat', WHERE WHAT IT READS IS OF BULK AT MOST 1048576: true; the input reads as it did. -/
def fnFingConcatUptoRow : OpenClaim := { program := "ytpokeekakmijlaa", sum := "3654bab4533eb6787daf4533ee8ea8f8f8aa1e2f22e4539a44f899d40740c970", func := "loop.example/g00677/laws.FnFingConcat", spec := "fnFingConcat", inPlace := ["internal/bytealg.CountString", "internal/bytealg.IndexByteString", "internal/bytealg.IndexString", "slices.overlaps[string]", "internal/abi.NoEscape", "internal/bytealg.MakeNoZero"], unfollowed := true, recurses := true, named := ["internal/bytealg.MaxLen"], apart := false, narrowed := true }
def FnFingConcatUptoSaid : Prop := fnFingConcatUptoRow.holds Try.pinned (OpenSpec.upto fnFingConcatSpec)

/-- 'laws.FnFingers', WHERE WHAT IT READS IS OF BULK AT MOST 1048576: true; the input reads as it did. -/
def fnFingersUptoRow : OpenClaim := { program := "ytpokeekakmijlaa", sum := "3654bab4533eb6787daf4533ee8ea8f8f8aa1e2f22e4539a44f899d40740c970", func := "loop.example/g00677/laws.FnFingers", spec := "fnFingers", inPlace := ["internal/bytealg.CountString", "internal/bytealg.IndexByteString", "internal/bytealg.IndexString", "slices.overlaps[string]", "internal/abi.NoEscape", "internal/bytealg.MakeNoZero"], unfollowed := true, recurses := true, named := ["internal/bytealg.MaxLen"], apart := false, narrowed := true }
def FnFingersUptoSaid : Prop := fnFingersUptoRow.holds Try.pinned (OpenSpec.upto fnFingersSpec)

end Rows
end Go.Proofs.Ytpokeekakmijlaa
