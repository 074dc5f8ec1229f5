/-
  No cell of these rows narrows 'for every input' (looked for: loops, veiled, ifaces, maps, wideKeys, modest, calm, conditions, laid).
  DERIVED. THE GIVEN ROWS OF THIS SEAT. 5 by the template 'for every input the law returns true; each argument reads behind the call as it read before'; 0 by the template 'total and deterministic' (their statements: YtbaajheaoohoiaaTotals.lean).
  GIVEN WITH THE SEED: the statements are not yours to turn. If you find one false, say at which input.
  Laid BY PROGRAM, IN A SANDBOX (cutbox-rows.mjs): the forced cells as the released guide's own fill.sh prints them over the translation 2bfdc9ab116c2f27… (all of the seat's roots in one cut). By AI agents, Wed Nov 11 2026. No macro, syntax, notation, axiom, sorry.
-/
import Derived.Test.YtbaajheaoohoiaaChecked
import GoSem.Claim
import GoSem.ClaimJoined
import GoSem.ClaimMapViews
import Derived.JoinedTies
import Derived.KernelRfl
namespace Go.Proofs.Ytbaajheaoohoiaa
/- THE CELL 'sum', in the pinned program and in every row, IS THE sha256 OF THE DUMP (.gsa) THAT YtbaajheaoohoiaaProg.lean LOADS. Nothing in Lean hashes anything: it is a label: what it is worth is what the hold of that sum in a sandbox is worth. -/
noncomputable def Try.pinned : Pinned := { name := "ytbaajheaoohoiaa", sum := "2bfdc9ab116c2f27b8d5f0bc1b2c9bd1d083a4f97a030770bb04a78567e8db87", checked := Try.checked }
namespace Rows
def none {H : Type} : Left H := { results := [], args := [] }

/-- 'laws.FnEditMoves': WHATEVER THE INPUT: true; the input reads as it did. -/
def fnEditMovesSpec : ChangeSpec := { name := "fnEditMoves", fn := fun _ => fun
  | [d] => { results := [.lit (.bool true)], args := [d] }
  | _ => none }
def fnEditMovesRow : OpenClaim := { program := "ytbaajheaoohoiaa", sum := "2bfdc9ab116c2f27b8d5f0bc1b2c9bd1d083a4f97a030770bb04a78567e8db87", func := "loop.example/g00677/laws.FnEditMoves", spec := "fnEditMoves", apart := false }
def FnEditMovesSaid : Prop := fnEditMovesRow.holds Try.pinned (OpenSpec.ofChange fnEditMovesSpec)

/-- ITS FALSE NEIGHBOUR: 'it returns false'. Refute it at one input. -/
def fnEditMovesWrong : ChangeSpec := { name := "fnEditMoves", fn := fun _ => fun
  | [d] => { results := [.lit (.bool false)], args := [d] }
  | _ => none }
def FnEditMovesWrongFalsely : Prop := fnEditMovesRow.holds Try.pinned (OpenSpec.ofChange fnEditMovesWrong)

/-- 'laws.FnFrames': WHATEVER THE INPUT: true; the input reads as it did. -/
def fnFramesSpec : ChangeSpec := { name := "fnFrames", fn := fun _ => fun
  | [d] => { results := [.lit (.bool true)], args := [d] }
  | _ => none }
def fnFramesRow : OpenClaim := { program := "ytbaajheaoohoiaa", sum := "2bfdc9ab116c2f27b8d5f0bc1b2c9bd1d083a4f97a030770bb04a78567e8db87", func := "loop.example/g00677/laws.FnFrames", spec := "fnFrames", apart := false }
def FnFramesSaid : Prop := fnFramesRow.holds Try.pinned (OpenSpec.ofChange fnFramesSpec)

/-- ITS FALSE NEIGHBOUR: 'it returns false'. Refute it at one input. -/
def fnFramesWrong : ChangeSpec := { name := "fnFrames", fn := fun _ => fun
  | [d] => { results := [.lit (.bool false)], args := [d] }
  | _ => none }
def FnFramesWrongFalsely : Prop := fnFramesRow.holds Try.pinned (OpenSpec.ofChange fnFramesWrong)

/-- 'laws.FnBars': WHATEVER THE INPUT: true; the input reads as it did. -/
def fnBarsSpec : ChangeSpec := { name := "fnBars", fn := fun _ => fun
  | [d] => { results := [.lit (.bool true)], args := [d] }
  | _ => none }
def fnBarsRow : OpenClaim := { program := "ytbaajheaoohoiaa", sum := "2bfdc9ab116c2f27b8d5f0bc1b2c9bd1d083a4f97a030770bb04a78567e8db87", func := "loop.example/g00677/laws.FnBars", spec := "fnBars", unfollowed := true, recurses := true, apart := false }
def FnBarsSaid : Prop := fnBarsRow.holds Try.pinned (OpenSpec.ofChange fnBarsSpec)

/-- ITS FALSE NEIGHBOUR: 'it returns false'. Refute it at one input. -/
def fnBarsWrong : ChangeSpec := { name := "fnBars", fn := fun _ => fun
  | [d] => { results := [.lit (.bool false)], args := [d] }
  | _ => none }
def FnBarsWrongFalsely : Prop := fnBarsRow.holds Try.pinned (OpenSpec.ofChange fnBarsWrong)

/-- 'laws.FnLeaseBook': WHATEVER THE INPUT: true; the input reads as it did. -/
def fnLeaseBookSpec : ChangeSpec := { name := "fnLeaseBook", fn := fun _ => fun
  | [d] => { results := [.lit (.bool true)], args := [d] }
  | _ => none }
def fnLeaseBookRow : OpenClaim := { program := "ytbaajheaoohoiaa", sum := "2bfdc9ab116c2f27b8d5f0bc1b2c9bd1d083a4f97a030770bb04a78567e8db87", func := "loop.example/g00677/laws.FnLeaseBook", spec := "fnLeaseBook", inPlace := ["slices.overlaps[loop.example/g00677/impl.Lease]"], unfollowed := true, recurses := true, apart := false }
def FnLeaseBookSaid : Prop := fnLeaseBookRow.holds Try.pinned (OpenSpec.ofChange fnLeaseBookSpec)

/-- ITS FALSE NEIGHBOUR: 'it returns false'. Refute it at one input. -/
def fnLeaseBookWrong : ChangeSpec := { name := "fnLeaseBook", fn := fun _ => fun
  | [d] => { results := [.lit (.bool false)], args := [d] }
  | _ => none }
def FnLeaseBookWrongFalsely : Prop := fnLeaseBookRow.holds Try.pinned (OpenSpec.ofChange fnLeaseBookWrong)

/-- 'laws.FnLeasesApart': WHATEVER THE INPUT: true; the input reads as it did. -/
def fnLeasesApartSpec : ChangeSpec := { name := "fnLeasesApart", fn := fun _ => fun
  | [d] => { results := [.lit (.bool true)], args := [d] }
  | _ => none }
def fnLeasesApartRow : OpenClaim := { program := "ytbaajheaoohoiaa", sum := "2bfdc9ab116c2f27b8d5f0bc1b2c9bd1d083a4f97a030770bb04a78567e8db87", func := "loop.example/g00677/laws.FnLeasesApart", spec := "fnLeasesApart", inPlace := ["slices.overlaps[loop.example/g00677/impl.Lease]"], unfollowed := true, recurses := true, apart := false }
def FnLeasesApartSaid : Prop := fnLeasesApartRow.holds Try.pinned (OpenSpec.ofChange fnLeasesApartSpec)

/-- ITS FALSE NEIGHBOUR: 'it returns false'. Refute it at one input. -/
def fnLeasesApartWrong : ChangeSpec := { name := "fnLeasesApart", fn := fun _ => fun
  | [d] => { results := [.lit (.bool false)], args := [d] }
  | _ => none }
def FnLeasesApartWrongFalsely : Prop := fnLeasesApartRow.holds Try.pinned (OpenSpec.ofChange fnLeasesApartWrong)

/- THE SECOND FORM. 'bulk': how many values and letters a reading holds, each counted each time it is reached (what is shared counts as often as it is met; a slice's spare places count too). A statement '..UptoSaid' is the law's where the arguments, and the package variables that the reading takes, are together of bulk at most 1048576: NARROWER than '..Said'. Prove '..Said' where nothing that the law and all that it calls make is longer than what came in: it says more and counts as full. Else prove '..UptoSaid'. A law counts once. -/
mutual
def uptoBulk {H : Type} : DataW H → Nat
  | .lit (.string bytes) => bytes.length + 1
  | .lit _ => 1
  | .nil => 1
  | .ptr d => uptoBulk d + 1
  | .slice elems spare => uptoBulkAll elems + uptoBulkAll spare + 1
  | .agg parts => uptoBulkAll parts + 1
  | .iface _ d => uptoBulk d + 1
  | .map entries => uptoBulkEntries entries + 1
  | .held _ => 1
def uptoBulkAll {H : Type} : List (DataW H) → Nat
  | [] => 0
  | d :: r => uptoBulk d + uptoBulkAll r
def uptoBulkEntries {H : Type} : List (Lit × DataW H) → Nat
  | [] => 0
  | x :: r => uptoBulkEntry x + uptoBulkEntries r
def uptoBulkEntry {H : Type} : Lit × DataW H → Nat
  | (.string bytes, d) => bytes.length + uptoBulk d + 1
  | (_, d) => uptoBulk d + 1
 end
def uptoSmall : (H : Type) → List (DataW H) → Bool := fun _ ds => decide (uptoBulkAll ds ≤ 1048576)
def OpenSpec.upto (s : _root_.Go.ChangeSpec) : _root_.Go.OpenSpec := { _root_.Go.OpenSpec.ofChange s with cond := some uptoSmall }

/-- 'laws.FnEditMoves', WHERE WHAT IT READS IS OF BULK AT MOST 1048576: true; the input reads as it did. -/
def fnEditMovesUptoRow : OpenClaim := { program := "ytbaajheaoohoiaa", sum := "2bfdc9ab116c2f27b8d5f0bc1b2c9bd1d083a4f97a030770bb04a78567e8db87", func := "loop.example/g00677/laws.FnEditMoves", spec := "fnEditMoves", apart := false, narrowed := true }
def FnEditMovesUptoSaid : Prop := fnEditMovesUptoRow.holds Try.pinned (OpenSpec.upto fnEditMovesSpec)

/-- 'laws.FnFrames', WHERE WHAT IT READS IS OF BULK AT MOST 1048576: true; the input reads as it did. -/
def fnFramesUptoRow : OpenClaim := { program := "ytbaajheaoohoiaa", sum := "2bfdc9ab116c2f27b8d5f0bc1b2c9bd1d083a4f97a030770bb04a78567e8db87", func := "loop.example/g00677/laws.FnFrames", spec := "fnFrames", apart := false, narrowed := true }
def FnFramesUptoSaid : Prop := fnFramesUptoRow.holds Try.pinned (OpenSpec.upto fnFramesSpec)

/-- 'laws.FnBars', WHERE WHAT IT READS IS OF BULK AT MOST 1048576: true; the input reads as it did. -/
def fnBarsUptoRow : OpenClaim := { program := "ytbaajheaoohoiaa", sum := "2bfdc9ab116c2f27b8d5f0bc1b2c9bd1d083a4f97a030770bb04a78567e8db87", func := "loop.example/g00677/laws.FnBars", spec := "fnBars", unfollowed := true, recurses := true, apart := false, narrowed := true }
def FnBarsUptoSaid : Prop := fnBarsUptoRow.holds Try.pinned (OpenSpec.upto fnBarsSpec)

/-- 'laws.FnLeaseBook', WHERE WHAT IT READS IS OF BULK AT MOST 1048576: true; the input reads as it did. -/
def fnLeaseBookUptoRow : OpenClaim := { program := "ytbaajheaoohoiaa", sum := "2bfdc9ab116c2f27b8d5f0bc1b2c9bd1d083a4f97a030770bb04a78567e8db87", func := "loop.example/g00677/laws.FnLeaseBook", spec := "fnLeaseBook", inPlace := ["slices.overlaps[loop.example/g00677/impl.Lease]"], unfollowed := true, recurses := true, apart := false, narrowed := true }
def FnLeaseBookUptoSaid : Prop := fnLeaseBookUptoRow.holds Try.pinned (OpenSpec.upto fnLeaseBookSpec)

/-- 'laws.FnLeasesApart', WHERE WHAT IT READS IS OF BULK AT MOST 1048576: true; the input reads as it did. -/
def fnLeasesApartUptoRow : OpenClaim := { program := "ytbaajheaoohoiaa", sum := "2bfdc9ab116c2f27b8d5f0bc1b2c9bd1d083a4f97a030770bb04a78567e8db87", func := "loop.example/g00677/laws.FnLeasesApart", spec := "fnLeasesApart", inPlace := ["slices.overlaps[loop.example/g00677/impl.Lease]"], unfollowed := true, recurses := true, apart := false, narrowed := true }
def FnLeasesApartUptoSaid : Prop := fnLeasesApartUptoRow.holds Try.pinned (OpenSpec.upto fnLeasesApartSpec)

end Rows
end Go.Proofs.Ytbaajheaoohoiaa
