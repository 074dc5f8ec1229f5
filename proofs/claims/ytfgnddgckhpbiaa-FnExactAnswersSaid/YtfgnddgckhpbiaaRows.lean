/-
  No cell of these rows narrows 'for every input' (looked for: loops, veiled, ifaces, maps, wideKeys, modest, calm, conditions, laid).
  DERIVED. THE GIVEN ROWS OF THIS SEAT. 10 by the template 'for every input the law returns true; each argument reads behind the call as it read before'; 0 by the template 'total and deterministic' (their statements: YtfgnddgckhpbiaaTotals.lean).
  GIVEN WITH THE SEED: the statements are not yours to turn. If you find one false, say at which input.
  Laid BY PROGRAM, IN A SANDBOX (cutbox-rows.mjs): the forced cells as the released guide's own fill.sh prints them over the translation 7210dae5e95351a3… (all of the seat's roots in one cut). By AI agents, Wed Nov 11 2026. No macro, syntax, notation, axiom, sorry.
-/
import Derived.Test.YtfgnddgckhpbiaaChecked
import GoSem.Claim
import GoSem.ClaimJoined
import GoSem.ClaimMapViews
import Derived.JoinedTies
import Derived.KernelRfl
namespace Go.Proofs.Ytfgnddgckhpbiaa
/- THE CELL 'sum', in the pinned program and in every row, IS THE sha256 OF THE DUMP (.gsa) THAT YtfgnddgckhpbiaaProg.lean LOADS. Nothing in Lean hashes anything: it is a label: what it is worth is what the hold of that sum in a sandbox is worth. -/
noncomputable def Try.pinned : Pinned := { name := "ytfgnddgckhpbiaa", sum := "7210dae5e95351a36375cee96e68fb8766256572d8a338d5ae1f3d260bf95f50", checked := Try.checked }
namespace Rows
def none {H : Type} : Left H := { results := [], args := [] }

/-- 'laws.FnExactEventOk': WHATEVER THE INPUT: true; the input reads as it did. -/
def fnExactEventOkSpec : ChangeSpec := { name := "fnExactEventOk", fn := fun _ => fun
  | [d] => { results := [.lit (.bool true)], args := [d] }
  | _ => none }
def fnExactEventOkRow : OpenClaim := { program := "ytfgnddgckhpbiaa", sum := "7210dae5e95351a36375cee96e68fb8766256572d8a338d5ae1f3d260bf95f50", func := "loop.example/g00677/laws.FnExactEventOk", spec := "fnExactEventOk", apart := false }
def FnExactEventOkSaid : Prop := fnExactEventOkRow.holds Try.pinned (OpenSpec.ofChange fnExactEventOkSpec)

/-- ITS FALSE NEIGHBOUR: 'it returns false'. Refute it at one input. -/
def fnExactEventOkWrong : ChangeSpec := { name := "fnExactEventOk", fn := fun _ => fun
  | [d] => { results := [.lit (.bool false)], args := [d] }
  | _ => none }
def FnExactEventOkWrongFalsely : Prop := fnExactEventOkRow.holds Try.pinned (OpenSpec.ofChange fnExactEventOkWrong)

/-- 'laws.FnPosOrder': WHATEVER THE INPUT: true; the input reads as it did. -/
def fnPosOrderSpec : ChangeSpec := { name := "fnPosOrder", fn := fun _ => fun
  | [d] => { results := [.lit (.bool true)], args := [d] }
  | _ => none }
def fnPosOrderRow : OpenClaim := { program := "ytfgnddgckhpbiaa", sum := "7210dae5e95351a36375cee96e68fb8766256572d8a338d5ae1f3d260bf95f50", func := "loop.example/g00677/laws.FnPosOrder", spec := "fnPosOrder", apart := false }
def FnPosOrderSaid : Prop := fnPosOrderRow.holds Try.pinned (OpenSpec.ofChange fnPosOrderSpec)

/-- ITS FALSE NEIGHBOUR: 'it returns false'. Refute it at one input. -/
def fnPosOrderWrong : ChangeSpec := { name := "fnPosOrder", fn := fun _ => fun
  | [d] => { results := [.lit (.bool false)], args := [d] }
  | _ => none }
def FnPosOrderWrongFalsely : Prop := fnPosOrderRow.holds Try.pinned (OpenSpec.ofChange fnPosOrderWrong)

/-- 'laws.FnExactEditJoin': WHATEVER THE INPUT: true; the input reads as it did. -/
def fnExactEditJoinSpec : ChangeSpec := { name := "fnExactEditJoin", fn := fun _ => fun
  | [d1, d2] => { results := [.lit (.bool true)], args := [d1, d2] }
  | _ => none }
def fnExactEditJoinRow : OpenClaim := { program := "ytfgnddgckhpbiaa", sum := "7210dae5e95351a36375cee96e68fb8766256572d8a338d5ae1f3d260bf95f50", func := "loop.example/g00677/laws.FnExactEditJoin", spec := "fnExactEditJoin", apart := false }
def FnExactEditJoinSaid : Prop := fnExactEditJoinRow.holds Try.pinned (OpenSpec.ofChange fnExactEditJoinSpec)

/-- ITS FALSE NEIGHBOUR: 'it returns false'. Refute it at one input. -/
def fnExactEditJoinWrong : ChangeSpec := { name := "fnExactEditJoin", fn := fun _ => fun
  | [d1, d2] => { results := [.lit (.bool false)], args := [d1, d2] }
  | _ => none }
def FnExactEditJoinWrongFalsely : Prop := fnExactEditJoinRow.holds Try.pinned (OpenSpec.ofChange fnExactEditJoinWrong)

/-- 'laws.FnExactEditMove': WHATEVER THE INPUT: true; the input reads as it did. -/
def fnExactEditMoveSpec : ChangeSpec := { name := "fnExactEditMove", fn := fun _ => fun
  | [d1, d2] => { results := [.lit (.bool true)], args := [d1, d2] }
  | _ => none }
def fnExactEditMoveRow : OpenClaim := { program := "ytfgnddgckhpbiaa", sum := "7210dae5e95351a36375cee96e68fb8766256572d8a338d5ae1f3d260bf95f50", func := "loop.example/g00677/laws.FnExactEditMove", spec := "fnExactEditMove", apart := false }
def FnExactEditMoveSaid : Prop := fnExactEditMoveRow.holds Try.pinned (OpenSpec.ofChange fnExactEditMoveSpec)

/-- ITS FALSE NEIGHBOUR: 'it returns false'. Refute it at one input. -/
def fnExactEditMoveWrong : ChangeSpec := { name := "fnExactEditMove", fn := fun _ => fun
  | [d1, d2] => { results := [.lit (.bool false)], args := [d1, d2] }
  | _ => none }
def FnExactEditMoveWrongFalsely : Prop := fnExactEditMoveRow.holds Try.pinned (OpenSpec.ofChange fnExactEditMoveWrong)

/-- 'laws.FnEditMoves': WHATEVER THE INPUT: true; the input reads as it did. -/
def fnEditMovesSpec : ChangeSpec := { name := "fnEditMoves", fn := fun _ => fun
  | [d] => { results := [.lit (.bool true)], args := [d] }
  | _ => none }
def fnEditMovesRow : OpenClaim := { program := "ytfgnddgckhpbiaa", sum := "7210dae5e95351a36375cee96e68fb8766256572d8a338d5ae1f3d260bf95f50", func := "loop.example/g00677/laws.FnEditMoves", spec := "fnEditMoves", apart := false }
def FnEditMovesSaid : Prop := fnEditMovesRow.holds Try.pinned (OpenSpec.ofChange fnEditMovesSpec)

/-- ITS FALSE NEIGHBOUR: 'it returns false'. Refute it at one input. -/
def fnEditMovesWrong : ChangeSpec := { name := "fnEditMoves", fn := fun _ => fun
  | [d] => { results := [.lit (.bool false)], args := [d] }
  | _ => none }
def FnEditMovesWrongFalsely : Prop := fnEditMovesRow.holds Try.pinned (OpenSpec.ofChange fnEditMovesWrong)

/-- 'laws.FnExactEditMoves': WHATEVER THE INPUT: true; the input reads as it did. -/
def fnExactEditMovesSpec : ChangeSpec := { name := "fnExactEditMoves", fn := fun _ => fun
  | [d1, d2] => { results := [.lit (.bool true)], args := [d1, d2] }
  | _ => none }
def fnExactEditMovesRow : OpenClaim := { program := "ytfgnddgckhpbiaa", sum := "7210dae5e95351a36375cee96e68fb8766256572d8a338d5ae1f3d260bf95f50", func := "loop.example/g00677/laws.FnExactEditMoves", spec := "fnExactEditMoves", apart := false }
def FnExactEditMovesSaid : Prop := fnExactEditMovesRow.holds Try.pinned (OpenSpec.ofChange fnExactEditMovesSpec)

/-- ITS FALSE NEIGHBOUR: 'it returns false'. Refute it at one input. -/
def fnExactEditMovesWrong : ChangeSpec := { name := "fnExactEditMoves", fn := fun _ => fun
  | [d1, d2] => { results := [.lit (.bool false)], args := [d1, d2] }
  | _ => none }
def FnExactEditMovesWrongFalsely : Prop := fnExactEditMovesRow.holds Try.pinned (OpenSpec.ofChange fnExactEditMovesWrong)

/-- 'laws.FnExactStackTop': WHATEVER THE INPUT: true; the input reads as it did. -/
def fnExactStackTopSpec : ChangeSpec := { name := "fnExactStackTop", fn := fun _ => fun
  | [d1, d2] => { results := [.lit (.bool true)], args := [d1, d2] }
  | _ => none }
def fnExactStackTopRow : OpenClaim := { program := "ytfgnddgckhpbiaa", sum := "7210dae5e95351a36375cee96e68fb8766256572d8a338d5ae1f3d260bf95f50", func := "loop.example/g00677/laws.FnExactStackTop", spec := "fnExactStackTop", unfollowed := true, recurses := true, apart := false }
def FnExactStackTopSaid : Prop := fnExactStackTopRow.holds Try.pinned (OpenSpec.ofChange fnExactStackTopSpec)

/-- ITS FALSE NEIGHBOUR: 'it returns false'. Refute it at one input. -/
def fnExactStackTopWrong : ChangeSpec := { name := "fnExactStackTop", fn := fun _ => fun
  | [d1, d2] => { results := [.lit (.bool false)], args := [d1, d2] }
  | _ => none }
def FnExactStackTopWrongFalsely : Prop := fnExactStackTopRow.holds Try.pinned (OpenSpec.ofChange fnExactStackTopWrong)

/-- 'laws.FnExactStackPush': WHATEVER THE INPUT: true; the input reads as it did. -/
def fnExactStackPushSpec : ChangeSpec := { name := "fnExactStackPush", fn := fun _ => fun
  | [d1, d2] => { results := [.lit (.bool true)], args := [d1, d2] }
  | _ => none }
def fnExactStackPushRow : OpenClaim := { program := "ytfgnddgckhpbiaa", sum := "7210dae5e95351a36375cee96e68fb8766256572d8a338d5ae1f3d260bf95f50", func := "loop.example/g00677/laws.FnExactStackPush", spec := "fnExactStackPush", unfollowed := true, recurses := true, apart := false }
def FnExactStackPushSaid : Prop := fnExactStackPushRow.holds Try.pinned (OpenSpec.ofChange fnExactStackPushSpec)

/-- ITS FALSE NEIGHBOUR: 'it returns false'. Refute it at one input. -/
def fnExactStackPushWrong : ChangeSpec := { name := "fnExactStackPush", fn := fun _ => fun
  | [d1, d2] => { results := [.lit (.bool false)], args := [d1, d2] }
  | _ => none }
def FnExactStackPushWrongFalsely : Prop := fnExactStackPushRow.holds Try.pinned (OpenSpec.ofChange fnExactStackPushWrong)

/-- 'laws.FnFrames': WHATEVER THE INPUT: true; the input reads as it did. -/
def fnFramesSpec : ChangeSpec := { name := "fnFrames", fn := fun _ => fun
  | [d] => { results := [.lit (.bool true)], args := [d] }
  | _ => none }
def fnFramesRow : OpenClaim := { program := "ytfgnddgckhpbiaa", sum := "7210dae5e95351a36375cee96e68fb8766256572d8a338d5ae1f3d260bf95f50", func := "loop.example/g00677/laws.FnFrames", spec := "fnFrames", apart := false }
def FnFramesSaid : Prop := fnFramesRow.holds Try.pinned (OpenSpec.ofChange fnFramesSpec)

/-- ITS FALSE NEIGHBOUR: 'it returns false'. Refute it at one input. -/
def fnFramesWrong : ChangeSpec := { name := "fnFrames", fn := fun _ => fun
  | [d] => { results := [.lit (.bool false)], args := [d] }
  | _ => none }
def FnFramesWrongFalsely : Prop := fnFramesRow.holds Try.pinned (OpenSpec.ofChange fnFramesWrong)

/-- 'laws.FnExactAnswers': WHATEVER THE INPUT: true; the input reads as it did. -/
def fnExactAnswersSpec : ChangeSpec := { name := "fnExactAnswers", fn := fun _ => fun
  | [d1, d2] => { results := [.lit (.bool true)], args := [d1, d2] }
  | _ => none }
def fnExactAnswersRow : OpenClaim := { program := "ytfgnddgckhpbiaa", sum := "7210dae5e95351a36375cee96e68fb8766256572d8a338d5ae1f3d260bf95f50", func := "loop.example/g00677/laws.FnExactAnswers", spec := "fnExactAnswers", apart := false }
def FnExactAnswersSaid : Prop := fnExactAnswersRow.holds Try.pinned (OpenSpec.ofChange fnExactAnswersSpec)

/-- ITS FALSE NEIGHBOUR: 'it returns false'. Refute it at one input. -/
def fnExactAnswersWrong : ChangeSpec := { name := "fnExactAnswers", fn := fun _ => fun
  | [d1, d2] => { results := [.lit (.bool false)], args := [d1, d2] }
  | _ => none }
def FnExactAnswersWrongFalsely : Prop := fnExactAnswersRow.holds Try.pinned (OpenSpec.ofChange fnExactAnswersWrong)

/- THE SECOND FORM. 'bulk': how many values and letters a reading holds, each counted each time it is reached (what is shared counts as often as it is met; a slice's spare places count too). A statement '..UptoSaid' is the law's where the arguments, and the package variables that the reading takes, are together of bulk at most 1048576: NARROWER than '..Said'. Prove '..Said' where nothing that the law and all that it calls make is longer than what came in: it says more and counts as full. Else prove '..UptoSaid'. A law counts once. -/
mutual
def uptoBulk {H : Type} : DataW H → Nat
  | .lit (.string bytes) => bytes.length + 1
  | .lit _ => 1
  | .nil => 1
  | .ptr d => uptoBulk d + 1
  | .slice elems spare => uptoBulkAll elems + uptoBulkAll spare + 1
  | .agg parts => uptoBulkAll parts + 1
  | .iface _ d => uptoBulk d + 1
  | .map entries => uptoBulkEntries entries + 1
  | .held _ => 1
def uptoBulkAll {H : Type} : List (DataW H) → Nat
  | [] => 0
  | d :: r => uptoBulk d + uptoBulkAll r
def uptoBulkEntries {H : Type} : List (Lit × DataW H) → Nat
  | [] => 0
  | x :: r => uptoBulkEntry x + uptoBulkEntries r
def uptoBulkEntry {H : Type} : Lit × DataW H → Nat
  | (.string bytes, d) => bytes.length + uptoBulk d + 1
  | (_, d) => uptoBulk d + 1
 end
def uptoSmall : (H : Type) → List (DataW H) → Bool := fun _ ds => decide (uptoBulkAll ds ≤ 1048576)
def OpenSpec.upto (s : _root_.Go.ChangeSpec) : _root_.Go.OpenSpec := { _root_.Go.OpenSpec.ofChange s with cond := some uptoSmall }

/-- 'laws.FnExactEventOk', WHERE WHAT IT READS IS OF BULK AT MOST 1048576: true; the input reads as it did. -/
def fnExactEventOkUptoRow : OpenClaim := { program := "ytfgnddgckhpbiaa", sum := "7210dae5e95351a36375cee96e68fb8766256572d8a338d5ae1f3d260bf95f50", func := "loop.example/g00677/laws.FnExactEventOk", spec := "fnExactEventOk", apart := false, narrowed := true }
def FnExactEventOkUptoSaid : Prop := fnExactEventOkUptoRow.holds Try.pinned (OpenSpec.upto fnExactEventOkSpec)

/-- 'laws.FnPosOrder', WHERE WHAT IT READS IS OF BULK AT MOST 1048576: true; the input reads as it did. -/
def fnPosOrderUptoRow : OpenClaim := { program := "ytfgnddgckhpbiaa", sum := "7210dae5e95351a36375cee96e68fb8766256572d8a338d5ae1f3d260bf95f50", func := "loop.example/g00677/laws.FnPosOrder", spec := "fnPosOrder", apart := false, narrowed := true }
def FnPosOrderUptoSaid : Prop := fnPosOrderUptoRow.holds Try.pinned (OpenSpec.upto fnPosOrderSpec)

/-- 'laws.FnExactEditJoin', WHERE WHAT IT READS IS OF BULK AT MOST 1048576: true; the input reads as it did. -/
def fnExactEditJoinUptoRow : OpenClaim := { program := "ytfgnddgckhpbiaa", sum := "7210dae5e95351a36375cee96e68fb8766256572d8a338d5ae1f3d260bf95f50", func := "loop.example/g00677/laws.FnExactEditJoin", spec := "fnExactEditJoin", apart := false, narrowed := true }
def FnExactEditJoinUptoSaid : Prop := fnExactEditJoinUptoRow.holds Try.pinned (OpenSpec.upto fnExactEditJoinSpec)

/-- 'laws.FnExactEditMove', WHERE WHAT IT READS IS OF BULK AT MOST 1048576: true; the input reads as it did. -/
def fnExactEditMoveUptoRow : OpenClaim := { program := "ytfgnddgckhpbiaa", sum := "7210dae5e95351a36375cee96e68fb8766256572d8a338d5ae1f3d260bf95f50", func := "loop.example/g00677/laws.FnExactEditMove", spec := "fnExactEditMove", apart := false, narrowed := true }
def FnExactEditMoveUptoSaid : Prop := fnExactEditMoveUptoRow.holds Try.pinned (OpenSpec.upto fnExactEditMoveSpec)

/-- 'laws.FnEditMoves', WHERE WHAT IT READS IS OF BULK AT MOST 1048576: true; the input reads as it did. -/
def fnEditMovesUptoRow : OpenClaim := { program := "ytfgnddgckhpbiaa", sum := "7210dae5e95351a36375cee96e68fb8766256572d8a338d5ae1f3d260bf95f50", func := "loop.example/g00677/laws.FnEditMoves", spec := "fnEditMoves", apart := false, narrowed := true }
def FnEditMovesUptoSaid : Prop := fnEditMovesUptoRow.holds Try.pinned (OpenSpec.upto fnEditMovesSpec)

/-- 'laws.FnExactEditMoves', WHERE WHAT IT READS IS OF BULK AT MOST 1048576: true; the input reads as it did. -/
def fnExactEditMovesUptoRow : OpenClaim := { program := "ytfgnddgckhpbiaa", sum := "7210dae5e95351a36375cee96e68fb8766256572d8a338d5ae1f3d260bf95f50", func := "loop.example/g00677/laws.FnExactEditMoves", spec := "fnExactEditMoves", apart := false, narrowed := true }
def FnExactEditMovesUptoSaid : Prop := fnExactEditMovesUptoRow.holds Try.pinned (OpenSpec.upto fnExactEditMovesSpec)

/-- 'laws.FnExactStackTop', WHERE WHAT IT READS IS OF BULK AT MOST 1048576: true; the input reads as it did. -/
def fnExactStackTopUptoRow : OpenClaim := { program := "ytfgnddgckhpbiaa", sum := "7210dae5e95351a36375cee96e68fb8766256572d8a338d5ae1f3d260bf95f50", func := "loop.example/g00677/laws.FnExactStackTop", spec := "fnExactStackTop", unfollowed := true, recurses := true, apart := false, narrowed := true }
def FnExactStackTopUptoSaid : Prop := fnExactStackTopUptoRow.holds Try.pinned (OpenSpec.upto fnExactStackTopSpec)

/-- 'laws.FnExactStackPush', WHERE WHAT IT READS IS OF BULK AT MOST 1048576: true; the input reads as it did. -/
def fnExactStackPushUptoRow : OpenClaim := { program := "ytfgnddgckhpbiaa", sum := "7210dae5e95351a36375cee96e68fb8766256572d8a338d5ae1f3d260bf95f50", func := "loop.example/g00677/laws.FnExactStackPush", spec := "fnExactStackPush", unfollowed := true, recurses := true, apart := false, narrowed := true }
def FnExactStackPushUptoSaid : Prop := fnExactStackPushUptoRow.holds Try.pinned (OpenSpec.upto fnExactStackPushSpec)

/-- 'laws.FnFrames', WHERE WHAT IT READS IS OF BULK AT MOST 1048576: true; the input reads as it did. -/
def fnFramesUptoRow : OpenClaim := { program := "ytfgnddgckhpbiaa", sum := "7210dae5e95351a36375cee96e68fb8766256572d8a338d5ae1f3d260bf95f50", func := "loop.example/g00677/laws.FnFrames", spec := "fnFrames", apart := false, narrowed := true }
def FnFramesUptoSaid : Prop := fnFramesUptoRow.holds Try.pinned (OpenSpec.upto fnFramesSpec)

/-- 'laws.FnExactAnswers', WHERE WHAT IT READS IS OF BULK AT MOST 1048576: true; the input reads as it did. -/
def fnExactAnswersUptoRow : OpenClaim := { program := "ytfgnddgckhpbiaa", sum := "7210dae5e95351a36375cee96e68fb8766256572d8a338d5ae1f3d260bf95f50", func := "loop.example/g00677/laws.FnExactAnswers", spec := "fnExactAnswers", apart := false, narrowed := true }
def FnExactAnswersUptoSaid : Prop := fnExactAnswersUptoRow.holds Try.pinned (OpenSpec.upto fnExactAnswersSpec)

end Rows
end Go.Proofs.Ytfgnddgckhpbiaa
