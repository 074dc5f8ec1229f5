/- EditMoves: parts RowEditMoves, packed by squash.py. -/
import Derived.Test.YtbaajheaoohoiaaRows
import Derived.WalkKit
import Derived.ProofKit
import Derived.OpenShut
import Derived.ShutString
import Derived.ChangeOld
import Derived.Below
import Derived.SizedLaws
import Derived.Test.YtbaajheaoohoiaaZEditMoves0
import Derived.Test.YtbaajheaoohoiaaZEditMoves1
import Derived.Test.YtbaajheaoohoiaaZEditMoves2
import Derived.Test.YtbaajheaoohoiaaZEditMoves3
import Derived.Test.YtbaajheaoohoiaaZEditMoves4
import Derived.Test.YtbaajheaoohoiaaZEditMoves5
import Derived.Test.YtbaajheaoohoiaaZEditMoves6
set_option linter.unusedVariables false
set_option linter.unusedSimpArgs false
/- The row of FnEditMoves: the law answers true, whatever the input. Printed by rowlaw.py, part 3. -/
namespace Go.Proofs.Ytbaajheaoohoiaa.fnEditMoves
open Go.ChangeShapes Go.WideShapes Go.ChangeAt Go.RowKit
set_option linter.unusedVariables false
set_option maxRecDepth 100000
theorem over : Rows.fnEditMovesRow.holds Try.pinned (OpenSpec.ofChange Rows.fnEditMovesSpec) :=
  OpenClaim.holds_of_wide 3 Try.f3 rfl rfl rfl rfl rfl rfl rfl ⟨rfl, rfl, rfl, rfl, rfl⟩ rfl rfl rfl rfl rfl (by kernel_rfl) Try.func3 closed
    (of_decide_eq_true (by kernel_rfl)) (by unfold Func.isWrapper; first | (rw [if_pos (by decide +kernel)]; kernel_rfl) | (rw [if_neg (by decide +kernel)]; exact ⟨rfl, rfl⟩))
    (fun os started H enc _ => lifted os started H enc)
theorem proved : Rows.FnEditMovesSaid := over
end Go.Proofs.Ytbaajheaoohoiaa.fnEditMoves
namespace Go.Proofs.Ytbaajheaoohoiaa
/-- The row, under a short name, for the claim. -/
theorem fnEditMoves_holds : Rows.FnEditMovesSaid := fnEditMoves.proved
end Go.Proofs.Ytbaajheaoohoiaa
#print axioms Go.Proofs.Ytbaajheaoohoiaa.fnEditMoves_holds
