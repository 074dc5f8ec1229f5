/- StackMoved: parts RowStackMoved, packed by squash.py. -/
import Derived.Test.YtpokeekakmijlaaRows
import Derived.WalkKit
import Derived.ProofKit
import Derived.OpenShut
import Derived.ShutString
import Derived.ChangeOld
import Derived.Below
import Derived.SizedLaws
import Derived.Test.YtpokeekakmijlaaZStackMoved0
import Derived.Test.YtpokeekakmijlaaZStackMoved1
import Derived.Test.YtpokeekakmijlaaZStackMoved2
import Derived.Test.YtpokeekakmijlaaZStackMoved3
import Derived.Test.YtpokeekakmijlaaZStackMoved4
import Derived.Test.YtpokeekakmijlaaZStackMoved5
import Derived.Test.YtpokeekakmijlaaZStackMoved6
set_option linter.unusedVariables false
set_option linter.unusedSimpArgs false
/- The row of FnExactStackMoved: the law answers true, whatever the input. Printed by rowlaw.py, part 3. -/
namespace Go.Proofs.Ytpokeekakmijlaa.fnExactStackMoved
open Go.ChangeShapes Go.WideShapes Go.ChangeAt Go.RowKit
set_option linter.unusedVariables false
set_option maxRecDepth 100000
theorem over : Rows.fnExactStackMovedRow.holds Try.pinned (OpenSpec.ofChange Rows.fnExactStackMovedSpec) :=
  OpenClaim.holds_of_wide 5 Try.f5 rfl rfl rfl rfl rfl rfl rfl ⟨rfl, rfl, rfl, rfl, rfl⟩ rfl rfl rfl rfl rfl (by kernel_rfl) Try.func5 closed
    (of_decide_eq_true (by kernel_rfl)) (by unfold Func.isWrapper; first | (rw [if_pos (by decide +kernel)]; kernel_rfl) | (rw [if_neg (by decide +kernel)]; exact ⟨rfl, rfl⟩))
    (fun os started H enc _ => lifted os started H enc)
theorem proved : Rows.FnExactStackMovedSaid := over
end Go.Proofs.Ytpokeekakmijlaa.fnExactStackMoved
namespace Go.Proofs.Ytpokeekakmijlaa
/-- The row, under a short name, for the claim. -/
theorem fnExactStackMoved_holds : Rows.FnExactStackMovedSaid := fnExactStackMoved.proved
end Go.Proofs.Ytpokeekakmijlaa
#print axioms Go.Proofs.Ytpokeekakmijlaa.fnExactStackMoved_holds
