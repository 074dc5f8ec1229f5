/- Frames: parts RowFrames, packed by squash.py. -/
import Derived.Test.YtinmmaccoenphaaRows
import Derived.WalkKit
import Derived.ProofKit
import Derived.OpenShut
import Derived.ShutString
import Derived.ChangeOld
import Derived.Below
import Derived.SizedLaws
import Derived.Test.YtinmmaccoenphaaZFrames0
import Derived.Test.YtinmmaccoenphaaZFrames1
import Derived.Test.YtinmmaccoenphaaZFrames2
import Derived.Test.YtinmmaccoenphaaZFrames3
import Derived.Test.YtinmmaccoenphaaZFrames4
import Derived.Test.YtinmmaccoenphaaZFrames5
import Derived.Test.YtinmmaccoenphaaZFrames6
set_option linter.unusedVariables false
set_option linter.unusedSimpArgs false
/- The row of FnFrames: the law answers true, whatever the input. Printed by rowlaw.py, part 3. -/
namespace Go.Proofs.Ytinmmaccoenphaa.fnFrames
open Go.ChangeShapes Go.WideShapes Go.ChangeAt Go.RowKit
set_option linter.unusedVariables false
set_option maxRecDepth 100000
theorem over : Rows.fnFramesRow.holds Try.pinned (OpenSpec.ofChange Rows.fnFramesSpec) :=
  OpenClaim.holds_of_wide 3 Try.f3 rfl rfl rfl rfl rfl rfl rfl ⟨rfl, rfl, rfl, rfl, rfl⟩ rfl rfl rfl rfl rfl (by kernel_rfl) Try.func3 closed
    (of_decide_eq_true (by kernel_rfl)) (by unfold Func.isWrapper; first | (rw [if_pos (by decide +kernel)]; kernel_rfl) | (rw [if_neg (by decide +kernel)]; exact ⟨rfl, rfl⟩))
    (fun os started H enc _ => lifted os started H enc)
theorem proved : Rows.FnFramesSaid := over
end Go.Proofs.Ytinmmaccoenphaa.fnFrames
namespace Go.Proofs.Ytinmmaccoenphaa
/-- The row, under a short name, for the claim. -/
theorem fnFrames_holds : Rows.FnFramesSaid := fnFrames.proved
end Go.Proofs.Ytinmmaccoenphaa
#print axioms Go.Proofs.Ytinmmaccoenphaa.fnFrames_holds
