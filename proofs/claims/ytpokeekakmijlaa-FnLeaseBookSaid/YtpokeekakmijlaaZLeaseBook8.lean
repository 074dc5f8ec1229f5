/- LeaseBook: parts RowLeaseBook, packed by squash.py. -/
import Derived.Test.YtpokeekakmijlaaRows
import Derived.WalkKit
import Derived.ProofKit
import Derived.OpenShut
import Derived.ShutString
import Derived.ChangeOld
import Derived.Below
import Derived.SizedLaws
import Derived.Test.YtpokeekakmijlaaZLeaseBook0
import Derived.Test.YtpokeekakmijlaaZLeaseBook1
import Derived.Test.YtpokeekakmijlaaZLeaseBook2
import Derived.Test.YtpokeekakmijlaaZLeaseBook3
import Derived.Test.YtpokeekakmijlaaZLeaseBook4
import Derived.Test.YtpokeekakmijlaaZLeaseBook5
import Derived.Test.YtpokeekakmijlaaZLeaseBook6
import Derived.Test.YtpokeekakmijlaaZLeaseBook7
set_option linter.unusedVariables false
set_option linter.unusedSimpArgs false
/- The row of FnLeaseBook: the law answers true, whatever the input. Printed by rowlaw.py, part 3. -/
namespace Go.Proofs.Ytpokeekakmijlaa.fnLeaseBook
open Go.ChangeShapes Go.WideShapes Go.ChangeAt Go.RowKit
set_option linter.unusedVariables false
set_option maxRecDepth 100000
theorem over : Rows.fnLeaseBookRow.holds Try.pinned (OpenSpec.ofChange Rows.fnLeaseBookSpec) :=
  OpenClaim.holds_of_wide 3 Try.f3 rfl rfl rfl rfl rfl rfl rfl ⟨rfl, rfl, rfl, rfl, rfl⟩ rfl rfl rfl rfl rfl (by kernel_rfl) Try.func3 closed
    (of_decide_eq_true (by kernel_rfl)) (by unfold Func.isWrapper; first | (rw [if_pos (by decide +kernel)]; kernel_rfl) | (rw [if_neg (by decide +kernel)]; exact ⟨rfl, rfl⟩))
    (fun os started H enc _ => lifted os started H enc)
theorem proved : Rows.FnLeaseBookSaid := over
end Go.Proofs.Ytpokeekakmijlaa.fnLeaseBook
namespace Go.Proofs.Ytpokeekakmijlaa
/-- The row, under a short name, for the claim. -/
theorem fnLeaseBook_holds : Rows.FnLeaseBookSaid := fnLeaseBook.proved
end Go.Proofs.Ytpokeekakmijlaa
#print axioms Go.Proofs.Ytpokeekakmijlaa.fnLeaseBook_holds
