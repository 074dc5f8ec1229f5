/- Bars: parts RowBars, packed by squash.py. -/
import Derived.Test.YtbaajheaoohoiaaRows
import Derived.WalkKit
import Derived.ProofKit
import Derived.OpenShut
import Derived.ShutString
import Derived.ChangeOld
import Derived.Below
import Derived.SizedLaws
import Derived.Test.YtbaajheaoohoiaaZBars0
import Derived.Test.YtbaajheaoohoiaaZBars1
import Derived.Test.YtbaajheaoohoiaaZBars2
import Derived.Test.YtbaajheaoohoiaaZBars3
import Derived.Test.YtbaajheaoohoiaaZBars4
import Derived.Test.YtbaajheaoohoiaaZBars5
import Derived.Test.YtbaajheaoohoiaaZBars6
set_option linter.unusedVariables false
set_option linter.unusedSimpArgs false
/- The row of FnBars: the law answers true, whatever the input. Printed by rowlaw.py, part 3. -/
namespace Go.Proofs.Ytbaajheaoohoiaa.fnBars
open Go.ChangeShapes Go.WideShapes Go.ChangeAt Go.RowKit
set_option linter.unusedVariables false
set_option maxRecDepth 100000
theorem over : Rows.fnBarsRow.holds Try.pinned (OpenSpec.ofChange Rows.fnBarsSpec) :=
  OpenClaim.holds_of_wide 5 Try.f5 rfl rfl rfl rfl rfl rfl rfl ⟨rfl, rfl, rfl, rfl, rfl⟩ rfl rfl rfl rfl rfl (by kernel_rfl) Try.func5 closed
    (of_decide_eq_true (by kernel_rfl)) (by unfold Func.isWrapper; first | (rw [if_pos (by decide +kernel)]; kernel_rfl) | (rw [if_neg (by decide +kernel)]; exact ⟨rfl, rfl⟩))
    (fun os started H enc _ => lifted os started H enc)
theorem proved : Rows.FnBarsSaid := over
end Go.Proofs.Ytbaajheaoohoiaa.fnBars
namespace Go.Proofs.Ytbaajheaoohoiaa
/-- The row, under a short name, for the claim. -/
theorem fnBars_holds : Rows.FnBarsSaid := fnBars.proved
end Go.Proofs.Ytbaajheaoohoiaa
#print axioms Go.Proofs.Ytbaajheaoohoiaa.fnBars_holds
