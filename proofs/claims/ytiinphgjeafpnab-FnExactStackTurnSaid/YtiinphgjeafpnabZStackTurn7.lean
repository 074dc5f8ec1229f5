/- StackTurn: parts RowStackTurn, packed by squash.py. -/
import Derived.Test.YtiinphgjeafpnabRows
import Derived.WalkKit
import Derived.ProofKit
import Derived.OpenShut
import Derived.ShutString
import Derived.ChangeOld
import Derived.Below
import Derived.SizedLaws
import Derived.Test.YtiinphgjeafpnabZStackTurn0
import Derived.Test.YtiinphgjeafpnabZStackTurn1
import Derived.Test.YtiinphgjeafpnabZStackTurn2
import Derived.Test.YtiinphgjeafpnabZStackTurn3
import Derived.Test.YtiinphgjeafpnabZStackTurn4
import Derived.Test.YtiinphgjeafpnabZStackTurn5
import Derived.Test.YtiinphgjeafpnabZStackTurn6
set_option linter.unusedVariables false
set_option linter.unusedSimpArgs false
/- The row of FnExactStackTurn: the law answers true, whatever the input. Printed by rowlaw.py, part 3. -/
namespace Go.Proofs.Ytiinphgjeafpnab.fnExactStackTurn
open Go.ChangeShapes Go.WideShapes Go.ChangeAt Go.RowKit
set_option linter.unusedVariables false
set_option maxRecDepth 100000
theorem over : Rows.fnExactStackTurnRow.holds Try.pinned (OpenSpec.ofChange Rows.fnExactStackTurnSpec) :=
  OpenClaim.holds_of_wide 3 Try.f3 rfl rfl rfl rfl rfl rfl rfl ⟨rfl, rfl, rfl, rfl, rfl⟩ rfl rfl rfl rfl rfl (by kernel_rfl) Try.func3 closed
    (of_decide_eq_true (by kernel_rfl)) (by unfold Func.isWrapper; first | (rw [if_pos (by decide +kernel)]; kernel_rfl) | (rw [if_neg (by decide +kernel)]; exact ⟨rfl, rfl⟩))
    (fun os started H enc _ => lifted os started H enc)
theorem proved : Rows.FnExactStackTurnSaid := over
end Go.Proofs.Ytiinphgjeafpnab.fnExactStackTurn
namespace Go.Proofs.Ytiinphgjeafpnab
/-- The row, under a short name, for the claim. -/
theorem fnExactStackTurn_holds : Rows.FnExactStackTurnSaid := fnExactStackTurn.proved
end Go.Proofs.Ytiinphgjeafpnab
#print axioms Go.Proofs.Ytiinphgjeafpnab.fnExactStackTurn_holds
