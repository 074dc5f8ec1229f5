/- StackTurn: parts RowFStackTurn, packed by squash.py. -/
import Derived.Test.YtiinphgjeafpnabRows
import Derived.WalkKit
import Derived.ProofKit
import Derived.OpenShut
import Derived.ShutString
import Derived.ChangeOld
import Derived.Below
import Derived.SizedLaws
import Derived.Test.YtiinphgjeafpnabZStackTurn0
import Derived.Test.YtiinphgjeafpnabZStackTurn1
import Derived.Test.YtiinphgjeafpnabZStackTurn2
import Derived.Test.YtiinphgjeafpnabZStackTurn3
import Derived.Test.YtiinphgjeafpnabZStackTurn4
import Derived.Test.YtiinphgjeafpnabZStackTurn5
set_option linter.unusedVariables false
set_option linter.unusedSimpArgs false
section
/- The row of FnExactStackTurn: the law answers true, whatever the input. Printed by rowlaw.py, part 2. -/
namespace Go.Proofs.Ytiinphgjeafpnab.fnExactStackTurn
open Go.ChangeShapes Go.WideShapes Go.ChangeAt Go.RowKit
set_option linter.unusedVariables false
set_option maxRecDepth 100000
theorem andT {a b : Bool} (h1 : a = true) (h2 : b = true) : (a && b) = true := by rw [h1, h2]; rfl
theorem closed : joinedFacts Try.prog 3 Try.f3 Rows.fnExactStackTurnSpec Rows.fnExactStackTurnRow = true := by
  unfold joinedFacts
  repeat' with_reducible refine andT ?_ ?_
  all_goals as_aux_lemma => kernel_rfl
end Go.Proofs.Ytiinphgjeafpnab.fnExactStackTurn
end
