/- ReqBack: parts RowFReqBack, packed by squash.py. -/
import Derived.Test.YtinmmaccoenphaaDoorRows
import Derived.WalkKit
import Derived.ProofKit
import Derived.OpenShut
import Derived.ShutString
import Derived.ChangeOld
import Derived.Below
import Derived.SizedLaws
import Derived.Test.YtinmmaccoenphaaDoorCards
import Derived.Test.YtinmmaccoenphaaDoorTie
import Derived.Deep.DeepHandedRow
import Derived.Lib.LaidTab
import Derived.Test.YtinmmaccoenphaaDoorZReqBack0
import Derived.Test.YtinmmaccoenphaaDoorZReqBack1
import Derived.Test.YtinmmaccoenphaaDoorZReqBack2
import Derived.Test.YtinmmaccoenphaaDoorZReqBack3
import Derived.Test.YtinmmaccoenphaaDoorZReqBack4
import Derived.Test.YtinmmaccoenphaaDoorZReqBack5
import Derived.Test.YtinmmaccoenphaaDoorZReqBack6
import Derived.Test.YtinmmaccoenphaaDoorZReqBack7
set_option linter.unusedVariables false
set_option linter.unusedSimpArgs false
section
/- The row of FnReqBack: the law answers true, whatever the input. Printed by rowlaw.py, part 3. -/
namespace Go.Proofs.YtinmmaccoenphaaDoor.fnReqBack
open Go.ChangeShapes Go.WideShapes Go.ChangeAt Go.RowKit
set_option linter.unusedVariables false
set_option maxRecDepth 100000
theorem andT {a b : Bool} (h1 : a = true) (h2 : b = true) : (a && b) = true := by rw [h1, h2]; rfl
set_option maxHeartbeats 40000000 in
theorem closed : joinedFacts Tryd.prog 6 Tryd.f6 (OpenSpec.ofChange Rows.fnReqBackSpec).bare Rows.fnReqBackRow = true := by
  unfold joinedFacts
  repeat' with_reducible refine andT ?_ ?_
  all_goals as_aux_lemma => kernel_rfl
end Go.Proofs.YtinmmaccoenphaaDoor.fnReqBack
end
