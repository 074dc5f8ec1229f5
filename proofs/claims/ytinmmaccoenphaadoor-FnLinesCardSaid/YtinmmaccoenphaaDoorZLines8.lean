/- Lines: parts RowFLines, packed by squash.py. -/
import Derived.Test.YtinmmaccoenphaaDoorRows
import Derived.WalkKit
import Derived.ProofKit
import Derived.OpenShut
import Derived.ShutString
import Derived.ChangeOld
import Derived.Below
import Derived.SizedLaws
import Derived.Test.YtinmmaccoenphaaDoorCards
import Derived.Test.YtinmmaccoenphaaDoorTie
import Derived.Deep.DeepHandedRow
import Derived.Lib.LaidTab
import Derived.Test.YtinmmaccoenphaaDoorZLines0
import Derived.Test.YtinmmaccoenphaaDoorZLines1
import Derived.Test.YtinmmaccoenphaaDoorZLines2
import Derived.Test.YtinmmaccoenphaaDoorZLines3
import Derived.Test.YtinmmaccoenphaaDoorZLines4
import Derived.Test.YtinmmaccoenphaaDoorZLines5
import Derived.Test.YtinmmaccoenphaaDoorZLines6
import Derived.Test.YtinmmaccoenphaaDoorZLines7
set_option linter.unusedVariables false
set_option linter.unusedSimpArgs false
section
/- The row of FnLines: the law answers true, whatever the input. Printed by rowlaw.py, part 3. -/
namespace Go.Proofs.YtinmmaccoenphaaDoor.fnLines
open Go.ChangeShapes Go.WideShapes Go.ChangeAt Go.RowKit
set_option linter.unusedVariables false
set_option maxRecDepth 100000
theorem andT {a b : Bool} (h1 : a = true) (h2 : b = true) : (a && b) = true := by rw [h1, h2]; rfl
set_option maxHeartbeats 40000000 in
theorem closed : joinedFacts Tryd.prog 8 Tryd.f8 (OpenSpec.ofChange Rows.fnLinesSpec).bare Rows.fnLinesRow = true := by
  unfold joinedFacts
  repeat' with_reducible refine andT ?_ ?_
  all_goals as_aux_lemma => kernel_rfl
end Go.Proofs.YtinmmaccoenphaaDoor.fnLines
end
