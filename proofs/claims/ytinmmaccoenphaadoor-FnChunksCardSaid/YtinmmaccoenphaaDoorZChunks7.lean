/- Chunks: parts RowFChunks, packed by squash.py. -/
import Derived.Test.YtinmmaccoenphaaDoorRows
import Derived.WalkKit
import Derived.ProofKit
import Derived.OpenShut
import Derived.ShutString
import Derived.ChangeOld
import Derived.Below
import Derived.SizedLaws
import Derived.Test.YtinmmaccoenphaaDoorCards
import Derived.Test.YtinmmaccoenphaaDoorTie
import Derived.Deep.DeepHandedRow
import Derived.Lib.LaidTab
import Derived.Test.YtinmmaccoenphaaDoorZChunks0
import Derived.Test.YtinmmaccoenphaaDoorZChunks1
import Derived.Test.YtinmmaccoenphaaDoorZChunks2
import Derived.Test.YtinmmaccoenphaaDoorZChunks3
import Derived.Test.YtinmmaccoenphaaDoorZChunks4
import Derived.Test.YtinmmaccoenphaaDoorZChunks5
import Derived.Test.YtinmmaccoenphaaDoorZChunks6
set_option linter.unusedVariables false
set_option linter.unusedSimpArgs false
section
/- The row of FnChunks: the law answers true, whatever the input. Printed by rowlaw.py, part 3. -/
namespace Go.Proofs.YtinmmaccoenphaaDoor.fnChunks
open Go.ChangeShapes Go.WideShapes Go.ChangeAt Go.RowKit
set_option linter.unusedVariables false
set_option maxRecDepth 100000
theorem andT {a b : Bool} (h1 : a = true) (h2 : b = true) : (a && b) = true := by rw [h1, h2]; rfl
set_option maxHeartbeats 40000000 in
theorem closed : joinedFacts Tryd.prog 7 Tryd.f7 (OpenSpec.ofChange Rows.fnChunksSpec).bare Rows.fnChunksRow = true := by
  unfold joinedFacts
  repeat' with_reducible refine andT ?_ ?_
  all_goals as_aux_lemma => kernel_rfl
end Go.Proofs.YtinmmaccoenphaaDoor.fnChunks
end
