/- Chunks: parts RowChunks, packed by squash.py. -/
import Derived.Test.YtinmmaccoenphaaDoorRows
import Derived.WalkKit
import Derived.ProofKit
import Derived.OpenShut
import Derived.ShutString
import Derived.ChangeOld
import Derived.Below
import Derived.SizedLaws
import Derived.Test.YtinmmaccoenphaaDoorCards
import Derived.Test.YtinmmaccoenphaaDoorTie
import Derived.Deep.DeepHandedRow
import Derived.Lib.LaidTab
import Derived.Test.YtinmmaccoenphaaDoorZChunks0
import Derived.Test.YtinmmaccoenphaaDoorZChunks1
import Derived.Test.YtinmmaccoenphaaDoorZChunks2
import Derived.Test.YtinmmaccoenphaaDoorZChunks3
import Derived.Test.YtinmmaccoenphaaDoorZChunks4
import Derived.Test.YtinmmaccoenphaaDoorZChunks5
import Derived.Test.YtinmmaccoenphaaDoorZChunks6
import Derived.Test.YtinmmaccoenphaaDoorZChunks7
set_option linter.unusedVariables false
set_option linter.unusedSimpArgs false
/- The row of FnChunks: the law answers true, whatever the input. Printed by rowlaw.py, part 4. -/
namespace Go.Proofs.YtinmmaccoenphaaDoor.fnChunks
open Go.ChangeShapes Go.WideShapes Go.ChangeAt Go.RowKit
set_option linter.unusedVariables false
set_option maxRecDepth 100000
theorem over : Rows.FnChunksSaid :=
  OpenClaim.holds_of_cond 7 Tryd.f7 rfl rfl rfl rfl rfl rfl rfl ⟨rfl, rfl, rfl, rfl, rfl⟩ rfl rfl rfl rfl rfl (by kernel_rfl) Tryd.func7 closed
    (of_decide_eq_true (by kernel_rfl)) (by unfold Func.isWrapper; first | (rw [if_pos (by decide +kernel)]; kernel_rfl) | (rw [if_neg (by decide +kernel)]; exact ⟨rfl, rfl⟩))
    (fun os started H enc _ F => by rw [OpenClaim.pre_eq_preRow]; exact lifted os started H enc F)
theorem plain (f : FuncId) (fn : Func) (hf : Tryd.pinned.checked.prog.funcNamed Rows.fnChunksRow.func = some f) (hfn : Tryd.pinned.checked.prog.funcs[f]? = some fn) :
    false = Tryd.pinned.checked.prog.looks [] ∧ ∀ (j : Nat) t, fn.params[j]? = some t → Tryd.pinned.checked.prog.wantsStandIn t = false := by
  obtain rfl : f = 7 := Option.some.inj ((show Tryd.prog.funcNamed Rows.fnChunksRow.func = some 7 by kernel_rfl).symm.trans hf) |>.symm
  obtain rfl : fn = Tryd.f7 := (Option.some.inj (Tryd.func7.symm.trans hfn)).symm
  refine ⟨by kernel_rfl, fun j t ht => ?_⟩
  rw [Tryd.params7] at ht
  have hm : t = 22 := by simpa using Array.mem_of_getElem? ht
  rcases hm with rfl
  · exact (show Tryd.prog.wantsStandIn 22 = false by kernel_rfl)
/-- The card. -/
theorem card : Rows.FnChunksCardSaid :=
  Claim7.holds_tied_plain_at .later [] _ _ _ _ over (fun _ h => by cases h) (by kernel_rfl) (fun _ h => by cases h) fnChunks_row_tie rfl ⟨rfl, rfl⟩ (by kernel_rfl) rfl plain (by kernel_rfl)
end Go.Proofs.YtinmmaccoenphaaDoor.fnChunks
namespace Go.Proofs.YtinmmaccoenphaaDoor
/-- The card, under a short name, for the claim. -/
theorem fnChunks_holds : Rows.FnChunksCardSaid := fnChunks.card
end Go.Proofs.YtinmmaccoenphaaDoor
#print axioms Go.Proofs.YtinmmaccoenphaaDoor.fnChunks_holds
