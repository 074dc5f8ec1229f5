/- DocAt: parts RowDocAt, packed by squash.py. -/
import Derived.Test.YtmdnlehoeilmfaaGreatDoorRows
import Derived.WalkKit
import Derived.ProofKit
import Derived.OpenShut
import Derived.ShutString
import Derived.ChangeOld
import Derived.Below
import Derived.SizedLaws
import Derived.Test.YtmdnlehoeilmfaaGreatDoorCards
import Derived.Test.YtmdnlehoeilmfaaGreatDoorTie
import Derived.Deep.DeepHandedRow
import Derived.Lib.LaidTab
import Derived.Test.YtmdnlehoeilmfaaGreatDoorZDocAt0
import Derived.Test.YtmdnlehoeilmfaaGreatDoorZDocAt1
import Derived.Test.YtmdnlehoeilmfaaGreatDoorZDocAt2
import Derived.Test.YtmdnlehoeilmfaaGreatDoorZDocAt3
import Derived.Test.YtmdnlehoeilmfaaGreatDoorZDocAt4
import Derived.Test.YtmdnlehoeilmfaaGreatDoorZDocAt5
import Derived.Test.YtmdnlehoeilmfaaGreatDoorZDocAt6
import Derived.Test.YtmdnlehoeilmfaaGreatDoorZDocAt7
import Derived.Test.YtmdnlehoeilmfaaGreatDoorZDocAt8
import Derived.Test.YtmdnlehoeilmfaaGreatDoorZDocAt9
set_option linter.unusedVariables false
set_option linter.unusedSimpArgs false
/- The row of FnExactDocAt: the law answers true, whatever the input. Printed by rowlaw.py, part 4. -/
namespace Go.Proofs.YtmdnlehoeilmfaaGreatDoor.fnExactDocAt
open Go.ChangeShapes Go.WideShapes Go.ChangeAt Go.RowKit
set_option linter.unusedVariables false
set_option maxRecDepth 100000
theorem over : Rows.FnExactDocAtSaid :=
  OpenClaim.holds_of_cond 3 Tryz.f3 rfl rfl rfl rfl rfl rfl rfl ⟨rfl, rfl, rfl, rfl, rfl⟩ rfl rfl rfl rfl rfl (by kernel_rfl) Tryz.func3 closed
    (of_decide_eq_true (by kernel_rfl)) (by unfold Func.isWrapper; first | (rw [if_pos (by decide +kernel)]; kernel_rfl) | (rw [if_neg (by decide +kernel)]; exact ⟨rfl, rfl⟩))
    (fun os started H enc _ F => by rw [OpenClaim.pre_eq_preRow]; exact lifted os started H enc F)
theorem plain (f : FuncId) (fn : Func) (hf : Tryz.pinned.checked.prog.funcNamed Rows.fnExactDocAtRow.func = some f) (hfn : Tryz.pinned.checked.prog.funcs[f]? = some fn) :
    false = Tryz.pinned.checked.prog.looks [] ∧ ∀ (j : Nat) t, fn.params[j]? = some t → Tryz.pinned.checked.prog.wantsStandIn t = false := by
  obtain rfl : f = 3 := Option.some.inj ((show Tryz.prog.funcNamed Rows.fnExactDocAtRow.func = some 3 by kernel_rfl).symm.trans hf) |>.symm
  obtain rfl : fn = Tryz.f3 := (Option.some.inj (Tryz.func3.symm.trans hfn)).symm
  refine ⟨by kernel_rfl, fun j t ht => ?_⟩
  rw [Tryz.params3] at ht
  have hm : t = 27 ∨ t = 3 := by simpa using Array.mem_of_getElem? ht
  rcases hm with rfl | rfl
  · exact (show Tryz.prog.wantsStandIn 27 = false by kernel_rfl)
  · exact (show Tryz.prog.wantsStandIn 3 = false by kernel_rfl)
/-- The card. -/
theorem card : Rows.FnExactDocAtCardSaid :=
  Claim7.holds_tied_plain_at .later [] _ _ _ _ over (fun _ h => by cases h) (by kernel_rfl) (fun _ h => by cases h) fnExactDocAt_row_tie rfl ⟨rfl, rfl⟩ (by kernel_rfl) rfl plain (by kernel_rfl)
end Go.Proofs.YtmdnlehoeilmfaaGreatDoor.fnExactDocAt
namespace Go.Proofs.YtmdnlehoeilmfaaGreatDoor
/-- The card, under a short name, for the claim. -/
theorem fnExactDocAt_holds : Rows.FnExactDocAtCardSaid := fnExactDocAt.card
end Go.Proofs.YtmdnlehoeilmfaaGreatDoor
#print axioms Go.Proofs.YtmdnlehoeilmfaaGreatDoor.fnExactDocAt_holds
