/- DocSince: parts RowDocSince, packed by squash.py. -/
import Derived.Test.YtmdnlehoeilmfaaGreatDoorRows
import Derived.WalkKit
import Derived.ProofKit
import Derived.OpenShut
import Derived.ShutString
import Derived.ChangeOld
import Derived.Below
import Derived.SizedLaws
import Derived.Test.YtmdnlehoeilmfaaGreatDoorCards
import Derived.Test.YtmdnlehoeilmfaaGreatDoorTie
import Derived.Deep.DeepHandedRow
import Derived.Lib.LaidTab
import Derived.Test.YtmdnlehoeilmfaaGreatDoorZDocSince0
import Derived.Test.YtmdnlehoeilmfaaGreatDoorZDocSince1
import Derived.Test.YtmdnlehoeilmfaaGreatDoorZDocSince2
import Derived.Test.YtmdnlehoeilmfaaGreatDoorZDocSince3
import Derived.Test.YtmdnlehoeilmfaaGreatDoorZDocSince4
import Derived.Test.YtmdnlehoeilmfaaGreatDoorZDocSince5
import Derived.Test.YtmdnlehoeilmfaaGreatDoorZDocSince6
import Derived.Test.YtmdnlehoeilmfaaGreatDoorZDocSince7
import Derived.Test.YtmdnlehoeilmfaaGreatDoorZDocSince8
import Derived.Test.YtmdnlehoeilmfaaGreatDoorZDocSince9
set_option linter.unusedVariables false
set_option linter.unusedSimpArgs false
/- The row of FnExactDocSince: the law answers true, whatever the input. Printed by rowlaw.py, part 4. -/
namespace Go.Proofs.YtmdnlehoeilmfaaGreatDoor.fnExactDocSince
open Go.ChangeShapes Go.WideShapes Go.ChangeAt Go.RowKit
set_option linter.unusedVariables false
set_option maxRecDepth 100000
theorem over : Rows.FnExactDocSinceSaid :=
  OpenClaim.holds_of_cond 4 Tryz.f4 rfl rfl rfl rfl rfl rfl rfl ⟨rfl, rfl, rfl, rfl, rfl⟩ rfl rfl rfl rfl rfl (by kernel_rfl) Tryz.func4 closed
    (of_decide_eq_true (by kernel_rfl)) (by unfold Func.isWrapper; first | (rw [if_pos (by decide +kernel)]; kernel_rfl) | (rw [if_neg (by decide +kernel)]; exact ⟨rfl, rfl⟩))
    (fun os started H enc _ F => by rw [OpenClaim.pre_eq_preRow]; exact lifted os started H enc F)
theorem plain (f : FuncId) (fn : Func) (hf : Tryz.pinned.checked.prog.funcNamed Rows.fnExactDocSinceRow.func = some f) (hfn : Tryz.pinned.checked.prog.funcs[f]? = some fn) :
    false = Tryz.pinned.checked.prog.looks [] ∧ ∀ (j : Nat) t, fn.params[j]? = some t → Tryz.pinned.checked.prog.wantsStandIn t = false := by
  obtain rfl : f = 4 := Option.some.inj ((show Tryz.prog.funcNamed Rows.fnExactDocSinceRow.func = some 4 by kernel_rfl).symm.trans hf) |>.symm
  obtain rfl : fn = Tryz.f4 := (Option.some.inj (Tryz.func4.symm.trans hfn)).symm
  refine ⟨by kernel_rfl, fun j t ht => ?_⟩
  rw [Tryz.params4] at ht
  have hm : t = 27 ∨ t = 3 := by simpa using Array.mem_of_getElem? ht
  rcases hm with rfl | rfl
  · exact (show Tryz.prog.wantsStandIn 27 = false by kernel_rfl)
  · exact (show Tryz.prog.wantsStandIn 3 = false by kernel_rfl)
/-- The card. -/
theorem card : Rows.FnExactDocSinceCardSaid :=
  Claim7.holds_tied_plain_at .later [] _ _ _ _ over (fun _ h => by cases h) (by kernel_rfl) (fun _ h => by cases h) fnExactDocSince_row_tie rfl ⟨rfl, rfl⟩ (by kernel_rfl) rfl plain (by kernel_rfl)
end Go.Proofs.YtmdnlehoeilmfaaGreatDoor.fnExactDocSince
namespace Go.Proofs.YtmdnlehoeilmfaaGreatDoor
/-- The card, under a short name, for the claim. -/
theorem fnExactDocSince_holds : Rows.FnExactDocSinceCardSaid := fnExactDocSince.card
end Go.Proofs.YtmdnlehoeilmfaaGreatDoor
#print axioms Go.Proofs.YtmdnlehoeilmfaaGreatDoor.fnExactDocSince_holds
