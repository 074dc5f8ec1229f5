/- OutsOk: parts RowOutsOk, packed by squash.py. -/
import Derived.Test.YtiinphgjeafpnaaDoorRows
import Derived.WalkKit
import Derived.ProofKit
import Derived.OpenShut
import Derived.ShutString
import Derived.ChangeOld
import Derived.Below
import Derived.SizedLaws
import Derived.Test.YtiinphgjeafpnaaDoorCards
import Derived.Test.YtiinphgjeafpnaaDoorTie
import Derived.Deep.DeepHandedRow
import Derived.Lib.LaidTab
import Derived.Test.YtiinphgjeafpnaaDoorZOutsOk0
import Derived.Test.YtiinphgjeafpnaaDoorZOutsOk1
import Derived.Test.YtiinphgjeafpnaaDoorZOutsOk2
import Derived.Test.YtiinphgjeafpnaaDoorZOutsOk3
import Derived.Test.YtiinphgjeafpnaaDoorZOutsOk4
import Derived.Test.YtiinphgjeafpnaaDoorZOutsOk5
import Derived.Test.YtiinphgjeafpnaaDoorZOutsOk6
import Derived.Test.YtiinphgjeafpnaaDoorZOutsOk7
import Derived.Test.YtiinphgjeafpnaaDoorZOutsOk8
set_option linter.unusedVariables false
set_option linter.unusedSimpArgs false
/- The row of FnExactOutsOk: the law answers true, whatever the input. Printed by rowlaw.py, part 4. -/
namespace Go.Proofs.YtiinphgjeafpnaaDoor.fnExactOutsOk
open Go.ChangeShapes Go.WideShapes Go.ChangeAt Go.RowKit
set_option linter.unusedVariables false
set_option maxRecDepth 100000
theorem over : Rows.FnExactOutsOkSaid :=
  OpenClaim.holds_of_cond 10 Tryd.f10 rfl rfl rfl rfl rfl rfl rfl ⟨rfl, rfl, rfl, rfl, rfl⟩ rfl rfl rfl rfl rfl (by kernel_rfl) Tryd.func10 closed
    (of_decide_eq_true (by kernel_rfl)) (by unfold Func.isWrapper; first | (rw [if_pos (by decide +kernel)]; kernel_rfl) | (rw [if_neg (by decide +kernel)]; exact ⟨rfl, rfl⟩))
    (fun os started H enc _ F => by rw [OpenClaim.pre_eq_preRow]; exact lifted os started H enc F)
theorem plain (f : FuncId) (fn : Func) (hf : Tryd.pinned.checked.prog.funcNamed Rows.fnExactOutsOkRow.func = some f) (hfn : Tryd.pinned.checked.prog.funcs[f]? = some fn) :
    false = Tryd.pinned.checked.prog.looks [] ∧ ∀ (j : Nat) t, fn.params[j]? = some t → Tryd.pinned.checked.prog.wantsStandIn t = false := by
  obtain rfl : f = 10 := Option.some.inj ((show Tryd.prog.funcNamed Rows.fnExactOutsOkRow.func = some 10 by kernel_rfl).symm.trans hf) |>.symm
  obtain rfl : fn = Tryd.f10 := (Option.some.inj (Tryd.func10.symm.trans hfn)).symm
  refine ⟨by kernel_rfl, fun j t ht => ?_⟩
  rw [Tryd.params10] at ht
  have hm : t = 88 ∨ t = 89 := by simpa using Array.mem_of_getElem? ht
  rcases hm with rfl | rfl
  · exact (show Tryd.prog.wantsStandIn 88 = false by kernel_rfl)
  · exact (show Tryd.prog.wantsStandIn 89 = false by kernel_rfl)
/-- The card. -/
theorem card : Rows.FnExactOutsOkCardSaid :=
  Claim7.holds_tied_plain_at .later [] _ _ _ _ over (fun _ h => by cases h) (by kernel_rfl) (fun _ h => by cases h) fnExactOutsOk_row_tie rfl ⟨rfl, rfl⟩ (by kernel_rfl) rfl plain (by kernel_rfl)
end Go.Proofs.YtiinphgjeafpnaaDoor.fnExactOutsOk
namespace Go.Proofs.YtiinphgjeafpnaaDoor
/-- The card, under a short name, for the claim. -/
theorem fnExactOutsOk_holds : Rows.FnExactOutsOkCardSaid := fnExactOutsOk.card
end Go.Proofs.YtiinphgjeafpnaaDoor
#print axioms Go.Proofs.YtiinphgjeafpnaaDoor.fnExactOutsOk_holds
