/- DocOk: parts RowDocOk, packed by squash.py. -/
import Derived.Test.YtiinphgjeafpnaaGreatDoorRows
import Derived.WalkKit
import Derived.ProofKit
import Derived.OpenShut
import Derived.ShutString
import Derived.ChangeOld
import Derived.Below
import Derived.SizedLaws
import Derived.Test.YtiinphgjeafpnaaGreatDoorCards
import Derived.Test.YtiinphgjeafpnaaGreatDoorTie
import Derived.Deep.DeepHandedRow
import Derived.Lib.LaidTab
import Derived.Test.YtiinphgjeafpnaaGreatDoorZDocOk0
import Derived.Test.YtiinphgjeafpnaaGreatDoorZDocOk1
import Derived.Test.YtiinphgjeafpnaaGreatDoorZDocOk2
import Derived.Test.YtiinphgjeafpnaaGreatDoorZDocOk3
import Derived.Test.YtiinphgjeafpnaaGreatDoorZDocOk4
import Derived.Test.YtiinphgjeafpnaaGreatDoorZDocOk5
import Derived.Test.YtiinphgjeafpnaaGreatDoorZDocOk6
import Derived.Test.YtiinphgjeafpnaaGreatDoorZDocOk7
import Derived.Test.YtiinphgjeafpnaaGreatDoorZDocOk8
set_option linter.unusedVariables false
set_option linter.unusedSimpArgs false
/- The row of FnExactDocOk: the law answers true, whatever the input. Printed by rowlaw.py, part 4. -/
namespace Go.Proofs.YtiinphgjeafpnaaGreatDoor.fnExactDocOk
open Go.ChangeShapes Go.WideShapes Go.ChangeAt Go.RowKit
set_option linter.unusedVariables false
set_option maxRecDepth 100000
theorem over : Rows.FnExactDocOkSaid :=
  OpenClaim.holds_of_cond 3 Tryz.f3 rfl rfl rfl rfl rfl rfl rfl ⟨rfl, rfl, rfl, rfl, rfl⟩ rfl rfl rfl rfl rfl (by kernel_rfl) Tryz.func3 closed
    (of_decide_eq_true (by kernel_rfl)) (by unfold Func.isWrapper; first | (rw [if_pos (by decide +kernel)]; kernel_rfl) | (rw [if_neg (by decide +kernel)]; exact ⟨rfl, rfl⟩))
    (fun os started H enc _ F => by rw [OpenClaim.pre_eq_preRow]; exact lifted os started H enc F)
theorem plain (f : FuncId) (fn : Func) (hf : Tryz.pinned.checked.prog.funcNamed Rows.fnExactDocOkRow.func = some f) (hfn : Tryz.pinned.checked.prog.funcs[f]? = some fn) :
    false = Tryz.pinned.checked.prog.looks [] ∧ ∀ (j : Nat) t, fn.params[j]? = some t → Tryz.pinned.checked.prog.wantsStandIn t = false := by
  obtain rfl : f = 3 := Option.some.inj ((show Tryz.prog.funcNamed Rows.fnExactDocOkRow.func = some 3 by kernel_rfl).symm.trans hf) |>.symm
  obtain rfl : fn = Tryz.f3 := (Option.some.inj (Tryz.func3.symm.trans hfn)).symm
  refine ⟨by kernel_rfl, fun j t ht => ?_⟩
  rw [Tryz.params3] at ht
  have hm : t = 27 := by simpa using Array.mem_of_getElem? ht
  rcases hm with rfl
  · exact (show Tryz.prog.wantsStandIn 27 = false by kernel_rfl)
/-- The card. -/
theorem card : Rows.FnExactDocOkCardSaid :=
  Claim7.holds_tied_plain_at .later [] _ _ _ _ over (fun _ h => by cases h) (by kernel_rfl) (fun _ h => by cases h) fnExactDocOk_row_tie rfl ⟨rfl, rfl⟩ (by kernel_rfl) rfl plain (by kernel_rfl)
end Go.Proofs.YtiinphgjeafpnaaGreatDoor.fnExactDocOk
namespace Go.Proofs.YtiinphgjeafpnaaGreatDoor
/-- The card, under a short name, for the claim. -/
theorem fnExactDocOk_holds : Rows.FnExactDocOkCardSaid := fnExactDocOk.card
end Go.Proofs.YtiinphgjeafpnaaGreatDoor
#print axioms Go.Proofs.YtiinphgjeafpnaaGreatDoor.fnExactDocOk_holds
