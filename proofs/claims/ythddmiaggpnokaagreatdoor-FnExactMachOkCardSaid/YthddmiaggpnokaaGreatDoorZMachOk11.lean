/- MachOk: parts RowMachOk, packed by squash.py. -/
import Derived.Test.YthddmiaggpnokaaGreatDoorRows
import Derived.WalkKit
import Derived.ProofKit
import Derived.OpenShut
import Derived.ShutString
import Derived.ChangeOld
import Derived.Below
import Derived.SizedLaws
import Derived.Test.YthddmiaggpnokaaGreatDoorCards
import Derived.Test.YthddmiaggpnokaaGreatDoorTie
import Derived.Deep.DeepHandedRow
import Derived.Lib.LaidTab
import Derived.Test.YthddmiaggpnokaaGreatDoorZMachOk0
import Derived.Test.YthddmiaggpnokaaGreatDoorZMachOk1
import Derived.Test.YthddmiaggpnokaaGreatDoorZMachOk2
import Derived.Test.YthddmiaggpnokaaGreatDoorZMachOk3
import Derived.Test.YthddmiaggpnokaaGreatDoorZMachOk4
import Derived.Test.YthddmiaggpnokaaGreatDoorZMachOk5
import Derived.Test.YthddmiaggpnokaaGreatDoorZMachOk6
import Derived.Test.YthddmiaggpnokaaGreatDoorZMachOk7
import Derived.Test.YthddmiaggpnokaaGreatDoorZMachOk8
import Derived.Test.YthddmiaggpnokaaGreatDoorZMachOk9
import Derived.Test.YthddmiaggpnokaaGreatDoorZMachOk10
set_option linter.unusedVariables false
set_option linter.unusedSimpArgs false
namespace Go.Proofs.YthddmiaggpnokaaGreatDoor.fnExactMachOk
open Go.ChangeShapes Go.WideShapes Go.ChangeAt Go.RowKit
set_option linter.unusedVariables false
set_option maxRecDepth 100000
theorem over : Rows.FnExactMachOkSaid :=
 OpenClaim.holds_of_cond 3 Tryz.f3 rfl rfl rfl rfl rfl rfl rfl ⟨rfl, rfl, rfl, rfl, rfl⟩ rfl rfl rfl rfl rfl (by kernel_rfl) Tryz.func3 closed
  (of_decide_eq_true (by kernel_rfl)) (by unfold Func.isWrapper; first | (rw [if_pos (by decide +kernel)]; kernel_rfl) | (rw [if_neg (by decide +kernel)]; exact ⟨rfl, rfl⟩))
  (fun os started H enc _ F => by rw [OpenClaim.pre_eq_preRow]; exact lifted os started H enc F)
theorem plain (f : FuncId) (fn : Func) (hf : Tryz.pinned.checked.prog.funcNamed Rows.fnExactMachOkRow.func = some f) (hfn : Tryz.pinned.checked.prog.funcs[f]? = some fn) :
  false = Tryz.pinned.checked.prog.looks [] ∧ ∀ (j : Nat) t, fn.params[j]? = some t → Tryz.pinned.checked.prog.wantsStandIn t = false := by
 obtain rfl : f = 3 := Option.some.inj ((show Tryz.prog.funcNamed Rows.fnExactMachOkRow.func = some 3 by kernel_rfl).symm.trans hf) |>.symm
 obtain rfl : fn = Tryz.f3 := (Option.some.inj (Tryz.func3.symm.trans hfn)).symm
 refine ⟨by kernel_rfl, fun j t ht => ?_⟩
 rw [Tryz.params3] at ht
 have hm : t = 30 := by simpa using Array.mem_of_getElem? ht
 rcases hm with rfl
 ·exact (show Tryz.prog.wantsStandIn 30 = false by kernel_rfl)
theorem card : Rows.FnExactMachOkCardSaid :=
 Claim7.holds_tied_plain_at .later [] _ _ _ _ over (fun _ h => by cases h) (by kernel_rfl) (fun _ h => by cases h) fnExactMachOk_row_tie rfl ⟨rfl, rfl⟩ (by kernel_rfl) rfl plain (by kernel_rfl)
end Go.Proofs.YthddmiaggpnokaaGreatDoor.fnExactMachOk
namespace Go.Proofs.YthddmiaggpnokaaGreatDoor
theorem fnExactMachOk_holds : Rows.FnExactMachOkCardSaid := fnExactMachOk.card
end Go.Proofs.YthddmiaggpnokaaGreatDoor
#print axioms Go.Proofs.YthddmiaggpnokaaGreatDoor.fnExactMachOk_holds
