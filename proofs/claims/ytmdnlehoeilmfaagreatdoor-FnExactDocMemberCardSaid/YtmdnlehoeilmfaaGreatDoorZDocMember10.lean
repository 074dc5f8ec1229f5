/- DocMember: parts RowDocMember, packed by squash.py. -/
import Derived.Test.YtmdnlehoeilmfaaGreatDoorRows
import Derived.WalkKit
import Derived.ProofKit
import Derived.OpenShut
import Derived.ShutString
import Derived.ChangeOld
import Derived.Below
import Derived.SizedLaws
import Derived.Test.YtmdnlehoeilmfaaGreatDoorCards
import Derived.Test.YtmdnlehoeilmfaaGreatDoorTie
import Derived.Deep.DeepHandedRow
import Derived.Lib.LaidTab
import Derived.Test.YtmdnlehoeilmfaaGreatDoorZDocMember0
import Derived.Test.YtmdnlehoeilmfaaGreatDoorZDocMember1
import Derived.Test.YtmdnlehoeilmfaaGreatDoorZDocMember2
import Derived.Test.YtmdnlehoeilmfaaGreatDoorZDocMember3
import Derived.Test.YtmdnlehoeilmfaaGreatDoorZDocMember4
import Derived.Test.YtmdnlehoeilmfaaGreatDoorZDocMember5
import Derived.Test.YtmdnlehoeilmfaaGreatDoorZDocMember6
import Derived.Test.YtmdnlehoeilmfaaGreatDoorZDocMember7
import Derived.Test.YtmdnlehoeilmfaaGreatDoorZDocMember8
import Derived.Test.YtmdnlehoeilmfaaGreatDoorZDocMember9
set_option linter.unusedVariables false
set_option linter.unusedSimpArgs false
/- The row of FnExactDocMember: the law answers true, whatever the input. Printed by rowlaw.py, part 4. -/
namespace Go.Proofs.YtmdnlehoeilmfaaGreatDoor.fnExactDocMember
open Go.ChangeShapes Go.WideShapes Go.ChangeAt Go.RowKit
set_option linter.unusedVariables false
set_option maxRecDepth 100000
theorem over : Rows.FnExactDocMemberSaid :=
  OpenClaim.holds_of_cond 5 Tryz.f5 rfl rfl rfl rfl rfl rfl rfl ⟨rfl, rfl, rfl, rfl, rfl⟩ rfl rfl rfl rfl rfl (by kernel_rfl) Tryz.func5 closed
    (of_decide_eq_true (by kernel_rfl)) (by unfold Func.isWrapper; first | (rw [if_pos (by decide +kernel)]; kernel_rfl) | (rw [if_neg (by decide +kernel)]; exact ⟨rfl, rfl⟩))
    (fun os started H enc _ F => by rw [OpenClaim.pre_eq_preRow]; exact lifted os started H enc F)
theorem plain (f : FuncId) (fn : Func) (hf : Tryz.pinned.checked.prog.funcNamed Rows.fnExactDocMemberRow.func = some f) (hfn : Tryz.pinned.checked.prog.funcs[f]? = some fn) :
    false = Tryz.pinned.checked.prog.looks [] ∧ ∀ (j : Nat) t, fn.params[j]? = some t → Tryz.pinned.checked.prog.wantsStandIn t = false := by
  obtain rfl : f = 5 := Option.some.inj ((show Tryz.prog.funcNamed Rows.fnExactDocMemberRow.func = some 5 by kernel_rfl).symm.trans hf) |>.symm
  obtain rfl : fn = Tryz.f5 := (Option.some.inj (Tryz.func5.symm.trans hfn)).symm
  refine ⟨by kernel_rfl, fun j t ht => ?_⟩
  rw [Tryz.params5] at ht
  have hm : t = 27 ∨ t = 3 := by simpa using Array.mem_of_getElem? ht
  rcases hm with rfl | rfl
  · exact (show Tryz.prog.wantsStandIn 27 = false by kernel_rfl)
  · exact (show Tryz.prog.wantsStandIn 3 = false by kernel_rfl)
/-- The card. -/
theorem card : Rows.FnExactDocMemberCardSaid :=
  Claim7.holds_tied_plain_at .later [] _ _ _ _ over (fun _ h => by cases h) (by kernel_rfl) (fun _ h => by cases h) fnExactDocMember_row_tie rfl ⟨rfl, rfl⟩ (by kernel_rfl) rfl plain (by kernel_rfl)
end Go.Proofs.YtmdnlehoeilmfaaGreatDoor.fnExactDocMember
namespace Go.Proofs.YtmdnlehoeilmfaaGreatDoor
/-- The card, under a short name, for the claim. -/
theorem fnExactDocMember_holds : Rows.FnExactDocMemberCardSaid := fnExactDocMember.card
end Go.Proofs.YtmdnlehoeilmfaaGreatDoor
#print axioms Go.Proofs.YtmdnlehoeilmfaaGreatDoor.fnExactDocMember_holds
