/- RopeJoin: parts RowRopeJoin, packed by squash.py. -/
import Derived.Test.YtiinphgjeafpnaaDoorRows
import Derived.WalkKit
import Derived.ProofKit
import Derived.OpenShut
import Derived.ShutString
import Derived.ChangeOld
import Derived.Below
import Derived.SizedLaws
import Derived.Test.YtiinphgjeafpnaaDoorCards
import Derived.Test.YtiinphgjeafpnaaDoorTie
import Derived.Deep.DeepHandedRow
import Derived.Lib.LaidTab
import Derived.Test.YtiinphgjeafpnaaDoorZRopeJoin0
import Derived.Test.YtiinphgjeafpnaaDoorZRopeJoin1
import Derived.Test.YtiinphgjeafpnaaDoorZRopeJoin2
import Derived.Test.YtiinphgjeafpnaaDoorZRopeJoin3
import Derived.Test.YtiinphgjeafpnaaDoorZRopeJoin4
import Derived.Test.YtiinphgjeafpnaaDoorZRopeJoin5
import Derived.Test.YtiinphgjeafpnaaDoorZRopeJoin6
import Derived.Test.YtiinphgjeafpnaaDoorZRopeJoin7
set_option linter.unusedVariables false
set_option linter.unusedSimpArgs false
/- The row of FnExactRopeJoin: the law answers true, whatever the input. Printed by rowlaw.py, third part. -/
namespace Go.Proofs.YtiinphgjeafpnaaDoor.fnExactRopeJoin
open Go.ChangeShapes Go.WideShapes Go.ChangeAt Go.RowKit
set_option linter.unusedVariables false
set_option maxRecDepth 100000
theorem over : Rows.FnExactRopeJoinSaid :=
  OpenClaim.holds_of_cond 9 Tryd.f9 rfl rfl rfl rfl rfl rfl rfl ⟨rfl, rfl, rfl, rfl, rfl⟩ rfl rfl rfl rfl rfl (by kernel_rfl) Tryd.func9 (by kernel_rfl)
    (of_decide_eq_true (by kernel_rfl)) (by unfold Func.isWrapper; first | (rw [if_pos (by decide +kernel)]; kernel_rfl) | (rw [if_neg (by decide +kernel)]; exact ⟨rfl, rfl⟩))
    (fun os started H enc _ F => by rw [OpenClaim.pre_eq_preRow]; exact lifted os started H enc F)
theorem plain (f : FuncId) (fn : Func) (hf : Tryd.pinned.checked.prog.funcNamed Rows.fnExactRopeJoinRow.func = some f) (hfn : Tryd.pinned.checked.prog.funcs[f]? = some fn) :
    false = Tryd.pinned.checked.prog.looks [] ∧ ∀ (j : Nat) t, fn.params[j]? = some t → Tryd.pinned.checked.prog.wantsStandIn t = false := by
  obtain rfl : f = 9 := Option.some.inj ((show Tryd.prog.funcNamed Rows.fnExactRopeJoinRow.func = some 9 by kernel_rfl).symm.trans hf) |>.symm
  obtain rfl : fn = Tryd.f9 := (Option.some.inj (Tryd.func9.symm.trans hfn)).symm
  refine ⟨by kernel_rfl, fun j t ht => ?_⟩
  rw [Tryd.params9] at ht
  have hm : t = 77 ∨ t = 77 := by simpa using Array.mem_of_getElem? ht
  rcases hm with rfl | rfl
  · exact (show Tryd.prog.wantsStandIn 77 = false by kernel_rfl)
  · exact (show Tryd.prog.wantsStandIn 77 = false by kernel_rfl)
/-- The card. -/
theorem card : Rows.FnExactRopeJoinCardSaid :=
  Claim7.holds_tied_plain_at .later [] _ _ _ _ over (fun _ h => by cases h) (by kernel_rfl) (fun _ h => by cases h) fnExactRopeJoin_row_tie rfl ⟨rfl, rfl⟩ (by kernel_rfl) rfl plain (by kernel_rfl)
end Go.Proofs.YtiinphgjeafpnaaDoor.fnExactRopeJoin
namespace Go.Proofs.YtiinphgjeafpnaaDoor
/-- The card, under a short name, for the claim. -/
theorem fnExactRopeJoin_holds : Rows.FnExactRopeJoinCardSaid := fnExactRopeJoin.card
end Go.Proofs.YtiinphgjeafpnaaDoor
#print axioms Go.Proofs.YtiinphgjeafpnaaDoor.fnExactRopeJoin_holds
