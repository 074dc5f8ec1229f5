/- ReqBack: parts RowWReqBack, packed by squash.py. -/
import Derived.Test.YtinmmaccoenphaaDoorRows
import Derived.WalkKit
import Derived.ProofKit
import Derived.OpenShut
import Derived.ShutString
import Derived.ChangeOld
import Derived.Below
import Derived.SizedLaws
import Derived.Test.YtinmmaccoenphaaDoorCards
import Derived.Test.YtinmmaccoenphaaDoorTie
import Derived.Deep.DeepHandedRow
import Derived.Lib.LaidTab
import Derived.Test.YtinmmaccoenphaaDoorZReqBack0
import Derived.Test.YtinmmaccoenphaaDoorZReqBack1
import Derived.Test.YtinmmaccoenphaaDoorZReqBack2
import Derived.Test.YtinmmaccoenphaaDoorZReqBack3
import Derived.Test.YtinmmaccoenphaaDoorZReqBack4
import Derived.Test.YtinmmaccoenphaaDoorZReqBack5
set_option linter.unusedVariables false
set_option linter.unusedSimpArgs false
section
/- The row of FnReqBack: the law answers true, whatever the input. Printed by rowlaw.py. -/
namespace Go.Proofs.YtinmmaccoenphaaDoor.fnReqBack
open Go.ChangeShapes Go.WideShapes Go.ChangeAt Go.RowKit
set_option linter.unusedVariables false
set_option maxRecDepth 100000
theorem own : ownKnob Tryd.prog.godebug = none := by kernel_rfl
theorem laidOut : laidOutB Tryd.prog = true := by kernel_rfl
theorem celOk0 : Go.Ev.CcOk Tryd.prog (.sl Go.Ev.Seat.bytesR) 22 := Go.Ev.ccB_ok _ (by kernel_rfl)
/-- A world for the witness: the tables hold what their initialisers lay. -/
noncomputable def laidWorld (os : Os) : World :=
  { World.holding Tryd.prog os ⟨#[], #[], []⟩ with heap := Go.Ev.layUtf (World.holding Tryd.prog os ⟨#[], #[], []⟩).heap }
theorem laid_met (os : Os) : laidMet Tryd.prog Rows.fnReqBackRow.laid ((laidWorld os).forCall (fun _ _ => 0) ⟨#[], #[.slice none 0 0], []⟩).memory :=
  laidMet_of_run' 8 (by kernel_rfl) (by kernel_rfl)
theorem reads (os : Os) {H : Type} (enc : TypeId × Value → H) : ∃ places, DataW.whole enc Tryd.prog ((laidWorld os).forCall (fun _ _ => 0) ⟨#[], #[.slice none 0 0], []⟩).memory Tryd.f6.params.toList Rows.fnReqBackSpec.vars false #[.slice none 0 0].toList 8 = some ([.nil], [], places) :=
  ⟨[], by kernel_rfl⟩
theorem tables {W : World} (h : laidMetH Tryd.prog Rows.fnReqBackRow.laid W) : Go.Ev.Seat.I W.heap.size W :=
  Go.Ev.globI_utfB h (by kernel_rfl) (by kernel_rfl) 117 120 5 119 (by kernel_rfl) (by kernel_rfl) (by kernel_rfl)
theorem hv (os : Os) : ((laidWorld os).forCall (fun _ _ => 0) ⟨#[], #[.slice none 0 0], []⟩).variablesB Tryd.prog = true := by kernel_rfl
theorem hr (os : Os) : (((laidWorld os).forCall (fun _ _ => 0) ⟨#[], #[.slice none 0 0], []⟩).heap.toList.drop Tryd.prog.globals.size).take ((begin Tryd.prog (fun _ _ => 0) default).world.heap.size - Tryd.prog.globals.size) = (begin Tryd.prog (fun _ _ => 0) default).world.heap.toList.drop Tryd.prog.globals.size := by kernel_rfl
theorem hok (os : Os) : Input.okWideB Tryd.prog ((laidWorld os).forCall (fun _ _ => 0) ⟨#[], #[.slice none 0 0], []⟩) 6 ⟨#[], #[.slice none 0 0], []⟩ = true := by kernel_rfl
end Go.Proofs.YtinmmaccoenphaaDoor.fnReqBack
end
