/- DocPlan: parts RowWDocPlan, packed by squash.py. -/
import Derived.Test.YtmdnlehoeilmfaaGreatDoorRows
import Derived.WalkKit
import Derived.ProofKit
import Derived.OpenShut
import Derived.ShutString
import Derived.ChangeOld
import Derived.Below
import Derived.SizedLaws
import Derived.Test.YtmdnlehoeilmfaaGreatDoorCards
import Derived.Test.YtmdnlehoeilmfaaGreatDoorTie
import Derived.Deep.DeepHandedRow
import Derived.Lib.LaidTab
import Derived.Test.YtmdnlehoeilmfaaGreatDoorZDocPlan0
import Derived.Test.YtmdnlehoeilmfaaGreatDoorZDocPlan1
import Derived.Test.YtmdnlehoeilmfaaGreatDoorZDocPlan2
import Derived.Test.YtmdnlehoeilmfaaGreatDoorZDocPlan3
import Derived.Test.YtmdnlehoeilmfaaGreatDoorZDocPlan4
import Derived.Test.YtmdnlehoeilmfaaGreatDoorZDocPlan5
import Derived.Test.YtmdnlehoeilmfaaGreatDoorZDocPlan6
set_option linter.unusedVariables false
set_option linter.unusedSimpArgs false
section
namespace Go.Proofs.YtmdnlehoeilmfaaGreatDoor.fnExactDocPlan
open Go.ChangeShapes Go.WideShapes Go.ChangeAt Go.RowKit
set_option linter.unusedVariables false
set_option maxRecDepth 100000
theorem own : ownKnob Tryz.prog.godebug = none := by kernel_rfl
theorem laidOut : laidOutB Tryz.prog = true := by kernel_rfl
theorem an4 : Go.Ev.anB Tryz.prog Go.Ev.Seat.bT 27 := Go.Ev.aml _ (by kernel_rfl)
theorem an5 : Go.Ev.anB Tryz.prog Go.Ev.Seat.dJ 60 := Go.Ev.aml _ (by kernel_rfl)
theorem amo : Go.Ev.YI Tryz.prog (.int .i64) 3 := Go.Ev.an2 _ (by kernel_rfl)
noncomputable def laidWorld (os : Os) : World :=
 {World.holding Tryz.prog os ⟨#[], #[], []⟩ with heap := Go.Ev.an3 (World.holding Tryz.prog os ⟨#[], #[], []⟩).heap }
theorem laid_met (os : Os) : laidMet Tryz.prog Rows.fnExactDocPlanRow.laid ((laidWorld os).forCall (fun _ _ => 0) ⟨#[], #[.agg #[.slice none 0 0, .slice none 0 0, .slice none 0 0, .int .i64 0, .slice none 0 0, .slice none 0 0], .agg #[.int .i64 0, .int .i64 0, .int .i64 0, .int .i64 0, .int .i64 0, .slice none 0 0], .int .i64 0], []⟩).memory :=
 laidMet_of_run' 8 (by kernel_rfl) (by kernel_rfl)
theorem reads (os : Os) {H : Type} (enc : TypeId × Value → H) : ∃ places, DataW.whole enc Tryz.prog ((laidWorld os).forCall (fun _ _ => 0) ⟨#[], #[.agg #[.slice none 0 0, .slice none 0 0, .slice none 0 0, .int .i64 0, .slice none 0 0, .slice none 0 0], .agg #[.int .i64 0, .int .i64 0, .int .i64 0, .int .i64 0, .int .i64 0, .slice none 0 0], .int .i64 0], []⟩).memory Tryz.f7.params.toList Rows.fnExactDocPlanSpec.vars false #[.agg #[.slice none 0 0, .slice none 0 0, .slice none 0 0, .int .i64 0, .slice none 0 0, .slice none 0 0], .agg #[.int .i64 0, .int .i64 0, .int .i64 0, .int .i64 0, .int .i64 0, .slice none 0 0], .int .i64 0].toList 8 = some ([.agg [.nil, .nil, .nil, .lit (.int .i64 0), .nil, .nil], .agg [.lit (.int .i64 0), .lit (.int .i64 0), .lit (.int .i64 0), .lit (.int .i64 0), .lit (.int .i64 0), .nil], .lit (.int .i64 0)], [], places) :=
 ⟨[], by kernel_rfl⟩
theorem tables {W : World} (h : laidMetH Tryz.prog Rows.fnExactDocPlanRow.laid W) : Go.Ev.Seat.I W.heap.size W :=
 Go.Ev.aiN h (by kernel_rfl) (by kernel_rfl) 213 216 5 215 (by kernel_rfl) (by kernel_rfl) (by kernel_rfl)
theorem hv (os : Os) : ((laidWorld os).forCall (fun _ _ => 0) ⟨#[], #[.agg #[.slice none 0 0, .slice none 0 0, .slice none 0 0, .int .i64 0, .slice none 0 0, .slice none 0 0], .agg #[.int .i64 0, .int .i64 0, .int .i64 0, .int .i64 0, .int .i64 0, .slice none 0 0], .int .i64 0], []⟩).variablesB Tryz.prog = true := by kernel_rfl
theorem hr (os : Os) : (((laidWorld os).forCall (fun _ _ => 0) ⟨#[], #[.agg #[.slice none 0 0, .slice none 0 0, .slice none 0 0, .int .i64 0, .slice none 0 0, .slice none 0 0], .agg #[.int .i64 0, .int .i64 0, .int .i64 0, .int .i64 0, .int .i64 0, .slice none 0 0], .int .i64 0], []⟩).heap.toList.drop Tryz.prog.globals.size).take ((begin Tryz.prog (fun _ _ => 0) default).world.heap.size - Tryz.prog.globals.size) = (begin Tryz.prog (fun _ _ => 0) default).world.heap.toList.drop Tryz.prog.globals.size := by kernel_rfl
theorem hok (os : Os) : Input.okWideB Tryz.prog ((laidWorld os).forCall (fun _ _ => 0) ⟨#[], #[.agg #[.slice none 0 0, .slice none 0 0, .slice none 0 0, .int .i64 0, .slice none 0 0, .slice none 0 0], .agg #[.int .i64 0, .int .i64 0, .int .i64 0, .int .i64 0, .int .i64 0, .slice none 0 0], .int .i64 0], []⟩) 7 ⟨#[], #[.agg #[.slice none 0 0, .slice none 0 0, .slice none 0 0, .int .i64 0, .slice none 0 0, .slice none 0 0], .agg #[.int .i64 0, .int .i64 0, .int .i64 0, .int .i64 0, .int .i64 0, .slice none 0 0], .int .i64 0], []⟩ = true := by kernel_rfl
end Go.Proofs.YtmdnlehoeilmfaaGreatDoor.fnExactDocPlan
end
