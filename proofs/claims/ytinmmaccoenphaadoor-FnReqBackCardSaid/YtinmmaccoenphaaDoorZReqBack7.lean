/- ReqBack: parts RowLReqBack, packed by squash.py. -/
import Derived.Test.YtinmmaccoenphaaDoorRows
import Derived.WalkKit
import Derived.ProofKit
import Derived.OpenShut
import Derived.ShutString
import Derived.ChangeOld
import Derived.Below
import Derived.SizedLaws
import Derived.Test.YtinmmaccoenphaaDoorCards
import Derived.Test.YtinmmaccoenphaaDoorTie
import Derived.Deep.DeepHandedRow
import Derived.Lib.LaidTab
import Derived.Test.YtinmmaccoenphaaDoorZReqBack0
import Derived.Test.YtinmmaccoenphaaDoorZReqBack1
import Derived.Test.YtinmmaccoenphaaDoorZReqBack2
import Derived.Test.YtinmmaccoenphaaDoorZReqBack3
import Derived.Test.YtinmmaccoenphaaDoorZReqBack4
import Derived.Test.YtinmmaccoenphaaDoorZReqBack5
import Derived.Test.YtinmmaccoenphaaDoorZReqBack6
set_option linter.unusedVariables false
set_option linter.unusedSimpArgs false
section
/- The row of FnReqBack: the law answers true, whatever the input. Printed by rowlaw.py, part 2. -/
namespace Go.Proofs.YtinmmaccoenphaaDoor.fnReqBack
open Go.ChangeShapes Go.WideShapes Go.ChangeAt Go.RowKit
set_option linter.unusedVariables false
set_option maxRecDepth 100000
theorem lifted (os : Os) (started : os.Started) (H : Type) (enc : TypeId × Value → H) (F : Stop.Interp) :
    ReturnsInHanded {} Tryd.checked os 6 .any ((OpenSpec.ofChange Rows.fnReqBackSpec).preRow enc Tryd.prog Tryd.f6 Rows.fnReqBackRow.domain false Rows.fnReqBackRow.laid) (((OpenSpec.ofChange Rows.fnReqBackSpec).at F).post enc Tryd.prog Tryd.f6 false true false false) := by
  obtain ⟨places, hx⟩ := reads os enc
  refine returnsInHanded_of_row (C := Tryd.checked) (s := OpenSpec.ofChange Rows.fnReqBackSpec) own started (by kernel_rfl) Tryd.func6
    (witness_row_at (enc := enc) (C := Tryd.checked) false (laidWorld os) #[.slice none 0 0] rfl (hv os) (hr os) (hok os)
      (OpenSpec.preRow_of_cond 8 hx (by kernel_rfl) (fun k hk => by cases hk) (by kernel_rfl) (laid_met os))) ?_
  intro W base args ds gs before hval0 hW0 hcnd _ hsz0 hL _ _
  have hI := tables hL
  have hval : ∀ (j : Nat) t v, Tryd.f6.params[j]? = some t → args[j]? = some v → Value.okWide Tryd.prog W .any base t v := hval0
  have hW : DataW.Whole enc Tryd.prog Tryd.f6.params.toList Rows.fnReqBackSpec.vars false W args.toList ds gs before := hW0
  have hW' := hW
  obtain ⟨p, q, hA0, hV, rfl, hfz, hnd⟩ := hW
  have hA : DataW.TrodAll enc Tryd.prog W 0 (fun _ => true) true Tryd.f6.params.toList args.toList ds p := hA0
  show Calls Tryd.prog 6 args W fun e W' => ∃ v, e = .returned v ∧ Rows.fnReqBackSpec.post enc Tryd.prog Tryd.f6 false true false false W args v W'
  rw [Tryd.params6] at hA hval
  obtain ⟨v0, vs0, d0, ds0, p0, q0, hargs0, rfl, rfl, h0, r0⟩ := trodAll_cons hA
  obtain ⟨rfl, rfl, rfl⟩ := trodAll_nil r0
  obtain rfl : args = #[v0] := by cases args; simp_all
  obtain ⟨rfl, rfl⟩ := trodVars_none hV
  have ok0 := hval 0 22 v0 rfl rfl
  have k0 := h0
  have lt0 : ∀ x ∈ p0, x.block < W.heap.size := by obtain ⟨m, hm⟩ := k0; exact DataW.trod_lt m _ _ _ hm
  obtain ⟨fuel0, hf0⟩ := h0
  have hs0 : v0.cells.toList = [v0] := Go.Ev.cells_one celOk0 ok0
  have hin0 := (Go.Ev.trod_in fuel0 hf0).1 (.sl Go.Ev.Seat.bytesR) celOk0
  rw [hs0] at hin0
  obtain ⟨x0, M0, aR0, hwf0, hM0⟩ := Go.Ev.arg_one hin0
  have hcall := Go.Ev.law_true (I := Go.Ev.Seat.I) (Go.Ev.Seat.ok_ReqBack (⟨fun _ => ByteArray.empty⟩)) hI (Go.Ev.args_cons aR0 Go.Ev.args_nil) (fun b hb => (List.mem_append.1 hb).elim (hM0 b) (fun hb => absurd hb List.not_mem_nil)) ⟨[], fun K => Go.Ev.Seat.law_ReqBack (⟨fun _ => ByteArray.empty⟩) x0 K hwf0⟩
  refine Calls.mono hcall fun e W' ⟨he, bel⟩ => ?_
  subst he
  exact ⟨_, rfl, _, _, _, [], _, [], hW', trodAll_mk1 (shut_bool Tryd.underlying4 _), (trodAll_cons_mk (Below.trod laidOut (by kernel_rfl) (of_decide_eq_true (by kernel_rfl)) k0 bel lt0) trodAll_mk0), rfl, bel.frame _, fun h => by cases h⟩
end Go.Proofs.YtinmmaccoenphaaDoor.fnReqBack
end
