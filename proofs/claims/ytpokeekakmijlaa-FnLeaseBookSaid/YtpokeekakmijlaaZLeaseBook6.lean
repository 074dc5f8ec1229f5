/- LeaseBook: parts RowLLeaseBook, packed by squash.py. -/
import Derived.Test.YtpokeekakmijlaaRows
import Derived.WalkKit
import Derived.ProofKit
import Derived.OpenShut
import Derived.ShutString
import Derived.ChangeOld
import Derived.Below
import Derived.SizedLaws
import Derived.Test.YtpokeekakmijlaaZLeaseBook0
import Derived.Test.YtpokeekakmijlaaZLeaseBook1
import Derived.Test.YtpokeekakmijlaaZLeaseBook2
import Derived.Test.YtpokeekakmijlaaZLeaseBook3
import Derived.Test.YtpokeekakmijlaaZLeaseBook4
import Derived.Test.YtpokeekakmijlaaZLeaseBook5
set_option linter.unusedVariables false
set_option linter.unusedSimpArgs false
section
/- The row of FnLeaseBook: the law answers true, whatever the input. Printed by rowlaw.py. -/
namespace Go.Proofs.Ytpokeekakmijlaa.fnLeaseBook
open Go.ChangeShapes Go.WideShapes Go.ChangeAt Go.RowKit
set_option linter.unusedVariables false
set_option maxRecDepth 100000
theorem own : ownKnob Try.prog.godebug = none := by kernel_rfl
theorem laidOut : laidOutB Try.prog = true := by kernel_rfl
theorem celOk0 : Go.Ev.CcOk Try.prog (.sl Go.Ev.Seat.bytesR) 22 := Go.Ev.ccB_ok _ (by kernel_rfl)
theorem lifted (os : Os) (started : os.Started) (H : Type) (enc : TypeId × Value → H) :
    ReturnsInHanded {} Try.checked os 3 .any (Rows.fnLeaseBookSpec.pre6 enc Try.prog Try.f3 Rows.fnLeaseBookRow.domain false) (Rows.fnLeaseBookSpec.post enc Try.prog Try.f3 false true false false) := by
  refine returnsInHanded_of_change_sized (C := Try.checked) own started (by kernel_rfl) Try.func3
    (ChangeSpec.witness6 (enc := enc) (C := Try.checked) false ⟨#[], #[.slice none 0 0], []⟩ 8 (by kernel_rfl) (by kernel_rfl) (by kernel_rfl) (by kernel_rfl)) ?_
  intro W base args ds gs before hval0 hW hcnd hsz0 _
  have hval : ∀ (j : Nat) t v, Try.f3.params[j]? = some t → args[j]? = some v → Value.okWide Try.prog W .any base t v := hval0
  have hW' := hW
  obtain ⟨p, q, hA0, hV, rfl, hfz, hnd⟩ := hW
  have hA : DataW.TrodAll enc Try.prog W 0 (fun _ => true) true Try.f3.params.toList args.toList ds p := hA0
  rw [Try.params3] at hA hval
  obtain ⟨v0, vs0, d0, ds0, p0, q0, hargs0, rfl, rfl, h0, r0⟩ := trodAll_cons hA
  obtain ⟨rfl, rfl, rfl⟩ := trodAll_nil r0
  obtain rfl : args = #[v0] := by cases args; simp_all
  obtain ⟨rfl, rfl⟩ := trodVars_none hV
  have ok0 := hval 0 22 v0 rfl rfl
  have k0 := h0
  have lt0 : ∀ x ∈ p0, x.block < W.heap.size := by obtain ⟨m, hm⟩ := k0; exact DataW.trod_lt m _ _ _ hm
  obtain ⟨fuel0, hf0⟩ := h0
  have hs0 : v0.cells.toList = [v0] := Go.Ev.cells_one celOk0 ok0
  have hin0 := (Go.Ev.trod_in fuel0 hf0).1 (.sl Go.Ev.Seat.bytesR) celOk0
  rw [hs0] at hin0
  obtain ⟨x0, M0, aR0, hwf0, hM0⟩ := Go.Ev.arg_one hin0
  have hcall := Go.Ev.law_true (I := Go.Ev.Seat.I) (Go.Ev.Seat.ok_LeaseBook (⟨fun _ => ByteArray.empty⟩)) (Go.Ev.Seat.I_ok _ _) (Go.Ev.args_cons aR0 Go.Ev.args_nil) (fun b hb => (List.mem_append.1 hb).elim (hM0 b) (fun hb => absurd hb List.not_mem_nil)) ⟨[], fun K => Go.Ev.Seat.law_LeaseBook (⟨fun _ => ByteArray.empty⟩) x0 K hwf0⟩
  refine Calls.mono hcall fun e W' ⟨he, bel⟩ => ?_
  subst he
  exact ⟨_, rfl, _, _, _, [], _, [], hW', trodAll_mk1 (shut_bool Try.underlying4 _), (trodAll_cons_mk (Below.trod laidOut (by kernel_rfl) (of_decide_eq_true (by kernel_rfl)) k0 bel lt0) trodAll_mk0), rfl, bel.frame _, fun h => by cases h⟩
end Go.Proofs.Ytpokeekakmijlaa.fnLeaseBook
end
