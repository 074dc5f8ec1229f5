/- The row of FnExactAnswers: the law answers true, whatever the input. Printed by rowlaw.py. -/
import Derived.Test.YtfgnddgckhpbiaaRows
import Derived.Test.YtfgnddgckhpbiaaEvLAnswers
import Derived.Test.YtfgnddgckhpbiaaEvOne
import Derived.WalkKit
import Derived.ProofKit
import Derived.OpenShut
import Derived.ShutString
import Derived.ChangeOld
import Derived.Below
import Derived.SizedLaws
namespace Go.Proofs.Ytfgnddgckhpbiaa.fnExactAnswers
open Go.ChangeShapes Go.WideShapes Go.ChangeAt Go.RowKit
set_option linter.unusedVariables false
set_option maxRecDepth 100000
theorem own : ownKnob Try.prog.godebug = none := by kernel_rfl
theorem laidOut : laidOutB Try.prog = true := by kernel_rfl
theorem celOk0 : Go.Ev.CcOk Try.prog (.sl Go.Ev.Seat.outR) 77 := Go.Ev.ccB_ok _ (by kernel_rfl)
theorem celOk1 : Go.Ev.CcOk Try.prog (.int .i64) 3 := Go.Ev.ccB_ok _ (by kernel_rfl)
theorem lifted (os : Os) (started : os.Started) (H : Type) (enc : TypeId × Value → H) :
    ReturnsInHanded {} Try.checked os 12 .any (Rows.fnExactAnswersSpec.pre6 enc Try.prog Try.f12 Rows.fnExactAnswersRow.domain false) (Rows.fnExactAnswersSpec.post enc Try.prog Try.f12 false true false false) := by
  refine returnsInHanded_of_change_sized (C := Try.checked) own started (by kernel_rfl) Try.func12
    (ChangeSpec.witness6 (enc := enc) (C := Try.checked) false ⟨#[], #[.slice none 0 0, .int .i64 0], []⟩ 8 (by kernel_rfl) (by kernel_rfl) (by kernel_rfl) (by kernel_rfl)) ?_
  intro W base args ds gs before hval0 hW hcnd hsz0 _
  have hval : ∀ (j : Nat) t v, Try.f12.params[j]? = some t → args[j]? = some v → Value.okWide Try.prog W .any base t v := hval0
  have hW' := hW
  obtain ⟨p, q, hA0, hV, rfl, hfz, hnd⟩ := hW
  have hA : DataW.TrodAll enc Try.prog W 0 (fun _ => true) true Try.f12.params.toList args.toList ds p := hA0
  rw [Try.params12] at hA hval
  obtain ⟨v0, vs0, d0, ds0, p0, q0, hargs0, rfl, rfl, h0, r0⟩ := trodAll_cons hA
  obtain ⟨v1, vs1, d1, ds1, p1, q1, hargs1, rfl, rfl, h1, r1⟩ := trodAll_cons r0
  obtain ⟨rfl, rfl, rfl⟩ := trodAll_nil r1
  obtain rfl : args = #[v0, v1] := by cases args; simp_all
  obtain ⟨rfl, rfl⟩ := trodVars_none hV
  have ok0 := hval 0 77 v0 rfl rfl
  have k0 := h0
  have lt0 : ∀ x ∈ p0, x.block < W.heap.size := by obtain ⟨m, hm⟩ := k0; exact DataW.trod_lt m _ _ _ hm
  obtain ⟨fuel0, hf0⟩ := h0
  have hs0 : v0.cells.toList = [v0] := Go.Ev.cells_one celOk0 ok0
  have hin0 := (Go.Ev.trod_in fuel0 hf0).1 (.sl Go.Ev.Seat.outR) celOk0
  rw [hs0] at hin0
  obtain ⟨x0, M0, aR0, hwf0, hM0⟩ := Go.Ev.arg_one hin0
  have ok1 := hval 1 3 v1 rfl rfl
  have k1 := h1
  have lt1 : ∀ x ∈ p1, x.block < W.heap.size := by obtain ⟨m, hm⟩ := k1; exact DataW.trod_lt m _ _ _ hm
  obtain ⟨fuel1, hf1⟩ := h1
  have hs1 : v1.cells.toList = [v1] := Go.Ev.cells_one celOk1 ok1
  have hin1 := (Go.Ev.trod_in fuel1 hf1).1 (.int .i64) celOk1
  rw [hs1] at hin1
  obtain ⟨x1, M1, aR1, hwf1, hM1⟩ := Go.Ev.arg_one hin1
  have hcall := Go.Ev.law_true (I := Go.Ev.I0) (Go.Ev.Seat.ok_Answers (⟨fun _ => ByteArray.empty⟩)) trivial (Go.Ev.args_cons aR0 (Go.Ev.args_cons aR1 Go.Ev.args_nil)) (fun b hb => (List.mem_append.1 hb).elim (hM0 b) (fun hb => (List.mem_append.1 hb).elim (hM1 b) (fun hb => absurd hb List.not_mem_nil))) ⟨[], fun K => Go.Ev.Seat.law_Answers _ x0 x1 K (Go.Ev.Cc.cnz_of_wf (.sl Go.Ev.Seat.outR) x0 hwf0)⟩
  refine Calls.mono hcall fun e W' ⟨he, bel⟩ => ?_
  subst he
  exact ⟨_, rfl, _, _, _, [], _, [], hW', trodAll_mk1 (shut_bool Try.underlying4 _), (trodAll_cons_mk (Below.trod laidOut (by kernel_rfl) (of_decide_eq_true (by kernel_rfl)) k0 bel lt0) (trodAll_cons_mk (Below.trod laidOut (by kernel_rfl) (of_decide_eq_true (by kernel_rfl)) k1 bel lt1) trodAll_mk0)), rfl, bel.frame _, fun h => by cases h⟩
theorem over : Rows.fnExactAnswersRow.holds Try.pinned (OpenSpec.ofChange Rows.fnExactAnswersSpec) :=
  OpenClaim.holds_of_wide 12 Try.f12 rfl rfl rfl rfl rfl rfl rfl ⟨rfl, rfl, rfl, rfl, rfl⟩ rfl rfl rfl rfl rfl (by kernel_rfl) Try.func12 (by kernel_rfl)
    (of_decide_eq_true (by kernel_rfl)) (by unfold Func.isWrapper; first | (rw [if_pos (by decide +kernel)]; kernel_rfl) | (rw [if_neg (by decide +kernel)]; exact ⟨rfl, rfl⟩))
    (fun os started H enc _ => lifted os started H enc)
theorem proved : Rows.FnExactAnswersSaid := over
end Go.Proofs.Ytfgnddgckhpbiaa.fnExactAnswers
namespace Go.Proofs.Ytfgnddgckhpbiaa
/-- The row, under a short name, for the claim. -/
theorem fnExactAnswers_holds : Rows.FnExactAnswersSaid := fnExactAnswers.proved
end Go.Proofs.Ytfgnddgckhpbiaa
#print axioms Go.Proofs.Ytfgnddgckhpbiaa.fnExactAnswers_holds
