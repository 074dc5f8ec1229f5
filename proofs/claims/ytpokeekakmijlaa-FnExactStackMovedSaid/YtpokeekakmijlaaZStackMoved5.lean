/- StackMoved: parts RowLStackMoved, packed by squash.py. -/
import Derived.Test.YtpokeekakmijlaaRows
import Derived.WalkKit
import Derived.ProofKit
import Derived.OpenShut
import Derived.ShutString
import Derived.ChangeOld
import Derived.Below
import Derived.SizedLaws
import Derived.Test.YtpokeekakmijlaaZStackMoved0
import Derived.Test.YtpokeekakmijlaaZStackMoved1
import Derived.Test.YtpokeekakmijlaaZStackMoved2
import Derived.Test.YtpokeekakmijlaaZStackMoved3
import Derived.Test.YtpokeekakmijlaaZStackMoved4
set_option linter.unusedVariables false
set_option linter.unusedSimpArgs false
section
/- The row of FnExactStackMoved: the law answers true, whatever the input. Printed by rowlaw.py. -/
namespace Go.Proofs.Ytpokeekakmijlaa.fnExactStackMoved
open Go.ChangeShapes Go.WideShapes Go.ChangeAt Go.RowKit
set_option linter.unusedVariables false
set_option maxRecDepth 100000
theorem own : ownKnob Try.prog.godebug = none := by kernel_rfl
theorem laidOut : laidOutB Try.prog = true := by kernel_rfl
theorem rowOk0 : Go.Ev.RwOk Try.prog Go.Ev.Seat.stackR 43 := Go.Ev.rwB_ok _ (by kernel_rfl)
theorem rowOk1 : Go.Ev.RwOk Try.prog Go.Ev.Seat.editR 44 := Go.Ev.rwB_ok _ (by kernel_rfl)
theorem lifted (os : Os) (started : os.Started) (H : Type) (enc : TypeId × Value → H) :
    ReturnsInHanded {} Try.checked os 5 .any (Rows.fnExactStackMovedSpec.pre6 enc Try.prog Try.f5 Rows.fnExactStackMovedRow.domain false) (Rows.fnExactStackMovedSpec.post enc Try.prog Try.f5 false true false false) := by
  refine returnsInHanded_of_change_sized (C := Try.checked) own started (by kernel_rfl) Try.func5
    (ChangeSpec.witness6 (enc := enc) (C := Try.checked) false ⟨#[], #[.agg #[.slice none 0 0, .slice none 0 0], .agg #[.int .i64 0, .int .i64 0, .slice none 0 0]], []⟩ 8 (by kernel_rfl) (by kernel_rfl) (by kernel_rfl) (by kernel_rfl)) ?_
  intro W base args ds gs before hval0 hW hcnd hsz0 _
  have hval : ∀ (j : Nat) t v, Try.f5.params[j]? = some t → args[j]? = some v → Value.okWide Try.prog W .any base t v := hval0
  have hW' := hW
  obtain ⟨p, q, hA0, hV, rfl, hfz, hnd⟩ := hW
  have hA : DataW.TrodAll enc Try.prog W 0 (fun _ => true) true Try.f5.params.toList args.toList ds p := hA0
  rw [Try.params5] at hA hval
  obtain ⟨v0, vs0, d0, ds0, p0, q0, hargs0, rfl, rfl, h0, r0⟩ := trodAll_cons hA
  obtain ⟨v1, vs1, d1, ds1, p1, q1, hargs1, rfl, rfl, h1, r1⟩ := trodAll_cons r0
  obtain ⟨rfl, rfl, rfl⟩ := trodAll_nil r1
  obtain rfl : args = #[v0, v1] := by cases args; simp_all
  obtain ⟨rfl, rfl⟩ := trodVars_none hV
  have ok0 := hval 0 43 v0 rfl rfl
  have k0 := h0
  have lt0 : ∀ x ∈ p0, x.block < W.heap.size := by obtain ⟨m, hm⟩ := k0; exact DataW.trod_lt m _ _ _ hm
  obtain ⟨fuel0, hf0⟩ := h0
  have u0 : ∃ fs, Try.prog.underlying 43 = some (.struct fs) := by
    exact ⟨_, Try.underlying43⟩
  obtain ⟨fs0, hu0⟩ := u0
  unfold Value.okWide at ok0
  rw [hu0] at ok0
  obtain ⟨cs0, rfl, hcs0, _⟩ := ok0
  have hn0 : Try.prog.cellsOf 43 = Go.Ev.Seat.stackR.n := by kernel_rfl
  have hin0 := Go.Ev.InL.row Go.Ev.Seat.stackR ((Go.Ev.trod_in fuel0 hf0).2 Go.Ev.Seat.stackR.list rowOk0 (hn0.trans (Go.Ev.Rw.list_len _).symm) (by rw [Go.Ev.Rw.list_len, ← hn0, ← hcs0]; simp [Value.cells]))
  obtain ⟨x0, M0, aR0, hwf0, hM0⟩ := Go.Ev.arg_st hin0
  have ok1 := hval 1 44 v1 rfl rfl
  have k1 := h1
  have lt1 : ∀ x ∈ p1, x.block < W.heap.size := by obtain ⟨m, hm⟩ := k1; exact DataW.trod_lt m _ _ _ hm
  obtain ⟨fuel1, hf1⟩ := h1
  have u1 : ∃ fs, Try.prog.underlying 44 = some (.struct fs) := by
    exact ⟨_, Try.underlying44⟩
  obtain ⟨fs1, hu1⟩ := u1
  unfold Value.okWide at ok1
  rw [hu1] at ok1
  obtain ⟨cs1, rfl, hcs1, _⟩ := ok1
  have hn1 : Try.prog.cellsOf 44 = Go.Ev.Seat.editR.n := by kernel_rfl
  have hin1 := Go.Ev.InL.row Go.Ev.Seat.editR ((Go.Ev.trod_in fuel1 hf1).2 Go.Ev.Seat.editR.list rowOk1 (hn1.trans (Go.Ev.Rw.list_len _).symm) (by rw [Go.Ev.Rw.list_len, ← hn1, ← hcs1]; simp [Value.cells]))
  obtain ⟨x1, M1, aR1, hwf1, hM1⟩ := Go.Ev.arg_st hin1
  have hcall := Go.Ev.law_true (I := Go.Ev.Seat.I) (Go.Ev.Seat.ok_StackMoved (⟨fun _ => ByteArray.empty⟩)) (Go.Ev.Seat.I_ok _ _) (Go.Ev.args_cons aR0 (Go.Ev.args_cons aR1 Go.Ev.args_nil)) (fun b hb => (List.mem_append.1 hb).elim (hM0 b) (fun hb => (List.mem_append.1 hb).elim (hM1 b) (fun hb => absurd hb List.not_mem_nil))) ⟨[], fun K => Go.Ev.Seat.law_StackMoved (⟨fun _ => ByteArray.empty⟩) x0 x1 K hwf0 hwf1⟩
  refine Calls.mono hcall fun e W' ⟨he, bel⟩ => ?_
  subst he
  exact ⟨_, rfl, _, _, _, [], _, [], hW', trodAll_mk1 (shut_bool Try.underlying4 _), (trodAll_cons_mk (Below.trod laidOut (by kernel_rfl) (of_decide_eq_true (by kernel_rfl)) k0 bel lt0) (trodAll_cons_mk (Below.trod laidOut (by kernel_rfl) (of_decide_eq_true (by kernel_rfl)) k1 bel lt1) trodAll_mk0)), rfl, bel.frame _, fun h => by cases h⟩
end Go.Proofs.Ytpokeekakmijlaa.fnExactStackMoved
end
