/- Waits: parts RowLWaits, packed by squash.py. -/
import Derived.Test.YtiinphgjeafpnaaDoorRows
import Derived.WalkKit
import Derived.ProofKit
import Derived.OpenShut
import Derived.ShutString
import Derived.ChangeOld
import Derived.Below
import Derived.SizedLaws
import Derived.Test.YtiinphgjeafpnaaDoorCards
import Derived.Test.YtiinphgjeafpnaaDoorTie
import Derived.Deep.DeepHandedRow
import Derived.Lib.LaidTab
import Derived.Test.YtiinphgjeafpnaaDoorZWaits0
import Derived.Test.YtiinphgjeafpnaaDoorZWaits1
import Derived.Test.YtiinphgjeafpnaaDoorZWaits2
import Derived.Test.YtiinphgjeafpnaaDoorZWaits3
import Derived.Test.YtiinphgjeafpnaaDoorZWaits4
import Derived.Test.YtiinphgjeafpnaaDoorZWaits5
import Derived.Test.YtiinphgjeafpnaaDoorZWaits6
import Derived.Test.YtiinphgjeafpnaaDoorZWaits7
set_option linter.unusedVariables false
set_option linter.unusedSimpArgs false
section
/- The row of FnExactWaits: the law answers true, whatever the input. Printed by rowlaw.py, part 2. -/
namespace Go.Proofs.YtiinphgjeafpnaaDoor.fnExactWaits
open Go.ChangeShapes Go.WideShapes Go.ChangeAt Go.RowKit
set_option linter.unusedVariables false
set_option maxRecDepth 100000
theorem lifted (os : Os) (started : os.Started) (H : Type) (enc : TypeId × Value → H) (F : Stop.Interp) :
    ReturnsInHanded {} Tryd.checked os 11 .any ((OpenSpec.ofChange Rows.fnExactWaitsSpec).preRow enc Tryd.prog Tryd.f11 Rows.fnExactWaitsRow.domain false Rows.fnExactWaitsRow.laid) (((OpenSpec.ofChange Rows.fnExactWaitsSpec).at F).post enc Tryd.prog Tryd.f11 false true false false) := by
  obtain ⟨places, hx⟩ := reads os enc
  refine returnsInHanded_of_row (C := Tryd.checked) (s := OpenSpec.ofChange Rows.fnExactWaitsSpec) own started (by kernel_rfl) Tryd.func11
    (witness_row_at (enc := enc) (C := Tryd.checked) false (laidWorld os) #[.slice none 0 0, .slice none 0 0, .int .i64 0] rfl (hv os) (hr os) (hok os)
      (OpenSpec.preRow_of_cond 8 hx (by kernel_rfl) (fun k hk => by cases hk) (by kernel_rfl) (laid_met os))) ?_
  intro W base args ds gs before hval0 hW0 hcnd _ hsz0 hL _ _
  have hI := tables hL
  have hval : ∀ (j : Nat) t v, Tryd.f11.params[j]? = some t → args[j]? = some v → Value.okWide Tryd.prog W .any base t v := hval0
  have hW : DataW.Whole enc Tryd.prog Tryd.f11.params.toList Rows.fnExactWaitsSpec.vars false W args.toList ds gs before := hW0
  have hW' := hW
  obtain ⟨p, q, hA0, hV, rfl, hfz, hnd⟩ := hW
  have hA : DataW.TrodAll enc Tryd.prog W 0 (fun _ => true) true Tryd.f11.params.toList args.toList ds p := hA0
  show Calls Tryd.prog 11 args W fun e W' => ∃ v, e = .returned v ∧ Rows.fnExactWaitsSpec.post enc Tryd.prog Tryd.f11 false true false false W args v W'
  rw [Tryd.params11] at hA hval
  obtain ⟨v0, vs0, d0, ds0, p0, q0, hargs0, rfl, rfl, h0, r0⟩ := trodAll_cons hA
  obtain ⟨v1, vs1, d1, ds1, p1, q1, hargs1, rfl, rfl, h1, r1⟩ := trodAll_cons r0
  obtain ⟨v2, vs2, d2, ds2, p2, q2, hargs2, rfl, rfl, h2, r2⟩ := trodAll_cons r1
  obtain ⟨rfl, rfl, rfl⟩ := trodAll_nil r2
  obtain rfl : args = #[v0, v1, v2] := by cases args; simp_all
  obtain ⟨rfl, rfl⟩ := trodVars_none hV
  have ok0 := hval 0 88 v0 rfl rfl
  have k0 := h0
  have lt0 : ∀ x ∈ p0, x.block < W.heap.size := by obtain ⟨m, hm⟩ := k0; exact DataW.trod_lt m _ _ _ hm
  obtain ⟨fuel0, hf0⟩ := h0
  have hs0 : v0.cells.toList = [v0] := Go.Ev.cells_one celOk0 ok0
  have hin0 := (Go.Ev.trod_in fuel0 hf0).1 (.sl Go.Ev.Seat.eventR) celOk0
  rw [hs0] at hin0
  obtain ⟨x0, M0, aR0, hwf0, hM0⟩ := Go.Ev.arg_one hin0
  have ok1 := hval 1 89 v1 rfl rfl
  have k1 := h1
  have lt1 : ∀ x ∈ p1, x.block < W.heap.size := by obtain ⟨m, hm⟩ := k1; exact DataW.trod_lt m _ _ _ hm
  obtain ⟨fuel1, hf1⟩ := h1
  have hs1 : v1.cells.toList = [v1] := Go.Ev.cells_one celOk1 ok1
  have hin1 := (Go.Ev.trod_in fuel1 hf1).1 (.sl Go.Ev.Seat.outR) celOk1
  rw [hs1] at hin1
  obtain ⟨x1, M1, aR1, hwf1, hM1⟩ := Go.Ev.arg_one hin1
  have ok2 := hval 2 3 v2 rfl rfl
  have k2 := h2
  have lt2 : ∀ x ∈ p2, x.block < W.heap.size := by obtain ⟨m, hm⟩ := k2; exact DataW.trod_lt m _ _ _ hm
  obtain ⟨fuel2, hf2⟩ := h2
  have hs2 : v2.cells.toList = [v2] := Go.Ev.cells_one celOk2 ok2
  have hin2 := (Go.Ev.trod_in fuel2 hf2).1 (.int .i64) celOk2
  rw [hs2] at hin2
  obtain ⟨x2, M2, aR2, hwf2, hM2⟩ := Go.Ev.arg_one hin2
  have hcall := Go.Ev.law_true (I := Go.Ev.Seat.I) (Go.Ev.Seat.ok_Waits (⟨fun _ => ByteArray.empty⟩)) hI (Go.Ev.args_cons aR0 (Go.Ev.args_cons aR1 (Go.Ev.args_cons aR2 Go.Ev.args_nil))) (fun b hb => (List.mem_append.1 hb).elim (hM0 b) (fun hb => (List.mem_append.1 hb).elim (hM1 b) (fun hb => (List.mem_append.1 hb).elim (hM2 b) (fun hb => absurd hb List.not_mem_nil)))) ⟨[], fun K => Go.Ev.Seat.law_Waits _ x0 x1 x2 K hwf0 hwf1⟩
  refine Calls.mono hcall fun e W' ⟨he, bel⟩ => ?_
  subst he
  exact ⟨_, rfl, _, _, _, [], _, [], hW', trodAll_mk1 (shut_bool Tryd.underlying4 _), (trodAll_cons_mk (Below.trod laidOut (by kernel_rfl) (of_decide_eq_true (by kernel_rfl)) k0 bel lt0) (trodAll_cons_mk (Below.trod laidOut (by kernel_rfl) (of_decide_eq_true (by kernel_rfl)) k1 bel lt1) (trodAll_cons_mk (Below.trod laidOut (by kernel_rfl) (of_decide_eq_true (by kernel_rfl)) k2 bel lt2) trodAll_mk0))), rfl, bel.frame _, fun h => by cases h⟩
end Go.Proofs.YtiinphgjeafpnaaDoor.fnExactWaits
end
