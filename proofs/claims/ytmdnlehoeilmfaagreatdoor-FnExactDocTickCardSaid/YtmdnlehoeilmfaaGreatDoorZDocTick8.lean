/- DocTick: parts RowLDocTick, packed by squash.py. -/
import Derived.Test.YtmdnlehoeilmfaaGreatDoorRows
import Derived.WalkKit
import Derived.ProofKit
import Derived.OpenShut
import Derived.ShutString
import Derived.ChangeOld
import Derived.Below
import Derived.SizedLaws
import Derived.Test.YtmdnlehoeilmfaaGreatDoorCards
import Derived.Test.YtmdnlehoeilmfaaGreatDoorTie
import Derived.Deep.DeepHandedRow
import Derived.Lib.LaidTab
import Derived.Test.YtmdnlehoeilmfaaGreatDoorZDocTick0
import Derived.Test.YtmdnlehoeilmfaaGreatDoorZDocTick1
import Derived.Test.YtmdnlehoeilmfaaGreatDoorZDocTick2
import Derived.Test.YtmdnlehoeilmfaaGreatDoorZDocTick3
import Derived.Test.YtmdnlehoeilmfaaGreatDoorZDocTick4
import Derived.Test.YtmdnlehoeilmfaaGreatDoorZDocTick5
import Derived.Test.YtmdnlehoeilmfaaGreatDoorZDocTick6
import Derived.Test.YtmdnlehoeilmfaaGreatDoorZDocTick7
set_option linter.unusedVariables false
set_option linter.unusedSimpArgs false
section
/- The row of FnExactDocTick: the law answers true, whatever the input. Printed by rowlaw.py, part 2. -/
namespace Go.Proofs.YtmdnlehoeilmfaaGreatDoor.fnExactDocTick
open Go.ChangeShapes Go.WideShapes Go.ChangeAt Go.RowKit
set_option linter.unusedVariables false
set_option maxRecDepth 100000
theorem lifted (os : Os) (started : os.Started) (H : Type) (enc : TypeId × Value → H) (F : Stop.Interp) :
    ReturnsInHanded {} Tryz.checked os 6 .any ((OpenSpec.ofChange Rows.fnExactDocTickSpec).preRow enc Tryz.prog Tryz.f6 Rows.fnExactDocTickRow.domain false Rows.fnExactDocTickRow.laid) (((OpenSpec.ofChange Rows.fnExactDocTickSpec).at F).post enc Tryz.prog Tryz.f6 false true false false) := by
  obtain ⟨places, hx⟩ := reads os enc
  refine returnsInHanded_of_row (C := Tryz.checked) (s := OpenSpec.ofChange Rows.fnExactDocTickSpec) own started (by kernel_rfl) Tryz.func6
    (witness_row_at (enc := enc) (C := Tryz.checked) false (laidWorld os) #[.agg #[.slice none 0 0, .slice none 0 0, .slice none 0 0, .int .i64 0, .slice none 0 0, .slice none 0 0], .int .i64 0] rfl (hv os) (hr os) (hok os)
      (OpenSpec.preRow_of_cond 8 hx (by kernel_rfl) (fun k hk => by cases hk) (by kernel_rfl) (laid_met os))) ?_
  intro W base args ds gs before hval0 hW0 hcnd _ hsz0 hL _ _
  have hI := tables hL
  have hval : ∀ (j : Nat) t v, Tryz.f6.params[j]? = some t → args[j]? = some v → Value.okWide Tryz.prog W .any base t v := hval0
  have hW : DataW.Whole enc Tryz.prog Tryz.f6.params.toList Rows.fnExactDocTickSpec.vars false W args.toList ds gs before := hW0
  have hW' := hW
  obtain ⟨p, q, hA0, hV, rfl, hfz, hnd⟩ := hW
  have hA : DataW.TrodAll enc Tryz.prog W 0 (fun _ => true) true Tryz.f6.params.toList args.toList ds p := hA0
  show Calls Tryz.prog 6 args W fun e W' => ∃ v, e = .returned v ∧ Rows.fnExactDocTickSpec.post enc Tryz.prog Tryz.f6 false true false false W args v W'
  rw [Tryz.params6] at hA hval
  obtain ⟨v0, vs0, d0, ds0, p0, q0, hargs0, rfl, rfl, h0, r0⟩ := trodAll_cons hA
  obtain ⟨v1, vs1, d1, ds1, p1, q1, hargs1, rfl, rfl, h1, r1⟩ := trodAll_cons r0
  obtain ⟨rfl, rfl, rfl⟩ := trodAll_nil r1
  obtain rfl : args = #[v0, v1] := by cases args; simp_all
  obtain ⟨rfl, rfl⟩ := trodVars_none hV
  have ok0 := hval 0 27 v0 rfl rfl
  have k0 := h0
  have lt0 : ∀ x ∈ p0, x.block < W.heap.size := by obtain ⟨m, hm⟩ := k0; exact DataW.trod_lt m _ _ _ hm
  obtain ⟨fuel0, hf0⟩ := h0
  have u0 : ∃ fs, Tryz.prog.underlying 27 = some (.struct fs) := by
    exact ⟨_, Tryz.underlying27⟩
  obtain ⟨fs0, hu0⟩ := u0
  unfold Value.okWide at ok0
  rw [hu0] at ok0
  obtain ⟨cs0, rfl, hcs0, _⟩ := ok0
  have hn0 : Tryz.prog.cellsOf 27 = Go.Ev.Seat.docR.n := by kernel_rfl
  have hin0 := Go.Ev.InL.row Go.Ev.Seat.docR ((Go.Ev.trod_in fuel0 hf0).2 Go.Ev.Seat.docR.list rowOk0 (hn0.trans (Go.Ev.Rw.list_len _).symm) (by rw [Go.Ev.Rw.list_len, ← hn0, ← hcs0]; simp [Value.cells]))
  obtain ⟨x0, M0, aR0, hwf0, hM0⟩ := Go.Ev.arg_st hin0
  have ok1 := hval 1 3 v1 rfl rfl
  have k1 := h1
  have lt1 : ∀ x ∈ p1, x.block < W.heap.size := by obtain ⟨m, hm⟩ := k1; exact DataW.trod_lt m _ _ _ hm
  obtain ⟨fuel1, hf1⟩ := h1
  have hs1 : v1.cells.toList = [v1] := Go.Ev.cells_one celOk1 ok1
  have hin1 := (Go.Ev.trod_in fuel1 hf1).1 (.int .i64) celOk1
  rw [hs1] at hin1
  obtain ⟨x1, M1, aR1, hwf1, hM1⟩ := Go.Ev.arg_one hin1
  have hcall := Go.Ev.law_true (I := Go.Ev.Seat.I) (Go.Ev.Seat.ok_DocTick (⟨fun _ => ByteArray.empty⟩)) hI (Go.Ev.args_cons aR0 (Go.Ev.args_cons aR1 Go.Ev.args_nil)) (fun b hb => (List.mem_append.1 hb).elim (hM0 b) (fun hb => (List.mem_append.1 hb).elim (hM1 b) (fun hb => absurd hb List.not_mem_nil))) ⟨[], fun K => Go.Ev.Seat.law_DocTick (⟨fun _ => ByteArray.empty⟩) x0 x1 K hwf0⟩
  refine Calls.mono hcall fun e W' ⟨he, bel⟩ => ?_
  subst he
  exact ⟨_, rfl, _, _, _, [], _, [], hW', trodAll_mk1 (shut_bool Tryz.underlying4 _), (trodAll_cons_mk (Below.trod laidOut (by kernel_rfl) (of_decide_eq_true (by kernel_rfl)) k0 bel lt0) (trodAll_cons_mk (Below.trod laidOut (by kernel_rfl) (of_decide_eq_true (by kernel_rfl)) k1 bel lt1) trodAll_mk0)), rfl, bel.frame _, fun h => by cases h⟩
end Go.Proofs.YtmdnlehoeilmfaaGreatDoor.fnExactDocTick
end
