/- MachOk: parts RowLMachOk, packed by squash.py. -/
import Derived.Test.YthddmiaggpnokaaGreatDoorRows
import Derived.WalkKit
import Derived.ProofKit
import Derived.OpenShut
import Derived.ShutString
import Derived.ChangeOld
import Derived.Below
import Derived.SizedLaws
import Derived.Test.YthddmiaggpnokaaGreatDoorCards
import Derived.Test.YthddmiaggpnokaaGreatDoorTie
import Derived.Deep.DeepHandedRow
import Derived.Lib.LaidTab
import Derived.Test.YthddmiaggpnokaaGreatDoorZMachOk0
import Derived.Test.YthddmiaggpnokaaGreatDoorZMachOk1
import Derived.Test.YthddmiaggpnokaaGreatDoorZMachOk2
import Derived.Test.YthddmiaggpnokaaGreatDoorZMachOk3
import Derived.Test.YthddmiaggpnokaaGreatDoorZMachOk4
import Derived.Test.YthddmiaggpnokaaGreatDoorZMachOk5
import Derived.Test.YthddmiaggpnokaaGreatDoorZMachOk6
import Derived.Test.YthddmiaggpnokaaGreatDoorZMachOk7
import Derived.Test.YthddmiaggpnokaaGreatDoorZMachOk8
set_option linter.unusedVariables false
set_option linter.unusedSimpArgs false
section
namespace Go.Proofs.YthddmiaggpnokaaGreatDoor.fnExactMachOk
open Go.ChangeShapes Go.WideShapes Go.ChangeAt Go.RowKit
set_option linter.unusedVariables false
set_option maxRecDepth 100000
theorem lifted (os : Os) (started : os.Started) (H : Type) (enc : TypeId × Value → H) (F : Stop.Interp) :
  ReturnsInHanded {} Tryz.checked os 3 .any ((OpenSpec.ofChange Rows.fnExactMachOkSpec).preRow enc Tryz.prog Tryz.f3 Rows.fnExactMachOkRow.domain false Rows.fnExactMachOkRow.laid) (((OpenSpec.ofChange Rows.fnExactMachOkSpec).at F).post enc Tryz.prog Tryz.f3 false true false false) := by
 obtain ⟨places, hx⟩ := reads os enc
 refine returnsInHanded_of_row (C := Tryz.checked) (s := OpenSpec.ofChange Rows.fnExactMachOkSpec) own started (by kernel_rfl) Tryz.func3
  (witness_row_at (enc := enc) (C := Tryz.checked) false (laidWorld os) #[.agg #[.slice none 0 0, .slice none 0 0, .slice none 0 0, .int .i64 0, .slice none 0 0, .slice none 0 0, .slice none 0 0]] rfl (hv os) (hr os) (hok os)
   (OpenSpec.preRow_of_cond 8 hx (by kernel_rfl) (fun k hk => by cases hk) (by kernel_rfl) (laid_met os))) ?_
 intro W base args ds gs before hval0 hW0 hcnd _ hsz0 hL _ _
 have hI := tables hL
 have hval : ∀ (j : Nat) t v, Tryz.f3.params[j]? = some t → args[j]? = some v → Value.okWide Tryz.prog W .any base t v := hval0
 have hW : DataW.Whole enc Tryz.prog Tryz.f3.params.toList Rows.fnExactMachOkSpec.vars false W args.toList ds gs before := hW0
 have hW' := hW
 obtain ⟨p, q, hA0, hV, rfl, hfz, hnd⟩ := hW
 have hA : DataW.TrodAll enc Tryz.prog W 0 (fun _ => true) true Tryz.f3.params.toList args.toList ds p := hA0
 show Calls Tryz.prog 3 args W fun e W' => ∃ v, e = .returned v ∧ Rows.fnExactMachOkSpec.post enc Tryz.prog Tryz.f3 false true false false W args v W'
 rw [Tryz.params3] at hA hval
 obtain ⟨v0, vs0, d0, ds0, p0, q0, hargs0, rfl, rfl, h0, r0⟩ := trodAll_cons hA
 obtain ⟨rfl, rfl, rfl⟩ := trodAll_nil r0
 obtain rfl : args = #[v0] := by cases args; simp_all
 obtain ⟨rfl, rfl⟩ := trodVars_none hV
 have ok0 := hval 0 30 v0 rfl rfl
 have k0 := h0
 have lt0 : ∀ x ∈ p0, x.block < W.heap.size := by obtain ⟨m, hm⟩ := k0; exact DataW.trod_lt m _ _ _ hm
 obtain ⟨fuel0, hf0⟩ := h0
 have u0 : ∃ fs, Tryz.prog.underlying 30 = some (.struct fs) := by
  exact ⟨_, Tryz.underlying30⟩
 obtain ⟨fs0, hu0⟩ := u0
 unfold Value.okWide at ok0
 rw [hu0] at ok0
 obtain ⟨cs0, rfl, hcs0, _⟩ := ok0
 have hn0 : Tryz.prog.cellsOf 30 = Go.Ev.Seat.eY.n := by kernel_rfl
 have hin0 := Go.Ev.InL.row Go.Ev.Seat.eY ((Go.Ev.agN fuel0 hf0).2 Go.Ev.Seat.eY.list ati (hn0.trans (Go.Ev.Rw.Ou _).symm) (by rw [Go.Ev.Rw.Ou, ← hn0, ← hcs0]; simp [Value.cells]))
 obtain ⟨x0, M0, aR0, asb, hM0⟩ := Go.Ev.asM hin0
 have hcall := Go.Ev.law_true (I := Go.Ev.Seat.I) (Go.Ev.Seat.apk (⟨fun _ => ByteArray.empty⟩)) hI (Go.Ev.aoa aR0 Go.Ev.apY) (fun b hb => (List.mem_append.1 hb).elim (hM0 b) (fun hb => absurd hb List.not_mem_nil)) ⟨[], fun K => Go.Ev.Seat.amT (⟨fun _ => ByteArray.empty⟩) x0 K asb⟩
 refine Calls.mono hcall fun e W' ⟨he, bel⟩ => ?_
 subst he
 exact ⟨_, rfl, _, _, _, [], _, [], hW', trodAll_mk1 (shut_bool Tryz.underlying4 _), (trodAll_cons_mk (Below.trod laidOut (by kernel_rfl) (of_decide_eq_true (by kernel_rfl)) k0 bel lt0) trodAll_mk0), rfl, bel.frame _, fun h => by cases h⟩
end Go.Proofs.YthddmiaggpnokaaGreatDoor.fnExactMachOk
end
