/- DocPlan: parts RowLDocPlan, packed by squash.py. -/
import Derived.Test.YtmdnlehoeilmfaaGreatDoorRows
import Derived.WalkKit
import Derived.ProofKit
import Derived.OpenShut
import Derived.ShutString
import Derived.ChangeOld
import Derived.Below
import Derived.SizedLaws
import Derived.Test.YtmdnlehoeilmfaaGreatDoorCards
import Derived.Test.YtmdnlehoeilmfaaGreatDoorTie
import Derived.Deep.DeepHandedRow
import Derived.Lib.LaidTab
import Derived.Test.YtmdnlehoeilmfaaGreatDoorZDocPlan0
import Derived.Test.YtmdnlehoeilmfaaGreatDoorZDocPlan1
import Derived.Test.YtmdnlehoeilmfaaGreatDoorZDocPlan2
import Derived.Test.YtmdnlehoeilmfaaGreatDoorZDocPlan3
import Derived.Test.YtmdnlehoeilmfaaGreatDoorZDocPlan4
import Derived.Test.YtmdnlehoeilmfaaGreatDoorZDocPlan5
import Derived.Test.YtmdnlehoeilmfaaGreatDoorZDocPlan6
import Derived.Test.YtmdnlehoeilmfaaGreatDoorZDocPlan7
set_option linter.unusedVariables false
set_option linter.unusedSimpArgs false
section
namespace Go.Proofs.YtmdnlehoeilmfaaGreatDoor.fnExactDocPlan
open Go.ChangeShapes Go.WideShapes Go.ChangeAt Go.RowKit
set_option linter.unusedVariables false
set_option maxRecDepth 100000
theorem lifted (os : Os) (started : os.Started) (H : Type) (enc : TypeId × Value → H) (F : Stop.Interp) :
  ReturnsInHanded {} Tryz.checked os 7 .any ((OpenSpec.ofChange Rows.fnExactDocPlanSpec).preRow enc Tryz.prog Tryz.f7 Rows.fnExactDocPlanRow.domain false Rows.fnExactDocPlanRow.laid) (((OpenSpec.ofChange Rows.fnExactDocPlanSpec).at F).post enc Tryz.prog Tryz.f7 false true false false) := by
 obtain ⟨places, hx⟩ := reads os enc
 refine returnsInHanded_of_row (C := Tryz.checked) (s := OpenSpec.ofChange Rows.fnExactDocPlanSpec) own started (by kernel_rfl) Tryz.func7
  (witness_row_at (enc := enc) (C := Tryz.checked) false (laidWorld os) #[.agg #[.slice none 0 0, .slice none 0 0, .slice none 0 0, .int .i64 0, .slice none 0 0, .slice none 0 0], .agg #[.int .i64 0, .int .i64 0, .int .i64 0, .int .i64 0, .int .i64 0, .slice none 0 0], .int .i64 0] rfl (hv os) (hr os) (hok os)
   (OpenSpec.preRow_of_cond 8 hx (by kernel_rfl) (fun k hk => by cases hk) (by kernel_rfl) (laid_met os))) ?_
 intro W base args ds gs before hval0 hW0 hcnd _ hsz0 hL _ _
 have hI := tables hL
 have hval : ∀ (j : Nat) t v, Tryz.f7.params[j]? = some t → args[j]? = some v → Value.okWide Tryz.prog W .any base t v := hval0
 have hW : DataW.Whole enc Tryz.prog Tryz.f7.params.toList Rows.fnExactDocPlanSpec.vars false W args.toList ds gs before := hW0
 have hW' := hW
 obtain ⟨p, q, hA0, hV, rfl, hfz, hnd⟩ := hW
 have hA : DataW.TrodAll enc Tryz.prog W 0 (fun _ => true) true Tryz.f7.params.toList args.toList ds p := hA0
 show Calls Tryz.prog 7 args W fun e W' => ∃ v, e = .returned v ∧ Rows.fnExactDocPlanSpec.post enc Tryz.prog Tryz.f7 false true false false W args v W'
 rw [Tryz.params7] at hA hval
 obtain ⟨v0, vs0, d0, ds0, p0, q0, hargs0, rfl, rfl, h0, r0⟩ := trodAll_cons hA
 obtain ⟨v1, vs1, d1, ds1, p1, q1, hargs1, rfl, rfl, h1, r1⟩ := trodAll_cons r0
 obtain ⟨v2, vs2, d2, ds2, p2, q2, ap3, rfl, rfl, h2, r2⟩ := trodAll_cons r1
 obtain ⟨rfl, rfl, rfl⟩ := trodAll_nil r2
 obtain rfl : args = #[v0, v1, v2] := by cases args; simp_all
 obtain ⟨rfl, rfl⟩ := trodVars_none hV
 have ok0 := hval 0 27 v0 rfl rfl
 have k0 := h0
 have lt0 : ∀ x ∈ p0, x.block < W.heap.size := by obtain ⟨m, hm⟩ := k0; exact DataW.trod_lt m _ _ _ hm
 obtain ⟨fuel0, hf0⟩ := h0
 have u0 : ∃ fs, Tryz.prog.underlying 27 = some (.struct fs) := by
  exact ⟨_, Tryz.underlying27⟩
 obtain ⟨fs0, hu0⟩ := u0
 unfold Value.okWide at ok0
 rw [hu0] at ok0
 obtain ⟨cs0, rfl, hcs0, _⟩ := ok0
 have hn0 : Tryz.prog.cellsOf 27 = Go.Ev.Seat.bT.n := by kernel_rfl
 have hin0 := Go.Ev.InL.row Go.Ev.Seat.bT ((Go.Ev.Rq fuel0 hf0).2 Go.Ev.Seat.bT.list an4 (hn0.trans (Go.Ev.Rw.Fg _).symm) (by rw [Go.Ev.Rw.Fg, ← hn0, ← hcs0]; simp [Value.cells]))
 obtain ⟨x0, M0, aR0, am0, hM0⟩ := Go.Ev.aln hin0
 have ok1 := hval 1 60 v1 rfl rfl
 have k1 := h1
 have lt1 : ∀ x ∈ p1, x.block < W.heap.size := by obtain ⟨m, hm⟩ := k1; exact DataW.trod_lt m _ _ _ hm
 obtain ⟨fuel1, hf1⟩ := h1
 have u1 : ∃ fs, Tryz.prog.underlying 60 = some (.struct fs) := by
  exact ⟨_, Tryz.underlying60⟩
 obtain ⟨fs1, hu1⟩ := u1
 unfold Value.okWide at ok1
 rw [hu1] at ok1
 obtain ⟨cs1, rfl, hcs1, _⟩ := ok1
 have hn1 : Tryz.prog.cellsOf 60 = Go.Ev.Seat.dJ.n := by kernel_rfl
 have hin1 := Go.Ev.InL.row Go.Ev.Seat.dJ ((Go.Ev.Rq fuel1 hf1).2 Go.Ev.Seat.dJ.list an5 (hn1.trans (Go.Ev.Rw.Fg _).symm) (by rw [Go.Ev.Rw.Fg, ← hn1, ← hcs1]; simp [Value.cells]))
 obtain ⟨x1, M1, aR1, am1, hM1⟩ := Go.Ev.aln hin1
 have ok2 := hval 2 3 v2 rfl rfl
 have k2 := h2
 have lt2 : ∀ x ∈ p2, x.block < W.heap.size := by obtain ⟨m, hm⟩ := k2; exact DataW.trod_lt m _ _ _ hm
 obtain ⟨fuel2, hf2⟩ := h2
 have hs2 : v2.cells.toList = [v2] := Go.Ev.cells_one amo ok2
 have hin2 := (Go.Ev.Rq fuel2 hf2).1 (.int .i64) amo
 rw [hs2] at hin2
 obtain ⟨x2, M2, aR2, aq4, hM2⟩ := Go.Ev.amJ hin2
 have hcall := Go.Ev.law_true (I := Go.Ev.Seat.I) (Go.Ev.Seat.aiL (⟨fun _ => ByteArray.empty⟩)) hI (Go.Ev.Uz aR0 (Go.Ev.Uz aR1 (Go.Ev.Uz aR2 Go.Ev.alo))) (fun b hb => (List.mem_append.1 hb).elim (hM0 b) (fun hb => (List.mem_append.1 hb).elim (hM1 b) (fun hb => (List.mem_append.1 hb).elim (hM2 b) (fun hb => absurd hb List.not_mem_nil)))) ⟨[], fun K => Go.Ev.Seat.ahf (⟨fun _ => ByteArray.empty⟩) x0 x1 x2 K am0 am1⟩
 refine Calls.mono hcall fun e W' ⟨he, bel⟩ => ?_
 subst he
 exact ⟨_, rfl, _, _, _, [], _, [], hW', trodAll_mk1 (shut_bool Tryz.underlying4 _), (trodAll_cons_mk (Below.trod laidOut (by kernel_rfl) (of_decide_eq_true (by kernel_rfl)) k0 bel lt0) (trodAll_cons_mk (Below.trod laidOut (by kernel_rfl) (of_decide_eq_true (by kernel_rfl)) k1 bel lt1) (trodAll_cons_mk (Below.trod laidOut (by kernel_rfl) (of_decide_eq_true (by kernel_rfl)) k2 bel lt2) trodAll_mk0))), rfl, bel.frame _, fun h => by cases h⟩
end Go.Proofs.YtmdnlehoeilmfaaGreatDoor.fnExactDocPlan
end
