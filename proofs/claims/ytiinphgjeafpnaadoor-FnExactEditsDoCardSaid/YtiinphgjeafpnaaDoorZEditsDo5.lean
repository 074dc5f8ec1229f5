/- EditsDo: parts RowEditsDo, packed by squash.py. -/
import Derived.Test.YtiinphgjeafpnaaDoorRows
import Derived.WalkKit
import Derived.ProofKit
import Derived.OpenShut
import Derived.ShutString
import Derived.ChangeOld
import Derived.Below
import Derived.SizedLaws
import Derived.Test.YtiinphgjeafpnaaDoorCards
import Derived.Test.YtiinphgjeafpnaaDoorTie
import Derived.Deep.DeepHandedRow
import Derived.Lib.LaidTab
import Derived.Test.YtiinphgjeafpnaaDoorZEditsDo0
import Derived.Test.YtiinphgjeafpnaaDoorZEditsDo1
import Derived.Test.YtiinphgjeafpnaaDoorZEditsDo2
import Derived.Test.YtiinphgjeafpnaaDoorZEditsDo3
import Derived.Test.YtiinphgjeafpnaaDoorZEditsDo4
set_option linter.unusedVariables false
set_option linter.unusedSimpArgs false
/- The row of FnExactEditsDo: the law answers true, whatever the input. Printed by rowlaw.py. -/
namespace Go.Proofs.YtiinphgjeafpnaaDoor.fnExactEditsDo
open Go.ChangeShapes Go.WideShapes Go.ChangeAt Go.RowKit
set_option linter.unusedVariables false
set_option maxRecDepth 100000
theorem own : ownKnob Tryd.prog.godebug = none := by kernel_rfl
theorem laidOut : laidOutB Tryd.prog = true := by kernel_rfl
theorem celOk0 : Go.Ev.CcOk Tryd.prog (.sl Go.Ev.Seat.bytesR) 22 := Go.Ev.ccB_ok _ (by kernel_rfl)
theorem celOk1 : Go.Ev.CcOk Tryd.prog (.sl Go.Ev.Seat.editR) 66 := Go.Ev.ccB_ok _ (by kernel_rfl)
/-- A world for the witness: the tables hold what their initialisers lay. -/
noncomputable def laidWorld (os : Os) : World :=
  { World.holding Tryd.prog os ⟨#[], #[], []⟩ with heap := Go.Ev.layUtf (World.holding Tryd.prog os ⟨#[], #[], []⟩).heap }
theorem laid_met (os : Os) : laidMet Tryd.prog Rows.fnExactEditsDoRow.laid ((laidWorld os).forCall (fun _ _ => 0) ⟨#[], #[.slice none 0 0, .slice none 0 0], []⟩).memory :=
  laidMet_of_run' 8 (by kernel_rfl) (by kernel_rfl)
theorem reads (os : Os) {H : Type} (enc : TypeId × Value → H) : ∃ places, DataW.whole enc Tryd.prog ((laidWorld os).forCall (fun _ _ => 0) ⟨#[], #[.slice none 0 0, .slice none 0 0], []⟩).memory Tryd.f8.params.toList Rows.fnExactEditsDoSpec.vars false #[.slice none 0 0, .slice none 0 0].toList 8 = some ([.nil, .nil], [], places) :=
  ⟨[], by kernel_rfl⟩
theorem tables {W : World} (h : laidMetH Tryd.prog Rows.fnExactEditsDoRow.laid W) : Go.Ev.Seat.I W.heap.size W :=
  Go.Ev.globI_utfB h (by kernel_rfl) (by kernel_rfl) 196 199 5 198 (by kernel_rfl) (by kernel_rfl) (by kernel_rfl)
theorem lifted (os : Os) (started : os.Started) (H : Type) (enc : TypeId × Value → H) (F : Stop.Interp) :
    ReturnsInHanded {} Tryd.checked os 8 .any ((OpenSpec.ofChange Rows.fnExactEditsDoSpec).preRow enc Tryd.prog Tryd.f8 Rows.fnExactEditsDoRow.domain false Rows.fnExactEditsDoRow.laid) (((OpenSpec.ofChange Rows.fnExactEditsDoSpec).at F).post enc Tryd.prog Tryd.f8 false true false false) := by
  obtain ⟨places, hx⟩ := reads os enc
  refine returnsInHanded_of_row (C := Tryd.checked) (s := OpenSpec.ofChange Rows.fnExactEditsDoSpec) own started (by kernel_rfl) Tryd.func8
    (witness_row_at (enc := enc) (C := Tryd.checked) false (laidWorld os) #[.slice none 0 0, .slice none 0 0] rfl (by kernel_rfl) (by kernel_rfl) (by kernel_rfl)
      (OpenSpec.preRow_of_cond 8 hx (by kernel_rfl) (fun k hk => by cases hk) (by kernel_rfl) (laid_met os))) ?_
  intro W base args ds gs before hval0 hW0 hcnd _ hsz0 hL _ _
  have hI := tables hL
  have hval : ∀ (j : Nat) t v, Tryd.f8.params[j]? = some t → args[j]? = some v → Value.okWide Tryd.prog W .any base t v := hval0
  have hW : DataW.Whole enc Tryd.prog Tryd.f8.params.toList Rows.fnExactEditsDoSpec.vars false W args.toList ds gs before := hW0
  have hW' := hW
  obtain ⟨p, q, hA0, hV, rfl, hfz, hnd⟩ := hW
  have hA : DataW.TrodAll enc Tryd.prog W 0 (fun _ => true) true Tryd.f8.params.toList args.toList ds p := hA0
  show Calls Tryd.prog 8 args W fun e W' => ∃ v, e = .returned v ∧ Rows.fnExactEditsDoSpec.post enc Tryd.prog Tryd.f8 false true false false W args v W'
  rw [Tryd.params8] at hA hval
  obtain ⟨v0, vs0, d0, ds0, p0, q0, hargs0, rfl, rfl, h0, r0⟩ := trodAll_cons hA
  obtain ⟨v1, vs1, d1, ds1, p1, q1, hargs1, rfl, rfl, h1, r1⟩ := trodAll_cons r0
  obtain ⟨rfl, rfl, rfl⟩ := trodAll_nil r1
  obtain rfl : args = #[v0, v1] := by cases args; simp_all
  obtain ⟨rfl, rfl⟩ := trodVars_none hV
  have ok0 := hval 0 22 v0 rfl rfl
  have k0 := h0
  have lt0 : ∀ x ∈ p0, x.block < W.heap.size := by obtain ⟨m, hm⟩ := k0; exact DataW.trod_lt m _ _ _ hm
  obtain ⟨fuel0, hf0⟩ := h0
  have hs0 : v0.cells.toList = [v0] := Go.Ev.cells_one celOk0 ok0
  have hin0 := (Go.Ev.trod_in fuel0 hf0).1 (.sl Go.Ev.Seat.bytesR) celOk0
  rw [hs0] at hin0
  obtain ⟨x0, M0, aR0, hwf0, hM0⟩ := Go.Ev.arg_one hin0
  have ok1 := hval 1 66 v1 rfl rfl
  have k1 := h1
  have lt1 : ∀ x ∈ p1, x.block < W.heap.size := by obtain ⟨m, hm⟩ := k1; exact DataW.trod_lt m _ _ _ hm
  obtain ⟨fuel1, hf1⟩ := h1
  have hs1 : v1.cells.toList = [v1] := Go.Ev.cells_one celOk1 ok1
  have hin1 := (Go.Ev.trod_in fuel1 hf1).1 (.sl Go.Ev.Seat.editR) celOk1
  rw [hs1] at hin1
  obtain ⟨x1, M1, aR1, hwf1, hM1⟩ := Go.Ev.arg_one hin1
  have hcall := Go.Ev.law_true (I := Go.Ev.Seat.I) (Go.Ev.Seat.ok_EditsDo (⟨fun _ => ByteArray.empty⟩)) hI (Go.Ev.args_cons aR0 (Go.Ev.args_cons aR1 Go.Ev.args_nil)) (fun b hb => (List.mem_append.1 hb).elim (hM0 b) (fun hb => (List.mem_append.1 hb).elim (hM1 b) (fun hb => absurd hb List.not_mem_nil))) ⟨[], fun K => Go.Ev.Seat.law_EditsDo _ x0 x1 K hwf0 hwf1⟩
  refine Calls.mono hcall fun e W' ⟨he, bel⟩ => ?_
  subst he
  exact ⟨_, rfl, _, _, _, [], _, [], hW', trodAll_mk1 (shut_bool Tryd.underlying4 _), (trodAll_cons_mk (Below.trod laidOut (by kernel_rfl) (of_decide_eq_true (by kernel_rfl)) k0 bel lt0) (trodAll_cons_mk (Below.trod laidOut (by kernel_rfl) (of_decide_eq_true (by kernel_rfl)) k1 bel lt1) trodAll_mk0)), rfl, bel.frame _, fun h => by cases h⟩
theorem over : Rows.FnExactEditsDoSaid :=
  OpenClaim.holds_of_cond 8 Tryd.f8 rfl rfl rfl rfl rfl rfl rfl ⟨rfl, rfl, rfl, rfl, rfl⟩ rfl rfl rfl rfl rfl (by kernel_rfl) Tryd.func8 (by kernel_rfl)
    (of_decide_eq_true (by kernel_rfl)) (by unfold Func.isWrapper; first | (rw [if_pos (by decide +kernel)]; kernel_rfl) | (rw [if_neg (by decide +kernel)]; exact ⟨rfl, rfl⟩))
    (fun os started H enc _ F => by rw [OpenClaim.pre_eq_preRow]; exact lifted os started H enc F)
theorem plain (f : FuncId) (fn : Func) (hf : Tryd.pinned.checked.prog.funcNamed Rows.fnExactEditsDoRow.func = some f) (hfn : Tryd.pinned.checked.prog.funcs[f]? = some fn) :
    false = Tryd.pinned.checked.prog.looks [] ∧ ∀ (j : Nat) t, fn.params[j]? = some t → Tryd.pinned.checked.prog.wantsStandIn t = false := by
  obtain rfl : f = 8 := Option.some.inj ((show Tryd.prog.funcNamed Rows.fnExactEditsDoRow.func = some 8 by kernel_rfl).symm.trans hf) |>.symm
  obtain rfl : fn = Tryd.f8 := (Option.some.inj (Tryd.func8.symm.trans hfn)).symm
  refine ⟨by kernel_rfl, fun j t ht => ?_⟩
  rw [Tryd.params8] at ht
  have hm : t = 22 ∨ t = 66 := by simpa using Array.mem_of_getElem? ht
  rcases hm with rfl | rfl
  · exact (show Tryd.prog.wantsStandIn 22 = false by kernel_rfl)
  · exact (show Tryd.prog.wantsStandIn 66 = false by kernel_rfl)
/-- The card. -/
theorem card : Rows.FnExactEditsDoCardSaid :=
  Claim7.holds_tied_plain_at .later [] _ _ _ _ over (fun _ h => by cases h) (by kernel_rfl) (fun _ h => by cases h) fnExactEditsDo_row_tie rfl ⟨rfl, rfl⟩ (by kernel_rfl) rfl plain (by kernel_rfl)
end Go.Proofs.YtiinphgjeafpnaaDoor.fnExactEditsDo
namespace Go.Proofs.YtiinphgjeafpnaaDoor
/-- The card, under a short name, for the claim. -/
theorem fnExactEditsDo_holds : Rows.FnExactEditsDoCardSaid := fnExactEditsDo.card
end Go.Proofs.YtiinphgjeafpnaaDoor
#print axioms Go.Proofs.YtiinphgjeafpnaaDoor.fnExactEditsDo_holds
