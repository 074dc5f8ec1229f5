/- ReqParse: parts RowReqParse, packed by squash.py. -/
import Derived.Test.YtiinphgjeafpnaaDoorRows
import Derived.WalkKit
import Derived.ProofKit
import Derived.OpenShut
import Derived.ShutString
import Derived.ChangeOld
import Derived.Below
import Derived.SizedLaws
import Derived.Test.YtiinphgjeafpnaaDoorCards
import Derived.Test.YtiinphgjeafpnaaDoorTie
import Derived.Deep.DeepHandedRow
import Derived.Lib.LaidTab
import Derived.Test.YtiinphgjeafpnaaDoorZReqParse0
import Derived.Test.YtiinphgjeafpnaaDoorZReqParse1
import Derived.Test.YtiinphgjeafpnaaDoorZReqParse2
import Derived.Test.YtiinphgjeafpnaaDoorZReqParse3
import Derived.Test.YtiinphgjeafpnaaDoorZReqParse4
import Derived.Test.YtiinphgjeafpnaaDoorZReqParse5
import Derived.Test.YtiinphgjeafpnaaDoorZReqParse6
set_option linter.unusedVariables false
set_option linter.unusedSimpArgs false
/- The row of FnExactReqParse: the law answers true, whatever the input. Printed by rowlaw.py, second half. -/
namespace Go.Proofs.YtiinphgjeafpnaaDoor.fnExactReqParse
open Go.ChangeShapes Go.WideShapes Go.ChangeAt Go.RowKit
set_option linter.unusedVariables false
set_option maxRecDepth 100000
theorem lifted (os : Os) (started : os.Started) (H : Type) (enc : TypeId × Value → H) (F : Stop.Interp) :
    ReturnsInHanded {} Tryd.checked os 5 .any ((OpenSpec.ofChange Rows.fnExactReqParseSpec).preRow enc Tryd.prog Tryd.f5 Rows.fnExactReqParseRow.domain false Rows.fnExactReqParseRow.laid) (((OpenSpec.ofChange Rows.fnExactReqParseSpec).at F).post enc Tryd.prog Tryd.f5 false true false false) := by
  obtain ⟨places, hx⟩ := reads os enc
  refine returnsInHanded_of_row (C := Tryd.checked) (s := OpenSpec.ofChange Rows.fnExactReqParseSpec) own started (by kernel_rfl) Tryd.func5
    (witness_row_at (enc := enc) (C := Tryd.checked) false (laidWorld os) #[.slice none 0 0] rfl (hv os) (hr os) (hok os)
      (OpenSpec.preRow_of_cond 8 hx (by kernel_rfl) (fun k hk => by cases hk) (by kernel_rfl) (laid_met os))) ?_
  intro W base args ds gs before hval0 hW0 hcnd _ hsz0 hL _ _
  have hI := tables hL
  have hval : ∀ (j : Nat) t v, Tryd.f5.params[j]? = some t → args[j]? = some v → Value.okWide Tryd.prog W .any base t v := hval0
  have hW : DataW.Whole enc Tryd.prog Tryd.f5.params.toList Rows.fnExactReqParseSpec.vars false W args.toList ds gs before := hW0
  have hW' := hW
  obtain ⟨p, q, hA0, hV, rfl, hfz, hnd⟩ := hW
  have hA : DataW.TrodAll enc Tryd.prog W 0 (fun _ => true) true Tryd.f5.params.toList args.toList ds p := hA0
  show Calls Tryd.prog 5 args W fun e W' => ∃ v, e = .returned v ∧ Rows.fnExactReqParseSpec.post enc Tryd.prog Tryd.f5 false true false false W args v W'
  rw [Tryd.params5] at hA hval
  obtain ⟨v0, vs0, d0, ds0, p0, q0, hargs0, rfl, rfl, h0, r0⟩ := trodAll_cons hA
  obtain ⟨rfl, rfl, rfl⟩ := trodAll_nil r0
  obtain rfl : args = #[v0] := by cases args; simp_all
  obtain ⟨rfl, rfl⟩ := trodVars_none hV
  have ok0 := hval 0 22 v0 rfl rfl
  have k0 := h0
  have lt0 : ∀ x ∈ p0, x.block < W.heap.size := by obtain ⟨m, hm⟩ := k0; exact DataW.trod_lt m _ _ _ hm
  obtain ⟨fuel0, hf0⟩ := h0
  have hs0 : v0.cells.toList = [v0] := Go.Ev.cells_one celOk0 ok0
  have hin0 := (Go.Ev.trod_in fuel0 hf0).1 (.sl Go.Ev.Seat.bytesR) celOk0
  rw [hs0] at hin0
  obtain ⟨x0, M0, aR0, hwf0, hM0⟩ := Go.Ev.arg_one hin0
  have hcall := Go.Ev.law_true (I := Go.Ev.Seat.I) (Go.Ev.Seat.ok_ReqParse (⟨fun _ => ByteArray.empty⟩)) hI (Go.Ev.args_cons aR0 Go.Ev.args_nil) (fun b hb => (List.mem_append.1 hb).elim (hM0 b) (fun hb => absurd hb List.not_mem_nil)) ⟨[], fun K => Go.Ev.Seat.law_ReqParse _ x0 K hwf0⟩
  refine Calls.mono hcall fun e W' ⟨he, bel⟩ => ?_
  subst he
  exact ⟨_, rfl, _, _, _, [], _, [], hW', trodAll_mk1 (shut_bool Tryd.underlying4 _), (trodAll_cons_mk (Below.trod laidOut (by kernel_rfl) (of_decide_eq_true (by kernel_rfl)) k0 bel lt0) trodAll_mk0), rfl, bel.frame _, fun h => by cases h⟩
theorem over : Rows.FnExactReqParseSaid :=
  OpenClaim.holds_of_cond 5 Tryd.f5 rfl rfl rfl rfl rfl rfl rfl ⟨rfl, rfl, rfl, rfl, rfl⟩ rfl rfl rfl rfl rfl (by kernel_rfl) Tryd.func5 (by kernel_rfl)
    (of_decide_eq_true (by kernel_rfl)) (by unfold Func.isWrapper; first | (rw [if_pos (by decide +kernel)]; kernel_rfl) | (rw [if_neg (by decide +kernel)]; exact ⟨rfl, rfl⟩))
    (fun os started H enc _ F => by rw [OpenClaim.pre_eq_preRow]; exact lifted os started H enc F)
theorem plain (f : FuncId) (fn : Func) (hf : Tryd.pinned.checked.prog.funcNamed Rows.fnExactReqParseRow.func = some f) (hfn : Tryd.pinned.checked.prog.funcs[f]? = some fn) :
    false = Tryd.pinned.checked.prog.looks [] ∧ ∀ (j : Nat) t, fn.params[j]? = some t → Tryd.pinned.checked.prog.wantsStandIn t = false := by
  obtain rfl : f = 5 := Option.some.inj ((show Tryd.prog.funcNamed Rows.fnExactReqParseRow.func = some 5 by kernel_rfl).symm.trans hf) |>.symm
  obtain rfl : fn = Tryd.f5 := (Option.some.inj (Tryd.func5.symm.trans hfn)).symm
  refine ⟨by kernel_rfl, fun j t ht => ?_⟩
  rw [Tryd.params5] at ht
  have hm : t = 22 := by simpa using Array.mem_of_getElem? ht
  rcases hm with rfl
  · exact (show Tryd.prog.wantsStandIn 22 = false by kernel_rfl)
/-- The card. -/
theorem card : Rows.FnExactReqParseCardSaid :=
  Claim7.holds_tied_plain_at .later [] _ _ _ _ over (fun _ h => by cases h) (by kernel_rfl) (fun _ h => by cases h) fnExactReqParse_row_tie rfl ⟨rfl, rfl⟩ (by kernel_rfl) rfl plain (by kernel_rfl)
end Go.Proofs.YtiinphgjeafpnaaDoor.fnExactReqParse
namespace Go.Proofs.YtiinphgjeafpnaaDoor
/-- The card, under a short name, for the claim. -/
theorem fnExactReqParse_holds : Rows.FnExactReqParseCardSaid := fnExactReqParse.card
end Go.Proofs.YtiinphgjeafpnaaDoor
#print axioms Go.Proofs.YtiinphgjeafpnaaDoor.fnExactReqParse_holds
