/- What the functions' texts share. -/
import Derived.Test.YtfgnddgckhpbiaaEvSeat
import Derived.Test.YtfgnddgckhpbiaaEvShape
namespace Go.Ev.Seat
open Go.RowKit
set_option maxRecDepth 100000
set_option linter.unusedVariables false
def bytesR : Rw := .one (.int .u8)
def xsh : Nat → ShL
  | 0 => .nil
  | n + 1 => .cons .x (xsh n)
def loopOf : Code → Option Code
  | .loop c => some c
  | .seq a b => match loopOf a with
    | some c => some c
    | none => loopOf b
  | .cond _ a b => match loopOf a with
    | some c => some c
    | none => loopOf b
  | .block _ c => loopOf c
  | _ => none
theorem wrap_id {n : Int} (h0 : 0 ≤ n) (h1 : n ≤ 4611686018427387905) : IntKind.i64.wrap n = n := by
  have : IntKind.i64.wrap n = Go.RowKit.wrap64 n := by
    simp only [IntKind.wrap, IntKind.bits, IntKind.signed, Go.RowKit.wrap64, Bool.true_and]
    split <;> simp_all <;> omega
  rw [this]; unfold Go.RowKit.wrap64; omega
def xd : (n : Nat) → (xsh n).T
  | 0 => ()
  | n + 1 => ((), xd n)
def takes : List Nat → Plan
  | [] => .done
  | i :: l => .take i (takes l)
def eqL (a b : List Int) : Bool := decide (a = b)
theorem ok_plain {Γ : Env} (hty : Γ.ty = tys.get) (hΓ : FnsOk Go.Proofs.Try.prog Γ) {g : FuncId} {fn : Func} (hg : Go.Proofs.Try.prog.funcs[g]? = some fn) (hname : (fn.name == "runtime.NumGoroutine") = false) (hb : fn.body = some (fn.body.getD .skip)) (hpl : plansOk Γ.plan (fn.body.getD .skip) = true) (hl : loopsIn (fn.body.getD .skip) = []) {fresh : Bool} : OkFn Go.Proofs.Try.prog g fresh (evF Γ fresh fn) :=
  evF_ok mixed (by rw [hty]; exact tysOk) hΓ hg hname hb hpl (loopsOk_of _ (fun b hb' => by rw [hl] at hb'; cases hb'))
end Go.Ev.Seat
