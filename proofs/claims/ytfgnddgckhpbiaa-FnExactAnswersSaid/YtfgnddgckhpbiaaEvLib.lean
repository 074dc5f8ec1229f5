/- What the functions' texts share. -/
import Derived.Test.YtfgnddgckhpbiaaEvSeat
import Derived.Test.YtfgnddgckhpbiaaEvNames
import Derived.Test.YtfgnddgckhpbiaaEvShape
namespace Go.Ev
set_option linter.unusedVariables false
/-- A loop's summary out of a shape. -/
def loopF (sh : Ss) (R : sh.T → (Ex → St → Option Ret) → Option Ret) (σ : St) (K : Ex → St → Option Ret) : Option Ret :=
  match sh.un σ with
  | none => none
  | some d => R d K
theorem loopF_ok {Γ : Env} {c : Code} {n : Nat} {sh : Ss} {R : sh.T → (Ex → St → Option Ret) → Option Ret} (hn : firstRegion c = some n) (hs : Γ.sum n = some (loopF sh R)) {li lo : List Nat} (hh : Γ.hint n = (li, lo)) (h : ∀ d K r, R d K = some r → ∃ m, rounds (run Γ c) li lo m (sh.mk' d) K = some r) : LoopOk Γ c := by
  intro n' F hn' hF σ K r hr
  rw [hn] at hn'
  cases hn'
  rw [hs] at hF
  cases hF
  unfold loopF at hr
  split at hr
  · cases hr
  · rename_i d hd
    rw [Ss.un_mk hd, hh]
    exact h d K r hr
abbrev LoopFn := St → (Ex → St → Option Ret) → Option Ret
/-- The loops of a function: number, what lives at the head, at the exit, the summary. -/
def sumOf : List (Nat × List Nat × List Nat × LoopFn) → Nat → Option LoopFn
  | [], _ => none
  | (k, _, _, F) :: l, n => bif Nat.beq n k then some F else sumOf l n
def hintOf : List (Nat × List Nat × List Nat × LoopFn) → Nat → List Nat × List Nat
  | [], _ => ([], [])
  | (k, a, b, _) :: l, n => bif Nat.beq n k then (a, b) else hintOf l n
def planOf : List (Nat × Plan × List Nat) → Nat → Option (Plan × List Nat)
  | [], _ => none
  | (k, p, t) :: l, n => bif Nat.beq n k then some (p, t) else planOf l n
def memN (l : List Nat) (n : Nat) : Bool := l.any (Nat.beq n)
def xsh : Nat → ShL
  | 0 => .nil
  | n + 1 => .cons .x (xsh n)
def xd : (n : Nat) → (xsh n).T
  | 0 => ()
  | n + 1 => ((), xd n)
def loopOf : Code → Option Code
  | .loop c => some c
  | .seq a b => match loopOf a with
    | some c => some c
    | none => loopOf b
  | .cond _ a b => match loopOf a with
    | some c => some c
    | none => loopOf b
  | .block _ c => loopOf c
  | _ => none
/-- The loop's body whose first region is n. -/
def bodyOf (f : Func) (n : Nat) : Code :=
  ((loopsIn (f.body.getD .skip)).find? (fun c => match firstRegion c with
    | some m => Nat.beq m n
    | none => false)).getD .skip
theorem wrap_id {n : Int} (h0 : 0 ≤ n) (h1 : n ≤ 4611686018427387905) : IntKind.i64.wrap n = n := by
  have : IntKind.i64.wrap n = Go.RowKit.wrap64 n := by
    simp only [IntKind.wrap, IntKind.bits, IntKind.signed, Go.RowKit.wrap64, Bool.true_and]
    split <;> simp_all <;> omega
  rw [this]; unfold Go.RowKit.wrap64; omega
theorem wrap_in {n : Int} (h0 : -9223372036854775808 ≤ n) (h1 : n ≤ 9223372036854775807) : IntKind.i64.wrap n = n := by
  have : IntKind.i64.wrap n = Go.RowKit.wrap64 n := by
    simp only [IntKind.wrap, IntKind.bits, IntKind.signed, Go.RowKit.wrap64, Bool.true_and]
    split <;> simp_all <;> omega
  rw [this]; unfold Go.RowKit.wrap64; omega
def takes : List Nat → Plan
  | [] => .done
  | i :: l => .take i (takes l)
def takeB : List Nat → Plan → Plan
  | [], p => p
  | i :: l, p => .take i (takeB l p)
/-- Nothing is asked of the world at the start. -/
def I0 : Nat → World → Prop := fun _ _ => True
section
variable {P : Program} {I : Nat → World → Prop}
theorem mem0 : ∀ q ∈ ([] : List (Nat × Bool × Sm)), OkFn P I q.1 q.2.1 q.2.2 := fun _ h => nomatch h
theorem memc {g : Nat} {b : Bool} {G : Sm} {l : List (Nat × Bool × Sm)} (h : OkFn P I g b G) (hl : ∀ q ∈ l, OkFn P I q.1 q.2.1 q.2.2) : ∀ q ∈ (g, b, G) :: l, OkFn P I q.1 q.2.1 q.2.2 := fun q hq => by
  rcases List.mem_cons.1 hq with rfl | hq
  · exact h
  · exact hl q hq
/-- All loops of a function, one after the other. -/
def LoopsAll (Γ : Env) (cs : List Code) : Prop := ∀ b ∈ cs, LoopOk Γ b
theorem loops0 {Γ : Env} : LoopsAll Γ [] := fun _ h => nomatch h
theorem loopsc {Γ : Env} {c : Code} {cs : List Code} (h : LoopOk Γ c) (hl : LoopsAll Γ cs) : LoopsAll Γ (c :: cs) := fun q hq => by
  rcases List.mem_cons.1 hq with rfl | hq
  · exact h
  · exact hl q hq
end
/-- A table of types, contracts, plans and loops. -/
def mkE (ty : Nat → Option Ty) (l : List (Nat × Bool × Sm)) (p : List (Nat × Plan × List Nat) := []) (ls : List (Nat × List Nat × List Nat × LoopFn) := []) (lend : List Nat := []) (focus : Bool := false) (fuel : Nat := 0) : Env :=
  { ty := ty, fn := tab l, hint := hintOf ls, plan := planOf p, sum := sumOf ls, lend := memN lend, focus := focus, fuel := fuel }
end Go.Ev
namespace Go.Ev.Seat
open Go.RowKit
set_option maxRecDepth 100000
set_option linter.unusedVariables false
noncomputable abbrev prog := Go.Proofs.Try.prog
noncomputable abbrev En (l : List (Nat × Bool × Sm)) (p : List (Nat × Plan × List Nat) := []) (ls : List (Nat × List Nat × List Nat × LoopFn) := []) (lend : List Nat := []) (focus : Bool := false) (fuel : Nat := 0) : Env := mkE tys.get l p ls lend focus fuel
/-- A function keeps its contract. -/
theorem ok_fn {I : Nat → World → Prop} {l : List (Nat × Bool × Sm)} {p : List (Nat × Plan × List Nat)} {ls : List (Nat × List Nat × List Nat × LoopFn)} {lend : List Nat} {focus : Bool} {fuel : Nat} (hl : ∀ q ∈ l, OkFn prog I q.1 q.2.1 q.2.2) {g : FuncId} {fn : Func} (hg : prog.funcs[g]? = some fn) (hname : (fn.name == "runtime.NumGoroutine") = false) (hb : fn.body = some (fn.body.getD .skip)) (hpl : plansOk (planOf p) (fn.body.getD .skip) = true) {cs : List Code} (hcs : loopsIn (fn.body.getD .skip) = cs) (hlo : LoopsAll (En l p ls lend focus fuel) cs) {fresh : Bool} : OkFn prog I g fresh (evF (En l p ls lend focus fuel) fresh fn) :=
  evF_ok (Γ := En l p ls lend focus fuel) mixed tysOk (fun g fresh G h => tab_ok hl g fresh G h) hg hname hb hpl (loopsOk_of _ (by rw [hcs]; exact hlo))
def bytesR : Rw := .one (.int .u8)
def eqL (a b : List Int) : Bool := decide (a = b)
end Go.Ev.Seat
