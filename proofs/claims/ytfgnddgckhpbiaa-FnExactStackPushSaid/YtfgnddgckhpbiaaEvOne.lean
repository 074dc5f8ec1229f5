/- An argument of one cell. -/
import Derived.Test.YtfgnddgckhpbiaaEvKind
import GoSem.ClaimWide
set_option linter.unusedVariables false
namespace Go.Ev
theorem cells_one {P : Program} {W : World} {r : Reach} {base : Nat} {c : Cc} {t : TypeId} {v : Value} (h : CcOk P c t) (ok : Value.okWide P W r base t v) : v.cells.toList = [v] := by
  cases v with
  | agg cs =>
    exfalso
    unfold Value.okWide at ok
    cases c with
    | int k => simp only [CcOk] at h; rw [h] at ok; simp [Cell.okWide, Cell.ok, h] at ok
    | bool => simp only [CcOk] at h; rw [h] at ok; simp [Cell.okWide, Cell.ok, h] at ok
    | str => simp only [CcOk] at h; rw [h] at ok; simp [Cell.okWide, Cell.ok, h] at ok
    | sl r => obtain ⟨e, h, _⟩ := h; rw [h] at ok; simp [Cell.okWide, Cell.ok, h] at ok
  | _ => rfl
end Go.Ev
