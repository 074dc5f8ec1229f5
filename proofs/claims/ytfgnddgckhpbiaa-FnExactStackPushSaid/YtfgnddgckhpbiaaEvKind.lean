/- Kinds of types that come in, checked by reckoning. -/
import Derived.Test.YtfgnddgckhpbiaaEvRow
set_option linter.unusedVariables false
namespace Go.Ev
open Go.RowKit
mutual
def ccB (P : Program) : Cc → TypeId → Bool
  | .int k, t => match P.underlying t with
    | some (.int k') => decide (k' = k)
    | _ => false
  | .bool, t => match P.underlying t with
    | some .bool => true
    | _ => false
  | .str, t => match P.underlying t with
    | some .string => true
    | _ => false
  | .sl r, t => match P.underlying t with
    | some (.slice e) => Nat.beq (P.cellsOf e) r.n && rwB P r e
    | _ => false
def rwB (P : Program) : Rw → TypeId → Bool
  | .one c, e => ccB P c e
  | .cons c r, e => match P.underlying e with
    | some (.struct fs) => match fs.toList with
      | f :: rest => Nat.beq f.offset 0 && Nat.beq (P.cellsOf f.type) 1 && ccB P c f.type && fsKB P r 1 rest
      | [] => false
    | _ => false
def fsKB (P : Program) : Rw → Nat → List Field → Bool
  | .one c, i, fs => match fs with
    | [f] => Nat.beq f.offset i && Nat.beq (P.cellsOf f.type) 1 && ccB P c f.type
    | _ => false
  | .cons c r, i, fs => match fs with
    | f :: rest => Nat.beq f.offset i && Nat.beq (P.cellsOf f.type) 1 && ccB P c f.type && fsKB P r (i + 1) rest
    | [] => false
end
mutual
theorem ccB_ok {P : Program} : (c : Cc) → {t : TypeId} → ccB P c t = true → CcOk P c t
  | .int k, t, h => by
    simp only [ccB] at h
    split at h
    · rename_i k' hu
      have := of_decide_eq_true h
      subst this
      exact hu
    · cases h
  | .bool, t, h => by
    simp only [ccB] at h
    split at h
    · rename_i hu; exact hu
    · cases h
  | .str, t, h => by
    simp only [ccB] at h
    split at h
    · rename_i hu; exact hu
    · cases h
  | .sl r, t, h => by
    simp only [ccB] at h
    split at h
    · rename_i e hu
      simp only [Bool.and_eq_true] at h
      exact ⟨e, hu, Nat.eq_of_beq_eq_true h.1, rwB_ok r h.2⟩
    · cases h
theorem rwB_ok {P : Program} : (r : Rw) → {t : TypeId} → rwB P r t = true → RwOk P r t
  | .one c, t, h => by
    simp only [rwB] at h
    exact ccB_ok c h
  | .cons c r, t, h => by
    simp only [rwB] at h
    split at h
    · rename_i fs hu
      split at h
      · rename_i f rest hfs
        simp only [Bool.and_eq_true] at h
        exact ⟨fs, f, rest, hu, hfs, Nat.eq_of_beq_eq_true h.1.1.1, Nat.eq_of_beq_eq_true h.1.1.2, ccB_ok c h.1.2, fsKB_ok r h.2⟩
      · cases h
    · cases h
theorem fsKB_ok {P : Program} : (r : Rw) → {i : Nat} → {fs : List Field} → fsKB P r i fs = true → FsK P r i fs
  | .one c, i, fs, h => by
    simp only [fsKB] at h
    split at h
    · rename_i f
      simp only [Bool.and_eq_true] at h
      exact ⟨f, rfl, Nat.eq_of_beq_eq_true h.1.1, Nat.eq_of_beq_eq_true h.1.2, ccB_ok c h.2⟩
    · cases h
  | .cons c r, i, fs, h => by
    simp only [fsKB] at h
    split at h
    · rename_i f rest
      simp only [Bool.and_eq_true] at h
      exact ⟨f, rest, rfl, Nat.eq_of_beq_eq_true h.1.1.1, Nat.eq_of_beq_eq_true h.1.1.2, ccB_ok c h.1.2, fsKB_ok r h.2⟩
    · cases h
end
end Go.Ev
