/- Kinds of types that come in, checked by reckoning. -/
import Derived.Test.YtfgnddgckhpbiaaEvRow
set_option linter.unusedVariables false
namespace Go.Ev
open Go.RowKit
mutual
def ccN (P : Program) : Nat → Cc → TypeId → Bool
  | 0, _, _ => false
  | n + 1, c, t => match c, P.underlying t with
    | .int k, some (.int k') => decide (k' = k)
    | .bool, some .bool => true
    | .str, some .string => true
    | .sl r, some (.slice e) => Nat.beq (P.cellsOf e) r.n && (match layN P n r.list e with
      | some [] => true
      | _ => false)
    | _, _ => false
/-- The cells of a type, taken off a list: what is left. -/
def layN (P : Program) : Nat → List Cc → TypeId → Option (List Cc)
  | 0, _, _ => none
  | n + 1, cs, t => match cs with
    | [] => none
    | c :: rest => bif ccN P n c t then some rest else match P.underlying t with
      | some (.struct fs) => fsN P n (c :: rest) 0 fs.toList
      | _ => none
def fsN (P : Program) : Nat → List Cc → Nat → List Field → Option (List Cc)
  | 0, _, _, _ => none
  | n + 1, cs, i, fs => match fs with
    | [] => some cs
    | f :: rest => bif Nat.beq f.offset i then (match layN P n cs f.type with
      | some cs' => bif Nat.beq (P.cellsOf f.type + cs'.length) cs.length then fsN P n cs' (i + P.cellsOf f.type) rest else none
      | none => none) else none
end
theorem kinds_ok {P : Program} : ∀ (n : Nat), (∀ c t, ccN P n c t = true → CcOk P c t) ∧ (∀ cs t rest, layN P n cs t = some rest → ∃ pre, cs = pre ++ rest ∧ LayOk P pre t) ∧ ∀ cs i fs rest, fsN P n cs i fs = some rest → ∃ pre, cs = pre ++ rest ∧ LayFs P pre i fs
  | 0 => ⟨fun _ _ h => by simp [ccN] at h, fun _ _ _ h => by simp [layN] at h, fun _ _ _ _ h => by simp [fsN] at h⟩
  | n + 1 => by
    obtain ⟨h1, h2, h3⟩ := kinds_ok (P := P) n
    refine ⟨fun c t h => ?_, fun cs t rest h => ?_, fun cs i fs rest h => ?_⟩
    · simp only [ccN] at h
      split at h
      · rename_i k k' hu
        have := of_decide_eq_true h
        subst this
        exact .int hu
      · rename_i hu; exact .bool hu
      · rename_i hu; exact .str hu
      · rename_i r e hu
        simp only [Bool.and_eq_true] at h
        obtain ⟨g1, g2⟩ := h
        split at g2
        · rename_i hl
          obtain ⟨pre, e1, e2⟩ := h2 _ _ _ hl
          rw [List.append_nil] at e1
          exact .sl hu (Nat.eq_of_beq_eq_true g1) (e1 ▸ e2)
        · cases g2
      · cases h
    · simp only [layN] at h
      split at h
      · cases h
      · rename_i c rest'
        cases hc : ccN P n c t with
        | true =>
          rw [hc] at h
          cases h
          exact ⟨[c], rfl, .one (h1 _ _ hc)⟩
        | false =>
          rw [hc] at h
          simp only [cond_false] at h
          split at h
          · rename_i fs hu
            obtain ⟨pre, e1, e2⟩ := h3 _ _ _ _ h
            exact ⟨pre, e1, .st hu e2⟩
          · cases h
    · simp only [fsN] at h
      split at h
      · cases h
        exact ⟨[], rfl, .nil⟩
      · rename_i f rest'
        cases ho : Nat.beq f.offset i with
        | false => rw [ho] at h; cases h
        | true =>
          rw [ho] at h
          simp only [cond_true] at h
          split at h
          · rename_i cs' hl
            obtain ⟨pre, e1, e2⟩ := h2 _ _ _ hl
            cases hb : Nat.beq (P.cellsOf f.type + cs'.length) cs.length with
            | false => rw [hb] at h; cases h
            | true =>
              rw [hb] at h
              simp only [cond_true] at h
              have hlen := Nat.eq_of_beq_eq_true hb
              have hp : P.cellsOf f.type = pre.length := by rw [e1, List.length_append] at hlen; omega
              obtain ⟨pre2, e3, e4⟩ := h3 _ _ _ _ h
              rw [hp] at e4
              refine ⟨pre ++ pre2, by rw [e1, e3, List.append_assoc], .cons (Nat.eq_of_beq_eq_true ho) hp e2 e4⟩
          · cases h
def ccB (P : Program) (c : Cc) (t : TypeId) : Bool := ccN P 100 c t
def rwB (P : Program) (r : Rw) (t : TypeId) : Bool := match layN P 100 r.list t with
  | some [] => true
  | _ => false
theorem ccB_ok {P : Program} (c : Cc) {t : TypeId} (h : ccB P c t = true) : CcOk P c t := (kinds_ok 100).1 c t h
theorem rwB_ok {P : Program} (r : Rw) {t : TypeId} (h : rwB P r t = true) : RwOk P r t := by
  unfold rwB at h
  split at h
  · rename_i hl
    obtain ⟨pre, e1, e2⟩ := (kinds_ok 100).2.1 _ _ _ hl
    rw [List.append_nil] at e1
    show LayOk P r.list t
    rw [e1]; exact e2
  · cases h
end Go.Ev
