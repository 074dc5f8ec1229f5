/- A table of types, checked by reckoning. -/
import Derived.Test.YtfgnddgckhpbiaaEvPure
set_option linter.unusedVariables false
namespace Go.Ev
open Go.RowKit

inductive Tr where
  | leaf
  | node (k : Nat) (v : Ty) (l r : Tr)
def Tr.get : Tr → Nat → Option Ty
  | .leaf, _ => none
  | .node k v l r, t => bif Nat.beq t k then some v else bif Nat.blt t k then l.get t else r.get t
def Tr.all (p : Nat → Ty → Bool) : Tr → Bool
  | .leaf => true
  | .node k v l r => p k v && l.all p && r.all p
theorem Tr.all_get {p : Nat → Ty → Bool} {ty : Ty} : ∀ {T : Tr} {t : Nat}, T.all p = true → T.get t = some ty → p t ty = true
  | .leaf, t, _, h => by simp [Tr.get] at h
  | .node k v l r, t, ha, h => by
    simp only [Tr.all, Bool.and_eq_true] at ha
    simp only [Tr.get] at h
    cases e : Nat.beq t k with
    | true =>
      rw [e] at h
      have := Nat.eq_of_beq_eq_true e
      subst this
      cases h
      exact ha.1.1
    | false =>
      rw [e] at h
      cases e2 : Nat.blt t k with
      | true => rw [e2] at h; exact Tr.all_get ha.1.2 h
      | false => rw [e2] at h; exact Tr.all_get ha.2 h

/-- Is it this zero? -/
def zOne : V → Value → Bool
  | .s (.int k n), .int k' n' => decide (k = k') && decide (n = n')
  | .s (.bool b), .bool b' => b == b'
  | .s (.string b), .string b' => b.toList.isEmpty && b'.toList.isEmpty && b.data.toList.isEmpty && b'.data.toList.isEmpty
  | .nl, .slice none 0 0 => true
  | .x, _ => true
  | _, _ => false
def zAll : List V → List Value → Bool
  | [], [] => true
  | u :: us, v :: vs => zOne u v && zAll us vs
  | _, _ => false
theorem bytes_nil {b : ByteArray} (h : b.data.toList.isEmpty = true) : b = ByteArray.empty := by
  obtain ⟨d⟩ := b
  have : d.toList = [] := by simpa using h
  have : d = #[] := by simpa using this
  subst this; rfl
theorem zOne_ok (C : Cx) (w : World) {u : V} {v : Value} (h : zOne u v = true) : VR C w u v := by
  unfold zOne at h
  split at h
  · simp only [Bool.and_eq_true, decide_eq_true_eq] at h
    obtain ⟨rfl, rfl⟩ := h
    exact ⟨rfl, rfl⟩
  · simp only [beq_iff_eq] at h
    subst h
    exact ⟨rfl, rfl⟩
  · simp only [Bool.and_eq_true] at h
    rw [bytes_nil h.2, bytes_nil h.1.2]
    exact ⟨rfl, rfl⟩
  · rfl
  · trivial
  · cases h
theorem zAll_ok (C : Cx) (w : World) : ∀ {us : List V} {vs : List Value}, zAll us vs = true → VsR C w us vs
  | [], [], _ => rfl
  | u :: us, v :: vs, h => by
    simp only [zAll, Bool.and_eq_true] at h
    exact ⟨v, vs, rfl, zOne_ok C w h.1, zAll_ok C w h.2⟩
  | [], _ :: _, h => by simp [zAll] at h
  | _ :: _, [], h => by simp [zAll] at h
def zCc : Cc → Value → Bool
  | .int k, .int k' n => decide (k' = k) && decide (n = 0)
  | .bool, .bool b => !b
  | .str, .string b => b.data.toList.isEmpty
  | .sl _, .slice none 0 0 => true
  | _, _ => false
def zRw : Rw → List Value → Bool
  | .one c, [v] => zCc c v
  | .cons c r, v :: vs => zCc c v && zRw r vs
  | _, _ => false
theorem zCc_ok (w : World) (e : Bool) : (c : Cc) → {v : Value} → zCc c v = true → CcR w e c c.dflt v []
  | .int k, v, h => by
    cases v <;> simp [zCc] at h
    obtain ⟨rfl, rfl⟩ := h
    exact ⟨rfl, rfl⟩
  | .bool, v, h => by
    cases v <;> simp [zCc] at h
    subst h; exact ⟨rfl, rfl⟩
  | .str, v, h => by
    cases v <;> try (simp [zCc] at h; done)
    simp only [zCc] at h
    rw [bytes_nil h]; exact ⟨rfl, rfl⟩
  | .sl r, v, h => by
    unfold zCc at h
    split at h <;> first | cases h | skip
    all_goals first | (rename_i hh; cases hh; done) | skip
    exact .inl ⟨rfl, rfl, none, 0, rfl, fun _ => ⟨rfl, rfl⟩⟩
theorem zRw_ok (w : World) (e : Bool) : (r : Rw) → {vs : List Value} → zRw r vs = true → RwR w e r r.dflt vs []
  | .one c, [v], h => ⟨v, rfl, zCc_ok w e c h⟩
  | .one c, [], h => by simp [zRw] at h
  | .one c, _ :: _ :: _, h => by simp [zRw] at h
  | .cons c r, [], h => by simp [zRw] at h
  | .cons c r, v :: vs, h => by
    simp only [zRw, Bool.and_eq_true] at h
    exact ⟨v, vs, [], [], rfl, rfl, zCc_ok w e c h.1, zRw_ok w e r h.2⟩

def fsB (P : Program) (N : Nat) : List Field → List (Nat × Nat × Bool) → Bool
  | [], [] => true
  | f :: fs, (off, n, g) :: rest => Nat.beq f.offset off && (match P.info? f.type with
      | some j => Nat.beq j.size n
      | none => false) && !(Nat.beq n 0) && Nat.ble (off + n) N && (match P.underlying f.type with
      | some d => g == isAggD d
      | none => false) && fsB P N fs rest
  | _, _ => false
theorem fsB_ok {P : Program} {N : Nat} : ∀ {fs : List Field} {gs : List (Nat × Nat × Bool)}, fsB P N fs gs = true → fs.length = gs.length ∧ ∀ (i off n : Nat) (g : Bool), gs[i]? = some (off, n, g) →
    ∃ f j d, fs[i]? = some f ∧ f.offset = off ∧ P.info? f.type = some j ∧ j.size = n ∧ n ≠ 0 ∧ off + n ≤ N ∧ P.underlying f.type = some d ∧ g = isAggD d
  | [], [], _ => ⟨rfl, fun i off n g h => by simp at h⟩
  | f :: fs, (off, n, g) :: rest, h => by
    simp only [fsB, Bool.and_eq_true] at h
    obtain ⟨⟨⟨⟨⟨h1, h2⟩, h3⟩, h4⟩, h5⟩, h6⟩ := h
    obtain ⟨k1, k2⟩ := fsB_ok h6
    refine ⟨by simp [k1], fun i off' n' g' hi => ?_⟩
    cases i with
    | zero =>
      simp at hi
      obtain ⟨rfl, rfl, rfl⟩ := hi
      split at h2
      · rename_i j hj
        split at h5
        · rename_i d hd
          refine ⟨f, j, d, rfl, Nat.eq_of_beq_eq_true h1, hj, Nat.eq_of_beq_eq_true h2, fun e => ?_, Nat.le_of_ble_eq_true h4, hd, by simpa using h5⟩
          rw [e] at h3; simp at h3
        · cases h5
      · cases h2
    | succ i => simp at hi; simpa using k2 i off' n' g' hi
  | [], _ :: _, h => by simp [fsB] at h
  | _ :: _, [], h => by simp [fsB] at h

def dsB (P : Program) (ty : Ty) : Ds → TypeDesc → Bool
  | .st, .struct fields => fsB P ty.n fields.toList ty.fs
  | .sl, .slice e => match P.info? e with
    | some j => Nat.beq j.size ty.row.n && Nat.beq j.bytes ty.bytes && (match j.zero with
      | some z => Nat.beq z.cells.size ty.row.n && zRw ty.row z.cells.toList
      | none => false)
    | none => false
  | .int k, .int k' => decide (k' = k)
  | .bool, .bool => true
  | .str, .string => true
  | .other, _ => true
  | _, _ => false
def tyB (P : Program) (t : Nat) (ty : Ty) : Bool :=
  (match P.underlying t with
    | some d => dsB P ty ty.ds d && (ty.agg == isAggD d)
    | none => false) &&
  (match P.info? t with
    | some i => Nat.beq i.size ty.n && (match i.zero with
      | some z => Nat.beq z.cells.size ty.n && zAll ty.zero z.cells.toList
      | none => false)
    | none => false)
theorem dsB_ok {P : Program} {ty : Ty} {s : Ds} {d : TypeDesc} (h : dsB P ty s d = true) : DsOk P ty s d := by
  unfold dsB at h
  split at h
  · rename_i fields
    obtain ⟨h1, h2⟩ := fsB_ok h
    refine ⟨by rw [← h1]; simp, fun i off n g hi => ?_⟩
    obtain ⟨f, j, d, k1, k2⟩ := h2 i off n g hi
    exact ⟨f, j, d, by simpa using k1, k2⟩
  · rename_i e
    split at h
    · rename_i j hj
      simp only [Bool.and_eq_true] at h
      obtain ⟨⟨h1, h2⟩, h3⟩ := h
      split at h3
      · rename_i z hz
        simp only [Bool.and_eq_true] at h3
        exact ⟨j, z, hj, Nat.eq_of_beq_eq_true h1, Nat.eq_of_beq_eq_true h2, hz, Nat.eq_of_beq_eq_true h3.1, fun w e => zRw_ok w e _ h3.2⟩
      · cases h3
    · cases h
  · simp only [DsOk]; simpa using h
  · trivial
  · trivial
  · simp [DsOk]
  · cases h
theorem tyB_ok {P : Program} {t : Nat} {ty : Ty} (h : tyB P t ty = true) : TyOk P t ty := by
  unfold tyB at h
  simp only [Bool.and_eq_true] at h
  obtain ⟨h1, h2⟩ := h
  split at h1
  · rename_i d hd
    split at h2
    · rename_i i hi
      simp only [Bool.and_eq_true] at h1 h2
      obtain ⟨h2, h3⟩ := h2
      split at h3
      · rename_i z hz
        simp only [Bool.and_eq_true] at h3
        exact ⟨⟨d, hd, dsB_ok h1.1, by simpa using h1.2⟩, ⟨i, z, hi, Nat.eq_of_beq_eq_true h2, hz, fun C w => zAll_ok C w h3.2, Nat.eq_of_beq_eq_true h3.1⟩⟩
      · cases h3
    · cases h2
  · cases h1
theorem tys_ok {P : Program} {T : Tr} (h : T.all (tyB P) = true) : TysOk P T.get := fun t ty ht => tyB_ok (Tr.all_get h ht)
end Go.Ev
