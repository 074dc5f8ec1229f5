/- The evaluator's operations that look at no memory: they yield what the machine yields. -/
import Derived.Test.YtfgnddgckhpbiaaEvRel
import Derived.Laws.Cells
import Derived.Laws.Entries
set_option linter.unusedVariables false
namespace Go.Ev
open Go.RowKit

def isAggD : TypeDesc → Bool
  | .struct _ | .array _ _ => true
  | _ => false
def FsOk (P : Program) (N : Nat) (fs : List (Nat × Nat × Bool)) (fields : Array Field) : Prop :=
  fields.size = fs.length ∧ ∀ (i off n : Nat) (g : Bool), fs[i]? = some (off, n, g) →
    ∃ f j d, fields[i]? = some f ∧ f.offset = off ∧ P.info? f.type = some j ∧ j.size = n ∧ n ≠ 0 ∧ off + n ≤ N ∧ P.underlying f.type = some d ∧ g = isAggD d
def ElOk (P : Program) (ty : Ty) (e : TypeId) : Prop :=
  ∃ j z, P.info? e = some j ∧ j.size = ty.row.n ∧ j.bytes = ty.bytes ∧ j.zero = some z ∧ z.cells.size = ty.row.n ∧ ∀ w e, RwR w e ty.row ty.row.dflt z.cells.toList []
def DsOk (P : Program) (ty : Ty) : Ds → TypeDesc → Prop
  | .st, .struct fields => FsOk P ty.n ty.fs fields
  | .sl, .slice e => ElOk P ty e
  | .int k, .int k' => k' = k
  | .bool, .bool => True
  | .str, .string => True
  | .other, d => True
  | _, _ => False
structure TyOk (P : Program) (t : Nat) (ty : Ty) : Prop where
  und : ∃ d, P.underlying t = some d ∧ DsOk P ty ty.ds d ∧ ty.agg = isAggD d
  info : ∃ i z, P.info? t = some i ∧ i.size = ty.n ∧ i.zero = some z ∧ (∀ C w, VsR C w ty.zero z.cells.toList) ∧ z.cells.size = ty.n
def TysOk (P : Program) (T : Nat → Option Ty) : Prop := ∀ t ty, T t = some ty → TyOk P t ty

section
variable {P : Program}
theorem rt_info {t : TypeId} {i : TypeInfo} (h : P.info? t = some i) (w : World) : (typeInfo t).run P w = .ok i w := by simp [typeInfo, h]
theorem rt_size {t : TypeId} {i : TypeInfo} (h : P.info? t = some i) (w : World) : (sizeOf t).run P w = .ok i.size w := by simp [sizeOf, rt_info h]
theorem rt_zero {t : TypeId} {i : TypeInfo} {z : Value} (h : P.info? t = some i) (hz : i.zero = some z) (w : World) : (zeroValue t).run P w = .ok z w := by simp [zeroValue, rt_info h, hz]
theorem rt_agg {t : TypeId} {d : TypeDesc} (h : P.underlying t = some d) (w : World) : (isAgg t).run P w = .ok (isAggD d) w := by
  cases d <;> simp [isAgg, run_underlying h, isAggD]
theorem TyOk.int {t : Nat} {ty : Ty} (h : TyOk P t ty) {k : IntKind} (hk : ty.ds = .int k) : P.underlying t = some (.int k) := by
  obtain ⟨d, h1, h2, _⟩ := h.und
  rw [hk] at h2
  cases d <;> simp only [DsOk] at h2
  rw [h1, h2]
theorem TyOk.bool {t : Nat} {ty : Ty} (h : TyOk P t ty) (hk : ty.bool = true) : P.underlying t = some .bool := by
  obtain ⟨d, h1, h2, _⟩ := h.und
  unfold Ty.bool at hk
  split at hk <;> simp at hk
  rename_i hk'
  rw [hk'] at h2
  cases d <;> simp only [DsOk] at h2
  exact h1
theorem TyOk.str {t : Nat} {ty : Ty} (h : TyOk P t ty) (hk : ty.str = true) : P.underlying t = some .string := by
  obtain ⟨d, h1, h2, _⟩ := h.und
  unfold Ty.str at hk
  split at hk <;> simp at hk
  rename_i hk'
  rw [hk'] at h2
  cases d <;> simp only [DsOk] at h2
  exact h1
theorem TyOk.sl {t : Nat} {ty : Ty} (h : TyOk P t ty) (hk : ty.sl = true) : ∃ e, P.underlying t = some (.slice e) ∧ ElOk P ty e := by
  obtain ⟨d, h1, h2, _⟩ := h.und
  unfold Ty.sl at hk
  split at hk <;> simp at hk
  rename_i hk'
  rw [hk'] at h2
  cases d <;> simp only [DsOk] at h2
  exact ⟨_, h1, h2⟩
theorem TyOk.st {t : Nat} {ty : Ty} (h : TyOk P t ty) (hk : ty.st = true) : ∃ fields, P.underlying t = some (.struct fields) ∧ FsOk P ty.n ty.fs fields := by
  obtain ⟨d, h1, h2, _⟩ := h.und
  unfold Ty.st at hk
  split at hk <;> simp at hk
  rename_i hk'
  rw [hk'] at h2
  cases d <;> simp only [DsOk] at h2
  exact ⟨_, h1, h2⟩
end

/-! ### The state and the act -/
/-- The values in the slice cells of an array's rows. -/
def HsR (w : World) (r : Rw) (xs : List r.T) (cv : Value) (f : Nat → Nat → Value) : Prop :=
  ∀ b o L cap, cv = .slice (some ⟨b, o, none⟩) L cap → ∀ (i j : Nat), i < xs.length → r.slAt j = true → w.cell? ⟨b, o + i * r.n + j, none⟩ = some (f i j)
def ObR (C : Cx) (w : World) (k : Nat) : E → List Nat → Prop
  | .no, O => O = []
  | .box cs, O => ∃ b vs ty, C.φ k = some (.box b) ∧ O = [b] ∧ w.heap[b]? = some (.cells ⟨vs⟩ ty (0, 0)) ∧ VsR C w cs vs
  | .arr mu deep r xs, O => ∃ cv F, C.φ k = some (.arr cv r.n) ∧ SlT (RwR w (!(mu && deep)) r) w (!mu) r.n xs cv F ∧ (∀ b ∈ F.drop 1, C.N b) ∧
      (if mu then (if deep then O = F else O = F.take 1) else O = [] ∧ ∀ b ∈ F, C.N b)
  | .own st r xs, O => ∃ cv, C.φ k = some (.arr cv r.n) ∧ SlT (RwR w false r) w false r.n xs cv O ∧ (st = true → ∃ f, C.hs k = some f ∧ HsR w r xs cv f)
/-- What may be written. -/
def wr : E → List Nat → Nat → Prop
  | .own _ _ _, O, b => b ∈ O
  | e, O, b => e.mu = true ∧ O.head? = some b
theorem wr.mem {e : E} {O : List Nat} {b : Nat} (h : wr e O b) : b ∈ O := by
  cases e <;> first | exact h | exact List.mem_of_mem_head? h.2
theorem wr.mk {e : E} {O : List Nat} {b : Nat} (hm : e.mu = true) (h : O.head? = some b) : wr e O b := by
  cases e <;> first | exact List.mem_of_mem_head? h | exact ⟨hm, h⟩
structure Rel (B0 : Nat) (w0 : World) (σ : St) (a : Act) (w : World) (C : Cx) (L : Nat → List Nat) : Prop where
  below : Below B0 w0 w
  hB0 : B0 ≤ w.heap.size
  defers : a.defers = []
  len : a.tmps.size = σ.tm.length
  tm : ∀ (i : Nat) (v : V), σ.tm[i]? = some v → ∃ c, a.tmps[i]? = some c ∧ VR C w v c
  ob : ∀ k, ObR C w k (σ.obj k) (L k)
  us : ∀ k, C.φ k ≠ none → C.U k
  nd : ∀ k, (L k).Nodup
  dj : ∀ k k', k ≠ k' → ∀ b ∈ L k, b ∉ L k'
  own : ∀ k, ∀ b ∈ L k, B0 ≤ b ∧ b < w.heap.size
  nw : ∀ k b, wr (σ.obj k) (L k) b → ¬ C.N b
  nsz : ∀ b, C.N b → b < w.heap.size
theorem Rel.nm {B0 : Nat} {w0 : World} {σ : St} {a : Act} {w : World} {C : Cx} {L : Nat → List Nat} (h : Rel B0 w0 σ a w C L) (k b : Nat) (hm : (σ.obj k).mu = true) (hb : (L k).head? = some b) : ¬ C.N b := h.nw k b (wr.mk hm hb)

theorem cst_ok (C : Cx) (w : World) (v : Value) : VR C w (cst v) v := by
  unfold cst
  split <;> simp [VR, Value.oneCell']
section
variable {B0 : Nat} {w0 : World} {σ : St} {a : Act} {w : World} {C : Cx} {L : Nat → List Nat}
theorem Rel.ev (h : Rel B0 w0 σ a w C L) (x : Operand) : VR C w (σ.ev x) (a.eval x) := by
  cases x with
  | tmp t =>
    simp only [St.ev, Act.eval]
    rw [List.getD_eq_getElem?_getD]
    cases e : σ.tm[t]? with
    | none => simp [VR]
    | some v =>
      obtain ⟨c, h1, h2⟩ := h.tm t v e
      rw [Array.getD_eq_getD_getElem?, h1]
      exact h2
  | const v => exact cst_ok C w v
  | global g => simp [St.ev, VR]
  | func f => exact ⟨[], rfl, rfl⟩
theorem Rel.put (h : Rel B0 w0 σ a w C L) (d : Option Tmp) {v : V} {c : Value} (hv : VR C w v c) : Rel B0 w0 (σ.put d v) (a.put d c) w C L := by
  cases d with
  | none => exact h
  | some i =>
    refine { h with len := by simp [St.put, Act.put, h.len], tm := ?_ }
    intro j u hj
    simp only [St.put, Act.put] at hj ⊢
    rw [List.getElem?_set] at hj
    rw [Array.getElem?_setIfInBounds]
    by_cases e : i = j
    · subst e
      simp only [if_true] at hj ⊢
      by_cases hl : i < σ.tm.length
      · rw [if_pos hl] at hj
        rw [if_pos (by rw [h.len]; exact hl)]
        obtain rfl := Option.some.inj hj
        exact ⟨c, rfl, hv⟩
      · rw [if_neg hl] at hj; cases hj
    · rw [if_neg e] at hj ⊢
      exact h.tm j u hj
end
theorem VsR.length {C : Cx} {w : World} : {cs : List V} → {vs : List Value} → VsR C w cs vs → cs.length = vs.length
  | [], _, h => by simp only [VsR] at h; subst h; rfl
  | c :: cs, _, ⟨v, vs', h1, _, h3⟩ => by subst h1; simp [VsR.length h3]
theorem VsR.get {C : Cx} {w : World} : {cs : List V} → {vs : List Value} → VsR C w cs vs → ∀ {i : Nat} {u : V}, cs[i]? = some u → ∃ v, vs[i]? = some v ∧ VR C w u v
  | [], _, _, i, u, e => by simp at e
  | c :: cs, _, ⟨v, vs', h1, h2, h3⟩, i, u, e => by
    subst h1
    cases i with
    | zero => simp at e; subst e; exact ⟨v, rfl, h2⟩
    | succ i => simp at e; simpa using VsR.get h3 e
theorem VsR.append {C : Cx} {w : World} : {cs : List V} → {vs : List Value} → VsR C w cs vs → ∀ {cs' vs'}, VsR C w cs' vs' → VsR C w (cs ++ cs') (vs ++ vs')
  | [], _, h, cs', vs', h' => by simp only [VsR] at h; subst h; exact h'
  | c :: cs, _, ⟨v, vs1, h1, h2, h3⟩, _, _, h' => by subst h1; exact ⟨v, _, rfl, h2, VsR.append h3 h'⟩
theorem VsR.take {C : Cx} {w : World} : {cs : List V} → {vs : List Value} → VsR C w cs vs → ∀ n, VsR C w (cs.take n) (vs.take n)
  | [], _, h, n => by simp only [VsR] at h; subst h; simp [VsR]
  | c :: cs, _, ⟨v, vs1, h1, h2, h3⟩, n => by
    subst h1
    cases n with
    | zero => simp [VsR]
    | succ n => exact ⟨v, _, rfl, h2, VsR.take h3 n⟩
theorem VsR.drop {C : Cx} {w : World} : {cs : List V} → {vs : List Value} → VsR C w cs vs → ∀ n, VsR C w (cs.drop n) (vs.drop n)
  | [], _, h, n => by simp only [VsR] at h; subst h; simp [VsR]
  | c :: cs, _, ⟨v, vs1, h1, h2, h3⟩, n => by
    subst h1
    cases n with
    | zero => exact ⟨v, _, rfl, h2, h3⟩
    | succ n => exact VsR.drop h3 n

theorem one_cells {c : Value} (h : c.oneCell' = true) : c.cells.toList = [c] := by
  cases c <;> simp [Value.oneCell', Value.cells] at h ⊢
theorem VR.one {C : Cx} {w : World} {u : V} {c : Value} (h : VR C w u c) (hu : u.one = true) : c.oneCell' = true := by
  cases u with
  | a cs => simp [V.one] at hu
  | x => simp [V.one] at hu
  | s v => obtain ⟨rfl, h2⟩ := h; exact h2
  | t vs => simp [V.one] at hu
  | nl => rw [show c = _ from h]; rfl
  | l o r xs =>
    obtain ⟨F, h1, _⟩ := h
    rcases h1 with ⟨_, _, a, cap, rfl, _⟩ | ⟨b, o, cap, F', rfl, _⟩ <;> rfl
  | w k => exact h.2.1
  | r k off len => exact h.2.1
  | pb k j => exact h.2.1
  | pa k i j => exact h.2.1
  | q r d j => obtain ⟨b, o, vs, F, rfl, _⟩ := h; rfl
  | qb cs j => obtain ⟨b, vs, ty, rfl, _⟩ := h; rfl
  | sb k i j => exact h.2.1
  | f g caps => obtain ⟨vs, rfl, _⟩ := h; rfl
  | io cs => exact h.elim
theorem VsR.one {C : Cx} {w : World} : {cs : List V} → {vs : List Value} → VsR C w cs vs → cs.all V.one = true → ∀ v ∈ vs, v.oneCell' = true
  | [], _, h, _, v, hv => by simp only [VsR] at h; subst h; cases hv
  | c :: cs, _, ⟨v, vs1, h1, h2, h3⟩, ha, u, hu => by
    subst h1
    simp only [List.all_cons, Bool.and_eq_true] at ha
    rcases List.mem_cons.1 hu with rfl | hu
    · exact h2.one ha.1
    · exact VsR.one h3 ha.2 u hu
/-- The cells of a value that may lie in memory. -/
theorem VR.cellsO {C : Cx} {w : World} {u : V} {c : Value} (h : VR C w u c) {us : List V} (hu : u.cellsO = some us) :
    VsR C w us c.cells.toList ∧ ∀ v ∈ c.cells.toList, v.oneCell' = true := by
  unfold V.cellsO at hu
  split at hu
  · rename_i ha
    obtain rfl := Option.some.inj hu
    have key : VsR C w u.cells c.cells.toList := by
      cases u with
      | a cs => obtain ⟨vs, rfl, h2⟩ := h; exact h2
      | x => simp [V.cells, V.one] at ha
      | t vs => simp [V.cells, V.one] at ha
      | io cs => exact h.elim
      | s v => rw [one_cells (h.one rfl)]; exact ⟨_, _, rfl, h, rfl⟩
      | nl => rw [one_cells (h.one rfl)]; exact ⟨_, _, rfl, h, rfl⟩
      | l o r xs => rw [one_cells (h.one rfl)]; exact ⟨_, _, rfl, h, rfl⟩
      | w k => rw [one_cells (h.one rfl)]; exact ⟨_, _, rfl, h, rfl⟩
      | r k off len => rw [one_cells (h.one rfl)]; exact ⟨_, _, rfl, h, rfl⟩
      | pb k j => rw [one_cells (h.one rfl)]; exact ⟨_, _, rfl, h, rfl⟩
      | pa k i j => rw [one_cells (h.one rfl)]; exact ⟨_, _, rfl, h, rfl⟩
      | q r d j => rw [one_cells (h.one rfl)]; exact ⟨_, _, rfl, h, rfl⟩
      | qb cs j => rw [one_cells (h.one rfl)]; exact ⟨_, _, rfl, h, rfl⟩
      | sb k i j => rw [one_cells (h.one rfl)]; exact ⟨_, _, rfl, h, rfl⟩
      | f g caps => rw [one_cells (h.one rfl)]; exact ⟨_, _, rfl, h, rfl⟩
    exact ⟨key, key.one ha⟩
  · cases hu

end Go.Ev
