/- What the evaluator's values stand for in memory. -/
import Derived.Test.YtfgnddgckhpbiaaEvCore
import Derived.Laws.Sem
set_option linter.unusedVariables false
namespace Go.Ev
open Go.RowKit

theorem Obs.get_put (ob : Obs) (k j : Nat) (e : E) : (ob.put k e).get j = if j = k then e else ob.get j := by
  induction ob with
  | nil => 
    simp only [Obs.put, Obs.get]
    by_cases h : j = k
    · subst h; simp [Nat.beq_refl]
    · have : k.beq j = false := by rw [Bool.eq_false_iff]; intro h'; exact h (Nat.eq_of_beq_eq_true h').symm
      simp [this, h]
  | cons p ob ih =>
    obtain ⟨i, f⟩ := p
    simp only [Obs.put]
    by_cases h1 : i.beq k = true
    · have e1 := Nat.eq_of_beq_eq_true h1
      subst e1
      simp only [h1, cond_true, Obs.get]
      by_cases h : j = i
      · subst h; simp [Nat.beq_refl]
      · have : i.beq j = false := by rw [Bool.eq_false_iff]; intro h'; exact h (Nat.eq_of_beq_eq_true h').symm
        simp [this, h]
    · have h1' : i.beq k = false := (Bool.not_eq_true _).mp h1
      simp only [h1', cond_false]
      by_cases h2 : k.blt i = true
      · simp only [h2, cond_true, Obs.get]
        by_cases h : j = k
        · subst h; simp [Nat.beq_refl]
        · have : k.beq j = false := by rw [Bool.eq_false_iff]; intro h'; exact h (Nat.eq_of_beq_eq_true h').symm
          simp [this, h]
      · have h2' : k.blt i = false := (Bool.not_eq_true _).mp h2
        simp only [h2', cond_false, Obs.get]
        by_cases h : i.beq j = true
        · have e1 := Nat.eq_of_beq_eq_true h
          subst e1
          have : ¬ i = k := fun h' => by subst h'; simp at h1'
          simp [this]
        · have h' : i.beq j = false := (Bool.not_eq_true _).mp h
          simp only [h', cond_false, ih]
theorem Obs.get_del (ob : Obs) (k j : Nat) : (ob.del k).get j = if j = k then .no else ob.get j := by
  induction ob with
  | nil => simp [Obs.del, Obs.get]
  | cons p ob ih =>
    obtain ⟨i, f⟩ := p
    simp only [Obs.del]
    by_cases h1 : i.beq k = true
    · have e1 := Nat.eq_of_beq_eq_true h1
      subst e1
      simp only [h1, cond_true, ih, Obs.get]
      by_cases h : j = i
      · simp [h]
      · have : i.beq j = false := by rw [Bool.eq_false_iff]; intro h'; exact h (Nat.eq_of_beq_eq_true h').symm
        simp [this, h]
    · have h1' : i.beq k = false := (Bool.not_eq_true _).mp h1
      simp only [h1', cond_false, Obs.get]
      by_cases h : i.beq j = true
      · have e1 := Nat.eq_of_beq_eq_true h
        subst e1
        have : ¬ i = k := fun h' => by subst h'; simp at h1'
        simp [this]
      · have h' : i.beq j = false := (Bool.not_eq_true _).mp h
        simp only [h', cond_false, ih]

/-! ### Data in memory -/
def RowsR {δ : Type} (R : δ → List Value → List Nat → Prop) (w : World) (n b : Nat) : List δ → Nat → List Nat → Prop
  | [], _, F => F = []
  | x :: xs, o, F => ∃ vs F1 F2, F = F1 ++ F2 ∧ vs.length = n ∧ (∀ j v, vs[j]? = some v → w.cell? ⟨b, o + j, none⟩ = some v) ∧ R x vs F1 ∧ RowsR R w n b xs (o + n) F2
/-- A slice value shows these data; F: the blocks that are met. e = false: it may be written, too, up to its capacity. -/
def SlT {δ : Type} (R : δ → List Value → List Nat → Prop) (w : World) (e : Bool) (n : Nat) (xs : List δ) (v : Value) (F : List Nat) : Prop :=
  (xs = [] ∧ F = [] ∧ ∃ a cap, v = .slice a 0 cap ∧ (e = false → a = none ∧ cap = 0)) ∨
  ∃ b o cap F', v = .slice (some ⟨b, o, none⟩) xs.length cap ∧ xs.length ≤ cap ∧ F = b :: F' ∧ b < w.heap.size ∧
    (e = false → ∃ c ty, w.heap[b]? = some (.cells c ty (0, 0)) ∧ o + cap * n ≤ c.size) ∧ RowsR R w n b xs o F'
mutual
def CcR (w : World) (e : Bool) : (c : Cc) → c.T → Value → List Nat → Prop
  | .int k, n, v, F => v = .int k n ∧ F = []
  | .bool, b, v, F => v = .bool b ∧ F = []
  | .str, s, v, F => v = .string s ∧ F = []
  | .sl r, xs, v, F => SlT (RwR w e r) w e r.n xs v F
def RwR (w : World) (e : Bool) : (r : Rw) → r.T → List Value → List Nat → Prop
  | .one c, d, vs, F => ∃ v, vs = [v] ∧ CcR w e c d v F
  | .cons c r, d, vs, F => ∃ v vs' F1 F2, vs = v :: vs' ∧ F = F1 ++ F2 ∧ CcR w e c d.1 v F1 ∧ RwR w e r d.2 vs' F2
end

theorem RowsR.imp {δ : Type} {R R' : δ → List Value → List Nat → Prop} {w w' : World} {n b : Nat} (hw : w'.heap[b]? = w.heap[b]?) :
    ∀ {xs : List δ} {o : Nat} {F : List Nat}, RowsR R w n b xs o F → (∀ x vs F', (∀ k ∈ F', k ∈ F) → R x vs F' → R' x vs F') → RowsR R' w' n b xs o F
  | [], _, _, h, _ => h
  | x :: xs, o, F, ⟨vs, F1, F2, hF, hn, hc, hR, hr⟩, hi =>
    ⟨vs, F1, F2, hF, hn, fun j v hj => (World.cell?_of_block (w := w) (a := ⟨b, o + j, none⟩) hw).trans (hc j v hj), hi _ _ _ (fun k hk => by rw [hF]; simp [hk]) hR,
      RowsR.imp hw hr (fun x vs F' hk => hi x vs F' (fun k h => by rw [hF]; simp [hk k h]))⟩
theorem SlT.imp {δ : Type} {R R' : δ → List Value → List Nat → Prop} {w w' : World} {e e' : Bool} {n : Nat} {xs : List δ} {v : Value} {F : List Nat}
    (h : SlT R w e n xs v F) (he : e' = false → e = false) (hb : ∀ b ∈ F, w'.heap[b]? = w.heap[b]?) (hi : ∀ x vs F', (∀ k ∈ F', k ∈ F) → R x vs F' → R' x vs F') : SlT R' w' e' n xs v F := by
  rcases h with ⟨h1, h2, a, cap, h3, h4⟩ | ⟨b, o, cap, F', h1, h2, h3, h4, h5, h6⟩
  · exact .inl ⟨h1, h2, a, cap, h3, fun h => h4 (he h)⟩
  · have hbb := hb b (by rw [h3]; simp)
    refine .inr ⟨b, o, cap, F', h1, h2, h3, ?_, fun h => by rw [hbb]; exact h5 (he h), h6.imp hbb (fun x vs F1 hk => hi x vs F1 (fun k h => by rw [h3]; simp [hk k h]))⟩
    have e1 : w.heap[b]? ≠ none := by simp [h4]
    rw [← hbb] at e1
    simpa using e1
mutual
theorem CcR.imp {w w' : World} {e e' : Bool} (he : e' = false → e = false) : (c : Cc) → {d : c.T} → {v : Value} → {F : List Nat} → CcR w e c d v F → (∀ b ∈ F, w'.heap[b]? = w.heap[b]?) → CcR w' e' c d v F
  | .int _, _, _, _, h, _ => h
  | .bool, _, _, _, h, _ => h
  | .str, _, _, _, h, _ => h
  | .sl r, _, _, _, h, hb => SlT.imp (R' := RwR w' e' r) h he hb (fun _ _ _ hk hR => RwR.imp he r hR (fun b h => hb b (hk b h)))
theorem RwR.imp {w w' : World} {e e' : Bool} (he : e' = false → e = false) : (r : Rw) → {d : r.T} → {vs : List Value} → {F : List Nat} → RwR w e r d vs F → (∀ b ∈ F, w'.heap[b]? = w.heap[b]?) → RwR w' e' r d vs F
  | .one c, _, _, _, ⟨v, h1, h2⟩, hb => ⟨v, h1, CcR.imp he c h2 hb⟩
  | .cons c r, _, _, _, ⟨v, vs', F1, F2, h1, h2, h3, h4⟩, hb => ⟨v, vs', F1, F2, h1, h2, CcR.imp he c h3 (fun b h => hb b (by rw [h2]; simp [h])), RwR.imp he r h4 (fun b h => hb b (by rw [h2]; simp [h]))⟩
end

/-! ### Values of a frame -/
inductive Pl where
  | box (b : Nat)
  | arr (v : Value) (n : Nat)
structure Cx where
  φ : Nat → Option Pl
  U : Nat → Prop
  N : Nat → Prop
  hs : Nat → Option (Nat → Nat → Value)   -- of an array that is owned alone: the values in its slice cells

mutual
def VR (C : Cx) (w : World) : V → Value → Prop
  | .s u, c => c = u ∧ u.oneCell' = true
  | .a cs, c => ∃ vs, c = .agg ⟨vs⟩ ∧ VsR C w cs vs
  | .t cs, c => ∃ vs, c = .tuple ⟨vs⟩ ∧ VsR C w cs vs
  | .nl, c => c = .slice none 0 0
  | .l _ r xs, c => ∃ F, CcR w true (.sl r) xs c F ∧ ∀ b ∈ F, C.N b
  | .w k, c => C.U k ∧ c.oneCell' = true ∧ ∀ cv n, C.φ k = some (.arr cv n) → c = cv
  | .r k off len, c => C.U k ∧ c.oneCell' = true ∧ ∀ cv n, C.φ k = some (.arr cv n) → ∃ a L cap cap', cv = .slice a L cap ∧ off + len ≤ L ∧
      ∃ a', c = .slice a' len cap' ∧ (len ≠ 0 → ∃ b o, a = some ⟨b, o, none⟩ ∧ a' = some ⟨b, o + off * n, none⟩ ∧ cap' = cap - off)
  | .pb k j, c => C.U k ∧ c.oneCell' = true ∧ ∀ b, C.φ k = some (.box b) → c = .pointer (some ⟨b, j, none⟩)
  | .pa k i j, c => C.U k ∧ c.oneCell' = true ∧ ∀ cv n, C.φ k = some (.arr cv n) → ∃ b o L cap, cv = .slice (some ⟨b, o, none⟩) L cap ∧ i < L ∧ c = .pointer (some ⟨b, o + i * n + j, none⟩)
  | .q r d j, c => ∃ b o vs F, c = .pointer (some ⟨b, o + j, none⟩) ∧ C.N b ∧ vs.length = r.n ∧ (∀ j v, vs[j]? = some v → w.cell? ⟨b, o + j, none⟩ = some v) ∧ RwR w true r d vs F ∧ ∀ b ∈ F, C.N b
  | .qb cs j, c => ∃ b vs ty, c = .pointer (some ⟨b, j, none⟩) ∧ C.N b ∧ w.heap[b]? = some (.cells ⟨vs⟩ ty (0, 0)) ∧ VsR C w cs vs
  | .sb k i j, c => C.U k ∧ c.oneCell' = true ∧ ∀ f, C.hs k = some f → c = f i j
  | .f g caps, c => ∃ vs, c = .func (.func g) #[] ⟨vs⟩ ∧ VsR C w caps vs
  | .io _, _ => False
  | .x, _ => True
def VsR (C : Cx) (w : World) : List V → List Value → Prop
  | [], vs => vs = []
  | u :: us, vs => ∃ v vs', vs = v :: vs' ∧ VR C w u v ∧ VsR C w us vs'
end

/-- The world has changed, but not where it is read; more numbers are in use; fewer places are known. -/
structure Cx.Le (C : Cx) (w : World) (C' : Cx) (w' : World) : Prop where
  φ : ∀ k p, C.U k → C'.φ k = some p → C.φ k = some p
  U : ∀ k, C.U k → C'.U k
  N : ∀ b, C.N b → C'.N b
  w : ∀ b, C.N b → w'.heap[b]? = w.heap[b]?
  hs : ∀ k f, C.U k → C'.hs k = some f → C.hs k = some f
theorem Cx.Le.refl (C : Cx) (w : World) : C.Le w C w := ⟨fun _ _ _ h => h, fun _ h => h, fun _ h => h, fun _ _ => rfl, fun _ _ _ h => h⟩
theorem Cx.Le.trans {C C' C'' : Cx} {w w' w'' : World} (h : C.Le w C' w') (h' : C'.Le w' C'' w'') : C.Le w C'' w'' :=
  ⟨fun k p hu hp => h.φ k p hu (h'.φ k p (h.U k hu) hp), fun k hk => h'.U k (h.U k hk), fun b hb => h'.N b (h.N b hb), fun b hb => (h'.w b (h.N b hb)).trans (h.w b hb), fun k f hu hp => h.hs k f hu (h'.hs k f (h.U k hu) hp)⟩
mutual
theorem VR.le {C C' : Cx} {w w' : World} (hl : C.Le w C' w') : (u : V) → {c : Value} → VR C w u c → VR C' w' u c
  | .s _, _, h => h
  | .a cs, _, ⟨vs, h1, h2⟩ => ⟨vs, h1, VsR.le hl cs h2⟩
  | .t cs, _, ⟨vs, h1, h2⟩ => ⟨vs, h1, VsR.le hl cs h2⟩
  | .nl, _, h => h
  | .l _ r xs, _, ⟨F, h1, h2⟩ => ⟨F, CcR.imp (fun h => h) (.sl r) h1 (fun b hb => hl.w b (h2 b hb)), fun b hb => hl.N b (h2 b hb)⟩
  | .w k, _, ⟨h1, h0, h2⟩ => ⟨hl.U k h1, h0, fun cv n h => h2 cv n (hl.φ k _ h1 h)⟩
  | .r k off len, _, ⟨h1, h0, h2⟩ => ⟨hl.U k h1, h0, fun cv n h => h2 cv n (hl.φ k _ h1 h)⟩
  | .pb k j, _, ⟨h1, h0, h2⟩ => ⟨hl.U k h1, h0, fun b h => h2 b (hl.φ k _ h1 h)⟩
  | .pa k i j, _, ⟨h1, h0, h2⟩ => ⟨hl.U k h1, h0, fun cv n h => h2 cv n (hl.φ k _ h1 h)⟩
  | .q r d j, _, ⟨b, o, vs, F, h1, h2, h3, h4, h5, h6⟩ => ⟨b, o, vs, F, h1, hl.N b h2, h3,
      fun j v hj => (World.cell?_of_block (w := w) (a := ⟨b, o + j, none⟩) (hl.w b h2)).trans (h4 j v hj), RwR.imp (fun h => h) r h5 (fun b hb => hl.w b (h6 b hb)), fun b hb => hl.N b (h6 b hb)⟩
  | .qb cs j, _, ⟨b, vs, ty, h1, h2, h3, h4⟩ => ⟨b, vs, ty, h1, hl.N b h2, (hl.w b h2).trans h3, VsR.le hl cs h4⟩
  | .sb k i j, _, ⟨h1, h2, h3⟩ => ⟨hl.U k h1, h2, fun f h => h3 f (hl.hs k f h1 h)⟩
  | .f g caps, _, ⟨vs, h1, h2⟩ => ⟨vs, h1, VsR.le hl caps h2⟩
  | .io _, _, h => h
  | .x, _, _ => trivial
theorem VsR.le {C C' : Cx} {w w' : World} (hl : C.Le w C' w') : (us : List V) → {vs : List Value} → VsR C w us vs → VsR C' w' us vs
  | [], _, h => h
  | u :: us, _, ⟨v, vs', h1, h2, h3⟩ => ⟨v, vs', h1, VR.le hl u h2, VsR.le hl us h3⟩
end

end Go.Ev
