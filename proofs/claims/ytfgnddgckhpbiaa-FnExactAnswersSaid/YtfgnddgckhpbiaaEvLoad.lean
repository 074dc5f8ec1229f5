/- What the evaluator loads, the machine loads. -/
import Derived.Test.YtfgnddgckhpbiaaEvPureOps
set_option linter.unusedVariables false
namespace Go.Ev
open Go.RowKit

theorem CcR.vr {C : Cx} {w : World} {e : Bool} : (c : Cc) → {d : c.T} → {v : Value} → {F : List Nat} → CcR w e c d v F → (∀ b ∈ F, C.N b) → VR C w (c.cell .no d) v
  | .int k, _, _, _, ⟨h1, _⟩, _ => ⟨h1, rfl⟩
  | .bool, _, _, _, ⟨h1, _⟩, _ => ⟨h1, rfl⟩
  | .str, _, _, _, ⟨h1, _⟩, _ => ⟨h1, rfl⟩
  | .sl r, d, v, F, h, hN => ⟨F, CcR.imp (e' := true) (fun h => by cases h) (.sl r) h (fun _ _ => rfl), hN⟩
theorem RwR.vs {C : Cx} {w : World} {e : Bool} : (r : Rw) → {d : r.T} → {vs : List Value} → {F : List Nat} → RwR w e r d vs F → (∀ b ∈ F, C.N b) → VsR C w (r.cells .no d) vs
  | .one c, _, _, _, ⟨v, h1, h2⟩, hN => ⟨v, [], h1, CcR.vr c h2 hN, rfl⟩
  | .cons c r, _, _, _, ⟨v, vs', F1, F2, h1, h2, h3, h4⟩, hN => ⟨v, vs', h1, CcR.vr c h3 (fun b hb => hN b (by rw [h2]; simp [hb])), RwR.vs r h4 (fun b hb => hN b (by rw [h2]; simp [hb]))⟩
theorem RwR.len {w : World} {e : Bool} : (r : Rw) → {d : r.T} → {vs : List Value} → {F : List Nat} → RwR w e r d vs F → vs.length = r.n
  | .one c, _, _, _, ⟨v, h1, h2⟩ => by rw [h1]; rfl
  | .cons c r, _, _, _, ⟨v, vs', F1, F2, h1, h2, h3, h4⟩ => by rw [h1]; simp [Rw.n, RwR.len r h4]

/-- Which cells are slices. -/
theorem Rw.cell_at {o : Ow} : (r : Rw) → {d : r.T} → {c : Nat} → {u : V} → (r.cells o d)[c]? = some u → (∀ o' r' xs, u = .l o' r' xs → r.slAt c = true) ∧ c < r.n
  | .one cc, d, c, u, h => by
    cases c with
    | zero =>
      simp only [Rw.cells, List.getElem?_cons_zero, Option.some.injEq] at h
      subst h
      refine ⟨fun o' r' xs hx => ?_, by simp [Rw.n]⟩
      cases cc <;> simp [Cc.cell] at hx
      rfl
    | succ c => simp [Rw.cells] at h
  | .cons cc r, d, c, u, h => by
    cases c with
    | zero =>
      simp only [Rw.cells, List.getElem?_cons_zero, Option.some.injEq] at h
      subst h
      refine ⟨fun o' r' xs hx => ?_, by simp [Rw.n]⟩
      cases cc <;> simp [Cc.cell] at hx
      rfl
    | succ c =>
      simp only [Rw.cells, List.getElem?_cons_succ] at h
      obtain ⟨h1, h2⟩ := Rw.cell_at r h
      exact ⟨fun o' r' xs hx => h1 o' r' xs hx, by simp [Rw.n]; omega⟩
theorem Rw.cell_no {o : Ow} : (r : Rw) → {d : r.T} → {c : Nat} → {o' : Ow} → {r' : Rw} → {ys : List r'.T} → (r.cells o d)[c]? = some (.l o' r' ys) → o' = o
  | .one cc, d, c, o', r', ys, h => by
    cases c with
    | zero =>
      simp only [Rw.cells, List.getElem?_cons_zero, Option.some.injEq] at h
      cases cc <;> simp only [Cc.cell, reduceCtorEq] at h
      injection h with h1 _ _
      exact h1.symm
    | succ c => simp [Rw.cells] at h
  | .cons cc r, d, c, o', r', ys, h => by
    cases c with
    | zero =>
      simp only [Rw.cells, List.getElem?_cons_zero, Option.some.injEq] at h
      cases cc <;> simp only [Cc.cell, reduceCtorEq] at h
      injection h with h1 _ _
      exact h1.symm
    | succ c =>
      simp only [Rw.cells, List.getElem?_cons_succ] at h
      exact Rw.cell_no r h
/-- A scalar cell. -/
theorem RwR.sc {w : World} {e : Bool} : (r : Rw) → {d : r.T} → {vs : List Value} → {F : List Nat} → RwR w e r d vs F → ∀ {c : Nat} {o : Ow} {v : Value}, (r.cells o d)[c]? = some (.s v) → vs[c]? = some v ∧ v.oneCell' = true
  | .one cc, d, vs, F, ⟨u, h1, h2⟩, c, o, v, hc => by
    cases c with
    | zero =>
      simp only [Rw.cells, List.getElem?_cons_zero, Option.some.injEq] at hc
      subst h1
      cases cc <;> simp only [Cc.cell, V.s.injEq, reduceCtorEq] at hc <;> (subst hc; obtain ⟨rfl, _⟩ := h2; exact ⟨rfl, rfl⟩)
    | succ c => simp [Rw.cells] at hc
  | .cons cc r, d, vs, F, ⟨u, vs', F1, F2, h1, h2, h3, h4⟩, c, o, v, hc => by
    subst h1
    cases c with
    | zero =>
      simp only [Rw.cells, List.getElem?_cons_zero, Option.some.injEq] at hc
      cases cc <;> simp only [Cc.cell, V.s.injEq, reduceCtorEq] at hc <;> (subst hc; obtain ⟨rfl, _⟩ := h3; exact ⟨rfl, rfl⟩)
    | succ c =>
      simp only [Rw.cells, List.getElem?_cons_succ] at hc
      exact RwR.sc r h4 hc

section
variable {P : Program} {Γ : Env} {B0 : Nat} {w0 : World} {σ : St} {a : Act} {w : World} {C : Cx} {L : Nat → List Nat}

/-- A load of so many cells that are known. -/
theorem run_load_at {t : TypeId} {ty : Ty} (ht : TyOk P t ty) {b o : Nat} {us : List Value} {w' : World} (hl : us.length = ty.n) (hc : ∀ j v, us[j]? = some v → w'.cell? ⟨b, o + j, none⟩ = some v)
    {cs : List V} (hv : VsR C w cs us) {u : V} (hm : mk ty.agg cs = some u) : ∃ cv, (Instr.loadAt t (.pointer (some ⟨b, o, none⟩))).run P w' = .ok cv w' ∧ VR C w u cv ∧ cv = (if ty.agg then .agg ⟨us⟩ else us.headD undef) := by
  obtain ⟨d, hu, _, hg⟩ := ht.und
  obtain ⟨i, z, hi, hn, _⟩ := ht.info
  unfold mk at hm
  cases e : ty.agg with
  | true =>
    rw [e, if_pos rfl] at hm
    obtain rfl := Option.some.inj hm
    refine ⟨.agg ⟨us⟩, ?_, ⟨us, rfl, hv⟩, by simp⟩
    have h1 := run_loadCells_list (P := P) w' ⟨b, o, none⟩ us (fun j v hj => by rw [add_at]; exact hc j v hj)
    rw [hl] at h1
    simp [Instr.loadAt, Instr.sureAddr, loadVar, rt_agg hu, ← hg, e, rt_size hi, hn, h1]
  | false =>
    rw [e, if_neg (by simp)] at hm
    split at hm
    · rename_i v
      obtain rfl := Option.some.inj hm
      obtain ⟨cv, us', g1, g2, g3⟩ := hv
      simp only [VsR] at g3
      subst g3; subst g1
      refine ⟨cv, ?_, g2, by simp⟩
      have this : w'.cell? ⟨b, o, none⟩ = some cv := hc 0 cv rfl
      simp [Instr.loadAt, Instr.sureAddr, loadVar, rt_agg hu, ← hg, e, this]
    · cases hm

/-- WHAT IS LOADED: out of one block, as long as that block is as it is. -/
theorem ld (hT : TysOk P Γ.ty) (h : Rel B0 w0 σ a w C L) {o : Oper} {v : V} (hp : loadV Γ o σ = some v) :
    ∃ cv b, VR C w v cv ∧ (C.N b ∨ ∃ k, (σ.obj k).mu = true ∧ (L k).head? = some b ∧ ∃ t p, o.op = .load t p ∧ ((∃ c, σ.ev p = .pb k c) ∨ ∃ i c, σ.ev p = .pa k i c)) ∧ ∀ w', w'.heap[b]? = w.heap[b]? → (execOp a.eval o).run P w' = .ok (.value cv) w' := by
  unfold loadV at hp
  split at hp
  · rename_i t p ho
    have hy := h.ev p
    split at hp
    · cases hp
    · rename_i ty ht
      have hk := hT t ty ht
      split at hp
      · rename_i k c ep
        rw [ep] at hy
        split at hp
        · rename_i cs eo
          split at hp
          · rename_i hlen
            obtain ⟨b, vs, ty0, hφ, hL, hb, hcs⟩ := h.box eo
            have ey := hy.2.2 b hφ
            have hl := hcs.length
            have hvs := (hcs.drop c).take ty.n
            have key : ∀ w' : World, w'.heap[b]? = w.heap[b]? → ∀ j v, ((vs.drop c).take ty.n)[j]? = some v → w'.cell? ⟨b, c + j, none⟩ = some v := by
              intro w' hw j v hj
              rw [World.cell?_of_block (w := w) (a := ⟨b, c + j, none⟩) hw]
              rw [List.getElem?_take] at hj
              split at hj
              · rw [List.getElem?_drop] at hj
                simp [World.cell?, hb, hj]
              · cases hj
            obtain ⟨cv, g1, g2, g3⟩ := run_load_at (P := P) hk (b := b) (o := c) (w' := w) (by simp; omega) (key w rfl) hvs hp
            refine ⟨cv, b, g2, .inr ⟨k, by rw [eo]; rfl, by rw [hL]; rfl, t, p, ho, .inl ⟨c, ep⟩⟩, fun w' hw => ?_⟩
            obtain ⟨cv', k1, _, k3⟩ := run_load_at (P := P) hk (b := b) (o := c) (w' := w') (by simp; omega) (key w' hw) hvs hp
            rw [← g3] at k3
            subst k3
            simp only [execOp, ho, ey]
            exact run_v _ k1
          · cases hp
        · cases hp
      · rename_i k i c ep
        rw [ep] at hy
        split at hp
        · rename_i mu deep r xs eo
          split at hp
          · rename_i hlen
            obtain ⟨cv0, F, hφ, hF, hN, hO⟩ := h.arr eo
            obtain ⟨b, x, l, cap, e1, e2, ey⟩ := hy.2.2 cv0 r.n hφ
            rcases hF with ⟨h5, _, ad, cap', h6, _⟩ | ⟨b', x', cap', F', h5, h6, rfl, h7, h8, h9⟩
            · rw [e1] at h6; injection h6 with _ e6 _; omega
            · rw [e1] at h5
              injection h5 with e3 e4 e5
              injection e3 with e3
              injection e3 with e3 e6
              subst e3; subst e4; subst e5; subst e6
              obtain ⟨vs, F1, g1, g2, g3, g4⟩ := h9.get (List.getElem?_eq_getElem e2)
              have hd : xs.getD i r.dflt = xs[i] := by rw [List.getD_eq_getElem?_getD, List.getElem?_eq_getElem e2]; rfl
              rw [hd] at hp
              have hvs := ((RwR.vs (C := C) r g4 (fun b hb => hN b (by simpa using g1 b hb))).drop c).take ty.n
              have key : ∀ w' : World, w'.heap[b]? = w.heap[b]? → ∀ j v, ((vs.drop c).take ty.n)[j]? = some v → w'.cell? ⟨b, x + i * r.n + c + j, none⟩ = some v := by
                intro w' hw j v hj
                rw [World.cell?_of_block (w := w) (a := ⟨b, x + i * r.n + c + j, none⟩) hw]
                rw [List.getElem?_take] at hj
                split at hj
                · rw [List.getElem?_drop] at hj
                  have := g3 _ _ hj
                  rwa [← Nat.add_assoc] at this
                · cases hj
              have hl2 := RwR.len r g4
              obtain ⟨cv, k1, k2, k3⟩ := run_load_at (P := P) hk (b := b) (o := x + i * r.n + c) (w' := w) (by simp; omega) (key w rfl) hvs hp
              refine ⟨cv, b, k2, ?_, fun w' hw => ?_⟩
              · cases mu with
                | true =>
                  refine .inr ⟨k, by rw [eo]; rfl, ?_, t, p, ho, .inr ⟨i, c, ep⟩⟩
                  rw [if_pos rfl] at hO
                  split at hO <;> rw [hO] <;> rfl
                | false =>
                  rw [if_neg (by simp)] at hO
                  exact .inl (hO.2 b (by simp))
              · obtain ⟨cv', q1, _, q3⟩ := run_load_at (P := P) hk (b := b) (o := x + i * r.n + c) (w' := w') (by simp; omega) (key w' hw) hvs hp
                rw [← k3] at q3
                subst q3
                simp only [execOp, ho, ey]
                exact run_v _ q1
          · cases hp
        · rename_i st r xs eo
          split at hp
          · rename_i hn1
            split at hp
            · cases hp
            · rename_i hag
              have hag' : ty.agg = false := by simpa using hag
              obtain ⟨cv0, hφ, hF, hHs⟩ := h.ownd eo
              obtain ⟨b, x, l, cap, e1, e2, ey⟩ := hy.2.2 cv0 r.n hφ
              rcases hF with ⟨h5, _, ad, cap', h6, _⟩ | ⟨b', x', cap', F', h5, h6, hLk, h7, h8, h9⟩
              · rw [e1] at h6; injection h6 with _ e6 _; omega
              · rw [e1] at h5
                injection h5 with e3 e4 e5
                injection e3 with e3
                injection e3 with e3 e6
                subst e3; subst e4; subst e5; subst e6
                obtain ⟨vs, F1, g1, g2, g3, g4⟩ := h9.get (List.getElem?_eq_getElem e2)
                have hd : xs.getD i r.dflt = xs[i] := by rw [List.getD_eq_getElem?_getD, List.getElem?_eq_getElem e2]; rfl
                rw [hd] at hp
                have fin : ∀ {u : V} {cu : Value}, vs[c]? = some cu → VR C w u cu → ∃ cv bb, VR C w u cv ∧ (C.N bb ∨ ∃ k, (σ.obj k).mu = true ∧ (L k).head? = some bb ∧ ∃ t p, o.op = .load t p ∧ ((∃ c, σ.ev p = .pb k c) ∨ ∃ i c, σ.ev p = .pa k i c)) ∧ ∀ w', w'.heap[bb]? = w.heap[bb]? → (execOp a.eval o).run P w' = .ok (.value cv) w' := by
                  intro u cu hcu hu
                  refine ⟨cu, b, hu, .inr ⟨k, by rw [eo]; rfl, by rw [hLk]; rfl, t, p, ho, .inr ⟨i, c, ep⟩⟩, fun w' hw => ?_⟩
                  have hcell : w'.cell? ⟨b, x + i * r.n + c, none⟩ = some cu := by
                    rw [World.cell?_of_block (w := w) (a := ⟨b, x + i * r.n + c, none⟩) hw]
                    exact g3 _ _ hcu
                  obtain ⟨cv, q1, _, q3⟩ := run_load_at (P := P) hk (b := b) (o := x + i * r.n + c) (us := [cu]) (w' := w') (by simp [hn1]) (fun j v hj => by
                    cases j with
                    | zero => simp at hj; subst hj; exact hcell
                    | succ j => simp at hj) (cs := [u]) (C := C) (w := w) ⟨cu, [], rfl, hu, rfl⟩ (u := u) (by rw [hag']; rfl)
                  rw [hag'] at q3
                  have q3' : cv = cu := q3
                  subst q3'
                  simp only [execOp, ho, ey]
                  exact run_v _ q1
                split at hp
                · rename_i v hcs
                  cases hp
                  obtain ⟨k1, k2⟩ := RwR.sc r g4 hcs
                  exact fin k1 ⟨rfl, k2⟩
                · rename_i o' r' ys hcs
                  split at hp
                  · rename_i hst
                    cases hp
                    obtain ⟨f, hf, hH⟩ := hHs hst
                    have hcl := (Rw.cell_at r hcs)
                    obtain ⟨cu, hcu⟩ : ∃ cu, vs[c]? = some cu := ⟨_, List.getElem?_eq_getElem (by rw [RwR.len r g4]; exact hcl.2)⟩
                    have hm := hH b x _ _ e1 i c e2 (hcl.1 _ _ _ rfl)
                    have hcu' := g3 _ _ hcu
                    rw [hm] at hcu'
                    have hone : cu.oneCell' = true := by
                      have hvs := RwR.vs (C := ⟨fun _ => none, fun _ => False, fun _ => True, fun _ => none⟩) r g4 (fun _ _ => trivial)
                      obtain ⟨cu2, z1, z2⟩ := hvs.get (i := c) (u := .l .no r' ys) (by
                        have : (r.cells .no xs[i])[c]? = some (.l o' r' ys) := hcs
                        rw [this]
                        have ho' : o' = .no := Rw.cell_no r this
                        rw [ho'])
                      rw [hcu] at z1
                      cases z1
                      obtain ⟨F, hF, _⟩ := z2
                      rcases hF with ⟨_, _, a', cap'', rfl, _⟩ | ⟨_, _, _, _, rfl, _⟩ <;> rfl
                    exact fin hcu ⟨hy.1, hone, fun f' hf' => by rw [hf] at hf'; cases hf'; injection hcu' with hcu'; exact hcu'.symm⟩
                  · cases hp
                · cases hp
          · cases hp
        · cases hp
      · rename_i cs c ep
        rw [ep] at hy
        obtain ⟨b, vs, ty0, ey, hNb, hb, hcs⟩ := hy
        split at hp
        · rename_i hlen
          have hl := hcs.length
          have hvs := (hcs.drop c).take ty.n
          have key : ∀ w' : World, w'.heap[b]? = w.heap[b]? → ∀ j v, ((vs.drop c).take ty.n)[j]? = some v → w'.cell? ⟨b, c + j, none⟩ = some v := by
            intro w' hw j v hj
            rw [World.cell?_of_block (w := w) (a := ⟨b, c + j, none⟩) hw]
            rw [List.getElem?_take] at hj
            split at hj
            · rw [List.getElem?_drop] at hj
              simp [World.cell?, hb, hj]
            · cases hj
          obtain ⟨cv, g1, g2, g3⟩ := run_load_at (P := P) hk (b := b) (o := c) (w' := w) (by simp; omega) (key w rfl) hvs hp
          refine ⟨cv, b, g2, .inl hNb, fun w' hw => ?_⟩
          obtain ⟨cv', k1, _, k3⟩ := run_load_at (P := P) hk (b := b) (o := c) (w' := w') (by simp; omega) (key w' hw) hvs hp
          rw [← g3] at k3
          subst k3
          simp only [execOp, ho, ey]
          exact run_v _ k1
        · cases hp
      · rename_i r d c ep
        rw [ep] at hy
        obtain ⟨b, x, vs, F, ey, hNb, hl, hcell, hR, hN⟩ := hy
        split at hp
        · rename_i hlen
          have hvs := ((RwR.vs (C := C) r hR hN).drop c).take ty.n
          have key : ∀ w' : World, w'.heap[b]? = w.heap[b]? → ∀ j v, ((vs.drop c).take ty.n)[j]? = some v → w'.cell? ⟨b, x + c + j, none⟩ = some v := by
            intro w' hw j v hj
            rw [World.cell?_of_block (w := w) (a := ⟨b, x + c + j, none⟩) hw]
            rw [List.getElem?_take] at hj
            split at hj
            · rw [List.getElem?_drop] at hj
              have := hcell _ _ hj
              rwa [← Nat.add_assoc] at this
            · cases hj
          obtain ⟨cv, k1, k2, k3⟩ := run_load_at (P := P) hk (b := b) (o := x + c) (w' := w) (by simp; omega) (key w rfl) hvs hp
          refine ⟨cv, b, k2, .inl hNb, fun w' hw => ?_⟩
          obtain ⟨cv', q1, _, q3⟩ := run_load_at (P := P) hk (b := b) (o := x + c) (w' := w') (by simp; omega) (key w' hw) hvs hp
          rw [← k3] at q3
          subst q3
          simp only [execOp, ho, ey]
          exact run_v _ q1
        · cases hp
      · cases hp
  · cases hp
end
end Go.Ev
