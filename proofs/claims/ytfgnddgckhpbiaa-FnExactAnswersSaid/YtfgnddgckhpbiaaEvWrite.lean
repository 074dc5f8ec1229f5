/- Stores: the machine does what the evaluator says. -/
import Derived.Test.YtfgnddgckhpbiaaEvStore
set_option linter.unusedVariables false
namespace Go.Ev
open Go.RowKit

section
variable {P : Program} {Γ : Env} {B0 : Nat} {w0 : World} {σ : St} {a : Act} {w : World} {C : Cx} {L : Nat → List Nat}

theorem Rel.write (h : Rel B0 w0 σ a w C L) {k b : Nat} (hL : (L k).head? = some b) (hm : (σ.obj k).mu = true) {w1 : World} (hw : ∀ j, j ≠ b → w1.heap[j]? = w.heap[j]?) (hsz : w1.heap.size = w.heap.size) (hbel : Below B0 w0 w1)
    {e : E} {O : List Nat} (hO : ObR C w1 k e O) (hO1 : ∀ x, wr e O x → ¬ C.N x) (hnd : O.Nodup) (hown : ∀ x ∈ O, B0 ≤ x ∧ x < w.heap.size) (hdj : ∀ j, j ≠ k → ∀ x ∈ O, x ∉ L j) :
    Rel B0 w0 (σ.setOb k e) a w1 C (fun j => if j = k then O else L j) ∧ C.Le w C w1 := by
  have hnb : ¬ C.N b := h.nm k b hm hL
  have hle : C.Le w C w1 := ⟨fun _ _ _ h => h, fun _ h => h, fun _ h => h, fun x hx => hw x (fun e => hnb (e ▸ hx)), fun _ _ _ h => h⟩
  refine ⟨?_, hle⟩
  refine { below := hbel, hB0 := by rw [hsz]; exact h.hB0, defers := h.defers, len := h.len, tm := fun i v hv => ?_, ob := fun j => ?_, us := h.us, nd := fun j => ?_, dj := fun j j' hj x hx => ?_, own := fun j x hx => ?_, nw := fun j x hwr => ?_, nsz := fun x hx => by rw [hsz]; exact h.nsz x hx }
  · obtain ⟨c, h1, h2⟩ := h.tm i v hv
    exact ⟨c, h1, h2.le hle⟩
  · show ObR _ w1 j ((σ.ob.put k e).get j) _
    rw [Obs.get_put]
    by_cases hj : j = k
    · subst hj; simpa using hO
    · rw [if_neg hj, if_neg hj]
      exact (h.ob j).le hle rfl rfl (fun x hx => hw x (fun e => by subst e; exact h.dj j k hj x hx (List.mem_of_mem_head? hL)))
  · by_cases hj : j = k
    · simpa [hj] using hnd
    · simpa [hj] using h.nd j
  · by_cases h1 : j = k
    · subst h1
      have h2 : j' ≠ j := Ne.symm hj
      simp only [if_true, h2, if_false] at hx ⊢
      exact hdj j' h2 x hx
    · by_cases h2 : j' = k
      · subst h2
        simp only [h1, if_false, if_true] at hx ⊢
        exact fun hx' => hdj j h1 x hx' hx
      · simp only [h1, h2, if_false] at hx ⊢
        exact h.dj j j' hj x hx
  · by_cases hj : j = k
    · subst hj; simp only [if_true] at hx; rw [hsz]; exact hown x hx
    · simp only [hj, if_false] at hx; rw [hsz]; exact h.own j x hx
  · have hg : (σ.setOb k e).obj j = if j = k then e else σ.obj j := by
      show (σ.ob.put k e).get j = _
      rw [Obs.get_put]; rfl
    rw [hg] at hwr
    by_cases hj : j = k
    · subst hj
      simp only [if_true] at hwr
      exact hO1 x hwr
    · simp only [hj, if_false] at hwr
      exact h.nw j x hwr

theorem Below.setRow' {B : Nat} {x w : World} (h : Below B x w) {g : Nat} (hg : B ≤ g) (cs : Array Value) : Below B x (w.setRow g cs) :=
  h.trans ⟨rfl, rfl, rfl, by simp [World.setRow], fun k hk => setRow_other w g k cs (by omega)⟩

theorem run_storeAt {t : TypeId} {i : TypeInfo} (hi : P.info? t = some i) {b c : Nat} {v : Value} {vs : List Value} {ty : TypeId} {w : World} (hb : w.heap[b]? = some (.cells ⟨vs⟩ ty (0, 0))) (hl : v.cells.toList.length = i.size) (hc : c + i.size ≤ vs.length)
    (h1 : ∀ u ∈ v.cells.toList, u.oneCell' = true) :
    (Instr.storeAt t (.pointer (some ⟨b, c, none⟩)) v).run P w = .ok () (w.setRow b (vs.take c ++ v.cells.toList ++ vs.drop (c + i.size)).toArray) := by
  have hst := run_storeCells_at P b c ty v.cells.toList 0 ⟨vs⟩ w hb (by simpa [hl] using hc) h1
  have hsz : v.cells.size = i.size := by simpa using hl
  simp only [Nat.add_zero, hl] at hst
  simp only [Instr.storeAt, Instr.sureAddr, storeVar, Sem.run_bind, Sem.run_pure, Result.andThen_ok, rt_size hi, hsz, ne_eq, not_true, if_false]
  exact hst
theorem run_u (s : Sem Unit) {w' w2 : World} (h : s.run P w' = .ok () w2) : (do s; pure .skip : Sem Next).run P w' = .ok .skip w2 := by
  rw [Sem.run_bind, h]; rfl

theorem eff_storeBox (hT : TysOk P Γ.ty) (h : Rel B0 w0 σ a w C L) {o : Oper} {t : TypeId} {p y : Operand} (ho : o.op = .store t p y) {b : Nat} {K : St → Option Ret} {r : Ret} {ty : Ty} (ht : Γ.ty t = some ty) {k c : Nat} (ep : σ.ev p = .pb k c)
    (hp : effect Γ b o σ K = some r) {Q : Exit → Act → World → Prop} : o.wp P a w (Nxt Γ.lend B0 w0 o σ w C L b K r) Q := by
  have hpv := h.ev p
  rw [ep] at hpv
  simp only [effect, ho, ht, ep] at hp
  split at hp
  · rename_i cs eo
    split at hp
    · cases hp
    · rename_i us hus
      split at hp
      · rename_i hl
        split at hp
        · rename_i hc
          obtain ⟨i, z, hi, hn, _⟩ := (hT t ty ht).info
          obtain ⟨g, vs, ty0, hφ, hL, hb, hcs⟩ := h.box eo
          obtain ⟨k1, k2⟩ := (h.ev y).cellsO hus
          have hln := k1.length
          have hlc := hcs.length
          have ey := hpv.2.2 g hφ
          have hgown := h.own k g (by rw [hL]; simp)
          have hrun := run_storeAt (P := P) hi hb (c := c) (v := a.eval y) (by rw [← hln, hl, hn]) (by rw [hn]; omega) k2
          rw [hn] at hrun
          have hw : ∀ j, j ≠ g → (w.setRow g (vs.take c ++ (a.eval y).cells.toList ++ vs.drop (c + ty.n)).toArray).heap[j]? = w.heap[j]? := fun j hj => setRow_other w g j _ hj
          have hle : C.Le w C (w.setRow g (vs.take c ++ (a.eval y).cells.toList ++ vs.drop (c + ty.n)).toArray) := ⟨fun _ _ _ h => h, fun _ h => h, fun _ h => h, fun x hx => hw x (fun e => h.nm k g (by rw [eo]; rfl) (by rw [hL]; rfl) (e ▸ hx)), fun _ _ _ h => h⟩
          obtain ⟨g1, g2⟩ := h.write (k := k) (b := g) (by rw [hL]; rfl) (by rw [eo]; rfl) hw (by simp [World.setRow]) (Below.setRow' h.below hgown.1 _)
            (e := .box (cs.take c ++ us ++ cs.drop (c + ty.n))) (O := [g]) ⟨g, _, ty0, hφ, rfl, setRow_heap w g _ _ ty0 _ hb, (((hcs.take c).append k1).append (hcs.drop _)).le hle⟩ (fun x hx => by have hx := hx.2; simp at hx; subst hx; exact h.nm k _ (by rw [eo]; rfl) (by rw [hL]; rfl)) (by simp) (fun x hx => by simp at hx; subst hx; exact hgown)
            (fun j hj x hx => by simp at hx; subst hx; exact h.dj k j (Ne.symm hj) x (by rw [hL]; simp))
          refine wp_skip' (w' := w.setRow g (vs.take c ++ (a.eval y).cells.toList ++ vs.drop (c + ty.n)).toArray) ?_ ⟨⟨_, C, _, hp, g1.put o.dst (v := .x) trivial, g2, fun k hk => .inl hk, put_nx .., put_len .., put_io .., Org.add (Org.refl w C L _) (fun _ => Iff.rfl) (fun x hx _ => .inr ⟨k, by simp [touched, ho, ep], by rw [hL]; exact hx⟩) (fun x hx => .inl ⟨k, by rw [hL]; exact hx⟩)⟩, fun x hx htd => ?_, by simp [World.setRow]⟩
          · simp only [execOp, ho, ey]
            exact run_u _ hrun
          · refine hw x (fun e => ?_)
            subst e
            rcases htd with h1 | h1
            · exact h.nm k x (by rw [eo]; rfl) (by rw [hL]; rfl) h1
            · exact h1 k (by simp [touched, ho, ep]) (by rw [hL]; simp)
        · cases hp
      · cases hp
  · cases hp

/-! ### A store into an element -/
theorem Rw.upd_ok : (r : Rw) → {σ : St} → {C : Cx} → {L : Nat → List Nat} → (h : Rel B0 w0 σ a w C L) → {d : r.T} → {q : Bool} → {vs : List Value} → {F : List Nat} → RwR w q r d vs F → {c : Nat} → {us : List V} → {cvs : List Value} → VsR C w us cvs → {e : r.T} → {p : Bool} → {ob' : Obs} → r.upd d c us σ.ob = some (e, p, ob') →
    ∃ F1 Fo F2 G C' L', F = F1 ++ Fo ++ F2 ∧ (c = 0 → F1 = []) ∧ RwR w (q || !p) r e (vs.take c ++ cvs ++ vs.drop (c + cvs.length)) (F1 ++ G ++ F2) ∧ Gave B0 w0 σ a w C L ob' p G C' L'
  | .one cc, σ, C, L, h, d, q, vs, F, hR, c, us, cvs, hv, e, p, ob', hg => by
    cases us with
    | nil =>
      simp only [VsR] at hv; subst hv
      simp only [Rw.upd, Option.some.injEq, Prod.mk.injEq] at hg
      obtain ⟨rfl, rfl, rfl⟩ := hg
      exact ⟨[], [], F, [], C, L, by simp, fun _ => rfl, by simpa using hR, Gave.refl h _⟩
    | cons u us =>
      cases c with
      | zero =>
        cases us with
        | nil =>
          simp only [Rw.upd] at hg
          obtain ⟨v, vs', h1, h2, h3⟩ := hv
          simp only [VsR] at h3
          subst h3; subst h1
          obtain ⟨G, C', L', g1, g2⟩ := Cc.give_ok h cc h2 hg
          obtain ⟨v0, e1, _⟩ := hR
          subst e1
          exact ⟨[], F, [], G, C', L', by simp, fun _ => rfl, ⟨v, by simp, by simpa using CcR.imp (e' := q || !p) (by cases q <;> cases p <;> simp) cc g1 (fun _ _ => rfl)⟩, g2⟩
        | cons _ _ => simp [Rw.upd] at hg
      | succ c => simp [Rw.upd] at hg
  | .cons cc r, σ, C, L, h, d, q, vs, F, hR, c, us, cvs, hv, e, p, ob', hg => by
    cases us with
    | nil =>
      simp only [VsR] at hv; subst hv
      simp only [Rw.upd, Option.some.injEq, Prod.mk.injEq] at hg
      obtain ⟨rfl, rfl, rfl⟩ := hg
      exact ⟨[], [], F, [], C, L, by simp, fun _ => rfl, by simpa using hR, Gave.refl h _⟩
    | cons u us =>
      obtain ⟨v0, vs0, Fa, Fb, e1, e2, hc0, hr0⟩ := hR
      subst e1; subst e2
      cases c with
      | zero =>
        simp only [Rw.upd] at hg
        obtain ⟨v, vs', h1, h2, h3⟩ := hv
        subst h1
        split at hg
        · rename_i d1 p1 ob1 g1
          split at hg
          · rename_i ds p2 ob2 g2
            cases hg
            obtain ⟨G1, C1, L1, k1, k2⟩ := Cc.give_ok h cc h2 g1
            obtain ⟨F1, Fo, F2, G2, C2, L2, k3, k0, k4, k5⟩ := Rw.upd_ok r k2.rel hr0 (h3.le k2.le) g2
            have k0' := k0 rfl
            subst k0'
            refine ⟨[], Fa ++ Fo, F2, G1 ++ G2, C2, L2, by rw [k3]; simp, fun _ => rfl, ⟨v, vs' ++ vs0.drop vs'.length, G1, G2 ++ F2, by simp, by simp, CcR.imp (by cases q <;> cases p1 <;> cases p2 <;> simp) cc k1 (fun _ _ => rfl), ?_⟩, k2.trans k5⟩
            have := RwR.imp (e' := q || !(p1 && p2)) (by cases q <;> cases p1 <;> cases p2 <;> simp) r k4 (fun _ _ => rfl)
            simpa using this
          · cases hg
        · cases hg
      | succ c =>
        simp only [Rw.upd] at hg
        split at hg
        · rename_i ds p1 ob1 g1
          cases hg
          obtain ⟨F1, Fo, F2, G2, C2, L2, k3, k0, k4, k5⟩ := Rw.upd_ok r h hr0 hv g1
          refine ⟨Fa ++ F1, Fo, F2, G2, C2, L2, by rw [k3]; simp, fun h => (nomatch h), ⟨v0, _, Fa, F1 ++ G2 ++ F2, ?_, by simp, CcR.imp (by cases q <;> cases p <;> simp) cc hc0 (fun _ _ => rfl), k4⟩, k5⟩
          rw [show c + 1 + cvs.length = c + cvs.length + 1 by omega]
          simp
        · cases hg
theorem RowsR.mapw {δ : Type} {R R' : δ → List Value → List Nat → Prop} {w w' : World} {n b : Nat} : ∀ {xs : List δ} {o : Nat} {F : List Nat}, RowsR R w n b xs o F → (∀ q, o ≤ q → w'.cell? ⟨b, q, none⟩ = w.cell? ⟨b, q, none⟩) → (∀ x vs F', (∀ k ∈ F', k ∈ F) → R x vs F' → R' x vs F') → RowsR R' w' n b xs o F
  | [], _, _, h, _, _ => h
  | x :: xs, o, F, ⟨vs, F1, F2, hF, hn, hc, hR, hr⟩, hq, hi =>
    ⟨vs, F1, F2, hF, hn, fun j v hj => (hq (o + j) (by omega)).trans (hc j v hj), hi _ _ _ (fun k hk => by rw [hF]; simp [hk]) hR,
      RowsR.mapw hr (fun q h => hq q (by omega)) (fun x vs F' hk => hi x vs F' (fun k h => by rw [hF]; simp [hk k h]))⟩
theorem RowsR.set {δ : Type} {R : δ → List Value → List Nat → Prop} {w : World} {n b : Nat} : ∀ {xs : List δ} {o : Nat} {F : List Nat}, RowsR R w n b xs o F → ∀ {i : Nat} {x : δ}, xs[i]? = some x →
    ∃ A Fi B vs, F = A ++ Fi ++ B ∧ vs.length = n ∧ (∀ j v, vs[j]? = some v → w.cell? ⟨b, o + i * n + j, none⟩ = some v) ∧ R x vs Fi ∧
      ∀ (w' : World) (R' : δ → List Value → List Nat → Prop) (x' : δ) (vs' : List Value) (Fi' : List Nat), (∀ x vs F', (∀ k ∈ F', k ∈ A ∨ k ∈ B) → R x vs F' → R' x vs F') → vs'.length = n → R' x' vs' Fi' →
        (∀ j v, vs'[j]? = some v → w'.cell? ⟨b, o + i * n + j, none⟩ = some v) → (∀ q, (q < o + i * n ∨ o + i * n + n ≤ q) → w'.cell? ⟨b, q, none⟩ = w.cell? ⟨b, q, none⟩) → RowsR R' w' n b (xs.set i x') o (A ++ Fi' ++ B)
  | [], _, _, _, i, x, e => by simp at e
  | y :: xs, o, F, ⟨vs, F1, F2, hF, hn, hc, hR, hr⟩, i, x, e => by
    cases i with
    | zero =>
      simp at e; subst e
      refine ⟨[], F1, F2, vs, by simpa using hF, hn, fun j v hj => by simpa using hc j v hj, hR, fun w' R' x' vs' Fi' hi hl hR' hc' hq => ?_⟩
      refine ⟨vs', Fi', F2, by simp, hl, fun j v hj => by simpa using hc' j v hj, hR', hr.mapw (fun q h => hq q (.inr (by simpa using h))) (fun x vs F' hk => hi x vs F' (fun k h => .inr (hk k h)))⟩
    | succ i =>
      simp at e
      obtain ⟨A, Fi, B, vs', h1, h2, h3, h4, h5⟩ := RowsR.set hr e
      have ho : o + (i + 1) * n = o + n + i * n := by rw [Nat.add_mul]; omega
      refine ⟨F1 ++ A, Fi, B, vs', by rw [hF, h1]; simp, h2, fun j v hj => by rw [ho]; exact h3 j v hj, h4, fun w' R' x' vs2 Fi' hi hl hR' hc' hq => ?_⟩
      rw [ho] at hc' hq
      refine ⟨vs, F1, A ++ Fi' ++ B, by simp, hn, fun j v hj => ?_, hi _ _ _ (fun k hk => .inl (by simp [hk])) hR, h5 w' R' x' vs2 Fi' (fun x vs F' hk => hi x vs F' (fun k h => by rcases hk k h with h | h; exact .inl (by simp [h]); exact .inr h)) hl hR' hc' hq⟩
      have hlt : j < vs.length := by
        rcases Nat.lt_or_ge j vs.length with h | h
        · exact h
        · rw [List.getElem?_eq_none h] at hj; cases hj
      rw [hq (o + j) (.inl (by omega))]
      exact hc j v hj

theorem nodup_swap {A F1 Fo F2 B G : List Nat} (h : (A ++ (F1 ++ Fo ++ F2) ++ B).Nodup) (hG : G.Nodup) (hd : ∀ x ∈ G, x ∉ A ++ (F1 ++ Fo ++ F2) ++ B) : (A ++ (F1 ++ G ++ F2) ++ B).Nodup := by
  have p1 : ∀ X : List Nat, (A ++ (F1 ++ X ++ F2) ++ B).Perm (X ++ (A ++ F1 ++ F2 ++ B)) := fun X => by
    rw [List.perm_iff_count]; intro x; simp only [List.count_append]; omega
  rw [(p1 Fo).nodup_iff] at h
  rw [(p1 G).nodup_iff]
  rw [List.nodup_append] at h ⊢
  refine ⟨hG, h.2.1, fun x hx y hy e => ?_⟩
  subst e
  refine hd x hx ?_
  simp only [List.mem_append] at hy ⊢
  rcases hy with ((hy | hy) | hy) | hy <;> simp [hy]

theorem Rw.slAt_lt : (r : Rw) → {c : Nat} → r.slAt c = true → c < r.n
  | .one cc, c, h => by
    simp only [Rw.slAt, Bool.and_eq_true] at h
    have := Nat.eq_of_beq_eq_true h.1
    subst this
    simp [Rw.n]
  | .cons cc r, c, h => by
    cases c with
    | zero => simp [Rw.n]
    | succ c => have := Rw.slAt_lt r (c := c) h; simp [Rw.n]; omega
theorem Cc.give_sc {w : World} {e : Bool} : (cc : Cc) → {d d' : cc.T} → {v : Value} → {F : List Nat} → CcR w e cc d v F → {u : Value} → {p : Bool} → {ob ob' : Obs} → cc.give (.s u) ob = some (d', p, ob') → cc.flat = true ∧ CcR w e cc d' u F
  | .int k, d, d', v, F, h, u, p, ob, ob', hg => by
    cases u <;> simp only [Cc.give, reduceCtorEq] at hg
    split at hg
    · rename_i hk; subst hk; cases hg; exact ⟨rfl, rfl, h.2⟩
    · cases hg
  | .bool, d, d', v, F, h, u, p, ob, ob', hg => by
    cases u <;> simp only [Cc.give, reduceCtorEq] at hg
    cases hg; exact ⟨rfl, rfl, h.2⟩
  | .str, d, d', v, F, h, u, p, ob, ob', hg => by
    cases u <;> simp only [Cc.give, reduceCtorEq] at hg
    cases hg; exact ⟨rfl, rfl, h.2⟩
  | .sl r, d, d', v, F, h, u, p, ob, ob', hg => by
    simp [Cc.give] at hg
/-- A scalar is put into a row. -/
theorem Rw.upd_sc {w : World} {e : Bool} : (r : Rw) → {d d' : r.T} → {vs : List Value} → {F : List Nat} → RwR w e r d vs F → {c : Nat} → {u : Value} → {p : Bool} → {ob ob' : Obs} → r.upd d c [.s u] ob = some (d', p, ob') → r.slAt c = false ∧ RwR w e r d' (vs.take c ++ [u] ++ vs.drop (c + 1)) F
  | .one cc, d, d', vs, F, ⟨v, h1, h2⟩, c, u, p, ob, ob', hg => by
    cases c with
    | zero =>
      simp only [Rw.upd] at hg
      subst h1
      obtain ⟨g1, g2⟩ := Cc.give_sc cc h2 hg
      exact ⟨by simp [Rw.slAt, g1], u, by simp, g2⟩
    | succ c => simp [Rw.upd] at hg
  | .cons cc r, d, d', vs, F, ⟨v, vs', F1, F2, h1, h2, h3, h4⟩, c, u, p, ob, ob', hg => by
    subst h1
    cases c with
    | zero =>
      simp only [Rw.upd] at hg
      split at hg
      · rename_i e1 p1 ob1 g1
        cases hg
        obtain ⟨k1, k2⟩ := Cc.give_sc cc h3 g1
        exact ⟨by simp [Rw.slAt, k1], u, vs', F1, F2, by simp, h2, k2, h4⟩
      · cases hg
    | succ c =>
      simp only [Rw.upd] at hg
      split at hg
      · rename_i es p1 ob1 g1
        cases hg
        obtain ⟨k1, k2⟩ := Rw.upd_sc r h4 g1
        exact ⟨k1, v, _, F1, F2, by simp, h2, h3, k2⟩
      · cases hg
theorem eff_storeArr (hT : TysOk P Γ.ty) (h : Rel B0 w0 σ a w C L) {o : Oper} {t : TypeId} {p y : Operand} (ho : o.op = .store t p y) {b : Nat} {K : St → Option Ret} {r : Ret} {ty : Ty} (ht : Γ.ty t = some ty) {k i c : Nat} (ep : σ.ev p = .pa k i c)
    (hp : effect Γ b o σ K = some r) {Q : Exit → Act → World → Prop} : o.wp P a w (Nxt Γ.lend B0 w0 o σ w C L b K r) Q := by
  have hpv := h.ev p
  rw [ep] at hpv
  simp only [effect, ho, ht, ep] at hp
  split at hp
  · rename_i deep rw_ xs eo
    split at hp
    · cases hp
    · rename_i us hus
      split at hp
      · rename_i hl
        split at hp
        · rename_i hc
          split at hp
          · rename_i e pp ob' hu
            split at hp
            · rename_i hmu
              obtain ⟨ti, z, hi, hn, _⟩ := (hT t ty ht).info
              obtain ⟨cv, F, hφ, hF, hN, hO⟩ := h.arr eo
              obtain ⟨k1, k2⟩ := (h.ev y).cellsO hus
              have hln := k1.length
              obtain ⟨g, x0, l0, cap0, ecv, hil, ey⟩ := hpv.2.2 cv _ hφ
              rcases hF with ⟨h5, _, ad, cap', h6, _⟩ | ⟨g', x', cap', F', h5, h6, hFe, h7, h8, h9⟩
              · rw [ecv] at h6; injection h6 with _ e6 _; omega
              · rw [ecv] at h5
                injection h5 with e3 e4 e5
                injection e3 with e3
                injection e3 with e3 e6
                subst e3; subst e4; subst e5; subst e6
                obtain ⟨cur, ety, hb, hcs⟩ := h8 rfl
                have hxi : xs[i]? = some xs[i] := List.getElem?_eq_getElem hil
                have hd : xs.getD i rw_.dflt = xs[i] := by rw [List.getD_eq_getElem?_getD, hxi]; rfl
                rw [hd] at hu
                obtain ⟨A, Fi, B, vs, s1, s2, s3, s4, s5⟩ := h9.set hxi
                obtain ⟨F1, Fo, F2, G, C1, L1, u1, _, u2, u3⟩ := Rw.upd_ok rw_ h s4 k1 hu
                have hmk := u3.mus k hmu
                have hLk : (L k).head? = some g := by
                  rw [if_pos rfl] at hO
                  split at hO <;> rw [hO, hFe] <;> rfl
                have hgown := h.own k g (List.mem_of_mem_head? hLk)
                have hnl : (a.eval y).cells.toList.length = ty.n := by rw [← hln, hl]
                have hvl : vs.length = rw_.n := s2
                -- the block written
                have hoff : x0 + i * rw_.n + rw_.n ≤ cur.size := by
                  have : (i + 1) * rw_.n ≤ cap0 * rw_.n := Nat.mul_le_mul_right _ (by omega)
                  rw [Nat.succ_mul] at this
                  omega
                have hrun := run_storeAt (P := P) hi (vs := cur.toList) hb (c := x0 + i * rw_.n + c) (v := a.eval y) (by rw [hnl, hn]) (by rw [hn, Array.length_toList]; omega) k2
                rw [hn] at hrun
                have hcur : (cur.toList.drop (x0 + i * rw_.n)).take rw_.n = vs := by
                  apply List.ext_getElem?
                  intro j
                  rw [List.getElem?_take]
                  split
                  · rename_i hj
                    rw [List.getElem?_drop]
                    have hv : vs[j]? = some vs[j] := List.getElem?_eq_getElem (by omega)
                    have := s3 j _ hv
                    simp only [World.cell?, hb] at this
                    rw [hv, Array.getElem?_toList]
                    simpa using this
                  · rename_i hj
                    rw [List.getElem?_eq_none (by omega)]
                let new : List Value := cur.toList.take (x0 + i * rw_.n + c) ++ (a.eval y).cells.toList ++ cur.toList.drop (x0 + i * rw_.n + c + ty.n)
                have hnew : ∀ q, (w.setRow g new.toArray).cell? ⟨g, q, none⟩ = new[q]? := fun q => by
                  have := setRow_heap w g cur new.toArray ety (0, 0) hb
                  simp [World.cell?, this]
                have hnewl : new.length = cur.size := by simp [new, hnl]; omega
                have hw : ∀ j, j ≠ g → (w.setRow g new.toArray).heap[j]? = w.heap[j]? := fun j hj => setRow_other w g j _ hj
                have hout : ∀ q, (q < x0 + i * rw_.n + c ∨ x0 + i * rw_.n + c + ty.n ≤ q) → new[q]? = cur.toList[q]? := by
                  intro q hq
                  rcases hq with hq | hq
                  · simp only [new]
                    rw [List.append_assoc, List.getElem?_append_left (by simp; omega), List.getElem?_take, if_pos hq]
                  · simp only [new]
                    rw [List.getElem?_append_right (by simp [hnl]; omega), List.getElem?_drop]
                    congr 1
                    simp [hnl]; omega
                have hmid : ∀ j v, (vs.take c ++ (a.eval y).cells.toList ++ vs.drop (c + (a.eval y).cells.toList.length))[j]? = some v → new[x0 + i * rw_.n + j]? = some v := by
                  intro j v hj
                  rw [hnl] at hj
                  by_cases h1 : j < c
                  · rw [List.append_assoc, List.getElem?_append_left (by simp; omega), List.getElem?_take, if_pos h1] at hj
                    rw [hout _ (.inl (by omega)), ← hj, ← hcur, List.getElem?_take, if_pos (by omega), List.getElem?_drop]
                  · by_cases h2 : j < c + ty.n
                    · rw [List.append_assoc, List.getElem?_append_right (by simp; omega), List.getElem?_append_left (by simp [hnl]; omega)] at hj
                      simp only [new]
                      rw [List.append_assoc, List.getElem?_append_right (by simp; omega), List.getElem?_append_left (by simp [hnl]; omega), ← hj]
                      congr 1
                      simp; omega
                    · rw [List.getElem?_append_right (by simp [hnl]; omega), List.getElem?_drop] at hj
                      have hj' : vs[j]? = some v := by
                        rw [← hj]; congr 1; simp [hnl]; omega
                      have hjl : j < rw_.n := by
                        rcases Nat.lt_or_ge j vs.length with h | h
                        · omega
                        · rw [List.getElem?_eq_none h] at hj'; cases hj'
                      rw [hout _ (.inr (by omega)), ← hj', ← hcur, List.getElem?_take, if_pos hjl, List.getElem?_drop]
                have hFN : ∀ x ∈ A ++ Fi ++ B, C.N x := fun x hx => hN x (by rw [hFe]; simpa [s1] using hx)
                have hle1 := u3.le
                have hgN1 : ¬ C1.N g := u3.rel.nm k g hmu (by rw [hmk.2]; exact hLk)
                have hle : C1.Le w C1 (w.setRow g new.toArray) := ⟨fun _ _ _ h => h, fun _ h => h, fun _ h => h, fun x hx => hw x (fun e => hgN1 (e ▸ hx)), fun _ _ _ h => h⟩
                have hNew : ∀ x ∈ A ++ (F1 ++ G ++ F2) ++ B, C1.N x := by
                  intro x hx
                  simp only [List.mem_append] at hx
                  rcases hx with (hx | (hx | hx) | hx) | hx
                  · exact hle1.N x (hFN x (by simp [hx]))
                  · exact hle1.N x (hFN x (by simp [u1, hx]))
                  · exact u3.N x hx
                  · exact hle1.N x (hFN x (by simp [u1, hx]))
                  · exact hle1.N x (hFN x (by simp [hx]))
                have hq : (!(true && deep) || !pp) = !(deep && pp) := by cases deep <;> cases pp <;> rfl
                have hrows : RowsR (RwR (w.setRow g new.toArray) (!(true && (deep && pp))) rw_) (w.setRow g new.toArray) rw_.n g (xs.set i e) x0 (A ++ (F1 ++ G ++ F2) ++ B) := by
                  refine s5 _ _ e (vs.take c ++ (a.eval y).cells.toList ++ vs.drop (c + (a.eval y).cells.toList.length)) (F1 ++ G ++ F2) (fun x vs F' hk hR => RwR.imp (by cases deep <;> cases pp <;> simp) rw_ hR (fun x' hx' => hle.w x' (hle1.N x' (hFN x' (by rcases hk x' hx' with h | h <;> simp [h]))))) (by simp only [List.length_append, List.length_take, List.length_drop, hvl, hnl]; omega) ?_ (fun j v hj => by rw [hnew]; exact hmid j v hj) (fun q hq' => ?_)
                  · refine RwR.imp (by cases deep <;> cases pp <;> simp) rw_ u2 (fun x' hx' => hle.w x' (hNew x' ?_))
                    simp only [List.mem_append] at hx' ⊢
                    rcases hx' with (h | h) | h <;> simp [h]
                  · rw [hnew, hout q (by omega)]
                    simp [World.cell?, hb]
                let O : List Nat := if deep && pp then g :: (A ++ (F1 ++ G ++ F2) ++ B) else [g]
                have hgF : ∀ x ∈ A ++ (F1 ++ G ++ F2) ++ B, x ≠ g := fun x hx e => hgN1 (e ▸ hNew x hx)
                have hLkd : deep = true → L k = g :: (A ++ Fi ++ B) := fun hd => by
                  rw [if_pos rfl, if_pos hd] at hO
                  rw [hO, hFe, s1]
                have hndO : O.Nodup := by
                  cases hdp : (deep && pp) with
                  | false => simp [O, hdp]
                  | true =>
                    simp only [O, hdp, if_true]
                    simp only [Bool.and_eq_true] at hdp
                    have hnd0 := h.nd k
                    rw [hLkd hdp.1, u1] at hnd0
                    have hnd1 := (List.nodup_cons.1 hnd0).2
                    refine List.nodup_cons.2 ⟨fun hx => hgF g hx rfl, ?_⟩
                    have hG := u3.nd hdp.2
                    have hGL : ∀ x ∈ G, x ∉ L k := fun x hx => by rw [← hmk.2]; exact u3.off hdp.2 x hx k
                    rw [hLkd hdp.1, u1] at hGL
                    exact nodup_swap hnd1 hG (fun x hx hx' => hGL x hx (List.mem_cons_of_mem _ hx'))
                have hL1 : ∀ x ∈ O, x ∈ L k ∨ (pp = true ∧ x ∈ G) := by
                  intro x hx
                  cases hdp : (deep && pp) with
                  | false => simp [O, hdp] at hx; subst hx; exact .inl (List.mem_of_mem_head? hLk)
                  | true =>
                    simp only [O, hdp, if_true] at hx
                    simp only [Bool.and_eq_true] at hdp
                    rw [hLkd hdp.1, u1]
                    simp only [List.mem_append, List.mem_cons] at hx ⊢
                    rcases hx with hx | (hx | (hx | hx) | hx) | hx
                    · exact .inl (.inl hx)
                    · exact .inl (.inr (.inl (.inl hx)))
                    · exact .inl (.inr (.inl (.inr (.inl (.inl hx)))))
                    · exact .inr ⟨hdp.2, hx⟩
                    · exact .inl (.inr (.inl (.inr (.inr hx))))
                    · exact .inl (.inr (.inr hx))
                have hOown : ∀ x ∈ O, B0 ≤ x ∧ x < w.heap.size := by
                  intro x hx
                  rcases hL1 x hx with h1 | ⟨h1, h2⟩
                  · exact h.own k x h1
                  · obtain ⟨k', hk'⟩ := u3.from_ h1 x h2
                    exact h.own k' x hk'
                obtain ⟨g1, g2⟩ := u3.rel.write (k := k) (b := g) (by rw [hmk.2]; exact hLk) hmu hw (by simp [World.setRow]) (Below.setRow' h.below hgown.1 _)
                  (e := .arr true (deep && pp) rw_ (xs.set i e)) (O := O)
                  ⟨.slice (some ⟨g, x0, none⟩) xs.length cap0, g :: (A ++ (F1 ++ G ++ F2) ++ B), by rw [u3.φ, hφ, ecv], .inr ⟨g, x0, cap0, A ++ (F1 ++ G ++ F2) ++ B, by simp, by simpa using h6, rfl, by simpa [World.setRow] using h7, fun _ => ⟨new.toArray, ety, setRow_heap w g _ _ ety _ hb, by simp only [List.size_toArray, hnewl]; omega⟩, hrows⟩,
                    fun x hx => hNew x (by simpa using hx), by
                    rw [if_pos rfl]
                    cases hdp : (deep && pp) <;> simp [O, hdp]⟩
                  (fun x hx => by
                    have hx := hx.2
                    have : x = g := by cases hdp : (deep && pp) <;> simp [O, hdp] at hx <;> exact hx.symm
                    rw [this]; exact hgN1) hndO hOown
                  (fun j hj x hx => by
                    rcases hL1 x hx with h1 | ⟨h1, h2⟩
                    · exact fun hx' => h.dj k j (Ne.symm hj) x h1 (u3.sub j x hx')
                    · exact u3.off h1 x h2 j)
                refine wp_skip' (w' := w.setRow g new.toArray) ?_ ⟨⟨_, C1, _, hp, g1.put o.dst (v := .x) trivial, hle1.trans g2, fun k hk => .inl (by rw [u3.U] at hk; exact hk), put_nx .., put_len .., put_io .., Org.add (u3.org _) (fun _ => Iff.rfl) (fun x hx hn => .inr ⟨k, by simp [touched, ho, ep], ?_⟩) (fun x hx => .inl ?_)⟩, fun x hx htd => ?_, by simp [World.setRow]⟩
                · simp only [execOp, ho, ey]
                  refine run_u _ ?_
                  exact hrun
                · have : x = g := by
                    cases hdp : (deep && pp) with
                    | false => simp [O, hdp] at hx; exact hx
                    | true =>
                      simp only [O, hdp, if_true] at hx
                      rcases List.mem_cons.1 hx with hx | hx
                      · exact hx
                      · exact absurd (hNew x hx) hn
                  rw [this]; exact List.mem_of_mem_head? hLk
                · rcases hL1 x hx with h1 | ⟨h1, h2⟩
                  · exact ⟨k, h1⟩
                  · exact u3.from_ h1 x h2
                · refine hw x (fun e => ?_)
                  subst e
                  rcases htd with h1 | h1
                  · exact h.nm k x (by rw [eo]; rfl) hLk h1
                  · exact h1 k (by simp [touched, ho, ep]) (List.mem_of_mem_head? hLk)
            · cases hp
          · cases hp
        · cases hp
      · cases hp
  · rename_i st rw_ xs eo
    split at hp
    · rename_i u eu
      split at hp
      · rename_i hn1
        split at hp
        · rename_i hc
          split at hp
          · rename_i e pp ob' hu
            obtain ⟨ti, z, hi, hn, _⟩ := (hT t ty ht).info
            obtain ⟨cv, hφ, hF, hHs⟩ := h.ownd eo
            have hyv := h.ev y
            rw [eu] at hyv
            have eyv : a.eval y = u := hyv.1
            have hone : u.cells.toList = [u] := one_cells hyv.2
            obtain ⟨g, x0, l0, cap0, ecv, hil, ey⟩ := hpv.2.2 cv _ hφ
            rcases hF with ⟨h5, _, ad, cap', h6, _⟩ | ⟨g', x', cap', F', h5, h6, hFe, h7, h8, h9⟩
            · rw [ecv] at h6; injection h6 with _ e6 _; omega
            · rw [ecv] at h5
              injection h5 with e3 e4 e5
              injection e3 with e3
              injection e3 with e3 e6
              subst e3; subst e4; subst e5; subst e6
              obtain ⟨cur, ety, hb, hcs⟩ := h8 rfl
              have hxi : xs[i]? = some xs[i] := List.getElem?_eq_getElem hil
              have hd : xs.getD i rw_.dflt = xs[i] := by rw [List.getD_eq_getElem?_getD, hxi]; rfl
              rw [hd] at hu
              obtain ⟨A, Fi, B, vs, s1, s2, s3, s4, s5⟩ := h9.set hxi
              have hLk : (L k).head? = some g := by rw [hFe]; rfl
              have hgown := h.own k g (List.mem_of_mem_head? hLk)
              have hvl : vs.length = rw_.n := s2
              obtain ⟨hsl, hupd⟩ := Rw.upd_sc rw_ s4 hu
              have hoff : x0 + i * rw_.n + rw_.n ≤ cur.size := by
                have : (i + 1) * rw_.n ≤ cap0 * rw_.n := Nat.mul_le_mul_right _ (by omega)
                rw [Nat.succ_mul] at this
                omega
              have hrun := run_storeAt (P := P) hi (vs := cur.toList) hb (c := x0 + i * rw_.n + c) (v := a.eval y) (by rw [eyv, hone, hn, hn1]; rfl) (by rw [hn, hn1, Array.length_toList]; omega) (by rw [eyv, hone]; intro q hq; simp at hq; subst hq; exact hyv.2)
              rw [hn, hn1, eyv, hone] at hrun
              let new : List Value := cur.toList.take (x0 + i * rw_.n + c) ++ [u] ++ cur.toList.drop (x0 + i * rw_.n + c + 1)
              have hnew : ∀ q, (w.setRow g new.toArray).cell? ⟨g, q, none⟩ = new[q]? := fun q => by
                have := setRow_heap w g cur new.toArray ety (0, 0) hb
                simp [World.cell?, this]
              have hnewl : new.length = cur.size := by simp [new]; omega
              have hw : ∀ j, j ≠ g → (w.setRow g new.toArray).heap[j]? = w.heap[j]? := fun j hj => setRow_other w g j _ hj
              have hout : ∀ q, q ≠ x0 + i * rw_.n + c → new[q]? = cur.toList[q]? := by
                intro q hq
                rcases Nat.lt_or_gt_of_ne hq with hq | hq
                · simp only [new]
                  rw [List.append_assoc, List.getElem?_append_left (by simp; omega), List.getElem?_take, if_pos hq]
                · simp only [new]
                  rw [List.getElem?_append_right (by simp; omega), List.getElem?_drop]
                  congr 1
                  simp; omega
              have hat : new[x0 + i * rw_.n + c]? = some u := by
                simp only [new]
                rw [List.append_assoc, List.getElem?_append_right (by simp; omega)]
                have : x0 + i * rw_.n + c - (List.take (x0 + i * rw_.n + c) cur.toList).length = 0 := by simp; omega
                rw [this]; rfl
              have hmid : ∀ j v, (vs.take c ++ [u] ++ vs.drop (c + 1))[j]? = some v → new[x0 + i * rw_.n + j]? = some v := by
                intro j v hj
                by_cases h1 : j = c
                · subst h1
                  rw [hat]
                  rw [List.append_assoc, List.getElem?_append_right (by simp; omega)] at hj
                  have : j - (List.take j vs).length = 0 := by simp; omega
                  rw [this] at hj
                  exact hj
                · have hj' : vs[j]? = some v := by
                    rcases Nat.lt_or_gt_of_ne h1 with h2 | h2
                    · rw [List.append_assoc, List.getElem?_append_left (by simp; omega), List.getElem?_take, if_pos h2] at hj
                      exact hj
                    · rw [List.getElem?_append_right (by simp; omega), List.getElem?_drop] at hj
                      rw [← hj]; congr 1; simp; omega
                  rw [hout _ (by omega)]
                  have := s3 j v hj'
                  simp only [World.cell?, hb] at this
                  rw [Array.getElem?_toList]
                  simpa using this
              have hgn := h.nm k g (by rw [eo]; rfl) hLk
              have hsub : ∀ x ∈ A ++ Fi ++ B, x ≠ g := fun x hx e => by
                have := h.nd k
                rw [hFe] at this
                exact (List.nodup_cons.1 this).1 (by rw [s1, ← e]; exact hx)
              have hrows : RowsR (RwR (w.setRow g new.toArray) false rw_) (w.setRow g new.toArray) rw_.n g (xs.set i e) x0 (A ++ Fi ++ B) := by
                refine s5 _ _ e (vs.take c ++ [u] ++ vs.drop (c + 1)) Fi (fun x vs F' hk hR => RwR.imp (fun h => h) rw_ hR (fun x' hx' => hw x' (hsub x' (by rcases hk x' hx' with h | h <;> simp [h])))) (by simp only [List.length_append, List.length_take, List.length_drop, hvl, List.length_singleton]; omega) (RwR.imp (fun h => h) rw_ hupd (fun x' hx' => hw x' (hsub x' (by simp [hx'])))) (fun j v hj => by rw [hnew]; exact hmid j v hj) (fun q hq' => ?_)
                rw [hnew, hout q (by omega)]
                simp [World.cell?, hb]
              obtain ⟨g1, g2⟩ := h.write (k := k) (b := g) hLk (by rw [eo]; rfl) hw (by simp [World.setRow]) (Below.setRow' h.below hgown.1 _)
                (e := .own st rw_ (xs.set i e)) (O := L k)
                ⟨cv, hφ, .inr ⟨g, x0, cap0, A ++ Fi ++ B, by simp [ecv], by simpa using h6, by rw [hFe, s1], by simpa [World.setRow] using h7, fun _ => ⟨new.toArray, ety, setRow_heap w g _ _ ety _ hb, by simp only [List.size_toArray, hnewl]; omega⟩, hrows⟩, fun hst => by
                  obtain ⟨f, q1, q2⟩ := hHs hst
                  refine ⟨f, q1, fun b' o' L' cap'' e' i' j' hi' hj' => ?_⟩
                  have e0 := e'
                  rw [ecv] at e0
                  injection e0 with e0
                  injection e0 with e0
                  injection e0 with e0 e01
                  have hx := q2 b' o' L' cap'' e' i' j' (by simpa using hi') hj'
                  rw [← e0, ← e01] at hx ⊢
                  rw [hnew, hout]
                  · simp only [World.cell?, hb] at hx
                    rw [Array.getElem?_toList]
                    simpa using hx
                  · intro hq
                    have hjn : j' < rw_.n := Rw.slAt_lt rw_ hj'
                    have : i' = i ∧ j' = c := by
                      rcases Nat.lt_trichotomy i' i with h1 | h1 | h1
                      · have : (i' + 1) * rw_.n ≤ i * rw_.n := Nat.mul_le_mul_right _ h1
                        rw [Nat.succ_mul] at this; omega
                      · subst h1; exact ⟨rfl, by omega⟩
                      · have : (i + 1) * rw_.n ≤ i' * rw_.n := Nat.mul_le_mul_right _ h1
                        rw [Nat.succ_mul] at this; omega
                    rw [this.2] at hj'
                    rw [hsl] at hj'; cases hj'⟩
                (fun x hx => h.nw k x (by rw [eo]; exact hx)) (h.nd k) (fun x hx => h.own k x hx) (fun j hj x hx => h.dj k j (Ne.symm hj) x hx)
              refine wp_skip' (w' := w.setRow g new.toArray) ?_ ⟨⟨_, C, _, hp, g1.put o.dst (v := .x) trivial, g2, fun k hk => .inl hk, put_nx .., put_len .., put_io .., Org.add (Org.refl w C L _) (fun _ => Iff.rfl) (fun x hx hn => .inr ⟨k, by simp [touched, ho, ep], hx⟩) (fun x hx => .inl ⟨k, hx⟩)⟩, fun x hx htd => ?_, by simp [World.setRow]⟩
              · simp only [execOp, ho, ey, eyv]
                refine run_u _ ?_
                exact hrun
              · refine hw x (fun e => ?_)
                subst e
                rcases htd with h1 | h1
                · exact hgn h1
                · exact h1 k (by simp [touched, ho, ep]) (List.mem_of_mem_head? hLk)
          · cases hp
        · cases hp
      · cases hp
    · cases hp
  · cases hp
end
end Go.Ev
