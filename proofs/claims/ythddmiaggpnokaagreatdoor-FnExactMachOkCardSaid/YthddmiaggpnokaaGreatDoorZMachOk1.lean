/- MachOk: parts EvWrite EvApp EvHand EvTake, packed by squash.py. -/
import Derived.Deep.Upon
import Derived.Test.YthddmiaggpnokaaGreatDoorZMachOk0
set_option linter.unusedVariables false
set_option linter.unusedSimpArgs false
section
set_option linter.unusedVariables false
namespace Go.Ev
open Go.RowKit
section
variable {P : Program} {Γ : Env} {B0 : Nat} {w0 : World} {σ : St} {a : Act} {w : World} {C : Cx} {L : Nat → List Nat}
theorem Rel.write (h : Rel B0 w0 σ a w C L) {k b : Nat} (hL : (L k).head? = some b) (hm : (σ.obj k).mu = true) {w1 : World} (hw : ∀ j, j ≠ b → w1.heap[j]? = w.heap[j]?) (hsz : w1.heap.size = w.heap.size) (hbel : Below B0 w0 w1)
  {e : E} {O : List Nat} (hO : ObR C w1 k e O) (hO1 : ∀ x, wr e O x → ¬ C.N x) (hnd : O.Nodup) (hown : ∀ x ∈ O, B0 ≤ x ∧ x < w.heap.size) (hdj : ∀ j, j ≠ k → ∀ x ∈ O, x ∉ L j) :
  Rel B0 w0 (σ.Jf k e) a w1 C (fun j => if j = k then O else L j) ∧ C.Le w C w1 := by
 have hnb : ¬ C.N b := h.nm k b hm hL
 have hle : C.Le w C w1 := ⟨fun _ _ _ h => h, fun _ h => h, fun _ h => h, fun x hx => hw x (fun e => hnb (e ▸ hx)), fun _ _ _ h => h⟩
 refine ⟨?_, hle⟩
 refine { below := hbel, hB0 := by rw [hsz]; exact h.hB0, defers := h.defers, len := h.len, tm := fun i v hv => ?_, ob := fun j => ?_, us := h.us, nd := fun j => ?_, dj := fun j j' hj x hx => ?_, own := fun j x hx => ?_, nw := fun j x hwr => ?_, CS := fun x hx => by rw [hsz]; exact h.CS x hx }
 ·obtain ⟨c, h1, h2⟩ := h.tm i v hv
  exact ⟨c, h1, h2.le hle⟩
 ·show ObR _ w1 j ((σ.ob.put k e).get j) _
  rw [dO.get_put]
  by_cases hj : j = k
  ·subst hj; simpa using hO
  ·rw [if_neg hj, if_neg hj]
   exact (h.ob j).le hle rfl rfl (fun x hx => hw x (fun e => by subst e; exact h.dj j k hj x hx (List.mem_of_mem_head? hL)))
 ·by_cases hj : j = k
  ·simpa [hj] using hnd
  ·simpa [hj] using h.nd j
 ·by_cases h1 : j = k
  ·subst h1
   have h2 : j' ≠ j := Ne.symm hj
   simp only [if_true, h2, if_false] at hx ⊢
   exact hdj j' h2 x hx
  ·by_cases h2 : j' = k
   ·subst h2
    simp only [h1, if_false, if_true] at hx ⊢
    exact fun hx' => hdj j h1 x hx' hx
   ·simp only [h1, h2, if_false] at hx ⊢
    exact h.dj j j' hj x hx
 ·by_cases hj : j = k
  ·subst hj; simp only [if_true] at hx; rw [hsz]; exact hown x hx
  ·simp only [hj, if_false] at hx; rw [hsz]; exact h.own j x hx
 ·have hg : (σ.Jf k e).obj j = if j = k then e else σ.obj j := by
   show (σ.ob.put k e).get j = _
   rw [dO.get_put]; rfl
  rw [hg] at hwr
  by_cases hj : j = k
  ·subst hj
   simp only [if_true] at hwr
   exact hO1 x hwr
  ·simp only [hj, if_false] at hwr
   exact h.nw j x hwr
theorem Below.setRow' {B : Nat} {x w : World} (h : Below B x w) {g : Nat} (hg : B ≤ g) (cs : Array Value) : Below B x (w.setRow g cs) :=
 h.trans ⟨rfl, rfl, rfl, by simp [World.setRow], fun k hk => setRow_other w g k cs (by omega)⟩
theorem Jh {t : TypeId} {i : TypeInfo} (hi : P.info? t = some i) {b c : Nat} {v : Value} {vs : List Value} {ty : TypeId} {w : World} (hb : w.heap[b]? = some (.cells ⟨vs⟩ ty (0, 0))) (hl : v.cells.toList.length = i.size) (hc : c + i.size ≤ vs.length)
  (h1 : ∀ u ∈ v.cells.toList, u.oneCell' = true) :
  (Instr.storeAt t (.pointer (some ⟨b, c, none⟩)) v).run P w = .ok () (w.setRow b (vs.take c ++ v.cells.toList ++ vs.drop (c + i.size)).toArray) := by
 have hst := run_storeCells_at P b c ty v.cells.toList 0 ⟨vs⟩ w hb (by simpa [hl] using hc) h1
 have hsz : v.cells.size = i.size := by simpa using hl
 simp only [Nat.add_zero, hl] at hst
 simp only [Instr.storeAt, Instr.sureAddr, storeVar, Sem.run_bind, Sem.run_pure, Result.andThen_ok, yu hi, hsz, ne_eq, not_true, if_false]
 exact hst
theorem am0 (s : Sem Unit) {w' w2 : World} (h : s.run P w' = .ok () w2) : (do s; pure .skip : Sem Next).run P w' = .ok .skip w2 := by
 rw [Sem.run_bind, h]; rfl
theorem agC (hT : iG P Γ.ty) (h : Rel B0 w0 σ a w C L) {o : Oper} {t : TypeId} {p y : Operand} (ho : o.op = .store t p y) {b : Nat} {K : St → Option aj} {r : aj} {ty : Ty} (ht : Γ.ty t = some ty) {k c : Nat} (ep : σ.ev p = .pb k c)
  (hp : effect Γ b o σ K = some r) {Q : Exit → Act → World → Prop} : o.wp P a w (U3 Γ.lend B0 w0 o σ w C L b K r) Q := by
 have hpv := h.ev p
 rw [ep] at hpv
 simp only [effect, ho, ht, ep] at hp
 split at hp
 ·rename_i cs eo
  split at hp
  ·cases hp
  ·rename_i us hus
   split at hp
   ·rename_i hl
    split at hp
    ·rename_i hc
     obtain ⟨i, z, hi, hn, _⟩ := (hT t ty ht).info
     obtain ⟨g, vs, ty0, hφ, hL, hb, hcs⟩ := h.box eo
     obtain ⟨k1, k2⟩ := (h.ev y).wX hus
     have hln := k1.length
     have hlc := hcs.length
     have ey := hpv.2.2 g hφ
     have ZI := h.own k g (by rw [hL]; simp)
     have hrun := Jh (P := P) hi hb (c := c) (v := a.eval y) (by rw [← hln, hl, hn]) (by rw [hn]; omega) k2
     rw [hn] at hrun
     have hw : ∀ j, j ≠ g → (w.setRow g (vs.take c ++ (a.eval y).cells.toList ++ vs.drop (c + ty.n)).toArray).heap[j]? = w.heap[j]? := fun j hj => setRow_other w g j _ hj
     have hle : C.Le w C (w.setRow g (vs.take c ++ (a.eval y).cells.toList ++ vs.drop (c + ty.n)).toArray) := ⟨fun _ _ _ h => h, fun _ h => h, fun _ h => h, fun x hx => hw x (fun e => h.nm k g (by rw [eo]; rfl) (by rw [hL]; rfl) (e ▸ hx)), fun _ _ _ h => h⟩
     obtain ⟨g1, g2⟩ := h.write (k := k) (b := g) (by rw [hL]; rfl) (by rw [eo]; rfl) hw (by simp [World.setRow]) (Below.setRow' h.below ZI.1 _)
      (e := .box (cs.take c ++ us ++ cs.drop (c + ty.n))) (O := [g]) ⟨g, _, ty0, hφ, rfl, setRow_heap w g _ _ ty0 _ hb, (((hcs.take c).append k1).append (hcs.drop _)).le hle⟩ (fun x hx => by have hx := hx.2; simp at hx; subst hx; exact h.nm k _ (by rw [eo]; rfl) (by rw [hL]; rfl)) (by simp) (fun x hx => by simp at hx; subst hx; exact ZI)
      (fun j hj x hx => by simp at hx; subst hx; exact h.dj k j (Ne.symm hj) x (by rw [hL]; simp))
     refine Vd (w' := w.setRow g (vs.take c ++ (a.eval y).cells.toList ++ vs.drop (c + ty.n)).toArray) ?_ ⟨⟨_, C, _, hp, g1.put o.dst (v := .x) trivial, g2, fun k hk => .inl hk, jV .., gQ .., kT .., L9.add (L9.refl w C L _) (fun _ => Iff.rfl) (fun x hx _ => .inr ⟨k, by simp [touched, ho, ep], by rw [hL]; exact hx⟩) (fun x hx => .inl ⟨k, by rw [hL]; exact hx⟩)⟩, fun x hx htd => ?_, by simp [World.setRow]⟩
     ·simp only [execOp, ho, ey]
      exact am0 _ hrun
     ·refine hw x (fun e => ?_)
      subst e
      rcases htd with h1 | h1
      ·exact h.nm k x (by rw [eo]; rfl) (by rw [hL]; rfl) h1
      ·exact h1 k (by simp [touched, ho, ep]) (by rw [hL]; simp)
    ·cases hp
   ·cases hp
 ·cases hp
theorem Rw.alr : (r : Rw) → {σ : St} → {C : Cx} → {L : Nat → List Nat} → (h : Rel B0 w0 σ a w C L) → {d : r.T} → {q : Bool} → {vs : List Value} → {F : List Nat} → gK w q r d vs F → {c : Nat} → {us : List V} → {EM : List Value} → iY C w us EM → {e : r.T} → {p : Bool} → {ob' : dO} → r.upd d c us σ.ob = some (e, p, ob') →
  ∃ F1 Fo F2 G C' L', F = F1 ++ Fo ++ F2 ∧ (c = 0 → F1 = []) ∧ gK w (q || !p) r e (vs.take c ++ EM ++ vs.drop (c + EM.length)) (F1 ++ G ++ F2) ∧ FD B0 w0 σ a w C L ob' p G C' L'
 | .one cc, σ, C, L, h, d, q, vs, F, hR, c, us, EM, hv, e, p, ob', hg => by
  cases us with
  | nil =>
   simp only [iY] at hv; subst hv
   simp only [Rw.upd, Option.some.injEq, Prod.mk.injEq] at hg
   obtain ⟨rfl, rfl, rfl⟩ := hg
   exact ⟨[], [], F, [], C, L, by simp, fun _ => rfl, by simpa using hR, FD.refl h _⟩
  | cons u us =>
   cases c with
   | zero =>
    cases us with
    | nil =>
     simp only [Rw.upd] at hg
     obtain ⟨v, vs', h1, h2, h3⟩ := hv
     simp only [iY] at h3
     subst h3; subst h1
     obtain ⟨G, C', L', g1, g2⟩ := Cc.Mc h cc h2 hg
     obtain ⟨v0, e1, _⟩ := hR
     subst e1
     exact ⟨[], F, [], G, C', L', by simp, fun _ => rfl, ⟨v, by simp, by simpa using L8.imp (e' := q || !p) (by cases q <;> cases p <;> simp) cc g1 (fun _ _ => rfl)⟩, g2⟩
    | cons _ _ => simp [Rw.upd] at hg
   | succ c => simp [Rw.upd] at hg
 | .cons cc r, σ, C, L, h, d, q, vs, F, hR, c, us, EM, hv, e, p, ob', hg => by
  cases us with
  | nil =>
   simp only [iY] at hv; subst hv
   simp only [Rw.upd, Option.some.injEq, Prod.mk.injEq] at hg
   obtain ⟨rfl, rfl, rfl⟩ := hg
   exact ⟨[], [], F, [], C, L, by simp, fun _ => rfl, by simpa using hR, FD.refl h _⟩
  | cons u us =>
   obtain ⟨v0, vs0, Fa, Fb, e1, e2, hc0, hr0⟩ := hR
   subst e1; subst e2
   cases c with
   | zero =>
    simp only [Rw.upd] at hg
    obtain ⟨v, vs', h1, h2, h3⟩ := hv
    subst h1
    split at hg
    ·rename_i d1 p1 kN g1
     split at hg
     ·rename_i ds p2 zV g2
      cases hg
      obtain ⟨G1, C1, L1, k1, k2⟩ := Cc.Mc h cc h2 g1
      obtain ⟨F1, Fo, F2, G2, C2, L2, k3, k0, k4, k5⟩ := Rw.alr r k2.rel hr0 (h3.le k2.le) g2
      have k0' := k0 rfl
      subst k0'
      refine ⟨[], Fa ++ Fo, F2, G1 ++ G2, C2, L2, by rw [k3]; simp, fun _ => rfl, ⟨v, vs' ++ vs0.drop vs'.length, G1, G2 ++ F2, by simp, by simp, L8.imp (by cases q <;> cases p1 <;> cases p2 <;> simp) cc k1 (fun _ _ => rfl), ?_⟩, k2.trans k5⟩
      have := gK.imp (e' := q || !(p1 && p2)) (by cases q <;> cases p1 <;> cases p2 <;> simp) r k4 (fun _ _ => rfl)
      simpa using this
     ·cases hg
    ·cases hg
   | succ c =>
    simp only [Rw.upd] at hg
    split at hg
    ·rename_i ds p1 kN g1
     cases hg
     obtain ⟨F1, Fo, F2, G2, C2, L2, k3, k0, k4, k5⟩ := Rw.alr r h hr0 hv g1
     refine ⟨Fa ++ F1, Fo, F2, G2, C2, L2, by rw [k3]; simp, fun h => (nomatch h), ⟨v0, _, Fa, F1 ++ G2 ++ F2, ?_, by simp, L8.imp (by cases q <;> cases p <;> simp) cc hc0 (fun _ _ => rfl), k4⟩, k5⟩
     rw [show c + 1 + EM.length = c + EM.length + 1 by omega]
     simp
    ·cases hg
theorem gJ.atz {δ : Type} {R R' : δ → List Value → List Nat → Prop} {w w' : World} {n b : Nat} : ∀ {xs : List δ} {o : Nat} {F : List Nat}, gJ R w n b xs o F → (∀ q, o ≤ q → w'.cell? ⟨b, q, none⟩ = w.cell? ⟨b, q, none⟩) → (∀ x vs F', (∀ k ∈ F', k ∈ F) → R x vs F' → R' x vs F') → gJ R' w' n b xs o F
 | [], _, _, h, _, _ => h
 | x :: xs, o, F, ⟨vs, F1, F2, hF, hn, hc, hR, hr⟩, hq, hi =>
  ⟨vs, F1, F2, hF, hn, fun j v hj => (hq (o + j) (by omega)).trans (hc j v hj), hi _ _ _ (fun k hk => by rw [hF]; simp [hk]) hR,
   gJ.atz hr (fun q h => hq q (by omega)) (fun x vs F' hk => hi x vs F' (fun k h => by rw [hF]; simp [hk k h]))⟩
theorem gJ.set {δ : Type} {R : δ → List Value → List Nat → Prop} {w : World} {n b : Nat} : ∀ {xs : List δ} {o : Nat} {F : List Nat}, gJ R w n b xs o F → ∀ {i : Nat} {x : δ}, xs[i]? = some x →
  ∃ A Fi B vs, F = A ++ Fi ++ B ∧ vs.length = n ∧ (∀ j v, vs[j]? = some v → w.cell? ⟨b, o + i * n + j, none⟩ = some v) ∧ R x vs Fi ∧
   ∀ (w' : World) (R' : δ → List Value → List Nat → Prop) (x' : δ) (vs' : List Value) (Fi' : List Nat), (∀ x vs F', (∀ k ∈ F', k ∈ A ∨ k ∈ B) → R x vs F' → R' x vs F') → vs'.length = n → R' x' vs' Fi' →
    (∀ j v, vs'[j]? = some v → w'.cell? ⟨b, o + i * n + j, none⟩ = some v) → (∀ q, (q < o + i * n ∨ o + i * n + n ≤ q) → w'.cell? ⟨b, q, none⟩ = w.cell? ⟨b, q, none⟩) → gJ R' w' n b (xs.set i x') o (A ++ Fi' ++ B)
 | [], _, _, _, i, x, e => by simp at e
 | y :: xs, o, F, ⟨vs, F1, F2, hF, hn, hc, hR, hr⟩, i, x, e => by
  cases i with
  | zero =>
   simp at e; subst e
   refine ⟨[], F1, F2, vs, by simpa using hF, hn, fun j v hj => by simpa using hc j v hj, hR, fun w' R' x' vs' Fi' hi hl hR' hc' hq => ?_⟩
   refine ⟨vs', Fi', F2, by simp, hl, fun j v hj => by simpa using hc' j v hj, hR', hr.atz (fun q h => hq q (.inr (by simpa using h))) (fun x vs F' hk => hi x vs F' (fun k h => .inr (hk k h)))⟩
  | succ i =>
   simp at e
   obtain ⟨A, Fi, B, vs', h1, h2, h3, h4, h5⟩ := gJ.set hr e
   have ho : o + (i + 1) * n = o + n + i * n := by rw [Nat.add_mul]; omega
   refine ⟨F1 ++ A, Fi, B, vs', by rw [hF, h1]; simp, h2, fun j v hj => by rw [ho]; exact h3 j v hj, h4, fun w' R' x' vs2 Fi' hi hl hR' hc' hq => ?_⟩
   rw [ho] at hc' hq
   refine ⟨vs, F1, A ++ Fi' ++ B, by simp, hn, fun j v hj => ?_, hi _ _ _ (fun k hk => .inl (by simp [hk])) hR, h5 w' R' x' vs2 Fi' (fun x vs F' hk => hi x vs F' (fun k h => by rcases hk k h with h | h; exact .inl (by simp [h]); exact .inr h)) hl hR' hc' hq⟩
   have hlt : j < vs.length := by
    rcases Nat.lt_or_ge j vs.length with h | h
    ·exact h
    ·rw [List.getElem?_eq_none h] at hj; cases hj
   rw [hq (o + j) (.inl (by omega))]
   exact hc j v hj
theorem als {A F1 Fo F2 B G : List Nat} (h : (A ++ (F1 ++ Fo ++ F2) ++ B).Nodup) (hG : G.Nodup) (hd : ∀ x ∈ G, x ∉ A ++ (F1 ++ Fo ++ F2) ++ B) : (A ++ (F1 ++ G ++ F2) ++ B).Nodup := by
 have p1 : ∀ X : List Nat, (A ++ (F1 ++ X ++ F2) ++ B).Perm (X ++ (A ++ F1 ++ F2 ++ B)) := fun X => by
  rw [List.perm_iff_count]; intro x; simp only [List.count_append]; omega
 rw [(p1 Fo).nodup_iff] at h
 rw [(p1 G).nodup_iff]
 rw [List.nodup_append] at h ⊢
 refine ⟨hG, h.2.1, fun x hx y hy e => ?_⟩
 subst e
 refine hd x hx ?_
 simp only [List.mem_append] at hy ⊢
 rcases hy with ((hy | hy) | hy) | hy <;> simp [hy]
theorem Rw.agD : (r : Rw) → {c : Nat} → r.aiJ c = true → c < r.n
 | .one cc, c, h => by
  simp only [Rw.aiJ, Bool.and_eq_true] at h
  have := Nat.eq_of_beq_eq_true h.1
  subst this
  simp [Rw.n]
 | .cons cc r, c, h => by
  cases c with
  | zero => simp [Rw.n]
  | succ c => have := Rw.agD r (c := c) h; simp [Rw.n]; omega
theorem Cc.am1 {w : World} {e : Bool} : (cc : Cc) → {d d' : cc.T} → {v : Value} → {F : List Nat} → L8 w e cc d v F → {u : Value} → {p : Bool} → {ob ob' : dO} → cc.give (.s u) ob = some (d', p, ob') → cc.flat = true ∧ L8 w e cc d' u F
 | .int k, d, d', v, F, h, u, p, ob, ob', hg => by
  cases u <;> simp only [Cc.give, reduceCtorEq] at hg
  split at hg
  ·rename_i hk; subst hk; cases hg; exact ⟨rfl, rfl, h.2⟩
  ·cases hg
 | .bool, d, d', v, F, h, u, p, ob, ob', hg => by
  cases u <;> simp only [Cc.give, reduceCtorEq] at hg
  cases hg; exact ⟨rfl, rfl, h.2⟩
 | .str, d, d', v, F, h, u, p, ob, ob', hg => by
  cases u <;> simp only [Cc.give, reduceCtorEq] at hg
  cases hg; exact ⟨rfl, rfl, h.2⟩
 | .sl r, d, d', v, F, h, u, p, ob, ob', hg => by
  simp [Cc.give] at hg
theorem Rw.apI {w : World} {e : Bool} : (r : Rw) → {d d' : r.T} → {vs : List Value} → {F : List Nat} → gK w e r d vs F → {c : Nat} → {u : Value} → {p : Bool} → {ob ob' : dO} → r.upd d c [.s u] ob = some (d', p, ob') → r.aiJ c = false ∧ gK w e r d' (vs.take c ++ [u] ++ vs.drop (c + 1)) F
 | .one cc, d, d', vs, F, ⟨v, h1, h2⟩, c, u, p, ob, ob', hg => by
  cases c with
  | zero =>
   simp only [Rw.upd] at hg
   subst h1
   obtain ⟨g1, g2⟩ := Cc.am1 cc h2 hg
   exact ⟨by simp [Rw.aiJ, g1], u, by simp, g2⟩
  | succ c => simp [Rw.upd] at hg
 | .cons cc r, d, d', vs, F, ⟨v, vs', F1, F2, h1, h2, h3, h4⟩, c, u, p, ob, ob', hg => by
  subst h1
  cases c with
  | zero =>
   simp only [Rw.upd] at hg
   split at hg
   ·rename_i e1 p1 kN g1
    cases hg
    obtain ⟨k1, k2⟩ := Cc.am1 cc h3 g1
    exact ⟨by simp [Rw.aiJ, k1], u, vs', F1, F2, by simp, h2, k2, h4⟩
   ·cases hg
  | succ c =>
   simp only [Rw.upd] at hg
   split at hg
   ·rename_i es p1 kN g1
    cases hg
    obtain ⟨k1, k2⟩ := Rw.apI r h4 g1
    exact ⟨k1, v, _, F1, F2, by simp, h2, h3, k2⟩
   ·cases hg
theorem Cc.QT {C : Cx} {w w' : World} : (cc : Cc) → {d' : cc.T} → {u : V} → {cv : Value} → {p : Bool} → {ob ob' : dO} → amW u = true → VR C w u cv → cc.give u ob = some (d', p, ob') → L8 w' false cc d' cv []
 | cc, d', u, cv, p, ob, ob', hu, hv, hg => by
  cases u with
  | s v =>
   obtain rfl : cv = v := hv.1
   cases cc with
   | int k =>
    cases cv <;> simp only [Cc.give, reduceCtorEq] at hg
    split at hg
    ·rename_i hk; subst hk; cases hg; exact ⟨rfl, rfl⟩
    ·cases hg
   | bool => cases cv <;> simp only [Cc.give, reduceCtorEq] at hg; cases hg; exact ⟨rfl, rfl⟩
   | str => cases cv <;> simp only [Cc.give, reduceCtorEq] at hg; cases hg; exact ⟨rfl, rfl⟩
   | sl r => simp [Cc.give] at hg
  | nl =>
   obtain rfl : cv = .slice none 0 0 := hv
   cases cc with
   | sl r =>
    simp only [Cc.give] at hg
    cases hg
    exact .inl ⟨rfl, rfl, none, 0, rfl, fun _ => ⟨rfl, rfl⟩⟩
   | int k => simp [Cc.give] at hg
   | bool => simp [Cc.give] at hg
   | str => simp [Cc.give] at hg
  | _ => cases hu
theorem Rw.QT {C : Cx} {w w' : World} : (r : Rw) → {d' : r.T} → {us : List V} → {EM : List Value} → {p : Bool} → {ob ob' : dO} → us.all amW = true → iY C w us EM → r.give us ob = some (d', p, ob') → gK w' false r d' EM [] ∧ EM.length = r.n
 | .one c, d', us, EM, p, ob, ob', hu, hv, hg => by
  match us, hv with
  | [u], ⟨v, vs', e, h1, h2⟩ =>
   obtain rfl : vs' = [] := h2
   subst e
   simp only [List.all_cons, List.all_nil, Bool.and_true] at hu
   exact ⟨⟨v, rfl, Cc.QT c hu h1 hg⟩, rfl⟩
  | [], _ => simp [Rw.give] at hg
  | _ :: _ :: _, _ => simp [Rw.give] at hg
 | .cons c r, d', us, EM, p, ob, ob', hu, hv, hg => by
  match us, hv with
  | [], _ => simp [Rw.give] at hg
  | u :: us, ⟨v, vs', e, h1, h2⟩ =>
   subst e
   simp only [List.all_cons, Bool.and_eq_true] at hu
   simp only [Rw.give] at hg
   split at hg
   ·rename_i d1 p1 kN g1
    split at hg
    ·rename_i d2 p2 zV g2
     cases hg
     obtain ⟨q1, q2⟩ := Rw.QT r hu.2 h2 g2
     exact ⟨⟨v, vs', [], [], rfl, rfl, Cc.QT c hu.1 h1 g1, q1⟩, by rw [List.length_cons, q2]; simp [Rw.n]⟩
    ·cases hg
   ·cases hg
theorem agE (hT : iG P Γ.ty) (h : Rel B0 w0 σ a w C L) {o : Oper} {t : TypeId} {p y : Operand} (ho : o.op = .store t p y) {b : Nat} {K : St → Option aj} {rr : aj} {ty : Ty} (ht : Γ.ty t = some ty) {k i : Nat} (ep : σ.ev p = .pa k i 0) {st : Bool} {rZ : Rw} {xs : List rZ.T} (eo : σ.obj k = .own st rZ xs)
  {us us' : List V} (eu : (σ.ev y).wX = some us) (hfl : us.all amW = true) {e : rZ.T} {pp : Bool} {ob' : dO} (hg : rZ.give us [] = some (e, pp, ob')) (hn1 : ty.n = rZ.n)
  (hp : K (St.put { σ with ob := σ.ob.put k (.own false rZ (xs.set i e)) } o.dst .x) = some rr) {Q : Exit → Act → World → Prop} : o.wp P a w (U3 Γ.lend B0 w0 o σ w C L b K rr) Q := by
 have hpv := h.ev p
 rw [ep] at hpv
 obtain ⟨ti, z, hi, hn, _⟩ := (hT t ty ht).info
 obtain ⟨cv, hφ, hF, hHs⟩ := h.ab3 eo
 obtain ⟨hyv, hone⟩ := (h.ev y).wX eu
 obtain ⟨EM, arv⟩ : ∃ EM, EM = (a.eval y).cells.toList := ⟨_, rfl⟩
 rw [← arv] at hyv hone
 obtain ⟨g, x0, l0, cap0, ecv, hil, ey⟩ := hpv.2.2 cv _ hφ
 rcases hF with ⟨h5, _, ad, cap', h6, _⟩ | ⟨g', x', cap', F', h5, h6, hFe, h7, h8, h9⟩
 ·rw [ecv] at h6; injection h6 with _ e6 _; omega
 ·rw [ecv] at h5
  injection h5 with e3 e4 e5
  injection e3 with e3
  injection e3 with e3 e6
  subst e3; subst e4; subst e5; subst e6
  obtain ⟨cur, ety, hb, hcs⟩ := h8 rfl
  have hxi : xs[i]? = some xs[i] := List.getElem?_eq_getElem hil
  obtain ⟨A, Fi, B, vs, s1, s2, s3, s4, s5⟩ := h9.set hxi
  have hLk : (L k).head? = some g := by rw [hFe]; rfl
  have ZI := h.own k g (List.mem_of_mem_head? hLk)
  have hcl : EM.length = rZ.n := (Rw.QT (w' := w) rZ hfl hyv hg).2
  have hoff : x0 + i * rZ.n + rZ.n ≤ cur.size := by
   have : (i + 1) * rZ.n ≤ cap0 * rZ.n := Nat.mul_le_mul_right _ (by omega)
   rw [Nat.succ_mul] at this
   omega
  have hrun := Jh (P := P) hi (vs := cur.toList) hb (c := x0 + i * rZ.n + 0) (v := a.eval y) (by rw [← arv, hcl, hn, hn1]) (by rw [hn, hn1, Array.length_toList]; omega) (by rw [← arv]; exact hone)
  rw [hn, hn1, ← arv, Nat.add_zero] at hrun
  let new : List Value := cur.toList.take (x0 + i * rZ.n) ++ EM ++ cur.toList.drop (x0 + i * rZ.n + rZ.n)
  have hnew : ∀ q, (w.setRow g new.toArray).cell? ⟨g, q, none⟩ = new[q]? := fun q => by
   have := setRow_heap w g cur new.toArray ety (0, 0) hb
   simp [World.cell?, this]
  have ab9 : new.length = cur.size := by simp [new, hcl]; omega
  have hw : ∀ j, j ≠ g → (w.setRow g new.toArray).heap[j]? = w.heap[j]? := fun j hj => setRow_other w g j _ hj
  have hout : ∀ q, (q < x0 + i * rZ.n ∨ x0 + i * rZ.n + rZ.n ≤ q) → new[q]? = cur.toList[q]? := by
   intro q hq
   rcases hq with hq | hq
   ·simp only [new]
    rw [List.append_assoc, List.getElem?_append_left (by simp; omega), List.getElem?_take, if_pos hq]
   ·simp only [new]
    rw [List.getElem?_append_right (by simp [hcl]; omega), List.getElem?_drop]
    congr 1
    simp [hcl]; omega
  have hmid : ∀ j v, EM[j]? = some v → new[x0 + i * rZ.n + j]? = some v := by
   intro j v hj
   have hjl := (List.getElem?_eq_some_iff.1 hj).1
   simp only [new]
   rw [List.append_assoc, List.getElem?_append_right (by simp; omega), List.getElem?_append_left (by simp; omega)]
   rw [← hj]; congr 1; simp; omega
  have hgn := h.nm k g (by rw [eo]; rfl) hLk
  have anX : F'.Nodup ∧ g ∉ F' := by
   have := h.nd k
   rw [hFe] at this
   exact ⟨(List.nodup_cons.1 this).2, (List.nodup_cons.1 this).1⟩
  have hsub : ∀ x ∈ A ++ B, x ∈ F' := fun x hx => by rw [s1]; simp only [List.mem_append] at hx ⊢; rcases hx with hx | hx <;> simp [hx]
  have hrows : gJ (gK (w.setRow g new.toArray) false rZ) (w.setRow g new.toArray) rZ.n g (xs.set i e) x0 (A ++ [] ++ B) :=
   s5 _ _ e EM [] (fun x vs F1 hk hR => gK.imp (fun h => h) rZ hR (fun x' hx' => hw x' (fun e => anX.2 (e ▸ hsub x' (by rcases hk x' hx' with h | h <;> simp [h]))))) hcl (Rw.QT rZ hfl hyv hg).1 (fun j v hj => by rw [hnew]; exact hmid j v hj) (fun q hq' => by
    rw [hnew, hout q hq']
    simp [World.cell?, hb])
  have aiN : ∀ x ∈ g :: (A ++ [] ++ B), x ∈ L k := fun x hx => by
   rw [hFe]
   rcases List.mem_cons.1 hx with rfl | hx
   ·simp
   ·exact List.mem_cons_of_mem _ (hsub x (by simpa using hx))
  obtain ⟨g1, g2⟩ := h.write (k := k) (b := g) hLk (by rw [eo]; rfl) hw (by simp [World.setRow]) (Below.setRow' h.below ZI.1 _)
   (e := .own false rZ (xs.set i e)) (O := g :: (A ++ [] ++ B))
   ⟨cv, hφ, .inr ⟨g, x0, cap0, A ++ [] ++ B, by simp [ecv], by simpa using h6, rfl, by simpa [World.setRow] using h7, fun _ => ⟨new.toArray, ety, setRow_heap w g _ _ ety _ hb, by simp only [List.size_toArray, ab9]; omega⟩, hrows⟩, fun hst => by cases hst⟩
   (fun x hx => h.nw k x (by rw [eo]; exact aiN x hx)) (by
    have q1 := anX.1
    rw [s1] at q1
    refine List.nodup_cons.2 ⟨fun hx => anX.2 (hsub g (by simpa using hx)), ?_⟩
    simp only [List.append_nil]
    exact q1.sublist (by simp)) (fun x hx => h.own k x (aiN x hx)) (fun j hj x hx => h.dj k j (Ne.symm hj) x (aiN x hx))
  refine Vd (w' := w.setRow g new.toArray) ?_ ⟨⟨_, C, _, hp, g1.put o.dst (v := .x) trivial, g2, fun k hk => .inl hk, jV .., gQ .., kT .., L9.add (L9.refl w C L _) (fun _ => Iff.rfl) (fun x hx hn => .inr ⟨k, by simp [touched, ho, ep], aiN x hx⟩) (fun x hx => .inl ⟨k, aiN x hx⟩)⟩, fun x hx htd => ?_, by simp [World.setRow]⟩
  ·simp only [execOp, ho, ey, Nat.add_zero]
   refine am0 _ ?_
   exact hrun
  ·refine hw x (fun e => ?_)
   subst e
   rcases htd with h1 | h1
   ·exact hgn h1
   ·exact h1 k (by simp [touched, ho, ep]) (List.mem_of_mem_head? hLk)
theorem agF (hT : iG P Γ.ty) (h : Rel B0 w0 σ a w C L) {o : Oper} {t : TypeId} {p y : Operand} (ho : o.op = .store t p y) {b : Nat} {K : St → Option aj} {r : aj} {ty : Ty} (ht : Γ.ty t = some ty) {k i c : Nat} (ep : σ.ev p = .pa k i c)
  (hp : effect Γ b o σ K = some r) {Q : Exit → Act → World → Prop} : o.wp P a w (U3 Γ.lend B0 w0 o σ w C L b K r) Q := by
 have hpv := h.ev p
 rw [ep] at hpv
 simp only [effect, ho, ht, ep] at hp
 split at hp
 ·rename_i deep rZ xs eo
  split at hp
  ·cases hp
  ·rename_i us hus
   split at hp
   ·rename_i hl
    split at hp
    ·rename_i hc
     split at hp
     ·rename_i e pp ob' hu
      split at hp
      ·rename_i hmu
       obtain ⟨ti, z, hi, hn, _⟩ := (hT t ty ht).info
       obtain ⟨cv, F, hφ, hF, hN, hO⟩ := h.arr eo
       obtain ⟨k1, k2⟩ := (h.ev y).wX hus
       have hln := k1.length
       obtain ⟨g, x0, l0, cap0, ecv, hil, ey⟩ := hpv.2.2 cv _ hφ
       rcases hF with ⟨h5, _, ad, cap', h6, _⟩ | ⟨g', x', cap', F', h5, h6, hFe, h7, h8, h9⟩
       ·rw [ecv] at h6; injection h6 with _ e6 _; omega
       ·rw [ecv] at h5
        injection h5 with e3 e4 e5
        injection e3 with e3
        injection e3 with e3 e6
        subst e3; subst e4; subst e5; subst e6
        obtain ⟨cur, ety, hb, hcs⟩ := h8 rfl
        have hxi : xs[i]? = some xs[i] := List.getElem?_eq_getElem hil
        have hd : xs.getD i rZ.dflt = xs[i] := by rw [List.getD_eq_getElem?_getD, hxi]; rfl
        rw [hd] at hu
        obtain ⟨A, Fi, B, vs, s1, s2, s3, s4, s5⟩ := h9.set hxi
        obtain ⟨F1, Fo, F2, G, C1, L1, u1, _, u2, u3⟩ := Rw.alr rZ h s4 k1 hu
        have hmk := u3.mus k hmu
        have hLk : (L k).head? = some g := by
         rw [if_pos rfl] at hO
         split at hO <;> rw [hO, hFe] <;> rfl
        have ZI := h.own k g (List.mem_of_mem_head? hLk)
        have hnl : (a.eval y).cells.toList.length = ty.n := by rw [← hln, hl]
        have hvl : vs.length = rZ.n := s2
        have hoff : x0 + i * rZ.n + rZ.n ≤ cur.size := by
         have : (i + 1) * rZ.n ≤ cap0 * rZ.n := Nat.mul_le_mul_right _ (by omega)
         rw [Nat.succ_mul] at this
         omega
        have hrun := Jh (P := P) hi (vs := cur.toList) hb (c := x0 + i * rZ.n + c) (v := a.eval y) (by rw [hnl, hn]) (by rw [hn, Array.length_toList]; omega) k2
        rw [hn] at hrun
        have hcur : (cur.toList.drop (x0 + i * rZ.n)).take rZ.n = vs := by
         apply List.ext_getElem?
         intro j
         rw [List.getElem?_take]
         split
         ·rename_i hj
          rw [List.getElem?_drop]
          have hv : vs[j]? = some vs[j] := List.getElem?_eq_getElem (by omega)
          have := s3 j _ hv
          simp only [World.cell?, hb] at this
          rw [hv, Array.getElem?_toList]
          simpa using this
         ·rename_i hj
          rw [List.getElem?_eq_none (by omega)]
        let new : List Value := cur.toList.take (x0 + i * rZ.n + c) ++ (a.eval y).cells.toList ++ cur.toList.drop (x0 + i * rZ.n + c + ty.n)
        have hnew : ∀ q, (w.setRow g new.toArray).cell? ⟨g, q, none⟩ = new[q]? := fun q => by
         have := setRow_heap w g cur new.toArray ety (0, 0) hb
         simp [World.cell?, this]
        have ab9 : new.length = cur.size := by simp [new, hnl]; omega
        have hw : ∀ j, j ≠ g → (w.setRow g new.toArray).heap[j]? = w.heap[j]? := fun j hj => setRow_other w g j _ hj
        have hout : ∀ q, (q < x0 + i * rZ.n + c ∨ x0 + i * rZ.n + c + ty.n ≤ q) → new[q]? = cur.toList[q]? := by
         intro q hq
         rcases hq with hq | hq
         ·simp only [new]
          rw [List.append_assoc, List.getElem?_append_left (by simp; omega), List.getElem?_take, if_pos hq]
         ·simp only [new]
          rw [List.getElem?_append_right (by simp [hnl]; omega), List.getElem?_drop]
          congr 1
          simp [hnl]; omega
        have hmid : ∀ j v, (vs.take c ++ (a.eval y).cells.toList ++ vs.drop (c + (a.eval y).cells.toList.length))[j]? = some v → new[x0 + i * rZ.n + j]? = some v := by
         intro j v hj
         rw [hnl] at hj
         by_cases h1 : j < c
         ·rw [List.append_assoc, List.getElem?_append_left (by simp; omega), List.getElem?_take, if_pos h1] at hj
          rw [hout _ (.inl (by omega)), ← hj, ← hcur, List.getElem?_take, if_pos (by omega), List.getElem?_drop]
         ·by_cases h2 : j < c + ty.n
          ·rw [List.append_assoc, List.getElem?_append_right (by simp; omega), List.getElem?_append_left (by simp [hnl]; omega)] at hj
           simp only [new]
           rw [List.append_assoc, List.getElem?_append_right (by simp; omega), List.getElem?_append_left (by simp [hnl]; omega), ← hj]
           congr 1
           simp; omega
          ·rw [List.getElem?_append_right (by simp [hnl]; omega), List.getElem?_drop] at hj
           have hj' : vs[j]? = some v := by
            rw [← hj]; congr 1; simp [hnl]; omega
           have hjl : j < rZ.n := by
            rcases Nat.lt_or_ge j vs.length with h | h
            ·omega
            ·rw [List.getElem?_eq_none h] at hj'; cases hj'
           rw [hout _ (.inr (by omega)), ← hj', ← hcur, List.getElem?_take, if_pos hjl, List.getElem?_drop]
        have hFN : ∀ x ∈ A ++ Fi ++ B, C.N x := fun x hx => hN x (by rw [hFe]; simpa [s1] using hx)
        have hle1 := u3.le
        have asx : ¬ C1.N g := u3.rel.nm k g hmu (by rw [hmk.2]; exact hLk)
        have hle : C1.Le w C1 (w.setRow g new.toArray) := ⟨fun _ _ _ h => h, fun _ h => h, fun _ h => h, fun x hx => hw x (fun e => asx (e ▸ hx)), fun _ _ _ h => h⟩
        have hNew : ∀ x ∈ A ++ (F1 ++ G ++ F2) ++ B, C1.N x := by
         intro x hx
         simp only [List.mem_append] at hx
         rcases hx with (hx | (hx | hx) | hx) | hx
         ·exact hle1.N x (hFN x (by simp [hx]))
         ·exact hle1.N x (hFN x (by simp [u1, hx]))
         ·exact u3.N x hx
         ·exact hle1.N x (hFN x (by simp [u1, hx]))
         ·exact hle1.N x (hFN x (by simp [hx]))
        have hq : (!(true && deep) || !pp) = !(deep && pp) := by cases deep <;> cases pp <;> rfl
        have hrows : gJ (gK (w.setRow g new.toArray) (!(true && (deep && pp))) rZ) (w.setRow g new.toArray) rZ.n g (xs.set i e) x0 (A ++ (F1 ++ G ++ F2) ++ B) := by
         refine s5 _ _ e (vs.take c ++ (a.eval y).cells.toList ++ vs.drop (c + (a.eval y).cells.toList.length)) (F1 ++ G ++ F2) (fun x vs F' hk hR => gK.imp (by cases deep <;> cases pp <;> simp) rZ hR (fun x' hx' => hle.w x' (hle1.N x' (hFN x' (by rcases hk x' hx' with h | h <;> simp [h]))))) (by simp only [List.length_append, List.length_take, List.length_drop, hvl, hnl]; omega) ?_ (fun j v hj => by rw [hnew]; exact hmid j v hj) (fun q hq' => ?_)
         ·refine gK.imp (by cases deep <;> cases pp <;> simp) rZ u2 (fun x' hx' => hle.w x' (hNew x' ?_))
          simp only [List.mem_append] at hx' ⊢
          rcases hx' with (h | h) | h <;> simp [h]
         ·rw [hnew, hout q (by omega)]
          simp [World.cell?, hb]
        let O : List Nat := if deep && pp then g :: (A ++ (F1 ++ G ++ F2) ++ B) else [g]
        have hgF : ∀ x ∈ A ++ (F1 ++ G ++ F2) ++ B, x ≠ g := fun x hx e => asx (e ▸ hNew x hx)
        have asy : deep = true → L k = g :: (A ++ Fi ++ B) := fun hd => by
         rw [if_pos rfl, if_pos hd] at hO
         rw [hO, hFe, s1]
        have auX : O.Nodup := by
         cases hdp : (deep && pp) with
         | false => simp [O, hdp]
         | true =>
          simp only [O, hdp, if_true]
          simp only [Bool.and_eq_true] at hdp
          have atB := h.nd k
          rw [asy hdp.1, u1] at atB
          have hnd1 := (List.nodup_cons.1 atB).2
          refine List.nodup_cons.2 ⟨fun hx => hgF g hx rfl, ?_⟩
          have hG := u3.nd hdp.2
          have hGL : ∀ x ∈ G, x ∉ L k := fun x hx => by rw [← hmk.2]; exact u3.off hdp.2 x hx k
          rw [asy hdp.1, u1] at hGL
          exact als hnd1 hG (fun x hx hx' => hGL x hx (List.mem_cons_of_mem _ hx'))
        have hL1 : ∀ x ∈ O, x ∈ L k ∨ (pp = true ∧ x ∈ G) := by
         intro x hx
         cases hdp : (deep && pp) with
         | false => simp [O, hdp] at hx; subst hx; exact .inl (List.mem_of_mem_head? hLk)
         | true =>
          simp only [O, hdp, if_true] at hx
          simp only [Bool.and_eq_true] at hdp
          rw [asy hdp.1, u1]
          simp only [List.mem_append, List.mem_cons] at hx ⊢
          rcases hx with hx | (hx | (hx | hx) | hx) | hx
          ·exact .inl (.inl hx)
          ·exact .inl (.inr (.inl (.inl hx)))
          ·exact .inl (.inr (.inl (.inr (.inl (.inl hx)))))
          ·exact .inr ⟨hdp.2, hx⟩
          ·exact .inl (.inr (.inl (.inr (.inr hx))))
          ·exact .inl (.inr (.inr hx))
        have atC : ∀ x ∈ O, B0 ≤ x ∧ x < w.heap.size := by
         intro x hx
         rcases hL1 x hx with h1 | ⟨h1, h2⟩
         ·exact h.own k x h1
         ·obtain ⟨k', hk'⟩ := u3.from_ h1 x h2
          exact h.own k' x hk'
        obtain ⟨g1, g2⟩ := u3.rel.write (k := k) (b := g) (by rw [hmk.2]; exact hLk) hmu hw (by simp [World.setRow]) (Below.setRow' h.below ZI.1 _)
         (e := .arr true (deep && pp) rZ (xs.set i e)) (O := O)
         ⟨.slice (some ⟨g, x0, none⟩) xs.length cap0, g :: (A ++ (F1 ++ G ++ F2) ++ B), by rw [u3.φ, hφ, ecv], .inr ⟨g, x0, cap0, A ++ (F1 ++ G ++ F2) ++ B, by simp, by simpa using h6, rfl, by simpa [World.setRow] using h7, fun _ => ⟨new.toArray, ety, setRow_heap w g _ _ ety _ hb, by simp only [List.size_toArray, ab9]; omega⟩, hrows⟩,
          fun x hx => hNew x (by simpa using hx), by
          rw [if_pos rfl]
          cases hdp : (deep && pp) <;> simp [O, hdp]⟩
         (fun x hx => by
          have hx := hx.2
          have : x = g := by cases hdp : (deep && pp) <;> simp [O, hdp] at hx <;> exact hx.symm
          rw [this]; exact asx) auX atC
         (fun j hj x hx => by
          rcases hL1 x hx with h1 | ⟨h1, h2⟩
          ·exact fun hx' => h.dj k j (Ne.symm hj) x h1 (u3.sub j x hx')
          ·exact u3.off h1 x h2 j)
        refine Vd (w' := w.setRow g new.toArray) ?_ ⟨⟨_, C1, _, hp, g1.put o.dst (v := .x) trivial, hle1.trans g2, fun k hk => .inl (by rw [u3.U] at hk; exact hk), jV .., gQ .., kT .., L9.add (u3.org _) (fun _ => Iff.rfl) (fun x hx hn => .inr ⟨k, by simp [touched, ho, ep], ?_⟩) (fun x hx => .inl ?_)⟩, fun x hx htd => ?_, by simp [World.setRow]⟩
        ·simp only [execOp, ho, ey]
         refine am0 _ ?_
         exact hrun
        ·have : x = g := by
          cases hdp : (deep && pp) with
          | false => simp [O, hdp] at hx; exact hx
          | true =>
           simp only [O, hdp, if_true] at hx
           rcases List.mem_cons.1 hx with hx | hx
           ·exact hx
           ·exact absurd (hNew x hx) hn
         rw [this]; exact List.mem_of_mem_head? hLk
        ·rcases hL1 x hx with h1 | ⟨h1, h2⟩
         ·exact ⟨k, h1⟩
         ·exact u3.from_ h1 x h2
        ·refine hw x (fun e => ?_)
         subst e
         rcases htd with h1 | h1
         ·exact h.nm k x (by rw [eo]; rfl) hLk h1
         ·exact h1 k (by simp [touched, ho, ep]) (List.mem_of_mem_head? hLk)
      ·cases hp
     ·cases hp
    ·cases hp
   ·cases hp
 ·rename_i st rZ xs eo
  split at hp
  ·rename_i u eu
   split at hp
   ·rename_i hn1
    split at hp
    ·rename_i hc
     split at hp
     ·rename_i e pp ob' hu
      obtain ⟨ti, z, hi, hn, _⟩ := (hT t ty ht).info
      obtain ⟨cv, hφ, hF, hHs⟩ := h.ab3 eo
      have hyv := h.ev y
      rw [eu] at hyv
      have eyv : a.eval y = u := hyv.1
      have hone : u.cells.toList = [u] := kE hyv.2
      obtain ⟨g, x0, l0, cap0, ecv, hil, ey⟩ := hpv.2.2 cv _ hφ
      rcases hF with ⟨h5, _, ad, cap', h6, _⟩ | ⟨g', x', cap', F', h5, h6, hFe, h7, h8, h9⟩
      ·rw [ecv] at h6; injection h6 with _ e6 _; omega
      ·rw [ecv] at h5
       injection h5 with e3 e4 e5
       injection e3 with e3
       injection e3 with e3 e6
       subst e3; subst e4; subst e5; subst e6
       obtain ⟨cur, ety, hb, hcs⟩ := h8 rfl
       have hxi : xs[i]? = some xs[i] := List.getElem?_eq_getElem hil
       have hd : xs.getD i rZ.dflt = xs[i] := by rw [List.getD_eq_getElem?_getD, hxi]; rfl
       rw [hd] at hu
       obtain ⟨A, Fi, B, vs, s1, s2, s3, s4, s5⟩ := h9.set hxi
       have hLk : (L k).head? = some g := by rw [hFe]; rfl
       have ZI := h.own k g (List.mem_of_mem_head? hLk)
       have hvl : vs.length = rZ.n := s2
       obtain ⟨hsl, auY⟩ := Rw.apI rZ s4 hu
       have hoff : x0 + i * rZ.n + rZ.n ≤ cur.size := by
        have : (i + 1) * rZ.n ≤ cap0 * rZ.n := Nat.mul_le_mul_right _ (by omega)
        rw [Nat.succ_mul] at this
        omega
       have hrun := Jh (P := P) hi (vs := cur.toList) hb (c := x0 + i * rZ.n + c) (v := a.eval y) (by rw [eyv, hone, hn, hn1]; rfl) (by rw [hn, hn1, Array.length_toList]; omega) (by rw [eyv, hone]; intro q hq; simp at hq; subst hq; exact hyv.2)
       rw [hn, hn1, eyv, hone] at hrun
       let new : List Value := cur.toList.take (x0 + i * rZ.n + c) ++ [u] ++ cur.toList.drop (x0 + i * rZ.n + c + 1)
       have hnew : ∀ q, (w.setRow g new.toArray).cell? ⟨g, q, none⟩ = new[q]? := fun q => by
        have := setRow_heap w g cur new.toArray ety (0, 0) hb
        simp [World.cell?, this]
       have ab9 : new.length = cur.size := by simp [new]; omega
       have hw : ∀ j, j ≠ g → (w.setRow g new.toArray).heap[j]? = w.heap[j]? := fun j hj => setRow_other w g j _ hj
       have hout : ∀ q, q ≠ x0 + i * rZ.n + c → new[q]? = cur.toList[q]? := by
        intro q hq
        rcases Nat.lt_or_gt_of_ne hq with hq | hq
        ·simp only [new]
         rw [List.append_assoc, List.getElem?_append_left (by simp; omega), List.getElem?_take, if_pos hq]
        ·simp only [new]
         rw [List.getElem?_append_right (by simp; omega), List.getElem?_drop]
         congr 1
         simp; omega
       have hat : new[x0 + i * rZ.n + c]? = some u := by
        simp only [new]
        rw [List.append_assoc, List.getElem?_append_right (by simp; omega)]
        have : x0 + i * rZ.n + c - (List.take (x0 + i * rZ.n + c) cur.toList).length = 0 := by simp; omega
        rw [this]; rfl
       have hmid : ∀ j v, (vs.take c ++ [u] ++ vs.drop (c + 1))[j]? = some v → new[x0 + i * rZ.n + j]? = some v := by
        intro j v hj
        by_cases h1 : j = c
        ·subst h1
         rw [hat]
         rw [List.append_assoc, List.getElem?_append_right (by simp; omega)] at hj
         have : j - (List.take j vs).length = 0 := by simp; omega
         rw [this] at hj
         exact hj
        ·have hj' : vs[j]? = some v := by
          rcases Nat.lt_or_gt_of_ne h1 with h2 | h2
          ·rw [List.append_assoc, List.getElem?_append_left (by simp; omega), List.getElem?_take, if_pos h2] at hj
           exact hj
          ·rw [List.getElem?_append_right (by simp; omega), List.getElem?_drop] at hj
           rw [← hj]; congr 1; simp; omega
         rw [hout _ (by omega)]
         have := s3 j v hj'
         simp only [World.cell?, hb] at this
         rw [Array.getElem?_toList]
         simpa using this
       have hgn := h.nm k g (by rw [eo]; rfl) hLk
       have hsub : ∀ x ∈ A ++ Fi ++ B, x ≠ g := fun x hx e => by
        have := h.nd k
        rw [hFe] at this
        exact (List.nodup_cons.1 this).1 (by rw [s1, ← e]; exact hx)
       have hrows : gJ (gK (w.setRow g new.toArray) false rZ) (w.setRow g new.toArray) rZ.n g (xs.set i e) x0 (A ++ Fi ++ B) := by
        refine s5 _ _ e (vs.take c ++ [u] ++ vs.drop (c + 1)) Fi (fun x vs F' hk hR => gK.imp (fun h => h) rZ hR (fun x' hx' => hw x' (hsub x' (by rcases hk x' hx' with h | h <;> simp [h])))) (by simp only [List.length_append, List.length_take, List.length_drop, hvl, List.length_singleton]; omega) (gK.imp (fun h => h) rZ auY (fun x' hx' => hw x' (hsub x' (by simp [hx'])))) (fun j v hj => by rw [hnew]; exact hmid j v hj) (fun q hq' => ?_)
        rw [hnew, hout q (by omega)]
        simp [World.cell?, hb]
       obtain ⟨g1, g2⟩ := h.write (k := k) (b := g) hLk (by rw [eo]; rfl) hw (by simp [World.setRow]) (Below.setRow' h.below ZI.1 _)
        (e := .own st rZ (xs.set i e)) (O := L k)
        ⟨cv, hφ, .inr ⟨g, x0, cap0, A ++ Fi ++ B, by simp [ecv], by simpa using h6, by rw [hFe, s1], by simpa [World.setRow] using h7, fun _ => ⟨new.toArray, ety, setRow_heap w g _ _ ety _ hb, by simp only [List.size_toArray, ab9]; omega⟩, hrows⟩, fun hst => by
         obtain ⟨f, q1, q2⟩ := hHs hst
         refine ⟨f, q1, fun b' o' L' cap'' e' i' j' hi' hj' => ?_⟩
         have e0 := e'
         rw [ecv] at e0
         injection e0 with e0
         injection e0 with e0
         injection e0 with e0 e01
         have hx := q2 b' o' L' cap'' e' i' j' (by simpa using hi') hj'
         rw [← e0, ← e01] at hx ⊢
         rw [hnew, hout]
         ·simp only [World.cell?, hb] at hx
          rw [Array.getElem?_toList]
          simpa using hx
         ·intro hq
          have hjn : j' < rZ.n := Rw.agD rZ hj'
          have : i' = i ∧ j' = c := by
           rcases Nat.lt_trichotomy i' i with h1 | h1 | h1
           ·have : (i' + 1) * rZ.n ≤ i * rZ.n := Nat.mul_le_mul_right _ h1
            rw [Nat.succ_mul] at this; omega
           ·subst h1; exact ⟨rfl, by omega⟩
           ·have : (i + 1) * rZ.n ≤ i' * rZ.n := Nat.mul_le_mul_right _ h1
            rw [Nat.succ_mul] at this; omega
          rw [this.2] at hj'
          rw [hsl] at hj'; cases hj'⟩
        (fun x hx => h.nw k x (by rw [eo]; exact hx)) (h.nd k) (fun x hx => h.own k x hx) (fun j hj x hx => h.dj k j (Ne.symm hj) x hx)
       refine Vd (w' := w.setRow g new.toArray) ?_ ⟨⟨_, C, _, hp, g1.put o.dst (v := .x) trivial, g2, fun k hk => .inl hk, jV .., gQ .., kT .., L9.add (L9.refl w C L _) (fun _ => Iff.rfl) (fun x hx hn => .inr ⟨k, by simp [touched, ho, ep], hx⟩) (fun x hx => .inl ⟨k, hx⟩)⟩, fun x hx htd => ?_, by simp [World.setRow]⟩
       ·simp only [execOp, ho, ey, eyv]
        refine am0 _ ?_
        exact hrun
       ·refine hw x (fun e => ?_)
        subst e
        rcases htd with h1 | h1
        ·exact hgn h1
        ·exact h1 k (by simp [touched, ho, ep]) (List.mem_of_mem_head? hLk)
     ·cases hp
    ·cases hp
   ·cases hp
  ·split at hp
   ·rename_i us hus
    split at hp
    ·rename_i hc
     simp only [Bool.and_eq_true, decide_eq_true_eq] at hc
     split at hp
     ·rename_i e pp ob' hg
      exact agE (us' := us) hT h ho ht ep eo hus hc.2 hg hc.1 hp
     ·cases hp
    ·cases hp
   ·cases hp
 ·cases hp
end
end Go.Ev
end
section
set_option linter.unusedVariables false
namespace Go.Ev
open Go.RowKit
def Cx.mv (C : Cx) (k b : Nat) (p : Pl) : Cx := { φ := fun j => if j = b then some p else if j = k then none else C.φ j, U := fun k => C.U k ∨ k = b, N := C.N, hs := fun j => if j = b then none else if j = k then none else C.hs j }
section
variable {P : Program} {Γ : Env} {B0 : Nat} {w0 : World} {σ : St} {a : Act} {w : World} {C : Cx} {L : Nat → List Nat}
theorem Rel.become (h : Rel B0 w0 σ a w C L) {k b : Nat} (hb : ¬ C.U b) {w1 : World} (hsz : w.heap.size ≤ w1.heap.size) (hw : ∀ j, j < w.heap.size → (L k).head? ≠ some j → w1.heap[j]? = w.heap[j]?)
  (hm : (σ.obj k).mu = true) (hbel : Below B0 w0 w1) {e : E} {p : Pl} {O : List Nat} (hO : ObR (C.mv k b p) w1 b e O) (hown : ∀ x ∈ O, B0 ≤ x ∧ x < w1.heap.size) (hnd : O.Nodup) (hdj : ∀ j, j ≠ k → ∀ x ∈ O, x ∉ L j)
  (hnm : ∀ x, wr e O x → ¬ C.N x) :
  Rel B0 w0 { σ with ob := (σ.ob.del k).put b e } a w1 (C.mv k b p) (fun j => if j = b then O else if j = k then [] else L j) ∧ C.Le w (C.mv k b p) w1 := by
 have hle : C.Le w (C.mv k b p) w1 := ⟨fun j q hu hq => by
   have : j ≠ b := fun e => hb (e ▸ hu)
   simp only [Cx.mv, this, if_false] at hq
   split at hq
   ·cases hq
   ·exact hq, fun _ h => .inl h, fun _ h => h, fun x hx => hw x (h.CS x hx) (fun e => h.nm k x hm e hx), fun j q hu hq => by
   have : j ≠ b := fun e => hb (e ▸ hu)
   simp only [Cx.mv, this, if_false] at hq
   split at hq
   ·cases hq
   ·exact hq⟩
 refine ⟨?_, hle⟩
 have hob : ∀ j, St.obj { σ with ob := (σ.ob.del k).put b e } j = if j = b then e else if j = k then .no else σ.obj j := fun j => by
  show ((σ.ob.del k).put b e).get j = _
  rw [dO.get_put, dO.FC]; rfl
 refine { below := hbel, hB0 := Nat.le_trans h.hB0 hsz, defers := h.defers, len := h.len, tm := fun i v hv => ?_, ob := fun j => ?_, us := fun j hj => ?_, nd := fun j => ?_, dj := fun j j' hj x hx => ?_, own := fun j x hx => ?_, nw := fun j x hwr => ?_, CS := fun x hx => Nat.lt_of_lt_of_le (h.CS x hx) hsz }
 ·obtain ⟨c, h1, h2⟩ := h.tm i v hv
  exact ⟨c, h1, h2.le hle⟩
 ·rw [hob]
  by_cases hj : j = b
  ·subst hj; simpa using hO
  ·rw [if_neg hj, if_neg hj]
   by_cases hk : j = k
   ·subst hk
    rw [if_pos rfl, if_pos rfl]
    exact rfl
   ·rw [if_neg hk, if_neg hk]
    refine (h.ob j).le hle (by simp [Cx.mv, hj, hk]) (by simp [Cx.mv, hj, hk]) (fun x hx => hw x (h.own j x hx).2 (fun e => h.dj j k hk x hx (List.mem_of_mem_head? e)))
 ·by_cases hjb : j = b
  ·exact .inr hjb
  ·simp only [Cx.mv, hjb, if_false] at hj
   split at hj
   ·exact absurd rfl hj
   ·exact .inl (h.us j hj)
 ·show (if j = b then O else if j = k then [] else L j).Nodup
  split
  ·exact hnd
  ·split
   ·exact List.nodup_nil
   ·exact h.nd j
 ·by_cases h1 : j = b
  ·subst h1
   have h2 : j' ≠ j := Ne.symm hj
   simp only [if_true, h2, if_false] at hx ⊢
   split
   ·simp
   ·rename_i h3; exact hdj j' h3 x hx
  ·by_cases h2 : j' = b
   ·subst h2
    simp only [h1, if_false, if_true] at hx ⊢
    split at hx
    ·cases hx
    ·rename_i h3; exact fun hx' => hdj j h3 x hx' hx
   ·simp only [h1, h2, if_false] at hx ⊢
    split at hx
    ·cases hx
    ·split
     ·simp
     ·exact h.dj j j' hj x hx
 ·by_cases h1 : j = b
  ·subst h1; simp only [if_true] at hx; exact hown x hx
  ·simp only [h1, if_false] at hx
   split at hx
   ·cases hx
   ·exact ⟨(h.own j x hx).1, Nat.lt_of_lt_of_le (h.own j x hx).2 hsz⟩
 ·rw [hob] at hwr
  by_cases h1 : j = b
  ·subst h1
   simp only [if_true] at hwr
   exact hnm x hwr
  ·simp only [h1, if_false] at hwr
   by_cases h3 : j = k
   ·rw [if_pos h3] at hwr
    exact absurd hwr.mem (by rw [if_pos h3]; simp)
   ·rw [if_neg h3, if_neg h3] at hwr
    exact h.nw j x hwr
theorem Rel.del (h : Rel B0 w0 σ a w C L) (k : Nat) : Rel B0 w0 { σ with ob := σ.ob.del k } a w C (fun j => if j = k then [] else L j) := by
 have hob : ∀ j, St.obj { σ with ob := σ.ob.del k } j = if j = k then .no else σ.obj j := fun j => by
  show (σ.ob.del k).get j = _
  rw [dO.FC]; rfl
 refine { below := h.below, hB0 := h.hB0, defers := h.defers, len := h.len, tm := h.tm, ob := fun j => ?_, us := h.us, nd := fun j => ?_, dj := fun j j' hj x hx => ?_, own := fun j x hx => ?_, nw := fun j x hwr => ?_, CS := h.CS }
 ·rw [hob]
  by_cases hk : j = k
  ·subst hk
   rw [if_pos rfl, if_pos rfl]
   exact rfl
  ·rw [if_neg hk, if_neg hk]
   exact h.ob j
 ·show (if j = k then [] else L j).Nodup
  split
  ·exact List.nodup_nil
  ·exact h.nd j
 ·split at hx
  ·cases hx
  ·split
   ·simp
   ·exact h.dj j j' hj x hx
 ·split at hx
  ·cases hx
  ·exact h.own j x hx
 ·rw [hob] at hwr
  by_cases h3 : j = k
  ·rw [if_pos h3] at hwr
   exact absurd hwr.mem (by rw [if_pos h3]; simp)
  ·rw [if_neg h3, if_neg h3] at hwr
   exact h.nw j x hwr
theorem Cc.Md {w w' : World} {e e' : Bool} : (c : Cc) → c.flat = true → {d : c.T} → {v : Value} → {F : List Nat} → L8 w e c d v F → F = [] ∧ L8 w' e' c d v F
 | .int _, _, _, _, _, h => ⟨h.2, h⟩
 | .bool, _, _, _, _, h => ⟨h.2, h⟩
 | .str, _, _, _, _, h => ⟨h.2, h⟩
 | .sl r, hf, _, _, _, _ => by simp [Cc.flat] at hf
theorem Rw.Md {w w' : World} {e e' : Bool} : (r : Rw) → r.flat = true → {d : r.T} → {vs : List Value} → {F : List Nat} → gK w e r d vs F → F = [] ∧ gK w' e' r d vs F
 | .one c, hf, _, _, _, ⟨v, h1, h2⟩ => ⟨(c.Md (w' := w') (e' := e') hf h2).1, v, h1, (c.Md hf h2).2⟩
 | .cons c r, hf, _, _, _, ⟨v, vs', F1, F2, h1, h2, h3, h4⟩ => by
  simp only [Rw.flat, Bool.and_eq_true] at hf
  obtain ⟨a1, a2⟩ := c.Md (w' := w') (e' := e') hf.1 h3
  obtain ⟨b1, b2⟩ := r.Md (w' := w') (e' := e') hf.2 h4
  exact ⟨by rw [h2, a1, b1]; rfl, v, vs', F1, F2, h1, h2, a2, b2⟩
theorem gJ.flat {w : World} {e e' : Bool} {r : Rw} (hf : r.flat = true) {n b : Nat} : ∀ {xs : List r.T} {o : Nat} {F : List Nat}, gJ (gK w e r) w n b xs o F → F = [] ∧ gJ (gK w e' r) w n b xs o F
 | [], _, _, h => ⟨h, h⟩
 | x :: xs, o, F, ⟨vs, F1, F2, hF, hn, hc, hR, hr⟩ => by
  obtain ⟨a1, a2⟩ := r.Md (w' := w) (e' := e') hf hR
  obtain ⟨b1, b2⟩ := gJ.flat (e' := e') hf hr
  exact ⟨by rw [hF, a1, b1]; rfl, vs, F1, F2, hF, hn, hc, a2, b2⟩
theorem L8.one {w : World} {e : Bool} : (c : Cc) → {d : c.T} → {v : Value} → {F : List Nat} → L8 w e c d v F → v.oneCell' = true
 | .int _, _, _, _, h => by rw [h.1]; rfl
 | .bool, _, _, _, h => by rw [h.1]; rfl
 | .str, _, _, _, h => by rw [h.1]; rfl
 | .sl r, _, _, _, h => by
  rcases h with ⟨_, _, a, cap, rfl, _⟩ | ⟨b, o, cap, F', rfl, _⟩ <;> rfl
theorem gK.one {w : World} {e : Bool} : (r : Rw) → {d : r.T} → {vs : List Value} → {F : List Nat} → gK w e r d vs F → ∀ u ∈ vs, u.oneCell' = true
 | .one c, _, _, _, ⟨v, h1, h2⟩, u, hu => by rw [h1] at hu; simp at hu; subst hu; exact h2.one
 | .cons c r, _, _, _, ⟨v, vs', F1, F2, h1, h2, h3, h4⟩, u, hu => by
  rw [h1] at hu
  rcases List.mem_cons.1 hu with rfl | hu
  ·exact h3.one
  ·exact gK.one r h4 u hu
theorem iO.one {w : World} {e : Bool} {r : Rw} {n : Nat} : ∀ {xs : List r.T} {vs : List Value} {F : List Nat}, iO (gK w e r) n xs vs F → ∀ u ∈ vs, u.oneCell' = true
 | [], _, _, h, u, hu => by rw [h.1] at hu; cases hu
 | x :: xs, _, _, ⟨v1, v2, F1, F2, h1, h2, h3, h4, h5⟩, u, hu => by
  rw [h1] at hu
  rcases List.mem_append.1 hu with hu | hu
  ·exact gK.one r h4 u hu
  ·exact iO.one h5 u hu
theorem Rk (t tx ty e : TypeId) (i : TypeInfo) (ht : P.underlying t = some (.slice e)) (hi : P.info? e = some i) (b off sLen sCap : Nat) (x : Value) (n : Nat) (news : List Value) (hs : Src P i.size tx x n news w)
  (hroom : sLen + n ≤ sCap) {cur : Array Value} {bt : TypeId} (hb : w.heap[b]? = some (.cells cur bt (0, 0))) (hc : off + sLen * i.size + news.length ≤ cur.size) :
  (Builtin.append_ #[t, tx] ty #[.slice (some ⟨b, off, none⟩) sLen sCap, x]).run P w = .ok (.slice (some ⟨b, off, none⟩) (sLen + n) sCap) (w.setRow b (cur.toList.take (off + sLen * i.size) ++ news ++ cur.toList.drop (off + sLen * i.size + news.length)).toArray) := by
 have hst := run_storeCells_at P b (off + sLen * i.size) bt news 0 cur w hb (by simpa using hc) hs.one
 simp only [Nat.add_zero] at hst
 rcases hs.kind with ⟨e', hk⟩ | hk <;> simp [Builtin.append_, run_underlying ht, run_underlying hk, sizeOf, typeInfo, hi, hs.len, hroom, hs.cells, Addr.add_lit, hst]
structure ZJ (P : Program) (t tx ty e : TypeId) (i : TypeInfo) (z : Value) (x : Value) (n : Nat) (news : List Value) (w : World) : Prop where
 nothing : n = 0 → news = [] → ∀ (base : Option Addr) (sLen sCap : Nat), sLen ≤ sCap → (Builtin.append_ #[t, tx] ty #[.slice base sLen sCap, x]).run P w = .ok (.slice base sLen sCap) w
 room : n * i.bytes ≤ 140737488355328 → ∀ (b off sLen sCap : Nat) (cur : Array Value) (bt : TypeId), sLen + n ≤ sCap → w.heap[b]? = some (.cells cur bt (0, 0)) → off + sLen * i.size + news.length ≤ cur.size →
  (Builtin.append_ #[t, tx] ty #[.slice (some ⟨b, off, none⟩) sLen sCap, x]).run P w = .ok (.slice (some ⟨b, off, none⟩) (sLen + n) sCap) (w.setRow b (cur.toList.take (off + sLen * i.size) ++ news ++ cur.toList.drop (off + sLen * i.size + news.length)).toArray)
 grow : n * i.bytes ≤ 140737488355328 → ∀ (base : Option Addr) (sLen sCap : Nat) (olds : List Value), (Builtin.firstCells i.size sLen (.slice base sLen sCap)).run P w.drew = .ok olds.toArray w.drew → sCap < sLen + n → ((sLen + n : Nat) : Int) ≤ 9223372036854775807 → Builtin.nextslicecap (sLen + n) sCap * i.bytes ≤ 281474976710656 →
  (Builtin.append_ #[t, tx] ty #[.slice base sLen sCap, x]).run P w =
   .ok (.slice (some ⟨w.heap.size, 0, none⟩) (sLen + n) (grownCap w (sLen + n) sCap e))
    (w.drew.alloc (.cells ((olds ++ news).toArray ++ Builtin.zeroCells z.cells (grownCap w (sLen + n) sCap e - (sLen + n))) e (0, 0)))
theorem ZJ.atD {t tx ty e : TypeId} {i : TypeInfo} {z : Value} (ht : P.underlying t = some (.slice e)) (hi : P.info? e = some i) (hz : i.zero = some z) {x : Value} {n : Nat} {news : List Value} (hs : Src P i.size tx x n news w) : ZJ P t tx ty e i z x n news w where
 nothing h1 h2 base sLen sCap hle := by subst h1; subst h2; exact run_append_nothing w t tx ty e i ht hi base sLen sCap hle x hs
 room _ b off sLen sCap cur bt hr hb hc := Rk (w := w) t tx ty e i ht hi b off sLen sCap x n news hs hr hb hc
 grow _ base sLen sCap olds hf hg h63 hfit := run_append_grow_src w t tx ty e i z ht hi hz base sLen sCap olds hf x n news hs hg h63 hfit
theorem afM {n : Int} (h0 : 0 ≤ n) (h2 : n ≤ 4611686018427387904) : IntKind.i64.wrap n = n := by
 have : IntKind.i64.wrap n = Go.RowKit.wrap64 n := by
  simp only [IntKind.wrap, IntKind.bits, IntKind.signed, Go.RowKit.wrap64, Bool.true_and]
  split <;> simp_all <;> omega
 rw [this]; unfold Go.RowKit.wrap64; omega
theorem ZJ.arw {t tx ty e : TypeId} {i : TypeInfo} {z : Value} {kn k : IntKind} (ht : P.underlying t = some (.slice e)) (hi : P.info? e = some i) (hz : i.zero = some z) (hzs : z.cells.size = i.size) (htx : P.underlying tx = some (.int kn)) {n : Nat} (hn : n ≤ 4611686018427387904)
  (h1 : ∀ u ∈ (List.replicate n z.cells.toList).flatten, u.oneCell' = true) : ZJ P t tx ty e i z (.int k n) n (List.replicate n z.cells.toList).flatten w := by
 have hw : IntKind.i64.wrap (n : Int) = n := afM (by omega) (by omega)
 have hneg : ¬ ((n : Int) < 0) := by omega
 have hzc : Builtin.zeroCells z.cells n = (List.replicate n z.cells.toList).flatten.toArray := by
  rw [← ab6 z.cells n]; rfl
 have hnil : n * i.size = 0 → (List.replicate n z.cells.toList).flatten = [] := fun h => by
  rcases Nat.mul_eq_zero.1 h with h | h
  ·rw [h]; rfl
  ·have : z.cells.toList = [] := List.eq_nil_of_length_eq_zero (by rw [Array.length_toList, hzs, h])
   rw [this]; simp
 have h48i : n * i.bytes ≤ 140737488355328 → ¬ (281474976710656 < (n : Int) * (i.bytes : Int)) := fun h => by
  rw [← Int.natCast_mul]; omega
 refine ⟨fun e1 _ base sLen sCap hle => ?_, fun hb48 b off sLen sCap cur bt hroom hb hc => ?_, fun hb48 base sLen sCap olds hold hg h63 hfit => ?_⟩
 ·subst e1
  have hw0 : IntKind.i64.wrap 0 = 0 := afM (by omega) (by omega)
  cases base <;> simp [Builtin.append_, run_underlying ht, run_underlying htx, sizeOf, typeInfo, asInt, asIntOf, hw0, hi, hle, storeCells]
 ·have hbig := h48i hb48
  have hst := run_storeCells_at P b (off + sLen * i.size) bt (List.replicate n z.cells.toList).flatten 0 cur w hb (by simpa using hc) h1
  simp only [Nat.add_zero] at hst
  by_cases h0 : n * i.size = 0
  ·rw [hnil h0] at hst ⊢
   simp [Builtin.append_, run_underlying ht, run_underlying htx, sizeOf, typeInfo, zeroValue, asInt, asIntOf, hw, hneg, hbig, hi, hz, hroom, h0, Addr.add_lit, hst]
  ·simp [-List.flatten_replicate_singleton, Builtin.append_, run_underlying ht, run_underlying htx, sizeOf, typeInfo, zeroValue, asInt, asIntOf, hw, hneg, hbig, hi, hz, hroom, h0, Addr.add_lit, hzc, hst]
 ·have hbig := h48i hb48
  have hn' : ¬ (sLen + n ≤ sCap) := by omega
  have h63' : ¬ (9223372036854775807 < ((sLen : Int) + (n : Int))) := by omega
  have h48' : ¬ (281474976710656 < Builtin.nextslicecap (sLen + n) sCap * i.bytes) := by omega
  by_cases h0 : n * i.size = 0
  ·rw [hnil h0]
   simp [Builtin.append_, run_underlying ht, run_underlying htx, sizeOf, typeInfo, zeroValue, asInt, asIntOf, hw, hneg, hbig, hi, hz, hn', h63', h48', h0, Question.forced, hold, newRow, grownCap]
  ·simp [-List.flatten_replicate_singleton, Builtin.append_, run_underlying ht, run_underlying htx, sizeOf, typeInfo, zeroValue, asInt, asIntOf, hw, hneg, hbig, hi, hz, hn', h63', h48', h0, Question.forced, hold, hzc, newRow, grownCap]
   congr 2
   apply Array.ext'
   simp only [Array.toList_append, List.append_assoc]
theorem apJ {t tx ty e : TypeId} {i : TypeInfo} {z : Value} (ht : P.underlying t = some (.slice e)) (hi : P.info? e = some i) (hz : i.zero = some z) (hzs : z.cells.size = i.size) (h0 : i.bytes ≠ 0) {r : Rw} (hr : i.size = r.n)
  {q q' : Bool} {xs ys : List r.T} {cv : Value} {F : List Nat} (hF : rY (gK w q r) w false r.n xs cv F) {x : Value} {news : List Value} {G : List Nat} (hs : ZJ P t tx ty e i z x ys.length news w) (hD : iO (gK w q' r) r.n ys news G)
  (hbound : (xs.length + ys.length) * i.bytes ≤ 140737488355328) (hFG : ∀ x ∈ F.drop 1 ++ G, x < w.heap.size ∧ F.head? ≠ some x) (hbel : Below B0 w0 w) (hB0 : B0 ≤ w.heap.size) (hFB : ∀ g, F.head? = some g → B0 ≤ g) :
  ∃ w1 cv1 F1, (Builtin.append_ #[t, tx] ty #[cv, x]).run P w = .ok cv1 w1 ∧ w.heap.size ≤ w1.heap.size ∧ (∀ j, j < w.heap.size → F.head? ≠ some j → w1.heap[j]? = w.heap[j]?) ∧ Below B0 w0 w1 ∧
   rY (gK w1 (q || q') r) w1 false r.n (xs ++ ys) cv1 F1 ∧ F1.drop 1 = F.drop 1 ++ G ∧ ∀ g, F1.head? = some g → F.head? = some g ∨ (g = w.heap.size ∧ g < w1.heap.size) := by
 have hb48 : ys.length * i.bytes ≤ 140737488355328 := by rw [Nat.add_mul] at hbound; omega
 by_cases hy : ys = []
 ·subst hy
  obtain ⟨hn, hG⟩ := hD
  subst hn; subst hG
  refine ⟨w, cv, F, ?_, Nat.le_refl _, fun _ _ _ => rfl, hbel, ?_, by simp, fun g hg => .inl hg⟩
  ·obtain ⟨ad, cap, hcv, hcap⟩ : ∃ ad cap, cv = .slice ad xs.length cap ∧ xs.length ≤ cap := by
    rcases hF with ⟨h1, _, ad, cap, h2, _⟩ | ⟨b, o, cap, F', h1, h2, _⟩
    ·exact ⟨ad, cap, by rw [h1]; exact h2, by rw [h1]; simp⟩
    ·exact ⟨_, cap, h1, h2⟩
   rw [hcv]
   exact hs.nothing rfl rfl ad xs.length cap hcap
  ·rw [List.append_nil]
   exact hF.imp (fun h => h) (fun _ _ => rfl) (fun x vs F' _ hR => gK.imp (by cases q <;> simp) r hR (fun _ _ => rfl))
 ·have hny : 0 < ys.length := List.length_pos_iff.2 hy
  have hnl := hD.len
  have grow : ∀ (base : Option Addr) (cap : Nat) (olds : List Value), cv = .slice base xs.length cap → cap < xs.length + ys.length → iO (gK w q r) r.n xs olds (F.drop 1) →
    (Builtin.firstCells i.size xs.length (.slice base xs.length cap)).run P w.drew = .ok olds.toArray w.drew → ∃ w1 cv1 F1, (Builtin.append_ #[t, tx] ty #[cv, x]).run P w = .ok cv1 w1 ∧ w.heap.size ≤ w1.heap.size ∧ (∀ j, j < w.heap.size → F.head? ≠ some j → w1.heap[j]? = w.heap[j]?) ∧ Below B0 w0 w1 ∧
   rY (gK w1 (q || q') r) w1 false r.n (xs ++ ys) cv1 F1 ∧ F1.drop 1 = F.drop 1 ++ G ∧ ∀ g, F1.head? = some g → F.head? = some g ∨ (g = w.heap.size ∧ g < w1.heap.size) := by
   intro base cap olds hcv hlt hOD hfirst
   have atE : xs.length + ys.length ≤ (xs.length + ys.length) * i.bytes := Nat.le_mul_of_pos_right _ (by omega)
   have hrun := hs.grow hb48 base xs.length cap olds hfirst hlt (by have := Nat.le_trans atE hbound; omega) (growslice_fits hlt hbound)
   have hge := grownCap_ge w (xs.length + ys.length) cap e
   let cs : Array Value := (olds ++ news).toArray ++ Builtin.zeroCells z.cells (grownCap w (xs.length + ys.length) cap e - (xs.length + ys.length))
   have hol := hOD.len
   have hnew : (w.drew.alloc (.cells cs e (0, 0))).heap[w.heap.size]? = some (.cells cs e (0, 0)) := CZ w.drew _
   have hold : ∀ j, j < w.heap.size → (w.drew.alloc (.cells cs e (0, 0))).heap[j]? = w.heap[j]? := fun j hj => alloc_old w.drew _ j hj
   refine ⟨_, _, w.heap.size :: (F.drop 1 ++ G), by rw [hcv]; exact hrun, by rw [dZ]; exact Nat.le_succ _, fun j hj _ => hold j hj, (hbel.drew).alloc hB0 _, ?_, rfl, fun g hg => .inr ?_⟩
   ·refine .inr ⟨w.heap.size, 0, _, F.drop 1 ++ G, by rw [List.length_append], by rw [List.length_append]; exact hge, rfl, by rw [dZ]; exact Nat.lt_succ_self _, fun _ => ⟨cs, e, hnew, ?_⟩, ?_⟩
    ·have h1 : cs.size = (olds.length + news.length) + (grownCap w (xs.length + ys.length) cap e - (xs.length + ys.length)) * z.cells.size := by
      simp [cs, size_zeroCells]
     rw [h1, hzs, hr, hol, hnl, Nat.zero_add, ← Nat.add_mul, ← Nat.add_mul]
     apply Nat.mul_le_mul_right
     omega
    ·have hD2 : iO (gK (w.drew.alloc (.cells cs e (0, 0))) (q || q') r) r.n (xs ++ ys) (olds ++ news) (F.drop 1 ++ G) := by
      refine iO.append (hOD.imp (fun x vs F' hk hR => gK.imp (by cases q <;> simp) r hR (fun b hb => hold b (hFG b (List.mem_append.2 (.inl (hk b hb)))).1))) (hD.imp (fun x vs F' hk hR => gK.imp (by cases q <;> cases q' <;> simp) r hR (fun b hb => hold b (hFG b (List.mem_append.2 (.inr (hk b hb)))).1)))
     refine hD2.rows (fun j v hj => ?_)
     simp only [World.cell?, hnew, Nat.zero_add, cs]
     have hlt' : j < (olds ++ news).length := by
      rcases Nat.lt_or_ge j (olds ++ news).length with h | h
      ·exact h
      ·rw [List.getElem?_eq_none h] at hj; cases hj
     rw [Array.getElem?_append_left (by simpa using hlt')]
     simpa using hj
   ·simp at hg
    exact ⟨hg.symm, by rw [← hg, dZ]; exact Nat.lt_succ_self _⟩
  rcases hF with ⟨h1, h2, ad, cap, h3, h4⟩ | ⟨b, o, cap, F', h1, h2, h3, h4, h5, h6⟩
  ·obtain ⟨rfl, rfl⟩ := h4 rfl
   subst h1; subst h2
   exact grow none 0 [] h3 (by simpa using hny) ⟨rfl, rfl⟩ (by simp [run_firstCells_none])
  ·subst h3
   obtain ⟨olds, hOD, hcells⟩ := h6.data
   have hol := hOD.len
   obtain ⟨cur, bt, hb, hcs⟩ := h5 rfl
   by_cases hroom : xs.length + ys.length ≤ cap
   ·have hsp : o + xs.length * i.size + news.length ≤ cur.size := by
     rw [hr, hnl]
     have := Nat.mul_le_mul_right r.n hroom
     rw [Nat.add_mul] at this
     omega
    have hrun := hs.room hb48 b o xs.length cap cur bt hroom hb hsp
    have hM : xs.length * i.size = olds.length := by rw [hr, hol]
    rw [hM] at hrun hsp
    let new : List Value := cur.toList.take (o + olds.length) ++ news ++ cur.toList.drop (o + olds.length + news.length)
    have hset := setRow_heap w b cur new.toArray bt (0, 0) hb
    have hw : ∀ j, j ≠ b → (w.setRow b new.toArray).heap[j]? = w.heap[j]? := fun j hj => setRow_other w b j _ hj
    have hG : ∀ x ∈ F' ++ G, (w.setRow b new.toArray).heap[x]? = w.heap[x]? := fun x hx => hw x (fun e => (hFG x (by simpa using hx)).2 (by rw [e]; rfl))
    have ab9 : new.length = cur.size := by simp only [new, List.length_append, List.length_take, List.length_drop, Array.length_toList]; omega
    refine ⟨_, _, b :: (F' ++ G), by rw [h1]; exact hrun, by simp [World.setRow], fun j hj hne => hw j (fun e => hne (by rw [e]; rfl)), Below.setRow' hbel (hFB b rfl) _, ?_, by simp, fun g hg => .inl (by simpa using hg)⟩
    refine .inr ⟨b, o, cap, F' ++ G, by rw [List.length_append], by rw [List.length_append]; exact hroom, rfl, by simpa [World.setRow] using h4, fun _ => ⟨new.toArray, bt, hset, by simp only [List.size_toArray, ab9]; omega⟩, ?_⟩
    have hD2 : iO (gK (w.setRow b new.toArray) (q || q') r) r.n (xs ++ ys) (olds ++ news) (F' ++ G) := by
     refine iO.append (hOD.imp (fun x vs F1 hk hR => gK.imp (by cases q <;> simp) r hR (fun b hb => hG b (by simp [hk b hb])))) (hD.imp (fun x vs F1 hk hR => gK.imp (by cases q <;> cases q' <;> simp) r hR (fun b hb => hG b (by simp [hk b hb]))))
    refine hD2.rows (fun j v hj => ?_)
    simp only [World.cell?, hset]
    show new.toArray[o + j]? = some v
    by_cases hjl : j < olds.length
    ·rw [List.getElem?_append_left hjl] at hj
     have := hcells j v hj
     simp only [World.cell?, hb] at this
     simp only [new, List.getElem?_toArray]
     rw [List.append_assoc, List.getElem?_append_left (by simp only [List.length_take, Array.length_toList]; omega), List.getElem?_take, if_pos (by omega)]
     rw [Array.getElem?_toList]
     simpa using this
    ·rw [List.getElem?_append_right (by omega)] at hj
     have hjn : j - olds.length < news.length := by
      rcases Nat.lt_or_ge (j - olds.length) news.length with h | h
      ·exact h
      ·rw [List.getElem?_eq_none h] at hj; cases hj
     simp only [new, List.getElem?_toArray]
     rw [List.append_assoc, List.getElem?_append_right (by simp only [List.length_take, Array.length_toList]; omega), List.getElem?_append_left (by simp only [List.length_take, Array.length_toList]; omega), ← hj]
     congr 1
     simp only [List.length_take, Array.length_toList]; omega
   ·refine grow _ cap olds h1 (by omega) (by simpa using hOD) ?_
    exact run_firstCells_some w.drew i.size xs.length ⟨b, o, none⟩ xs.length cap olds (by rw [hol, hr]) (fun j v hj => by simpa [JO] using hcells j v hj)
theorem acd {C : Cx} {L : Nat → List Nat} {k : Nat} {F : List Nat} {mu deep : Bool} (hN : ∀ b ∈ F.drop 1, C.N b) (hO : if mu = true then (if deep = true then L k = F else L k = F.take 1) else L k = [] ∧ ∀ b ∈ F, C.N b) : ∀ b ∈ F, C.N b ∨ ∃ k, b ∈ L k := by
 intro b hb
 cases mu with
 | false => rw [if_neg (by simp)] at hO; exact .inl (hO.2 b hb)
 | true =>
  rw [if_pos rfl] at hO
  cases F with
  | nil => cases hb
  | cons f F =>
   rcases List.mem_cons.1 hb with rfl | hb
   ·refine .inr ⟨k, ?_⟩
    split at hO <;> rw [hO] <;> simp
   ·exact .inl (hN b (by simpa using hb))
theorem rows_ok (h : Rel B0 w0 σ a w C L) {u : V} {cu : Value} (hv : VR C w u cu) {r : Rw} {ys : List r.T} (hy : rowsOf r σ u = some ys) :
  ∃ q F, rY (gK w q r) w true r.n ys cu F ∧ (∀ b ∈ F.drop 1, C.N b) ∧ (∀ k r' xs', u = .w k → σ.obj k = .arr true true r' xs' → q = false ∧ L k = F) ∧
   ((∀ k, (u = .w k ∨ ∃ off len, u = .r k off len) → (σ.obj k).mu = false) → ∀ b ∈ F, C.N b) ∧ ∀ b ∈ F, C.N b ∨ ∃ k, b ∈ L k := by
 unfold rowsOf at hy
 split at hy
 ·cases hy
  exact ⟨true, [], .inl ⟨rfl, rfl, none, 0, hv, fun h => (nomatch h)⟩, fun _ h => (nomatch h), fun k r' xs' e => (nomatch e), (fun _ _ h => (nomatch h)), fun _ h => (nomatch h)⟩
 ·rename_i o r' xs
  split at hy
  ·rename_i hr
   subst hr
   cases hy
   obtain ⟨F, h1, h2⟩ := hv
   exact ⟨true, F, h1, fun b hb => h2 b (List.mem_of_mem_drop hb), fun k r'' xs' e => (nomatch e), fun _ => h2, fun b hb => .inl (h2 b hb)⟩
  ·cases hy
 ·rename_i k
  split at hy
  ·rename_i mu deep r' xs eo
   split at hy
   ·rename_i hr
    subst hr
    cases hy
    obtain ⟨cv, F, hφ, hF, hN, hO⟩ := h.arr eo
    refine ⟨!(mu && deep), F, ?_, hN, fun k' r'' xs' e e' => ?_, fun hm => ?_, acd hN hO⟩
    ·rw [hv.2.2 cv _ hφ]
     exact hF.imp (fun h => by cases h) (fun _ _ => rfl) (fun _ _ _ _ h => h)
    ·cases e
     rw [eo] at e'
     injection e' with e1 e2
     subst e1; subst e2
     exact ⟨rfl, by simpa using hO⟩
    ·have hm' := hm k (.inl rfl)
     rw [eo] at hm'
     simp only [E.mu] at hm'
     subst hm'
     rw [if_neg (by simp)] at hO
     exact hO.2
   ·cases hy
  ·cases hy
 ·rename_i k off len
  split at hy
  ·rename_i mu deep r' xs eo
   split at hy
   ·rename_i hr
    subst hr
    cases hy
    obtain ⟨cv, F, hφ, hF, hN, hO⟩ := h.arr eo
    obtain ⟨ad, Ln, cap, cap', ec, hle, a', ey, hne⟩ := hv.2.2 cv _ hφ
    refine ⟨!(mu && deep), ?_⟩
    by_cases hz : len = 0
    ·subst hz
     exact ⟨[], .inl ⟨by simp, rfl, a', cap', ey, fun h => (nomatch h)⟩, fun _ h => (nomatch h), fun k r'' xs' e => (nomatch e), (fun _ _ h => (nomatch h)), fun _ h => (nomatch h)⟩
    ·obtain ⟨b, o, e3, e4, e5⟩ := hne hz
     rw [ec] at hF
     rcases hF with ⟨h5, _, _, _, h6, _⟩ | ⟨b', o', cap2, F', h5, h6, h7, h8, h9, h10⟩
     ·injection h6 with _ e6 _; omega
     ·injection h5 with e6 e7 e8
      rw [e3] at e6
      injection e6 with e6; injection e6 with e6 e9
      subst e6; subst e9; subst e7; subst e8
      obtain ⟨F1, g1, g2⟩ := h10.drop off (by omega)
      obtain ⟨F2, g3, g4⟩ := g2.take len
      have hl : ((xs.drop off).take len).length = len := by simp; omega
      refine ⟨b :: F2, .inr ⟨b, o + off * r'.n, cap', F2, by rw [hl, ey, e4], by rw [hl]; omega, rfl, h8, fun h => (nomatch h), g4⟩, fun x hx => hN x (by rw [h7]; simpa using g1 x (g3 x (by simpa using hx))), fun k r'' xs' e => (nomatch e), fun hm x hx => ?_, fun x hx => acd hN hO x (by
       rw [h7]
       rcases List.mem_cons.1 hx with rfl | hx
       ·simp
       ·exact List.mem_cons_of_mem _ (g1 x (g3 x hx)))⟩
      have hm' := hm k (.inr ⟨off, len, rfl⟩)
      rw [eo] at hm'
      simp only [E.mu] at hm'
      subst hm'
      rw [if_neg (by simp)] at hO
      refine hO.2 x ?_
      rw [h7]
      rcases List.mem_cons.1 hx with rfl | hx
      ·simp
      ·exact List.mem_cons_of_mem _ (g1 x (g3 x hx))
   ·cases hy
  ·cases hy
 ·cases hy
theorem iO.flat {w w' : World} {e e' : Bool} {r : Rw} (hf : r.flat = true) {n : Nat} : ∀ {xs : List r.T} {vs : List Value} {F : List Nat}, iO (gK w e r) n xs vs F → F = [] ∧ iO (gK w' e' r) n xs vs []
 | [], _, _, h => ⟨h.2, h.1, rfl⟩
 | x :: xs, _, _, ⟨v1, v2, F1, F2, h1, h2, h3, h4, h5⟩ => by
  obtain ⟨a1, a2⟩ := r.Md (w' := w') (e' := e') hf h4
  obtain ⟨b1, b2⟩ := iO.flat (w' := w') (e' := e') hf h5
  subst a1; subst b1
  exact ⟨by rw [h2]; rfl, v1, v2, [], [], h1, rfl, h3, a2, b2⟩
theorem arx {q e : Bool} {r : Rw} {ys : List r.T} {cu : Value} {F : List Nat} (h : rY (gK w q r) w e r.n ys cu F) {tu e' : TypeId} (hk : P.underlying tu = some (.slice e')) :
  ∃ news, Src P r.n tu cu ys.length news w ∧ iO (gK w q r) r.n ys news (F.drop 1) := by
 rcases h with ⟨rfl, rfl, ad, cap, rfl, _⟩ | ⟨b, o, cap, F', rfl, _, rfl, _, _, h6⟩
 ·refine ⟨[], ?_, rfl, rfl⟩
  cases ad with
  | none => exact Src.ofNil w hk cap
  | some ad => exact Src.ofSlice w hk ad 0 cap [] (by simp) (fun j u hj => by simp at hj) (fun u hu => (nomatch hu))
 ·obtain ⟨news, h7, h8⟩ := h6.data
  exact ⟨news, Src.ofSlice w hk ⟨b, o, none⟩ ys.length cap news h7.len (fun j u hj => by rw [JO]; exact h8 j u hj) (fun u hu => h7.one u hu), h7⟩
structure X0 (B0 : Nat) (w0 : World) (σ : St) (a : Act) (w : World) (C : Cx) (L : Nat → List Nat) (ob' : dO) (p : Bool) (F : List Nat) (C' : Cx) (L' : Nat → List Nat) : Prop where
 rel : Rel B0 w0 { σ with ob := ob' } a w C' L'
 le : C.Le w C' w
 U : C'.U = C.U
 sub : ∀ k, ∀ b ∈ L' k, b ∈ L k
 N : ∀ b ∈ F, C'.N b
 nd : p = true → F.Nodup
 from_ : p = true → ∀ b ∈ F, ∃ k, b ∈ L k
 off : p = true → ∀ b ∈ F, ∀ k, b ∉ L' k
 mus : ∀ k, (St.obj { σ with ob := ob' } k).mu = true → σ.obj k = St.obj { σ with ob := ob' } k ∧ L' k = L k
 eqn : ∀ k, L' k = L k ∨ L' k = []
 nn : ∀ x, C'.N x → C.N x
theorem X0.refl (h : Rel B0 w0 σ a w C L) (p : Bool) : X0 B0 w0 σ a w C L σ.ob p [] C L :=
 ⟨h, Cx.Le.refl C w, rfl, fun _ _ h => h, fun _ h => (nomatch h), fun _ => List.nodup_nil, fun _ _ h => (nomatch h), fun _ _ h => (nomatch h), fun _ _ => ⟨rfl, rfl⟩, fun _ => .inl rfl, fun _ h => h⟩
theorem X0.same (h : Rel B0 w0 σ a w C L) {F : List Nat} (hN : ∀ b ∈ F, C.N b) : X0 B0 w0 σ a w C L σ.ob false F C L :=
 ⟨h, Cx.Le.refl C w, rfl, fun _ _ h => h, hN, fun h => (nomatch h), fun h => (nomatch h), fun h => (nomatch h), fun _ _ => ⟨rfl, rfl⟩, fun _ => .inl rfl, fun _ h => h⟩
theorem X0.org {ob' : dO} {p : Bool} {F : List Nat} {C' : Cx} {L' : Nat → List Nat} (h : X0 B0 w0 σ a w C L ob' p F C' L') (T : List Nat) : L9 w C L T C' L' := L9.same h.eqn (fun x hx => .inl (h.nn x hx))
theorem src_ok (h : Rel B0 w0 σ a w C L) {u : V} {cu : Value} (hv : VR C w u cu) {r : Rw} {ys : List r.T} (hy : rowsOf r σ u = some ys) {tu e' : TypeId} (hk : P.underlying tu = some (.slice e')) :
  ∃ news G C' L', Src P r.n tu cu ys.length news w ∧ iO (gK w (!(lG r u σ).1) r) r.n ys news G ∧ X0 B0 w0 σ a w C L (lG r u σ).2 (lG r u σ).1 G C' L' := by
 obtain ⟨q, F, hF, hN, hd, hd0, hd1⟩ := rows_ok h hv hy
 obtain ⟨news, hs, hD⟩ := arx hF hk
 unfold lG
 have weak : ∃ news G C' L', Src P r.n tu cu ys.length news w ∧ iO (gK w (!false) r) r.n ys news G ∧ X0 B0 w0 σ a w C L σ.ob false G C' L' :=
  ⟨news, F.drop 1, C, L, hs, hD.imp (fun x vs F' _ hR => gK.imp (by simp) r hR (fun _ _ => rfl)), X0.same h hN⟩
 by_cases hf : r.flat = true
 ·rw [if_pos hf]
  exact ⟨news, [], C, L, hs, (iO.flat hf hD).2, X0.refl h _⟩
 ·rw [if_neg hf]
  split
  ·rename_i k
   split
   ·rename_i r' xs' eo
    obtain ⟨rfl, hL⟩ := hd k r' xs' rfl eo
    have hob : ∀ j, St.obj { σ with ob := σ.ob.del k } j = if j = k then .no else σ.obj j := fun j => by
     show (σ.ob.del k).get j = _
     rw [dO.FC]; rfl
    refine ⟨news, F.drop 1, C, _, hs, hD, h.del k, Cx.Le.refl C w, rfl, fun j b hb => ?_, hN, fun _ => ?_, fun _ b hb => ⟨k, by rw [hL]; exact List.mem_of_mem_drop hb⟩, fun _ b hb j hj => ?_, fun j hm => ?_, fun j => ?_, fun _ h => h⟩
    ·split at hb
     ·cases hb
     ·exact hb
    ·have := h.nd k
     rw [hL] at this
     exact this.sublist (List.drop_sublist 1 F)
    ·split at hj
     ·cases hj
     ·rename_i hjk
      exact h.dj k j (Ne.symm hjk) b (by rw [hL]; exact List.mem_of_mem_drop hb) hj
    ·rw [hob] at hm ⊢
     by_cases hjk : j = k
     ·rw [if_pos hjk] at hm; simp [E.mu] at hm
     ·rw [if_neg hjk, if_neg hjk]; exact ⟨rfl, rfl⟩
    ·by_cases hjk : j = k
     ·exact .inr (by rw [if_pos hjk])
     ·exact .inl (by rw [if_neg hjk])
   ·exact weak
  ·have : ys = [] := by simp [rowsOf] at hy; exact hy
   subst this
   obtain ⟨hn, hG⟩ := hD
   subst hn
   exact ⟨[], [], C, L, hs, ⟨rfl, rfl⟩, X0.refl h _⟩
  ·exact weak
theorem afN (h : Rel B0 w0 σ a w C L) {o : Oper} {c : Call} (ho : o.op = .call c) (hc : c.callee = .builtin .append) {y z : Operand} {t u : TypeId} (hav : c.args = #[y, z]) (htv : c.argTypes = #[t, u]) {ty : Ty} {e : TypeId} {i : TypeInfo} {zv : Value}
  (hu : P.underlying t = some (.slice e)) (hi : P.info? e = some i) (hn : i.size = ty.row.n) (hby : i.bytes = ty.bytes) (hz : i.zero = some zv) (hzs : zv.cells.size = ty.row.n) (anY : ty.bytes ≠ 0) {vz : V}
  (src : ∀ ys, rowsOf ty.row σ vz = some ys → ∃ news G C' L', ZJ P t u o.type e i zv (a.eval z) ys.length news w ∧ iO (gK w (!(lG ty.row vz σ).1) ty.row) ty.row.n ys news G ∧ X0 B0 w0 σ a w C L (lG ty.row vz σ).2 (lG ty.row vz σ).1 G C' L')
  {b : Nat} (hb : ∀ k, b ≤ k → k < b + 256 → ¬ C.U k) {K : St → Option aj} {r : aj} (hp : U7 b o.dst ty.row ty.bytes (σ.ev y) vz σ K = some r) {Q : Exit → Act → World → Prop} :
  o.wp P a w (U3 Γ.lend B0 w0 o σ w C L b K r) Q := by
 have hvy := h.ev y
 have RG : ∀ w', (execOp a.eval o).run P w' = (do let v ← Builtin.append_ #[t, u] o.type #[a.eval y, a.eval z]; pure (.value v) : Sem Next).run P w' := fun w' => by
  simp [execOp, ho, hc, hav, htv, resolve, invoke, builtin]
 unfold U7 at hp
 split at hp
 ·cases hp
 ·rename_i ys hys
  obtain ⟨news, G, C1, L1, hs, hD, tk⟩ := src ys hys
  split at hp
  ·
   rename_i ey
   rw [ey] at hvy
   have evy : a.eval y = .slice none 0 0 := hvy
   cases hcnd : Nat.ble (ys.length * ty.bytes) zq with
   | false => rw [hcnd] at hp; cases hp
   | true =>
    rw [hcnd] at hp
    have hbound : ys.length * ty.bytes ≤ 140737488355328 := Nat.le_of_ble_eq_true hcnd
    obtain ⟨w1, cv1, F1, r1, r2, r3, r4, r5, r6, r7⟩ := apJ (w0 := w0) (ty := o.type) hu hi hz (by rw [hzs, hn]) (by rw [hby]; exact anY) hn (q := false) (xs := []) (F := []) (cv := .slice none 0 0)
     (.inl ⟨rfl, rfl, none, 0, rfl, fun _ => ⟨rfl, rfl⟩⟩) hs hD (by simpa [hby] using hbound) (fun x hx => ⟨tk.rel.CS x (tk.N x (by simpa using hx)), by simp⟩) h.below h.hB0 (fun g hg => (nomatch hg))
    have hbU : ¬ C1.U b := by rw [tk.U]; exact hb b (Nat.le_refl _) (by omega)
    have hG1 : F1.drop 1 = G := by simpa using r6
    have hhead : ∀ g, F1.head? = some g → g = w.heap.size ∧ g < w1.heap.size := fun g hg => by
     rcases r7 g hg with h | h
     ·cases h
     ·exact h
    have hold : ∀ j, j < w.heap.size → w1.heap[j]? = w.heap[j]? := fun j hj => r3 j hj (by simp)
    obtain ⟨O, hOd⟩ : ∃ O : List Nat, O = if (lG ty.row (vz) σ).1 then F1 else F1.take 1 := ⟨_, rfl⟩
    have hOm : ∀ x ∈ O, (x = w.heap.size ∧ x < w1.heap.size) ∨ ((lG ty.row (vz) σ).1 = true ∧ x ∈ G) := by
     intro x hx
     rw [hOd] at hx
     cases F1 with
     | nil => simp at hx
     | cons g F1 =>
      simp only [List.drop_one, List.tail_cons] at hG1
      subst hG1
      split at hx
      ·rename_i hp1
       rcases List.mem_cons.1 hx with rfl | hx
       ·exact .inl (hhead _ rfl)
       ·exact .inr ⟨hp1, hx⟩
      ·simp at hx; subst hx; exact .inl (hhead _ rfl)
    have hOh : ∀ x, O.head? = some x → x = w.heap.size := by
     intro x hx
     rw [hOd] at hx
     cases F1 with
     | nil => simp at hx
     | cons g F1 =>
      have := (hhead g rfl).1
      subst this
      split at hx <;> simp at hx <;> exact hx.symm
    have hnd : O.Nodup := by
     rw [hOd]
     cases F1 with
     | nil => simp
     | cons g F1 =>
      simp only [List.drop_one, List.tail_cons] at hG1
      subst hG1
      split
      ·rename_i hp1
       refine List.nodup_cons.2 ⟨fun hx => ?_, tk.nd hp1⟩
       have := (hhead g rfl).1
       have := tk.rel.CS g (tk.N g hx)
       omega
      ·simp
    obtain ⟨g1, g2⟩ := tk.rel.newObj hbU (f := none) (w1 := w1) r2 hold r4 (e := .arr true (lG ty.row (vz) σ).1 ty.row ys) (p := .arr cv1 ty.row.n) (O := O)
     ⟨cv1, F1, by simp [Cx.add], by simpa using r5, fun x hx => tk.N x (by rw [← hG1]; exact hx), by rw [if_pos rfl, hOd]; split <;> rfl⟩
     (fun x hx => by
      rcases hOm x hx with ⟨h1, h2⟩ | ⟨h1, h2⟩
      ·exact ⟨by rw [h1]; exact h.hB0, h2⟩
      ·obtain ⟨k', hk'⟩ := tk.from_ h1 x h2
       exact ⟨(h.own k' x hk').1, Nat.lt_of_lt_of_le (h.own k' x hk').2 r2⟩)
     hnd (fun k x hx hk => by
      rcases hOm x hx with ⟨h1, h2⟩ | ⟨h1, h2⟩
      ·have := (tk.rel.own k x hk).2; omega
      ·exact tk.off h1 x h2 k hk)
     (fun x hx hn' => by have := tk.rel.CS x hn'; have := hOh x hx.2; omega)
    refine ug (c := cv1) (w' := w1) ?_ ⟨⟨_, _, _, hp, g1.put o.dst ⟨.inr rfl, ?_, fun cv' n' hφ' => ?_⟩, tk.le.trans g2, fun k hk => ?_, jV .., gQ .., kT .., L9.add (tk.org _) (fun _ => Iff.rfl) (fun x hx hn => by
     rcases hOm x hx with ⟨h1, _⟩ | ⟨_, h2⟩
     ·exact .inl (by rw [h1]; exact Nat.le_refl _)
     ·exact absurd (tk.N x h2) hn) (fun x hx => ?_)⟩, fun x hx _ => hold x hx, r2⟩
    ·rw [RG, evy]; exact ab7 _ r1
    ·obtain ⟨ad, cap, e1⟩ := KD r5; rw [e1]; rfl
    ·simp [Cx.add] at hφ'; exact hφ'.1
    ·rcases hk with hk | rfl
     ·rw [tk.U] at hk; exact .inl hk
     ·exact .inr ⟨Nat.le_refl _, by omega⟩
    ·rcases hOm x hx with ⟨h1, h2⟩ | ⟨h1, h2⟩
     ·exact .inr (by rw [h1]; exact Nat.le_refl _)
     ·exact .inl (tk.from_ h1 x h2)
  ·rename_i k ey
   rw [ey] at hvy
   split at hp
   ·rename_i deep r' xs eo
    split at hp
    ·rename_i hr
     subst hr
     simp only at hp
     cases hcnd : Nat.ble ((xs.length + ys.length) * ty.bytes) zq with
     | false => rw [hcnd] at hp; cases hp
     | true =>
      rw [hcnd] at hp
      have hbound : (xs.length + ys.length) * ty.bytes ≤ 140737488355328 := Nat.le_of_ble_eq_true hcnd
      have FH : St.obj { σ with ob := (lG ty.row (vz) σ).2 } k = .arr true deep ty.row xs := eo
      obtain ⟨cv, F, hφ, hF, hN, hO⟩ := tk.rel.arr FH
      obtain ⟨mu1, mu2⟩ := tk.mus k (by rw [FH]; rfl)
      have evy : a.eval y = cv := (hvy.le tk.le).2.2 cv _ hφ
      have hhF : ∀ g, F.head? = some g → (L1 k).head? = some g := fun g hg => by
       rw [if_pos rfl] at hO
       cases F with
       | nil => cases hg
       | cons f F => split at hO <;> rw [hO] <;> simpa using hg
      have hFh : ∀ g, (L1 k).head? = some g → F.head? = some g := fun g hg => by
       rw [if_pos rfl] at hO
       cases F with
       | nil => split at hO <;> rw [hO] at hg <;> simp at hg
       | cons f F => split at hO <;> rw [hO] at hg <;> simpa using hg
      have atH : ∀ g, F.head? = some g → ¬ C1.N g := fun g hg => tk.rel.nm k g (by rw [FH]; rfl) (hhF g hg)
      have hDN : ∀ x ∈ F.drop 1 ++ G, C1.N x := fun x hx => by
       rcases List.mem_append.1 hx with hx | hx
       ·exact hN x hx
       ·exact tk.N x hx
      obtain ⟨w1, cv1, F1, r1, r2, r3, r4, r5, r6, r7⟩ := apJ (w0 := w0) (ty := o.type) hu hi hz (by rw [hzs, hn]) (by rw [hby]; exact anY) hn hF hs hD (by rw [hby]; exact hbound)
       (fun x hx => ⟨tk.rel.CS x (hDN x hx), fun e => atH x e (hDN x hx)⟩) h.below h.hB0 (fun g hg => (tk.rel.own k g (List.mem_of_mem_head? (hhF g hg))).1)
      have hbU : ¬ C1.U b := by rw [tk.U]; exact hb b (Nat.le_refl _) (by omega)
      obtain ⟨d, hdd⟩ : ∃ d, d = (deep && (lG ty.row (vz) σ).1) := ⟨_, rfl⟩
      have hdt : d = true → deep = true ∧ (lG ty.row (vz) σ).1 = true := fun e => by rw [hdd] at e; simpa using e
      have hq : (!(true && deep) || !(lG ty.row (vz) σ).1) = !(true && d) := by rw [hdd]; cases deep <;> cases (lG ty.row (vz) σ).1 <;> rfl
      rw [hq] at r5
      have hold : ∀ j, j < w.heap.size → (L1 k).head? ≠ some j → w1.heap[j]? = w.heap[j]? := fun j hj hne => r3 j hj (fun e => hne (hhF j e))
      obtain ⟨O, hOd⟩ : ∃ O : List Nat, O = if d then F1 else F1.take 1 := ⟨_, rfl⟩
      have hOm : ∀ x ∈ O, F1.head? = some x ∨ (d = true ∧ x ∈ F.drop 1 ++ G) := by
       intro x hx
       rw [hOd] at hx
       cases F1 with
       | nil => simp at hx
       | cons g F1 =>
        simp only [List.drop_one, List.tail_cons] at r6
        split at hx
        ·rename_i hp1
         rcases List.mem_cons.1 hx with rfl | hx
         ·exact .inl rfl
         ·exact .inr ⟨hp1, by rw [r6] at hx; simpa using hx⟩
        ·simp at hx; subst hx; exact .inl rfl
      have hOh : ∀ x, O.head? = some x → F1.head? = some x := by
       intro x hx
       rw [hOd] at hx
       cases F1 with
       | nil => simp at hx
       | cons g F1 => split at hx <;> simpa using hx
      have hnF1 : ∀ g, F1.head? = some g → ¬ C1.N g := fun g hg hN' => by
       rcases r7 g hg with h1 | ⟨h1, _⟩
       ·exact atH g h1 hN'
       ·have := tk.rel.CS g hN'; omega
      have hLF : deep = true → L1 k = F := fun e => by rw [if_pos rfl, if_pos e] at hO; exact hO
      have hnd : O.Nodup := by
       rw [hOd]
       cases F1 with
       | nil => simp
       | cons g F1 =>
        simp only [List.drop_one, List.tail_cons] at r6
        split
        ·rename_i hp1
         obtain ⟨hd1, hd2⟩ := hdt hp1
         have anX := tk.rel.nd k
         rw [hLF hd1] at anX
         refine List.nodup_cons.2 ⟨fun hx => hnF1 g rfl (hDN g (by rw [r6] at hx; simpa using hx)), ?_⟩
         rw [r6, List.nodup_append]
         refine ⟨by simpa using anX.sublist (List.drop_sublist 1 F), tk.nd hd2, fun x hx y' hy' e => ?_⟩
         subst e
         refine tk.off hd2 x hy' k ?_
         rw [hLF hd1]
         exact List.mem_of_mem_tail hx
        ·simp
      have hsrc : ∀ x ∈ O, (x ∈ L1 k) ∨ (x = w.heap.size ∧ x < w1.heap.size) ∨ ((lG ty.row (vz) σ).1 = true ∧ x ∈ G) := by
       intro x hx
       rcases hOm x hx with h1 | ⟨h1, h2⟩
       ·rcases r7 x h1 with h2 | h2
        ·exact .inl (List.mem_of_mem_head? (hhF x h2))
        ·exact .inr (.inl h2)
       ·obtain ⟨hd1, hd2⟩ := hdt h1
        rcases List.mem_append.1 h2 with h2 | h2
        ·exact .inl (by rw [hLF hd1]; exact List.mem_of_mem_drop h2)
        ·exact .inr (.inr ⟨hd2, h2⟩)
      obtain ⟨g1, g2⟩ := tk.rel.become (k := k) hbU (w1 := w1) r2 hold (by rw [FH]; rfl) r4 (e := .arr true d ty.row (xs ++ ys)) (p := .arr cv1 ty.row.n) (O := O)
       ⟨cv1, F1, by simp [Cx.mv], by simpa using r5, fun x hx => hDN x (by rw [← r6]; exact hx), by rw [if_pos rfl, hOd]; split <;> rfl⟩
       (fun x hx => by
        rcases hsrc x hx with h1 | ⟨h1, h2⟩ | ⟨h1, h2⟩
        ·exact ⟨(tk.rel.own k x h1).1, Nat.lt_of_lt_of_le (tk.rel.own k x h1).2 r2⟩
        ·exact ⟨by rw [h1]; exact h.hB0, h2⟩
        ·obtain ⟨k', hk'⟩ := tk.from_ h1 x h2
         exact ⟨(h.own k' x hk').1, Nat.lt_of_lt_of_le (h.own k' x hk').2 r2⟩)
       hnd (fun j hj x hx hxj => by
        rcases hsrc x hx with h1 | ⟨h1, h2⟩ | ⟨h1, h2⟩
        ·exact tk.rel.dj k j (Ne.symm hj) x h1 hxj
        ·have := (tk.rel.own j x hxj).2; omega
        ·exact tk.off h1 x h2 j hxj)
       (fun x hx => hnF1 x (hOh x hx.2))
      rw [← hdd] at hp
      refine ug (c := cv1) (w' := w1) ?_ ⟨⟨_, _, _, hp, g1.put o.dst ⟨.inr rfl, ?_, fun cv' n' hφ' => ?_⟩, tk.le.trans g2, fun k hk => ?_, jV .., gQ .., kT .., ?_⟩, fun x hx htd => ?_, r2⟩
      ·rw [RG, evy]; exact ab7 _ r1
      ·obtain ⟨ad, cap, e1⟩ := KD r5; rw [e1]; rfl
      ·simp [Cx.mv] at hφ'; exact hφ'.1
      ·rcases hk with hk | rfl
       ·rw [tk.U] at hk; exact .inl hk
       ·exact .inr ⟨Nat.le_refl _, by omega⟩
      ·refine ⟨fun j x hx hn => ?_, fun j x hx => ?_, fun x hx => .inl (tk.nn x hx)⟩
       ·split at hx
        ·rcases hOm x hx with h1 | ⟨_, h1⟩
         ·rcases r7 x h1 with h2 | h2
          ·exact .inr (.inr ⟨k, by simp [touched, ho, hc, hav, ey], by rw [← mu2]; exact List.mem_of_mem_head? (hhF x h2)⟩)
          ·exact .inr (.inl (by omega))
         ·exact absurd (hDN x h1) hn
        ·split at hx
         ·cases hx
         ·exact (tk.org (touched Γ.lend o σ)).hd j x hx hn
       ·split at hx
        ·rcases hsrc x hx with h1 | ⟨h1, h2⟩ | ⟨h1, h2⟩
         ·exact .inl ⟨k, tk.sub k x h1⟩
         ·exact .inr (by omega)
         ·exact .inl (tk.from_ h1 x h2)
        ·split at hx
         ·cases hx
         ·exact .inl ⟨j, tk.sub j x hx⟩
      ·exact hold x hx (fun e => by
        rcases htd with h1 | h1
        ·exact tk.rel.nm k x (by rw [FH]; rfl) e (tk.le.N x h1)
        ·exact h1 k (by simp [touched, ho, hc, hav, ey]) (by rw [← mu2]; exact List.mem_of_mem_head? e))
    ·cases hp
   ·cases hp
  ·cases hp
theorem alu (hT : iG P Γ.ty) (h : Rel B0 w0 σ a w C L) {o : Oper} {c : Call} (ho : o.op = .call c) (hc : c.callee = .builtin .append) {b : Nat} (hb : ∀ k, b ≤ k → k < b + 256 → ¬ C.U k) {K : St → Option aj} {r : aj} (hp : effect Γ b o σ K = some r) {Q : Exit → Act → World → Prop} :
  o.wp P a w (U3 Γ.lend B0 w0 o σ w C L b K r) Q := by
 simp only [effect, ho, hc] at hp
 split at hp
 ·rename_i y z t u hargs au4
  have hav : c.args = #[y, z] := by rw [← Array.toList_inj]; exact hargs
  have htv : c.argTypes = #[t, u] := by rw [← Array.toList_inj]; exact au4
  have hvz := h.ev z
  split at hp
  ·rename_i ty tu hty htu
   split at hp
   ·rename_i hcond
    simp only [Bool.and_eq_true, decide_eq_true_eq, Bool.not_eq_true'] at hcond
    obtain ⟨⟨⟨hsl, au6⟩, hrow⟩, hbz⟩ := hcond
    have anY : ty.bytes ≠ 0 := fun e => by rw [e] at hbz; cases hbz
    obtain ⟨e, hu, i, zv, hi, hn, hby, hz, hzs, _⟩ := (hT t ty hty).sl hsl
    obtain ⟨eu, huu, _⟩ := (hT u tu htu).sl au6
    refine afN h ho hc hav htv hu hi hn hby hz hzs anY (fun ys hys => ?_) hb hp
    obtain ⟨news, G, C1, L1, hs, hD, tk⟩ := src_ok h hvz hys huu
    rw [← hn] at hs
    exact ⟨news, G, C1, L1, ZJ.atD hu hi hz hs, hD, tk⟩
   ·split at hp
    ·rename_i hcond
     simp only [Bool.and_eq_true, Bool.not_eq_true'] at hcond
     obtain ⟨⟨⟨hsl, hint⟩, atJ⟩, hbz⟩ := hcond
     have anY : ty.bytes ≠ 0 := fun e => by rw [e] at hbz; cases hbz
     obtain ⟨e, hu, i, zv, hi, hn, hby, hz, hzs, hzR⟩ := (hT t ty hty).sl hsl
     obtain ⟨kn, hkn⟩ : ∃ kn, tu.ds = .int kn := by
      unfold Ty.isInt at hint
      split at hint
      ·exact ⟨_, by assumption⟩
      ·cases hint
     have htx := (hT u tu htu).int hkn
     split at hp
     ·rename_i k m ez
      cases hcnd : (decide (0 ≤ m) && decide (m ≤ 4611686018427387904)) with
      | false => rw [hcnd] at hp; cases hp
      | true =>
       rw [hcnd] at hp
       simp only [Bool.and_eq_true, decide_eq_true_eq] at hcnd
       rw [ez] at hvz
       have ezv : a.eval z = .int k m := hvz.1
       refine afN h ho hc hav htv hu hi hn hby hz hzs anY (fun ys hys => ?_) hb hp
       have au7 : ys = List.replicate m.toNat ty.row.dflt := by simpa [rowsOf] using hys.symm
       subst au7
       have hD := iO.rep (R := gK w (!true) ty.row) (d := ty.row.dflt) (zs := zv.cells.toList) (hzR.1 w _) m.toNat
       rw [show zv.cells.toList.length = ty.row.n by simp [hzs]] at hD
       have hm : (m.toNat : Int) = m := Int.toNat_of_nonneg hcnd.1
       have hos : lG ty.row (.l .no ty.row (List.replicate m.toNat ty.row.dflt)) σ = (true, σ.ob) := by unfold lG; rw [if_pos atJ]
       refine ⟨_, [], C, L, ?_, by rw [hos]; exact hD, by rw [hos]; exact X0.refl h _⟩
       rw [ezv, List.length_replicate]
       have := ZJ.arw (w := w) (P := P) (ty := o.type) (k := k) (n := m.toNat) hu hi hz (by rw [hzs, hn]) htx (by omega) (fun u hu => hD.one u hu)
       rwa [hm] at this
     ·cases hp
    ·cases hp
  ·cases hp
 ·cases hp
theorem apK {hi : Option Operand} (h : afH hi = true) : ∃ kk, hi = some (.const (.int kk 0)) := by
 unfold afH at h
 split at h
 ·rename_i kk n
  have : n = 0 := by simpa using h
  subst this
  exact ⟨kk, rfl⟩
 ·cases h
theorem anZ (hT : iG P Γ.ty) (h : Rel B0 w0 σ a w C L) {o : Oper} {t : TypeId} {y : Operand} {lo hi : Option Operand} (ho : o.op = .slice t y lo hi none) {b : Nat} (hb : ∀ k, b ≤ k → k < b + 256 → ¬ C.U k) {K : St → Option aj} {r : aj} (hp : effect Γ b o σ K = some r) {Q : Exit → Act → World → Prop} :
  o.wp P a w (U3 Γ.lend B0 w0 o σ w C L b K r) Q := by
 have hy := h.ev y
 simp only [effect, ho] at hp
 split at hp
 ·rename_i ty ht
  split at hp
  ·rename_i hcond
   simp only [Bool.and_eq_true, Option.isNone_iff_eq_none] at hcond
   obtain ⟨⟨hsl, rfl⟩, hz⟩ := hcond
   obtain ⟨kk, rfl⟩ := apK hz
   obtain ⟨e, hu, i, zv, hi, hn, _⟩ := (hT t ty ht).sl hsl
   split at hp
   ·rename_i k es
    rw [es] at hy
    split at hp
    ·rename_i deep r' xs eo
     split at hp
     ·rename_i hr
      obtain ⟨cv, F, hφ, hF, hN, hO⟩ := h.arr eo
      rw [if_pos rfl] at hO
      have hsub : ∀ x ∈ F.take 1, x ∈ L k := fun x hx => by
       split at hO <;> rw [hO]
       ·exact List.mem_of_mem_take hx
       ·exact hx
      have hhd : ∀ x, (F.take 1).head? = some x → (L k).head? = some x := fun x hx => by
       cases F with
       | nil => cases hx
       | cons f F => split at hO <;> rw [hO] <;> simpa using hx
      have hmu : (σ.obj k).mu = true := by rw [eo]; rfl
      obtain ⟨ad, len, cap, ec, hlc⟩ : ∃ ad len cap, cv = .slice ad len cap ∧ len ≤ cap := by
       rcases hF with ⟨_, _, ad, cap, h3, _⟩ | ⟨b', o', cap, F', h3, h4, _⟩ <;> exact ⟨_, _, _, h3, by omega⟩
      have ey : a.eval y = .slice ad len cap := by rw [hy.2.2 cv r'.n hφ, ec]
      obtain ⟨cv1, hcv1⟩ : ∃ cv1, cv1 = Value.slice (if cap = 0 then ad else ad.map (·.add (0 * i.size))) 0 cap := ⟨_, rfl⟩
      have hrun : (execOp a.eval o).run P w = .ok (.value cv1) w := by
       have := run_sliceAt_slice hu hi (ad := ad) (CY (P := P) h (lo := none) (hi := some (.const (.int kk 0))) (l := none) (m := some 0) rfl rfl true (len := len) (cap := cap) (Int.le_refl _) (Int.le_refl _) (by simp) hlc w)
       simp only [Option.getD_none, Option.getD_some, Int.toNat_zero, Nat.sub_zero] at this
       rw [hcv1]
       simp [execOp, ho, ey] at this ⊢
       simp [this]
      have hS : rY (gK w (!(true && deep)) r') w (!true) r'.n [] cv1 (F.take 1) := by
       rcases hF with ⟨h1, h2, ad', cap', h3, h4⟩ | ⟨b', o', cap', F', h3, h4, h5, h6, h7, h8⟩
       ·obtain ⟨rfl, rfl⟩ := h4 rfl
        rw [ec] at h3
        injection h3 with e1 e2 e3
        subst e1; subst e3; subst h2
        exact .inl ⟨rfl, rfl, none, 0, by rw [hcv1]; rfl, fun _ => ⟨rfl, rfl⟩⟩
       ·rw [ec] at h3
        injection h3 with e1 e2 e3
        subst e1; subst e3; subst h5
        refine .inr ⟨b', o', cap, [], ?_, Nat.zero_le _, rfl, h6, h7, rfl⟩
        rw [hcv1]
        by_cases hc0 : cap = 0
        ·rw [if_pos hc0]; rfl
        ·rw [if_neg hc0]; simp [Addr.add]
      have hbU : ¬ C.U b := hb b (Nat.le_refl _) (by omega)
      obtain ⟨g1, g2⟩ := h.become (k := k) hbU (w1 := w) (Nat.le_refl _) (fun _ _ _ => rfl) hmu h.below (e := .arr true deep r' []) (p := .arr cv1 r'.n) (O := F.take 1)
       ⟨cv1, F.take 1, by simp [Cx.mv], hS, fun x hx => by cases F <;> simp at hx, by rw [if_pos rfl]; split <;> simp [List.take_take]⟩
       (fun x hx => h.own k x (hsub x hx)) (by cases F <;> simp) (fun j hj x hx hxj => h.dj k j (Ne.symm hj) x (hsub x hx) hxj)
       (fun x hx => h.nm k x hmu (hhd x hx.2))
      have hto : k ∈ touched Γ.lend o σ := by simp [touched, ho, es, afH]
      refine ug (c := cv1) (w' := w) hrun ⟨⟨_, _, _, hp, g1.put o.dst ⟨.inr rfl, by rw [hcv1]; rfl, fun cv' n' hφ' => ?_⟩, g2, fun q hq => ?_, jV .., gQ .., kT .., ?_⟩, fun _ _ _ => rfl, Nat.le_refl _⟩
      ·simp [Cx.mv] at hφ'; exact hφ'.1
      ·rcases hq with hq | rfl
       ·exact .inl hq
       ·exact .inr ⟨Nat.le_refl _, by omega⟩
      ·refine ⟨fun j x hx hn' => ?_, fun j x hx => ?_, fun x hx => .inl hx⟩
       ·split at hx
        ·exact .inr (.inr ⟨k, hto, hsub x hx⟩)
        ·split at hx
         ·cases hx
         ·exact .inl hx
       ·split at hx
        ·exact .inl ⟨k, hsub x hx⟩
        ·split at hx
         ·cases hx
         ·exact .inl ⟨j, hx⟩
     ·cases hp
    ·cases hp
   ·cases hp
  ·cases hp
 ·cases hp
end
end Go.Ev
end
section
set_option linter.unusedVariables false
namespace Go.Ev
open Go.RowKit
def Cx.ext (M : Nat → Prop) : Cx := ⟨fun _ => none, fun _ => False, M, fun _ => none⟩
theorem Cx.alv {M : Nat → Prop} {C : Cx} {w : World} (h : ∀ x, M x → C.N x) : (Cx.ext M).Le w C w := ⟨fun _ _ hu => hu.elim, fun _ hu => hu.elim, h, fun _ _ => rfl, fun _ _ hu => hu.elim⟩
theorem Cx.QU {M M' : Nat → Prop} {w : World} (h : ∀ x, M x → M' x) : (Cx.ext M).Le w (Cx.ext M') w := Cx.alv h
def jd (w : World) : V → Value → List Nat → List Nat → List Nat → Prop
 | .l .deep r xs, c, O, M, H => rY (gK w false r) w false r.n xs c O ∧ M = O.drop 1 ∧ H = O.take 1
 | .l .top r xs, c, O, M, H => ∃ F, rY (gK w true r) w false r.n xs c F ∧ O = F.take 1 ∧ M = F.drop 1 ∧ H = F.take 1
 | .l .own r xs, c, O, M, H => rY (gK w false r) w false r.n xs c O ∧ M = [] ∧ H = O
 | v, c, O, M, H => VR (Cx.ext (· ∈ M)) w v c ∧ O = [] ∧ H = []
def iq (w : World) : List V → List Value → List Nat → List Nat → List Nat → Prop
 | [], vs, O, M, H => vs = [] ∧ O = [] ∧ M = [] ∧ H = []
 | c :: cs, vs, O, M, H => ∃ v vs' O1 O2 M1 M2 H1 H2, vs = v :: vs' ∧ O = O1 ++ O2 ∧ M = M1 ++ M2 ∧ H = H1 ++ H2 ∧ jd w c v O1 M1 H1 ∧ iq w cs vs' O2 M2 H2
def tZ (w : World) : V → Value → List Nat → List Nat → List Nat → Prop
 | .io cs, c, O, M, H => ∃ b vs ty O' H', c = .pointer (some ⟨b, 0, none⟩) ∧ w.heap[b]? = some (.cells ⟨vs⟩ ty (0, 0)) ∧ iq w cs vs O' M H' ∧ O = b :: O' ∧ H = b :: H'
 | .a cs, c, O, M, H => ∃ vs, c = .agg ⟨vs⟩ ∧ iq w cs vs O M H
 | v, c, O, M, H => jd w v c O M H
def jr (w : World) : List V → List Value → List Nat → List Nat → List Nat → Prop
 | [], vs, O, M, H => vs = [] ∧ O = [] ∧ M = [] ∧ H = []
 | c :: cs, vs, O, M, H => ∃ v vs' O1 O2 M1 M2 H1 H2, vs = v :: vs' ∧ O = O1 ++ O2 ∧ M = M1 ++ M2 ∧ H = H1 ++ H2 ∧ tZ w c v O1 M1 H1 ∧ jr w cs vs' O2 M2 H2
theorem jd.plain {w : World} {v : V} {c : Value} {M : List Nat} (h : VR (Cx.ext (· ∈ M)) w v c) (h1 : ∀ r xs, v ≠ .l .deep r xs) (h2 : ∀ r xs, v ≠ .l .top r xs) (h3 : ∀ r xs, v ≠ .l .own r xs) : jd w v c [] M [] := by
 unfold jd
 split
 ·exact absurd rfl (h1 _ _)
 ·exact absurd rfl (h2 _ _)
 ·exact absurd rfl (h3 _ _)
 ·exact ⟨h, rfl, rfl⟩
section
variable {P : Program} {Γ : Env} {B0 : Nat} {w0 : World} {σ : St} {a : Act} {w : World} {C : Cx} {L : Nat → List Nat}
structure Handed (B0 : Nat) (w0 : World) (σ : St) (a : Act) (w : World) (C : Cx) (L : Nat → List Nat) (ob' : dO) (Ks : List Nat) (O M H : List Nat) (C' : Cx) (L' : Nat → List Nat) : Prop where
 rel : Rel B0 w0 { σ with ob := ob' } a w C' L'
 le : C.Le w C' w
 U : C'.U = C.U
 φ : C'.φ = C.φ
 eqn : ∀ k, L' k = L k ∨ L' k = []
 nn : ∀ x, C'.N x → C.N x ∨ ∃ j, x ∈ L j
 nd : O.Nodup
 from_ : ∀ x ∈ O, ∃ k, x ∈ L k
 off : ∀ x ∈ O, ∀ k, x ∉ L' k
 hM : ∀ x ∈ M, C'.N x
 hH : ∀ x ∈ H, (∃ k ∈ Ks, x ∈ L k) ∧ x ∈ O ∧ ¬ C'.N x
 OH : ∀ x ∈ O, x ∈ H ∨ x ∈ M
 mus : ∀ k, (St.obj { σ with ob := ob' } k).mu = true → σ.obj k = St.obj { σ with ob := ob' } k ∧ L' k = L k
 nos : ∀ k, σ.obj k = .no → St.obj { σ with ob := ob' } k = .no
theorem Handed.sub {ob' : dO} {Ks O M H : List Nat} {C' : Cx} {L' : Nat → List Nat} (h : Handed B0 w0 σ a w C L ob' Ks O M H C' L') : ∀ k x, x ∈ L' k → x ∈ L k := fun k x hx => by
 rcases h.eqn k with h | h
 ·rw [h] at hx; exact hx
 ·rw [h] at hx; cases hx
theorem Handed.refl (h : Rel B0 w0 σ a w C L) {M : List Nat} (hM : ∀ x ∈ M, C.N x) : Handed B0 w0 σ a w C L σ.ob [] [] M [] C L :=
 ⟨h, Cx.Le.refl C w, rfl, rfl, fun _ => .inl rfl, fun _ h => .inl h, List.nodup_nil, fun _ h => (nomatch h), fun _ h => (nomatch h), hM, fun _ h => (nomatch h), fun _ h => (nomatch h), fun _ _ => ⟨rfl, rfl⟩, fun _ h => h⟩
theorem Handed.trans {kN zV : dO} {K1 K2 O1 O2 M1 M2 H1 H2 : List Nat} {C1 C2 : Cx} {L1 L2 : Nat → List Nat} (h1 : Handed B0 w0 σ a w C L kN K1 O1 M1 H1 C1 L1) (h2 : Handed B0 w0 { σ with ob := kN } a w C1 L1 zV K2 O2 M2 H2 C2 L2) :
  Handed B0 w0 σ a w C L zV (K1 ++ K2) (O1 ++ O2) (M1 ++ M2) (H1 ++ H2) C2 L2 := by
 refine ⟨h2.rel, h1.le.trans h2.le, h2.U.trans h1.U, h2.φ.trans h1.φ, fun k => ?_, fun x hx => ?_, ?_, fun x hx => ?_, fun x hx k hk => ?_, fun x hx => ?_, fun x hx => ?_, fun x hx => ?_, fun k hm => ?_, fun k hk => h2.nos k (h1.nos k hk)⟩
 ·rcases h2.eqn k with h | h
  ·rw [h]; exact h1.eqn k
  ·exact .inr h
 ·rcases h2.nn x hx with h | ⟨j, h⟩
  ·exact h1.nn x h
  ·exact .inr ⟨j, h1.sub j x h⟩
 ·rw [List.nodup_append]
  refine ⟨h1.nd, h2.nd, fun x hx y hy e => ?_⟩
  subst e
  obtain ⟨k, hk⟩ := h2.from_ x hy
  exact h1.off x hx k hk
 ·rcases List.mem_append.1 hx with hx | hx
  ·exact h1.from_ x hx
  ·obtain ⟨k, hk⟩ := h2.from_ x hx
   exact ⟨k, h1.sub k x hk⟩
 ·rcases List.mem_append.1 hx with hx | hx
  ·exact h1.off x hx k (h2.sub k x hk)
  ·exact h2.off x hx k hk
 ·rcases List.mem_append.1 hx with hx | hx
  ·exact h2.le.N x (h1.hM x hx)
  ·exact h2.hM x hx
 ·rcases List.mem_append.1 hx with hx | hx
  ·obtain ⟨⟨k, hk, hk'⟩, g2, g3⟩ := h1.hH x hx
   refine ⟨⟨k, by simp [hk], hk'⟩, by simp [g2], fun hN => ?_⟩
   rcases h2.nn x hN with h | ⟨j, h⟩
   ·exact g3 h
   ·exact h1.off x g2 j h
  ·obtain ⟨⟨k, hk, hk'⟩, g2, g3⟩ := h2.hH x hx
   exact ⟨⟨k, by simp [hk], h1.sub k x hk'⟩, by simp [g2], g3⟩
 ·rcases List.mem_append.1 hx with hx | hx
  ·exact (h1.OH x hx).imp (by intro h; simp [h]) (by intro h; simp [h])
  ·exact (h2.OH x hx).imp (by intro h; simp [h]) (by intro h; simp [h])
 ·obtain ⟨e1, e2⟩ := h2.mus k hm
  rw [← e1] at hm
  obtain ⟨e3, e4⟩ := h1.mus k hm
  exact ⟨e3.trans e1, e2.trans e4⟩
theorem Handed.mono {ob' : dO} {Ks Ks' O M H : List Nat} {C' : Cx} {L' : Nat → List Nat} (h : Handed B0 w0 σ a w C L ob' Ks O M H C' L') (hk : ∀ k ∈ Ks, k ∈ Ks') : Handed B0 w0 σ a w C L ob' Ks' O M H C' L' :=
 by
 refine { h with hH := fun x hx => ?_ }
 obtain ⟨⟨k, h1, h2⟩, h3⟩ := h.hH x hx
 exact ⟨⟨k, hk k h1, h2⟩, h3⟩
theorem Handed.del (h : Rel B0 w0 σ a w C L) {k : Nat} {O M H : List Nat} (hO : O = L k) (hM : ∀ x ∈ M, C.N x) (hH : ∀ x ∈ H, x ∈ L k ∧ ¬ C.N x) (hOH : ∀ x ∈ O, x ∈ H ∨ x ∈ M) :
  Handed B0 w0 σ a w C L (σ.ob.del k) [k] O M H C (fun j => if j = k then [] else L j) := by
 have hob : ∀ j, St.obj { σ with ob := σ.ob.del k } j = if j = k then .no else σ.obj j := fun j => by
  show (σ.ob.del k).get j = _
  rw [dO.FC]; rfl
 refine ⟨h.del k, Cx.Le.refl C w, rfl, rfl, fun j => ?_, fun _ h => .inl h, by rw [hO]; exact h.nd k, fun x hx => ⟨k, by rw [← hO]; exact hx⟩, fun x hx j hj => ?_, hM, fun x hx => ?_, hOH, fun j hmj => ?_, fun j hj => ?_⟩
 ·by_cases hjk : j = k
  ·exact .inr (by rw [if_pos hjk])
  ·exact .inl (by rw [if_neg hjk])
 ·split at hj
  ·cases hj
  ·rename_i hjk
   exact h.dj k j (Ne.symm hjk) x (by rw [← hO]; exact hx) hj
 ·obtain ⟨g1, g2⟩ := hH x hx
  exact ⟨⟨k, by simp, g1⟩, by rw [hO]; exact g1, g2⟩
 ·rw [hob] at hmj ⊢
  by_cases hjk : j = k
  ·rw [if_pos hjk] at hmj; simp [E.mu] at hmj
  ·rw [if_neg hjk, if_neg hjk]; exact ⟨rfl, rfl⟩
 ·rw [hob]
  split
  ·rfl
  ·exact hj
theorem Handed.drop (h : Rel B0 w0 σ a w C L) (k : Nat) : Handed B0 w0 σ a w C L (σ.ob.del k) [] [] [] [] C (fun j => if j = k then [] else L j) := by
 have hob : ∀ j, St.obj { σ with ob := σ.ob.del k } j = if j = k then .no else σ.obj j := fun j => by
  show (σ.ob.del k).get j = _
  rw [dO.FC]; rfl
 refine ⟨h.del k, Cx.Le.refl C w, rfl, rfl, fun j => ?_, fun _ h => .inl h, List.nodup_nil, fun _ h => (nomatch h), fun _ h => (nomatch h), fun _ h => (nomatch h), fun _ h => (nomatch h), fun _ h => (nomatch h), fun j hmj => ?_, fun j hj => ?_⟩
 ·by_cases hjk : j = k
  ·exact .inr (by rw [if_pos hjk])
  ·exact .inl (by rw [if_neg hjk])
 ·rw [hob] at hmj ⊢
  by_cases hjk : j = k
  ·rw [if_pos hjk] at hmj; simp [E.mu] at hmj
  ·rw [if_neg hjk, if_neg hjk]; exact ⟨rfl, rfl⟩
 ·rw [hob]
  split
  ·rfl
  ·exact hj
theorem Handed.freeze (h : Rel B0 w0 σ a w C L) {k : Nat} {mu deep : Bool} {r : Rw} {xs : List r.T} (e : σ.obj k = .arr mu deep r xs) {M : List Nat} :
  ∃ cv F C' L', C.φ k = some (.arr cv r.n) ∧ rY (gK w (!(mu && deep)) r) w (!mu) r.n xs cv F ∧ ((∀ x ∈ M, x ∈ F) → Handed B0 w0 σ a w C L (σ.ob.put k (.arr false deep r xs)) [] [] M [] C' L') ∧ ∀ x ∈ F, C'.N x := by
 obtain ⟨cv, F, C', L', h1, h2, h3⟩ := FD.freeze h e false (fun h => (nomatch h))
 exact ⟨cv, F, C', L', h1, h2, fun hM => ⟨h3.rel, h3.le, h3.U, h3.φ, h3.eqn, h3.nn, List.nodup_nil, fun _ h => (nomatch h), fun _ h => (nomatch h), fun x hx => h3.N x (hM x hx), fun _ h => (nomatch h), fun _ h => (nomatch h), h3.mus, fun j hj => by
  show (σ.ob.put k _).get j = _
  rw [dO.get_put, if_neg (fun hjk => by subst hjk; rw [e] at hj; cases hj)]; exact hj⟩, h3.N⟩
theorem ZK {w : World} {r : Rw} {xs : List r.T} {c : Value} {F : List Nat} {q e : Bool} (h : rY (gK w q r) w e r.n xs c F) : VR (Cx.ext (· ∈ F)) w (.l .no r xs) c :=
 ⟨F, h.imp (e' := true) (R' := gK w true r) (fun h => by cases h) (fun _ _ => rfl) (fun x vs F' _ hR => gK.imp (e := q) (e' := true) (fun h => by cases h) r hR (fun _ _ => rfl)), fun b hb => hb⟩
theorem Ji (h : Rel B0 w0 σ a w C L) {c : V} {cv : Value} (hv : VR C w c cv) {d : V} {ob' : dO} (hh : uf c σ.ob = some (d, ob')) {Ks : List Nat} (hK : ∀ k, (c = .w k ∨ ∃ off len, c = .r k off len) → k ∈ Ks) :
  ∃ O M H C' L', jd w d cv O M H ∧ Handed B0 w0 σ a w C L ob' Ks O M H C' L' := by
 unfold uf at hh
 split at hh
 ·rename_i v
  cases hh
  exact ⟨[], [], [], C, L, ⟨hv, rfl, rfl⟩, (Handed.refl h (M := []) (fun _ h => (nomatch h))).mono (fun _ h => (nomatch h))⟩
 ·cases hh
  exact ⟨[], [], [], C, L, ⟨hv, rfl, rfl⟩, (Handed.refl h (M := []) (fun _ h => (nomatch h))).mono (fun _ h => (nomatch h))⟩
 ·rename_i o r xs
  cases hh
  obtain ⟨F, hF, hN⟩ := hv
  exact ⟨[], F, [], C, L, ⟨ZK hF, rfl, rfl⟩, (Handed.refl h hN).mono (fun _ h => (nomatch h))⟩
 ·rename_i k
  split at hh
  ·rename_i r xs eo
   cases hh
   have FH : σ.obj k = .arr true true r xs := eo
   obtain ⟨cv', F, hφ, hF, hN, hO⟩ := h.arr FH
   have hL : L k = F := by simpa using hO
   rw [hv.2.2 cv' _ hφ]
   refine ⟨F, F.drop 1, F.take 1, C, _, ⟨hF, rfl, rfl⟩, (Handed.del h hL.symm hN (fun x hx => ?_) (fun x hx => ?_)).mono (fun j hj => by simp at hj; subst hj; exact hK j (.inl rfl))⟩
   ·have hx' : (L k).head? = some x := by rw [hL]; cases F <;> simp at hx ⊢; exact hx.symm
    exact ⟨List.mem_of_mem_head? hx', h.nm k x (by rw [FH]; rfl) hx'⟩
   ·cases F with
    | nil => cases hx
    | cons f F => rcases List.mem_cons.1 hx with rfl | hx <;> simp [*]
  ·rename_i r xs eo
   cases hh
   have FH : σ.obj k = .arr true false r xs := eo
   obtain ⟨cv', F, hφ, hF, hN, hO⟩ := h.arr FH
   have hL : L k = F.take 1 := by simpa using hO
   rw [hv.2.2 cv' _ hφ]
   refine ⟨F.take 1, F.drop 1, F.take 1, C, _, ⟨F, hF, rfl, rfl, rfl⟩, (Handed.del h hL.symm hN (fun x hx => ?_) (fun x hx => .inl hx)).mono (fun j hj => by simp at hj; subst hj; exact hK j (.inl rfl))⟩
   have hx' : (L k).head? = some x := by rw [hL]; cases F <;> simp at hx ⊢; exact hx.symm
   exact ⟨List.mem_of_mem_head? hx', h.nm k x (by rw [FH]; rfl) hx'⟩
  ·rename_i deep r xs eo
   cases hh
   have FH : σ.obj k = .arr false deep r xs := eo
   obtain ⟨cv', F, hφ, hF, hN, hO⟩ := h.arr FH
   rw [if_neg (by simp)] at hO
   rw [hv.2.2 cv' _ hφ]
   exact ⟨[], F, [], C, L, ⟨ZK hF, rfl, rfl⟩, (Handed.refl h hO.2).mono (fun _ h => (nomatch h))⟩
  ·rename_i st r xs eo
   cases hh
   have FH : σ.obj k = .own st r xs := eo
   obtain ⟨cv', hφ, hF, _⟩ := h.ab3 FH
   rw [hv.2.2 cv' _ hφ]
   exact ⟨L k, [], L k, C, _, ⟨hF, rfl, rfl⟩, (Handed.del h rfl (M := []) (H := L k) (fun _ h => (nomatch h)) (fun x hx => ⟨hx, h.nw k x (by rw [FH]; exact hx)⟩) (fun x hx => .inl hx)).mono (fun j hj => by simp at hj; subst hj; exact hK j (.inl rfl))⟩
  ·cases hh
 ·rename_i k off len
  split at hh
  ·rename_i mu deep r xs eo
   cases hh
   have FH : σ.obj k = .arr mu deep r xs := eo
   obtain ⟨cv', F, C', L', g1, g2, g3, g4⟩ := Handed.freeze h FH (M := [])
   have hg := g3 (fun _ h => (nomatch h))
   have hob : ∀ j, St.obj { σ with ob := σ.ob.put k (.arr false deep r xs) } j = if j = k then .arr false deep r xs else σ.obj j := fun j => by
    show (σ.ob.put k _).get j = _
    rw [dO.get_put]; rfl
   have hr : rowsOf r { σ with ob := σ.ob.put k (.arr false deep r xs) } (.r k off len) = some ((xs.drop off).take len) := by
    simp [rowsOf, hob]
   obtain ⟨q, F2, r1, r2, r4, r3, r5⟩ := rows_ok hg.rel (hv.le hg.le) hr
   have hF2 := r3 (fun j hj => by
    rcases hj with hj | ⟨o1, o2, hj⟩
    ·cases hj
    ·cases hj; rw [hob, if_pos rfl]; rfl)
   exact ⟨[], F2, [], C', L', ⟨ZK r1, rfl, rfl⟩, ({ hg with hM := hF2, OH := fun _ h => (nomatch h) } : Handed B0 w0 σ a w C L _ [] [] F2 [] C' L').mono (fun _ h => (nomatch h))⟩
  ·cases hh
 ·cases hh
theorem vJ : ∀ (cs : List V) {σ : St} {C : Cx} {L : Nat → List Nat} (h : Rel B0 w0 σ a w C L) {vs : List Value} (hv : iY C w cs vs) {ds : List V} {ob' : dO} (hh : vH cs σ.ob = some (ds, ob')) {Ks : List Nat}
  (hK : ∀ c ∈ cs, ∀ k, (c = .w k ∨ ∃ off len, c = .r k off len) → k ∈ Ks), ∃ O M H C' L', iq w ds vs O M H ∧ Handed B0 w0 σ a w C L ob' Ks O M H C' L'
 | [], σ, C, L, h, vs, hv, ds, ob', hh, Ks, hK => by
  simp only [vH, Option.some.injEq, Prod.mk.injEq] at hh
  obtain ⟨rfl, rfl⟩ := hh
  simp only [iY] at hv
  exact ⟨[], [], [], C, L, ⟨hv, rfl, rfl, rfl⟩, (Handed.refl h (M := []) (fun _ h => (nomatch h))).mono (fun _ h => (nomatch h))⟩
 | c :: cs, σ, C, L, h, vs, hv, ds, ob', hh, Ks, hK => by
  simp only [vH] at hh
  split at hh
  ·cases hh
  ·rename_i d kN e1
   split at hh
   ·cases hh
   ·rename_i ds2 zV e2
    cases hh
    obtain ⟨v, vs', rfl, h2, h3⟩ := hv
    obtain ⟨O1, M1, H1, C1, L1, g1, g2⟩ := Ji h h2 e1 (hK c (by simp))
    obtain ⟨O2, M2, H2, C2, L2, g3, g4⟩ := vJ cs g2.rel (h3.le g2.le) e2 (Ks := Ks) (fun c hc => hK c (by simp [hc]))
    exact ⟨O1 ++ O2, M1 ++ M2, H1 ++ H2, C2, L2, ⟨v, vs', O1, O2, M1, M2, H1, H2, rfl, rfl, rfl, rfl, g1, g3⟩, (g2.trans g4).mono (fun k hk => by simpa using hk)⟩
def Oo (w : World) : List V → List Hd → List Value → List Nat → List Nat → List Nat → Prop
 | [], hs, vs, O, M, H => hs = [] ∧ vs = [] ∧ O = [] ∧ M = [] ∧ H = []
 | u :: us, hs, vs, O, M, H => ∃ v vs', vs = v :: vs' ∧ ((∃ hs', hs = .no :: hs' ∧ Oo w us hs' vs' O M H) ∨
   (∃ ds hs' O1 O2 M1 M2 H1 H2, hs = .bx ds :: hs' ∧ O = O1 ++ O2 ∧ M = M1 ++ M2 ∧ H = H1 ++ H2 ∧ tZ w (.io ds) v O1 M1 H1 ∧ Oo w us hs' vs' O2 M2 H2) ∨
   ∃ d hs' O1 O2 M1 M2 H1 H2, hs = .cl d :: hs' ∧ O = O1 ++ O2 ∧ M = M1 ++ M2 ∧ H = H1 ++ H2 ∧ tZ w d v O1 M1 H1 ∧ d.back = false ∧ Oo w us hs' vs' O2 M2 H2)
def Ny : List Hd → List Value → List Value
 | .bx _ :: hs, v :: vs => v :: Ny hs vs
 | .cl _ :: hs, _ :: vs => Ny hs vs
 | .no :: hs, _ :: vs => Ny hs vs
 | _, _ => []
theorem aiO (h : Rel B0 w0 σ a w C L) {k : Nat} {cv : Value} (hv : VR C w (.w k) cv) {d : V} {ob' : dO} (hh : abT k σ.ob = some (d, ob')) {Ks : List Nat} (hK : k ∈ Ks) :
  ∃ O M H C' L', tZ w d cv O M H ∧ d.back = false ∧ Handed B0 w0 σ a w C L ob' Ks O M H C' L' := by
 unfold abT at hh
 split at hh
 ·rename_i mu deep r xs e
  obtain ⟨O, M, H, C', L', g1, g2⟩ := Ji h hv hh (Ks := Ks) (fun j hj => by
   rcases hj with hj | ⟨_, _, hj⟩
   ·cases hj; exact hK
   ·cases hj)
  have hd : ∃ o, d = .l o r xs ∧ o ≠ .own := by
   unfold uf at hh
   simp only [e] at hh
   cases mu <;> cases deep <;> simp only [Option.some.injEq, Prod.mk.injEq] at hh <;> exact ⟨_, hh.1.symm, by simp⟩
  obtain ⟨o, rfl, ho⟩ := hd
  refine ⟨O, M, H, C', L', g1, ?_, g2⟩
  cases o <;> first | rfl | exact absurd rfl ho
 ·cases hh
def PsR (C : Cx) : List Nat → List Value → Prop
 | [], ps => ps = []
 | k :: ks, ps => ∃ blk ps', ps = .pointer (some ⟨blk, 0, none⟩) :: ps' ∧ C.φ k = some (.box blk) ∧ C.U k ∧ PsR C ks ps'
theorem PsR.imp {C C' : Cx} (hφ : ∀ k, C.U k → C'.φ k = C.φ k) (hU : ∀ k, C.U k → C'.U k) : ∀ {ks : List Nat} {ps : List Value}, PsR C ks ps → PsR C' ks ps
 | [], _, h => h
 | k :: ks, _, ⟨blk, ps', h1, h2, h3, h4⟩ => ⟨blk, ps', h1, (hφ k h3).trans h2, hU k h3, PsR.imp hφ hU h4⟩
theorem abM {gv : Bool} : ∀ (us : List V) {σ : St} {C : Cx} {L : Nat → List Nat} (h : Rel B0 w0 σ a w C L) {vs : List Value} (hv : iY C w us vs) {hs : List Hd} {ks : List Nat} {ob' : dO} (hh : hand gv us σ.ob = some (hs, ks, ob')) {Ks : List Nat}
  (hK : ∀ k cs, V.pb k 0 ∈ us → σ.obj k = .box cs → k ∈ Ks ∧ ∀ c ∈ cs, ∀ j, (c = .w j ∨ ∃ off len, c = .r j off len) → j ∈ Ks) (hW : gv = true → ∀ k, V.w k ∈ us → k ∈ Ks), ∃ O M H C' L', Oo w us hs vs O M H ∧ Handed B0 w0 σ a w C L ob' Ks O M H C' L' ∧ PsR C ks (Ny hs vs) ∧ ks.Nodup ∧ ∀ k ∈ ks, (∃ cs, σ.obj k = .box cs) ∧ St.obj { σ with ob := ob' } k = .no
 | [], σ, C, L, h, vs, hv, hs, ks, ob', hh, Ks, hK, hW => by
  simp only [hand, Option.some.injEq, Prod.mk.injEq] at hh
  obtain ⟨rfl, rfl, rfl⟩ := hh
  simp only [iY] at hv
  exact ⟨[], [], [], C, L, ⟨rfl, hv, rfl, rfl, rfl⟩, (Handed.refl h (M := []) (fun _ h => (nomatch h))).mono (fun _ h => (nomatch h)), rfl, List.nodup_nil, fun _ h => (nomatch h)⟩
 | u :: us, σ, C, L, h, vs, hv, hs, ks, ob', hh, Ks, hK, hW => by
  obtain ⟨v, vs', rfl, h2, h3⟩ := hv
  have skip : (match hand gv us σ.ob with
   | none => none
   | some (hs, ks, zV) => some (Hd.no :: hs, ks, zV)) = some (hs, ks, ob') → ∃ O M H C' L', Oo w (u :: us) hs (v :: vs') O M H ∧ Handed B0 w0 σ a w C L ob' Ks O M H C' L' ∧ PsR C ks (Ny hs (v :: vs')) ∧ ks.Nodup ∧ ∀ k ∈ ks, (∃ cs, σ.obj k = .box cs) ∧ St.obj { σ with ob := ob' } k = .no := by
   intro hh
   split at hh
   ·cases hh
   ·rename_i hs2 ks2 zV e2
    cases hh
    obtain ⟨O, M, H, C', L', g1, g2, g3, g4, g5⟩ := abM us h h3 e2 (Ks := Ks) (fun k cs hk => hK k cs (by simp [hk])) (fun hg k hk => hW hg k (by simp [hk]))
    exact ⟨O, M, H, C', L', ⟨v, vs', rfl, .inl ⟨hs2, rfl, g1⟩⟩, g2, g3, g4, g5⟩
  by_cases hpb : ∃ k, u = .pb k 0
  ·obtain ⟨k, rfl⟩ := hpb
   simp only [hand] at hh
   split at hh
   ·rename_i cs eo
    have FH : σ.obj k = .box cs := eo
    split at hh
    ·cases hh
    ·rename_i ds kN e1
     split at hh
     ·cases hh
     ·rename_i hs2 ks2 zV e2
      cases hh
      obtain ⟨k1, k2⟩ := hK k cs (by simp) FH
      obtain ⟨b, bvs, ty, q1, q2, q3, q4⟩ := h.box FH
      have hd := Handed.del h (k := k) (O := [b]) (M := []) (H := [b]) q2.symm (fun _ h => (nomatch h)) (fun x hx => by simp at hx; subst hx; exact ⟨by rw [q2]; simp, h.nm k _ (by rw [FH]; rfl) (by rw [q2]; rfl)⟩) (fun x hx => .inl hx)
      obtain ⟨O1, M1, H1, C1, L1, g1, g2⟩ := vJ cs hd.rel (q4.le hd.le) e1 (Ks := Ks) k2
      have g3 := (hd.trans g2).mono (Ks' := Ks) (fun j hj => by
       rcases List.mem_append.1 hj with hj | hj
       ·simp at hj; subst hj; exact k1
       ·exact hj)
      have hno : St.obj { σ with ob := kN } k = .no := by
       refine g2.nos k ?_
       show (σ.ob.del k).get k = _
       rw [dO.FC, if_pos rfl]
      obtain ⟨O2, M2, H2, C2, L2, g4, g5, g6, g7, g8⟩ := abM us g3.rel (h3.le g3.le) e2 (Ks := Ks) (fun j cs hj hb => by
       have e3 := g3.mus j (by rw [hb]; rfl)
       exact hK j cs (by simp [hj]) (by rw [e3.1]; exact hb)) (fun hg k hk => hW hg k (by simp [hk]))
      refine ⟨[b] ++ O1 ++ O2, [] ++ M1 ++ M2, [b] ++ H1 ++ H2, C2, L2, ⟨v, vs', rfl, .inr (.inl ⟨ds, hs2, [b] ++ O1, O2, M1, M2, [b] ++ H1, H2, rfl, rfl, rfl, rfl, ⟨b, bvs, ty, O1, H1, ?_, q3, g1, rfl, rfl⟩, g4⟩)⟩, (g3.trans g5).mono (fun j hj => by simpa using hj), ⟨b, _, by rw [h2.2.2 b q1]; rfl, q1, h2.1, PsR.imp (fun j _ => by rw [g3.φ]) (fun j hj => by rw [g3.U] at hj; exact hj) g6⟩, ?_, ?_⟩
      ·exact h2.2.2 b q1
      ·refine List.nodup_cons.2 ⟨fun hk => ?_, g7⟩
       obtain ⟨⟨cs', hb⟩, _⟩ := g8 k hk
       rw [hno] at hb; cases hb
      ·intro j hj
       rcases List.mem_cons.1 hj with rfl | hj
       ·exact ⟨⟨cs, FH⟩, g5.nos j hno⟩
       ·obtain ⟨⟨cs', hb⟩, hn⟩ := g8 j hj
        have e3 := g3.mus j (by rw [hb]; rfl)
        exact ⟨⟨cs', by rw [e3.1]; exact hb⟩, hn⟩
   ·cases hh
  ·cases u with
   | pb k j =>
    cases j with
    | zero => exact absurd ⟨k, rfl⟩ hpb
    | succ j => exact skip hh
   | w k =>
    simp only [hand] at hh
    cases hgv : gv with
    | false => rw [hgv] at hh skip; exact skip hh
    | true =>
     simp only [hgv, cond_true] at hh
     split at hh
     ·cases hh
     ·rename_i d kN e1
      split at hh
      ·cases hh
      ·rename_i hs2 ks2 zV e2
       cases hh
       obtain ⟨O1, M1, H1, C1, L1, g1, g0, g2⟩ := aiO h h2 e1 (hW hgv k (by simp))
       obtain ⟨O2, M2, H2, C2, L2, g4, g5, g6, g7, g8⟩ := abM us g2.rel (h3.le g2.le) e2 (Ks := Ks) (fun j cs hj hb => by
        have e3 := g2.mus j (by rw [hb]; rfl)
        exact hK j cs (by simp [hj]) (by rw [e3.1]; exact hb)) (fun _ k hk => hW hgv k (by simp [hk]))
       refine ⟨O1 ++ O2, M1 ++ M2, H1 ++ H2, C2, L2, ⟨v, vs', rfl, .inr (.inr ⟨d, hs2, O1, O2, M1, M2, H1, H2, rfl, rfl, rfl, rfl, g1, g0, g4⟩)⟩, (g2.trans g5).mono (fun j hj => by simpa using hj), PsR.imp (fun j _ => by rw [g2.φ]) (fun j hj => by rw [g2.U] at hj; exact hj) g6, g7, ?_⟩
       intro j hj
       obtain ⟨⟨cs', hb⟩, hn⟩ := g8 j hj
       have e3 := g2.mus j (by rw [hb]; rfl)
       exact ⟨⟨cs', by rw [e3.1]; exact hb⟩, hn⟩
   | _ => exact skip hh
def St.IW (σ : St) (k : Nat) : Prop := (∀ deep r xs, σ.obj k ≠ .arr true deep r xs) ∧ ∀ st r xs, σ.obj k ≠ .own st r xs
theorem St.IW.mu {σ : St} {k : Nat} (h : σ.IW k) {mu deep : Bool} {r : Rw} {xs : List r.T} (e : σ.obj k = .arr mu deep r xs) : mu = false := by
 cases mu with
 | false => rfl
 | true => exact absurd e (h.1 deep r xs)
mutual
theorem apL {C : Cx} {w : World} : (u : V) → u.clo = true → {c : Value} → VR C w u c → ∃ M : List Nat, VR (Cx.ext (· ∈ M)) w u c ∧ ∀ x ∈ M, C.N x
 | .s v, _, c, h => ⟨[], h, fun _ h => (nomatch h)⟩
 | .nl, _, c, h => ⟨[], h, fun _ h => (nomatch h)⟩
 | .q r d j, _, c, ⟨b, o, vs, F, h1, h2, h3, h4, h5, h6⟩ => ⟨b :: F, ⟨b, o, vs, F, h1, by simp [Cx.ext], h3, h4, h5, fun x hx => by simp [Cx.ext, hx]⟩, fun x hx => by
   rcases List.mem_cons.1 hx with rfl | hx
   ·exact h2
   ·exact h6 x hx⟩
 | .l o r xs, hc, c, ⟨F, h1, h2⟩ => by
  cases o <;> first | (simp [V.clo] at hc; done) | exact ⟨F, ZK h1, h2⟩
 | .qb cs j, hc, c, ⟨b, vs, ty, h1, h2, h3, h4⟩ => by
  obtain ⟨M, g1, g2⟩ := agG cs (by simpa [V.clo] using hc) h4
  refine ⟨b :: M, ⟨b, vs, ty, h1, by simp [Cx.ext], h3, g1.le (Cx.QU (fun x hx => by simp [hx]))⟩, fun x hx => ?_⟩
  rcases List.mem_cons.1 hx with rfl | hx
  ·exact h2
  ·exact g2 x hx
 | .a _, hc, _, _ => by simp [V.clo] at hc
 | .t _, hc, _, _ => by simp [V.clo] at hc
 | .w _, hc, _, _ => by simp [V.clo] at hc
 | .r _ _ _, hc, _, _ => by simp [V.clo] at hc
 | .pb _ _, hc, _, _ => by simp [V.clo] at hc
 | .pa _ _ _, hc, _, _ => by simp [V.clo] at hc
 | .sb _ _ _, hc, _, _ => by simp [V.clo] at hc
 | .f _ _, hc, _, _ => by simp [V.clo] at hc
 | .io _, hc, _, _ => by simp [V.clo] at hc
 | .x, hc, _, _ => by simp [V.clo] at hc
theorem agG {C : Cx} {w : World} : (us : List V) → abS us = true → {cs : List Value} → iY C w us cs → ∃ M : List Nat, iY (Cx.ext (· ∈ M)) w us cs ∧ ∀ x ∈ M, C.N x
 | [], _, cs, h => ⟨[], h, fun _ h => (nomatch h)⟩
 | u :: us, hc, _, ⟨v, vs', e1, h2, h3⟩ => by
  simp only [abS, Bool.and_eq_true] at hc
  obtain ⟨M1, g1, g2⟩ := apL u hc.1 h2
  obtain ⟨M2, g3, g4⟩ := agG us hc.2 h3
  refine ⟨M1 ++ M2, ⟨v, vs', e1, g1.le (Cx.QU (fun x hx => by simp [hx])), g3.le (Cx.QU (fun x hx => by simp [hx]))⟩, fun x hx => ?_⟩
  rcases List.mem_append.1 hx with hx | hx
  ·exact g2 x hx
  ·exact g4 x hx
end
theorem am3 (h : Rel B0 w0 σ a w C L) {u : V} {c : Value} (hv : VR C w u c) : ∃ M : List Nat, VR (Cx.ext (· ∈ M)) w (aeE σ.ob u) c ∧ (∀ x ∈ M, C.N x ∨ ∃ k, x ∈ L k) ∧
  ((∀ k, (u = .w k ∨ (∃ off len, u = .r k off len) ∨ ∃ i j, u = .pa k i j) → σ.IW k) → ∀ x ∈ M, C.N x) := by
 have bad : ∃ M : List Nat, VR (Cx.ext (· ∈ M)) w .x c ∧ (∀ x ∈ M, C.N x ∨ ∃ k, x ∈ L k) ∧
  ((∀ k, (u = .w k ∨ (∃ off len, u = .r k off len) ∨ ∃ i j, u = .pa k i j) → σ.IW k) → ∀ x ∈ M, C.N x) := ⟨[], trivial, fun _ h => (nomatch h), fun _ _ h => (nomatch h)⟩
 unfold aeE
 split
 ·exact ⟨[], hv, fun _ h => (nomatch h), fun _ _ h => (nomatch h)⟩
 ·exact ⟨[], hv, fun _ h => (nomatch h), fun _ _ h => (nomatch h)⟩
 ·rename_i k
  split
  ·rename_i mu deep r xs eo
   have FH : σ.obj k = .arr mu deep r xs := eo
   obtain ⟨q, F, r1, r2, r3, r4, r5⟩ := rows_ok h hv (show rowsOf r σ (.w k) = some xs by simp [rowsOf, FH])
   exact ⟨F, ZK r1, r5, fun hm => r4 (fun j hj => by
    have hl := hm j (by rcases hj with hj | hj; exact .inl hj; exact .inr (.inl hj))
    have hjk : j = k := by rcases hj with hj | ⟨_, _, hj⟩ <;> cases hj <;> rfl
    subst hjk
    rw [FH]; exact hl.mu FH)⟩
  ·rename_i st r xs eo
   have FH : σ.obj k = .own st r xs := eo
   obtain ⟨cv, hφ, hF, _⟩ := h.ab3 FH
   rw [hv.2.2 cv _ hφ]
   exact ⟨L k, ZK hF, fun x hx => .inr ⟨k, hx⟩, fun hm => absurd FH ((hm k (.inl rfl)).2 st r xs)⟩
  ·exact bad
 ·rename_i k off len
  split
  ·rename_i mu deep r xs eo
   have FH : σ.obj k = .arr mu deep r xs := eo
   obtain ⟨q, F, r1, r2, r3, r4, r5⟩ := rows_ok h hv (show rowsOf r σ (.r k off len) = some _ by simp [rowsOf, FH]; rfl)
   exact ⟨F, ZK r1, r5, fun hm => r4 (fun j hj => by
    have hl := hm j (by rcases hj with hj | hj; exact .inl hj; exact .inr (.inl hj))
    have hjk : j = k := by rcases hj with hj | ⟨_, _, hj⟩ <;> cases hj <;> rfl
    subst hjk
    rw [FH]; exact hl.mu FH)⟩
  ·exact bad
 ·rename_i o r xs
  obtain ⟨F, hF, hN⟩ := hv
  exact ⟨F, ZK hF, fun x hx => .inl (hN x hx), fun _ => hN⟩
 ·rename_i k i j
  split
  ·rename_i mu deep r xs eo
   have FH : σ.obj k = .arr mu deep r xs := eo
   obtain ⟨cv, F, hφ, hF, hN, hO⟩ := h.arr FH
   obtain ⟨b, o, l, cap, e1, hl, e2⟩ := hv.2.2 cv _ hφ
   rw [e1] at hF
   rcases hF with ⟨h5, _, _, _, h6, _⟩ | ⟨b', o', cap', F', h5, h6, h7, h8, h9, h10⟩
   ·injection h6 with _ e6 _; omega
   ·injection h5 with e3 e4 e5
    injection e3 with e3; injection e3 with e3 e6
    subst e3; subst e4; subst e6
    have hx : xs[i]? = some xs[i] := List.getElem?_eq_getElem hl
    obtain ⟨vs, F1, g1, g2, g3, g4⟩ := h10.get hx
    have hd : xs.getD i r.dflt = xs[i] := by rw [List.getD_eq_getElem?_getD, hx]; rfl
    have hsub : ∀ x ∈ b :: F1, x ∈ F := fun x hx => by
     rw [h7]
     rcases List.mem_cons.1 hx with rfl | hx
     ·simp
     ·exact List.mem_cons_of_mem _ (g1 x hx)
    refine ⟨b :: F1, ⟨b, o + i * r.n, vs, F1, e2, by simp [Cx.ext], g2, g3, ?_, fun x hx => by simp [Cx.ext, hx]⟩, fun x hx => acd hN hO x (hsub x hx), fun hm x hx => ?_⟩
    ·rw [hd]; exact gK.imp (e' := true) (fun h => by cases h) r g4 (fun _ _ => rfl)
    ·have hm' := (hm k (.inr (.inr ⟨i, j, rfl⟩))).mu FH
     subst hm'
     rw [if_neg (by simp)] at hO
     exact hO.2 x (hsub x hx)
  ·exact bad
 ·rename_i r d j
  obtain ⟨b, o, vs, F, h1, h2, h3, h4, h5, h6⟩ := hv
  refine ⟨b :: F, ⟨b, o, vs, F, h1, by simp [Cx.ext], h3, h4, h5, fun x hx => by simp [Cx.ext, hx]⟩, fun x hx => ?_, fun _ x hx => ?_⟩
  ·rcases List.mem_cons.1 hx with rfl | hx
   ·exact .inl h2
   ·exact .inl (h6 x hx)
  ·rcases List.mem_cons.1 hx with rfl | hx
   ·exact h2
   ·exact h6 x hx
 ·rename_i cs j
  cases hcl : abS cs with
  | false => exact bad
  | true =>
   obtain ⟨M, g1, g2⟩ := apL (.qb cs j) (by simpa [V.clo] using hcl) hv
   exact ⟨M, g1, fun x hx => .inl (g2 x hx), fun _ => g2⟩
 ·exact bad
theorem X3 (h : Rel B0 w0 σ a w C L) {f : V → V} (hf : ∀ {u : V} {c : Value}, VR C w u c → ∃ M : List Nat, VR (Cx.ext (· ∈ M)) w (f u) c ∧ ∀ x ∈ M, C.N x ∨ ∃ k, x ∈ L k) : ∀ (us : List V) {cs : List Value}, iY C w us cs →
  ∃ M : List Nat, iY (Cx.ext (· ∈ M)) w (us.map f) cs ∧ ∀ x ∈ M, C.N x ∨ ∃ k, x ∈ L k
 | [], cs, hv => ⟨[], hv, fun _ h => (nomatch h)⟩
 | u :: us, _, ⟨v, vs', e1, h2, h3⟩ => by
  obtain ⟨M1, g1, g2⟩ := hf h2
  obtain ⟨M2, g3, g4⟩ := X3 h hf us h3
  refine ⟨M1 ++ M2, ⟨v, vs', e1, g1.le (Cx.QU (fun x hx => by simp [hx])), g3.le (Cx.QU (fun x hx => by simp [hx]))⟩, fun x hx => ?_⟩
  rcases List.mem_append.1 hx with hx | hx
  ·exact g2 x hx
  ·exact g4 x hx
theorem afO (h : Rel B0 w0 σ a w C L) {f : V → V} (hf : ∀ {u : V} {c : Value}, VR C w u c → ∃ M : List Nat, VR (Cx.ext (· ∈ M)) w (f u) c ∧ ∀ x ∈ M, C.N x ∨ ∃ k, x ∈ L k) {k j : Nat} {c : Value} (hv : VR C w (.pb k j) c) :
  ∃ M : List Nat, VR (Cx.ext (· ∈ M)) w (match σ.ob.get k with
  | .box cs => .qb (cs.map f) j
  | _ => .x) c ∧ ∀ x ∈ M, C.N x ∨ ∃ k, x ∈ L k := by
 split
 ·rename_i cs eo
  have FH : σ.obj k = .box cs := eo
  obtain ⟨b, vs, ty, q1, q2, q3, q4⟩ := h.box FH
  obtain ⟨M, g1, g2⟩ := X3 h hf cs q4
  refine ⟨b :: M, ⟨b, vs, ty, hv.2.2 b q1, by simp [Cx.ext], q3, g1.le (Cx.QU (fun x hx => by simp [hx]))⟩, fun x hx => ?_⟩
  rcases List.mem_cons.1 hx with rfl | hx
  ·exact .inr ⟨k, by rw [q2]; simp⟩
  ·exact g2 x hx
 ·exact ⟨[], trivial, fun _ h => (nomatch h)⟩
theorem ace (h : Rel B0 w0 σ a w C L) {u : V} {c : Value} (hv : VR C w u c) : ∃ M : List Nat, VR (Cx.ext (· ∈ M)) w (aeE σ.ob u) c ∧ ∀ x ∈ M, C.N x ∨ ∃ k, x ∈ L k := by
 obtain ⟨M, g1, g2, _⟩ := am3 h hv
 exact ⟨M, g1, g2⟩
theorem arA (h : Rel B0 w0 σ a w C L) {u : V} {c : Value} (hv : VR C w u c) : ∃ M : List Nat, VR (Cx.ext (· ∈ M)) w (asn σ.ob u) c ∧ ∀ x ∈ M, C.N x ∨ ∃ k, x ∈ L k := by
 unfold asn
 split
 ·exact afO h (ace h) hv
 ·exact ace h hv
theorem arB (h : Rel B0 w0 σ a w C L) {u : V} {c : Value} (hv : VR C w u c) : ∃ M : List Nat, VR (Cx.ext (· ∈ M)) w (aps σ.ob u) c ∧ ∀ x ∈ M, C.N x ∨ ∃ k, x ∈ L k := by
 unfold aps
 split
 ·exact afO h (arA h) hv
 ·exact ace h hv
theorem aiP (ob : dO) : ∀ (us : List V), abS us = true → us.map (aps ob) = us
  | [], _ => rfl
  | u :: us, hc => by
    simp only [abS, Bool.and_eq_true] at hc
    rw [List.map_cons, aiP ob us hc.2]
    congr 1
    cases u with
    | l o r xs => cases o <;> first | (simp [V.clo] at hc; done) | rfl
    | qb cs j => have : abS cs = true := by simpa [V.clo] using hc.1
                 simp [aps, aeE, this]
    | s _ => rfl
    | nl => rfl
    | q _ _ _ => rfl
    | _ => simp [V.clo] at hc
theorem am4 (h : Rel B0 w0 σ a w C L) {u : V} {c : Value} (hv : VR C w u c) : ∃ M : List Nat, VR (Cx.ext (· ∈ M)) w (res1 σ.ob u) c ∧ (∀ x ∈ M, C.N x ∨ ∃ k, x ∈ L k) ∧
  ((∀ k, (u = .w k ∨ (∃ off len, u = .r k off len) ∨ ∃ i j, u = .pa k i j) → σ.IW k) → u.agt = true → ∀ x ∈ M, C.N x) := by
 unfold res1
 split
 ·rename_i g caps
  obtain ⟨vs, h1, h2⟩ := hv
  cases hcl : abS caps with
  | true =>
   obtain ⟨M, g1, g2⟩ := agG caps hcl h2
   rw [aiP σ.ob caps hcl]
   exact ⟨M, ⟨vs, h1, g1⟩, fun x hx => .inl (g2 x hx), fun _ _ => g2⟩
  | false =>
   obtain ⟨M, g1, g2⟩ := X3 h (arB h) caps h2
   exact ⟨M, ⟨vs, h1, g1⟩, g2, fun _ hn => by simp [V.agt, hcl] at hn⟩
 ·obtain ⟨M, g1, g2, g3⟩ := am3 h hv
  exact ⟨M, g1, g2, fun hm _ => g3 hm⟩
theorem Me (ob : dO) (u : V) : (∀ r xs, res1 ob u ≠ .l .deep r xs) ∧ (∀ r xs, res1 ob u ≠ .l .top r xs) ∧ ∀ r xs, res1 ob u ≠ .l .own r xs := by
 cases u <;> simp only [res1, aeE, Bool.cond_eq_ite] <;> (try split) <;> exact ⟨by intros; simp, by intros; simp, by intros; simp⟩
theorem am5 (ob : dO) (u : V) (cs : List V) : res1 ob u ≠ .io cs ∧ res1 ob u ≠ .a cs := by
 cases u <;> simp only [res1, aeE, Bool.cond_eq_ite] <;> (try split) <;> exact ⟨by simp, by simp⟩
theorem aiQ (h : Rel B0 w0 σ a w C L) : ∀ (us : List V) {cs : List Value} (hv : iY C w us cs), ∃ M : List Nat, iq w (us.map (res1 σ.ob)) cs [] M [] ∧ (∀ x ∈ M, C.N x ∨ ∃ k, x ∈ L k) ∧
  ((∀ u ∈ us, ∀ k, (u = .w k ∨ (∃ off len, u = .r k off len) ∨ ∃ i j, u = .pa k i j) → σ.IW k) → us.all V.agt = true → ∀ x ∈ M, C.N x)
 | [], cs, hv => ⟨[], ⟨hv, rfl, rfl, rfl⟩, fun _ h => (nomatch h), fun _ _ _ h => (nomatch h)⟩
 | u :: us, _, ⟨v, vs', e1, h2, h3⟩ => by
  subst e1
  obtain ⟨M1, g1, g2, g3⟩ := am4 h h2
  obtain ⟨M2, g4, g5, g6⟩ := aiQ h us h3
  refine ⟨M1 ++ M2, ⟨v, vs', [], [], M1, M2, [], [], rfl, rfl, rfl, rfl, jd.plain g1 (Me _ _).1 (Me _ _).2.1 (Me _ _).2.2, g4⟩, fun x hx => ?_, fun hm hn x hx => ?_⟩
  ·rcases List.mem_append.1 hx with hx | hx
   ·exact g2 x hx
   ·exact g5 x hx
  ·rcases List.mem_append.1 hx with hx | hx
   ·exact g3 (hm u (by simp)) (by simp only [List.all_cons, Bool.and_eq_true] at hn; exact hn.1) x hx
   ·exact g6 (fun u hu => hm u (by simp [hu])) (by simp only [List.all_cons, Bool.and_eq_true] at hn; exact hn.2) x hx
theorem an0 (h : Rel B0 w0 σ a w C L) {u : V} {c : Value} (hv : VR C w u c) : ∃ M : List Nat, tZ w (TJ σ.ob u) c [] M [] ∧ (∀ x ∈ M, C.N x ∨ ∃ k, x ∈ L k) ∧
  ((∀ v ∈ u.cells, ∀ k, (v = .w k ∨ (∃ off len, v = .r k off len) ∨ ∃ i j, v = .pa k i j) → σ.IW k) → u.noCap = true → ∀ x ∈ M, C.N x) := by
 have one : (∀ cs, u ≠ .a cs) → (∀ cs, res1 σ.ob u ≠ .io cs ∧ res1 σ.ob u ≠ .a cs) → u.cells = [u] → TJ σ.ob u = res1 σ.ob u → ∃ M : List Nat, tZ w (TJ σ.ob u) c [] M [] ∧ (∀ x ∈ M, C.N x ∨ ∃ k, x ∈ L k) ∧
  ((∀ v ∈ u.cells, ∀ k, (v = .w k ∨ (∃ off len, v = .r k off len) ∨ ∃ i j, v = .pa k i j) → σ.IW k) → u.noCap = true → ∀ x ∈ M, C.N x) := by
  intro h1 h2 h3 h4
  obtain ⟨M, g1, g2, g3⟩ := am4 h hv
  refine ⟨M, ?_, g2, fun hm hn => g3 (hm u (by rw [h3]; simp)) (by simpa [V.noCap, h3] using hn)⟩
  rw [h4]
  unfold tZ
  split
  ·rename_i cs e; exact absurd e (h2 cs).1
  ·rename_i cs e; exact absurd e (h2 cs).2
  ·exact jd.plain g1 (Me _ _).1 (Me _ _).2.1 (Me _ _).2.2
 cases u with
 | a cs =>
  obtain ⟨vs, rfl, h2⟩ := hv
  obtain ⟨M, g1, g2, g3⟩ := aiQ h cs h2
  exact ⟨M, ⟨vs, rfl, g1⟩, g2, g3⟩
 | _ =>
  exact one (by intros; simp) (am5 _ _) rfl rfl
theorem QV (h : Rel B0 w0 σ a w C L) : ∀ (us : List V) {hs : List Hd} {cs : List Value} {O M H : List Nat} (hv : iY C w us cs) (hh : Oo w us hs cs O M H),
  ∃ M', jr w (JL σ.ob us hs) cs O M' H ∧ (∀ x ∈ M', x ∈ M ∨ C.N x ∨ ∃ k, x ∈ L k) ∧
  ((∀ u ∈ us, ∀ v ∈ u.cells, ∀ k, (v = .w k ∨ (∃ off len, v = .r k off len) ∨ ∃ i j, v = .pa k i j) → σ.IW k) → us.all V.noCap = true → ∀ x ∈ M', x ∈ M ∨ C.N x)
 | [], hs, cs, O, M, H, hv, hh => by
  obtain ⟨rfl, h2, rfl, rfl, rfl⟩ := hh
  exact ⟨[], ⟨h2, rfl, rfl, rfl⟩, fun _ h => (nomatch h), fun _ _ _ h => (nomatch h)⟩
 | u :: us, hs, cs, O, M, H, hv, hh => by
  obtain ⟨v, vs', rfl, h2, h3⟩ := hv
  obtain ⟨v2, vs2, e1, hh⟩ := hh
  injection e1 with e1 e2
  subst e1; subst e2
  rcases hh with ⟨hs', rfl, h4⟩ | ⟨ds, hs', O1, O2, M1, M2, H1, H2, rfl, rfl, rfl, rfl, h4, h5⟩ | ⟨ds, hs', O1, O2, M1, M2, H1, H2, rfl, rfl, rfl, rfl, h4, _, h5⟩
  ·obtain ⟨M1, g1, g2, g3⟩ := an0 h h2
   obtain ⟨M2, g4, g5, g6⟩ := QV h us h3 h4
   refine ⟨M1 ++ M2, ⟨v, vs', [], O, M1, M2, [], H, rfl, rfl, rfl, rfl, g1, g4⟩, fun x hx => ?_, fun hm hn x hx => ?_⟩
   ·rcases List.mem_append.1 hx with hx | hx
    ·exact .inr (g2 x hx)
    ·exact g5 x hx
   ·rcases List.mem_append.1 hx with hx | hx
    ·exact .inr (g3 (hm u (by simp)) (by simp only [List.all_cons, Bool.and_eq_true] at hn; exact hn.1) x hx)
    ·exact g6 (fun u hu => hm u (by simp [hu])) (by simp only [List.all_cons, Bool.and_eq_true] at hn; exact hn.2) x hx
  ·obtain ⟨M3, g4, g5, g6⟩ := QV h us h3 h5
   refine ⟨M1 ++ M3, ⟨v, vs', O1, O2, M1, M3, H1, H2, rfl, rfl, rfl, rfl, h4, g4⟩, fun x hx => ?_, fun hm hn x hx => ?_⟩
   ·rcases List.mem_append.1 hx with hx | hx
    ·exact .inl (by simp [hx])
    ·exact (g5 x hx).imp (fun h => by simp [h]) id
   ·rcases List.mem_append.1 hx with hx | hx
    ·exact .inl (by simp [hx])
    ·exact (g6 (fun u hu => hm u (by simp [hu])) (by simp only [List.all_cons, Bool.and_eq_true] at hn; exact hn.2) x hx).imp (fun h => by simp [h]) id
  ·obtain ⟨M3, g4, g5, g6⟩ := QV h us h3 h5
   refine ⟨M1 ++ M3, ⟨v, vs', O1, O2, M1, M3, H1, H2, rfl, rfl, rfl, rfl, h4, g4⟩, fun x hx => ?_, fun hm hn x hx => ?_⟩
   ·rcases List.mem_append.1 hx with hx | hx
    ·exact .inl (by simp [hx])
    ·exact (g5 x hx).imp (fun h => by simp [h]) id
   ·rcases List.mem_append.1 hx with hx | hx
    ·exact .inl (by simp [hx])
    ·exact (g6 (fun u hu => hm u (by simp [hu])) (by simp only [List.all_cons, Bool.and_eq_true] at hn; exact hn.2) x hx).imp (fun h => by simp [h]) id
theorem Handed.XZ (h : Rel B0 w0 σ a w C L) {k : Nat} {st : Bool} {r : Rw} {xs : List r.T} (e : σ.obj k = .own st r xs) :
  ∃ C' L', Handed B0 w0 σ a w C L (σ.ob.put k (.arr false true r xs)) [] [] [] [] C' L' := by
 obtain ⟨C', L', h1, h2, h3, h4, h5, h6, h7⟩ := h.XZ e
 refine ⟨C', L', h1, h2, h3, h4, fun j => ?_, fun x hx => (h7 x hx).imp id (fun h => ⟨k, h⟩), List.nodup_nil, fun _ h => (nomatch h), fun _ h => (nomatch h), fun _ h => (nomatch h), fun _ h => (nomatch h), fun _ h => (nomatch h), fun j hm => ?_, fun j hj => ?_⟩
 ·by_cases hjk : j = k
  ·subst hjk; exact .inr h6
  ·exact .inl (h5 j hjk)
 ·have hg : St.obj { σ with ob := σ.ob.put k (.arr false true r xs) } j = if j = k then .arr false true r xs else σ.obj j := by
   show (σ.ob.put k _).get j = _
   rw [dO.get_put]; rfl
  rw [hg] at hm ⊢
  by_cases hjk : j = k
  ·rw [if_pos hjk] at hm; simp [E.mu] at hm
  ·rw [if_neg hjk]; exact ⟨rfl, h5 j hjk⟩
 ·show (σ.ob.put k _).get j = _
  rw [dO.get_put, if_neg (fun hjk => by subst hjk; rw [e] at hj; cases hj)]; exact hj
theorem alx (h : Rel B0 w0 σ a w C L) (c : V) : ∃ C' L', Handed B0 w0 σ a w C L (abJ c σ.ob) [] [] [] [] C' L' ∧
  (∀ k, (c = .w k ∨ (∃ off len, c = .r k off len) ∨ ∃ i j, c = .pa k i j) → St.IW { σ with ob := abJ c σ.ob } k) ∧ ∀ k, σ.IW k → St.IW { σ with ob := abJ c σ.ob } k := by
 have key : ∀ k, ∃ C' L', Handed B0 w0 σ a w C L (LZ k σ.ob) [] [] [] [] C' L' ∧ (St.IW { σ with ob := LZ k σ.ob } k) ∧ ∀ j, σ.IW j → St.IW { σ with ob := LZ k σ.ob } j := by
  intro k
  unfold LZ
  split
  ·rename_i mu deep r xs e
   obtain ⟨cv, F, C', L', g1, g2, g3, g4⟩ := Handed.freeze h (M := []) (show σ.obj k = .arr mu deep r xs from e)
   have hob : ∀ j, St.obj { σ with ob := σ.ob.put k (.arr false deep r xs) } j = if j = k then .arr false deep r xs else σ.obj j := fun j => by
    show (σ.ob.put k _).get j = _
    rw [dO.get_put]; rfl
   refine ⟨C', L', g3 (fun _ h => (nomatch h)), ⟨fun d' r' xs' => ?_, fun s' r' xs' => ?_⟩, fun j hj => ⟨fun d' r' xs' => ?_, fun s' r' xs' => ?_⟩⟩
   ·rw [hob, if_pos rfl]
    intro e; injection e with e; cases e
   ·rw [hob, if_pos rfl]; intro e; cases e
   ·rw [hob]
    split
    ·intro e; injection e with e; cases e
    ·exact hj.1 d' r' xs'
   ·rw [hob]
    split
    ·intro e; cases e
    ·exact hj.2 s' r' xs'
  ·rename_i st r xs e
   obtain ⟨C', L', g1⟩ := Handed.XZ h (show σ.obj k = .own st r xs from e)
   have hob : ∀ j, St.obj { σ with ob := σ.ob.put k (.arr false true r xs) } j = if j = k then .arr false true r xs else σ.obj j := fun j => by
    show (σ.ob.put k _).get j = _
    rw [dO.get_put]; rfl
   refine ⟨C', L', g1, ⟨fun d' r' xs' => ?_, fun s' r' xs' => ?_⟩, fun j hj => ⟨fun d' r' xs' => ?_, fun s' r' xs' => ?_⟩⟩
   ·rw [hob, if_pos rfl]
    intro e; injection e with e; cases e
   ·rw [hob, if_pos rfl]; intro e; cases e
   ·rw [hob]
    split
    ·intro e; injection e with e; cases e
    ·exact hj.1 d' r' xs'
   ·rw [hob]
    split
    ·intro e; cases e
    ·exact hj.2 s' r' xs'
  ·rename_i hn1 hn2
   exact ⟨C, L, Handed.refl h (M := []) (fun _ h => (nomatch h)), ⟨fun d' r' xs' => hn1 _ _ _ _, fun s' r' xs' => hn2 _ _ _⟩, fun _ h => h⟩
 cases c with
 | w k =>
  obtain ⟨C', L', g1, g2, g3⟩ := key k
  refine ⟨C', L', g1, fun j hj => ?_, g3⟩
  rcases hj with hj | ⟨_, _, hj⟩ | ⟨_, _, hj⟩ <;> cases hj
  exact g2
 | r k off len =>
  obtain ⟨C', L', g1, g2, g3⟩ := key k
  refine ⟨C', L', g1, fun j hj => ?_, g3⟩
  rcases hj with hj | ⟨_, _, hj⟩ | ⟨_, _, hj⟩ <;> cases hj
  exact g2
 | pa k i j' =>
  obtain ⟨C', L', g1, g2, g3⟩ := key k
  refine ⟨C', L', g1, fun j hj => ?_, g3⟩
  rcases hj with hj | ⟨_, _, hj⟩ | ⟨_, _, hj⟩ <;> cases hj
  exact g2
 | _ =>
  refine ⟨C, L, Handed.refl h (M := []) (fun _ h => (nomatch h)), fun j hj => ?_, fun _ h => h⟩
  rcases hj with hj | ⟨_, _, hj⟩ | ⟨_, _, hj⟩ <;> cases hj
theorem ZL : ∀ (cs : List V) {σ : St} {C : Cx} {L : Nat → List Nat} (h : Rel B0 w0 σ a w C L), ∃ C' L', Handed B0 w0 σ a w C L (Og cs σ.ob) [] [] [] [] C' L' ∧
  (∀ c ∈ cs, ∀ k, (c = .w k ∨ (∃ off len, c = .r k off len) ∨ ∃ i j, c = .pa k i j) → St.IW { σ with ob := Og cs σ.ob } k) ∧ ∀ k, σ.IW k → St.IW { σ with ob := Og cs σ.ob } k
 | [], σ, C, L, h => ⟨C, L, Handed.refl h (M := []) (fun _ h => (nomatch h)), fun _ h => (nomatch h), fun _ h => h⟩
 | c :: cs, σ, C, L, h => by
  obtain ⟨C1, L1, g1, g2, g3⟩ := alx h c
  obtain ⟨C2, L2, g4, g5, g6⟩ := ZL cs g1.rel
  refine ⟨C2, L2, g1.trans g4, fun d hd k hk => ?_, fun k hk => g6 k (g3 k hk)⟩
  rcases List.mem_cons.1 hd with rfl | hd
  ·exact g6 k (g2 k hk)
  ·exact g5 d hd k hk
theorem Ve : ∀ (us : List V) {σ : St} {C : Cx} {L : Nat → List Nat} (h : Rel B0 w0 σ a w C L), ∃ C' L', Handed B0 w0 σ a w C L (Gl us σ.ob) [] [] [] [] C' L' ∧
  (∀ u ∈ us, ∀ c ∈ u.cells, ∀ k, (c = .w k ∨ (∃ off len, c = .r k off len) ∨ ∃ i j, c = .pa k i j) → St.IW { σ with ob := Gl us σ.ob } k) ∧ ∀ k, σ.IW k → St.IW { σ with ob := Gl us σ.ob } k
 | [], σ, C, L, h => ⟨C, L, Handed.refl h (M := []) (fun _ h => (nomatch h)), fun _ h => (nomatch h), fun _ h => h⟩
 | u :: us, σ, C, L, h => by
  obtain ⟨C1, L1, g1, g2, g3⟩ := ZL u.cells h
  obtain ⟨C2, L2, g4, g5, g6⟩ := Ve us g1.rel
  refine ⟨C2, L2, g1.trans g4, fun d hd c hc k hk => ?_, fun k hk => g6 k (g3 k hk)⟩
  rcases List.mem_cons.1 hd with rfl | hd
  ·exact g6 k (g2 c hc k hk)
  ·exact g5 d hd c hc k hk
end
end Go.Ev
end
section
set_option linter.unusedVariables false
namespace Go.Ev
open Go.RowKit
section
variable {P : Program} {Γ : Env} {B0 : Nat} {w0 : World} {σ : St} {a : Act} {w : World} {C : Cx} {L : Nat → List Nat}
structure Taken (B0 : Nat) (w0 : World) (σ : St) (a : Act) (w : World) (C : Cx) (L : Nat → List Nat) (ob' : dO) (lo hi : Nat) (O H : List Nat) (C' : Cx) (L' : Nat → List Nat) : Prop where
 rel : Rel B0 w0 { σ with ob := ob' } a w C' L'
 le : C.Le w C' w
 U : ∀ k, C'.U k → C.U k ∨ (lo ≤ k ∧ k < hi)
 N : C'.N = C.N
 φ : ∀ k, C.U k → C'.φ k = C.φ k
 ow : ∀ k x, x ∈ L' k → x ∈ L k ∨ x ∈ O
 hd : ∀ k x, x ∈ L' k → ¬ C'.N x → x ∈ L k ∨ x ∈ H
 no : ∀ k, C.U k → St.obj { σ with ob := ob' } k = σ.obj k
theorem Taken.refl (h : Rel B0 w0 σ a w C L) (lo hi : Nat) : Taken B0 w0 σ a w C L σ.ob lo hi [] [] C L :=
 ⟨h, Cx.Le.refl C w, fun _ h => .inl h, rfl, fun _ _ => rfl, fun _ _ h => .inl h, fun _ _ h _ => .inl h, fun _ _ => rfl⟩
theorem Taken.trans {kN zV : dO} {l1 h1 l2 h2 lo hi : Nat} {O1 O2 H1 H2 : List Nat} {C1 C2 : Cx} {L1 L2 : Nat → List Nat} (t1 : Taken B0 w0 σ a w C L kN l1 h1 O1 H1 C1 L1) (t2 : Taken B0 w0 { σ with ob := kN } a w C1 L1 zV l2 h2 O2 H2 C2 L2)
  (e1 : lo ≤ l1) (e2 : h1 ≤ hi) (e3 : lo ≤ l2) (e4 : h2 ≤ hi) : Taken B0 w0 σ a w C L zV lo hi (O1 ++ O2) (H1 ++ H2) C2 L2 := by
 refine ⟨t2.rel, t1.le.trans t2.le, fun k hk => ?_, t2.N.trans t1.N, fun k hk => (t2.φ k (t1.le.U k hk)).trans (t1.φ k hk), fun k x hx => ?_, fun k x hx hn => ?_, fun k hk => (t2.no k (t1.le.U k hk)).trans (t1.no k hk)⟩
 ·rcases t2.U k hk with h | h
  ·rcases t1.U k h with h | h
   ·exact .inl h
   ·exact .inr (by omega)
  ·exact .inr (by omega)
 ·rcases t2.ow k x hx with h | h
  ·exact (t1.ow k x h).imp id (fun h => by simp [h])
  ·exact .inr (by simp [h])
 ·rcases t2.hd k x hx hn with h | h
  ·exact (t1.hd k x h (by rw [← t2.N]; exact hn)).imp id (fun h => by simp [h])
  ·exact .inr (by simp [h])
theorem Taken.mono {kN : dO} {l1 h1 lo hi : Nat} {O1 H1 O2 H2 : List Nat} {C1 : Cx} {L1 : Nat → List Nat} (t1 : Taken B0 w0 σ a w C L kN l1 h1 O1 H1 C1 L1) (e1 : lo ≤ l1) (e2 : h1 ≤ hi) (e3 : ∀ x ∈ O1, x ∈ O2) (e4 : ∀ x ∈ H1, x ∈ H2) : Taken B0 w0 σ a w C L kN lo hi O2 H2 C1 L1 :=
 ⟨t1.rel, t1.le, fun k hk => (t1.U k hk).imp id (fun h => by omega), t1.N, t1.φ, fun k x hx => (t1.ow k x hx).imp id (e3 x), fun k x hx hn => (t1.hd k x hx hn).imp id (e4 x), t1.no⟩
structure Fit (B0 : Nat) (w : World) (C : Cx) (L : Nat → List Nat) (O M H : List Nat) : Prop where
 hM : ∀ x ∈ M, C.N x
 hH : ∀ x ∈ H, ¬ C.N x
 nd : O.Nodup
 own : ∀ x ∈ O, B0 ≤ x ∧ x < w.heap.size
 off : ∀ x ∈ O, ∀ k, x ∉ L k
theorem Fit.left {O1 O2 M1 M2 H1 H2 : List Nat} (h : Fit B0 w C L (O1 ++ O2) (M1 ++ M2) (H1 ++ H2)) : Fit B0 w C L O1 M1 H1 :=
 ⟨fun x hx => h.hM x (by simp [hx]), fun x hx => h.hH x (by simp [hx]), (List.nodup_append.1 h.nd).1, fun x hx => h.own x (by simp [hx]), fun x hx => h.off x (by simp [hx])⟩
theorem Fit.right {ob' : dO} {lo hi : Nat} {O1 O2 M1 M2 H1 H2 H : List Nat} {C' : Cx} {L' : Nat → List Nat} (h : Fit B0 w C L (O1 ++ O2) (M1 ++ M2) (H1 ++ H2)) (t : Taken B0 w0 σ a w C L ob' lo hi O1 H C' L') : Fit B0 w C' L' O2 M2 H2 :=
 ⟨fun x hx => by rw [t.N]; exact h.hM x (by simp [hx]), fun x hx => by rw [t.N]; exact h.hH x (by simp [hx]), (List.nodup_append.1 h.nd).2.1, fun x hx => h.own x (by simp [hx]), fun x hx k hk => by
  rcases t.ow k x hk with h1 | h1
  ·exact h.off x (by simp [hx]) k h1
  ·exact (List.nodup_append.1 h.nd).2.2 x h1 x hx rfl⟩
theorem rY.one {w : World} {q e : Bool} {r : Rw} {xs : List r.T} {c : Value} {F : List Nat} (h : rY (gK w q r) w e r.n xs c F) : c.oneCell' = true := by
 obtain ⟨ad, cap, rfl⟩ := KD h; rfl
theorem Rel.abN (h : Rel B0 w0 σ a w C L) {b : Nat} (hb : ¬ C.U b) {e : E} {p : Pl} {f : Option (Nat → Nat → Value)} {O M H : List Nat} (hO : ∀ C', C.Le w C' w → C'.φ b = some p → C'.hs b = f → ObR C' w b e O) (hf : Fit B0 w C L O M H) (hH : ∀ x ∈ O, ¬ C.N x → x ∈ H) (hW : ∀ x, wr e O x → x ∈ H) :
  ∃ C' L', Taken B0 w0 σ a w C L (σ.ob.put b e) b (b + 1) O H C' L' ∧ C'.U b ∧ C'.φ b = some p := by
 have hle : C.Le w (C.add b p f) w := Cx.alq hb p f (fun x hx => rfl)
 obtain ⟨h1, h2⟩ := h.newObj hb (f := f) (w1 := w) (Nat.le_refl _) (fun _ _ => rfl) h.below (hO _ hle (by simp [Cx.add]) (by simp [Cx.add])) hf.own hf.nd (fun k x hx => hf.off x hx k) (fun x hx => hf.hH x (hW x hx))
 refine ⟨_, _, ⟨h1, h2, fun k hk => ?_, rfl, fun k hk => ?_, fun k x hx => ?_, fun k x hx hn => ?_, fun k hk => ?_⟩, .inr rfl, by simp [Cx.add]⟩
 ·rcases hk with hk | rfl
  ·exact .inl hk
  ·exact .inr ⟨Nat.le_refl _, by omega⟩
 ·have : k ≠ b := fun e => hb (e ▸ hk)
  simp [Cx.add, this]
 ·split at hx
  ·exact .inr hx
  ·exact .inl hx
 ·split at hx
  ·exact .inr (hH x hx hn)
  ·exact .inl hx
 ·have : k ≠ b := fun e => hb (e ▸ hk)
  show (σ.ob.put b e).get k = _
  rw [dO.get_put, if_neg this]; rfl
def headers (w : World) (n : Nat) : Value → Nat → Nat → Value
 | .slice (some ⟨b, o, none⟩) _ _, i, j => (w.cell? ⟨b, o + i * n + j, none⟩).getD undef
 | _, _, _ => undef
theorem aly {w : World} {e q : Bool} {r : Rw} {xs : List r.T} {v : Value} {F : List Nat} (h : rY (gK w q r) w e r.n xs v F) : HsR w r xs v (headers w r.n v) := by
 intro b o L cap hv i j hi hj
 subst hv
 rcases h with ⟨h5, _⟩ | ⟨b', o', cap', F', h5, _, _, _, _, h6⟩
 ·subst h5; exact absurd hi (Nat.not_lt_zero _)
 ·injection h5 with h5
  injection h5 with h5
  injection h5 with h5 h7
  subst h5; subst h7
  obtain ⟨vs, F1, g1, g2, g3, g4⟩ := h6.get (List.getElem?_eq_getElem hi)
  have hjn := Rw.agD r hj
  have := g3 j vs[j] (List.getElem?_eq_getElem (by omega))
  simp [headers, this]
theorem agH {F : List Nat} {x : Nat} : x ∈ F.take 1 ↔ F.head? = some x := by cases F <;> simp [eq_comm]
theorem ZM (h : Rel B0 w0 σ a w C L) {b : Nat} (hb : ¬ C.U b) {c : V} {v : Value} {O M H : List Nat} (hc : jd w c v O M H) (hf : Fit B0 w C L O M H) {d : V} {ob' : dO} (e : xu b c σ.ob = (d, ob')) :
  ∃ C' L', Taken B0 w0 σ a w C L ob' b (b + 1) O H C' L' ∧ VR C' w d v := by
 have dflt : jd w c v O M H → (O = [] ∧ H = [] → VR (Cx.ext (· ∈ M)) w c v → (c, σ.ob) = (d, ob') → ∃ C' L', Taken B0 w0 σ a w C L ob' b (b + 1) O H C' L' ∧ VR C' w d v) := by
  intro _ hOH hv e
  cases e
  obtain ⟨rfl, rfl⟩ := hOH
  exact ⟨C, L, Taken.refl h _ _, hv.le (Cx.alv hf.hM)⟩
 unfold jd at hc
 split at hc
 ·rename_i r xs
  obtain ⟨h1, h2, h3⟩ := hc
  simp only [xu] at e
  cases e
  obtain ⟨C', L', g1, g2, g3⟩ := h.abN hb (f := none) (e := .arr true true r xs) (p := .arr v r.n) (O := O) (M := M) (H := H) (fun C' hle hφ _ => ⟨v, O, hφ, h1, fun x hx => hle.N x (hf.hM x (by rw [h2]; exact hx)), by simp⟩) hf (fun x hx hn => by
   cases O with
   | nil => cases hx
   | cons g O =>
    rcases List.mem_cons.1 hx with rfl | hx
    ·rw [h3]; simp
    ·exact absurd (hf.hM x (by rw [h2]; simpa using hx)) hn) (fun x hx => by rw [h3, agH]; exact hx.2)
  exact ⟨C', L', g1, g2, h1.one, fun cv n hφ => by rw [g3] at hφ; cases hφ; rfl⟩
 ·rename_i r xs
  obtain ⟨F, h1, h2, h3, h4⟩ := hc
  simp only [xu] at e
  cases e
  obtain ⟨C', L', g1, g2, g3⟩ := h.abN hb (f := none) (e := .arr true false r xs) (p := .arr v r.n) (O := O) (M := M) (H := H) (fun C' hle hφ _ => ⟨v, F, hφ, h1, fun x hx => hle.N x (hf.hM x (by rw [h3]; exact hx)), by simp [h2]⟩) hf (fun x hx _ => by rw [h4, ← h2]; exact hx) (fun x hx => by rw [h4, ← h2]; exact hx.mem)
  exact ⟨C', L', g1, g2, h1.one, fun cv n hφ => by rw [g3] at hφ; cases hφ; rfl⟩
 ·rename_i r xs
  obtain ⟨h1, h2, h3⟩ := hc
  simp only [xu] at e
  cases e
  obtain ⟨C', L', g1, g2, g3⟩ := h.abN hb (f := some (headers w r.n v)) (e := .own true r xs) (p := .arr v r.n) (O := O) (M := M) (H := H) (fun C' hle hφ hhs => ⟨v, hφ, h1, fun _ => ⟨_, hhs, aly h1⟩⟩) hf (fun x hx _ => by rw [h3]; exact hx) (fun x hx => by rw [h3]; exact hx)
  exact ⟨C', L', g1, g2, h1.one, fun cv n hφ => by rw [g3] at hφ; cases hφ; rfl⟩
 ·rename_i hn1 hn2 hn3
  have he : xu b c σ.ob = (c, σ.ob) := by
   unfold xu
   split
   ·exact absurd rfl (hn1 _ _)
   ·exact absurd rfl (hn2 _ _)
   ·exact absurd rfl (hn3 _ _)
   ·rfl
  rw [he] at e
  cases e
  obtain ⟨hv, rfl, rfl⟩ := hc
  exact ⟨C, L, Taken.refl h _ _, hv.le (Cx.alv hf.hM)⟩
theorem FI : ∀ (cs : List V) {σ : St} {C : Cx} {L : Nat → List Nat} (h : Rel B0 w0 σ a w C L) {b : Nat} (hb : ∀ k, b ≤ k → k < b + cs.length → ¬ C.U k) {vs : List Value} {O M H : List Nat} (hc : iq w cs vs O M H) (hf : Fit B0 w C L O M H)
  {ds : List V} {ob' : dO} (e : nS b cs σ.ob = (ds, ob')), ∃ C' L', Taken B0 w0 σ a w C L ob' b (b + cs.length) O H C' L' ∧ iY C' w ds vs
 | [], σ, C, L, h, b, hb, vs, O, M, H, hc, hf, ds, ob', e => by
  simp only [nS] at e
  cases e
  obtain ⟨h1, rfl, _, rfl⟩ := hc
  exact ⟨C, L, Taken.refl h _ _, h1⟩
 | c :: cs, σ, C, L, h, b, hb, vs, O, M, H, hc, hf, ds, ob', e => by
  obtain ⟨v, vs', O1, O2, M1, M2, H1, H2, rfl, rfl, rfl, rfl, h1, h2⟩ := hc
  simp only [List.length_cons] at hb ⊢
  cases e1 : xu b c σ.ob with
  | mk d kN =>
   cases e2 : nS (b + 1) cs kN with
   | mk ds2 zV =>
    simp only [nS, e1, e2] at e
    cases e
    obtain ⟨C1, L1, g1, g2⟩ := ZM h (hb b (Nat.le_refl _) (by omega)) h1 hf.left e1
    obtain ⟨C2, L2, g3, g4⟩ := FI cs g1.rel (b := b + 1) (fun k h1 h2 hU => by
     rcases g1.U k hU with h | h
     ·exact hb k (by omega) (by omega) h
     ·omega) h2 (hf.right g1) e2
    exact ⟨C2, L2, g1.trans g3 (Nat.le_refl _) (by omega) (by omega) (by omega), v, vs', rfl, g2.le g3.le, g4⟩
theorem acf (h : Rel B0 w0 σ a w C L) {b : Nat} (hb : ∀ k, b ≤ k → k < b + 24 → ¬ C.U k) {u : V} (hs : u.aeF = true) {c : Value} {O M H : List Nat} (hc : tZ w u c O M H) (hf : Fit B0 w C L O M H) {d : V} {ob' : dO} (e : Fq b u σ.ob = (d, ob')) :
  ∃ C' L', Taken B0 w0 σ a w C L ob' b (b + 24) O H C' L' ∧ VR C' w d c := by
 unfold tZ at hc
 split at hc
 ·rename_i cs
  obtain ⟨blk, vs, ty, O', H', rfl, h1, h2, rfl, rfl⟩ := hc
  have hlen : cs.length < 20 := by
   have : Nat.blt cs.length 20 = true := hs
   exact Nat.le_of_ble_eq_true this
  cases e1 : nS (b + 1) cs σ.ob with
  | mk ds kN =>
   simp only [Fq, e1] at e
   cases e
   have hf1 : Fit B0 w C L O' M H' := ⟨hf.hM, fun x hx => hf.hH x (by simp [hx]), (List.nodup_cons.1 hf.nd).2, fun x hx => hf.own x (by simp [hx]), fun x hx => hf.off x (by simp [hx])⟩
   obtain ⟨C1, L1, g1, g2⟩ := FI cs h (b := b + 1) (fun k h1 h2 => hb k (by omega) (by omega)) h2 hf1 e1
   have hf2 : Fit B0 w C1 L1 [blk] [] [blk] := ⟨fun _ h => (nomatch h), fun x hx => by rw [g1.N]; exact hf.hH x (by simp at hx; simp [hx]), by simp, fun x hx => hf.own x (by simp at hx; simp [hx]), fun x hx k hk => by
    simp at hx; subst hx
    rcases g1.ow k x hk with h | h
    ·exact hf.off x (by simp) k h
    ·exact (List.nodup_cons.1 hf.nd).1 h⟩
   obtain ⟨C2, L2, g3, g4, g5⟩ := g1.rel.abN (f := none) (b := b) (fun hU => by
     rcases g1.U b hU with h | h
     ·exact hb b (Nat.le_refl _) (by omega) h
     ·omega) (e := .box ds) (p := .box blk) (O := [blk]) (M := []) (H := [blk]) (fun C' hle hφ _ => ⟨blk, vs, ty, hφ, rfl, h1, iY.le hle ds g2⟩) hf2 (fun x hx _ => hx) (fun x hx => hx.mem)
   refine ⟨C2, L2, (g1.trans g3 (lo := b) (hi := b + 24) (by omega) (by omega) (Nat.le_refl _) (by omega)).mono (Nat.le_refl _) (Nat.le_refl _) (fun x hx => ?_) (fun x hx => ?_), g4, rfl, fun b' hb' => by rw [g5] at hb'; cases hb'; rfl⟩
   ·simp at hx ⊢; exact hx.symm
   ·simp at hx ⊢; exact hx.symm
 ·rename_i cs
  obtain ⟨vs, rfl, h2⟩ := hc
  have hlen : cs.length < 20 := by
   have : Nat.blt cs.length 20 = true := hs
   exact Nat.le_of_ble_eq_true this
  cases e1 : nS b cs σ.ob with
  | mk ds kN =>
   simp only [Fq, e1] at e
   cases e
   obtain ⟨C1, L1, g1, g2⟩ := FI cs h (b := b) (fun k h1 h2 => hb k (by omega) (by omega)) h2 hf e1
   exact ⟨C1, L1, g1.mono (Nat.le_refl _) (by omega) (fun _ h => h) (fun _ h => h), vs, rfl, g2⟩
 ·rename_i hn1 hn2
  have he : Fq b u σ.ob = xu b u σ.ob := by
   unfold Fq
   split
   ·exact absurd rfl (hn2 _)
   ·exact absurd rfl (hn1 _)
   ·rfl
  rw [he] at e
  obtain ⟨C1, L1, g1, g2⟩ := ZM h (hb b (Nat.le_refl _) (by omega)) hc hf e
  exact ⟨C1, L1, g1.mono (Nat.le_refl _) (by omega) (fun _ h => h) (fun _ h => h), g2⟩
theorem TM : ∀ (us : List V) {σ : St} {C : Cx} {L : Nat → List Nat} (h : Rel B0 w0 σ a w C L) {b : Nat} (hb : ∀ k, b ≤ k → k < b + 24 * us.length → ¬ C.U k) (hs : us.all V.aeF = true) {vs : List Value} {O M H : List Nat} (hc : jr w us vs O M H) (hf : Fit B0 w C L O M H)
  {ds : List V} {ob' : dO} (e : Fv b us σ.ob = (ds, ob')), ∃ C' L', Taken B0 w0 σ a w C L ob' b (b + 24 * us.length) O H C' L' ∧ iY C' w ds vs
 | [], σ, C, L, h, b, hb, hs, vs, O, M, H, hc, hf, ds, ob', e => by
  simp only [Fv] at e
  cases e
  obtain ⟨h1, rfl, _, rfl⟩ := hc
  exact ⟨C, L, Taken.refl h _ _, h1⟩
 | c :: cs, σ, C, L, h, b, hb, hs, vs, O, M, H, hc, hf, ds, ob', e => by
  obtain ⟨v, vs', O1, O2, M1, M2, H1, H2, rfl, rfl, rfl, rfl, h1, h2⟩ := hc
  simp only [List.length_cons] at hb ⊢
  simp only [List.all_cons, Bool.and_eq_true] at hs
  cases e1 : Fq b c σ.ob with
  | mk d kN =>
   cases e2 : Fv (b + 24) cs kN with
   | mk ds2 zV =>
    simp only [Fv, e1, e2] at e
    cases e
    obtain ⟨C1, L1, g1, g2⟩ := acf h (b := b) (fun k h1 h2 => hb k h1 (by omega)) hs.1 h1 hf.left e1
    obtain ⟨C2, L2, g3, g4⟩ := TM cs g1.rel (b := b + 24) (fun k h1 h2 hU => by
     rcases g1.U k hU with h | h
     ·exact hb k (by omega) (by omega) h
     ·omega) hs.2 h2 (hf.right g1) e2
    exact ⟨C2, L2, g1.trans g3 (Nat.le_refl _) (by omega) (by omega) (by omega), v, vs', rfl, g2.le g3.le, g4⟩
def JQ (w : World) : V → Value → List Nat → List Nat → List Nat → Prop
 | .t us, c, O, M, H => ∃ vs, c = .tuple ⟨vs⟩ ∧ jr w us vs O M H
 | u, c, O, M, H => tZ w u c O M H
theorem alz (h : Rel B0 w0 σ a w C L) {b : Nat} (hb : ∀ k, b ≤ k → k < b + 96 → ¬ C.U k) {u : V} (hs : DI u = true) {c : Value} {O M H : List Nat} (hc : JQ w u c O M H) (hf : Fit B0 w C L O M H) {d : V} {ob' : dO} (e : QN b u σ.ob = (d, ob')) :
  ∃ C' L', Taken B0 w0 σ a w C L ob' b (b + 96) O H C' L' ∧ VR C' w d c := by
 unfold JQ at hc
 split at hc
 ·rename_i us
  obtain ⟨vs, rfl, h2⟩ := hc
  simp only [DI, Bool.and_eq_true] at hs
  have hlen : us.length < 5 := Nat.le_of_ble_eq_true hs.1
  cases e1 : Fv b us σ.ob with
  | mk ds kN =>
   simp only [QN, e1] at e
   cases e
   obtain ⟨C1, L1, g1, g2⟩ := TM us h (b := b) (fun k h1 h2 => hb k h1 (by omega)) hs.2 h2 hf e1
   exact ⟨C1, L1, g1.mono (Nat.le_refl _) (by omega) (fun _ h => h) (fun _ h => h), vs, rfl, g2⟩
 ·rename_i hn
  have he : QN b u σ.ob = Fq b u σ.ob := by
   unfold QN
   split
   ·exact absurd rfl (hn _)
   ·rfl
  have hs' : u.aeF = true := by
   unfold DI at hs
   split at hs
   ·exact absurd rfl (hn _)
   ·exact hs
  rw [he] at e
  obtain ⟨C1, L1, g1, g2⟩ := acf h (b := b) (fun k h1 h2 => hb k h1 (by omega)) hs' hc hf e
  exact ⟨C1, L1, g1.mono (Nat.le_refl _) (by omega) (fun _ h => h) (fun _ h => h), g2⟩
theorem Rel.atL (h : Rel B0 w0 σ a w C L) {k blk : Nat} (hno : σ.obj k = .no) (hφ : C.φ k = some (.box blk)) {ds : List V} {vs : List Value} {ty : TypeId} (hb : w.heap[blk]? = some (.cells ⟨vs⟩ ty (0, 0))) (hv : iY C w ds vs) (hN : ¬ C.N blk) (hown : B0 ≤ blk ∧ blk < w.heap.size) (hoff : ∀ j, blk ∉ L j) :
  Rel B0 w0 { σ with ob := σ.ob.put k (.box ds) } a w C (fun j => if j = k then [blk] else L j) := by
 have hob : ∀ j, St.obj { σ with ob := σ.ob.put k (.box ds) } j = if j = k then .box ds else σ.obj j := fun j => by
  show (σ.ob.put k _).get j = _
  rw [dO.get_put]; rfl
 refine { below := h.below, hB0 := h.hB0, defers := h.defers, len := h.len, tm := h.tm, ob := fun j => ?_, us := h.us, nd := fun j => ?_, dj := fun j j' hj x hx => ?_, own := fun j x hx => ?_, nw := fun j x hwr => ?_, CS := h.CS }
 ·rw [hob]
  by_cases hk : j = k
  ·subst hk
   rw [if_pos rfl, if_pos rfl]
   exact ⟨blk, vs, ty, hφ, rfl, hb, hv⟩
  ·rw [if_neg hk, if_neg hk]
   exact h.ob j
 ·show (if j = k then [blk] else L j).Nodup
  split
  ·simp
  ·exact h.nd j
 ·split at hx
  ·rename_i e1
   simp at hx; subst hx
   rw [if_neg (fun e2 => hj (e1.trans e2.symm))]
   exact hoff j'
  ·split
   ·simp; rintro rfl; exact hoff j hx
   ·exact h.dj j j' hj x hx
 ·split at hx
  ·simp at hx; subst hx; exact hown
  ·exact h.own j x hx
 ·rw [hob] at hwr
  by_cases h3 : j = k
  ·rw [if_pos h3, if_pos h3] at hwr
   have := hwr.mem
   simp at this; subst this; exact hN
  ·rw [if_neg h3, if_neg h3] at hwr
   exact h.nw j x hwr
end
end Go.Ev
end
