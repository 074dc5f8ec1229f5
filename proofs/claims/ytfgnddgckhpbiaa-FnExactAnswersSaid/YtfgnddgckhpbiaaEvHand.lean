/- What is handed over to a callee. -/
import Derived.Test.YtfgnddgckhpbiaaEvApp
set_option linter.unusedVariables false
namespace Go.Ev
open Go.RowKit

def Cx.ext (M : Nat → Prop) : Cx := ⟨fun _ => none, fun _ => False, M, fun _ => none⟩
theorem Cx.ext_le {M : Nat → Prop} {C : Cx} {w : World} (h : ∀ x, M x → C.N x) : (Cx.ext M).Le w C w := ⟨fun _ _ hu => hu.elim, fun _ hu => hu.elim, h, fun _ _ => rfl, fun _ _ hu => hu.elim⟩
theorem Cx.ext_le' {M M' : Nat → Prop} {w : World} (h : ∀ x, M x → M' x) : (Cx.ext M).Le w (Cx.ext M') w := Cx.ext_le h

/-- A value that goes over the border of a call · O: the blocks that it owns · M: those that it shows and nobody writes · H: those of them that may be written. -/
def CellR (w : World) : V → Value → List Nat → List Nat → List Nat → Prop
  | .l .deep r xs, c, O, M, H => SlT (RwR w false r) w false r.n xs c O ∧ M = O.drop 1 ∧ H = O.take 1
  | .l .top r xs, c, O, M, H => ∃ F, SlT (RwR w true r) w false r.n xs c F ∧ O = F.take 1 ∧ M = F.drop 1 ∧ H = F.take 1
  | .l .own r xs, c, O, M, H => SlT (RwR w false r) w false r.n xs c O ∧ M = [] ∧ H = O
  | v, c, O, M, H => VR (Cx.ext (· ∈ M)) w v c ∧ O = [] ∧ H = []
def CellsR (w : World) : List V → List Value → List Nat → List Nat → List Nat → Prop
  | [], vs, O, M, H => vs = [] ∧ O = [] ∧ M = [] ∧ H = []
  | c :: cs, vs, O, M, H => ∃ v vs' O1 O2 M1 M2 H1 H2, vs = v :: vs' ∧ O = O1 ++ O2 ∧ M = M1 ++ M2 ∧ H = H1 ++ H2 ∧ CellR w c v O1 M1 H1 ∧ CellsR w cs vs' O2 M2 H2
def ArgR (w : World) : V → Value → List Nat → List Nat → List Nat → Prop
  | .io cs, c, O, M, H => ∃ b vs ty O' H', c = .pointer (some ⟨b, 0, none⟩) ∧ w.heap[b]? = some (.cells ⟨vs⟩ ty (0, 0)) ∧ CellsR w cs vs O' M H' ∧ O = b :: O' ∧ H = b :: H'
  | .a cs, c, O, M, H => ∃ vs, c = .agg ⟨vs⟩ ∧ CellsR w cs vs O M H
  | v, c, O, M, H => CellR w v c O M H
def ArgsR (w : World) : List V → List Value → List Nat → List Nat → List Nat → Prop
  | [], vs, O, M, H => vs = [] ∧ O = [] ∧ M = [] ∧ H = []
  | c :: cs, vs, O, M, H => ∃ v vs' O1 O2 M1 M2 H1 H2, vs = v :: vs' ∧ O = O1 ++ O2 ∧ M = M1 ++ M2 ∧ H = H1 ++ H2 ∧ ArgR w c v O1 M1 H1 ∧ ArgsR w cs vs' O2 M2 H2

theorem CellR.plain {w : World} {v : V} {c : Value} {M : List Nat} (h : VR (Cx.ext (· ∈ M)) w v c) (h1 : ∀ r xs, v ≠ .l .deep r xs) (h2 : ∀ r xs, v ≠ .l .top r xs) (h3 : ∀ r xs, v ≠ .l .own r xs) : CellR w v c [] M [] := by
  unfold CellR
  split
  · exact absurd rfl (h1 _ _)
  · exact absurd rfl (h2 _ _)
  · exact absurd rfl (h3 _ _)
  · exact ⟨h, rfl, rfl⟩

section
variable {P : Program} {Γ : Env} {B0 : Nat} {w0 : World} {σ : St} {a : Act} {w : World} {C : Cx} {L : Nat → List Nat}

/-- What handing over leaves. -/
structure Handed (B0 : Nat) (w0 : World) (σ : St) (a : Act) (w : World) (C : Cx) (L : Nat → List Nat) (ob' : Obs) (Ks : List Nat) (O M H : List Nat) (C' : Cx) (L' : Nat → List Nat) : Prop where
  rel : Rel B0 w0 { σ with ob := ob' } a w C' L'
  le : C.Le w C' w
  U : C'.U = C.U
  φ : C'.φ = C.φ
  eqn : ∀ k, L' k = L k ∨ L' k = []
  nn : ∀ x, C'.N x → C.N x ∨ ∃ j, x ∈ L j
  nd : O.Nodup
  from_ : ∀ x ∈ O, ∃ k, x ∈ L k
  off : ∀ x ∈ O, ∀ k, x ∉ L' k
  hM : ∀ x ∈ M, C'.N x
  hH : ∀ x ∈ H, (∃ k ∈ Ks, x ∈ L k) ∧ x ∈ O ∧ ¬ C'.N x
  OH : ∀ x ∈ O, x ∈ H ∨ x ∈ M
  mus : ∀ k, (St.obj { σ with ob := ob' } k).mu = true → σ.obj k = St.obj { σ with ob := ob' } k ∧ L' k = L k
  nos : ∀ k, σ.obj k = .no → St.obj { σ with ob := ob' } k = .no

theorem Handed.sub {ob' : Obs} {Ks O M H : List Nat} {C' : Cx} {L' : Nat → List Nat} (h : Handed B0 w0 σ a w C L ob' Ks O M H C' L') : ∀ k x, x ∈ L' k → x ∈ L k := fun k x hx => by
  rcases h.eqn k with h | h
  · rw [h] at hx; exact hx
  · rw [h] at hx; cases hx
theorem Handed.refl (h : Rel B0 w0 σ a w C L) {M : List Nat} (hM : ∀ x ∈ M, C.N x) : Handed B0 w0 σ a w C L σ.ob [] [] M [] C L :=
  ⟨h, Cx.Le.refl C w, rfl, rfl, fun _ => .inl rfl, fun _ h => .inl h, List.nodup_nil, fun _ h => (nomatch h), fun _ h => (nomatch h), hM, fun _ h => (nomatch h), fun _ h => (nomatch h), fun _ _ => ⟨rfl, rfl⟩, fun _ h => h⟩

theorem Handed.trans {ob1 ob2 : Obs} {K1 K2 O1 O2 M1 M2 H1 H2 : List Nat} {C1 C2 : Cx} {L1 L2 : Nat → List Nat} (h1 : Handed B0 w0 σ a w C L ob1 K1 O1 M1 H1 C1 L1) (h2 : Handed B0 w0 { σ with ob := ob1 } a w C1 L1 ob2 K2 O2 M2 H2 C2 L2) :
    Handed B0 w0 σ a w C L ob2 (K1 ++ K2) (O1 ++ O2) (M1 ++ M2) (H1 ++ H2) C2 L2 := by
  refine ⟨h2.rel, h1.le.trans h2.le, h2.U.trans h1.U, h2.φ.trans h1.φ, fun k => ?_, fun x hx => ?_, ?_, fun x hx => ?_, fun x hx k hk => ?_, fun x hx => ?_, fun x hx => ?_, fun x hx => ?_, fun k hm => ?_, fun k hk => h2.nos k (h1.nos k hk)⟩
  · rcases h2.eqn k with h | h
    · rw [h]; exact h1.eqn k
    · exact .inr h
  · rcases h2.nn x hx with h | ⟨j, h⟩
    · exact h1.nn x h
    · exact .inr ⟨j, h1.sub j x h⟩
  · rw [List.nodup_append]
    refine ⟨h1.nd, h2.nd, fun x hx y hy e => ?_⟩
    subst e
    obtain ⟨k, hk⟩ := h2.from_ x hy
    exact h1.off x hx k hk
  · rcases List.mem_append.1 hx with hx | hx
    · exact h1.from_ x hx
    · obtain ⟨k, hk⟩ := h2.from_ x hx
      exact ⟨k, h1.sub k x hk⟩
  · rcases List.mem_append.1 hx with hx | hx
    · exact h1.off x hx k (h2.sub k x hk)
    · exact h2.off x hx k hk
  · rcases List.mem_append.1 hx with hx | hx
    · exact h2.le.N x (h1.hM x hx)
    · exact h2.hM x hx
  · rcases List.mem_append.1 hx with hx | hx
    · obtain ⟨⟨k, hk, hk'⟩, g2, g3⟩ := h1.hH x hx
      refine ⟨⟨k, by simp [hk], hk'⟩, by simp [g2], fun hN => ?_⟩
      rcases h2.nn x hN with h | ⟨j, h⟩
      · exact g3 h
      · exact h1.off x g2 j h
    · obtain ⟨⟨k, hk, hk'⟩, g2, g3⟩ := h2.hH x hx
      exact ⟨⟨k, by simp [hk], h1.sub k x hk'⟩, by simp [g2], g3⟩
  · rcases List.mem_append.1 hx with hx | hx
    · exact (h1.OH x hx).imp (by intro h; simp [h]) (by intro h; simp [h])
    · exact (h2.OH x hx).imp (by intro h; simp [h]) (by intro h; simp [h])
  · obtain ⟨e1, e2⟩ := h2.mus k hm
    rw [← e1] at hm
    obtain ⟨e3, e4⟩ := h1.mus k hm
    exact ⟨e3.trans e1, e2.trans e4⟩

theorem Handed.mono {ob' : Obs} {Ks Ks' O M H : List Nat} {C' : Cx} {L' : Nat → List Nat} (h : Handed B0 w0 σ a w C L ob' Ks O M H C' L') (hk : ∀ k ∈ Ks, k ∈ Ks') : Handed B0 w0 σ a w C L ob' Ks' O M H C' L' :=
  by
  refine { h with hH := fun x hx => ?_ }
  obtain ⟨⟨k, h1, h2⟩, h3⟩ := h.hH x hx
  exact ⟨⟨k, hk k h1, h2⟩, h3⟩

/-- An object that is no longer kept here. -/
theorem Handed.del (h : Rel B0 w0 σ a w C L) {k : Nat} {O M H : List Nat} (hO : O = L k) (hM : ∀ x ∈ M, C.N x) (hH : ∀ x ∈ H, x ∈ L k ∧ ¬ C.N x) (hOH : ∀ x ∈ O, x ∈ H ∨ x ∈ M) :
    Handed B0 w0 σ a w C L (σ.ob.del k) [k] O M H C (fun j => if j = k then [] else L j) := by
  have hob : ∀ j, St.obj { σ with ob := σ.ob.del k } j = if j = k then .no else σ.obj j := fun j => by
    show (σ.ob.del k).get j = _
    rw [Obs.get_del]; rfl
  refine ⟨h.del k, Cx.Le.refl C w, rfl, rfl, fun j => ?_, fun _ h => .inl h, by rw [hO]; exact h.nd k, fun x hx => ⟨k, by rw [← hO]; exact hx⟩, fun x hx j hj => ?_, hM, fun x hx => ?_, hOH, fun j hmj => ?_, fun j hj => ?_⟩
  · by_cases hjk : j = k
    · exact .inr (by rw [if_pos hjk])
    · exact .inl (by rw [if_neg hjk])
  · split at hj
    · cases hj
    · rename_i hjk
      exact h.dj k j (Ne.symm hjk) x (by rw [← hO]; exact hx) hj
  · obtain ⟨g1, g2⟩ := hH x hx
    exact ⟨⟨k, by simp, g1⟩, by rw [hO]; exact g1, g2⟩
  · rw [hob] at hmj ⊢
    by_cases hjk : j = k
    · rw [if_pos hjk] at hmj; simp [E.mu] at hmj
    · rw [if_neg hjk, if_neg hjk]; exact ⟨rfl, rfl⟩
  · rw [hob]
    split
    · rfl
    · exact hj

/-- An object that is forgotten. -/
theorem Handed.drop (h : Rel B0 w0 σ a w C L) (k : Nat) : Handed B0 w0 σ a w C L (σ.ob.del k) [] [] [] [] C (fun j => if j = k then [] else L j) := by
  have hob : ∀ j, St.obj { σ with ob := σ.ob.del k } j = if j = k then .no else σ.obj j := fun j => by
    show (σ.ob.del k).get j = _
    rw [Obs.get_del]; rfl
  refine ⟨h.del k, Cx.Le.refl C w, rfl, rfl, fun j => ?_, fun _ h => .inl h, List.nodup_nil, fun _ h => (nomatch h), fun _ h => (nomatch h), fun _ h => (nomatch h), fun _ h => (nomatch h), fun _ h => (nomatch h), fun j hmj => ?_, fun j hj => ?_⟩
  · by_cases hjk : j = k
    · exact .inr (by rw [if_pos hjk])
    · exact .inl (by rw [if_neg hjk])
  · rw [hob] at hmj ⊢
    by_cases hjk : j = k
    · rw [if_pos hjk] at hmj; simp [E.mu] at hmj
    · rw [if_neg hjk, if_neg hjk]; exact ⟨rfl, rfl⟩
  · rw [hob]
    split
    · rfl
    · exact hj
theorem Handed.freeze (h : Rel B0 w0 σ a w C L) {k : Nat} {mu deep : Bool} {r : Rw} {xs : List r.T} (e : σ.obj k = .arr mu deep r xs) {M : List Nat} :
    ∃ cv F C' L', C.φ k = some (.arr cv r.n) ∧ SlT (RwR w (!(mu && deep)) r) w (!mu) r.n xs cv F ∧ ((∀ x ∈ M, x ∈ F) → Handed B0 w0 σ a w C L (σ.ob.put k (.arr false deep r xs)) [] [] M [] C' L') ∧ ∀ x ∈ F, C'.N x := by
  obtain ⟨cv, F, C', L', h1, h2, h3⟩ := Gave.freeze h e false (fun h => (nomatch h))
  exact ⟨cv, F, C', L', h1, h2, fun hM => ⟨h3.rel, h3.le, h3.U, h3.φ, h3.eqn, h3.nn, List.nodup_nil, fun _ h => (nomatch h), fun _ h => (nomatch h), fun x hx => h3.N x (hM x hx), fun _ h => (nomatch h), fun _ h => (nomatch h), h3.mus, fun j hj => by
    show (σ.ob.put k _).get j = _
    rw [Obs.get_put, if_neg (fun hjk => by subst hjk; rw [e] at hj; cases hj)]; exact hj⟩, h3.N⟩

theorem vr_no {w : World} {r : Rw} {xs : List r.T} {c : Value} {F : List Nat} {q e : Bool} (h : SlT (RwR w q r) w e r.n xs c F) : VR (Cx.ext (· ∈ F)) w (.l .no r xs) c :=
  ⟨F, h.imp (e' := true) (R' := RwR w true r) (fun h => by cases h) (fun _ _ => rfl) (fun x vs F' _ hR => RwR.imp (e := q) (e' := true) (fun h => by cases h) r hR (fun _ _ => rfl)), fun b hb => hb⟩

theorem handCell_ok (h : Rel B0 w0 σ a w C L) {c : V} {cv : Value} (hv : VR C w c cv) {d : V} {ob' : Obs} (hh : handCell c σ.ob = some (d, ob')) {Ks : List Nat} (hK : ∀ k, (c = .w k ∨ ∃ off len, c = .r k off len) → k ∈ Ks) :
    ∃ O M H C' L', CellR w d cv O M H ∧ Handed B0 w0 σ a w C L ob' Ks O M H C' L' := by
  unfold handCell at hh
  split at hh
  · rename_i v
    cases hh
    exact ⟨[], [], [], C, L, ⟨hv, rfl, rfl⟩, (Handed.refl h (M := []) (fun _ h => (nomatch h))).mono (fun _ h => (nomatch h))⟩
  · cases hh
    exact ⟨[], [], [], C, L, ⟨hv, rfl, rfl⟩, (Handed.refl h (M := []) (fun _ h => (nomatch h))).mono (fun _ h => (nomatch h))⟩
  · rename_i o r xs
    cases hh
    obtain ⟨F, hF, hN⟩ := hv
    exact ⟨[], F, [], C, L, ⟨vr_no hF, rfl, rfl⟩, (Handed.refl h hN).mono (fun _ h => (nomatch h))⟩
  · rename_i k
    split at hh
    · rename_i r xs eo
      cases hh
      have eo' : σ.obj k = .arr true true r xs := eo
      obtain ⟨cv', F, hφ, hF, hN, hO⟩ := h.arr eo'
      have hL : L k = F := by simpa using hO
      rw [hv.2.2 cv' _ hφ]
      refine ⟨F, F.drop 1, F.take 1, C, _, ⟨hF, rfl, rfl⟩, (Handed.del h hL.symm hN (fun x hx => ?_) (fun x hx => ?_)).mono (fun j hj => by simp at hj; subst hj; exact hK j (.inl rfl))⟩
      · have hx' : (L k).head? = some x := by rw [hL]; cases F <;> simp at hx ⊢; exact hx.symm
        exact ⟨List.mem_of_mem_head? hx', h.nm k x (by rw [eo']; rfl) hx'⟩
      · cases F with
        | nil => cases hx
        | cons f F => rcases List.mem_cons.1 hx with rfl | hx <;> simp [*]
    · rename_i r xs eo
      cases hh
      have eo' : σ.obj k = .arr true false r xs := eo
      obtain ⟨cv', F, hφ, hF, hN, hO⟩ := h.arr eo'
      have hL : L k = F.take 1 := by simpa using hO
      rw [hv.2.2 cv' _ hφ]
      refine ⟨F.take 1, F.drop 1, F.take 1, C, _, ⟨F, hF, rfl, rfl, rfl⟩, (Handed.del h hL.symm hN (fun x hx => ?_) (fun x hx => .inl hx)).mono (fun j hj => by simp at hj; subst hj; exact hK j (.inl rfl))⟩
      have hx' : (L k).head? = some x := by rw [hL]; cases F <;> simp at hx ⊢; exact hx.symm
      exact ⟨List.mem_of_mem_head? hx', h.nm k x (by rw [eo']; rfl) hx'⟩
    · rename_i deep r xs eo
      cases hh
      have eo' : σ.obj k = .arr false deep r xs := eo
      obtain ⟨cv', F, hφ, hF, hN, hO⟩ := h.arr eo'
      rw [if_neg (by simp)] at hO
      rw [hv.2.2 cv' _ hφ]
      exact ⟨[], F, [], C, L, ⟨vr_no hF, rfl, rfl⟩, (Handed.refl h hO.2).mono (fun _ h => (nomatch h))⟩
    · rename_i st r xs eo
      cases hh
      have eo' : σ.obj k = .own st r xs := eo
      obtain ⟨cv', hφ, hF, _⟩ := h.ownd eo'
      rw [hv.2.2 cv' _ hφ]
      exact ⟨L k, [], L k, C, _, ⟨hF, rfl, rfl⟩, (Handed.del h rfl (M := []) (H := L k) (fun _ h => (nomatch h)) (fun x hx => ⟨hx, h.nw k x (by rw [eo']; exact hx)⟩) (fun x hx => .inl hx)).mono (fun j hj => by simp at hj; subst hj; exact hK j (.inl rfl))⟩
    · cases hh
  · rename_i k off len
    split at hh
    · rename_i mu deep r xs eo
      cases hh
      have eo' : σ.obj k = .arr mu deep r xs := eo
      obtain ⟨cv', F, C', L', g1, g2, g3, g4⟩ := Handed.freeze h eo' (M := [])
      have hg := g3 (fun _ h => (nomatch h))
      have hob : ∀ j, St.obj { σ with ob := σ.ob.put k (.arr false deep r xs) } j = if j = k then .arr false deep r xs else σ.obj j := fun j => by
        show (σ.ob.put k _).get j = _
        rw [Obs.get_put]; rfl
      have hr : rowsOf r { σ with ob := σ.ob.put k (.arr false deep r xs) } (.r k off len) = some ((xs.drop off).take len) := by
        simp [rowsOf, hob]
      obtain ⟨q, F2, r1, r2, r4, r3, r5⟩ := rows_ok hg.rel (hv.le hg.le) hr
      have hF2 := r3 (fun j hj => by
        rcases hj with hj | ⟨o1, o2, hj⟩
        · cases hj
        · cases hj; rw [hob, if_pos rfl]; rfl)
      exact ⟨[], F2, [], C', L', ⟨vr_no r1, rfl, rfl⟩, ({ hg with hM := hF2, OH := fun _ h => (nomatch h) } : Handed B0 w0 σ a w C L _ [] [] F2 [] C' L').mono (fun _ h => (nomatch h))⟩
    · cases hh
  · cases hh

theorem handCells_ok : ∀ (cs : List V) {σ : St} {C : Cx} {L : Nat → List Nat} (h : Rel B0 w0 σ a w C L) {vs : List Value} (hv : VsR C w cs vs) {ds : List V} {ob' : Obs} (hh : handCells cs σ.ob = some (ds, ob')) {Ks : List Nat}
    (hK : ∀ c ∈ cs, ∀ k, (c = .w k ∨ ∃ off len, c = .r k off len) → k ∈ Ks), ∃ O M H C' L', CellsR w ds vs O M H ∧ Handed B0 w0 σ a w C L ob' Ks O M H C' L'
  | [], σ, C, L, h, vs, hv, ds, ob', hh, Ks, hK => by
    simp only [handCells, Option.some.injEq, Prod.mk.injEq] at hh
    obtain ⟨rfl, rfl⟩ := hh
    simp only [VsR] at hv
    exact ⟨[], [], [], C, L, ⟨hv, rfl, rfl, rfl⟩, (Handed.refl h (M := []) (fun _ h => (nomatch h))).mono (fun _ h => (nomatch h))⟩
  | c :: cs, σ, C, L, h, vs, hv, ds, ob', hh, Ks, hK => by
    simp only [handCells] at hh
    split at hh
    · cases hh
    · rename_i d ob1 e1
      split at hh
      · cases hh
      · rename_i ds2 ob2 e2
        cases hh
        obtain ⟨v, vs', rfl, h2, h3⟩ := hv
        obtain ⟨O1, M1, H1, C1, L1, g1, g2⟩ := handCell_ok h h2 e1 (hK c (by simp))
        obtain ⟨O2, M2, H2, C2, L2, g3, g4⟩ := handCells_ok cs g2.rel (h3.le g2.le) e2 (Ks := Ks) (fun c hc => hK c (by simp [hc]))
        exact ⟨O1 ++ O2, M1 ++ M2, H1 ++ H2, C2, L2, ⟨v, vs', O1, O2, M1, M2, H1, H2, rfl, rfl, rfl, rfl, g1, g3⟩, (g2.trans g4).mono (fun k hk => by simpa using hk)⟩

/-- The boxes handed over. -/
def HandsR (w : World) : List V → List (Option (List V)) → List Value → List Nat → List Nat → List Nat → Prop
  | [], hs, vs, O, M, H => hs = [] ∧ vs = [] ∧ O = [] ∧ M = [] ∧ H = []
  | u :: us, hs, vs, O, M, H => ∃ v vs', vs = v :: vs' ∧ ((∃ hs', hs = none :: hs' ∧ HandsR w us hs' vs' O M H) ∨
      ∃ ds hs' O1 O2 M1 M2 H1 H2, hs = some ds :: hs' ∧ O = O1 ++ O2 ∧ M = M1 ++ M2 ∧ H = H1 ++ H2 ∧ ArgR w (.io ds) v O1 M1 H1 ∧ HandsR w us hs' vs' O2 M2 H2)

def ptrsH : List (Option (List V)) → List Value → List Value
  | some _ :: hs, v :: vs => v :: ptrsH hs vs
  | none :: hs, _ :: vs => ptrsH hs vs
  | _, _ => []
def PsR (C : Cx) : List Nat → List Value → Prop
  | [], ps => ps = []
  | k :: ks, ps => ∃ blk ps', ps = .pointer (some ⟨blk, 0, none⟩) :: ps' ∧ C.φ k = some (.box blk) ∧ C.U k ∧ PsR C ks ps'
theorem PsR.imp {C C' : Cx} (hφ : ∀ k, C.U k → C'.φ k = C.φ k) (hU : ∀ k, C.U k → C'.U k) : ∀ {ks : List Nat} {ps : List Value}, PsR C ks ps → PsR C' ks ps
  | [], _, h => h
  | k :: ks, _, ⟨blk, ps', h1, h2, h3, h4⟩ => ⟨blk, ps', h1, (hφ k h3).trans h2, hU k h3, PsR.imp hφ hU h4⟩

theorem hand_ok : ∀ (us : List V) {σ : St} {C : Cx} {L : Nat → List Nat} (h : Rel B0 w0 σ a w C L) {vs : List Value} (hv : VsR C w us vs) {hs : List (Option (List V))} {ks : List Nat} {ob' : Obs} (hh : hand us σ.ob = some (hs, ks, ob')) {Ks : List Nat}
    (hK : ∀ k cs, V.pb k 0 ∈ us → σ.obj k = .box cs → k ∈ Ks ∧ ∀ c ∈ cs, ∀ j, (c = .w j ∨ ∃ off len, c = .r j off len) → j ∈ Ks), ∃ O M H C' L', HandsR w us hs vs O M H ∧ Handed B0 w0 σ a w C L ob' Ks O M H C' L' ∧ PsR C ks (ptrsH hs vs) ∧ ks.Nodup ∧ ∀ k ∈ ks, (∃ cs, σ.obj k = .box cs) ∧ St.obj { σ with ob := ob' } k = .no
  | [], σ, C, L, h, vs, hv, hs, ks, ob', hh, Ks, hK => by
    simp only [hand, Option.some.injEq, Prod.mk.injEq] at hh
    obtain ⟨rfl, rfl, rfl⟩ := hh
    simp only [VsR] at hv
    exact ⟨[], [], [], C, L, ⟨rfl, hv, rfl, rfl, rfl⟩, (Handed.refl h (M := []) (fun _ h => (nomatch h))).mono (fun _ h => (nomatch h)), rfl, List.nodup_nil, fun _ h => (nomatch h)⟩
  | u :: us, σ, C, L, h, vs, hv, hs, ks, ob', hh, Ks, hK => by
    obtain ⟨v, vs', rfl, h2, h3⟩ := hv
    have skip : (match hand us σ.ob with
      | none => none
      | some (hs, ks, ob2) => some (none :: hs, ks, ob2)) = some (hs, ks, ob') → ∃ O M H C' L', HandsR w (u :: us) hs (v :: vs') O M H ∧ Handed B0 w0 σ a w C L ob' Ks O M H C' L' ∧ PsR C ks (ptrsH hs (v :: vs')) ∧ ks.Nodup ∧ ∀ k ∈ ks, (∃ cs, σ.obj k = .box cs) ∧ St.obj { σ with ob := ob' } k = .no := by
      intro hh
      split at hh
      · cases hh
      · rename_i hs2 ks2 ob2 e2
        cases hh
        obtain ⟨O, M, H, C', L', g1, g2, g3, g4, g5⟩ := hand_ok us h h3 e2 (Ks := Ks) (fun k cs hk => hK k cs (by simp [hk]))
        exact ⟨O, M, H, C', L', ⟨v, vs', rfl, .inl ⟨hs2, rfl, g1⟩⟩, g2, g3, g4, g5⟩
    by_cases hpb : ∃ k, u = .pb k 0
    · obtain ⟨k, rfl⟩ := hpb
      simp only [hand] at hh
      split at hh
      · rename_i cs eo
        have eo' : σ.obj k = .box cs := eo
        split at hh
        · cases hh
        · rename_i ds ob1 e1
          split at hh
          · cases hh
          · rename_i hs2 ks2 ob2 e2
            cases hh
            obtain ⟨k1, k2⟩ := hK k cs (by simp) eo'
            obtain ⟨b, bvs, ty, q1, q2, q3, q4⟩ := h.box eo'
            have hd := Handed.del h (k := k) (O := [b]) (M := []) (H := [b]) q2.symm (fun _ h => (nomatch h)) (fun x hx => by simp at hx; subst hx; exact ⟨by rw [q2]; simp, h.nm k _ (by rw [eo']; rfl) (by rw [q2]; rfl)⟩) (fun x hx => .inl hx)
            obtain ⟨O1, M1, H1, C1, L1, g1, g2⟩ := handCells_ok cs hd.rel (q4.le hd.le) e1 (Ks := Ks) k2
            have g3 := (hd.trans g2).mono (Ks' := Ks) (fun j hj => by
              rcases List.mem_append.1 hj with hj | hj
              · simp at hj; subst hj; exact k1
              · exact hj)
            have hno : St.obj { σ with ob := ob1 } k = .no := by
              refine g2.nos k ?_
              show (σ.ob.del k).get k = _
              rw [Obs.get_del, if_pos rfl]
            obtain ⟨O2, M2, H2, C2, L2, g4, g5, g6, g7, g8⟩ := hand_ok us g3.rel (h3.le g3.le) e2 (Ks := Ks) (fun j cs hj hb => by
              have e3 := g3.mus j (by rw [hb]; rfl)
              exact hK j cs (by simp [hj]) (by rw [e3.1]; exact hb))
            refine ⟨[b] ++ O1 ++ O2, [] ++ M1 ++ M2, [b] ++ H1 ++ H2, C2, L2, ⟨v, vs', rfl, .inr ⟨ds, hs2, [b] ++ O1, O2, M1, M2, [b] ++ H1, H2, rfl, rfl, rfl, rfl, ⟨b, bvs, ty, O1, H1, ?_, q3, g1, rfl, rfl⟩, g4⟩⟩, (g3.trans g5).mono (fun j hj => by simpa using hj), ⟨b, _, by rw [h2.2.2 b q1]; rfl, q1, h2.1, PsR.imp (fun j _ => by rw [g3.φ]) (fun j hj => by rw [g3.U] at hj; exact hj) g6⟩, ?_, ?_⟩
            · exact h2.2.2 b q1
            · refine List.nodup_cons.2 ⟨fun hk => ?_, g7⟩
              obtain ⟨⟨cs', hb⟩, _⟩ := g8 k hk
              rw [hno] at hb; cases hb
            · intro j hj
              rcases List.mem_cons.1 hj with rfl | hj
              · exact ⟨⟨cs, eo'⟩, g5.nos j hno⟩
              · obtain ⟨⟨cs', hb⟩, hn⟩ := g8 j hj
                have e3 := g3.mus j (by rw [hb]; rfl)
                exact ⟨⟨cs', by rw [e3.1]; exact hb⟩, hn⟩
      · cases hh
    · refine skip ?_
      cases u with
      | pb k j =>
        cases j with
        | zero => exact absurd ⟨k, rfl⟩ hpb
        | succ j => exact hh
      | _ => exact hh

/-- It is no row that may be written. -/
def St.lent (σ : St) (k : Nat) : Prop := (∀ deep r xs, σ.obj k ≠ .arr true deep r xs) ∧ ∀ st r xs, σ.obj k ≠ .own st r xs
theorem St.lent.mu {σ : St} {k : Nat} (h : σ.lent k) {mu deep : Bool} {r : Rw} {xs : List r.T} (e : σ.obj k = .arr mu deep r xs) : mu = false := by
  cases mu with
  | false => rfl
  | true => exact absurd e (h.1 deep r xs)
mutual
/-- A closed value stands for itself everywhere. -/
theorem clo_ok {C : Cx} {w : World} : (u : V) → u.clo = true → {c : Value} → VR C w u c → ∃ M : List Nat, VR (Cx.ext (· ∈ M)) w u c ∧ ∀ x ∈ M, C.N x
  | .s v, _, c, h => ⟨[], h, fun _ h => (nomatch h)⟩
  | .nl, _, c, h => ⟨[], h, fun _ h => (nomatch h)⟩
  | .q r d j, _, c, ⟨b, o, vs, F, h1, h2, h3, h4, h5, h6⟩ => ⟨b :: F, ⟨b, o, vs, F, h1, by simp [Cx.ext], h3, h4, h5, fun x hx => by simp [Cx.ext, hx]⟩, fun x hx => by
      rcases List.mem_cons.1 hx with rfl | hx
      · exact h2
      · exact h6 x hx⟩
  | .l o r xs, hc, c, ⟨F, h1, h2⟩ => by
    cases o <;> first | (simp [V.clo] at hc; done) | exact ⟨F, vr_no h1, h2⟩
  | .qb cs j, hc, c, ⟨b, vs, ty, h1, h2, h3, h4⟩ => by
    obtain ⟨M, g1, g2⟩ := cloL_ok cs (by simpa [V.clo] using hc) h4
    refine ⟨b :: M, ⟨b, vs, ty, h1, by simp [Cx.ext], h3, g1.le (Cx.ext_le' (fun x hx => by simp [hx]))⟩, fun x hx => ?_⟩
    rcases List.mem_cons.1 hx with rfl | hx
    · exact h2
    · exact g2 x hx
  | .a _, hc, _, _ => by simp [V.clo] at hc
  | .t _, hc, _, _ => by simp [V.clo] at hc
  | .w _, hc, _, _ => by simp [V.clo] at hc
  | .r _ _ _, hc, _, _ => by simp [V.clo] at hc
  | .pb _ _, hc, _, _ => by simp [V.clo] at hc
  | .pa _ _ _, hc, _, _ => by simp [V.clo] at hc
  | .sb _ _ _, hc, _, _ => by simp [V.clo] at hc
  | .f _ _, hc, _, _ => by simp [V.clo] at hc
  | .io _, hc, _, _ => by simp [V.clo] at hc
  | .x, hc, _, _ => by simp [V.clo] at hc
theorem cloL_ok {C : Cx} {w : World} : (us : List V) → cloL us = true → {cs : List Value} → VsR C w us cs → ∃ M : List Nat, VsR (Cx.ext (· ∈ M)) w us cs ∧ ∀ x ∈ M, C.N x
  | [], _, cs, h => ⟨[], h, fun _ h => (nomatch h)⟩
  | u :: us, hc, _, ⟨v, vs', e1, h2, h3⟩ => by
    simp only [cloL, Bool.and_eq_true] at hc
    obtain ⟨M1, g1, g2⟩ := clo_ok u hc.1 h2
    obtain ⟨M2, g3, g4⟩ := cloL_ok us hc.2 h3
    refine ⟨M1 ++ M2, ⟨v, vs', e1, g1.le (Cx.ext_le' (fun x hx => by simp [hx])), g3.le (Cx.ext_le' (fun x hx => by simp [hx]))⟩, fun x hx => ?_⟩
    rcases List.mem_append.1 hx with hx | hx
    · exact g2 x hx
    · exact g4 x hx
end
/-- A value, its references turned into data. -/
theorem resA_ok (h : Rel B0 w0 σ a w C L) {u : V} {c : Value} (hv : VR C w u c) : ∃ M : List Nat, VR (Cx.ext (· ∈ M)) w (resA σ.ob u) c ∧ (∀ x ∈ M, C.N x ∨ ∃ k, x ∈ L k) ∧
    ((∀ k, (u = .w k ∨ (∃ off len, u = .r k off len) ∨ ∃ i j, u = .pa k i j) → σ.lent k) → ∀ x ∈ M, C.N x) := by
  have bad : ∃ M : List Nat, VR (Cx.ext (· ∈ M)) w .x c ∧ (∀ x ∈ M, C.N x ∨ ∃ k, x ∈ L k) ∧
    ((∀ k, (u = .w k ∨ (∃ off len, u = .r k off len) ∨ ∃ i j, u = .pa k i j) → σ.lent k) → ∀ x ∈ M, C.N x) := ⟨[], trivial, fun _ h => (nomatch h), fun _ _ h => (nomatch h)⟩
  unfold resA
  split
  · exact ⟨[], hv, fun _ h => (nomatch h), fun _ _ h => (nomatch h)⟩
  · exact ⟨[], hv, fun _ h => (nomatch h), fun _ _ h => (nomatch h)⟩
  · rename_i k
    split
    · rename_i mu deep r xs eo
      have eo' : σ.obj k = .arr mu deep r xs := eo
      obtain ⟨q, F, r1, r2, r3, r4, r5⟩ := rows_ok h hv (show rowsOf r σ (.w k) = some xs by simp [rowsOf, eo'])
      exact ⟨F, vr_no r1, r5, fun hm => r4 (fun j hj => by
        have hl := hm j (by rcases hj with hj | hj; exact .inl hj; exact .inr (.inl hj))
        have hjk : j = k := by rcases hj with hj | ⟨_, _, hj⟩ <;> cases hj <;> rfl
        subst hjk
        rw [eo']; exact hl.mu eo')⟩
    · rename_i st r xs eo
      have eo' : σ.obj k = .own st r xs := eo
      obtain ⟨cv, hφ, hF, _⟩ := h.ownd eo'
      rw [hv.2.2 cv _ hφ]
      exact ⟨L k, vr_no hF, fun x hx => .inr ⟨k, hx⟩, fun hm => absurd eo' ((hm k (.inl rfl)).2 st r xs)⟩
    · exact bad
  · rename_i k off len
    split
    · rename_i mu deep r xs eo
      have eo' : σ.obj k = .arr mu deep r xs := eo
      obtain ⟨q, F, r1, r2, r3, r4, r5⟩ := rows_ok h hv (show rowsOf r σ (.r k off len) = some _ by simp [rowsOf, eo']; rfl)
      exact ⟨F, vr_no r1, r5, fun hm => r4 (fun j hj => by
        have hl := hm j (by rcases hj with hj | hj; exact .inl hj; exact .inr (.inl hj))
        have hjk : j = k := by rcases hj with hj | ⟨_, _, hj⟩ <;> cases hj <;> rfl
        subst hjk
        rw [eo']; exact hl.mu eo')⟩
    · exact bad
  · rename_i o r xs
    obtain ⟨F, hF, hN⟩ := hv
    exact ⟨F, vr_no hF, fun x hx => .inl (hN x hx), fun _ => hN⟩
  · rename_i k i j
    split
    · rename_i mu deep r xs eo
      have eo' : σ.obj k = .arr mu deep r xs := eo
      obtain ⟨cv, F, hφ, hF, hN, hO⟩ := h.arr eo'
      obtain ⟨b, o, l, cap, e1, hl, e2⟩ := hv.2.2 cv _ hφ
      rw [e1] at hF
      rcases hF with ⟨h5, _, _, _, h6, _⟩ | ⟨b', o', cap', F', h5, h6, h7, h8, h9, h10⟩
      · injection h6 with _ e6 _; omega
      · injection h5 with e3 e4 e5
        injection e3 with e3; injection e3 with e3 e6
        subst e3; subst e4; subst e6
        have hx : xs[i]? = some xs[i] := List.getElem?_eq_getElem hl
        obtain ⟨vs, F1, g1, g2, g3, g4⟩ := h10.get hx
        have hd : xs.getD i r.dflt = xs[i] := by rw [List.getD_eq_getElem?_getD, hx]; rfl
        have hsub : ∀ x ∈ b :: F1, x ∈ F := fun x hx => by
          rw [h7]
          rcases List.mem_cons.1 hx with rfl | hx
          · simp
          · exact List.mem_cons_of_mem _ (g1 x hx)
        refine ⟨b :: F1, ⟨b, o + i * r.n, vs, F1, e2, by simp [Cx.ext], g2, g3, ?_, fun x hx => by simp [Cx.ext, hx]⟩, fun x hx => arr_from hN hO x (hsub x hx), fun hm x hx => ?_⟩
        · rw [hd]; exact RwR.imp (e' := true) (fun h => by cases h) r g4 (fun _ _ => rfl)
        · have hm' := (hm k (.inr (.inr ⟨i, j, rfl⟩))).mu eo'
          subst hm'
          rw [if_neg (by simp)] at hO
          exact hO.2 x (hsub x hx)
    · exact bad
  · rename_i r d j
    obtain ⟨b, o, vs, F, h1, h2, h3, h4, h5, h6⟩ := hv
    refine ⟨b :: F, ⟨b, o, vs, F, h1, by simp [Cx.ext], h3, h4, h5, fun x hx => by simp [Cx.ext, hx]⟩, fun x hx => ?_, fun _ x hx => ?_⟩
    · rcases List.mem_cons.1 hx with rfl | hx
      · exact .inl h2
      · exact .inl (h6 x hx)
    · rcases List.mem_cons.1 hx with rfl | hx
      · exact h2
      · exact h6 x hx
  · rename_i cs j
    cases hcl : cloL cs with
    | false => exact bad
    | true =>
      obtain ⟨M, g1, g2⟩ := clo_ok (.qb cs j) (by simpa [V.clo] using hcl) hv
      exact ⟨M, g1, fun x hx => .inl (g2 x hx), fun _ => g2⟩
  · exact bad
/-- The same for what a function value holds. -/
theorem resMap_ok (h : Rel B0 w0 σ a w C L) {f : V → V} (hf : ∀ {u : V} {c : Value}, VR C w u c → ∃ M : List Nat, VR (Cx.ext (· ∈ M)) w (f u) c ∧ ∀ x ∈ M, C.N x ∨ ∃ k, x ∈ L k) : ∀ (us : List V) {cs : List Value}, VsR C w us cs →
    ∃ M : List Nat, VsR (Cx.ext (· ∈ M)) w (us.map f) cs ∧ ∀ x ∈ M, C.N x ∨ ∃ k, x ∈ L k
  | [], cs, hv => ⟨[], hv, fun _ h => (nomatch h)⟩
  | u :: us, _, ⟨v, vs', e1, h2, h3⟩ => by
    obtain ⟨M1, g1, g2⟩ := hf h2
    obtain ⟨M2, g3, g4⟩ := resMap_ok h hf us h3
    refine ⟨M1 ++ M2, ⟨v, vs', e1, g1.le (Cx.ext_le' (fun x hx => by simp [hx])), g3.le (Cx.ext_le' (fun x hx => by simp [hx]))⟩, fun x hx => ?_⟩
    rcases List.mem_append.1 hx with hx | hx
    · exact g2 x hx
    · exact g4 x hx
theorem resBox_ok (h : Rel B0 w0 σ a w C L) {f : V → V} (hf : ∀ {u : V} {c : Value}, VR C w u c → ∃ M : List Nat, VR (Cx.ext (· ∈ M)) w (f u) c ∧ ∀ x ∈ M, C.N x ∨ ∃ k, x ∈ L k) {k j : Nat} {c : Value} (hv : VR C w (.pb k j) c) :
    ∃ M : List Nat, VR (Cx.ext (· ∈ M)) w (match σ.ob.get k with
    | .box cs => .qb (cs.map f) j
    | _ => .x) c ∧ ∀ x ∈ M, C.N x ∨ ∃ k, x ∈ L k := by
  split
  · rename_i cs eo
    have eo' : σ.obj k = .box cs := eo
    obtain ⟨b, vs, ty, q1, q2, q3, q4⟩ := h.box eo'
    obtain ⟨M, g1, g2⟩ := resMap_ok h hf cs q4
    refine ⟨b :: M, ⟨b, vs, ty, hv.2.2 b q1, by simp [Cx.ext], q3, g1.le (Cx.ext_le' (fun x hx => by simp [hx]))⟩, fun x hx => ?_⟩
    rcases List.mem_cons.1 hx with rfl | hx
    · exact .inr ⟨k, by rw [q2]; simp⟩
    · exact g2 x hx
  · exact ⟨[], trivial, fun _ h => (nomatch h)⟩
theorem resA_ok' (h : Rel B0 w0 σ a w C L) {u : V} {c : Value} (hv : VR C w u c) : ∃ M : List Nat, VR (Cx.ext (· ∈ M)) w (resA σ.ob u) c ∧ ∀ x ∈ M, C.N x ∨ ∃ k, x ∈ L k := by
  obtain ⟨M, g1, g2, _⟩ := resA_ok h hv
  exact ⟨M, g1, g2⟩
theorem resB_ok (h : Rel B0 w0 σ a w C L) {u : V} {c : Value} (hv : VR C w u c) : ∃ M : List Nat, VR (Cx.ext (· ∈ M)) w (resB σ.ob u) c ∧ ∀ x ∈ M, C.N x ∨ ∃ k, x ∈ L k := by
  unfold resB
  split
  · exact resBox_ok h (resA_ok' h) hv
  · exact resA_ok' h hv
theorem resC_ok (h : Rel B0 w0 σ a w C L) {u : V} {c : Value} (hv : VR C w u c) : ∃ M : List Nat, VR (Cx.ext (· ∈ M)) w (resC σ.ob u) c ∧ ∀ x ∈ M, C.N x ∨ ∃ k, x ∈ L k := by
  unfold resC
  split
  · exact resBox_ok h (resB_ok h) hv
  · exact resA_ok' h hv
theorem resC_clo (ob : Obs) : ∀ (us : List V), cloL us = true → us.map (resC ob) = us
  | [], _ => rfl
  | u :: us, hc => by
    simp only [cloL, Bool.and_eq_true] at hc
    rw [List.map_cons, resC_clo ob us hc.2]
    congr 1
    cases u with
    | l o r xs => cases o <;> first | (simp [V.clo] at hc; done) | rfl
    | qb cs j => have : cloL cs = true := by simpa [V.clo] using hc.1
                 simp [resC, resA, this]
    | s _ => rfl
    | nl => rfl
    | q _ _ _ => rfl
    | _ => simp [V.clo] at hc
theorem res1_ok (h : Rel B0 w0 σ a w C L) {u : V} {c : Value} (hv : VR C w u c) : ∃ M : List Nat, VR (Cx.ext (· ∈ M)) w (res1 σ.ob u) c ∧ (∀ x ∈ M, C.N x ∨ ∃ k, x ∈ L k) ∧
    ((∀ k, (u = .w k ∨ (∃ off len, u = .r k off len) ∨ ∃ i j, u = .pa k i j) → σ.lent k) → u.noCap1 = true → ∀ x ∈ M, C.N x) := by
  unfold res1
  split
  · rename_i g caps
    obtain ⟨vs, h1, h2⟩ := hv
    cases hcl : cloL caps with
    | true =>
      obtain ⟨M, g1, g2⟩ := cloL_ok caps hcl h2
      rw [resC_clo σ.ob caps hcl]
      exact ⟨M, ⟨vs, h1, g1⟩, fun x hx => .inl (g2 x hx), fun _ _ => g2⟩
    | false =>
      obtain ⟨M, g1, g2⟩ := resMap_ok h (resC_ok h) caps h2
      exact ⟨M, ⟨vs, h1, g1⟩, g2, fun _ hn => by simp [V.noCap1, hcl] at hn⟩
  · obtain ⟨M, g1, g2, g3⟩ := resA_ok h hv
    exact ⟨M, g1, g2, fun hm _ => g3 hm⟩
theorem res1_no (ob : Obs) (u : V) : (∀ r xs, res1 ob u ≠ .l .deep r xs) ∧ (∀ r xs, res1 ob u ≠ .l .top r xs) ∧ ∀ r xs, res1 ob u ≠ .l .own r xs := by
  cases u <;> simp only [res1, resA, Bool.cond_eq_ite] <;> (try split) <;> exact ⟨by intros; simp, by intros; simp, by intros; simp⟩
theorem res1_io (ob : Obs) (u : V) (cs : List V) : res1 ob u ≠ .io cs ∧ res1 ob u ≠ .a cs := by
  cases u <;> simp only [res1, resA, Bool.cond_eq_ite] <;> (try split) <;> exact ⟨by simp, by simp⟩
theorem res1s_ok (h : Rel B0 w0 σ a w C L) : ∀ (us : List V) {cs : List Value} (hv : VsR C w us cs), ∃ M : List Nat, CellsR w (us.map (res1 σ.ob)) cs [] M [] ∧ (∀ x ∈ M, C.N x ∨ ∃ k, x ∈ L k) ∧
    ((∀ u ∈ us, ∀ k, (u = .w k ∨ (∃ off len, u = .r k off len) ∨ ∃ i j, u = .pa k i j) → σ.lent k) → us.all V.noCap1 = true → ∀ x ∈ M, C.N x)
  | [], cs, hv => ⟨[], ⟨hv, rfl, rfl, rfl⟩, fun _ h => (nomatch h), fun _ _ _ h => (nomatch h)⟩
  | u :: us, _, ⟨v, vs', e1, h2, h3⟩ => by
    subst e1
    obtain ⟨M1, g1, g2, g3⟩ := res1_ok h h2
    obtain ⟨M2, g4, g5, g6⟩ := res1s_ok h us h3
    refine ⟨M1 ++ M2, ⟨v, vs', [], [], M1, M2, [], [], rfl, rfl, rfl, rfl, CellR.plain g1 (res1_no _ _).1 (res1_no _ _).2.1 (res1_no _ _).2.2, g4⟩, fun x hx => ?_, fun hm hn x hx => ?_⟩
    · rcases List.mem_append.1 hx with hx | hx
      · exact g2 x hx
      · exact g5 x hx
    · rcases List.mem_append.1 hx with hx | hx
      · exact g3 (hm u (by simp)) (by simp only [List.all_cons, Bool.and_eq_true] at hn; exact hn.1) x hx
      · exact g6 (fun u hu => hm u (by simp [hu])) (by simp only [List.all_cons, Bool.and_eq_true] at hn; exact hn.2) x hx
theorem resArg_ok (h : Rel B0 w0 σ a w C L) {u : V} {c : Value} (hv : VR C w u c) : ∃ M : List Nat, ArgR w (resArg σ.ob u) c [] M [] ∧ (∀ x ∈ M, C.N x ∨ ∃ k, x ∈ L k) ∧
    ((∀ v ∈ u.cells, ∀ k, (v = .w k ∨ (∃ off len, v = .r k off len) ∨ ∃ i j, v = .pa k i j) → σ.lent k) → u.noCap = true → ∀ x ∈ M, C.N x) := by
  have one : (∀ cs, u ≠ .a cs) → (∀ cs, res1 σ.ob u ≠ .io cs ∧ res1 σ.ob u ≠ .a cs) → u.cells = [u] → resArg σ.ob u = res1 σ.ob u → ∃ M : List Nat, ArgR w (resArg σ.ob u) c [] M [] ∧ (∀ x ∈ M, C.N x ∨ ∃ k, x ∈ L k) ∧
    ((∀ v ∈ u.cells, ∀ k, (v = .w k ∨ (∃ off len, v = .r k off len) ∨ ∃ i j, v = .pa k i j) → σ.lent k) → u.noCap = true → ∀ x ∈ M, C.N x) := by
    intro h1 h2 h3 h4
    obtain ⟨M, g1, g2, g3⟩ := res1_ok h hv
    refine ⟨M, ?_, g2, fun hm hn => g3 (hm u (by rw [h3]; simp)) (by simpa [V.noCap, h3] using hn)⟩
    rw [h4]
    unfold ArgR
    split
    · rename_i cs e; exact absurd e (h2 cs).1
    · rename_i cs e; exact absurd e (h2 cs).2
    · exact CellR.plain g1 (res1_no _ _).1 (res1_no _ _).2.1 (res1_no _ _).2.2
  cases u with
  | a cs =>
    obtain ⟨vs, rfl, h2⟩ := hv
    obtain ⟨M, g1, g2, g3⟩ := res1s_ok h cs h2
    exact ⟨M, ⟨vs, rfl, g1⟩, g2, g3⟩
  | _ =>
    exact one (by intros; simp) (res1_io _ _) rfl rfl

theorem resAll_ok (h : Rel B0 w0 σ a w C L) : ∀ (us : List V) {hs : List (Option (List V))} {cs : List Value} {O M H : List Nat} (hv : VsR C w us cs) (hh : HandsR w us hs cs O M H),
    ∃ M', ArgsR w (resAll σ.ob us hs) cs O M' H ∧ (∀ x ∈ M', x ∈ M ∨ C.N x ∨ ∃ k, x ∈ L k) ∧
    ((∀ u ∈ us, ∀ v ∈ u.cells, ∀ k, (v = .w k ∨ (∃ off len, v = .r k off len) ∨ ∃ i j, v = .pa k i j) → σ.lent k) → us.all V.noCap = true → ∀ x ∈ M', x ∈ M ∨ C.N x)
  | [], hs, cs, O, M, H, hv, hh => by
    obtain ⟨rfl, h2, rfl, rfl, rfl⟩ := hh
    exact ⟨[], ⟨h2, rfl, rfl, rfl⟩, fun _ h => (nomatch h), fun _ _ _ h => (nomatch h)⟩
  | u :: us, hs, cs, O, M, H, hv, hh => by
    obtain ⟨v, vs', rfl, h2, h3⟩ := hv
    obtain ⟨v2, vs2, e1, hh⟩ := hh
    injection e1 with e1 e2
    subst e1; subst e2
    rcases hh with ⟨hs', rfl, h4⟩ | ⟨ds, hs', O1, O2, M1, M2, H1, H2, rfl, rfl, rfl, rfl, h4, h5⟩
    · obtain ⟨M1, g1, g2, g3⟩ := resArg_ok h h2
      obtain ⟨M2, g4, g5, g6⟩ := resAll_ok h us h3 h4
      refine ⟨M1 ++ M2, ⟨v, vs', [], O, M1, M2, [], H, rfl, rfl, rfl, rfl, g1, g4⟩, fun x hx => ?_, fun hm hn x hx => ?_⟩
      · rcases List.mem_append.1 hx with hx | hx
        · exact .inr (g2 x hx)
        · exact g5 x hx
      · rcases List.mem_append.1 hx with hx | hx
        · exact .inr (g3 (hm u (by simp)) (by simp only [List.all_cons, Bool.and_eq_true] at hn; exact hn.1) x hx)
        · exact g6 (fun u hu => hm u (by simp [hu])) (by simp only [List.all_cons, Bool.and_eq_true] at hn; exact hn.2) x hx
    · obtain ⟨M3, g4, g5, g6⟩ := resAll_ok h us h3 h5
      refine ⟨M1 ++ M3, ⟨v, vs', O1, O2, M1, M3, H1, H2, rfl, rfl, rfl, rfl, h4, g4⟩, fun x hx => ?_, fun hm hn x hx => ?_⟩
      · rcases List.mem_append.1 hx with hx | hx
        · exact .inl (by simp [hx])
        · exact (g5 x hx).imp (fun h => by simp [h]) id
      · rcases List.mem_append.1 hx with hx | hx
        · exact .inl (by simp [hx])
        · exact (g6 (fun u hu => hm u (by simp [hu])) (by simp only [List.all_cons, Bool.and_eq_true] at hn; exact hn.2) x hx).imp (fun h => by simp [h]) id

theorem Handed.freezeOwn (h : Rel B0 w0 σ a w C L) {k : Nat} {st : Bool} {r : Rw} {xs : List r.T} (e : σ.obj k = .own st r xs) :
    ∃ C' L', Handed B0 w0 σ a w C L (σ.ob.put k (.arr false true r xs)) [] [] [] [] C' L' := by
  obtain ⟨C', L', h1, h2, h3, h4, h5, h6, h7⟩ := h.freezeOwn e
  refine ⟨C', L', h1, h2, h3, h4, fun j => ?_, fun x hx => (h7 x hx).imp id (fun h => ⟨k, h⟩), List.nodup_nil, fun _ h => (nomatch h), fun _ h => (nomatch h), fun _ h => (nomatch h), fun _ h => (nomatch h), fun _ h => (nomatch h), fun j hm => ?_, fun j hj => ?_⟩
  · by_cases hjk : j = k
    · subst hjk; exact .inr h6
    · exact .inl (h5 j hjk)
  · have hg : St.obj { σ with ob := σ.ob.put k (.arr false true r xs) } j = if j = k then .arr false true r xs else σ.obj j := by
      show (σ.ob.put k _).get j = _
      rw [Obs.get_put]; rfl
    rw [hg] at hm ⊢
    by_cases hjk : j = k
    · rw [if_pos hjk] at hm; simp [E.mu] at hm
    · rw [if_neg hjk]; exact ⟨rfl, h5 j hjk⟩
  · show (σ.ob.put k _).get j = _
    rw [Obs.get_put, if_neg (fun hjk => by subst hjk; rw [e] at hj; cases hj)]; exact hj

/-- What a callee may keep a view of. -/
theorem freezeC_ok (h : Rel B0 w0 σ a w C L) (c : V) : ∃ C' L', Handed B0 w0 σ a w C L (freezeC c σ.ob) [] [] [] [] C' L' ∧
    (∀ k, (c = .w k ∨ (∃ off len, c = .r k off len) ∨ ∃ i j, c = .pa k i j) → St.lent { σ with ob := freezeC c σ.ob } k) ∧ ∀ k, σ.lent k → St.lent { σ with ob := freezeC c σ.ob } k := by
  have key : ∀ k, ∃ C' L', Handed B0 w0 σ a w C L (freezeK k σ.ob) [] [] [] [] C' L' ∧ (St.lent { σ with ob := freezeK k σ.ob } k) ∧ ∀ j, σ.lent j → St.lent { σ with ob := freezeK k σ.ob } j := by
    intro k
    unfold freezeK
    split
    · rename_i mu deep r xs e
      obtain ⟨cv, F, C', L', g1, g2, g3, g4⟩ := Handed.freeze h (M := []) (show σ.obj k = .arr mu deep r xs from e)
      have hob : ∀ j, St.obj { σ with ob := σ.ob.put k (.arr false deep r xs) } j = if j = k then .arr false deep r xs else σ.obj j := fun j => by
        show (σ.ob.put k _).get j = _
        rw [Obs.get_put]; rfl
      refine ⟨C', L', g3 (fun _ h => (nomatch h)), ⟨fun d' r' xs' => ?_, fun s' r' xs' => ?_⟩, fun j hj => ⟨fun d' r' xs' => ?_, fun s' r' xs' => ?_⟩⟩
      · rw [hob, if_pos rfl]
        intro e; injection e with e; cases e
      · rw [hob, if_pos rfl]; intro e; cases e
      · rw [hob]
        split
        · intro e; injection e with e; cases e
        · exact hj.1 d' r' xs'
      · rw [hob]
        split
        · intro e; cases e
        · exact hj.2 s' r' xs'
    · rename_i st r xs e
      obtain ⟨C', L', g1⟩ := Handed.freezeOwn h (show σ.obj k = .own st r xs from e)
      have hob : ∀ j, St.obj { σ with ob := σ.ob.put k (.arr false true r xs) } j = if j = k then .arr false true r xs else σ.obj j := fun j => by
        show (σ.ob.put k _).get j = _
        rw [Obs.get_put]; rfl
      refine ⟨C', L', g1, ⟨fun d' r' xs' => ?_, fun s' r' xs' => ?_⟩, fun j hj => ⟨fun d' r' xs' => ?_, fun s' r' xs' => ?_⟩⟩
      · rw [hob, if_pos rfl]
        intro e; injection e with e; cases e
      · rw [hob, if_pos rfl]; intro e; cases e
      · rw [hob]
        split
        · intro e; injection e with e; cases e
        · exact hj.1 d' r' xs'
      · rw [hob]
        split
        · intro e; cases e
        · exact hj.2 s' r' xs'
    · rename_i hn1 hn2
      exact ⟨C, L, Handed.refl h (M := []) (fun _ h => (nomatch h)), ⟨fun d' r' xs' => hn1 _ _ _ _, fun s' r' xs' => hn2 _ _ _⟩, fun _ h => h⟩
  cases c with
  | w k =>
    obtain ⟨C', L', g1, g2, g3⟩ := key k
    refine ⟨C', L', g1, fun j hj => ?_, g3⟩
    rcases hj with hj | ⟨_, _, hj⟩ | ⟨_, _, hj⟩ <;> cases hj
    exact g2
  | r k off len =>
    obtain ⟨C', L', g1, g2, g3⟩ := key k
    refine ⟨C', L', g1, fun j hj => ?_, g3⟩
    rcases hj with hj | ⟨_, _, hj⟩ | ⟨_, _, hj⟩ <;> cases hj
    exact g2
  | pa k i j' =>
    obtain ⟨C', L', g1, g2, g3⟩ := key k
    refine ⟨C', L', g1, fun j hj => ?_, g3⟩
    rcases hj with hj | ⟨_, _, hj⟩ | ⟨_, _, hj⟩ <;> cases hj
    exact g2
  | _ =>
    refine ⟨C, L, Handed.refl h (M := []) (fun _ h => (nomatch h)), fun j hj => ?_, fun _ h => h⟩
    rcases hj with hj | ⟨_, _, hj⟩ | ⟨_, _, hj⟩ <;> cases hj

theorem freezeCs_ok : ∀ (cs : List V) {σ : St} {C : Cx} {L : Nat → List Nat} (h : Rel B0 w0 σ a w C L), ∃ C' L', Handed B0 w0 σ a w C L (freezeCs cs σ.ob) [] [] [] [] C' L' ∧
    (∀ c ∈ cs, ∀ k, (c = .w k ∨ (∃ off len, c = .r k off len) ∨ ∃ i j, c = .pa k i j) → St.lent { σ with ob := freezeCs cs σ.ob } k) ∧ ∀ k, σ.lent k → St.lent { σ with ob := freezeCs cs σ.ob } k
  | [], σ, C, L, h => ⟨C, L, Handed.refl h (M := []) (fun _ h => (nomatch h)), fun _ h => (nomatch h), fun _ h => h⟩
  | c :: cs, σ, C, L, h => by
    obtain ⟨C1, L1, g1, g2, g3⟩ := freezeC_ok h c
    obtain ⟨C2, L2, g4, g5, g6⟩ := freezeCs_ok cs g1.rel
    refine ⟨C2, L2, g1.trans g4, fun d hd k hk => ?_, fun k hk => g6 k (g3 k hk)⟩
    rcases List.mem_cons.1 hd with rfl | hd
    · exact g6 k (g2 k hk)
    · exact g5 d hd k hk
theorem freezeAll_ok : ∀ (us : List V) {σ : St} {C : Cx} {L : Nat → List Nat} (h : Rel B0 w0 σ a w C L), ∃ C' L', Handed B0 w0 σ a w C L (freezeAll us σ.ob) [] [] [] [] C' L' ∧
    (∀ u ∈ us, ∀ c ∈ u.cells, ∀ k, (c = .w k ∨ (∃ off len, c = .r k off len) ∨ ∃ i j, c = .pa k i j) → St.lent { σ with ob := freezeAll us σ.ob } k) ∧ ∀ k, σ.lent k → St.lent { σ with ob := freezeAll us σ.ob } k
  | [], σ, C, L, h => ⟨C, L, Handed.refl h (M := []) (fun _ h => (nomatch h)), fun _ h => (nomatch h), fun _ h => h⟩
  | u :: us, σ, C, L, h => by
    obtain ⟨C1, L1, g1, g2, g3⟩ := freezeCs_ok u.cells h
    obtain ⟨C2, L2, g4, g5, g6⟩ := freezeAll_ok us g1.rel
    refine ⟨C2, L2, g1.trans g4, fun d hd c hc k hk => ?_, fun k hk => g6 k (g3 k hk)⟩
    rcases List.mem_cons.1 hd with rfl | hd
    · exact g6 k (g2 c hc k hk)
    · exact g5 d hd c hc k hk
end
end Go.Ev
