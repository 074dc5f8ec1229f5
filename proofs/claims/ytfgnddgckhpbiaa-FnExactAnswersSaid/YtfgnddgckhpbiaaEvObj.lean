/- Objects made, frozen, given away: the relation is kept. -/
import Derived.Test.YtfgnddgckhpbiaaEvLoad
set_option linter.unusedVariables false
namespace Go.Ev
open Go.RowKit

theorem ObR.le {C C' : Cx} {w w' : World} (hl : C.Le w C' w') {k : Nat} {e : E} {O : List Nat} (h : ObR C w k e O) (hφ : C'.φ k = C.φ k) (hhs : C'.hs k = C.hs k) (hb : ∀ b ∈ O, w'.heap[b]? = w.heap[b]?) : ObR C' w' k e O := by
  cases e with
  | no => exact h
  | box cs =>
    obtain ⟨b, vs, ty, h1, h2, h3, h4⟩ := h
    exact ⟨b, vs, ty, hφ.trans h1, h2, (hb b (by rw [h2]; simp)).trans h3, h4.le hl⟩
  | arr mu deep r xs =>
    obtain ⟨cv, F, h1, h2, h3, h4⟩ := h
    have hF : ∀ b ∈ F, w'.heap[b]? = w.heap[b]? := by
      intro b hb'
      cases F with
      | nil => cases hb'
      | cons f F =>
        rcases List.mem_cons.1 hb' with rfl | hb'
        · cases mu with
          | true =>
            rw [if_pos rfl] at h4
            split at h4 <;> exact hb _ (by rw [h4]; simp)
          | false =>
            rw [if_neg (by simp)] at h4
            exact hl.w _ (h4.2 _ (by simp))
        · exact hl.w _ (h3 _ (by simpa using hb'))
    refine ⟨cv, F, hφ.trans h1, h2.imp (fun h => h) hF (fun x vs F' hk hR => RwR.imp (fun h => h) r hR (fun b hb' => hF b (hk b hb'))), fun b hb' => hl.N b (h3 b hb'), ?_⟩
    split
    · rename_i hm; rw [if_pos hm] at h4; exact h4
    · rename_i hm; rw [if_neg hm] at h4; exact ⟨h4.1, fun b hb' => hl.N b (h4.2 b hb')⟩
  | own st r xs =>
    obtain ⟨cv, h1, h2, h3⟩ := h
    refine ⟨cv, hφ.trans h1, h2.imp (fun h => h) hb (fun x vs F' hk hR => RwR.imp (fun h => h) r hR (fun b hb' => hb b (hk b hb'))), fun hst => ?_⟩
    obtain ⟨f, g1, g2⟩ := h3 hst
    refine ⟨f, hhs.trans g1, fun b o L' cap e i j hi hj => ?_⟩
    have hbO : b ∈ O := by
      rcases h2 with ⟨h5, _⟩ | ⟨b', o', cap', F', h5, _, h6, _⟩
      · subst h5; exact absurd hi (Nat.not_lt_zero _)
      · rw [e] at h5
        injection h5 with h5
        injection h5 with h5
        injection h5 with h5
        rw [h6, h5]; simp
    exact (World.cell?_of_block (w := w) (a := ⟨b, o + i * r.n + j, none⟩) (hb b hbO)).trans (g2 b o L' cap e i j hi hj)

section
variable {P : Program} {Γ : Env} {B0 : Nat} {w0 : World} {σ : St} {a : Act} {w : World} {C : Cx} {L : Nat → List Nat}

/-- An object that nobody here will write again. -/
theorem Rel.freeze (h : Rel B0 w0 σ a w C L) {k : Nat} {mu deep : Bool} {r : Rw} {xs : List r.T} (e : σ.obj k = .arr mu deep r xs) :
    ∃ C' L', Rel B0 w0 (σ.setOb k (.arr false deep r xs)) a w C' L' ∧ C.Le w C' w ∧ C'.U = C.U ∧ C'.φ = C.φ ∧ (∀ j, j ≠ k → L' j = L j) ∧ L' k = [] ∧
      ∃ cv F, C.φ k = some (.arr cv r.n) ∧ SlT (RwR w (!(mu && deep)) r) w (!mu) r.n xs cv F ∧ (∀ b ∈ F, C'.N b) ∧ ((mu && deep) = true → F = L k) ∧ (∀ x, C'.N x → C.N x ∨ x ∈ L k) := by
  obtain ⟨cv, F, hφ, hF, hN, hO⟩ := h.arr e
  let C' : Cx := { C with N := fun b => C.N b ∨ b ∈ F }
  let L' : Nat → List Nat := fun j => if j = k then [] else L j
  have hle : C.Le w C' w := ⟨fun _ _ _ h => h, fun _ h => h, fun _ h => .inl h, fun _ _ => rfl, fun _ _ _ h => h⟩
  have hFsz : ∀ b ∈ F, b < w.heap.size := by
    intro b hb
    rcases hF with ⟨_, h2, _⟩ | ⟨b', x, cap, F', h1, h2, h3, h4, h5, h6⟩
    · rw [h2] at hb; cases hb
    · rw [h3] at hb
      rcases List.mem_cons.1 hb with rfl | hb
      · exact h4
      · exact h.nsz b (hN b (by rw [h3]; simpa using hb))
  refine ⟨C', L', ?_, hle, rfl, rfl, fun j hj => by simp [L', hj], by simp [L'], cv, F, hφ, hF, fun b hb => .inr hb, fun hmd => ?_, fun x hx => ?_⟩
  · refine { below := h.below, hB0 := h.hB0, defers := h.defers, len := h.len, tm := fun i v hv => ?_, ob := fun j => ?_, us := h.us, nd := fun j => ?_, dj := fun j j' hj b hb => ?_, own := fun j b hb => ?_, nw := fun j b hwr => ?_, nsz := fun b hb => ?_ }
    · obtain ⟨c, h1, h2⟩ := h.tm i v hv
      exact ⟨c, h1, h2.le hle⟩
    · show ObR C' w j ((σ.ob.put k _).get j) (L' j)
      rw [Obs.get_put]
      by_cases hj : j = k
      · subst hj
        rw [if_pos rfl]
        refine ⟨cv, F, hφ, hF.imp (fun h => by simp at h) (fun _ _ => rfl) (fun x vs F' hk hR => RwR.imp (fun h => by simp at h) r hR (fun _ _ => rfl)), fun b hb => .inr (List.mem_of_mem_drop hb), ?_⟩
        rw [if_neg (by simp)]
        exact ⟨by simp [L'], fun b hb => .inr hb⟩
      · rw [if_neg hj]
        have := (h.ob j).le hle rfl rfl (fun _ _ => rfl)
        show ObR C' w j (σ.obj j) (L' j)
        simpa [L', hj] using this
    · by_cases hj : j = k
      · simp [L', hj]
      · simpa [L', hj] using h.nd j
    · by_cases h1 : j = k
      · simp [L', h1] at hb
      · by_cases h2 : j' = k
        · simp [L', h2]
        · simp only [L', h1, h2, if_false] at hb ⊢
          exact h.dj j j' hj b hb
    · by_cases hj : j = k
      · simp [L', hj] at hb
      · simp only [L', hj, if_false] at hb; exact h.own j b hb
    · have hb0 := hwr.mem
      by_cases hj : j = k
      · simp [L', hj] at hb0
      · simp only [L', hj, if_false] at hb0
        have hg : (σ.setOb k (.arr false deep r xs)).obj j = σ.obj j := by
          show (σ.ob.put k _).get j = _
          rw [Obs.get_put, if_neg hj]; rfl
        rw [hg, show L' j = L j by simp [L', hj]] at hwr
        have hbL : b ∈ L j := hb0
        rintro (hN' | hF')
        · exact h.nw j b hwr hN'
        · cases mu with
          | true =>
            rw [if_pos rfl] at hO
            cases hFe : F with
            | nil => rw [hFe] at hF'; cases hF'
            | cons f F1 =>
              rw [hFe] at hF'
              rcases List.mem_cons.1 hF' with rfl | hF'
              · refine h.dj j k hj b hbL ?_
                split at hO <;> rw [hO, hFe] <;> simp
              · exact h.nw j b hwr (hN b (by rw [hFe]; simpa using hF'))
          | false =>
            rw [if_neg (by simp)] at hO
            exact h.nw j b hwr (hO.2 b hF')
    · rcases hb with hb | hb
      · exact h.nsz b hb
      · exact hFsz b hb
  · simp only [Bool.and_eq_true] at hmd
    rw [if_pos hmd.1, if_pos hmd.2] at hO
    exact hO.symm
  · rcases hx with hx | hx
    · exact .inl hx
    · cases mu with
      | true =>
        rw [if_pos rfl] at hO
        cases deep with
        | true => rw [if_pos rfl] at hO; exact .inr (by rw [hO]; exact hx)
        | false =>
          rw [if_neg (by simp)] at hO
          cases hFe : F with
          | nil => rw [hFe] at hx; cases hx
          | cons f F1 =>
            rw [hFe] at hx
            rcases List.mem_cons.1 hx with rfl | hx
            · exact .inr (by rw [hO, hFe]; simp)
            · exact .inl (hN x (by rw [hFe]; simpa using hx))
      | false =>
        rw [if_neg (by simp)] at hO
        exact .inl (hO.2 x hx)

/-- Where owned blocks and blocks that are not written come from. -/
structure Org (w : World) (C : Cx) (L : Nat → List Nat) (T : List Nat) (C' : Cx) (L' : Nat → List Nat) : Prop where
  hd : ∀ k x, x ∈ L' k → ¬ C'.N x → x ∈ L k ∨ w.heap.size ≤ x ∨ ∃ j ∈ T, x ∈ L j
  ow : ∀ k x, x ∈ L' k → (∃ j, x ∈ L j) ∨ w.heap.size ≤ x
  nn : ∀ x, C'.N x → C.N x ∨ (∃ j, x ∈ L j) ∨ w.heap.size ≤ x
theorem Org.same {w : World} {C : Cx} {L : Nat → List Nat} {T : List Nat} {C' : Cx} {L' : Nat → List Nat} (hL : ∀ k, L' k = L k ∨ L' k = []) (hN : ∀ x, C'.N x → C.N x ∨ ∃ j, x ∈ L j) : Org w C L T C' L' :=
  by
  refine ⟨fun k x hx _ => ?_, fun k x hx => ?_, fun x hx => (hN x hx).imp id .inl⟩
  · rcases hL k with h | h
    · rw [h] at hx; exact .inl hx
    · rw [h] at hx; cases hx
  · rcases hL k with h | h
    · rw [h] at hx; exact .inl ⟨k, hx⟩
    · rw [h] at hx; cases hx
theorem Org.refl (w : World) (C : Cx) (L : Nat → List Nat) (T : List Nat) : Org w C L T C L := Org.same (fun _ => .inl rfl) (fun _ h => .inl h)
/-- One step without any touching, then another one. -/
theorem Org.trans {w w' : World} {C C' C2 : Cx} {L L' L2 : Nat → List Nat} {T : List Nat} (hw : w.heap.size ≤ w'.heap.size) (h : Org w C L T C' L') (h' : Org w' C' L' [] C2 L2) (hN : ∀ x, C'.N x → C2.N x) : Org w C L T C2 L2 :=
  by
  refine ⟨fun k x hx hn => ?_, fun k x hx => ?_, fun x hx => ?_⟩
  · rcases h'.hd k x hx hn with h1 | h1 | ⟨j, hj, _⟩
    · exact h.hd k x h1 (fun h2 => hn (hN x h2))
    · exact .inr (.inl (Nat.le_trans hw h1))
    · cases hj
  · rcases h'.ow k x hx with ⟨j, h1⟩ | h1
    · exact h.ow j x h1
    · exact .inr (Nat.le_trans hw h1)
  · rcases h'.nn x hx with h1 | ⟨j, h1⟩ | h1
    · exact h.nn x h1
    · exact .inr (h.ow j x h1)
    · exact .inr (.inr (Nat.le_trans hw h1))

/-- What giving a value away leaves. -/
structure Gave (B0 : Nat) (w0 : World) (σ : St) (a : Act) (w : World) (C : Cx) (L : Nat → List Nat) (ob' : Obs) (p : Bool) (F : List Nat) (C' : Cx) (L' : Nat → List Nat) : Prop where
  rel : Rel B0 w0 { σ with ob := ob' } a w C' L'
  le : C.Le w C' w
  U : C'.U = C.U
  φ : C'.φ = C.φ
  sub : ∀ k, ∀ b ∈ L' k, b ∈ L k
  N : ∀ b ∈ F, C'.N b
  nd : p = true → F.Nodup
  from_ : p = true → ∀ b ∈ F, ∃ k, b ∈ L k
  off : p = true → ∀ b ∈ F, ∀ k, b ∉ L' k
  mus : ∀ k, (St.obj { σ with ob := ob' } k).mu = true → σ.obj k = St.obj { σ with ob := ob' } k ∧ L' k = L k
  boxes : ∀ k cs, σ.obj k = .box cs → St.obj { σ with ob := ob' } k = .box cs
  eqn : ∀ k, L' k = L k ∨ L' k = []
  nn : ∀ x, C'.N x → C.N x ∨ ∃ j, x ∈ L j

theorem Gave.org {ob' : Obs} {p : Bool} {F : List Nat} {C' : Cx} {L' : Nat → List Nat} (h : Gave B0 w0 σ a w C L ob' p F C' L') (T : List Nat) : Org w C L T C' L' := Org.same h.eqn h.nn

theorem Gave.refl (h : Rel B0 w0 σ a w C L) (p : Bool) : Gave B0 w0 σ a w C L σ.ob p [] C L :=
  ⟨h, Cx.Le.refl C w, rfl, rfl, fun _ _ h => h, fun _ h => (nomatch h), fun _ => List.nodup_nil, fun _ _ h => (nomatch h), fun _ _ h => (nomatch h), fun _ _ => ⟨rfl, rfl⟩, fun _ _ h => h, fun _ => .inl rfl, fun _ h => .inl h⟩

theorem SlT.loose {w : World} {e e' : Bool} {r : Rw} {xs : List r.T} {v : Value} {F : List Nat} (h : SlT (RwR w e r) w e' r.n xs v F) : SlT (RwR w true r) w true r.n xs v F :=
  h.imp (fun h => by cases h) (fun _ _ => rfl) (fun x vs F' hk hR => RwR.imp (e := e) (e' := true) (fun h => by cases h) r hR (fun _ _ => rfl))
theorem Rel.freezeOwn (h : Rel B0 w0 σ a w C L) {k : Nat} {st : Bool} {r : Rw} {xs : List r.T} (e : σ.obj k = .own st r xs) :
    ∃ C' L', Rel B0 w0 (σ.setOb k (.arr false true r xs)) a w C' L' ∧ C.Le w C' w ∧ C'.U = C.U ∧ C'.φ = C.φ ∧ (∀ j, j ≠ k → L' j = L j) ∧ L' k = [] ∧ (∀ x, C'.N x → C.N x ∨ x ∈ L k) := by
  obtain ⟨cv, hφ, hF, _⟩ := h.ownd e
  let C' : Cx := { C with N := fun b => C.N b ∨ b ∈ L k }
  let L' : Nat → List Nat := fun j => if j = k then [] else L j
  have hle : C.Le w C' w := ⟨fun _ _ _ h => h, fun _ h => h, fun _ h => .inl h, fun _ _ => rfl, fun _ _ _ h => h⟩
  refine ⟨C', L', ?_, hle, rfl, rfl, fun j hj => by simp [L', hj], by simp [L'], fun x hx => hx⟩
  refine { below := h.below, hB0 := h.hB0, defers := h.defers, len := h.len, tm := fun i v hv => ?_, ob := fun j => ?_, us := h.us, nd := fun j => ?_, dj := fun j j' hj b hb => ?_, own := fun j b hb => ?_, nw := fun j b hwr => ?_, nsz := fun b hb => ?_ }
  · obtain ⟨c, h1, h2⟩ := h.tm i v hv
    exact ⟨c, h1, h2.le hle⟩
  · show ObR C' w j ((σ.ob.put k _).get j) (L' j)
    rw [Obs.get_put]
    by_cases hj : j = k
    · subst hj
      rw [if_pos rfl]
      refine ⟨cv, L j, hφ, hF.loose, fun b hb => .inr (List.mem_of_mem_drop hb), ?_⟩
      rw [if_neg (by simp)]
      exact ⟨by simp [L'], fun b hb => .inr hb⟩
    · rw [if_neg hj]
      have := (h.ob j).le hle rfl rfl (fun _ _ => rfl)
      show ObR C' w j (σ.obj j) (L' j)
      simpa [L', hj] using this
  · by_cases hj : j = k
    · simp [L', hj]
    · simpa [L', hj] using h.nd j
  · by_cases h1 : j = k
    · simp [L', h1] at hb
    · by_cases h2 : j' = k
      · simp [L', h2]
      · simp only [L', h1, h2, if_false] at hb ⊢
        exact h.dj j j' hj b hb
  · by_cases hj : j = k
    · simp [L', hj] at hb
    · simp only [L', hj, if_false] at hb; exact h.own j b hb
  · have hb0 := hwr.mem
    by_cases hj : j = k
    · simp [L', hj] at hb0
    · simp only [L', hj, if_false] at hb0
      have hg : (σ.setOb k (.arr false true r xs)).obj j = σ.obj j := by
        show (σ.ob.put k _).get j = _
        rw [Obs.get_put, if_neg hj]; rfl
      rw [hg, show L' j = L j by simp [L', hj]] at hwr
      rintro (hN' | hF')
      · exact h.nw j b hwr hN'
      · exact h.dj j k hj b hb0 hF'
  · rcases hb with hb | hb
    · exact h.nsz b hb
    · exact (h.own k b hb).2
theorem Gave.freeze (h : Rel B0 w0 σ a w C L) {k : Nat} {mu deep : Bool} {r : Rw} {xs : List r.T} (e : σ.obj k = .arr mu deep r xs) (p : Bool) (hp : p = true → (mu && deep) = true) :
    ∃ cv F C' L', C.φ k = some (.arr cv r.n) ∧ SlT (RwR w (!(mu && deep)) r) w (!mu) r.n xs cv F ∧ Gave B0 w0 σ a w C L (σ.ob.put k (.arr false deep r xs)) p F C' L' := by
  obtain ⟨C', L', h1, h2, h3, h4, h5, h6, cv, F, h7, h8, h9, h10, h11⟩ := h.freeze e
  refine ⟨cv, F, C', L', h7, h8, h1, h2, h3, h4, fun j b hb => ?_, h9, fun hp' => ?_, fun hp' b hb => ?_, fun hp' b hb j hj => ?_, fun j hm => ?_, fun j cs hj => ?_, fun j => ?_, fun x hx => (h11 x hx).imp id (fun h => ⟨k, h⟩)⟩
  · by_cases hj : j = k
    · subst hj; rw [h6] at hb; cases hb
    · rw [h5 j hj] at hb; exact hb
  · rw [h10 (hp hp')]; exact h.nd k
  · exact ⟨k, by rw [← h10 (hp hp')]; exact hb⟩
  · by_cases hjk : j = k
    · subst hjk; rw [h6] at hj; cases hj
    · rw [h5 j hjk] at hj
      rw [h10 (hp hp')] at hb
      exact h.dj k j (Ne.symm hjk) b hb hj
  · have hg : St.obj { σ with ob := σ.ob.put k (.arr false deep r xs) } j = if j = k then .arr false deep r xs else σ.obj j := by
      show (σ.ob.put k _).get j = _
      rw [Obs.get_put]; rfl
    rw [hg] at hm ⊢
    by_cases hjk : j = k
    · rw [if_pos hjk] at hm; simp [E.mu] at hm
    · rw [if_neg hjk]; exact ⟨rfl, h5 j hjk⟩
  · show (σ.ob.put k _).get j = _
    rw [Obs.get_put, if_neg (fun hjk => by subst hjk; rw [e] at hj; cases hj)]; exact hj
  · by_cases hjk : j = k
    · subst hjk; exact .inr h6
    · exact .inl (h5 j hjk)

theorem Gave.trans {ob1 ob2 : Obs} {p1 p2 : Bool} {F1 F2 : List Nat} {C1 C2 : Cx} {L1 L2 : Nat → List Nat} (h1 : Gave B0 w0 σ a w C L ob1 p1 F1 C1 L1) (h2 : Gave B0 w0 { σ with ob := ob1 } a w C1 L1 ob2 p2 F2 C2 L2) :
    Gave B0 w0 σ a w C L ob2 (p1 && p2) (F1 ++ F2) C2 L2 := by
  refine ⟨h2.rel, h1.le.trans h2.le, h2.U.trans h1.U, h2.φ.trans h1.φ, fun k b hb => h1.sub k b (h2.sub k b hb), fun b hb => ?_, fun hp => ?_, fun hp b hb => ?_, fun hp b hb k hk => ?_, fun k hm => ?_, fun k cs hk => h2.boxes k cs (h1.boxes k cs hk), fun k => ?_, fun x hx => ?_⟩
  · rcases List.mem_append.1 hb with hb | hb
    · exact h2.le.N b (h1.N b hb)
    · exact h2.N b hb
  · simp only [Bool.and_eq_true] at hp
    rw [List.nodup_append]
    refine ⟨h1.nd hp.1, h2.nd hp.2, fun b hb b' hb' e => ?_⟩
    subst e
    obtain ⟨k, hk⟩ := h2.from_ hp.2 b hb'
    exact h1.off hp.1 b hb k hk
  · simp only [Bool.and_eq_true] at hp
    rcases List.mem_append.1 hb with hb | hb
    · exact h1.from_ hp.1 b hb
    · obtain ⟨k, hk⟩ := h2.from_ hp.2 b hb
      exact ⟨k, h1.sub k b hk⟩
  · simp only [Bool.and_eq_true] at hp
    rcases List.mem_append.1 hb with hb | hb
    · exact h1.off hp.1 b hb k (h2.sub k b hk)
    · exact h2.off hp.2 b hb k hk
  · obtain ⟨e1, e2⟩ := h2.mus k hm
    rw [← e1] at hm
    obtain ⟨e3, e4⟩ := h1.mus k hm
    exact ⟨e3.trans e1, e2.trans e4⟩
  · rcases h2.eqn k with h | h
    · rw [h]; exact h1.eqn k
    · exact .inr h
  · rcases h2.nn x hx with h | ⟨j, h⟩
    · exact h1.nn x h
    · exact .inr ⟨j, h1.sub j x h⟩

theorem Cc.give_ok (h : Rel B0 w0 σ a w C L) : (c : Cc) → {u : V} → {cv : Value} → VR C w u cv → {d : c.T} → {p : Bool} → {ob' : Obs} → c.give u σ.ob = some (d, p, ob') →
    ∃ F C' L', CcR w (!p) c d cv F ∧ Gave B0 w0 σ a w C L ob' p F C' L'
  | .int k, u, cv, hv, d, p, ob', hg => by
    cases u with
    | s v =>
      cases v with
      | int k' n =>
        simp only [Cc.give] at hg
        split at hg
        · rename_i hk
          subst hk
          cases hg
          exact ⟨[], C, L, ⟨hv.1, rfl⟩, Gave.refl h _⟩
        · cases hg
      | _ => simp [Cc.give] at hg
    | _ => simp [Cc.give] at hg
  | .bool, u, cv, hv, d, p, ob', hg => by
    cases u with
    | s v =>
      cases v with
      | bool b => simp only [Cc.give] at hg; cases hg; exact ⟨[], C, L, ⟨hv.1, rfl⟩, Gave.refl h _⟩
      | _ => simp [Cc.give] at hg
    | _ => simp [Cc.give] at hg
  | .str, u, cv, hv, d, p, ob', hg => by
    cases u with
    | s v =>
      cases v with
      | string b => simp only [Cc.give] at hg; cases hg; exact ⟨[], C, L, ⟨hv.1, rfl⟩, Gave.refl h _⟩
      | _ => simp [Cc.give] at hg
    | _ => simp [Cc.give] at hg
  | .sl r, u, cv, hv, d, p, ob', hg => by
    cases u with
    | nl =>
      simp only [Cc.give] at hg; cases hg
      exact ⟨[], C, L, .inl ⟨rfl, rfl, none, 0, hv, fun _ => ⟨rfl, rfl⟩⟩, Gave.refl h _⟩
    | l o r' xs =>
      simp only [Cc.give] at hg
      split at hg
      · rename_i hr
        subst hr
        cases hg
        obtain ⟨F, hF, hN⟩ := hv
        exact ⟨F, C, L, hF, h, Cx.Le.refl C w, rfl, rfl, fun _ _ h => h, hN, fun h => (nomatch h), fun h => (nomatch h), fun h => (nomatch h), fun _ _ => ⟨rfl, rfl⟩, fun _ _ h => h, fun _ => .inl rfl, fun _ h => .inl h⟩
      · cases hg
    | w k =>
      simp only [Cc.give] at hg
      split at hg
      · rename_i mu deep r' xs e
        split at hg
        · rename_i hr
          subst hr
          cases hg
          obtain ⟨cv', F, C', L', h1, h2, h3⟩ := Gave.freeze h e (mu && deep) (fun h => h)
          refine ⟨F, C', L', ?_, h3⟩
          rw [hv.2.2 cv' _ h1]
          cases hmd : (mu && deep) with
          | true =>
            have hm : mu = true := by cases mu <;> simp_all
            rw [hmd, hm] at h2
            exact h2
          | false => exact h2.loose
        · cases hg
      · cases hg
    | r k off len =>
      simp only [Cc.give] at hg
      split at hg
      · rename_i mu deep r' xs e
        split at hg
        · rename_i hr
          subst hr
          cases hg
          obtain ⟨cv', F, C', L', h1, h2, h3⟩ := Gave.freeze h e false (fun h => (nomatch h))
          obtain ⟨ad, l, cap, cap', e1, e2, a', e3, e4⟩ := hv.2.2 cv' _ h1
          subst e1
          have h2' := h2.loose
          by_cases hz : len = 0
          · refine ⟨[], C', L', .inl ⟨by simp [hz], rfl, a', cap', by rw [e3, hz], fun h => (nomatch h)⟩, ?_⟩
            exact { h3 with N := fun _ h => (nomatch h), nd := fun h => (nomatch h), from_ := fun h => (nomatch h), off := fun h => (nomatch h) }
          · obtain ⟨b, x, g1, g2, g3⟩ := e4 hz
            rcases h2' with ⟨h5, _, ad', cap'', h6, _⟩ | ⟨b', x', cap'', F', h5, h6, h7, h8, h9, h10⟩
            · subst h5; injection h6 with _ e6 _; omega
            · injection h5 with q1 q2 q3
              rw [g1] at q1
              injection q1 with q1
              injection q1 with q1 q4
              subst q1; subst q4; subst q3
              obtain ⟨F1, k1, k2⟩ := h10.drop off (by omega)
              obtain ⟨F2, k3, k4⟩ := k2.take len
              have hlen : ((xs.drop off).take len).length = len := by simp; omega
              refine ⟨b :: F2, C', L', .inr ⟨b, x + off * r'.n, cap', F2, by rw [e3, g2, hlen], by rw [hlen]; omega, rfl, h8, fun h => (nomatch h), k4⟩, ?_⟩
              have hNN : ∀ j ∈ b :: F2, C'.N j := by
                intro j hj
                rcases List.mem_cons.1 hj with rfl | hj
                · exact h3.N _ (by rw [h7]; simp)
                · exact h3.N _ (by rw [h7]; exact List.mem_cons_of_mem _ (k1 _ (k3 _ hj)))
              exact { h3 with N := hNN, nd := fun h => (nomatch h), from_ := fun h => (nomatch h), off := fun h => (nomatch h) }
        · cases hg
      · cases hg
    | _ => simp [Cc.give] at hg

theorem Rw.give_ok : (r : Rw) → {σ : St} → {C : Cx} → {L : Nat → List Nat} → (h : Rel B0 w0 σ a w C L) → {us : List V} → {cvs : List Value} → VsR C w us cvs → {d : r.T} → {p : Bool} → {ob' : Obs} → r.give us σ.ob = some (d, p, ob') →
    ∃ F C' L', RwR w (!p) r d cvs F ∧ Gave B0 w0 σ a w C L ob' p F C' L'
  | .one c, σ, C, L, h, us, cvs, hv, d, p, ob', hg => by
    cases us with
    | nil => simp [Rw.give] at hg
    | cons u us =>
      cases us with
      | nil =>
        simp only [Rw.give] at hg
        obtain ⟨v, vs', h1, h2, h3⟩ := hv
        simp only [VsR] at h3
        subst h3
        obtain ⟨F, C', L', g1, g2⟩ := Cc.give_ok h c h2 hg
        exact ⟨F, C', L', ⟨v, h1, g1⟩, g2⟩
      | cons _ _ => simp [Rw.give] at hg
  | .cons c r, σ, C, L, h, us, cvs, hv, d, p, ob', hg => by
    cases us with
    | nil => simp [Rw.give] at hg
    | cons u us =>
      simp only [Rw.give] at hg
      obtain ⟨v, vs', h1, h2, h3⟩ := hv
      split at hg
      · rename_i d1 p1 ob1 e1
        split at hg
        · rename_i ds p2 ob2 e2
          cases hg
          obtain ⟨F1, C1, L1, g1, g2⟩ := Cc.give_ok h c h2 e1
          obtain ⟨F2, C2, L2, g3, g4⟩ := Rw.give_ok r g2.rel (h3.le g2.le) e2
          refine ⟨F1 ++ F2, C2, L2, ⟨v, vs', F1, F2, h1, rfl, ?_, ?_⟩, g2.trans g4⟩
          · exact CcR.imp (by cases p1 <;> cases p2 <;> simp) c g1 (fun _ _ => rfl)
          · exact RwR.imp (by cases p1 <;> cases p2 <;> simp) r g3 (fun _ _ => rfl)
        · cases hg
      · cases hg

end
end Go.Ev
