/- What is taken over from a callee. -/
import Derived.Test.YtfgnddgckhpbiaaEvHand
set_option linter.unusedVariables false
namespace Go.Ev
open Go.RowKit

section
variable {P : Program} {Γ : Env} {B0 : Nat} {w0 : World} {σ : St} {a : Act} {w : World} {C : Cx} {L : Nat → List Nat}

structure Taken (B0 : Nat) (w0 : World) (σ : St) (a : Act) (w : World) (C : Cx) (L : Nat → List Nat) (ob' : Obs) (lo hi : Nat) (O H : List Nat) (C' : Cx) (L' : Nat → List Nat) : Prop where
  rel : Rel B0 w0 { σ with ob := ob' } a w C' L'
  le : C.Le w C' w
  U : ∀ k, C'.U k → C.U k ∨ (lo ≤ k ∧ k < hi)
  N : C'.N = C.N
  φ : ∀ k, C.U k → C'.φ k = C.φ k
  ow : ∀ k x, x ∈ L' k → x ∈ L k ∨ x ∈ O
  hd : ∀ k x, x ∈ L' k → ¬ C'.N x → x ∈ L k ∨ x ∈ H
  no : ∀ k, C.U k → St.obj { σ with ob := ob' } k = σ.obj k

theorem Taken.refl (h : Rel B0 w0 σ a w C L) (lo hi : Nat) : Taken B0 w0 σ a w C L σ.ob lo hi [] [] C L :=
  ⟨h, Cx.Le.refl C w, fun _ h => .inl h, rfl, fun _ _ => rfl, fun _ _ h => .inl h, fun _ _ h _ => .inl h, fun _ _ => rfl⟩
theorem Taken.trans {ob1 ob2 : Obs} {l1 h1 l2 h2 lo hi : Nat} {O1 O2 H1 H2 : List Nat} {C1 C2 : Cx} {L1 L2 : Nat → List Nat} (t1 : Taken B0 w0 σ a w C L ob1 l1 h1 O1 H1 C1 L1) (t2 : Taken B0 w0 { σ with ob := ob1 } a w C1 L1 ob2 l2 h2 O2 H2 C2 L2)
    (e1 : lo ≤ l1) (e2 : h1 ≤ hi) (e3 : lo ≤ l2) (e4 : h2 ≤ hi) : Taken B0 w0 σ a w C L ob2 lo hi (O1 ++ O2) (H1 ++ H2) C2 L2 := by
  refine ⟨t2.rel, t1.le.trans t2.le, fun k hk => ?_, t2.N.trans t1.N, fun k hk => (t2.φ k (t1.le.U k hk)).trans (t1.φ k hk), fun k x hx => ?_, fun k x hx hn => ?_, fun k hk => (t2.no k (t1.le.U k hk)).trans (t1.no k hk)⟩
  · rcases t2.U k hk with h | h
    · rcases t1.U k h with h | h
      · exact .inl h
      · exact .inr (by omega)
    · exact .inr (by omega)
  · rcases t2.ow k x hx with h | h
    · exact (t1.ow k x h).imp id (fun h => by simp [h])
    · exact .inr (by simp [h])
  · rcases t2.hd k x hx hn with h | h
    · exact (t1.hd k x h (by rw [← t2.N]; exact hn)).imp id (fun h => by simp [h])
    · exact .inr (by simp [h])
theorem Taken.mono {ob1 : Obs} {l1 h1 lo hi : Nat} {O1 H1 O2 H2 : List Nat} {C1 : Cx} {L1 : Nat → List Nat} (t1 : Taken B0 w0 σ a w C L ob1 l1 h1 O1 H1 C1 L1) (e1 : lo ≤ l1) (e2 : h1 ≤ hi) (e3 : ∀ x ∈ O1, x ∈ O2) (e4 : ∀ x ∈ H1, x ∈ H2) : Taken B0 w0 σ a w C L ob1 lo hi O2 H2 C1 L1 :=
  ⟨t1.rel, t1.le, fun k hk => (t1.U k hk).imp id (fun h => by omega), t1.N, t1.φ, fun k x hx => (t1.ow k x hx).imp id (e3 x), fun k x hx hn => (t1.hd k x hx hn).imp id (e4 x), t1.no⟩

/-- What is asked of what is taken. -/
structure Fit (B0 : Nat) (w : World) (C : Cx) (L : Nat → List Nat) (O M H : List Nat) : Prop where
  hM : ∀ x ∈ M, C.N x
  hH : ∀ x ∈ H, ¬ C.N x
  nd : O.Nodup
  own : ∀ x ∈ O, B0 ≤ x ∧ x < w.heap.size
  off : ∀ x ∈ O, ∀ k, x ∉ L k
theorem Fit.left {O1 O2 M1 M2 H1 H2 : List Nat} (h : Fit B0 w C L (O1 ++ O2) (M1 ++ M2) (H1 ++ H2)) : Fit B0 w C L O1 M1 H1 :=
  ⟨fun x hx => h.hM x (by simp [hx]), fun x hx => h.hH x (by simp [hx]), (List.nodup_append.1 h.nd).1, fun x hx => h.own x (by simp [hx]), fun x hx => h.off x (by simp [hx])⟩
theorem Fit.right {ob' : Obs} {lo hi : Nat} {O1 O2 M1 M2 H1 H2 H : List Nat} {C' : Cx} {L' : Nat → List Nat} (h : Fit B0 w C L (O1 ++ O2) (M1 ++ M2) (H1 ++ H2)) (t : Taken B0 w0 σ a w C L ob' lo hi O1 H C' L') : Fit B0 w C' L' O2 M2 H2 :=
  ⟨fun x hx => by rw [t.N]; exact h.hM x (by simp [hx]), fun x hx => by rw [t.N]; exact h.hH x (by simp [hx]), (List.nodup_append.1 h.nd).2.1, fun x hx => h.own x (by simp [hx]), fun x hx k hk => by
    rcases t.ow k x hk with h1 | h1
    · exact h.off x (by simp [hx]) k h1
    · exact (List.nodup_append.1 h.nd).2.2 x h1 x hx rfl⟩

theorem SlT.one {w : World} {q e : Bool} {r : Rw} {xs : List r.T} {c : Value} {F : List Nat} (h : SlT (RwR w q r) w e r.n xs c F) : c.oneCell' = true := by
  obtain ⟨ad, cap, rfl⟩ := slice_of h; rfl

theorem Rel.takeObj (h : Rel B0 w0 σ a w C L) {b : Nat} (hb : ¬ C.U b) {e : E} {p : Pl} {f : Option (Nat → Nat → Value)} {O M H : List Nat} (hO : ∀ C', C.Le w C' w → C'.φ b = some p → C'.hs b = f → ObR C' w b e O) (hf : Fit B0 w C L O M H) (hH : ∀ x ∈ O, ¬ C.N x → x ∈ H) (hW : ∀ x, wr e O x → x ∈ H) :
    ∃ C' L', Taken B0 w0 σ a w C L (σ.ob.put b e) b (b + 1) O H C' L' ∧ C'.U b ∧ C'.φ b = some p := by
  have hle : C.Le w (C.add b p f) w := Cx.add_le hb p f (fun x hx => rfl)
  obtain ⟨h1, h2⟩ := h.newObj hb (f := f) (w1 := w) (Nat.le_refl _) (fun _ _ => rfl) h.below (hO _ hle (by simp [Cx.add]) (by simp [Cx.add])) hf.own hf.nd (fun k x hx => hf.off x hx k) (fun x hx => hf.hH x (hW x hx))
  refine ⟨_, _, ⟨h1, h2, fun k hk => ?_, rfl, fun k hk => ?_, fun k x hx => ?_, fun k x hx hn => ?_, fun k hk => ?_⟩, .inr rfl, by simp [Cx.add]⟩
  · rcases hk with hk | rfl
    · exact .inl hk
    · exact .inr ⟨Nat.le_refl _, by omega⟩
  · have : k ≠ b := fun e => hb (e ▸ hk)
    simp [Cx.add, this]
  · split at hx
    · exact .inr hx
    · exact .inl hx
  · split at hx
    · exact .inr (hH x hx hn)
    · exact .inl hx
  · have : k ≠ b := fun e => hb (e ▸ hk)
    show (σ.ob.put b e).get k = _
    rw [Obs.get_put, if_neg this]; rfl

/-- The slices in the cells of an array, as they stand. -/
def headers (w : World) (n : Nat) : Value → Nat → Nat → Value
  | .slice (some ⟨b, o, none⟩) _ _, i, j => (w.cell? ⟨b, o + i * n + j, none⟩).getD undef
  | _, _, _ => undef
theorem headers_ok {w : World} {e q : Bool} {r : Rw} {xs : List r.T} {v : Value} {F : List Nat} (h : SlT (RwR w q r) w e r.n xs v F) : HsR w r xs v (headers w r.n v) := by
  intro b o L cap hv i j hi hj
  subst hv
  rcases h with ⟨h5, _⟩ | ⟨b', o', cap', F', h5, _, _, _, _, h6⟩
  · subst h5; exact absurd hi (Nat.not_lt_zero _)
  · injection h5 with h5
    injection h5 with h5
    injection h5 with h5 h7
    subst h5; subst h7
    obtain ⟨vs, F1, g1, g2, g3, g4⟩ := h6.get (List.getElem?_eq_getElem hi)
    have hjn := Rw.slAt_lt r hj
    have := g3 j vs[j] (List.getElem?_eq_getElem (by omega))
    simp [headers, this]

theorem mem_take_one {F : List Nat} {x : Nat} : x ∈ F.take 1 ↔ F.head? = some x := by cases F <;> simp [eq_comm]

theorem takeCell_ok (h : Rel B0 w0 σ a w C L) {b : Nat} (hb : ¬ C.U b) {c : V} {v : Value} {O M H : List Nat} (hc : CellR w c v O M H) (hf : Fit B0 w C L O M H) {d : V} {ob' : Obs} (e : takeCell b c σ.ob = (d, ob')) :
    ∃ C' L', Taken B0 w0 σ a w C L ob' b (b + 1) O H C' L' ∧ VR C' w d v := by
  have dflt : CellR w c v O M H → (O = [] ∧ H = [] → VR (Cx.ext (· ∈ M)) w c v → (c, σ.ob) = (d, ob') → ∃ C' L', Taken B0 w0 σ a w C L ob' b (b + 1) O H C' L' ∧ VR C' w d v) := by
    intro _ hOH hv e
    cases e
    obtain ⟨rfl, rfl⟩ := hOH
    exact ⟨C, L, Taken.refl h _ _, hv.le (Cx.ext_le hf.hM)⟩
  unfold CellR at hc
  split at hc
  · rename_i r xs
    obtain ⟨h1, h2, h3⟩ := hc
    simp only [takeCell] at e
    cases e
    obtain ⟨C', L', g1, g2, g3⟩ := h.takeObj hb (f := none) (e := .arr true true r xs) (p := .arr v r.n) (O := O) (M := M) (H := H) (fun C' hle hφ _ => ⟨v, O, hφ, h1, fun x hx => hle.N x (hf.hM x (by rw [h2]; exact hx)), by simp⟩) hf (fun x hx hn => by
      cases O with
      | nil => cases hx
      | cons g O =>
        rcases List.mem_cons.1 hx with rfl | hx
        · rw [h3]; simp
        · exact absurd (hf.hM x (by rw [h2]; simpa using hx)) hn) (fun x hx => by rw [h3, mem_take_one]; exact hx.2)
    exact ⟨C', L', g1, g2, h1.one, fun cv n hφ => by rw [g3] at hφ; cases hφ; rfl⟩
  · rename_i r xs
    obtain ⟨F, h1, h2, h3, h4⟩ := hc
    simp only [takeCell] at e
    cases e
    obtain ⟨C', L', g1, g2, g3⟩ := h.takeObj hb (f := none) (e := .arr true false r xs) (p := .arr v r.n) (O := O) (M := M) (H := H) (fun C' hle hφ _ => ⟨v, F, hφ, h1, fun x hx => hle.N x (hf.hM x (by rw [h3]; exact hx)), by simp [h2]⟩) hf (fun x hx _ => by rw [h4, ← h2]; exact hx) (fun x hx => by rw [h4, ← h2]; exact hx.mem)
    exact ⟨C', L', g1, g2, h1.one, fun cv n hφ => by rw [g3] at hφ; cases hφ; rfl⟩
  · rename_i r xs
    obtain ⟨h1, h2, h3⟩ := hc
    simp only [takeCell] at e
    cases e
    obtain ⟨C', L', g1, g2, g3⟩ := h.takeObj hb (f := some (headers w r.n v)) (e := .own true r xs) (p := .arr v r.n) (O := O) (M := M) (H := H) (fun C' hle hφ hhs => ⟨v, hφ, h1, fun _ => ⟨_, hhs, headers_ok h1⟩⟩) hf (fun x hx _ => by rw [h3]; exact hx) (fun x hx => by rw [h3]; exact hx)
    exact ⟨C', L', g1, g2, h1.one, fun cv n hφ => by rw [g3] at hφ; cases hφ; rfl⟩
  · rename_i hn1 hn2 hn3
    have he : takeCell b c σ.ob = (c, σ.ob) := by
      unfold takeCell
      split
      · exact absurd rfl (hn1 _ _)
      · exact absurd rfl (hn2 _ _)
      · exact absurd rfl (hn3 _ _)
      · rfl
    rw [he] at e
    cases e
    obtain ⟨hv, rfl, rfl⟩ := hc
    exact ⟨C, L, Taken.refl h _ _, hv.le (Cx.ext_le hf.hM)⟩

theorem takeCells_ok : ∀ (cs : List V) {σ : St} {C : Cx} {L : Nat → List Nat} (h : Rel B0 w0 σ a w C L) {b : Nat} (hb : ∀ k, b ≤ k → k < b + cs.length → ¬ C.U k) {vs : List Value} {O M H : List Nat} (hc : CellsR w cs vs O M H) (hf : Fit B0 w C L O M H)
    {ds : List V} {ob' : Obs} (e : takeCells b cs σ.ob = (ds, ob')), ∃ C' L', Taken B0 w0 σ a w C L ob' b (b + cs.length) O H C' L' ∧ VsR C' w ds vs
  | [], σ, C, L, h, b, hb, vs, O, M, H, hc, hf, ds, ob', e => by
    simp only [takeCells] at e
    cases e
    obtain ⟨h1, rfl, _, rfl⟩ := hc
    exact ⟨C, L, Taken.refl h _ _, h1⟩
  | c :: cs, σ, C, L, h, b, hb, vs, O, M, H, hc, hf, ds, ob', e => by
    obtain ⟨v, vs', O1, O2, M1, M2, H1, H2, rfl, rfl, rfl, rfl, h1, h2⟩ := hc
    simp only [List.length_cons] at hb ⊢
    cases e1 : takeCell b c σ.ob with
    | mk d ob1 =>
      cases e2 : takeCells (b + 1) cs ob1 with
      | mk ds2 ob2 =>
        simp only [takeCells, e1, e2] at e
        cases e
        obtain ⟨C1, L1, g1, g2⟩ := takeCell_ok h (hb b (Nat.le_refl _) (by omega)) h1 hf.left e1
        obtain ⟨C2, L2, g3, g4⟩ := takeCells_ok cs g1.rel (b := b + 1) (fun k h1 h2 hU => by
          rcases g1.U k hU with h | h
          · exact hb k (by omega) (by omega) h
          · omega) h2 (hf.right g1) e2
        exact ⟨C2, L2, g1.trans g3 (Nat.le_refl _) (by omega) (by omega) (by omega), v, vs', rfl, g2.le g3.le, g4⟩

theorem takeOne_ok (h : Rel B0 w0 σ a w C L) {b : Nat} (hb : ∀ k, b ≤ k → k < b + 24 → ¬ C.U k) {u : V} (hs : u.slim = true) {c : Value} {O M H : List Nat} (hc : ArgR w u c O M H) (hf : Fit B0 w C L O M H) {d : V} {ob' : Obs} (e : takeOne b u σ.ob = (d, ob')) :
    ∃ C' L', Taken B0 w0 σ a w C L ob' b (b + 24) O H C' L' ∧ VR C' w d c := by
  unfold ArgR at hc
  split at hc
  · rename_i cs
    obtain ⟨blk, vs, ty, O', H', rfl, h1, h2, rfl, rfl⟩ := hc
    have hlen : cs.length < 20 := by
      have : Nat.blt cs.length 20 = true := hs
      exact Nat.le_of_ble_eq_true this
    cases e1 : takeCells (b + 1) cs σ.ob with
    | mk ds ob1 =>
      simp only [takeOne, e1] at e
      cases e
      have hf1 : Fit B0 w C L O' M H' := ⟨hf.hM, fun x hx => hf.hH x (by simp [hx]), (List.nodup_cons.1 hf.nd).2, fun x hx => hf.own x (by simp [hx]), fun x hx => hf.off x (by simp [hx])⟩
      obtain ⟨C1, L1, g1, g2⟩ := takeCells_ok cs h (b := b + 1) (fun k h1 h2 => hb k (by omega) (by omega)) h2 hf1 e1
      have hf2 : Fit B0 w C1 L1 [blk] [] [blk] := ⟨fun _ h => (nomatch h), fun x hx => by rw [g1.N]; exact hf.hH x (by simp at hx; simp [hx]), by simp, fun x hx => hf.own x (by simp at hx; simp [hx]), fun x hx k hk => by
        simp at hx; subst hx
        rcases g1.ow k x hk with h | h
        · exact hf.off x (by simp) k h
        · exact (List.nodup_cons.1 hf.nd).1 h⟩
      obtain ⟨C2, L2, g3, g4, g5⟩ := g1.rel.takeObj (f := none) (b := b) (fun hU => by
          rcases g1.U b hU with h | h
          · exact hb b (Nat.le_refl _) (by omega) h
          · omega) (e := .box ds) (p := .box blk) (O := [blk]) (M := []) (H := [blk]) (fun C' hle hφ _ => ⟨blk, vs, ty, hφ, rfl, h1, VsR.le hle ds g2⟩) hf2 (fun x hx _ => hx) (fun x hx => hx.mem)
      refine ⟨C2, L2, (g1.trans g3 (lo := b) (hi := b + 24) (by omega) (by omega) (Nat.le_refl _) (by omega)).mono (Nat.le_refl _) (Nat.le_refl _) (fun x hx => ?_) (fun x hx => ?_), g4, rfl, fun b' hb' => by rw [g5] at hb'; cases hb'; rfl⟩
      · simp at hx ⊢; exact hx.symm
      · simp at hx ⊢; exact hx.symm
  · rename_i cs
    obtain ⟨vs, rfl, h2⟩ := hc
    have hlen : cs.length < 20 := by
      have : Nat.blt cs.length 20 = true := hs
      exact Nat.le_of_ble_eq_true this
    cases e1 : takeCells b cs σ.ob with
    | mk ds ob1 =>
      simp only [takeOne, e1] at e
      cases e
      obtain ⟨C1, L1, g1, g2⟩ := takeCells_ok cs h (b := b) (fun k h1 h2 => hb k (by omega) (by omega)) h2 hf e1
      exact ⟨C1, L1, g1.mono (Nat.le_refl _) (by omega) (fun _ h => h) (fun _ h => h), vs, rfl, g2⟩
  · rename_i hn1 hn2
    have he : takeOne b u σ.ob = takeCell b u σ.ob := by
      unfold takeOne
      split
      · exact absurd rfl (hn2 _)
      · exact absurd rfl (hn1 _)
      · rfl
    rw [he] at e
    obtain ⟨C1, L1, g1, g2⟩ := takeCell_ok h (hb b (Nat.le_refl _) (by omega)) hc hf e
    exact ⟨C1, L1, g1.mono (Nat.le_refl _) (by omega) (fun _ h => h) (fun _ h => h), g2⟩

theorem takeAll_ok : ∀ (us : List V) {σ : St} {C : Cx} {L : Nat → List Nat} (h : Rel B0 w0 σ a w C L) {b : Nat} (hb : ∀ k, b ≤ k → k < b + 24 * us.length → ¬ C.U k) (hs : us.all V.slim = true) {vs : List Value} {O M H : List Nat} (hc : ArgsR w us vs O M H) (hf : Fit B0 w C L O M H)
    {ds : List V} {ob' : Obs} (e : takeAll b us σ.ob = (ds, ob')), ∃ C' L', Taken B0 w0 σ a w C L ob' b (b + 24 * us.length) O H C' L' ∧ VsR C' w ds vs
  | [], σ, C, L, h, b, hb, hs, vs, O, M, H, hc, hf, ds, ob', e => by
    simp only [takeAll] at e
    cases e
    obtain ⟨h1, rfl, _, rfl⟩ := hc
    exact ⟨C, L, Taken.refl h _ _, h1⟩
  | c :: cs, σ, C, L, h, b, hb, hs, vs, O, M, H, hc, hf, ds, ob', e => by
    obtain ⟨v, vs', O1, O2, M1, M2, H1, H2, rfl, rfl, rfl, rfl, h1, h2⟩ := hc
    simp only [List.length_cons] at hb ⊢
    simp only [List.all_cons, Bool.and_eq_true] at hs
    cases e1 : takeOne b c σ.ob with
    | mk d ob1 =>
      cases e2 : takeAll (b + 24) cs ob1 with
      | mk ds2 ob2 =>
        simp only [takeAll, e1, e2] at e
        cases e
        obtain ⟨C1, L1, g1, g2⟩ := takeOne_ok h (b := b) (fun k h1 h2 => hb k h1 (by omega)) hs.1 h1 hf.left e1
        obtain ⟨C2, L2, g3, g4⟩ := takeAll_ok cs g1.rel (b := b + 24) (fun k h1 h2 hU => by
          rcases g1.U k hU with h | h
          · exact hb k (by omega) (by omega) h
          · omega) hs.2 h2 (hf.right g1) e2
        exact ⟨C2, L2, g1.trans g3 (Nat.le_refl _) (by omega) (by omega) (by omega), v, vs', rfl, g2.le g3.le, g4⟩

def RetR (w : World) : V → Value → List Nat → List Nat → List Nat → Prop
  | .t us, c, O, M, H => ∃ vs, c = .tuple ⟨vs⟩ ∧ ArgsR w us vs O M H
  | u, c, O, M, H => ArgR w u c O M H

theorem takeRet_ok (h : Rel B0 w0 σ a w C L) {b : Nat} (hb : ∀ k, b ≤ k → k < b + 96 → ¬ C.U k) {u : V} (hs : slimRet u = true) {c : Value} {O M H : List Nat} (hc : RetR w u c O M H) (hf : Fit B0 w C L O M H) {d : V} {ob' : Obs} (e : takeRet b u σ.ob = (d, ob')) :
    ∃ C' L', Taken B0 w0 σ a w C L ob' b (b + 96) O H C' L' ∧ VR C' w d c := by
  unfold RetR at hc
  split at hc
  · rename_i us
    obtain ⟨vs, rfl, h2⟩ := hc
    simp only [slimRet, Bool.and_eq_true] at hs
    have hlen : us.length < 5 := Nat.le_of_ble_eq_true hs.1
    cases e1 : takeAll b us σ.ob with
    | mk ds ob1 =>
      simp only [takeRet, e1] at e
      cases e
      obtain ⟨C1, L1, g1, g2⟩ := takeAll_ok us h (b := b) (fun k h1 h2 => hb k h1 (by omega)) hs.2 h2 hf e1
      exact ⟨C1, L1, g1.mono (Nat.le_refl _) (by omega) (fun _ h => h) (fun _ h => h), vs, rfl, g2⟩
  · rename_i hn
    have he : takeRet b u σ.ob = takeOne b u σ.ob := by
      unfold takeRet
      split
      · exact absurd rfl (hn _)
      · rfl
    have hs' : u.slim = true := by
      unfold slimRet at hs
      split at hs
      · exact absurd rfl (hn _)
      · exact hs
    rw [he] at e
    obtain ⟨C1, L1, g1, g2⟩ := takeOne_ok h (b := b) (fun k h1 h2 => hb k h1 (by omega)) hs' hc hf e
    exact ⟨C1, L1, g1.mono (Nat.le_refl _) (by omega) (fun _ h => h) (fun _ h => h), g2⟩

/-- A box that was handed over comes back. -/
theorem Rel.readd (h : Rel B0 w0 σ a w C L) {k blk : Nat} (hno : σ.obj k = .no) (hφ : C.φ k = some (.box blk)) {ds : List V} {vs : List Value} {ty : TypeId} (hb : w.heap[blk]? = some (.cells ⟨vs⟩ ty (0, 0))) (hv : VsR C w ds vs) (hN : ¬ C.N blk) (hown : B0 ≤ blk ∧ blk < w.heap.size) (hoff : ∀ j, blk ∉ L j) :
    Rel B0 w0 { σ with ob := σ.ob.put k (.box ds) } a w C (fun j => if j = k then [blk] else L j) := by
  have hob : ∀ j, St.obj { σ with ob := σ.ob.put k (.box ds) } j = if j = k then .box ds else σ.obj j := fun j => by
    show (σ.ob.put k _).get j = _
    rw [Obs.get_put]; rfl
  refine { below := h.below, hB0 := h.hB0, defers := h.defers, len := h.len, tm := h.tm, ob := fun j => ?_, us := h.us, nd := fun j => ?_, dj := fun j j' hj x hx => ?_, own := fun j x hx => ?_, nw := fun j x hwr => ?_, nsz := h.nsz }
  · rw [hob]
    by_cases hk : j = k
    · subst hk
      rw [if_pos rfl, if_pos rfl]
      exact ⟨blk, vs, ty, hφ, rfl, hb, hv⟩
    · rw [if_neg hk, if_neg hk]
      exact h.ob j
  · show (if j = k then [blk] else L j).Nodup
    split
    · simp
    · exact h.nd j
  · split at hx
    · rename_i e1
      simp at hx; subst hx
      rw [if_neg (fun e2 => hj (e1.trans e2.symm))]
      exact hoff j'
    · split
      · simp; rintro rfl; exact hoff j hx
      · exact h.dj j j' hj x hx
  · split at hx
    · simp at hx; subst hx; exact hown
    · exact h.own j x hx
  · rw [hob] at hwr
    by_cases h3 : j = k
    · rw [if_pos h3, if_pos h3] at hwr
      have := hwr.mem
      simp at this; subst this; exact hN
    · rw [if_neg h3, if_neg h3] at hwr
      exact h.nw j x hwr

end
end Go.Ev
