/- New objects, stores, appends: the machine does what the evaluator says. -/
import Derived.Test.YtfgnddgckhpbiaaEvObj
import Derived.Laws.CopyRow
set_option linter.unusedVariables false
namespace Go.Ev
open Go.RowKit

def Cx.add (C : Cx) (b : Nat) (p : Pl) (f : Option (Nat → Nat → Value) := none) : Cx := { φ := fun k => if k = b then some p else C.φ k, U := fun k => C.U k ∨ k = b, N := C.N, hs := fun k => if k = b then f else C.hs k }
theorem Cx.add_le {C : Cx} {b : Nat} (hb : ¬ C.U b) (p : Pl) (f : Option (Nat → Nat → Value)) {w w1 : World} (hw : ∀ x, C.N x → w1.heap[x]? = w.heap[x]?) : C.Le w (C.add b p f) w1 :=
  ⟨fun k q hu hq => by
      have : k ≠ b := fun e => hb (e ▸ hu)
      simpa [Cx.add, this] using hq, fun _ h => .inl h, fun _ h => h, hw, fun k q hu hq => by
      have : k ≠ b := fun e => hb (e ▸ hu)
      simpa [Cx.add, this] using hq⟩

section
variable {P : Program} {Γ : Env} {B0 : Nat} {w0 : World} {σ : St} {a : Act} {w : World} {C : Cx} {L : Nat → List Nat}

theorem Rel.newObj (h : Rel B0 w0 σ a w C L) {b : Nat} (hb : ¬ C.U b) {w1 : World} (hsz : w.heap.size ≤ w1.heap.size) (hold : ∀ k, k < w.heap.size → w1.heap[k]? = w.heap[k]?) (hbel : Below B0 w0 w1)
    {e : E} {p : Pl} {f : Option (Nat → Nat → Value)} {O : List Nat} (hO : ObR (C.add b p f) w1 b e O) (hown : ∀ x ∈ O, B0 ≤ x ∧ x < w1.heap.size) (hnd : O.Nodup) (hdj : ∀ k, ∀ x ∈ O, x ∉ L k) (hnm : ∀ x, wr e O x → ¬ C.N x) :
    Rel B0 w0 (σ.setOb b e) a w1 (C.add b p f) (fun k => if k = b then O else L k) ∧ C.Le w (C.add b p f) w1 := by
  have hle : C.Le w (C.add b p f) w1 := Cx.add_le hb p f (fun x hx => hold x (h.nsz x hx))
  refine ⟨?_, hle⟩
  refine { below := hbel, hB0 := Nat.le_trans h.hB0 hsz, defers := h.defers, len := h.len, tm := fun i v hv => ?_, ob := fun j => ?_, us := fun k hk => ?_, nd := fun j => ?_, dj := fun j j' hj x hx => ?_, own := fun j x hx => ?_, nw := fun j x hwr => ?_, nsz := fun x hx => Nat.lt_of_lt_of_le (h.nsz x hx) hsz }
  · obtain ⟨c, h1, h2⟩ := h.tm i v hv
    exact ⟨c, h1, h2.le hle⟩
  · show ObR _ w1 j ((σ.ob.put b e).get j) _
    rw [Obs.get_put]
    by_cases hj : j = b
    · subst hj; simpa using hO
    · rw [if_neg hj, if_neg hj]
      exact (h.ob j).le hle (by simp [Cx.add, hj]) (by simp [Cx.add, hj]) (fun x hx => hold x (h.own j x hx).2)
  · by_cases hj : k = b
    · exact .inr hj
    · exact .inl (h.us k (by simpa [Cx.add, hj] using hk))
  · by_cases hj : j = b
    · simpa [hj] using hnd
    · simpa [hj] using h.nd j
  · by_cases h1 : j = b
    · subst h1
      have h2 : j' ≠ j := Ne.symm hj
      simp only [if_true, h2, if_false] at hx ⊢
      exact hdj j' x hx
    · by_cases h2 : j' = b
      · subst h2
        simp only [h1, if_false, if_true] at hx ⊢
        exact fun hx' => hdj j x hx' hx
      · simp only [h1, h2, if_false] at hx ⊢
        exact h.dj j j' hj x hx
  · by_cases hj : j = b
    · subst hj; simp only [if_true] at hx; exact hown x hx
    · simp only [hj, if_false] at hx
      exact ⟨(h.own j x hx).1, Nat.lt_of_lt_of_le (h.own j x hx).2 hsz⟩
  · have hg : (σ.setOb b e).obj j = if j = b then e else σ.obj j := by
      show (σ.ob.put b e).get j = _
      rw [Obs.get_put]; rfl
    rw [hg] at hwr
    by_cases hj : j = b
    · subst hj
      simp only [if_true] at hwr
      exact hnm x hwr
    · simp only [hj, if_false] at hwr
      exact h.nw j x hwr

/-- What stands behind an operation. -/
theorem Org.add {w : World} {C : Cx} {L : Nat → List Nat} {T : List Nat} {C1 : Cx} {L1 : Nat → List Nat} {b : Nat} {O : List Nat} (h : Org w C L T C1 L1) {C' : Cx} (hC : ∀ x, C'.N x ↔ C1.N x) (h1 : ∀ x ∈ O, ¬ C'.N x → w.heap.size ≤ x ∨ ∃ j ∈ T, x ∈ L j)
    (h2 : ∀ x ∈ O, (∃ j, x ∈ L j) ∨ w.heap.size ≤ x) : Org w C L T C' (fun k => if k = b then O else L1 k) := by
  refine ⟨fun k x hx hn => ?_, fun k x hx => ?_, fun x hx => h.nn x ((hC x).1 hx)⟩
  · by_cases hk : k = b
    · simp only [hk, if_true] at hx; exact .inr (h1 x hx hn)
    · simp only [hk, if_false] at hx; exact h.hd k x hx (fun h2 => hn ((hC x).2 h2))
  · by_cases hk : k = b
    · simp only [hk, if_true] at hx; exact h2 x hx
    · simp only [hk, if_false] at hx; exact h.ow k x hx
theorem Org.wid {w : World} {C : Cx} {L : Nat → List Nat} {T : List Nat} {C1 : Cx} {L1 : Nat → List Nat} (h : Org w C L [] C1 L1) : Org w C L T C1 L1 :=
  ⟨fun k x hx hn => (h.hd k x hx hn).imp id (fun h => h.imp id (fun ⟨_, hj, _⟩ => (nomatch hj))), h.ow, h.nn⟩
structure Nxt (ld : Nat → Bool) (B0 : Nat) (w0 : World) (o : Oper) (σ : St) (w : World) (C : Cx) (L : Nat → List Nat) (b : Nat) (K : St → Option Ret) (r : Ret) (a' : Act) (w' : World) : Prop where
  ex : ∃ σ' C' L', K σ' = some r ∧ Rel B0 w0 σ' a' w' C' L' ∧ C.Le w C' w' ∧ (∀ k, C'.U k → C.U k ∨ (b ≤ k ∧ k < b + 256)) ∧ σ'.nx = σ.nx ∧ σ'.tm.length = σ.tm.length ∧ σ'.io = σ.io ∧ Org w C L (touched ld o σ) C' L'
  fr : ∀ x, x < w.heap.size → (C.N x ∨ ∀ k ∈ touched ld o σ, x ∉ L k) → w'.heap[x]? = w.heap[x]?
  sz : w.heap.size ≤ w'.heap.size

theorem put_len (σ : St) (d : Option Tmp) (v : V) : (σ.put d v).tm.length = σ.tm.length := by cases d <;> simp [St.put]
theorem put_io (σ : St) (d : Option Tmp) (v : V) : (σ.put d v).io = σ.io := by cases d <;> rfl
theorem put_nx (σ : St) (d : Option Tmp) (v : V) : (σ.put d v).nx = σ.nx := by cases d <;> rfl

theorem wp_val {o : Oper} {a : Act} {w w' : World} {next : Act → World → Prop} {Q : Exit → Act → World → Prop} {c : Value} (h : (execOp a.eval o).run P w = .ok (.value c) w') (hn : next (a.put o.dst c) w') : o.wp P a w next Q := by
  unfold Oper.wp; rw [h]; exact hn
theorem wp_skip' {o : Oper} {a : Act} {w w' : World} {next : Act → World → Prop} {Q : Exit → Act → World → Prop} (h : (execOp a.eval o).run P w = .ok .skip w') (hn : next (a.put o.dst undef) w') : o.wp P a w next Q := by
  unfold Oper.wp; rw [h]; exact hn

theorem alloc_old (w : World) (o : Obj) (k : Nat) (h : k < w.heap.size) : (w.alloc o).heap[k]? = w.heap[k]? := Below.heap_alloc w o k h
theorem alloc_new (w : World) (o : Obj) : (w.alloc o).heap[w.heap.size]? = some o := by show (w.heap.push o)[w.heap.size]? = _; simp
theorem alloc_size (w : World) (o : Obj) : (w.alloc o).heap.size = w.heap.size + 1 := by show (w.heap.push o).size = _; simp

/-- A new variable. -/
theorem Rel.newBox (h : Rel B0 w0 σ a w C L) {b : Nat} (hb : ¬ C.U b) {cs : List V} {vs : List Value} (hv : VsR C w cs vs) (ty : TypeId) :
    ∃ C' L', Rel B0 w0 (σ.setOb b (.box cs)) a (w.alloc (.cells ⟨vs⟩ ty (0, 0))) C' L' ∧ C.Le w C' (w.alloc (.cells ⟨vs⟩ ty (0, 0))) ∧ (∀ k, C'.U k → C.U k ∨ k = b) ∧ C'.φ b = some (.box w.heap.size) ∧ C'.U b ∧ Org w C L [] C' L' := by
  have hold := fun k hk => alloc_old w (.cells ⟨vs⟩ ty (0, 0)) k hk
  have hle : C.Le w (C.add b (.box w.heap.size)) (w.alloc (.cells ⟨vs⟩ ty (0, 0))) := Cx.add_le hb _ _ (fun x hx => hold x (h.nsz x hx))
  obtain ⟨h1, h2⟩ := h.newObj hb (f := none) (w1 := w.alloc (.cells ⟨vs⟩ ty (0, 0))) (by rw [alloc_size]; omega) hold (h.below.alloc h.hB0 _) (e := .box cs) (p := .box w.heap.size) (O := [w.heap.size])
    ⟨w.heap.size, vs, ty, by simp [Cx.add], rfl, alloc_new w _, hv.le hle⟩ (by simp [h.hB0]) (by simp) (fun k x hx hk => by simp at hx; subst hx; exact Nat.lt_irrefl _ (h.own k _ hk).2)
    (fun x hx => by have hx := hx.mem; simp at hx; subst hx; exact fun hn => Nat.lt_irrefl _ (h.nsz _ hn))
  exact ⟨_, _, h1, h2, fun k hk => hk, by simp [Cx.add], .inr rfl, Org.add (Org.refl w C L []) (fun _ => Iff.rfl) (fun x hx _ => by simp at hx; exact .inl (by omega)) (fun x hx => by simp at hx; exact .inr (by omega))⟩

theorem eff_alloc (hT : TysOk P Γ.ty) (h : Rel B0 w0 σ a w C L) {o : Oper} {t : TypeId} (ho : o.op = .alloc t) {b : Nat} (hb : ∀ k, b ≤ k → k < b + 256 → ¬ C.U k) {K : St → Option Ret} {r : Ret} (hp : effect Γ b o σ K = some r) {Q : Exit → Act → World → Prop} :
    o.wp P a w (Nxt Γ.lend B0 w0 o σ w C L b K r) Q := by
  simp only [effect, ho] at hp
  split at hp
  · rename_i ty ht
    obtain ⟨i, z, h1, h2, h3, h4, h5⟩ := (hT t ty ht).info
    obtain ⟨C', L', g1, g2, g3, g4, g5, g6⟩ := h.newBox (hb b (Nat.le_refl _) (by omega)) (h4 C w) t
    refine wp_val (c := .pointer (some ⟨w.heap.size, 0, none⟩)) (w' := w.alloc (.cells z.cells t (0, 0))) ?_ ⟨⟨_, C', L', hp, g1.put o.dst ?_, g2, fun k hk => ?_, put_nx .., put_len .., put_io .., g6.wid⟩, fun x hx _ => alloc_old w _ x hx, by rw [alloc_size]; exact Nat.le_succ _⟩
    · simp [execOp, ho, Instr.alloc, rt_zero h1 h3, newVar, newRow]
    · exact ⟨g5, rfl, fun b' hb' => by rw [g4] at hb'; cases hb'; rfl⟩
    · rcases g3 k hk with h | rfl
      · exact .inl h
      · exact .inr ⟨Nat.le_refl _, by omega⟩
  · cases hp

theorem eff_box (h : Rel B0 w0 σ a w C L) {o : Oper} {t : TypeId} {y : Operand} (ho : o.op = .box t y) {b : Nat} (hb : ∀ k, b ≤ k → k < b + 256 → ¬ C.U k) {K : St → Option Ret} {r : Ret} (hp : effect Γ b o σ K = some r) {Q : Exit → Act → World → Prop} :
    o.wp P a w (Nxt Γ.lend B0 w0 o σ w C L b K r) Q := by
  simp only [effect, ho] at hp
  split at hp
  · cases hp
  · rename_i vs hvs
    obtain ⟨k1, k2⟩ := (h.ev y).cellsO hvs
    obtain ⟨C', L', g1, g2, g3, g4, g5, g6⟩ := h.newBox (hb b (Nat.le_refl _) (by omega)) k1 t
    refine wp_val (c := .pointer (some ⟨w.heap.size, 0, none⟩)) (w' := w.alloc (.cells ⟨(a.eval y).cells.toList⟩ t (0, 0))) ?_ ⟨⟨_, C', L', hp, g1.put o.dst ?_, g2, fun k hk => ?_, put_nx .., put_len .., put_io .., g6.wid⟩, fun x hx _ => alloc_old w _ x hx, by rw [alloc_size]; exact Nat.le_succ _⟩
    · simp [execOp, ho, Instr.box, newVar, newRow]
    · exact ⟨g5, rfl, fun b' hb' => by rw [g4] at hb'; cases hb'; rfl⟩
    · rcases g3 k hk with h | rfl
      · exact .inl h
      · exact .inr ⟨Nat.le_refl _, by omega⟩

/-- A new row of the frame's own. -/
theorem Rel.newArr (h : Rel B0 w0 σ a w C L) {b : Nat} (hb : ¬ C.U b) {w1 : World} {c : Array Value} {e : TypeId} (hw1 : w1.heap = w.heap.push (.cells c e (0, 0))) (hbel : Below B0 w0 w1) {deep : Bool} {r : Rw} {xs : List r.T} {n cap : Nat} {F : List Nat}
    (hn : n = xs.length) (hcap : n ≤ cap) (hsz : cap * r.n ≤ c.size) (hrow : ∀ w2 : World, w2.heap[w.heap.size]? = some (.cells c e (0, 0)) → (∀ k, k < w.heap.size → w2.heap[k]? = w.heap[k]?) → RowsR (RwR w2 (!deep) r) w2 r.n w.heap.size xs 0 F)
    (hN : ∀ x ∈ F, C.N x) (hF : deep = true → F.Nodup ∧ (∀ x ∈ F, B0 ≤ x) ∧ ∀ k, ∀ x ∈ F, x ∉ L k) :
    ∃ C' L', Rel B0 w0 (σ.setOb b (.arr true deep r xs)) a w1 C' L' ∧ C.Le w C' w1 ∧ (∀ k, C'.U k → C.U k ∨ k = b) ∧ C'.φ b = some (.arr (.slice (some ⟨w.heap.size, 0, none⟩) n cap) r.n) ∧ C'.U b ∧ ∀ {w2 : World} {C0 : Cx} {L0 : Nat → List Nat}, w2.heap.size = w.heap.size → Org w2 C0 L0 [] C L → (∀ x ∈ F, deep = true → ∃ j, x ∈ L0 j) → Org w2 C0 L0 [] C' L' := by
  subst hn
  have hold : ∀ k, k < w.heap.size → w1.heap[k]? = w.heap[k]? := fun k hk => by rw [hw1, Array.getElem?_push, if_neg (by omega)]
  have hnew : w1.heap[w.heap.size]? = some (.cells c e (0, 0)) := by rw [hw1]; simp
  have hs1 : w1.heap.size = w.heap.size + 1 := by rw [hw1]; simp
  have hFsz : ∀ x ∈ F, x < w.heap.size := fun x hx => h.nsz x (hN x hx)
  let O : List Nat := if deep then w.heap.size :: F else [w.heap.size]
  have hO : ∀ x ∈ O, x = w.heap.size ∨ (deep = true ∧ x ∈ F) := by
    intro x hx
    cases deep with
    | true => simp only [O, if_true] at hx; rcases List.mem_cons.1 hx with hx | hx; exact .inl hx; exact .inr ⟨rfl, hx⟩
    | false => simp [O] at hx; exact .inl hx
  obtain ⟨h1, h2⟩ := h.newObj hb (f := none) (w1 := w1) (by omega) hold hbel (e := .arr true deep r xs) (p := .arr (.slice (some ⟨w.heap.size, 0, none⟩) xs.length cap) r.n) (O := O)
    ⟨_, w.heap.size :: F, by simp [Cx.add], .inr ⟨w.heap.size, 0, cap, F, rfl, hcap, rfl, by omega, fun _ => ⟨c, e, hnew, by omega⟩, by simpa using hrow w1 hnew hold⟩, fun x hx => hN x (by simpa using hx), by
      rw [if_pos rfl]; cases deep <;> simp [O]⟩
    (fun x hx => by rcases hO x hx with rfl | ⟨hd, hx⟩; exact ⟨h.hB0, by omega⟩; exact ⟨(hF hd).2.1 x hx, by have := hFsz x hx; omega⟩)
    (by
      cases deep with
      | true => simp only [O, if_true]; exact List.nodup_cons.2 ⟨fun hx => Nat.lt_irrefl _ (hFsz _ hx), (hF rfl).1⟩
      | false => simp [O])
    (fun k x hx hk => by rcases hO x hx with rfl | ⟨hd, hx⟩; exact Nat.lt_irrefl _ (h.own k _ hk).2; exact (hF hd).2.2 k x hx hk)
    (fun x hx hn' => by
      have hx := hx.2
      have : x = w.heap.size := by cases deep <;> simp [O] at hx <;> exact hx.symm
      subst this
      exact Nat.lt_irrefl _ (h.nsz _ hn'))
  refine ⟨_, _, h1, h2, fun k hk => hk, by simp [Cx.add], .inr rfl, fun {w2 C0 L0} hs2 hO2 hF2 => Org.add hO2 (fun _ => Iff.rfl) (fun x hx hn => ?_) (fun x hx => ?_)⟩
  · rcases hO x hx with h | ⟨h, hx⟩
    · exact .inl (by omega)
    · exact absurd (hN x hx) hn
  · rcases hO x hx with h | ⟨h, hx⟩
    · exact .inr (by omega)
    · exact .inl (hF2 x hx h)

end
end Go.Ev
