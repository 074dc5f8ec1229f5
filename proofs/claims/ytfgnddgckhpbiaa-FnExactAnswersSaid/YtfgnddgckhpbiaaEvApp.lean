/- append: the machine does what the evaluator says. -/
import Derived.Test.YtfgnddgckhpbiaaEvWrite
import Derived.Deep.Upon
set_option linter.unusedVariables false
namespace Go.Ev
open Go.RowKit

def Cx.mv (C : Cx) (k b : Nat) (p : Pl) : Cx := { φ := fun j => if j = b then some p else if j = k then none else C.φ j, U := fun k => C.U k ∨ k = b, N := C.N, hs := fun j => if j = b then none else if j = k then none else C.hs j }

section
variable {P : Program} {Γ : Env} {B0 : Nat} {w0 : World} {σ : St} {a : Act} {w : World} {C : Cx} {L : Nat → List Nat}

/-- An object goes over into another one, in a world in which at most its own first block has changed. -/
theorem Rel.become (h : Rel B0 w0 σ a w C L) {k b : Nat} (hb : ¬ C.U b) {w1 : World} (hsz : w.heap.size ≤ w1.heap.size) (hw : ∀ j, j < w.heap.size → (L k).head? ≠ some j → w1.heap[j]? = w.heap[j]?)
    (hm : (σ.obj k).mu = true) (hbel : Below B0 w0 w1) {e : E} {p : Pl} {O : List Nat} (hO : ObR (C.mv k b p) w1 b e O) (hown : ∀ x ∈ O, B0 ≤ x ∧ x < w1.heap.size) (hnd : O.Nodup) (hdj : ∀ j, j ≠ k → ∀ x ∈ O, x ∉ L j)
    (hnm : ∀ x, wr e O x → ¬ C.N x) :
    Rel B0 w0 { σ with ob := (σ.ob.del k).put b e } a w1 (C.mv k b p) (fun j => if j = b then O else if j = k then [] else L j) ∧ C.Le w (C.mv k b p) w1 := by
  have hle : C.Le w (C.mv k b p) w1 := ⟨fun j q hu hq => by
      have : j ≠ b := fun e => hb (e ▸ hu)
      simp only [Cx.mv, this, if_false] at hq
      split at hq
      · cases hq
      · exact hq, fun _ h => .inl h, fun _ h => h, fun x hx => hw x (h.nsz x hx) (fun e => h.nm k x hm e hx), fun j q hu hq => by
      have : j ≠ b := fun e => hb (e ▸ hu)
      simp only [Cx.mv, this, if_false] at hq
      split at hq
      · cases hq
      · exact hq⟩
  refine ⟨?_, hle⟩
  have hob : ∀ j, St.obj { σ with ob := (σ.ob.del k).put b e } j = if j = b then e else if j = k then .no else σ.obj j := fun j => by
    show ((σ.ob.del k).put b e).get j = _
    rw [Obs.get_put, Obs.get_del]; rfl
  refine { below := hbel, hB0 := Nat.le_trans h.hB0 hsz, defers := h.defers, len := h.len, tm := fun i v hv => ?_, ob := fun j => ?_, us := fun j hj => ?_, nd := fun j => ?_, dj := fun j j' hj x hx => ?_, own := fun j x hx => ?_, nw := fun j x hwr => ?_, nsz := fun x hx => Nat.lt_of_lt_of_le (h.nsz x hx) hsz }
  · obtain ⟨c, h1, h2⟩ := h.tm i v hv
    exact ⟨c, h1, h2.le hle⟩
  · rw [hob]
    by_cases hj : j = b
    · subst hj; simpa using hO
    · rw [if_neg hj, if_neg hj]
      by_cases hk : j = k
      · subst hk
        rw [if_pos rfl, if_pos rfl]
        exact rfl
      · rw [if_neg hk, if_neg hk]
        refine (h.ob j).le hle (by simp [Cx.mv, hj, hk]) (by simp [Cx.mv, hj, hk]) (fun x hx => hw x (h.own j x hx).2 (fun e => h.dj j k hk x hx (List.mem_of_mem_head? e)))
  · by_cases hjb : j = b
    · exact .inr hjb
    · simp only [Cx.mv, hjb, if_false] at hj
      split at hj
      · exact absurd rfl hj
      · exact .inl (h.us j hj)
  · show (if j = b then O else if j = k then [] else L j).Nodup
    split
    · exact hnd
    · split
      · exact List.nodup_nil
      · exact h.nd j
  · by_cases h1 : j = b
    · subst h1
      have h2 : j' ≠ j := Ne.symm hj
      simp only [if_true, h2, if_false] at hx ⊢
      split
      · simp
      · rename_i h3; exact hdj j' h3 x hx
    · by_cases h2 : j' = b
      · subst h2
        simp only [h1, if_false, if_true] at hx ⊢
        split at hx
        · cases hx
        · rename_i h3; exact fun hx' => hdj j h3 x hx' hx
      · simp only [h1, h2, if_false] at hx ⊢
        split at hx
        · cases hx
        · split
          · simp
          · exact h.dj j j' hj x hx
  · by_cases h1 : j = b
    · subst h1; simp only [if_true] at hx; exact hown x hx
    · simp only [h1, if_false] at hx
      split at hx
      · cases hx
      · exact ⟨(h.own j x hx).1, Nat.lt_of_lt_of_le (h.own j x hx).2 hsz⟩
  · rw [hob] at hwr
    by_cases h1 : j = b
    · subst h1
      simp only [if_true] at hwr
      exact hnm x hwr
    · simp only [h1, if_false] at hwr
      by_cases h3 : j = k
      · rw [if_pos h3] at hwr
        exact absurd hwr.mem (by rw [if_pos h3]; simp)
      · rw [if_neg h3, if_neg h3] at hwr
        exact h.nw j x hwr

theorem Rel.del (h : Rel B0 w0 σ a w C L) (k : Nat) : Rel B0 w0 { σ with ob := σ.ob.del k } a w C (fun j => if j = k then [] else L j) := by
  have hob : ∀ j, St.obj { σ with ob := σ.ob.del k } j = if j = k then .no else σ.obj j := fun j => by
    show (σ.ob.del k).get j = _
    rw [Obs.get_del]; rfl
  refine { below := h.below, hB0 := h.hB0, defers := h.defers, len := h.len, tm := h.tm, ob := fun j => ?_, us := h.us, nd := fun j => ?_, dj := fun j j' hj x hx => ?_, own := fun j x hx => ?_, nw := fun j x hwr => ?_, nsz := h.nsz }
  · rw [hob]
    by_cases hk : j = k
    · subst hk
      rw [if_pos rfl, if_pos rfl]
      exact rfl
    · rw [if_neg hk, if_neg hk]
      exact h.ob j
  · show (if j = k then [] else L j).Nodup
    split
    · exact List.nodup_nil
    · exact h.nd j
  · split at hx
    · cases hx
    · split
      · simp
      · exact h.dj j j' hj x hx
  · split at hx
    · cases hx
    · exact h.own j x hx
  · rw [hob] at hwr
    by_cases h3 : j = k
    · rw [if_pos h3] at hwr
      exact absurd hwr.mem (by rw [if_pos h3]; simp)
    · rw [if_neg h3, if_neg h3] at hwr
      exact h.nw j x hwr

/-! ### Flat rows meet no blocks -/
theorem Cc.flat_ok {w w' : World} {e e' : Bool} : (c : Cc) → c.flat = true → {d : c.T} → {v : Value} → {F : List Nat} → CcR w e c d v F → F = [] ∧ CcR w' e' c d v F
  | .int _, _, _, _, _, h => ⟨h.2, h⟩
  | .bool, _, _, _, _, h => ⟨h.2, h⟩
  | .str, _, _, _, _, h => ⟨h.2, h⟩
  | .sl r, hf, _, _, _, _ => by simp [Cc.flat] at hf
theorem Rw.flat_ok {w w' : World} {e e' : Bool} : (r : Rw) → r.flat = true → {d : r.T} → {vs : List Value} → {F : List Nat} → RwR w e r d vs F → F = [] ∧ RwR w' e' r d vs F
  | .one c, hf, _, _, _, ⟨v, h1, h2⟩ => ⟨(c.flat_ok (w' := w') (e' := e') hf h2).1, v, h1, (c.flat_ok hf h2).2⟩
  | .cons c r, hf, _, _, _, ⟨v, vs', F1, F2, h1, h2, h3, h4⟩ => by
    simp only [Rw.flat, Bool.and_eq_true] at hf
    obtain ⟨a1, a2⟩ := c.flat_ok (w' := w') (e' := e') hf.1 h3
    obtain ⟨b1, b2⟩ := r.flat_ok (w' := w') (e' := e') hf.2 h4
    exact ⟨by rw [h2, a1, b1]; rfl, v, vs', F1, F2, h1, h2, a2, b2⟩
theorem RowsR.flat {w : World} {e e' : Bool} {r : Rw} (hf : r.flat = true) {n b : Nat} : ∀ {xs : List r.T} {o : Nat} {F : List Nat}, RowsR (RwR w e r) w n b xs o F → F = [] ∧ RowsR (RwR w e' r) w n b xs o F
  | [], _, _, h => ⟨h, h⟩
  | x :: xs, o, F, ⟨vs, F1, F2, hF, hn, hc, hR, hr⟩ => by
    obtain ⟨a1, a2⟩ := r.flat_ok (w' := w) (e' := e') hf hR
    obtain ⟨b1, b2⟩ := RowsR.flat (e' := e') hf hr
    exact ⟨by rw [hF, a1, b1]; rfl, vs, F1, F2, hF, hn, hc, a2, b2⟩

/-- Cells in memory are single cells. -/
theorem CcR.one {w : World} {e : Bool} : (c : Cc) → {d : c.T} → {v : Value} → {F : List Nat} → CcR w e c d v F → v.oneCell' = true
  | .int _, _, _, _, h => by rw [h.1]; rfl
  | .bool, _, _, _, h => by rw [h.1]; rfl
  | .str, _, _, _, h => by rw [h.1]; rfl
  | .sl r, _, _, _, h => by
    rcases h with ⟨_, _, a, cap, rfl, _⟩ | ⟨b, o, cap, F', rfl, _⟩ <;> rfl
theorem RwR.one {w : World} {e : Bool} : (r : Rw) → {d : r.T} → {vs : List Value} → {F : List Nat} → RwR w e r d vs F → ∀ u ∈ vs, u.oneCell' = true
  | .one c, _, _, _, ⟨v, h1, h2⟩, u, hu => by rw [h1] at hu; simp at hu; subst hu; exact h2.one
  | .cons c r, _, _, _, ⟨v, vs', F1, F2, h1, h2, h3, h4⟩, u, hu => by
    rw [h1] at hu
    rcases List.mem_cons.1 hu with rfl | hu
    · exact h3.one
    · exact RwR.one r h4 u hu
theorem RowsD.one {w : World} {e : Bool} {r : Rw} {n : Nat} : ∀ {xs : List r.T} {vs : List Value} {F : List Nat}, RowsD (RwR w e r) n xs vs F → ∀ u ∈ vs, u.oneCell' = true
  | [], _, _, h, u, hu => by rw [h.1] at hu; cases hu
  | x :: xs, _, _, ⟨v1, v2, F1, F2, h1, h2, h3, h4, h5⟩, u, hu => by
    rw [h1] at hu
    rcases List.mem_append.1 hu with hu | hu
    · exact RwR.one r h4 u hu
    · exact RowsD.one h5 u hu

/-- There is room: in the form of a row set anew. -/
theorem run_append_room_row (t tx ty e : TypeId) (i : TypeInfo) (ht : P.underlying t = some (.slice e)) (hi : P.info? e = some i) (b off sLen sCap : Nat) (x : Value) (n : Nat) (news : List Value) (hs : Src P i.size tx x n news w)
    (hroom : sLen + n ≤ sCap) {cur : Array Value} {bt : TypeId} (hb : w.heap[b]? = some (.cells cur bt (0, 0))) (hc : off + sLen * i.size + news.length ≤ cur.size) :
    (Builtin.append_ #[t, tx] ty #[.slice (some ⟨b, off, none⟩) sLen sCap, x]).run P w = .ok (.slice (some ⟨b, off, none⟩) (sLen + n) sCap) (w.setRow b (cur.toList.take (off + sLen * i.size) ++ news ++ cur.toList.drop (off + sLen * i.size + news.length)).toArray) := by
  have hst := run_storeCells_at P b (off + sLen * i.size) bt news 0 cur w hb (by simpa using hc) hs.one
  simp only [Nat.add_zero] at hst
  rcases hs.kind with ⟨e', hk⟩ | hk <;> simp [Builtin.append_, run_underlying ht, run_underlying hk, sizeOf, typeInfo, hi, hs.len, hroom, hs.cells, Addr.add_lit, hst]

/-- What append does to a slice that may be written. -/
theorem app_ok {t tx ty e : TypeId} {i : TypeInfo} {z : Value} (ht : P.underlying t = some (.slice e)) (hi : P.info? e = some i) (hz : i.zero = some z) (hzs : z.cells.size = i.size) (h0 : i.bytes ≠ 0) {r : Rw} (hr : i.size = r.n)
    {q q' : Bool} {xs ys : List r.T} {cv : Value} {F : List Nat} (hF : SlT (RwR w q r) w false r.n xs cv F) {x : Value} {news : List Value} {G : List Nat} (hs : Src P i.size tx x ys.length news w) (hD : RowsD (RwR w q' r) r.n ys news G)
    (hbound : (xs.length + ys.length) * i.bytes ≤ 140737488355328) (hFG : ∀ x ∈ F.drop 1 ++ G, x < w.heap.size ∧ F.head? ≠ some x) (hbel : Below B0 w0 w) (hB0 : B0 ≤ w.heap.size) (hFB : ∀ g, F.head? = some g → B0 ≤ g) :
    ∃ w1 cv1 F1, (Builtin.append_ #[t, tx] ty #[cv, x]).run P w = .ok cv1 w1 ∧ w.heap.size ≤ w1.heap.size ∧ (∀ j, j < w.heap.size → F.head? ≠ some j → w1.heap[j]? = w.heap[j]?) ∧ Below B0 w0 w1 ∧
      SlT (RwR w1 (q || q') r) w1 false r.n (xs ++ ys) cv1 F1 ∧ F1.drop 1 = F.drop 1 ++ G ∧ ∀ g, F1.head? = some g → F.head? = some g ∨ (g = w.heap.size ∧ g < w1.heap.size) := by
  by_cases hy : ys = []
  · subst hy
    obtain ⟨hn, hG⟩ := hD
    subst hn; subst hG
    refine ⟨w, cv, F, ?_, Nat.le_refl _, fun _ _ _ => rfl, hbel, ?_, by simp, fun g hg => .inl hg⟩
    · obtain ⟨ad, cap, hcv, hcap⟩ : ∃ ad cap, cv = .slice ad xs.length cap ∧ xs.length ≤ cap := by
        rcases hF with ⟨h1, _, ad, cap, h2, _⟩ | ⟨b, o, cap, F', h1, h2, _⟩
        · exact ⟨ad, cap, by rw [h1]; exact h2, by rw [h1]; simp⟩
        · exact ⟨_, cap, h1, h2⟩
      rw [hcv]
      exact run_append_nothing w t tx ty e i ht hi ad xs.length cap hcap x hs
    · rw [List.append_nil]
      exact hF.imp (fun h => h) (fun _ _ => rfl) (fun x vs F' _ hR => RwR.imp (by cases q <;> simp) r hR (fun _ _ => rfl))
  · have hny : 0 < ys.length := List.length_pos_iff.2 hy
    have hnl := hD.len
    -- growing
    have grow : ∀ (base : Option Addr) (cap : Nat) (olds : List Value), cv = .slice base xs.length cap → cap < xs.length + ys.length → RowsD (RwR w q r) r.n xs olds (F.drop 1) →
        (Builtin.firstCells i.size xs.length (.slice base xs.length cap)).run P w.drew = .ok olds.toArray w.drew → ∃ w1 cv1 F1, (Builtin.append_ #[t, tx] ty #[cv, x]).run P w = .ok cv1 w1 ∧ w.heap.size ≤ w1.heap.size ∧ (∀ j, j < w.heap.size → F.head? ≠ some j → w1.heap[j]? = w.heap[j]?) ∧ Below B0 w0 w1 ∧
      SlT (RwR w1 (q || q') r) w1 false r.n (xs ++ ys) cv1 F1 ∧ F1.drop 1 = F.drop 1 ++ G ∧ ∀ g, F1.head? = some g → F.head? = some g ∨ (g = w.heap.size ∧ g < w1.heap.size) := by
      intro base cap olds hcv hlt hOD hfirst
      have hneed : xs.length + ys.length ≤ (xs.length + ys.length) * i.bytes := Nat.le_mul_of_pos_right _ (by omega)
      have hrun := run_append_grow_src w t tx ty e i z ht hi hz base xs.length cap olds hfirst x ys.length news hs hlt (by have := Nat.le_trans hneed hbound; omega) (growslice_fits hlt hbound)
      have hge := grownCap_ge w (xs.length + ys.length) cap e
      let cs : Array Value := (olds ++ news).toArray ++ Builtin.zeroCells z.cells (grownCap w (xs.length + ys.length) cap e - (xs.length + ys.length))
      have hol := hOD.len
      have hnew : (w.drew.alloc (.cells cs e (0, 0))).heap[w.heap.size]? = some (.cells cs e (0, 0)) := alloc_new w.drew _
      have hold : ∀ j, j < w.heap.size → (w.drew.alloc (.cells cs e (0, 0))).heap[j]? = w.heap[j]? := fun j hj => alloc_old w.drew _ j hj
      refine ⟨_, _, w.heap.size :: (F.drop 1 ++ G), by rw [hcv]; exact hrun, by rw [alloc_size]; exact Nat.le_succ _, fun j hj _ => hold j hj, (hbel.drew).alloc hB0 _, ?_, rfl, fun g hg => .inr ?_⟩
      · refine .inr ⟨w.heap.size, 0, _, F.drop 1 ++ G, by rw [List.length_append], by rw [List.length_append]; exact hge, rfl, by rw [alloc_size]; exact Nat.lt_succ_self _, fun _ => ⟨cs, e, hnew, ?_⟩, ?_⟩
        · have h1 : cs.size = (olds.length + news.length) + (grownCap w (xs.length + ys.length) cap e - (xs.length + ys.length)) * z.cells.size := by
            simp [cs, size_zeroCells]
          rw [h1, hzs, hr, hol, hnl, Nat.zero_add, ← Nat.add_mul, ← Nat.add_mul]
          apply Nat.mul_le_mul_right
          omega
        · have hD2 : RowsD (RwR (w.drew.alloc (.cells cs e (0, 0))) (q || q') r) r.n (xs ++ ys) (olds ++ news) (F.drop 1 ++ G) := by
            refine RowsD.append (hOD.imp (fun x vs F' hk hR => RwR.imp (by cases q <;> simp) r hR (fun b hb => hold b (hFG b (List.mem_append.2 (.inl (hk b hb)))).1))) (hD.imp (fun x vs F' hk hR => RwR.imp (by cases q <;> cases q' <;> simp) r hR (fun b hb => hold b (hFG b (List.mem_append.2 (.inr (hk b hb)))).1)))
          refine hD2.rows (fun j v hj => ?_)
          simp only [World.cell?, hnew, Nat.zero_add, cs]
          have hlt' : j < (olds ++ news).length := by
            rcases Nat.lt_or_ge j (olds ++ news).length with h | h
            · exact h
            · rw [List.getElem?_eq_none h] at hj; cases hj
          rw [Array.getElem?_append_left (by simpa using hlt')]
          simpa using hj
      · simp at hg
        exact ⟨hg.symm, by rw [← hg, alloc_size]; exact Nat.lt_succ_self _⟩
    rcases hF with ⟨h1, h2, ad, cap, h3, h4⟩ | ⟨b, o, cap, F', h1, h2, h3, h4, h5, h6⟩
    · obtain ⟨rfl, rfl⟩ := h4 rfl
      subst h1; subst h2
      exact grow none 0 [] h3 (by simpa using hny) ⟨rfl, rfl⟩ (by simp [run_firstCells_none])
    · subst h3
      obtain ⟨olds, hOD, hcells⟩ := h6.data
      have hol := hOD.len
      obtain ⟨cur, bt, hb, hcs⟩ := h5 rfl
      by_cases hroom : xs.length + ys.length ≤ cap
      · have hsp : o + xs.length * i.size + news.length ≤ cur.size := by
          rw [hr, hnl]
          have := Nat.mul_le_mul_right r.n hroom
          rw [Nat.add_mul] at this
          omega
        have hrun := run_append_room_row (w := w) t tx ty e i ht hi b o xs.length cap x ys.length news hs hroom hb hsp
        have hM : xs.length * i.size = olds.length := by rw [hr, hol]
        rw [hM] at hrun hsp
        let new : List Value := cur.toList.take (o + olds.length) ++ news ++ cur.toList.drop (o + olds.length + news.length)
        have hset := setRow_heap w b cur new.toArray bt (0, 0) hb
        have hw : ∀ j, j ≠ b → (w.setRow b new.toArray).heap[j]? = w.heap[j]? := fun j hj => setRow_other w b j _ hj
        have hG : ∀ x ∈ F' ++ G, (w.setRow b new.toArray).heap[x]? = w.heap[x]? := fun x hx => hw x (fun e => (hFG x (by simpa using hx)).2 (by rw [e]; rfl))
        have hnewl : new.length = cur.size := by simp only [new, List.length_append, List.length_take, List.length_drop, Array.length_toList]; omega
        refine ⟨_, _, b :: (F' ++ G), by rw [h1]; exact hrun, by simp [World.setRow], fun j hj hne => hw j (fun e => hne (by rw [e]; rfl)), Below.setRow' hbel (hFB b rfl) _, ?_, by simp, fun g hg => .inl (by simpa using hg)⟩
        refine .inr ⟨b, o, cap, F' ++ G, by rw [List.length_append], by rw [List.length_append]; exact hroom, rfl, by simpa [World.setRow] using h4, fun _ => ⟨new.toArray, bt, hset, by simp only [List.size_toArray, hnewl]; omega⟩, ?_⟩
        have hD2 : RowsD (RwR (w.setRow b new.toArray) (q || q') r) r.n (xs ++ ys) (olds ++ news) (F' ++ G) := by
          refine RowsD.append (hOD.imp (fun x vs F1 hk hR => RwR.imp (by cases q <;> simp) r hR (fun b hb => hG b (by simp [hk b hb])))) (hD.imp (fun x vs F1 hk hR => RwR.imp (by cases q <;> cases q' <;> simp) r hR (fun b hb => hG b (by simp [hk b hb]))))
        refine hD2.rows (fun j v hj => ?_)
        simp only [World.cell?, hset]
        show new.toArray[o + j]? = some v
        by_cases hjl : j < olds.length
        · rw [List.getElem?_append_left hjl] at hj
          have := hcells j v hj
          simp only [World.cell?, hb] at this
          simp only [new, List.getElem?_toArray]
          rw [List.append_assoc, List.getElem?_append_left (by simp only [List.length_take, Array.length_toList]; omega), List.getElem?_take, if_pos (by omega)]
          rw [Array.getElem?_toList]
          simpa using this
        · rw [List.getElem?_append_right (by omega)] at hj
          have hjn : j - olds.length < news.length := by
            rcases Nat.lt_or_ge (j - olds.length) news.length with h | h
            · exact h
            · rw [List.getElem?_eq_none h] at hj; cases hj
          simp only [new, List.getElem?_toArray]
          rw [List.append_assoc, List.getElem?_append_right (by simp only [List.length_take, Array.length_toList]; omega), List.getElem?_append_left (by simp only [List.length_take, Array.length_toList]; omega), ← hj]
          congr 1
          simp only [List.length_take, Array.length_toList]; omega
      · refine grow _ cap olds h1 (by omega) (by simpa using hOD) ?_
        exact run_firstCells_some w.drew i.size xs.length ⟨b, o, none⟩ xs.length cap olds (by rw [hol, hr]) (fun j v hj => by simpa [add_at] using hcells j v hj)

theorem arr_from {C : Cx} {L : Nat → List Nat} {k : Nat} {F : List Nat} {mu deep : Bool} (hN : ∀ b ∈ F.drop 1, C.N b) (hO : if mu = true then (if deep = true then L k = F else L k = F.take 1) else L k = [] ∧ ∀ b ∈ F, C.N b) : ∀ b ∈ F, C.N b ∨ ∃ k, b ∈ L k := by
  intro b hb
  cases mu with
  | false => rw [if_neg (by simp)] at hO; exact .inl (hO.2 b hb)
  | true =>
    rw [if_pos rfl] at hO
    cases F with
    | nil => cases hb
    | cons f F =>
      rcases List.mem_cons.1 hb with rfl | hb
      · refine .inr ⟨k, ?_⟩
        split at hO <;> rw [hO] <;> simp
      · exact .inl (hN b (by simpa using hb))
/-- The data behind a slice value. -/
theorem rows_ok (h : Rel B0 w0 σ a w C L) {u : V} {cu : Value} (hv : VR C w u cu) {r : Rw} {ys : List r.T} (hy : rowsOf r σ u = some ys) :
    ∃ q F, SlT (RwR w q r) w true r.n ys cu F ∧ (∀ b ∈ F.drop 1, C.N b) ∧ (∀ k r' xs', u = .w k → σ.obj k = .arr true true r' xs' → q = false ∧ L k = F) ∧
      ((∀ k, (u = .w k ∨ ∃ off len, u = .r k off len) → (σ.obj k).mu = false) → ∀ b ∈ F, C.N b) ∧ ∀ b ∈ F, C.N b ∨ ∃ k, b ∈ L k := by
  unfold rowsOf at hy
  split at hy
  · cases hy
    exact ⟨true, [], .inl ⟨rfl, rfl, none, 0, hv, fun h => (nomatch h)⟩, fun _ h => (nomatch h), fun k r' xs' e => (nomatch e), (fun _ _ h => (nomatch h)), fun _ h => (nomatch h)⟩
  · rename_i o r' xs
    split at hy
    · rename_i hr
      subst hr
      cases hy
      obtain ⟨F, h1, h2⟩ := hv
      exact ⟨true, F, h1, fun b hb => h2 b (List.mem_of_mem_drop hb), fun k r'' xs' e => (nomatch e), fun _ => h2, fun b hb => .inl (h2 b hb)⟩
    · cases hy
  · rename_i k
    split at hy
    · rename_i mu deep r' xs eo
      split at hy
      · rename_i hr
        subst hr
        cases hy
        obtain ⟨cv, F, hφ, hF, hN, hO⟩ := h.arr eo
        refine ⟨!(mu && deep), F, ?_, hN, fun k' r'' xs' e e' => ?_, fun hm => ?_, arr_from hN hO⟩
        · rw [hv.2.2 cv _ hφ]
          exact hF.imp (fun h => by cases h) (fun _ _ => rfl) (fun _ _ _ _ h => h)
        · cases e
          rw [eo] at e'
          injection e' with e1 e2
          subst e1; subst e2
          exact ⟨rfl, by simpa using hO⟩
        · have hm' := hm k (.inl rfl)
          rw [eo] at hm'
          simp only [E.mu] at hm'
          subst hm'
          rw [if_neg (by simp)] at hO
          exact hO.2
      · cases hy
    · cases hy
  · rename_i k off len
    split at hy
    · rename_i mu deep r' xs eo
      split at hy
      · rename_i hr
        subst hr
        cases hy
        obtain ⟨cv, F, hφ, hF, hN, hO⟩ := h.arr eo
        obtain ⟨ad, Ln, cap, cap', ec, hle, a', ey, hne⟩ := hv.2.2 cv _ hφ
        refine ⟨!(mu && deep), ?_⟩
        by_cases hz : len = 0
        · subst hz
          exact ⟨[], .inl ⟨by simp, rfl, a', cap', ey, fun h => (nomatch h)⟩, fun _ h => (nomatch h), fun k r'' xs' e => (nomatch e), (fun _ _ h => (nomatch h)), fun _ h => (nomatch h)⟩
        · obtain ⟨b, o, e3, e4, e5⟩ := hne hz
          rw [ec] at hF
          rcases hF with ⟨h5, _, _, _, h6, _⟩ | ⟨b', o', cap2, F', h5, h6, h7, h8, h9, h10⟩
          · injection h6 with _ e6 _; omega
          · injection h5 with e6 e7 e8
            rw [e3] at e6
            injection e6 with e6; injection e6 with e6 e9
            subst e6; subst e9; subst e7; subst e8
            obtain ⟨F1, g1, g2⟩ := h10.drop off (by omega)
            obtain ⟨F2, g3, g4⟩ := g2.take len
            have hl : ((xs.drop off).take len).length = len := by simp; omega
            refine ⟨b :: F2, .inr ⟨b, o + off * r'.n, cap', F2, by rw [hl, ey, e4], by rw [hl]; omega, rfl, h8, fun h => (nomatch h), g4⟩, fun x hx => hN x (by rw [h7]; simpa using g1 x (g3 x (by simpa using hx))), fun k r'' xs' e => (nomatch e), fun hm x hx => ?_, fun x hx => arr_from hN hO x (by
              rw [h7]
              rcases List.mem_cons.1 hx with rfl | hx
              · simp
              · exact List.mem_cons_of_mem _ (g1 x (g3 x hx)))⟩
            have hm' := hm k (.inr ⟨off, len, rfl⟩)
            rw [eo] at hm'
            simp only [E.mu] at hm'
            subst hm'
            rw [if_neg (by simp)] at hO
            refine hO.2 x ?_
            rw [h7]
            rcases List.mem_cons.1 hx with rfl | hx
            · simp
            · exact List.mem_cons_of_mem _ (g1 x (g3 x hx))
      · cases hy
    · cases hy
  · cases hy

theorem RowsD.flat {w w' : World} {e e' : Bool} {r : Rw} (hf : r.flat = true) {n : Nat} : ∀ {xs : List r.T} {vs : List Value} {F : List Nat}, RowsD (RwR w e r) n xs vs F → F = [] ∧ RowsD (RwR w' e' r) n xs vs []
  | [], _, _, h => ⟨h.2, h.1, rfl⟩
  | x :: xs, _, _, ⟨v1, v2, F1, F2, h1, h2, h3, h4, h5⟩ => by
    obtain ⟨a1, a2⟩ := r.flat_ok (w' := w') (e' := e') hf h4
    obtain ⟨b1, b2⟩ := RowsD.flat (w' := w') (e' := e') hf h5
    subst a1; subst b1
    exact ⟨by rw [h2]; rfl, v1, v2, [], [], h1, rfl, h3, a2, b2⟩

theorem slt_src {q e : Bool} {r : Rw} {ys : List r.T} {cu : Value} {F : List Nat} (h : SlT (RwR w q r) w e r.n ys cu F) {tu e' : TypeId} (hk : P.underlying tu = some (.slice e')) :
    ∃ news, Src P r.n tu cu ys.length news w ∧ RowsD (RwR w q r) r.n ys news (F.drop 1) := by
  rcases h with ⟨rfl, rfl, ad, cap, rfl, _⟩ | ⟨b, o, cap, F', rfl, _, rfl, _, _, h6⟩
  · refine ⟨[], ?_, rfl, rfl⟩
    cases ad with
    | none => exact Src.ofNil w hk cap
    | some ad => exact Src.ofSlice w hk ad 0 cap [] (by simp) (fun j u hj => by simp at hj) (fun u hu => (nomatch hu))
  · obtain ⟨news, h7, h8⟩ := h6.data
    exact ⟨news, Src.ofSlice w hk ⟨b, o, none⟩ ys.length cap news h7.len (fun j u hj => by rw [add_at]; exact h8 j u hj) (fun u hu => h7.one u hu), h7⟩

/-- What taking a source away leaves. -/
structure Took (B0 : Nat) (w0 : World) (σ : St) (a : Act) (w : World) (C : Cx) (L : Nat → List Nat) (ob' : Obs) (p : Bool) (F : List Nat) (C' : Cx) (L' : Nat → List Nat) : Prop where
  rel : Rel B0 w0 { σ with ob := ob' } a w C' L'
  le : C.Le w C' w
  U : C'.U = C.U
  sub : ∀ k, ∀ b ∈ L' k, b ∈ L k
  N : ∀ b ∈ F, C'.N b
  nd : p = true → F.Nodup
  from_ : p = true → ∀ b ∈ F, ∃ k, b ∈ L k
  off : p = true → ∀ b ∈ F, ∀ k, b ∉ L' k
  mus : ∀ k, (St.obj { σ with ob := ob' } k).mu = true → σ.obj k = St.obj { σ with ob := ob' } k ∧ L' k = L k
  eqn : ∀ k, L' k = L k ∨ L' k = []
  nn : ∀ x, C'.N x → C.N x
theorem Took.refl (h : Rel B0 w0 σ a w C L) (p : Bool) : Took B0 w0 σ a w C L σ.ob p [] C L :=
  ⟨h, Cx.Le.refl C w, rfl, fun _ _ h => h, fun _ h => (nomatch h), fun _ => List.nodup_nil, fun _ _ h => (nomatch h), fun _ _ h => (nomatch h), fun _ _ => ⟨rfl, rfl⟩, fun _ => .inl rfl, fun _ h => h⟩
theorem Took.same (h : Rel B0 w0 σ a w C L) {F : List Nat} (hN : ∀ b ∈ F, C.N b) : Took B0 w0 σ a w C L σ.ob false F C L :=
  ⟨h, Cx.Le.refl C w, rfl, fun _ _ h => h, hN, fun h => (nomatch h), fun h => (nomatch h), fun h => (nomatch h), fun _ _ => ⟨rfl, rfl⟩, fun _ => .inl rfl, fun _ h => h⟩
theorem Took.org {ob' : Obs} {p : Bool} {F : List Nat} {C' : Cx} {L' : Nat → List Nat} (h : Took B0 w0 σ a w C L ob' p F C' L') (T : List Nat) : Org w C L T C' L' := Org.same h.eqn (fun x hx => .inl (h.nn x hx))

theorem src_ok (h : Rel B0 w0 σ a w C L) {u : V} {cu : Value} (hv : VR C w u cu) {r : Rw} {ys : List r.T} (hy : rowsOf r σ u = some ys) {tu e' : TypeId} (hk : P.underlying tu = some (.slice e')) :
    ∃ news G C' L', Src P r.n tu cu ys.length news w ∧ RowsD (RwR w (!(ownSrc r u σ).1) r) r.n ys news G ∧ Took B0 w0 σ a w C L (ownSrc r u σ).2 (ownSrc r u σ).1 G C' L' := by
  obtain ⟨q, F, hF, hN, hd, hd0, hd1⟩ := rows_ok h hv hy
  obtain ⟨news, hs, hD⟩ := slt_src hF hk
  unfold ownSrc
  have weak : ∃ news G C' L', Src P r.n tu cu ys.length news w ∧ RowsD (RwR w (!false) r) r.n ys news G ∧ Took B0 w0 σ a w C L σ.ob false G C' L' :=
    ⟨news, F.drop 1, C, L, hs, hD.imp (fun x vs F' _ hR => RwR.imp (by simp) r hR (fun _ _ => rfl)), Took.same h hN⟩
  by_cases hf : r.flat = true
  · rw [if_pos hf]
    exact ⟨news, [], C, L, hs, (RowsD.flat hf hD).2, Took.refl h _⟩
  · rw [if_neg hf]
    split
    · rename_i k
      split
      · rename_i r' xs' eo
        obtain ⟨rfl, hL⟩ := hd k r' xs' rfl eo
        have hob : ∀ j, St.obj { σ with ob := σ.ob.del k } j = if j = k then .no else σ.obj j := fun j => by
          show (σ.ob.del k).get j = _
          rw [Obs.get_del]; rfl
        refine ⟨news, F.drop 1, C, _, hs, hD, h.del k, Cx.Le.refl C w, rfl, fun j b hb => ?_, hN, fun _ => ?_, fun _ b hb => ⟨k, by rw [hL]; exact List.mem_of_mem_drop hb⟩, fun _ b hb j hj => ?_, fun j hm => ?_, fun j => ?_, fun _ h => h⟩
        · split at hb
          · cases hb
          · exact hb
        · have := h.nd k
          rw [hL] at this
          exact this.sublist (List.drop_sublist 1 F)
        · split at hj
          · cases hj
          · rename_i hjk
            exact h.dj k j (Ne.symm hjk) b (by rw [hL]; exact List.mem_of_mem_drop hb) hj
        · rw [hob] at hm ⊢
          by_cases hjk : j = k
          · rw [if_pos hjk] at hm; simp [E.mu] at hm
          · rw [if_neg hjk, if_neg hjk]; exact ⟨rfl, rfl⟩
        · by_cases hjk : j = k
          · exact .inr (by rw [if_pos hjk])
          · exact .inl (by rw [if_neg hjk])
      · exact weak
    · have : ys = [] := by simp [rowsOf] at hy; exact hy
      subst this
      obtain ⟨hn, hG⟩ := hD
      subst hn
      exact ⟨[], [], C, L, hs, ⟨rfl, rfl⟩, Took.refl h _⟩
    · exact weak

theorem eff_append (hT : TysOk P Γ.ty) (h : Rel B0 w0 σ a w C L) {o : Oper} {c : Call} (ho : o.op = .call c) (hc : c.callee = .builtin .append) {b : Nat} (hb : ∀ k, b ≤ k → k < b + 256 → ¬ C.U k) {K : St → Option Ret} {r : Ret} (hp : effect Γ b o σ K = some r) {Q : Exit → Act → World → Prop} :
    o.wp P a w (Nxt Γ.lend B0 w0 o σ w C L b K r) Q := by
  simp only [effect, ho, hc] at hp
  split at hp
  · rename_i y z t u hargs htys
    split at hp
    · rename_i ty tu hty htu
      split at hp
      · rename_i hcond
        simp only [Bool.and_eq_true, decide_eq_true_eq, Bool.not_eq_true'] at hcond
        obtain ⟨⟨⟨hsl, hslu⟩, hrow⟩, hbz⟩ := hcond
        have hbz' : ty.bytes ≠ 0 := fun e => by rw [e] at hbz; cases hbz
        obtain ⟨e, hu, i, zv, hi, hn, hby, hz, hzs, _⟩ := (hT t ty hty).sl hsl
        obtain ⟨eu, huu, _⟩ := (hT u tu htu).sl hslu
        have hav : c.args = #[y, z] := by rw [← Array.toList_inj]; exact hargs
        have htv : c.argTypes = #[t, u] := by rw [← Array.toList_inj]; exact htys
        have hvy := h.ev y
        have hvz := h.ev z
        have hexec : ∀ w', (execOp a.eval o).run P w' = (do let v ← Builtin.append_ #[t, u] o.type #[a.eval y, a.eval z]; pure (.value v) : Sem Next).run P w' := fun w' => by
          simp [execOp, ho, hc, hav, htv, resolve, invoke, builtin]
        unfold appendTo at hp
        split at hp
        · cases hp
        · rename_i ys hys
          obtain ⟨news, G, C1, L1, hs, hD, tk⟩ := src_ok h hvz hys huu
          split at hp
          · -- onto nil
            rename_i ey
            rw [ey] at hvy
            have evy : a.eval y = .slice none 0 0 := hvy
            cases hcnd : Nat.ble (ys.length * ty.bytes) boundBytes with
            | false => rw [hcnd] at hp; cases hp
            | true =>
              rw [hcnd] at hp
              have hbound : ys.length * ty.bytes ≤ 140737488355328 := Nat.le_of_ble_eq_true hcnd
              rw [← hn] at hs
              obtain ⟨w1, cv1, F1, r1, r2, r3, r4, r5, r6, r7⟩ := app_ok (w0 := w0) (ty := o.type) hu hi hz (by rw [hzs, hn]) (by rw [hby]; exact hbz') hn (q := false) (xs := []) (F := []) (cv := .slice none 0 0)
                (.inl ⟨rfl, rfl, none, 0, rfl, fun _ => ⟨rfl, rfl⟩⟩) hs hD (by simpa [hby] using hbound) (fun x hx => ⟨tk.rel.nsz x (tk.N x (by simpa using hx)), by simp⟩) h.below h.hB0 (fun g hg => (nomatch hg))
              have hbU : ¬ C1.U b := by rw [tk.U]; exact hb b (Nat.le_refl _) (by omega)
              have hG1 : F1.drop 1 = G := by simpa using r6
              have hhead : ∀ g, F1.head? = some g → g = w.heap.size ∧ g < w1.heap.size := fun g hg => by
                rcases r7 g hg with h | h
                · cases h
                · exact h
              have hold : ∀ j, j < w.heap.size → w1.heap[j]? = w.heap[j]? := fun j hj => r3 j hj (by simp)
              obtain ⟨O, hOd⟩ : ∃ O : List Nat, O = if (ownSrc ty.row (σ.ev z) σ).1 then F1 else F1.take 1 := ⟨_, rfl⟩
              have hOm : ∀ x ∈ O, (x = w.heap.size ∧ x < w1.heap.size) ∨ ((ownSrc ty.row (σ.ev z) σ).1 = true ∧ x ∈ G) := by
                intro x hx
                rw [hOd] at hx
                cases F1 with
                | nil => simp at hx
                | cons g F1 =>
                  simp only [List.drop_one, List.tail_cons] at hG1
                  subst hG1
                  split at hx
                  · rename_i hp1
                    rcases List.mem_cons.1 hx with rfl | hx
                    · exact .inl (hhead _ rfl)
                    · exact .inr ⟨hp1, hx⟩
                  · simp at hx; subst hx; exact .inl (hhead _ rfl)
              have hOh : ∀ x, O.head? = some x → x = w.heap.size := by
                intro x hx
                rw [hOd] at hx
                cases F1 with
                | nil => simp at hx
                | cons g F1 =>
                  have := (hhead g rfl).1
                  subst this
                  split at hx <;> simp at hx <;> exact hx.symm
              have hnd : O.Nodup := by
                rw [hOd]
                cases F1 with
                | nil => simp
                | cons g F1 =>
                  simp only [List.drop_one, List.tail_cons] at hG1
                  subst hG1
                  split
                  · rename_i hp1
                    refine List.nodup_cons.2 ⟨fun hx => ?_, tk.nd hp1⟩
                    have := (hhead g rfl).1
                    have := tk.rel.nsz g (tk.N g hx)
                    omega
                  · simp
              obtain ⟨g1, g2⟩ := tk.rel.newObj hbU (f := none) (w1 := w1) r2 hold r4 (e := .arr true (ownSrc ty.row (σ.ev z) σ).1 ty.row ys) (p := .arr cv1 ty.row.n) (O := O)
                ⟨cv1, F1, by simp [Cx.add], by simpa using r5, fun x hx => tk.N x (by rw [← hG1]; exact hx), by rw [if_pos rfl, hOd]; split <;> rfl⟩
                (fun x hx => by
                  rcases hOm x hx with ⟨h1, h2⟩ | ⟨h1, h2⟩
                  · exact ⟨by rw [h1]; exact h.hB0, h2⟩
                  · obtain ⟨k', hk'⟩ := tk.from_ h1 x h2
                    exact ⟨(h.own k' x hk').1, Nat.lt_of_lt_of_le (h.own k' x hk').2 r2⟩)
                hnd (fun k x hx hk => by
                  rcases hOm x hx with ⟨h1, h2⟩ | ⟨h1, h2⟩
                  · have := (tk.rel.own k x hk).2; omega
                  · exact tk.off h1 x h2 k hk)
                (fun x hx hn' => by have := tk.rel.nsz x hn'; have := hOh x hx.2; omega)
              refine wp_val (c := cv1) (w' := w1) ?_ ⟨⟨_, _, _, hp, g1.put o.dst ⟨.inr rfl, ?_, fun cv' n' hφ' => ?_⟩, tk.le.trans g2, fun k hk => ?_, put_nx .., put_len .., put_io .., Org.add (tk.org _) (fun _ => Iff.rfl) (fun x hx hn => by
                rcases hOm x hx with ⟨h1, _⟩ | ⟨_, h2⟩
                · exact .inl (by rw [h1]; exact Nat.le_refl _)
                · exact absurd (tk.N x h2) hn) (fun x hx => ?_)⟩, fun x hx _ => hold x hx, r2⟩
              · rw [hexec, evy]; exact run_v2 _ r1
              · obtain ⟨ad, cap, e1⟩ := slice_of r5; rw [e1]; rfl
              · simp [Cx.add] at hφ'; exact hφ'.1
              · rcases hk with hk | rfl
                · rw [tk.U] at hk; exact .inl hk
                · exact .inr ⟨Nat.le_refl _, by omega⟩
              · rcases hOm x hx with ⟨h1, h2⟩ | ⟨h1, h2⟩
                · exact .inr (by rw [h1]; exact Nat.le_refl _)
                · exact .inl (tk.from_ h1 x h2)
          · rename_i k ey
            rw [ey] at hvy
            split at hp
            · rename_i deep r' xs eo
              split at hp
              · rename_i hr
                subst hr
                simp only at hp
                cases hcnd : Nat.ble ((xs.length + ys.length) * ty.bytes) boundBytes with
                | false => rw [hcnd] at hp; cases hp
                | true =>
                  rw [hcnd] at hp
                  have hbound : (xs.length + ys.length) * ty.bytes ≤ 140737488355328 := Nat.le_of_ble_eq_true hcnd
                  have eo' : St.obj { σ with ob := (ownSrc ty.row (σ.ev z) σ).2 } k = .arr true deep ty.row xs := eo
                  obtain ⟨cv, F, hφ, hF, hN, hO⟩ := tk.rel.arr eo'
                  obtain ⟨mu1, mu2⟩ := tk.mus k (by rw [eo']; rfl)
                  have evy : a.eval y = cv := (hvy.le tk.le).2.2 cv _ hφ
                  have hhF : ∀ g, F.head? = some g → (L1 k).head? = some g := fun g hg => by
                    rw [if_pos rfl] at hO
                    cases F with
                    | nil => cases hg
                    | cons f F => split at hO <;> rw [hO] <;> simpa using hg
                  have hFh : ∀ g, (L1 k).head? = some g → F.head? = some g := fun g hg => by
                    rw [if_pos rfl] at hO
                    cases F with
                    | nil => split at hO <;> rw [hO] at hg <;> simp at hg
                    | cons f F => split at hO <;> rw [hO] at hg <;> simpa using hg
                  have hnmF : ∀ g, F.head? = some g → ¬ C1.N g := fun g hg => tk.rel.nm k g (by rw [eo']; rfl) (hhF g hg)
                  have hDN : ∀ x ∈ F.drop 1 ++ G, C1.N x := fun x hx => by
                    rcases List.mem_append.1 hx with hx | hx
                    · exact hN x hx
                    · exact tk.N x hx
                  rw [← hn] at hs
                  obtain ⟨w1, cv1, F1, r1, r2, r3, r4, r5, r6, r7⟩ := app_ok (w0 := w0) (ty := o.type) hu hi hz (by rw [hzs, hn]) (by rw [hby]; exact hbz') hn hF hs hD (by rw [hby]; exact hbound)
                    (fun x hx => ⟨tk.rel.nsz x (hDN x hx), fun e => hnmF x e (hDN x hx)⟩) h.below h.hB0 (fun g hg => (tk.rel.own k g (List.mem_of_mem_head? (hhF g hg))).1)
                  have hbU : ¬ C1.U b := by rw [tk.U]; exact hb b (Nat.le_refl _) (by omega)
                  obtain ⟨d, hdd⟩ : ∃ d, d = (deep && (ownSrc ty.row (σ.ev z) σ).1) := ⟨_, rfl⟩
                  have hdt : d = true → deep = true ∧ (ownSrc ty.row (σ.ev z) σ).1 = true := fun e => by rw [hdd] at e; simpa using e
                  have hq : (!(true && deep) || !(ownSrc ty.row (σ.ev z) σ).1) = !(true && d) := by rw [hdd]; cases deep <;> cases (ownSrc ty.row (σ.ev z) σ).1 <;> rfl
                  rw [hq] at r5
                  have hold : ∀ j, j < w.heap.size → (L1 k).head? ≠ some j → w1.heap[j]? = w.heap[j]? := fun j hj hne => r3 j hj (fun e => hne (hhF j e))
                  obtain ⟨O, hOd⟩ : ∃ O : List Nat, O = if d then F1 else F1.take 1 := ⟨_, rfl⟩
                  have hOm : ∀ x ∈ O, F1.head? = some x ∨ (d = true ∧ x ∈ F.drop 1 ++ G) := by
                    intro x hx
                    rw [hOd] at hx
                    cases F1 with
                    | nil => simp at hx
                    | cons g F1 =>
                      simp only [List.drop_one, List.tail_cons] at r6
                      split at hx
                      · rename_i hp1
                        rcases List.mem_cons.1 hx with rfl | hx
                        · exact .inl rfl
                        · exact .inr ⟨hp1, by rw [r6] at hx; simpa using hx⟩
                      · simp at hx; subst hx; exact .inl rfl
                  have hOh : ∀ x, O.head? = some x → F1.head? = some x := by
                    intro x hx
                    rw [hOd] at hx
                    cases F1 with
                    | nil => simp at hx
                    | cons g F1 => split at hx <;> simpa using hx
                  have hnF1 : ∀ g, F1.head? = some g → ¬ C1.N g := fun g hg hN' => by
                    rcases r7 g hg with h1 | ⟨h1, _⟩
                    · exact hnmF g h1 hN'
                    · have := tk.rel.nsz g hN'; omega
                  have hLF : deep = true → L1 k = F := fun e => by rw [if_pos rfl, if_pos e] at hO; exact hO
                  have hnd : O.Nodup := by
                    rw [hOd]
                    cases F1 with
                    | nil => simp
                    | cons g F1 =>
                      simp only [List.drop_one, List.tail_cons] at r6
                      split
                      · rename_i hp1
                        obtain ⟨hd1, hd2⟩ := hdt hp1
                        have hndF := tk.rel.nd k
                        rw [hLF hd1] at hndF
                        refine List.nodup_cons.2 ⟨fun hx => hnF1 g rfl (hDN g (by rw [r6] at hx; simpa using hx)), ?_⟩
                        rw [r6, List.nodup_append]
                        refine ⟨by simpa using hndF.sublist (List.drop_sublist 1 F), tk.nd hd2, fun x hx y' hy' e => ?_⟩
                        subst e
                        refine tk.off hd2 x hy' k ?_
                        rw [hLF hd1]
                        exact List.mem_of_mem_tail hx
                      · simp
                  have hsrc : ∀ x ∈ O, (x ∈ L1 k) ∨ (x = w.heap.size ∧ x < w1.heap.size) ∨ ((ownSrc ty.row (σ.ev z) σ).1 = true ∧ x ∈ G) := by
                    intro x hx
                    rcases hOm x hx with h1 | ⟨h1, h2⟩
                    · rcases r7 x h1 with h2 | h2
                      · exact .inl (List.mem_of_mem_head? (hhF x h2))
                      · exact .inr (.inl h2)
                    · obtain ⟨hd1, hd2⟩ := hdt h1
                      rcases List.mem_append.1 h2 with h2 | h2
                      · exact .inl (by rw [hLF hd1]; exact List.mem_of_mem_drop h2)
                      · exact .inr (.inr ⟨hd2, h2⟩)
                  obtain ⟨g1, g2⟩ := tk.rel.become (k := k) hbU (w1 := w1) r2 hold (by rw [eo']; rfl) r4 (e := .arr true d ty.row (xs ++ ys)) (p := .arr cv1 ty.row.n) (O := O)
                    ⟨cv1, F1, by simp [Cx.mv], by simpa using r5, fun x hx => hDN x (by rw [← r6]; exact hx), by rw [if_pos rfl, hOd]; split <;> rfl⟩
                    (fun x hx => by
                      rcases hsrc x hx with h1 | ⟨h1, h2⟩ | ⟨h1, h2⟩
                      · exact ⟨(tk.rel.own k x h1).1, Nat.lt_of_lt_of_le (tk.rel.own k x h1).2 r2⟩
                      · exact ⟨by rw [h1]; exact h.hB0, h2⟩
                      · obtain ⟨k', hk'⟩ := tk.from_ h1 x h2
                        exact ⟨(h.own k' x hk').1, Nat.lt_of_lt_of_le (h.own k' x hk').2 r2⟩)
                    hnd (fun j hj x hx hxj => by
                      rcases hsrc x hx with h1 | ⟨h1, h2⟩ | ⟨h1, h2⟩
                      · exact tk.rel.dj k j (Ne.symm hj) x h1 hxj
                      · have := (tk.rel.own j x hxj).2; omega
                      · exact tk.off h1 x h2 j hxj)
                    (fun x hx => hnF1 x (hOh x hx.2))
                  rw [← hdd] at hp
                  refine wp_val (c := cv1) (w' := w1) ?_ ⟨⟨_, _, _, hp, g1.put o.dst ⟨.inr rfl, ?_, fun cv' n' hφ' => ?_⟩, tk.le.trans g2, fun k hk => ?_, put_nx .., put_len .., put_io .., ?_⟩, fun x hx htd => ?_, r2⟩
                  · rw [hexec, evy]; exact run_v2 _ r1
                  · obtain ⟨ad, cap, e1⟩ := slice_of r5; rw [e1]; rfl
                  · simp [Cx.mv] at hφ'; exact hφ'.1
                  · rcases hk with hk | rfl
                    · rw [tk.U] at hk; exact .inl hk
                    · exact .inr ⟨Nat.le_refl _, by omega⟩
                  · refine ⟨fun j x hx hn => ?_, fun j x hx => ?_, fun x hx => .inl (tk.nn x hx)⟩
                    · split at hx
                      · rcases hOm x hx with h1 | ⟨_, h1⟩
                        · rcases r7 x h1 with h2 | h2
                          · exact .inr (.inr ⟨k, by simp [touched, ho, hc, hav, ey], by rw [← mu2]; exact List.mem_of_mem_head? (hhF x h2)⟩)
                          · exact .inr (.inl (by omega))
                        · exact absurd (hDN x h1) hn
                      · split at hx
                        · cases hx
                        · exact (tk.org (touched Γ.lend o σ)).hd j x hx hn
                    · split at hx
                      · rcases hsrc x hx with h1 | ⟨h1, h2⟩ | ⟨h1, h2⟩
                        · exact .inl ⟨k, tk.sub k x h1⟩
                        · exact .inr (by omega)
                        · exact .inl (tk.from_ h1 x h2)
                      · split at hx
                        · cases hx
                        · exact .inl ⟨j, tk.sub j x hx⟩
                  · exact hold x hx (fun e => by
                      rcases htd with h1 | h1
                      · exact tk.rel.nm k x (by rw [eo']; rfl) e (tk.le.N x h1)
                      · exact h1 k (by simp [touched, ho, hc, hav, ey]) (by rw [← mu2]; exact List.mem_of_mem_head? e))
              · cases hp
            · cases hp
          · cases hp
      · cases hp
    · cases hp
  · cases hp
end
end Go.Ev
