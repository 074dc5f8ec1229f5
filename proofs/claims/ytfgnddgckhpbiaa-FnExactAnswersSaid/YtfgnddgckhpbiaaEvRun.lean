/- Operations in order: the machine does what the evaluator says. -/
import Derived.Test.YtfgnddgckhpbiaaEvCall
set_option linter.unusedVariables false
namespace Go.Ev
open Go.RowKit

/-- Every function that is called keeps its contract. -/
def FnsOk (P : Program) (I : Nat → World → Prop) (Γ : Env) : Prop := ∀ g fresh G, Γ.fn g = some (fresh, G) → OkFn P I g fresh G

section
variable {P : Program} {Γ : Env} {I : Nat → World → Prop} {B0 : Nat} {w0 : World} {σ : St} {a : Act} {w : World} {C : Cx} {L : Nat → List Nat}

theorem Nxt.stay (h : Rel B0 w0 σ a w C L) {o : Oper} {b : Nat} {K : St → Option Ret} {r : Ret} {v : V} {c : Value} (hv : VR C w v c) (hK : K (σ.put o.dst v) = some r) : Nxt Γ.lend B0 w0 o σ w C L b K r (a.put o.dst c) w :=
  ⟨⟨_, C, L, hK, h.put o.dst hv, Cx.Le.refl C w, fun _ h => .inl h, put_nx .., put_len .., put_io .., Org.refl w C L _⟩, fun _ _ _ => rfl, Nat.le_refl _⟩

theorem meet_some {x y : Option Ret} {r : Ret} (h : meet x y = some r) : x = some r ∧ y = some r := by
  unfold meet at h
  split at h
  · rename_i e; exact ⟨h, e ▸ h⟩
  · cases h
theorem equalIn_nil {t e : TypeId} (hu : P.underlying t = some (.slice e)) (b : Option Addr) (l c d : Nat) (w' : World) : (Op.equalIn (d + 1) t (.slice b l c) (.slice none 0 0)).run P w' = .ok b.isNone w' := by
  cases b <;> simp [Op.equalIn, run_underlying hu]
theorem equal_nil {t e : TypeId} (hu : P.underlying t = some (.slice e)) (b : Option Addr) (l c : Nat) (w' : World) : (Op.equal t (.slice b l c) (.slice none 0 0)).run P w' = .ok b.isNone w' := equalIn_nil hu b l c 9999 w'
theorem bin_nil (b : Option Addr) (l c : Nat) (t : TypeId) {e : TypeId} (y z : Operand) {op : BinOp} {f : Bool → Bool} (ho : op = .eql ∧ f = id ∨ op = .neq ∧ f = (!·)) (hu : P.underlying t = some (.slice e)) (w' : World) :
    (do eqGuard op t y z (.slice b l c) (.slice none 0 0); binOp op t (.slice b l c) (.slice none 0 0) : Sem Value).run P w' = .ok (.bool (f b.isNone)) w' := by
  rcases ho with ⟨rfl, rfl⟩ | ⟨rfl, rfl⟩
  · have e1 : (do eqGuard .eql t y z (.slice b l c) (.slice none 0 0); binOp .eql t (.slice b l c) (.slice none 0 0) : Sem Value) = (do pure (.bool (← Op.equal t (.slice b l c) (.slice none 0 0)))) := rfl
    rw [e1, Sem.run_bind, equal_nil hu]; rfl
  · have e1 : (do eqGuard .neq t y z (.slice b l c) (.slice none 0 0); binOp .neq t (.slice b l c) (.slice none 0 0) : Sem Value) = (do pure (.bool (!(← Op.equal t (.slice b l c) (.slice none 0 0))))) := rfl
    rw [e1, Sem.run_bind, equal_nil hu]; rfl
theorem nilCase_ok {v : V} {c : Value} (hv : VR C w v c) {x y : Option Ret} {r : Ret} (h : nilCase v x y = some r) : ∃ b l cap, c = .slice b l cap ∧ (b.isNone = true → x = some r) ∧ (b.isNone = false → y = some r) := by
  unfold nilCase at h
  split at h
  · have hc : c = .slice none 0 0 := hv
    exact ⟨none, 0, 0, hc, fun _ => h, fun h' => by cases h'⟩
  · rename_i o rr xs
    obtain ⟨F, h1, _⟩ := hv
    have h1' : SlT (RwR w true rr) w true rr.n xs c F := h1
    rcases h1' with ⟨rfl, _, a, cap, rfl, _⟩ | ⟨b, o', cap, F', rfl, _⟩
    · have hm := meet_some (show meet x y = some r from h)
      exact ⟨a, 0, cap, rfl, fun _ => hm.1, fun _ => hm.2⟩
    · refine ⟨some _, _, _, rfl, fun h' => (nomatch h'), fun _ => ?_⟩
      cases hb : Nat.beq xs.length 0 with
      | true => rw [hb] at h; exact (meet_some h).2
      | false => rw [hb] at h; exact h
  · cases h
theorem effect_ok (hT : TysOk P Γ.ty) (hI : I B0 w0) (hΓ : FnsOk P I Γ) (h : Rel B0 w0 σ a w C L) {o : Oper} {b : Nat} (hb : ∀ k, b ≤ k → k < b + 256 → ¬ C.U k) {K : St → Option Ret} {r : Ret} (hp : effect Γ b o σ K = some r) {Q : Exit → Act → World → Prop} :
    o.wp P a w (Nxt Γ.lend B0 w0 o σ w C L b K r) Q := by
  cases ho : o.op with
  | alloc t => exact eff_alloc hT h ho hb hp
  | box t y => exact eff_box h ho hb hp
  | buildSlice t len parts => exact eff_buildSlice hT h ho hb hp
  | makeSlice t l c => exact eff_makeSlice hT h ho hb hp
  | store t p y =>
    have hp0 := hp
    simp only [effect, ho] at hp
    split at hp
    · cases hp
    · rename_i ty ht
      split at hp
      · rename_i k c ep
        exact eff_storeBox hT h ho ht ep hp0
      · rename_i k i c ep
        exact eff_storeArr hT h ho ht ep hp0
      · cases hp
  | call c =>
    cases hc : c.callee with
    | value g => exact eff_call hI hΓ h ho hc hb hp
    | builtin bi =>
      cases bi with
      | append => exact eff_append hT h ho hc hb hp
      | _ => simp [effect, ho, hc] at hp
    | invoke _ _ => simp [effect, ho, hc] at hp
  | binOp op t y z u =>
    have hy := h.ev y
    have hz := h.ev z
    cases op with
    | eql =>
      simp only [effect, ho] at hp
      split at hp
      · rename_i ty ht ez
        split at hp
        · rename_i hs
          obtain ⟨e, hu, _⟩ := (hT t ty ht).sl hs
          rw [ez] at hz
          have ez' : a.eval z = .slice none 0 0 := hz
          obtain ⟨bb, l, cap, ec, h1, h2⟩ := nilCase_ok hy hp
          refine wp_val (c := .bool bb.isNone) (w' := w) ?_ ?_
          · simp only [execOp, ho, ec, ez']
            exact run_v _ (bin_nil bb l cap t y z (f := id) (.inl ⟨rfl, rfl⟩) hu w)
          · cases hb : bb.isNone with
            | true => exact Nxt.stay (v := .s (.bool true)) h ⟨rfl, rfl⟩ (h1 hb)
            | false => exact Nxt.stay (v := .s (.bool false)) h ⟨rfl, rfl⟩ (h2 hb)
        · cases hp
      · cases hp
    | neq =>
      simp only [effect, ho] at hp
      split at hp
      · rename_i ty ht ez
        split at hp
        · rename_i hs
          obtain ⟨e, hu, _⟩ := (hT t ty ht).sl hs
          rw [ez] at hz
          have ez' : a.eval z = .slice none 0 0 := hz
          obtain ⟨bb, l, cap, ec, h1, h2⟩ := nilCase_ok hy hp
          refine wp_val (c := .bool (!bb.isNone)) (w' := w) ?_ ?_
          · simp only [execOp, ho, ec, ez']
            exact run_v _ (bin_nil bb l cap t y z (f := (!·)) (.inr ⟨rfl, rfl⟩) hu w)
          · cases hb : bb.isNone with
            | true => exact Nxt.stay (v := .s (.bool false)) h ⟨rfl, rfl⟩ (h1 hb)
            | false => exact Nxt.stay (v := .s (.bool true)) h ⟨rfl, rfl⟩ (h2 hb)
        · cases hp
      · cases hp
    | _ => simp [effect, ho] at hp
  | _ => simp [effect, ho] at hp

theorem step_ok (hT : TysOk P Γ.ty) (hI : I B0 w0) (hΓ : FnsOk P I Γ) (h : Rel B0 w0 σ a w C L) {o : Oper} {b : Nat} (hb : ∀ k, b ≤ k → k < b + 256 → ¬ C.U k) {K : St → Option Ret} {r : Ret} (hp : step Γ b o σ K = some r) {Q : Exit → Act → World → Prop} :
    o.wp P a w (Nxt Γ.lend B0 w0 o σ w C L b K r) Q := by
  unfold step at hp
  split at hp
  · rename_i c y z ho
    split at hp
    · rename_i c' ec
      have hc := h.ev c
      rw [ec] at hc
      have ec' : a.eval c = .bool c' := hc.1
      cases c' with
      | true => exact wp_val (by simp [execOp, ho, ec', asBool]) (Nxt.stay h (h.ev y) hp)
      | false => exact wp_val (by simp [execOp, ho, ec', asBool]) (Nxt.stay h (h.ev z) hp)
    · cases hp
  · split at hp
    · rename_i c v ep
      cases c with
      | true =>
        obtain ⟨cv, h1, h2⟩ := yl hT h ep
        exact wp_val (h1 w) (Nxt.stay h h2 hp)
      | false => cases hp
    · split at hp
      · rename_i v el
        obtain ⟨cv, blk, h1, _, h2⟩ := ld hT h el
        exact wp_val (h2 w rfl) (Nxt.stay h h1 hp)
      · exact effect_ok hT hI hΓ h hb hp

/-! ### The whole frame -/
/-- How the function was entered: the world · the blocks that it owns · those of them that it may write · those that nobody writes. -/
structure En where
  w : World
  O : Nat → Prop
  H : Nat → Prop
  N : Nat → Prop
  ps : List Value
structure Fr (e : En) (σ : St) (w : World) (C : Cx) (L : Nat → List Nat) : Prop where
  io : VsR C w σ.io e.ps
  nm : ∀ x, e.N x → C.N x
  fr : ∀ x, x < e.w.heap.size → ¬ e.H x → w.heap[x]? = e.w.heap[x]?
  hd : ∀ k x, x ∈ L k → ¬ C.N x → e.H x ∨ e.w.heap.size ≤ x
  ow : ∀ k x, x ∈ L k → e.O x ∨ e.w.heap.size ≤ x
  nn : ∀ x, C.N x → e.N x ∨ e.O x ∨ e.w.heap.size ≤ x
  sz : e.w.heap.size ≤ w.heap.size
theorem Fr.next {e : En} {σ' : St} {w' : World} {C' : Cx} {L' : Nat → List Nat} {T : List Nat} (h : Fr e σ w C L) (hio : σ'.io = σ.io) (hle : C.Le w C' w') (ho : Org w C L T C' L') (hf : ∀ x, x < w.heap.size → (C.N x ∨ ∀ k ∈ T, x ∉ L k) → w'.heap[x]? = w.heap[x]?) (hs : w.heap.size ≤ w'.heap.size) : Fr e σ' w' C' L' := by
  have hsz := h.sz
  refine ⟨by rw [hio]; exact h.io.le hle, fun x hx => hle.N x (h.nm x hx), fun x hx hH => ?_, fun k x hx hn => ?_, fun k x hx => ?_, fun x hx => ?_, Nat.le_trans h.sz hs⟩
  · refine (hf x (by omega) ?_).trans (h.fr x hx hH)
    by_cases hN : C.N x
    · exact .inl hN
    · refine .inr (fun k hk hh => ?_)
      rcases h.hd k x hh hN with h1 | h1
      · exact hH h1
      · omega
  · have hN : ¬ C.N x := fun h1 => hn (hle.N x h1)
    rcases ho.hd k x hx hn with h1 | h1 | ⟨j, _, h1⟩
    · exact h.hd k x h1 hN
    · exact .inr (by omega)
    · exact h.hd j x h1 hN
  · rcases ho.ow k x hx with ⟨j, h1⟩ | h1
    · exact h.ow j x h1
    · exact .inr (by omega)
  · rcases ho.nn x hx with h1 | ⟨j, h1⟩ | h1
    · exact h.nn x h1
    · exact .inr (h.ow j x h1)
    · exact .inr (.inr (by omega))

/-- The numbers in use, in a region. -/
def Ux (b : Nat) (done : List Nat) (C : Cx) : Prop := ∀ k, C.U k → k < b ∨ ∃ j ∈ done, b + 256 * j ≤ k ∧ k < b + 256 * j + 256
theorem Ux.free {b i : Nat} {done : List Nat} {C : Cx} (h : Ux b done C) (hi : i ∉ done) : ∀ k, b + 256 * i ≤ k → k < b + 256 * i + 256 → ¬ C.U k := by
  intro k h1 h2 hk
  rcases h k hk with h3 | ⟨j, hj, h3, h4⟩
  · omega
  · have : j = i := by omega
    exact hi (this ▸ hj)
theorem Ux.next {b i : Nat} {done : List Nat} {C C' : Cx} (h : Ux b done C) (hU : ∀ k, C'.U k → C.U k ∨ (b + 256 * i ≤ k ∧ k < b + 256 * i + 256)) : Ux b (i :: done) C' := by
  intro k hk
  rcases hU k hk with h1 | h1
  · rcases h k h1 with h2 | ⟨j, hj, h2⟩
    · exact .inl h2
    · exact .inr ⟨j, by simp [hj], h2⟩
  · exact .inr ⟨i, by simp, h1⟩

def AtR (B0 : Nat) (w0 : World) (e : En) (b : Nat) (done : List Nat) (σ : St) (a : Act) (w : World) : Prop :=
  ∃ C L, Rel B0 w0 σ a w C L ∧ Fr e σ w C L ∧ Ux b done C

/-- Behind one operation. -/
def AtN (B0 : Nat) (w0 : World) (e : En) (b : Nat) (done : List Nat) (nx len : Nat) (K : St → Option Ret) (r : Ret) (a : Act) (w : World) : Prop :=
  ∃ σ', K σ' = some r ∧ AtR B0 w0 e b done σ' a w ∧ σ'.nx = nx ∧ σ'.tm.length = len

theorem stepR_ok {e : En} (hT : TysOk P Γ.ty) (hI : I B0 w0) (hΓ : FnsOk P I Γ) {b i : Nat} {done : List Nat} (h : AtR B0 w0 e b done σ a w) (hi : i ∉ done) {o : Oper} {K : St → Option Ret} {r : Ret} (hp : step Γ (b + 256 * i) o σ K = some r) {Q : Exit → Act → World → Prop} :
    o.wp P a w (AtN B0 w0 e b (i :: done) σ.nx σ.tm.length K r) Q := by
  obtain ⟨C, L, h1, h2, h3⟩ := h
  refine Oper.wp_mono (fun a' w' hn => ?_) (step_ok hT hI hΓ h1 (h3.free hi) hp)
  obtain ⟨σ', C', L', g1, g2, g3, g4, g5, g6, g8, g7⟩ := hn.ex
  exact ⟨σ', g1, ⟨C', L', g2, h2.next g8 g3 g7 hn.fr hn.sz, h3.next g4⟩, g5, g6⟩

theorem AtR.mono {e : En} {b : Nat} {done done' : List Nat} (h : AtR B0 w0 e b done σ a w) (hd : ∀ j ∈ done, j ∈ done') : AtR B0 w0 e b done' σ a w := by
  obtain ⟨C, L, h1, h2, h3⟩ := h
  exact ⟨C, L, h1, h2, fun k hk => (h3 k hk).imp id (fun ⟨j, hj, h⟩ => ⟨j, hd j hj, h⟩)⟩
theorem AtR.put {e : En} {b : Nat} {done : List Nat} (h : AtR B0 w0 e b done σ a w) (d : Option Tmp) {v : V} {c : Value} (hv : ∀ C, VR C w v c) : AtR B0 w0 e b done (σ.put d v) (a.put d c) w := by
  obtain ⟨C, L, h1, h2, h3⟩ := h
  exact ⟨C, L, h1.put d (hv C), { h2 with io := by rw [put_io]; exact h2.io }, h3⟩

theorem runOp_ok {e : En} (hT : TysOk P Γ.ty) (hI : I B0 w0) (hΓ : FnsOk P I Γ) {ops : Array Oper} {b i : Nat} {done : List Nat} (h : AtR B0 w0 e b done σ a w) (hi : i ∉ done) {K : St → Option Ret} {r : Ret} (hp : runOp Γ ops b i σ K = some r) {Q : Exit → Act → World → Prop} :
    wpOp P ops Q i (AtN B0 w0 e b (i :: done) σ.nx σ.tm.length K r) a w := by
  unfold runOp at hp
  unfold wpOp
  split at hp
  · cases hp
  · rename_i o eo
    simp only [eo]
    split at hp
    · rename_i eg
      rw [if_pos (by simp [Region.wanted, eg])]
      exact .inl (stepR_ok hT hI hΓ h hi hp)
    · rename_i j want eg
      split at hp
      · cases hp
      · rename_i t et
        split at hp
        · rename_i c ec
          obtain ⟨C, L, h1, h2, h3⟩ := h
          have hev := h1.ev (.tmp t)
          simp only [St.ev, ec] at hev
          have hval : a.tmps.getD t undef = .bool c := hev.1
          have hlt : t < a.tmps.size := by
            rcases Nat.lt_or_ge t a.tmps.size with h | h
            · exact h
            · rw [Array.getD_eq_getD_getElem?, Array.getElem?_eq_none h] at hval; cases hval
          have hget : a.tmps[t]? = some (.bool c) := by
            rw [Array.getD_eq_getD_getElem?] at hval
            rw [Array.getElem?_eq_getElem hlt] at hval ⊢
            exact congrArg some hval
          have hy : yielded ops a.tmps j = some c := by simp [yielded, et, hget]
          have hself : a.put (some t) (.bool c) = a := by
            simp only [Act.put]
            congr
            apply Array.ext_getElem?
            intro q
            rw [Array.getElem?_setIfInBounds]
            split
            · rename_i hq; subst hq; exact hget.symm
            · rfl
          have h' : ∀ c', c' = c → AtR B0 w0 e b done (σ.put (some t) (.s (.bool c'))) a w := by
            intro c' hc'
            rw [hc']
            have := h1.put (some t) (v := .s (.bool c)) (c := .bool c) ⟨rfl, rfl⟩
            rw [hself] at this
            exact ⟨C, L, this, { h2 with io := by rw [put_io]; exact h2.io }, h3⟩
          have hlen : ∀ v : V, (σ.put (some t) v).tm.length = σ.tm.length := fun v => put_len ..
          have skip : ∀ c', c' = c → want ≠ c → K ((σ.put (some t) (.s (.bool c'))).put o.dst .x) = some r → (if Region.wanted o (yielded ops a.tmps) = true then o.wp P a w (AtN B0 w0 e b (i :: done) σ.nx σ.tm.length K r) Q ∨ (o.asks P a w ∧ LetsOut Q) else AtN B0 w0 e b (i :: done) σ.nx σ.tm.length K r (a.put o.dst undef) w) := by
            intro c' hc' hw hK
            rw [if_neg (by simp [Region.wanted, eg, hy]; exact fun h => hw h.symm)]
            exact ⟨_, hK, ((h' c' hc').put o.dst (v := .x) (fun _ => trivial)).mono (fun j hj => by simp [hj]), by rw [put_nx, put_nx], by rw [put_len, put_len]⟩
          have go : ∀ c', c' = c → want = c → step Γ (b + 256 * i) o (σ.put (some t) (.s (.bool c'))) K = some r → (if Region.wanted o (yielded ops a.tmps) = true then o.wp P a w (AtN B0 w0 e b (i :: done) σ.nx σ.tm.length K r) Q ∨ (o.asks P a w ∧ LetsOut Q) else AtN B0 w0 e b (i :: done) σ.nx σ.tm.length K r (a.put o.dst undef) w) := by
            intro c' hc' hw hK
            rw [if_pos (by simp [Region.wanted, eg, hy, hw])]
            have := stepR_ok (Q := Q) hT hI hΓ (h' c' hc') hi hK
            rw [put_nx, put_len] at this
            exact .inl this
          cases c with
          | true =>
            cases want with
            | true => exact go true rfl rfl hp
            | false => exact skip true rfl (by simp) hp
          | false =>
            cases want with
            | true => exact skip false rfl (by simp) hp
            | false => exact go false rfl rfl hp
        · cases hp

theorem runOps_ok {e : En} (hT : TysOk P Γ.ty) (hI : I B0 w0) (hΓ : FnsOk P I Γ) {ops : Array Oper} {b nx len : Nat} {K : St → Option Ret} {r : Ret} {Q : Exit → Act → World → Prop} {all : List Nat} (hQ : ∀ a w, AtN B0 w0 e b all nx len K r a w → Q .normal a w) :
    ∀ (rest : List Nat) {done : List Nat} {σ : St} {a : Act} {w : World} (h : AtR B0 w0 e b done σ a w) (hnd : rest.Nodup) (hdj : ∀ i ∈ rest, i ∉ done) (hall : ∀ j, j ∈ done ∨ j ∈ rest → j ∈ all) (h1 : σ.nx = nx) (h2 : σ.tm.length = len) (hp : runOps Γ ops b rest σ K = some r), wpOps P ops Q rest a w
  | [], done, σ, a, w, h, hnd, hdj, hall, h1, h2, hp => hQ _ _ ⟨σ, hp, h.mono (fun j hj => hall j (.inl hj)), h1, h2⟩
  | i :: rest, done, σ, a, w, h, hnd, hdj, hall, h1, h2, hp => by
    rw [wpOps_cons]
    refine wpOp_mono (fun a' w' hn => ?_) (runOp_ok hT hI hΓ h (hdj i (by simp)) hp)
    obtain ⟨σ', g1, g2, g3, g4⟩ := hn
    have hn' := List.nodup_cons.1 hnd
    exact runOps_ok hT hI hΓ hQ rest g2 hn'.2 (fun j hj hd => by
      rcases List.mem_cons.1 hd with rfl | hd
      · exact hn'.1 hj
      · exact hdj j (by simp [hj]) hd) (fun j hj => hall j (by
      rcases hj with hj | hj
      · rcases List.mem_cons.1 hj with rfl | hj
        · exact .inr (by simp)
        · exact .inl hj
      · exact .inr (by simp [hj]))) (g3.trans h1) (g4.trans h2) g1
end
end Go.Ev
