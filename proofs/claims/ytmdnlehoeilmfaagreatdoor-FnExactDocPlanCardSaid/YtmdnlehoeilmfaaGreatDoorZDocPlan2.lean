/- DocPlan: parts EvRun EvDraw EvCode EvFn EvRow EvTys EvUtf EvSeat EvNames EvShape EvLib EvGen EvSum, packed by squash.py. -/
import Derived.Laws.BytesArg
import Derived.OrdersHeld
import GoSem.ClaimChange
import Derived.Test.YtmdnlehoeilmfaaGreatDoorProg
import Derived.KernelRfl
import Derived.Test.YtmdnlehoeilmfaaGreatDoorZDocPlan0
import Derived.Test.YtmdnlehoeilmfaaGreatDoorZDocPlan1
set_option linter.unusedVariables false
set_option linter.unusedSimpArgs false
section
set_option linter.unusedVariables false
namespace Go.Ev
open Go.RowKit
structure Dc (P : Program) (I : Nat → World → Prop) (Γ : Env) : Prop where
 fn : ∀ g fresh G, Γ.fn g = some (fresh, G) → aT P I g fresh G
 gl : acE I Γ
section
variable {P : Program} {Γ : Env} {I : Nat → World → Prop} {B0 : Nat} {w0 : World} {σ : St} {a : Act} {w : World} {C : Cx} {L : Nat → List Nat}
theorem Wx.stay (h : Rel B0 w0 σ a w C L) {o : Oper} {b : Nat} {K : St → Option aj} {r : aj} {v : V} {c : Value} (hv : VR C w v c) (hK : K (σ.put o.dst v) = some r) : Wx Γ.lend B0 w0 o σ w C L b K r (a.put o.dst c) w :=
 ⟨⟨_, C, L, hK, h.put o.dst hv, Cx.Le.refl C w, fun _ h => .inl h, lS .., jd .., nT .., Ls.refl w C L _⟩, fun _ _ _ => rfl, Nat.le_refl _⟩
theorem Uu {x y : Option aj} {r : aj} (h : meet x y = some r) : x = some r ∧ y = some r := by
 unfold meet at h
 split at h
 ·rename_i e; exact ⟨h, e ▸ h⟩
 ·cases h
theorem aeW {t e : TypeId} (hu : P.underlying t = some (.slice e)) (b : Option Addr) (l c d : Nat) (w' : World) : (Op.equalIn (d + 1) t (.slice b l c) (.slice none 0 0)).run P w' = .ok b.isNone w' := by
 cases b <;> simp [Op.equalIn, run_underlying hu]
theorem abW {t e : TypeId} (hu : P.underlying t = some (.slice e)) (b : Option Addr) (l c : Nat) (w' : World) : (Op.equal t (.slice b l c) (.slice none 0 0)).run P w' = .ok b.isNone w' := aeW hu b l c 9999 w'
theorem aiX (b : Option Addr) (l c : Nat) (t : TypeId) {e : TypeId} (y z : Operand) {op : BinOp} {f : Bool → Bool} (ho : op = .eql ∧ f = id ∨ op = .neq ∧ f = (!·)) (hu : P.underlying t = some (.slice e)) (w' : World) :
  (do eqGuard op t y z (.slice b l c) (.slice none 0 0); binOp op t (.slice b l c) (.slice none 0 0) : Sem Value).run P w' = .ok (.bool (f b.isNone)) w' := by
 rcases ho with ⟨rfl, rfl⟩ | ⟨rfl, rfl⟩
 ·have e1 : (do eqGuard .eql t y z (.slice b l c) (.slice none 0 0); binOp .eql t (.slice b l c) (.slice none 0 0) : Sem Value) = (do pure (.bool (← Op.equal t (.slice b l c) (.slice none 0 0)))) := rfl
  rw [e1, Sem.run_bind, abW hu]; rfl
 ·have e1 : (do eqGuard .neq t y z (.slice b l c) (.slice none 0 0); binOp .neq t (.slice b l c) (.slice none 0 0) : Sem Value) = (do pure (.bool (!(← Op.equal t (.slice b l c) (.slice none 0 0))))) := rfl
  rw [e1, Sem.run_bind, abW hu]; rfl
theorem YB {v : V} {c : Value} (hv : VR C w v c) {x y : Option aj} {r : aj} (h : X8 v x y = some r) : ∃ b l cap, c = .slice b l cap ∧ (b.isNone = true → x = some r) ∧ (b.isNone = false → y = some r) := by
 unfold X8 at h
 split at h
 ·have hc : c = .slice none 0 0 := hv
  exact ⟨none, 0, 0, hc, fun _ => h, fun h' => by cases h'⟩
 ·rename_i o rr xs
  obtain ⟨F, h1, _⟩ := hv
  have h1' : EG (ji w true rr) w true rr.n xs c F := h1
  rcases h1' with ⟨rfl, _, a, cap, rfl, _⟩ | ⟨b, o', cap, F', rfl, _⟩
  ·have hm := Uu (show meet x y = some r from h)
   exact ⟨a, 0, cap, rfl, fun _ => hm.1, fun _ => hm.2⟩
  ·refine ⟨some _, _, _, rfl, fun h' => (nomatch h'), fun _ => ?_⟩
   cases hb : Nat.beq xs.length 0 with
   | true => rw [hb] at h; exact (Uu h).2
   | false => rw [hb] at h; exact h
 ·cases h
theorem alg (hT : iV P Γ.ty) (h : Rel B0 w0 σ a w C L) {o : Oper} {u t : TypeId} {y : Operand} (ho : o.op = .convert u t y) {b : Nat} {K : St → Option aj} {r : aj} (hp : effect Γ b o σ K = some r) {Q : Exit → Act → World → Prop} :
  o.wp P a w (Wx Γ.lend B0 w0 o σ w C L b K r) Q := by
 simp only [effect, ho] at hp
 split at hp
 ·rename_i tu ty hu ht
  split at hp
  ·rename_i hc
   simp only [Bool.and_eq_true, decide_eq_true_eq] at hc
   obtain ⟨⟨h1, h2⟩, h3⟩ := hc
   split at hp
   ·rename_i xs hx
    obtain ⟨e, he, _, _, _, _, _, _, _, _, h8⟩ := (hT u tu hu).sl h1
    have hd := (hT t ty ht).str h2
    obtain ⟨q, F, hS, _⟩ := rows_ok h (h.ev y) hx
    refine yB (c := .string (oJ xs)) (w' := w) ?_ (Wx.stay (v := .s (.string (oJ xs))) h ⟨rfl, rfl⟩ hp)
    simp only [execOp, ho]
    refine Fe _ ?_
    rcases hS with ⟨rfl, _, ad, cap, hv, _⟩ | ⟨bb, oo, cap, F', hv, _, _, _, _, hR⟩
    ·rw [hv, run_convert_bytes_string w u t e _ _ _ he (h8 h3) hd]
     cases ad with
     | none => simp [Conv.bytesToString, oJ]; rfl
     | some ad =>
      have := run_bytesToString (P := P) w ad 0 cap [] (by simpa using run_loadCells_list (P := P) w ad [] (fun j v hj => by simp at hj))
      exact this
    ·rw [hv]
     exact run_convert_bytes_arg w u e he (h8 h3) bb oo xs.length cap xs rfl (fun i hi => by
      obtain ⟨vs, F1, g1, g2, g3, g4⟩ := hR.get (List.getElem?_eq_getElem hi)
      obtain ⟨v, rfl, g5, _⟩ := g4
      have := g3 0 v rfl
      rw [List.getD_eq_getElem?_getD, List.getElem?_eq_getElem hi]
      rw [g5] at this
      simpa [Rw.n] using this) t hd
   ·cases hp
  ·cases hp
 ·cases hp
theorem ajK (hT : iV P Γ.ty) (hI : I B0 w0) (hΓ : Dc P I Γ) (h : Rel B0 w0 σ a w C L) {o : Oper} {b : Nat} (hb : ∀ k, b ≤ k → k < b + 256 → ¬ C.U k) {K : St → Option aj} {r : aj} (hp : effect Γ b o σ K = some r) {Q : Exit → Act → World → Prop} :
  o.wp P a w (Wx Γ.lend B0 w0 o σ w C L b K r) Q := by
 cases ho : o.op with
 | alloc t => exact ajF hT h ho hb hp
 | box t y => exact amA h ho hb hp
 | buildSlice t len parts => exact Yu hT h ho hb hp
 | makeSlice t l c => exact aaC hT h ho hb hp
 | slice t y lo hi mx => cases mx with
  | none => exact ajG hT h ho hb hp
  | some m => simp [effect, ho] at hp
 | convert u t y => exact alg hT h ho hp
 | store t p y =>
  have hp0 := hp
  simp only [effect, ho] at hp
  split at hp
  ·cases hp
  ·rename_i ty ht
   split at hp
   ·rename_i k c ep
    exact acH hT h ho ht ep hp0
   ·rename_i k i c ep
    exact acJ hT h ho ht ep hp0
   ·cases hp
 | call c =>
  cases hc : c.callee with
  | value g => exact ale hI hΓ.fn h ho hc hb hp
  | builtin bi =>
   cases bi with
   | append => exact aht hT h ho hc hb hp
   | _ => simp [effect, ho, hc] at hp
  | invoke _ _ => simp [effect, ho, hc] at hp
 | binOp op t y z u =>
  have hy := h.ev y
  have hz := h.ev z
  cases op with
  | eql =>
   simp only [effect, ho] at hp
   split at hp
   ·rename_i ty ht ez
    split at hp
    ·rename_i hs
     obtain ⟨e, hu, _⟩ := (hT t ty ht).sl hs
     rw [ez] at hz
     have ez' : a.eval z = .slice none 0 0 := hz
     obtain ⟨bb, l, cap, ec, h1, h2⟩ := YB hy hp
     refine yB (c := .bool bb.isNone) (w' := w) ?_ ?_
     ·simp only [execOp, ho, ec, ez']
      exact Fe _ (aiX bb l cap t y z (f := id) (.inl ⟨rfl, rfl⟩) hu w)
     ·cases hb : bb.isNone with
      | true => exact Wx.stay (v := .s (.bool true)) h ⟨rfl, rfl⟩ (h1 hb)
      | false => exact Wx.stay (v := .s (.bool false)) h ⟨rfl, rfl⟩ (h2 hb)
    ·cases hp
   ·cases hp
  | neq =>
   simp only [effect, ho] at hp
   split at hp
   ·rename_i ty ht ez
    split at hp
    ·rename_i hs
     obtain ⟨e, hu, _⟩ := (hT t ty ht).sl hs
     rw [ez] at hz
     have ez' : a.eval z = .slice none 0 0 := hz
     obtain ⟨bb, l, cap, ec, h1, h2⟩ := YB hy hp
     refine yB (c := .bool (!bb.isNone)) (w' := w) ?_ ?_
     ·simp only [execOp, ho, ec, ez']
      exact Fe _ (aiX bb l cap t y z (f := (!·)) (.inr ⟨rfl, rfl⟩) hu w)
     ·cases hb : bb.isNone with
      | true => exact Wx.stay (v := .s (.bool false)) h ⟨rfl, rfl⟩ (h1 hb)
      | false => exact Wx.stay (v := .s (.bool true)) h ⟨rfl, rfl⟩ (h2 hb)
    ·cases hp
   ·cases hp
  | _ => simp [effect, ho] at hp
 | _ => simp [effect, ho] at hp
theorem step_ok (hT : iV P Γ.ty) (hI : I B0 w0) (hΓ : Dc P I Γ) (h : Rel B0 w0 σ a w C L) {o : Oper} {b : Nat} (hb : ∀ k, b ≤ k → k < b + 256 → ¬ C.U k) {K : St → Option aj} {r : aj} (hp : step Γ b o σ K = some r) {Q : Exit → Act → World → Prop} :
  o.wp P a w (Wx Γ.lend B0 w0 o σ w C L b K r) Q := by
 unfold step at hp
 split at hp
 ·rename_i c y z ho
  split at hp
  ·rename_i c' ec
   have hc := h.ev c
   rw [ec] at hc
   have ec' : a.eval c = .bool c' := hc.1
   cases c' with
   | true => exact yB (by simp [execOp, ho, ec', asBool]) (Wx.stay h (h.ev y) hp)
   | false => exact yB (by simp [execOp, ho, ec', asBool]) (Wx.stay h (h.ev z) hp)
  ·cases hp
 ·split at hp
  ·rename_i c v ep
   cases c with
   | true =>
    obtain ⟨cv, h1, h2⟩ := yl hT h ep
    exact yB (h1 w) (Wx.stay h h2 hp)
   | false => cases hp
  ·split at hp
   ·rename_i v el
    obtain ⟨cv, blk, h1, _, h2⟩ := ld hT h el
    exact yB (h2 w rfl) (Wx.stay h h1 hp)
   ·split at hp
    ·rename_i c v eg
     cases c with
     | true =>
      obtain ⟨cv, h1, h2⟩ := glb hT hI hΓ.gl h eg
      refine yB (w' := w) ?_ (Wx.stay h h1 hp)
      rcases h2 with ⟨_, _, _, _, h2⟩ | ⟨_, _, _, _, _, h2⟩
      ·exact h2 w
      ·exact h2 w rfl
     | false => cases hp
    ·exact ajK hT hI hΓ h hb hp
structure En where
 w : World
 O : Nat → Prop
 H : Nat → Prop
 N : Nat → Prop
 ps : List Value
structure Fr (e : En) (σ : St) (w : World) (C : Cx) (L : Nat → List Nat) : Prop where
 io : jv C w σ.io e.ps
 nm : ∀ x, e.N x → C.N x
 fr : ∀ x, x < e.w.heap.size → ¬ e.H x → w.heap[x]? = e.w.heap[x]?
 hd : ∀ k x, x ∈ L k → ¬ C.N x → e.H x ∨ e.w.heap.size ≤ x
 ow : ∀ k x, x ∈ L k → e.O x ∨ e.w.heap.size ≤ x
 nn : ∀ x, C.N x → e.N x ∨ e.O x ∨ e.w.heap.size ≤ x
 sz : e.w.heap.size ≤ w.heap.size
theorem Fr.next {e : En} {σ' : St} {w' : World} {C' : Cx} {L' : Nat → List Nat} {T : List Nat} (h : Fr e σ w C L) (hio : σ'.io = σ.io) (hle : C.Le w C' w') (ho : Ls w C L T C' L') (hf : ∀ x, x < w.heap.size → (C.N x ∨ ∀ k ∈ T, x ∉ L k) → w'.heap[x]? = w.heap[x]?) (hs : w.heap.size ≤ w'.heap.size) : Fr e σ' w' C' L' := by
 have hsz := h.sz
 refine ⟨by rw [hio]; exact h.io.le hle, fun x hx => hle.N x (h.nm x hx), fun x hx hH => ?_, fun k x hx hn => ?_, fun k x hx => ?_, fun x hx => ?_, Nat.le_trans h.sz hs⟩
 ·refine (hf x (by omega) ?_).trans (h.fr x hx hH)
  by_cases hN : C.N x
  ·exact .inl hN
  ·refine .inr (fun k hk hh => ?_)
   rcases h.hd k x hh hN with h1 | h1
   ·exact hH h1
   ·omega
 ·have hN : ¬ C.N x := fun h1 => hn (hle.N x h1)
  rcases ho.hd k x hx hn with h1 | h1 | ⟨j, _, h1⟩
  ·exact h.hd k x h1 hN
  ·exact .inr (by omega)
  ·exact h.hd j x h1 hN
 ·rcases ho.ow k x hx with ⟨j, h1⟩ | h1
  ·exact h.ow j x h1
  ·exact .inr (by omega)
 ·rcases ho.nn x hx with h1 | ⟨j, h1⟩ | h1
  ·exact h.nn x h1
  ·exact .inr (h.ow j x h1)
  ·exact .inr (.inr (by omega))
def Ux (b : Nat) (done : List Nat) (C : Cx) : Prop := ∀ k, C.U k → k < b ∨ ∃ j ∈ done, b + 256 * j ≤ k ∧ k < b + 256 * j + 256
theorem Ux.free {b i : Nat} {done : List Nat} {C : Cx} (h : Ux b done C) (hi : i ∉ done) : ∀ k, b + 256 * i ≤ k → k < b + 256 * i + 256 → ¬ C.U k := by
 intro k h1 h2 hk
 rcases h k hk with h3 | ⟨j, hj, h3, h4⟩
 ·omega
 ·have : j = i := by omega
  exact hi (this ▸ hj)
theorem Ux.next {b i : Nat} {done : List Nat} {C C' : Cx} (h : Ux b done C) (hU : ∀ k, C'.U k → C.U k ∨ (b + 256 * i ≤ k ∧ k < b + 256 * i + 256)) : Ux b (i :: done) C' := by
 intro k hk
 rcases hU k hk with h1 | h1
 ·rcases h k h1 with h2 | ⟨j, hj, h2⟩
  ·exact .inl h2
  ·exact .inr ⟨j, by simp [hj], h2⟩
 ·exact .inr ⟨i, by simp, h1⟩
def AtR (B0 : Nat) (w0 : World) (e : En) (b : Nat) (done : List Nat) (σ : St) (a : Act) (w : World) : Prop :=
 ∃ C L, Rel B0 w0 σ a w C L ∧ Fr e σ w C L ∧ Ux b done C
def AtN (B0 : Nat) (w0 : World) (e : En) (b : Nat) (done : List Nat) (nx len : Nat) (K : St → Option aj) (r : aj) (a : Act) (w : World) : Prop :=
 ∃ σ', K σ' = some r ∧ AtR B0 w0 e b done σ' a w ∧ σ'.nx = nx ∧ σ'.tm.length = len
theorem aeX {e : En} (hT : iV P Γ.ty) (hI : I B0 w0) (hΓ : Dc P I Γ) {b i : Nat} {done : List Nat} (h : AtR B0 w0 e b done σ a w) (hi : i ∉ done) {o : Oper} {K : St → Option aj} {r : aj} (hp : step Γ (b + 256 * i) o σ K = some r) {Q : Exit → Act → World → Prop} :
  o.wp P a w (AtN B0 w0 e b (i :: done) σ.nx σ.tm.length K r) Q := by
 obtain ⟨C, L, h1, h2, h3⟩ := h
 refine Oper.wp_mono (fun a' w' hn => ?_) (step_ok hT hI hΓ h1 (h3.free hi) hp)
 obtain ⟨σ', C', L', g1, g2, g3, g4, g5, g6, g8, g7⟩ := hn.ex
 exact ⟨σ', g1, ⟨C', L', g2, h2.next g8 g3 g7 hn.fr hn.sz, h3.next g4⟩, g5, g6⟩
theorem AtR.mono {e : En} {b : Nat} {done done' : List Nat} (h : AtR B0 w0 e b done σ a w) (hd : ∀ j ∈ done, j ∈ done') : AtR B0 w0 e b done' σ a w := by
 obtain ⟨C, L, h1, h2, h3⟩ := h
 exact ⟨C, L, h1, h2, fun k hk => (h3 k hk).imp id (fun ⟨j, hj, h⟩ => ⟨j, hd j hj, h⟩)⟩
theorem AtR.put {e : En} {b : Nat} {done : List Nat} (h : AtR B0 w0 e b done σ a w) (d : Option Tmp) {v : V} {c : Value} (hv : ∀ C, VR C w v c) : AtR B0 w0 e b done (σ.put d v) (a.put d c) w := by
 obtain ⟨C, L, h1, h2, h3⟩ := h
 exact ⟨C, L, h1.put d (hv C), { h2 with io := by rw [nT]; exact h2.io }, h3⟩
theorem alh {e : En} (hT : iV P Γ.ty) (hI : I B0 w0) (hΓ : Dc P I Γ) {ops : Array Oper} {b i : Nat} {done : List Nat} (h : AtR B0 w0 e b done σ a w) (hi : i ∉ done) {K : St → Option aj} {r : aj} (hp : akT Γ ops b i σ K = some r) {Q : Exit → Act → World → Prop} :
  wpOp P ops Q i (AtN B0 w0 e b (i :: done) σ.nx σ.tm.length K r) a w := by
 unfold akT at hp
 unfold wpOp
 split at hp
 ·cases hp
 ·rename_i o eo
  simp only [eo]
  split at hp
  ·rename_i eg
   rw [if_pos (by simp [Region.wanted, eg])]
   exact .inl (aeX hT hI hΓ h hi hp)
  ·rename_i j want eg
   split at hp
   ·cases hp
   ·rename_i t et
    split at hp
    ·rename_i c ec
     obtain ⟨C, L, h1, h2, h3⟩ := h
     have hev := h1.ev (.tmp t)
     simp only [St.ev, ec] at hev
     have hval : a.tmps.getD t undef = .bool c := hev.1
     have hlt : t < a.tmps.size := by
      rcases Nat.lt_or_ge t a.tmps.size with h | h
      ·exact h
      ·rw [Array.getD_eq_getD_getElem?, Array.getElem?_eq_none h] at hval; cases hval
     have hget : a.tmps[t]? = some (.bool c) := by
      rw [Array.getD_eq_getD_getElem?] at hval
      rw [Array.getElem?_eq_getElem hlt] at hval ⊢
      exact congrArg some hval
     have hy : yielded ops a.tmps j = some c := by simp [yielded, et, hget]
     have hself : a.put (some t) (.bool c) = a := by
      simp only [Act.put]
      congr
      apply Array.ext_getElem?
      intro q
      rw [Array.getElem?_setIfInBounds]
      split
      ·rename_i hq; subst hq; exact hget.symm
      ·rfl
     have h' : ∀ c', c' = c → AtR B0 w0 e b done (σ.put (some t) (.s (.bool c'))) a w := by
      intro c' hc'
      rw [hc']
      have := h1.put (some t) (v := .s (.bool c)) (c := .bool c) ⟨rfl, rfl⟩
      rw [hself] at this
      exact ⟨C, L, this, { h2 with io := by rw [nT]; exact h2.io }, h3⟩
     have hlen : ∀ v : V, (σ.put (some t) v).tm.length = σ.tm.length := fun v => jd ..
     have skip : ∀ c', c' = c → want ≠ c → K ((σ.put (some t) (.s (.bool c'))).put o.dst .ud) = some r → (if Region.wanted o (yielded ops a.tmps) = true then o.wp P a w (AtN B0 w0 e b (i :: done) σ.nx σ.tm.length K r) Q ∨ (o.asks P a w ∧ LetsOut Q) else AtN B0 w0 e b (i :: done) σ.nx σ.tm.length K r (a.put o.dst undef) w) := by
      intro c' hc' hw hK
      rw [if_neg (by simp [Region.wanted, eg, hy]; exact fun h => hw h.symm)]
      exact ⟨_, hK, ((h' c' hc').put o.dst (v := .ud) (fun _ => rfl)).mono (fun j hj => by simp [hj]), by rw [lS, lS], by rw [jd, jd]⟩
     have go : ∀ c', c' = c → want = c → step Γ (b + 256 * i) o (σ.put (some t) (.s (.bool c'))) K = some r → (if Region.wanted o (yielded ops a.tmps) = true then o.wp P a w (AtN B0 w0 e b (i :: done) σ.nx σ.tm.length K r) Q ∨ (o.asks P a w ∧ LetsOut Q) else AtN B0 w0 e b (i :: done) σ.nx σ.tm.length K r (a.put o.dst undef) w) := by
      intro c' hc' hw hK
      rw [if_pos (by simp [Region.wanted, eg, hy, hw])]
      have := aeX (Q := Q) hT hI hΓ (h' c' hc') hi hK
      rw [lS, jd] at this
      exact .inl this
     cases c with
     | true =>
      cases want with
      | true => exact go true rfl rfl hp
      | false => exact skip true rfl (by simp) hp
     | false =>
      cases want with
      | true => exact skip false rfl (by simp) hp
      | false => exact go false rfl rfl hp
    ·rename_i ec
     obtain ⟨C, L, h1, h2, h3⟩ := h
     have hev := h1.ev (.tmp t)
     simp only [St.ev, ec] at hev
     have hval : a.tmps.getD t undef = undef := hev
     have hy : yielded ops a.tmps j = none := by
      rw [Array.getD_eq_getD_getElem?] at hval
      cases e : a.tmps[t]? with
      | none => simp [yielded, et, e]
      | some q => rw [e] at hval; simp only [Option.getD_some] at hval; subst hval; simp [yielded, et, e, undef]
     rw [if_neg (by simp [Region.wanted, eg, hy])]
     exact ⟨_, hp, (AtR.put (h := ⟨C, L, h1, h2, h3⟩) o.dst (v := .ud) (fun _ => rfl)).mono (fun j hj => by simp [hj]), by rw [lS], by rw [jd]⟩
    ·cases hp
theorem abX {e : En} (hT : iV P Γ.ty) (hI : I B0 w0) (hΓ : Dc P I Γ) {ops : Array Oper} {b nx len : Nat} {K : St → Option aj} {r : aj} {Q : Exit → Act → World → Prop} {all : List Nat} (hQ : ∀ a w, AtN B0 w0 e b all nx len K r a w → Q .normal a w) :
  ∀ (rest : List Nat) {done : List Nat} {σ : St} {a : Act} {w : World} (h : AtR B0 w0 e b done σ a w) (hnd : rest.Nodup) (hdj : ∀ i ∈ rest, i ∉ done) (hall : ∀ j, j ∈ done ∨ j ∈ rest → j ∈ all) (h1 : σ.nx = nx) (h2 : σ.tm.length = len) (hp : ahn Γ ops b rest σ K = some r), wpOps P ops Q rest a w
 | [], done, σ, a, w, h, hnd, hdj, hall, h1, h2, hp => hQ _ _ ⟨σ, hp, h.mono (fun j hj => hall j (.inl hj)), h1, h2⟩
 | i :: rest, done, σ, a, w, h, hnd, hdj, hall, h1, h2, hp => by
  rw [wpOps_cons]
  refine wpOp_mono (fun a' w' hn => ?_) (alh hT hI hΓ h (hdj i (by simp)) hp)
  obtain ⟨σ', g1, g2, g3, g4⟩ := hn
  have hn' := List.nodup_cons.1 hnd
  exact abX hT hI hΓ hQ rest g2 hn'.2 (fun j hj hd => by
   rcases List.mem_cons.1 hd with rfl | hd
   ·exact hn'.1 hj
   ·exact hdj j (by simp [hj]) hd) (fun j hj => hall j (by
   rcases hj with hj | hj
   ·rcases List.mem_cons.1 hj with rfl | hj
    ·exact .inr (by simp)
    ·exact .inl hj
   ·exact .inr (by simp [hj]))) (g3.trans h1) (g4.trans h2) g1
end
end Go.Ev
end
section
set_option linter.unusedVariables false
namespace Go.Ev
open Go.RowKit
theorem meet_self (x : Option aj) : meet x x = x := by
 classical
 unfold meet
 rw [if_pos rfl]
theorem Uw {ops : Array Oper} {listed : Array Bool} : clean ops listed = true ↔ ∀ j o, ops[j]? = some o → jC o = true → listed.getD j false = false := by
 unfold clean
 rw [List.all_eq_true]
 constructor
 ·intro h j o ho hs
  have := h j (List.mem_range.2 (Array.getElem?_eq_some_iff.1 ho).1)
  simpa [ho, hs] using this
 ·intro h j hj
  rw [List.mem_range] at hj
  have ho : ops[j]? = some ops[j] := Array.getElem?_eq_getElem hj
  cases hs : jC ops[j] with
  | false => simp [ho, hs]
  | true => simpa [ho, hs] using h j _ ho hs
theorem tY {ops : Array Oper} {listed : Array Bool} {i : Nat} (h : clean ops (listed.setIfInBounds i true) = true) : clean ops listed = true := by
 rw [Uw] at *
 intro j o ho hs
 have h1 := h j o ho hs
 cases h2 : listed.getD j false with
 | false => rfl
 | true => rw [getD_set_true h2] at h1; exact h1
theorem Uy {ops : Array Oper} {listed : Array Bool} {i : Nat} (h : clean ops listed = true) (hi : ∀ o, ops[i]? = some o → jC o = false) : clean ops (listed.setIfInBounds i true) = true := by
 rw [Uw] at *
 intro j o ho hs
 have : i ≠ j := fun e => by subst e; rw [hi o ho] at hs; cases hs
 rw [getD_set_ne false this]
 exact h j o ho hs
section
variable {P : Program} {ops : Array Oper} {Q : Exit → Act → World → Prop} {S : World → Prop}
def AO (P : Program) (ops : Array Oper) (Q : Exit → Act → World → Prop) (S : World → Prop) : Nat → Array Bool → Act → World → Prop
 | 0, listed, a, w => Region.ready .any ops listed = [] ∧ Q .normal a w
 | fuel + 1, listed, a, w =>
  (Region.ready .any ops listed = [] → Q .normal a w) ∧
  ∀ i ∈ Region.ready .any ops listed, wpOp P ops Q i (fun a' w' => (clean ops (listed.setIfInBounds i true) = true → S w') ∧ AO P ops Q S fuel (listed.setIfInBounds i true) a' w') a w
theorem YC : ∀ (fuel : Nat) (listed : Array Bool) (a : Act) (w : World), AO P ops Q S fuel listed a w → wpAny P .any ops Q fuel listed a w
 | 0, _, _, _, h => h
 | fuel + 1, _, _, _, h => ⟨h.1, fun i hi => wpOp_mono (fun a' w' h' => YC fuel _ a' w' h'.2) (h.2 i hi)⟩
theorem AO.imp {S' : World → Prop} (hS : ∀ w, S' w → S w) : ∀ {fuel : Nat} {listed : Array Bool} {a : Act} {w : World}, AO P ops Q S' fuel listed a w → AO P ops Q S fuel listed a w
 | 0, _, _, _, h => h
 | fuel + 1, _, _, _, h => ⟨h.1, fun i hi => wpOp_mono (fun a' w' h' => ⟨fun hc => hS w' (h'.1 hc), AO.imp hS h'.2⟩) (h.2 i hi)⟩
theorem JM {i : Nat} {oi : Oper} {v : Value} {SY : World → Prop} {I : Array Bool → Prop} (hi : ops[i]? = some oi) (hst : jC oi = false) (hsel : ∀ (j : Nat) (o : Oper) cs b, ops[j]? = some o → o.op ≠ .select cs b)
  (hQ : ∀ c a w, ¬ Q (.panic c) a w)
  (hI : ∀ listed j w', I listed → i ∈ Region.ready .any ops listed → j ∈ Region.ready .any ops listed → j ≠ i → (clean ops ((listed.setIfInBounds i true).setIfInBounds j true) = true → S w') → SY w' ∧ I (listed.setIfInBounds j true)) :
  ∀ (fuel : Nat) (listed : Array Bool) (a : Act) (w : World), I listed →
   (∀ j oj, ops[j]? = some oj → j ≠ i → listed.getD j true = false → (∀ e ∈ oj.after, Region.binds .any e = true → e.on ≠ i) → oi.apart ops oj = true) →
   i ∈ Region.ready .any ops listed → YieldsIf P ops SY oi v a → SY w → (clean ops (listed.setIfInBounds i true) = true → S w) →
   AO P ops Q S fuel (listed.setIfInBounds i true) (a.put oi.dst v) w → AO P ops Q S (fuel + 1) listed a w := by
 intro fuel
 induction fuel with
 | zero =>
  intro listed a w _ _ hr hy hSY hS H
  refine ⟨fun h => (by rw [h] at hr; cases hr), fun j hj => ?_⟩
  by_cases hji : j = i
  ·subst hji; exact hy.wpOp hi hSY ⟨hS, H⟩
  ·have := ready_mono hj hji
   rw [H.1] at this
   cases this
 | succ fuel ih =>
  intro listed a w hIl hfree hr hy hSY hS H
  refine ⟨fun h => (by rw [h] at hr; cases hr), fun j hj => ?_⟩
  by_cases hji : j = i
  ·subst hji; exact hy.wpOp hi hSY ⟨hS, H⟩
  ·have h1 := H.2 j (ready_mono hj hji)
   obtain ⟨hjun, oj, hoj, hall⟩ := mem_ready.1 hj
   have hnot : ∀ e ∈ oj.after, Region.binds .any e = true → e.on ≠ i := fun e he hb heq => by
    have h1 := hall e he hb
    have h0 := (mem_ready.1 hr).1
    rw [heq] at h1
    rcases Nat.lt_or_ge i listed.size with h' | h'
    ·simp [h'] at h0 h1; rw [h0] at h1; cases h1
    ·simp [Array.getElem?_eq_none h'] at h1
   have h2 := wpOp_putIf hoj (hfree j oj hoj hji hjun hnot) (fun cs b => hsel i oi cs b hi) (fun cs b => hsel j oj cs b hoj) (fun c a w h => absurd h (hQ c _ w)) hy h1
   have hfree' : ∀ k ok, ops[k]? = some ok → k ≠ i → (listed.setIfInBounds j true).getD k true = false →
     (∀ e ∈ ok.after, Region.binds .any e = true → e.on ≠ i) → oi.apart ops ok = true := fun k ok hk hki hun hno => by
    refine hfree k ok hk hki ?_ hno
    by_cases hjk : j = k
    ·subst hjk; exact hjun
    ·rw [getD_set_ne true hjk] at hun; exact hun
   refine wpOp_mono (fun a' w' h3 => ?_) h2
   obtain ⟨h4, h5, h6⟩ := h3
   obtain ⟨g1, g2⟩ := hI listed j w' hIl hr hj hji h5
   have h7 : clean ops (listed.setIfInBounds j true) = true → S w' := fun hc => h5 (by
    rw [Array.setIfInBounds_comm _ _ (Ne.symm hji)]
    exact Uy hc (fun o ho => by rw [hi] at ho; cases ho; exact hst))
   refine ⟨h7, ih (listed.setIfInBounds j true) a' w' g2 hfree' (ready_mono hr (Ne.symm hji)) h4 g1 (fun hc => h7 (tY hc)) ?_⟩
   rw [Array.setIfInBounds_comm _ _ hji]
   exact h6
theorem Xa {i : Nat} (h : JH ops i = true) {j : Nat} {o : Oper} (ho : ops[j]? = some o) (hs : jC o = true) : ∃ e ∈ o.after, Region.binds .any e = true ∧ e.on = i := by
 unfold JH at h
 rw [List.all_eq_true] at h
 have := h j (List.mem_range.2 (Array.getElem?_eq_some_iff.1 ho).1)
 simp only [ho, hs, Bool.not_true, Bool.false_or] at this
 obtain ⟨e, he, hb⟩ := Array.any_eq_true'.1 this
 simp only [Bool.and_eq_true, beq_iff_eq] at hb
 exact ⟨e, he, hb.1, hb.2⟩
end
section
variable {P : Program} {Γ : Env} {I : Nat → World → Prop} {B0 : Nat} {w0 : World}
def aeY (X T : List Nat) (b : Nat) (w : World) (C : Cx) (L : Nat → List Nat) : Prop := ∀ x ∈ X, x < w.heap.size ∧ (C.N x ∨ ∀ k, x ∈ L k → k ∉ T ∧ k < b)
def SX (X : List Nat) (wr w : World) : Prop := ∀ x ∈ X, w.heap[x]? = wr.heap[x]?
theorem aeY.next {X T : List Nat} {b : Nat} {w w' : World} {C C' : Cx} {L L' : Nat → List Nat} {Ts : List Nat} (h : aeY X T b w C L) (hT : ∀ k ∈ Ts, b ≤ k ∨ k ∈ T) (hle : C.Le w C' w') (ho : Ls w C L Ts C' L') (hf : ∀ x, x < w.heap.size → (C.N x ∨ ∀ k ∈ Ts, x ∉ L k) → w'.heap[x]? = w.heap[x]?) (hs : w.heap.size ≤ w'.heap.size) :
  aeY X T b w' C' L' ∧ SX X w w' := by
 have key : ∀ x, (∀ k, x ∈ L k → k ∉ T ∧ k < b) → ∀ k ∈ Ts, x ∉ L k := by
  intro x hx k hk hh
  obtain ⟨h1, h2⟩ := hx k hh
  rcases hT k hk with h3 | h3
  ·omega
  ·exact h1 h3
 refine ⟨fun x hx => ?_, fun x hx => ?_⟩
 ·obtain ⟨h1, h2⟩ := h x hx
  refine ⟨by omega, ?_⟩
  rcases h2 with h2 | h2
  ·exact .inl (hle.N x h2)
  ·by_cases hN : C'.N x
   ·exact .inl hN
   ·refine .inr (fun k hk => ?_)
    rcases ho.hd k x hk hN with h3 | h3 | ⟨j, hj, h3⟩
    ·exact h2 k h3
    ·omega
    ·exact absurd h3 (key x h2 j hj)
 ·obtain ⟨h1, h2⟩ := h x hx
  rcases h2 with h2 | h2
  ·exact hle.w x h2
  ·exact hf x h1 (.inr (key x h2))
theorem YD {ops : Array Oper} {o : Oper} {σ : St} {a : Act} {w : World} {C : Cx} {L : Nat → List Nat} (h : Rel B0 w0 σ a w C L) {F K : St → Option aj} {r : aj} (hp : guarded ops o σ F K = some r) :
  ∃ σ1, Rel B0 w0 σ1 a w C L ∧ σ1.nx = σ.nx ∧ σ1.tm.length = σ.tm.length ∧ σ1.io = σ.io ∧ ((Region.wanted o (yielded ops a.tmps) = true ∧ F σ1 = some r) ∨ (Region.wanted o (yielded ops a.tmps) = false ∧ K (σ1.put o.dst .ud) = some r)) := by
 unfold guarded at hp
 split at hp
 ·rename_i hg
  exact ⟨σ, h, rfl, rfl, rfl, .inl ⟨by simp [Region.wanted, hg], hp⟩⟩
 ·rename_i j want eg
  split at hp
  ·cases hp
  ·rename_i t et
   split at hp
   ·rename_i c ec
    have hev := h.ev (.tmp t)
    simp only [St.ev, ec] at hev
    have hval : a.tmps.getD t undef = .bool c := hev.1
    have hlt : t < a.tmps.size := by
     rcases Nat.lt_or_ge t a.tmps.size with h | h
     ·exact h
     ·rw [Array.getD_eq_getD_getElem?, Array.getElem?_eq_none h] at hval; cases hval
    have hget : a.tmps[t]? = some (.bool c) := by
     rw [Array.getD_eq_getD_getElem?] at hval
     rw [Array.getElem?_eq_getElem hlt] at hval ⊢
     exact congrArg some hval
    have hy : yielded ops a.tmps j = some c := by simp [yielded, et, hget]
    have hself : a.put (some t) (.bool c) = a := by
     simp only [Act.put]
     congr
     apply Array.ext_getElem?
     intro q
     rw [Array.getElem?_setIfInBounds]
     split
     ·rename_i hq; subst hq; exact hget.symm
     ·rfl
    have h' : Rel B0 w0 (σ.put (some t) (.s (.bool c))) a w C L := by
     have := h.put (some t) (v := .s (.bool c)) (c := .bool c) ⟨rfl, rfl⟩
     rwa [hself] at this
    have hw : Region.wanted o (yielded ops a.tmps) = (c == want) := by simp [Region.wanted, eg, hy]
    refine ⟨_, h', lS .., jd .., nT .., ?_⟩
    rw [hw]
    cases c <;> cases want <;> first | exact .inl ⟨rfl, hp⟩ | exact .inr ⟨rfl, hp⟩
   ·rename_i ec
    have hev := h.ev (.tmp t)
    simp only [St.ev, ec] at hev
    have hval : a.tmps.getD t undef = undef := hev
    have hy : yielded ops a.tmps j = none := by
     rw [Array.getD_eq_getD_getElem?] at hval
     cases e : a.tmps[t]? with
     | none => simp [yielded, et, e]
     | some q => rw [e] at hval; simp only [Option.getD_some] at hval; subst hval; simp [yielded, et, e, undef]
    exact ⟨σ, h, rfl, rfl, rfl, .inr ⟨by simp [Region.wanted, eg, hy], hp⟩⟩
   ·cases hp
theorem ali (hT : iV P Γ.ty) (hI : I B0 w0) (hG : acE I Γ) {T : List Nat} {b : Nat} {σ : St} {a : Act} {w : World} {C : Cx} {L : Nat → List Nat} (h : Rel B0 w0 σ a w C L) {o : Oper} {K : St → Option aj} {r : aj} (hp : quiet Γ T b o σ K = some r) :
  ∃ v cv, VR C w v cv ∧ K (σ.put o.dst v) = some r ∧ jC o = false ∧
   ((isLoad o = false ∧ ∀ w', (execOp a.eval o).run P w' = .ok (.value cv) w') ∨
   (isLoad o = true ∧ ∃ blk, blk < w.heap.size ∧ (C.N blk ∨ ∀ k, blk ∈ L k → k ∉ T ∧ k < b) ∧ ∀ w', w'.heap[blk]? = w.heap[blk]? → (execOp a.eval o).run P w' = .ok (.value cv) w')) := by
 unfold quiet at hp
 split at hp
 ·rename_i c y z ho
  split at hp
  ·rename_i c' ec
   have hc := h.ev c
   rw [ec] at hc
   have ec' : a.eval c = .bool c' := hc.1
   have hst : jC o = false := by simp [jC, ho]
   have hld : isLoad o = false := by simp [isLoad, ho]
   cases c' with
   | true => exact ⟨_, _, h.ev y, hp, hst, .inl ⟨hld, fun w' => by simp [execOp, ho, ec', asBool]⟩⟩
   | false => exact ⟨_, _, h.ev z, hp, hst, .inl ⟨hld, fun w' => by simp [execOp, ho, ec', asBool]⟩⟩
  ·cases hp
 ·split at hp
  ·rename_i c v ep
   cases c with
   | true =>
    obtain ⟨cv, h1, h2⟩ := yl hT h ep
    refine ⟨v, cv, h2, hp, ?_, .inl ⟨?_, h1⟩⟩
    ·cases ho : o.op <;> simp [jC, ho] <;> simp [lQ, ho] at ep
    ·cases ho : o.op <;> simp [isLoad, ho] <;> simp [lQ, ho] at ep
   | false => cases hp
  ·split at hp
   ·rename_i v el
    cases hl : loadable T b o σ with
    | false => rw [hl] at hp; cases hp
    | true =>
     rw [hl] at hp
     obtain ⟨cv, blk, h1, h2, h3⟩ := ld hT h el
     have hlo : isLoad o = true ∧ jC o = false := by
      unfold abN at el
      split at el
      ·rename_i ho; simp [isLoad, jC, ho]
      ·cases el
     refine ⟨v, cv, h1, hp, hlo.2, .inr ⟨hlo.1, blk, ?_, ?_, h3⟩⟩
     ·rcases h2 with h2 | ⟨k, _, h2, _⟩
      ·exact h.C9 blk h2
      ·exact (h.own k blk (List.mem_of_mem_head? h2)).2
     ·rcases h2 with h2 | ⟨k, hm, h2, t, p, ho, ha⟩
      ·exact .inl h2
      ·refine .inr (fun j hj => ?_)
       have hjk : j = k := by
        by_cases e : j = k
        ·exact e
        ·exact absurd (List.mem_of_mem_head? h2) (h.dj j k e blk hj)
       subst hjk
       unfold loadable at hl
       rw [ho] at hl
       simp only at hl
       rcases ha with ⟨c, e⟩ | ⟨i, c, e⟩ <;> rw [e] at hl <;> simp only [Bool.and_eq_true, Bool.not_eq_true'] at hl
       ·refine ⟨fun hm => ?_, Nat.le_of_ble_eq_true hl.1⟩
        have := hl.2
        simp at this
        exact this hm
       ·refine ⟨fun hm => ?_, Nat.le_of_ble_eq_true hl.1⟩
        have := hl.2
        simp at this
        exact this hm
   ·split at hp
    ·rename_i c v eg
     cases c with
     | false => cases hp
     | true =>
      obtain ⟨cv, h1, h2⟩ := glb hT hI hG h eg
      rcases h2 with ⟨_, _, _, ho, h2⟩ | ⟨_, _, ho, blk, hb, h2⟩
      ·exact ⟨v, cv, h1, hp, by simp [jC, ho], .inl ⟨by simp [isLoad, ho], h2⟩⟩
      ·refine ⟨v, cv, h1, hp, by simp [jC, ho], .inr ⟨by simp [isLoad, ho], blk, Nat.lt_of_lt_of_le hb h.hB0, .inr (fun k hk => ?_), h2⟩⟩
       have := (h.own k blk hk).1
       omega
    ·cases hp
theorem aeZ {P : Program} {ops : Array Oper} {Q : Exit → Act → World → Prop} {S : World → Prop} {listed : Array Bool} {a : Act} {w : World} (hr : Region.ready .any ops listed = []) (h : Q .normal a w) : ∀ fuel, AO P ops Q S fuel listed a w
 | 0 => ⟨hr, h⟩
 | _ + 1 => ⟨fun _ => h, by rw [hr]; simp⟩
def zi (P : Program) (Γ : Env) (B0 : Nat) (w0 : World) (e : En) (ops : Array Oper) (T : List Nat) (b nx len : Nat) (K : St → Option aj) (r : aj) (Q : Exit → Act → World → Prop) (p : Plan) : Prop :=
 ∀ {n : Nat} {listed : Array Bool}, AB ops p n listed = true → ∀ {X : List Nat} {wr : World} {σ : St} {a : Act} {w : World} {C : Cx} {L : Nat → List Nat} {done : List Nat}, Rel B0 w0 σ a w C L → Fr e σ w C L → Ux b done C → (∀ j ∈ done, listed.getD j false = true) → (∀ j ∈ done, j < ops.size) →
   (clean ops listed = true → aeY X T b w C L ∧ SX X wr w) → σ.nx = nx → σ.tm.length = len → su Γ ops T b p σ K = some r → AO P ops Q (SX X wr) n listed a w
def I5 (P : Program) (Γ : Env) (B0 : Nat) (w0 : World) (e : En) (ops : Array Oper) (T : List Nat) (b nx len : Nat) (K : St → Option aj) (r : aj) (Q : Exit → Act → World → Prop) (f : Forks) : Prop :=
 ∀ {n : Nat} {listed : Array Bool}, Rf ops f n listed = true → ∀ {X : List Nat} {wr : World}, (∀ i ∈ Ce f, i ∈ Region.ready .any ops listed) → ∀ {σ : St} {a : Act} {w : World} {C : Cx} {L : Nat → List Nat} {done : List Nat}, Rel B0 w0 σ a w C L → Fr e σ w C L → Ux b done C → (∀ j ∈ done, listed.getD j false = true) → (∀ j ∈ done, j < ops.size) →
   (clean ops listed = true → aeY X T b w C L ∧ SX X wr w) → σ.nx = nx → σ.tm.length = len → LG Γ ops T b f σ K = some r →
   ∀ i ∈ Ce f, wpOp P ops Q i (fun a' w' => (clean ops (listed.setIfInBounds i true) = true → SX X wr w') ∧ AO P ops Q (SX X wr) n (listed.setIfInBounds i true) a' w') a w
theorem amG {e : En} (hT : iV P Γ.ty) (hI : I B0 w0) (hΓ : Dc P I Γ) {ops : Array Oper} (hsel : Region.noSelect ops = true) {T : List Nat} {b nx len : Nat} {K : St → Option aj} {r : aj} {Q : Exit → Act → World → Prop} (hQ : ∀ a w, AtN B0 w0 e b (List.range ops.size) nx len K r a w → Q .normal a w) (WE : ∀ c a w, ¬ Q (.panic c) a w)
  {p : Plan} (IH : zi P Γ B0 w0 e ops T b nx len K r Q p) {n : Nat} {listed : Array Bool} {i : Nat} (hok : AB ops p n (listed.setIfInBounds i true) = true) {X : List Nat} {wr : World} {o : Oper} (ho : ops[i]? = some o) (JO : i ∈ Region.ready .any ops listed) {σ : St} {a : Act} {w : World} {C : Cx} {L : Nat → List Nat} {done : List Nat} (hwant : Region.wanted o (yielded ops a.tmps) = true) (hR : Rel B0 w0 σ a w C L) (hF : Fr e σ w C L) (hU : Ux b done C) (hd : ∀ j ∈ done, listed.getD j false = true) (hds : ∀ j ∈ done, j < ops.size)
   (hX : clean ops listed = true → aeY X T b w C L ∧ SX X wr w) (h1 : σ.nx = nx) (h2 : σ.tm.length = len) (hp : loud Γ T b i o σ (fun σ' => su Γ ops T b p σ' K) = some r) :
   wpOp P ops Q i (fun a' w' => (clean ops (listed.setIfInBounds i true) = true → SX X wr w') ∧ AO P ops Q (SX X wr) n (listed.setIfInBounds i true) a' w') a w := by
  unfold loud at hp
  cases hc : (jC o || (touched Γ.lend o σ).all (fun k => Nat.ble b k || T.contains k)) with
  | false => rw [hc] at hp; cases hp
  | true =>
   rw [hc] at hp
   simp only [cond_true] at hp
   have hlt : i < ops.size := (Array.getElem?_eq_some_iff.1 ho).1
   have h0 := (mem_ready.1 JO).1
   have hls : i < listed.size := by
    rcases Nat.lt_or_ge i listed.size with h | h
    ·exact h
    ·simp [Array.getElem?_eq_none h] at h0
   have hid : i ∉ done := fun hi => by
    have := hd i hi
    simp [hls] at this h0
    rw [this] at h0; cases h0
   have hd' : ∀ j ∈ i :: done, (listed.setIfInBounds i true).getD j false = true := by
    intro j hj
    rcases List.mem_cons.1 hj with rfl | hj
    ·simp [hls]
    ·exact getD_set_true (hd j hj)
   have hds' : ∀ j ∈ i :: done, j < ops.size := by
    intro j hj
    rcases List.mem_cons.1 hj with rfl | hj
    ·exact hlt
    ·exact hds j hj
   unfold wpOp
   rw [ho]
   simp only
   rw [if_pos hwant]
   refine .inl (Oper.wp_mono (fun a' w' hn => ?_) (step_ok hT hI hΓ hR (hU.free hid) hp))
   obtain ⟨σ', C', L', g1, g2, g3, g4, g5, g6, g8, g7⟩ := hn.ex
   have hX' : clean ops (listed.setIfInBounds i true) = true → aeY X T b w' C' L' ∧ SX X wr w' := by
    intro hcl
    have hst : jC o = false := by
     cases hs : jC o with
     | false => rfl
     | true =>
      have := Uw.1 hcl i o ho hs
      simp [hls] at this
    obtain ⟨hP, hS⟩ := hX (tY hcl)
    rw [hst, Bool.false_or, List.all_eq_true] at hc
    obtain ⟨r1, r2⟩ := hP.next (fun k hk => by
     have := hc k hk
     simp only [Bool.or_eq_true] at this
     rcases this with h | h
     ·exact .inl (Nat.le_of_ble_eq_true h)
     ·exact .inr (by simpa using h)) g3 g7 hn.fr hn.sz
    exact ⟨r1, fun x hx => (r2 x hx).trans (hS x hx)⟩
   exact ⟨fun hcl => (hX' hcl).2, IH hok g2 (hF.next g8 g3 g7 hn.fr hn.sz) (hU.next g4) hd' hds' hX' (g5.trans h1) (g6.trans h2) g1⟩
theorem ae0 {e : En} (hT : iV P Γ.ty) (hI : I B0 w0) (hΓ : Dc P I Γ) {ops : Array Oper} (hsel : Region.noSelect ops = true) {T : List Nat} {b nx len : Nat} {K : St → Option aj} {r : aj} {Q : Exit → Act → World → Prop} (hQ : ∀ a w, AtN B0 w0 e b (List.range ops.size) nx len K r a w → Q .normal a w) (WE : ∀ c a w, ¬ Q (.panic c) a w)
  {p : Plan} (IH : zi P Γ B0 w0 e ops T b nx len K r Q p) {n : Nat} {listed : Array Bool} {i : Nat} (hok : AB ops p n (listed.setIfInBounds i true) = true) {X : List Nat} {wr : World} {o : Oper} (ho : ops[i]? = some o) (JO : i ∈ Region.ready .any ops listed) {σ : St} {a : Act} {w : World} {C : Cx} {L : Nat → List Nat} {done : List Nat} (hR : Rel B0 w0 σ a w C L) (hF : Fr e σ w C L) (hU : Ux b done C) (hd : ∀ j ∈ done, listed.getD j false = true) (hds : ∀ j ∈ done, j < ops.size)
   (hX : clean ops listed = true → aeY X T b w C L ∧ SX X wr w) (h1 : σ.nx = nx) (h2 : σ.tm.length = len) (hp : guarded ops o σ (fun σ1 => loud Γ T b i o σ1 (fun σ' => su Γ ops T b p σ' K)) (fun σ' => su Γ ops T b p σ' K) = some r) :
   wpOp P ops Q i (fun a' w' => (clean ops (listed.setIfInBounds i true) = true → SX X wr w') ∧ AO P ops Q (SX X wr) n (listed.setIfInBounds i true) a' w') a w := by
 obtain ⟨σ1, k1, k2, k3, k4, k5⟩ := YD hR hp
 have hF1 : Fr e σ1 w C L := { hF with io := by rw [k4]; exact hF.io }
 rcases k5 with ⟨hw, hp1⟩ | ⟨hw, hp1⟩
 ·exact amG hT hI hΓ hsel hQ WE IH hok ho JO hw k1 hF1 hU hd hds hX (k2.trans h1) (k3.trans h2) hp1
 ·have hlt : i < ops.size := (Array.getElem?_eq_some_iff.1 ho).1
  have h0 := (mem_ready.1 JO).1
  have hls : i < listed.size := by
   rcases Nat.lt_or_ge i listed.size with h | h
   ·exact h
   ·simp [Array.getElem?_eq_none h] at h0
  have hd' : ∀ j ∈ done, (listed.setIfInBounds i true).getD j false = true := fun j hj => getD_set_true (hd j hj)
  unfold wpOp
  rw [ho]
  simp only
  rw [if_neg (by rw [hw]; simp)]
  exact ⟨fun hc => (hX (tY hc)).2, IH hok (k1.put o.dst (v := .ud) rfl) { hF1 with io := by rw [nT]; exact hF1.io } hU hd' hds (fun hc => hX (tY hc)) (by rw [lS]; exact k2.trans h1) (by rw [jd]; exact k3.trans h2) hp1⟩
theorem ajL {e : En} (hT : iV P Γ.ty) (hI : I B0 w0) (hΓ : Dc P I Γ) {ops : Array Oper} (hsel : Region.noSelect ops = true) {T : List Nat} {b nx len : Nat} {K : St → Option aj} {r : aj} {Q : Exit → Act → World → Prop} (hQ : ∀ a w, AtN B0 w0 e b (List.range ops.size) nx len K r a w → Q .normal a w) (WE : ∀ c a w, ¬ Q (.panic c) a w) : zi P Γ B0 w0 e ops T b nx len K r Q .done := by
 intro n listed hok X wr σ a w C L done hR hF hU hd hds hX h1 h2 hp
 simp only [AB, List.isEmpty_iff] at hok
 refine aeZ hok (hQ a w ⟨σ, hp, ⟨C, L, hR, hF, fun k hk => (hU k hk).imp id (fun ⟨j, hj, h⟩ => ⟨j, List.mem_range.2 (hds j hj), h⟩)⟩, h1, h2⟩) n
theorem ajM {e : En} (hT : iV P Γ.ty) (hI : I B0 w0) (hΓ : Dc P I Γ) {ops : Array Oper} (hsel : Region.noSelect ops = true) {T : List Nat} {b nx len : Nat} {K : St → Option aj} {r : aj} {Q : Exit → Act → World → Prop} (hQ : ∀ a w, AtN B0 w0 e b (List.range ops.size) nx len K r a w → Q .normal a w) (WE : ∀ c a w, ¬ Q (.panic c) a w) {i : Nat} {p : Plan} (IH0 : zi P Γ B0 w0 e ops T b nx len K r Q p) : zi P Γ B0 w0 e ops T b nx len K r Q (.take i p) := by
 intro n
 cases n with
 | zero => intro listed hok; simp [AB] at hok
 | succ n =>
  intro listed hok X wr σ a w C L done hR hF hU hd hds hX h1 h2 hp
  simp only [AB, Bool.and_eq_true] at hok
  obtain ⟨⟨⟨k1, k2⟩, k3⟩, k4⟩ := hok
  simp only [su] at hp
  split at hp
  ·rename_i o ho
   simp only [ho, Bool.and_eq_true, Bool.not_eq_true'] at k3
   have JO : i ∈ Region.ready .any ops listed := by simpa using k1
   have hlt : i < ops.size := (Array.getElem?_eq_some_iff.1 ho).1
   obtain ⟨σ1, hR1, k5, k6, k7, k8⟩ := YD hR hp
   have hF1 : Fr e σ1 w C L := { hF with io := by rw [k7]; exact hF.io }
   have h11 : σ1.nx = nx := k5.trans h1
   have h12 : σ1.tm.length = len := k6.trans h2
   have hd' : ∀ j ∈ i :: done, (listed.setIfInBounds i true).getD j false = true := by
    intro j hj
    rcases List.mem_cons.1 hj with rfl | hj
    ·have h0 := (mem_ready.1 JO).1
     have hls : j < listed.size := by
      rcases Nat.lt_or_ge j listed.size with h | h
      ·exact h
      ·simp [Array.getElem?_eq_none h] at h0
     simp [hls]
    ·exact getD_set_true (hd j hj)
   have hds' : ∀ j ∈ i :: done, j < ops.size := by
    intro j hj
    rcases List.mem_cons.1 hj with rfl | hj
    ·exact hlt
    ·exact hds j hj
   have hU' : Ux b (i :: done) C := fun k hk => (hU k hk).imp id (fun ⟨j, hj, h⟩ => ⟨j, by simp [hj], h⟩)
   rcases k8 with ⟨hwant, hp⟩ | ⟨hwant, hp⟩
   case inr =>
    have IH := IH0 k4 (X := X) (wr := wr) (hR1.put o.dst (v := .ud) (c := undef) rfl) { hF1 with io := by rw [nT]; exact hF1.io } hU' hd' hds' (fun hc => hX (tY hc)) (by rw [lS]; exact h11) (by rw [jd]; exact h12) hp
    exact JM (SY := fun _ => True) (I := fun _ => True) ho k3.1 (Region.noSelect_spec hsel) WE (fun _ _ _ _ _ _ _ _ => ⟨trivial, trivial⟩) n listed a w trivial (Region.free_spec ho k2) JO (.inr ⟨hwant, rfl⟩) trivial (fun hc => (hX (tY hc)).2) IH
   obtain ⟨v, cv, g1, g2, g3, g4⟩ := ali hT hI hΓ.gl hR1 hp
   rcases g4 with ⟨hl, g4⟩ | ⟨hl, blk, q1, q2, q3⟩
   ·have IH := IH0 k4 (X := X) (wr := wr) (hR1.put o.dst g1) { hF1 with io := by rw [nT]; exact hF1.io } hU' hd' hds' (fun hc => hX (tY hc)) (by rw [lS]; exact h11) (by rw [jd]; exact h12) g2
    exact JM (SY := fun _ => True) (I := fun _ => True) ho g3 (Region.noSelect_spec hsel) WE (fun _ _ _ _ _ _ _ _ => ⟨trivial, trivial⟩) n listed a w trivial (Region.free_spec ho k2) JO (.inl ⟨hwant, fun w' _ => g4 w'⟩) trivial (fun hc => (hX (tY hc)).2) IH
   ·have hcl : clean ops listed = true ∧ JH ops i = true := by simpa [hl] using k3.2
    obtain ⟨hP, hS⟩ := hX hcl.1
    have IH := IH0 k4 (X := blk :: X) (wr := w) (hR1.put o.dst g1) { hF1 with io := by rw [nT]; exact hF1.io } hU' hd' hds' (fun hc => ⟨fun x hx => by
      rcases List.mem_cons.1 hx with rfl | hx
      ·exact ⟨q1, q2⟩
      ·exact hP x hx, fun x hx => rfl⟩) (by rw [lS]; exact h11) (by rw [jd]; exact h12) g2
    have hfirst := JM (SY := SX (blk :: X) w) (S := SX (blk :: X) w) (I := fun l => clean ops l = true) ho g3 (Region.noSelect_spec hsel) WE (fun l j w' hIl hri hrj hji hS' => by
      obtain ⟨hjun, oj, hoj, hall⟩ := mem_ready.1 hrj
      have hjs : jC oj = false := by
       cases hs : jC oj with
       | false => rfl
       | true =>
        obtain ⟨ed, he, hb, hon⟩ := Xa hcl.2 hoj hs
        have h1 := hall ed he hb
        have h0 := (mem_ready.1 hri).1
        rw [hon] at h1
        rcases Nat.lt_or_ge i l.size with h' | h'
        ·simp [h'] at h0 h1; rw [h0] at h1; cases h1
        ·simp [Array.getElem?_eq_none h'] at h1
      have hc1 : clean ops (l.setIfInBounds j true) = true := Uy hIl (fun o' ho' => by rw [hoj] at ho'; cases ho'; exact hjs)
      refine ⟨hS' ?_, hc1⟩
      rw [Array.setIfInBounds_comm _ _ (Ne.symm hji)]
      exact Uy hc1 (fun o' ho' => by rw [ho] at ho'; cases ho'; exact g3)) n listed a w hcl.1 (Region.free_spec ho k2) JO (.inl ⟨hwant, fun w' hw' => q3 w' (hw' blk (by simp))⟩) (fun x hx => rfl) (fun _ => fun x hx => rfl) IH
    exact hfirst.imp (fun w' hw' x hx => (hw' x (by simp [hx])).trans (hS x hx))
  ·cases hp
theorem ajN {e : En} (hT : iV P Γ.ty) (hI : I B0 w0) (hΓ : Dc P I Γ) {ops : Array Oper} (hsel : Region.noSelect ops = true) {T : List Nat} {b nx len : Nat} {K : St → Option aj} {r : aj} {Q : Exit → Act → World → Prop} (hQ : ∀ a w, AtN B0 w0 e b (List.range ops.size) nx len K r a w → Q .normal a w) (WE : ∀ c a w, ¬ Q (.panic c) a w) {f : Forks} (IHf : I5 P Γ B0 w0 e ops T b nx len K r Q f) : zi P Γ B0 w0 e ops T b nx len K r Q (.fork f) := by
 intro n
 cases n with
 | zero => intro listed hok; simp [AB] at hok
 | succ n =>
  intro listed hok X wr σ a w C L done hR hF hU hd hds hX h1 h2 hp
  simp only [AB, Bool.and_eq_true, beq_iff_eq] at hok
  simp only [su] at hp
  have key := IHf hok.2 (X := X) (wr := wr) (fun i hi => by rw [hok.1]; exact hi) hR hF hU hd hds hX h1 h2 hp
  refine ⟨fun h0 => ?_, fun i hi => key i (by rw [← hok.1]; exact hi)⟩
  rw [h0] at hok
  exfalso
  cases f <;> simp [Ce] at hok
theorem ajO {e : En} (hT : iV P Γ.ty) (hI : I B0 w0) (hΓ : Dc P I Γ) {ops : Array Oper} (hsel : Region.noSelect ops = true) {T : List Nat} {b nx len : Nat} {K : St → Option aj} {r : aj} {Q : Exit → Act → World → Prop} (hQ : ∀ a w, AtN B0 w0 e b (List.range ops.size) nx len K r a w → Q .normal a w) (WE : ∀ c a w, ¬ Q (.panic c) a w) {i : Nat} {p : Plan} (IH0 : zi P Γ B0 w0 e ops T b nx len K r Q p) : I5 P Γ B0 w0 e ops T b nx len K r Q (.one i p) := by
 intro n listed hok X wr hr σ a w C L done hR hF hU hd hds hX h1 h2 hp j hj
 simp only [Ce, List.mem_singleton] at hj
 subst hj
 simp only [Rf, Bool.and_eq_true] at hok
 simp only [LG] at hp
 split at hp
 ·rename_i o ho
  exact ae0 hT hI hΓ hsel hQ WE IH0 hok.2 ho (hr _ (by simp [Ce])) hR hF hU hd hds hX h1 h2 hp
 ·cases hp
theorem ahB {e : En} (hT : iV P Γ.ty) (hI : I B0 w0) (hΓ : Dc P I Γ) {ops : Array Oper} (hsel : Region.noSelect ops = true) {T : List Nat} {b nx len : Nat} {K : St → Option aj} {r : aj} {Q : Exit → Act → World → Prop} (hQ : ∀ a w, AtN B0 w0 e b (List.range ops.size) nx len K r a w → Q .normal a w) (WE : ∀ c a w, ¬ Q (.panic c) a w) {i : Nat} {p : Plan} {f : Forks} (IH0 : zi P Γ B0 w0 e ops T b nx len K r Q p) (IHf : I5 P Γ B0 w0 e ops T b nx len K r Q f) : I5 P Γ B0 w0 e ops T b nx len K r Q (.more i p f) := by
 intro n listed hok X wr hr σ a w C L done hR hF hU hd hds hX h1 h2 hp j hj
 simp only [Rf, Bool.and_eq_true] at hok
 simp only [LG] at hp
 split at hp
 ·rename_i o ho
  obtain ⟨hp1, hp2⟩ := Uu hp
  simp only [Ce, List.mem_cons] at hj
  rcases hj with rfl | hj
  ·exact ae0 hT hI hΓ hsel hQ WE IH0 hok.1.2 ho (hr _ (by simp [Ce])) hR hF hU hd hds hX h1 h2 hp1
  ·exact IHf hok.2 (fun i hi => hr i (by simp [Ce, hi])) hR hF hU hd hds hX h1 h2 hp2 j hj
 ·cases hp
mutual
theorem Rl {e : En} (hT : iV P Γ.ty) (hI : I B0 w0) (hΓ : Dc P I Γ) {ops : Array Oper} (hsel : Region.noSelect ops = true) {T : List Nat} {b nx len : Nat} {K : St → Option aj} {r : aj} {Q : Exit → Act → World → Prop} (hQ : ∀ a w, AtN B0 w0 e b (List.range ops.size) nx len K r a w → Q .normal a w) (WE : ∀ c a w, ¬ Q (.panic c) a w) : (p : Plan) → zi P Γ B0 w0 e ops T b nx len K r Q p
 | .done => ajL hT hI hΓ hsel hQ WE
 | .take i p => ajM hT hI hΓ hsel hQ WE (Rl hT hI hΓ hsel hQ WE p)
 | .fork f => ajN hT hI hΓ hsel hQ WE (abY hT hI hΓ hsel hQ WE f)
theorem abY {e : En} (hT : iV P Γ.ty) (hI : I B0 w0) (hΓ : Dc P I Γ) {ops : Array Oper} (hsel : Region.noSelect ops = true) {T : List Nat} {b nx len : Nat} {K : St → Option aj} {r : aj} {Q : Exit → Act → World → Prop} (hQ : ∀ a w, AtN B0 w0 e b (List.range ops.size) nx len K r a w → Q .normal a w) (WE : ∀ c a w, ¬ Q (.panic c) a w) : (f : Forks) → I5 P Γ B0 w0 e ops T b nx len K r Q f
 | .one i p => ajO hT hI hΓ hsel hQ WE (Rl hT hI hΓ hsel hQ WE p)
 | .more i p f => ahB hT hI hΓ hsel hQ WE (Rl hT hI hΓ hsel hQ WE p) (abY hT hI hΓ hsel hQ WE f)
end
theorem amH {e : En} (hm : P.follows .mixedOrders = true) (hT : iV P Γ.ty) (hI : I B0 w0) (hΓ : Dc P I Γ) {ops : Array Oper} {id : Nat} {p : Plan} (hok : (Region.noSelect ops && AB ops p ops.size (Array.replicate ops.size false)) = true) {T : List Nat} {nx : Nat} {K : St → Option aj} {r : aj} {Q : Exit → Act → World → Prop} {σ : St} {a : Act} {w : World}
  (h : AtR B0 w0 e σ.nx [] σ a w) (hQ : ∀ a w, AtN B0 w0 e σ.nx (List.range ops.size) nx σ.tm.length K r a w → Q .normal a w) (WE : ∀ c a w, ¬ Q (.panic c) a w) (hp : su Γ ops T σ.nx p { σ with nx := nx } K = some r) : (Code.region id ops true).wp P Q a w := by
 simp only [Bool.and_eq_true] at hok
 obtain ⟨C, L, h1, h2, h3⟩ := h
 refine wp_region_any hm (YC (S := SX [] w) _ _ _ _ ?_)
 have hle : C.Le w C { w with drawn := w.drawn + 1 } := ⟨fun _ _ _ h => h, fun _ h => h, fun _ h => h, fun _ _ => rfl, fun _ _ _ h => h⟩
 have hR : Rel B0 w0 { σ with nx := nx } a { w with drawn := w.drawn + 1 } C L :=
  {below := ⟨h1.below.os, h1.below.tape, h1.below.output, h1.below.size, h1.below.block⟩, hB0 := h1.hB0, defers := h1.defers, len := h1.len, tm := fun i v hv => by
    obtain ⟨c, g1, g2⟩ := h1.tm i v hv
    exact ⟨c, g1, g2.le hle⟩, ob := fun k => (h1.ob k).le hle rfl rfl (fun _ _ => rfl), us := h1.us, nd := h1.nd, dj := h1.dj, own := h1.own, nw := h1.nw, C9 := h1.C9 }
 exact Rl hT hI hΓ hok.1 hQ WE p hok.2 hR ⟨h2.io.le hle, h2.nm, h2.fr, h2.hd, h2.ow, h2.nn, h2.sz⟩ h3 (fun _ h => (nomatch h)) (fun _ h => (nomatch h)) (fun _ => ⟨fun _ h => (nomatch h), fun _ h => (nomatch h)⟩) rfl rfl hp
end
end Go.Ev
end
section
set_option linter.unusedVariables false
namespace Go.Ev
open Go.RowKit
theorem LQ (ob : dR) : ∀ (n : Nat) (acc ks : List Nat), acc.Nodup → (reach ob n acc ks).Nodup
 | 0, acc, ks, h => by cases ks <;> simpa [reach] using h
 | n + 1, acc, [], h => by simpa [reach] using h
 | n + 1, acc, k :: ks, h => by
  simp only [reach]
  split
  ·exact LQ ob n acc ks h
  ·rename_i hk
   refine LQ ob n _ _ ?_
   rw [List.nodup_append]
   refine ⟨h, by simp, fun x hx y hy e => ?_⟩
   simp at hy
   subst hy; subst e
   exact hk (by simpa using hx)
theorem aiY (g : Nat → E) : ∀ (m : List Nat) (n i : Nat), dR.get ((m.zipIdx n).map (fun p => (p.2, g p.1))) i = if n ≤ i then (match m[i - n]? with | some k => g k | none => .no) else .no
 | [], n, i => by simp [dR.get]
 | k :: m, n, i => by
  simp only [List.zipIdx_cons, List.map_cons, dR.get]
  by_cases h : n = i
  ·subst h; simp [Nat.beq_refl]
  ·have hb : n.beq i = false := by rw [Bool.eq_false_iff]; intro h'; exact h (Nat.eq_of_beq_eq_true h')
   rw [hb, aiY g m (n + 1) i]
   simp only [cond_false]
   by_cases h1 : n + 1 ≤ i
   ·rw [if_pos h1, if_pos (by omega), show i - n = (i - (n + 1)) + 1 by omega]
    simp
   ·rw [if_neg h1, if_neg (by omega)]
theorem YE (m : List Nat) : ∀ (vs : List V), LJ m vs = vs.map (V.ren m)
 | [] => rfl
 | v :: vs => by simp [LJ, YE m vs]
theorem YF (live : List Nat) : ∀ (i : Nat) (vs : List V), (keep live i vs).length = vs.length
 | _, [] => rfl
 | i, v :: vs => by simp [keep, YF live (i + 1) vs]
theorem ae1 (live : List Nat) : ∀ (i : Nat) (vs : List V) (j : Nat) (v : V), (keep live i vs)[j]? = some v → v = .x ∨ vs[j]? = some v
 | _, [], j, v, h => by simp [keep] at h
 | i, u :: vs, 0, v, h => by
  simp [keep] at h
  split at h
  ·exact .inr (by simp [h])
  ·exact .inl h.symm
 | i, u :: vs, j + 1, v, h => by
  simp [keep] at h
  simpa using ae1 live (i + 1) vs j v h
theorem Rn {m : List Nat} {k : Nat} (h : k ∈ m) : m[m.idxOf k]? = some k := by
 have hlt := List.idxOf_lt_length_of_mem h
 rw [List.getElem?_eq_getElem hlt]
 congr 1
 exact List.getElem_idxOf hlt
def Cx.ren (C : Cx) (m : List Nat) : Cx := { φ := fun i => match m[i]? with | some k => C.φ k | none => none, U := fun i => i < m.length, N := C.N, hs := fun i => match m[i]? with | some k => C.hs k | none => none }
mutual
theorem VR.ren {C : Cx} {w : World} (m : List Nat) : (u : V) → {c : Value} → VR C w u c → VR (C.ren m) w (u.ren m) c
 | .s _, _, h => h
 | .a cs, _, ⟨vs, h1, h2⟩ => ⟨vs, h1, jv.ren m cs h2⟩
 | .t cs, _, ⟨vs, h1, h2⟩ => ⟨vs, h1, jv.ren m cs h2⟩
 | .nl, _, h => h
 | .gl _, _, h => h
 | .gq _ _ _, _, h => h
 | .ud, _, h => h
 | .l _ r xs, _, h => h
 | .w k, c, h => by
  simp only [V.ren]
  split
  ·rename_i hk
   have hk' : k ∈ m := by simpa using hk
   exact ⟨List.idxOf_lt_length_of_mem hk', h.2.1, fun cv n hφ => h.2.2 cv n (by simpa [Cx.ren, Rn hk'] using hφ)⟩
  ·trivial
 | .r k off len, c, h => by
  simp only [V.ren]
  split
  ·rename_i hk
   have hk' : k ∈ m := by simpa using hk
   exact ⟨List.idxOf_lt_length_of_mem hk', h.2.1, fun cv n hφ => h.2.2 cv n (by simpa [Cx.ren, Rn hk'] using hφ)⟩
  ·trivial
 | .pb k j, c, h => by
  simp only [V.ren]
  split
  ·rename_i hk
   have hk' : k ∈ m := by simpa using hk
   exact ⟨List.idxOf_lt_length_of_mem hk', h.2.1, fun b hφ => h.2.2 b (by simpa [Cx.ren, Rn hk'] using hφ)⟩
  ·trivial
 | .pa k i j, c, h => by
  simp only [V.ren]
  split
  ·rename_i hk
   have hk' : k ∈ m := by simpa using hk
   exact ⟨List.idxOf_lt_length_of_mem hk', h.2.1, fun cv n hφ => h.2.2 cv n (by simpa [Cx.ren, Rn hk'] using hφ)⟩
  ·trivial
 | .sb k i j, c, h => by
  simp only [V.ren]
  split
  ·rename_i hk
   have hk' : k ∈ m := by simpa using hk
   exact ⟨List.idxOf_lt_length_of_mem hk', h.2.1, fun f hf => h.2.2 f (by simpa [Cx.ren, Rn hk'] using hf)⟩
  ·trivial
 | .qb cs j, _, ⟨b, vs, ty, h1, h2, h3, h4⟩ => ⟨b, vs, ty, h1, h2, h3, jv.ren m cs h4⟩
 | .q r d j, _, h => h
 | .f g caps, _, ⟨vs, h1, h2⟩ => ⟨vs, h1, jv.ren m caps h2⟩
 | .io _, _, h => h.elim
 | .x, _, _ => trivial
theorem jv.ren {C : Cx} {w : World} (m : List Nat) : (us : List V) → {vs : List Value} → jv C w us vs → jv (C.ren m) w (LJ m us) vs
 | [], _, h => h
 | u :: us, _, ⟨v, vs', h1, h2, h3⟩ => ⟨v, vs', h1, VR.ren m u h2, jv.ren m us h3⟩
end
section
variable {P : Program} {Γ : Env} {I : Nat → World → Prop} {B0 : Nat} {w0 : World} {σ : St} {a : Act} {w : World}
theorem I7 {e : En} {b : Nat} {done : List Nat} (live : List Nat) (h : AtR B0 w0 e b done σ a w) : AtR B0 w0 e (canon live σ).nx [] (canon live σ) a w ∧ (canon live σ).tm.length = σ.tm.length := by
 obtain ⟨C, L, h1, h2, h3⟩ := h
 obtain ⟨m, hm⟩ : ∃ m, m = reach σ.ob 1000 [] (LH (keep live 0 σ.tm) ++ LH σ.io) := ⟨_, rfl⟩
 have hnd : m.Nodup := by rw [hm]; exact LQ _ _ _ _ List.nodup_nil
 have hc : canon live σ = { tm := LJ m (keep live 0 σ.tm), ob := m.zipIdx.map (fun p => (p.2, (σ.ob.get p.1).ren m)), nx := m.length, io := LJ m σ.io } := by
  rw [hm]; rfl
 have hlen : (LJ m (keep live 0 σ.tm)).length = σ.tm.length := by rw [YE, List.length_map, YF]
 rw [hc]
 have hob : ∀ i, St.obj { tm := LJ m (keep live 0 σ.tm), ob := m.zipIdx.map (fun p => (p.2, (σ.ob.get p.1).ren m)), nx := m.length, io := LJ m σ.io } i = match m[i]? with | some k => (σ.obj k).ren m | none => .no := by
  intro i
  have := aiY (fun k => (σ.ob.get k).ren m) m 0 i
  simpa [St.obj] using this
 refine ⟨⟨C.ren m, fun i => match m[i]? with | some k => L k | none => [], ?_, ⟨jv.ren m _ h2.io, h2.nm, h2.fr, fun i x hx hn => ?_, fun i x hx => ?_, h2.nn, h2.sz⟩, fun k hk => .inl hk⟩, hlen⟩
 ·refine { below := h1.below, hB0 := h1.hB0, defers := h1.defers, len := by rw [hlen]; exact h1.len, tm := fun i v hv => ?_, ob := fun i => ?_, us := fun i hi => ?_, nd := fun i => ?_, dj := fun i j hij x hx => ?_, own := fun i x hx => ?_, nw := fun i x hwr => ?_, C9 := h1.C9 }
  ·simp only [YE, List.getElem?_map, Option.map_eq_some_iff] at hv
   obtain ⟨u, hu, rfl⟩ := hv
   have hlt : i < σ.tm.length := by
    have := (List.getElem?_eq_some_iff.1 hu).1
    rwa [YF] at this
   rcases ae1 live 0 σ.tm i u hu with rfl | hu
   ·have : i < a.tmps.size := by rw [h1.len]; exact hlt
    exact ⟨a.tmps[i], Array.getElem?_eq_getElem this, trivial⟩
   ·obtain ⟨c, g1, g2⟩ := h1.tm i u hu
    exact ⟨c, g1, g2.ren m⟩
  ·rw [hob]
   cases hmi : m[i]? with
   | none => exact rfl
   | some k =>
    have := h1.ob k
    simp only
    cases he : σ.obj k with
    | no => rw [he] at this; exact this
    | box cs =>
     rw [he] at this
     obtain ⟨blk, vs, ty, g1, g2, g3, g4⟩ := this
     exact ⟨blk, vs, ty, by simp [Cx.ren, hmi, g1], g2, g3, jv.ren m cs g4⟩
    | arr mu deep r xs =>
     rw [he] at this
     obtain ⟨cv, F, g1, g2⟩ := this
     exact ⟨cv, F, by simp [Cx.ren, hmi, g1], g2⟩
    | own st r xs =>
     rw [he] at this
     obtain ⟨cv, g1, g2, g3⟩ := this
     refine ⟨cv, by simp [Cx.ren, hmi, g1], g2, fun hst => ?_⟩
     obtain ⟨f, g4, g5⟩ := g3 hst
     exact ⟨f, by simp [Cx.ren, hmi, g4], g5⟩
  ·show i < m.length
   rcases Nat.lt_or_ge i m.length with h | h
   ·exact h
   ·exact absurd (by simp [Cx.ren, List.getElem?_eq_none h]) hi
  ·cases hmi : m[i]? with
   | none => simp
   | some k => simpa using h1.nd k
  ·cases hmi : m[i]? with
   | none => rw [hmi] at hx; cases hx
   | some k =>
    rw [hmi] at hx
    cases hmj : m[j]? with
    | none => simp
    | some k' =>
     refine h1.dj k k' (fun e => ?_) x hx
     subst e
     have hi := (List.getElem?_eq_some_iff.1 hmi).1
     exact hij ((List.getElem?_inj hi hnd).1 (hmi.trans hmj.symm))
  ·cases hmi : m[i]? with
   | none => rw [hmi] at hx; cases hx
   | some k => rw [hmi] at hx; exact h1.own k x hx
  ·rw [hob] at hwr
   cases hmi : m[i]? with
   | none => rw [hmi] at hwr; exact absurd hwr.mem (by simp)
   | some k =>
    rw [hmi] at hwr
    refine h1.nw k x ?_
    simp only at hwr
    cases he : σ.obj k <;> rw [he] at hwr <;> exact hwr
 ·cases hmi : m[i]? with
  | none => rw [hmi] at hx; cases hx
  | some k => rw [hmi] at hx; exact h2.hd k x hx hn
 ·cases hmi : m[i]? with
  | none => rw [hmi] at hx; cases hx
  | some k => rw [hmi] at hx; exact h2.ow k x hx
theorem jv.set {C : Cx} {w : World} {u : V} {c : Value} : ∀ {us : List V} {vs : List Value} (i : Nat), jv C w us vs → vs[i]? = some c → VR C w u c → jv C w (us.set i u) vs
 | [], vs, i, h, hc, _ => by
  have : vs = [] := h
  subst this; simp at hc
 | u' :: us, _, 0, ⟨v, vs', rfl, h2, h3⟩, hc, hu => by
  simp only [List.getElem?_cons_zero, Option.some.injEq] at hc
  subst hc
  exact ⟨_, vs', rfl, hu, h3⟩
 | u' :: us, _, i + 1, ⟨v, vs', rfl, h2, h3⟩, hc, hu => ⟨v, vs', rfl, h2, jv.set i h3 (by simpa using hc) hu⟩
theorem jv.aoF {C : Cx} {w : World} : ∀ {us : List V} {vs : List Value} (i : Nat), jv C w us vs → us[i]? = some .nl → vs[i]? = some (.slice none 0 0)
 | [], _, i, _, h => by simp at h
 | u :: us, _, 0, ⟨v, vs', rfl, h2, h3⟩, h => by
  simp only [List.getElem?_cons_zero, Option.some.injEq] at h
  subst h
  have : v = .slice none 0 0 := h2
  rw [this]; rfl
 | u :: us, _, i + 1, ⟨v, vs', rfl, h2, h3⟩, h => by
  have := jv.aoF i h3 (by simpa using h)
  simpa using this
theorem acP {e : En} (q : Nat × Nat × Rw) (h : AtR B0 w0 e σ.nx [] σ a w) : AtR B0 w0 e (ajC q σ).nx [] (ajC q σ) a w ∧ (ajC q σ).tm.length = σ.tm.length := by
 obtain ⟨C, L, h1, h2, h3⟩ := h
 have hU : ¬ C.U σ.nx := fun hk => by
  rcases h3 _ hk with h | ⟨j, hj, _⟩
  ·omega
  ·cases hj
 have hφ : C.φ σ.nx = none := by
  cases hp : C.φ σ.nx with
  | none => rfl
  | some p => exact absurd (h1.us _ (by rw [hp]; simp)) hU
 have hL : L σ.nx = [] := by
  have := h1.ob σ.nx
  cases he : σ.obj σ.nx with
  | no => rw [he] at this; exact this
  | box cs => rw [he] at this; obtain ⟨b, vs, ty, g, _⟩ := this; rw [hφ] at g; cases g
  | arr mu deep r xs => rw [he] at this; obtain ⟨cv, F, g, _⟩ := this; rw [hφ] at g; cases g
  | own st r xs => rw [he] at this; obtain ⟨cv, g, _⟩ := this; rw [hφ] at g; cases g
 have key : ∀ (r : Rw), ∃ C' : Cx, C'.φ σ.nx = some (.arr (.slice none 0 0) r.n) ∧ (∀ k, k ≠ σ.nx → C'.φ k = C.φ k) ∧ C'.hs = C.hs ∧ C'.N = C.N ∧ (∀ k, C'.U k ↔ C.U k ∨ k = σ.nx) := fun r =>
  ⟨{ φ := fun k => if k = σ.nx then some (.arr (.slice none 0 0) r.n) else C.φ k, U := fun k => C.U k ∨ k = σ.nx, N := C.N, hs := C.hs }, by simp, fun k hk => by simp [hk], rfl, rfl, fun k => Iff.rfl⟩
 have fin : ∀ (r : Rw) (σ' : St), σ'.nx = σ.nx + 1 → σ'.tm.length = σ.tm.length → σ'.io = σ.io → σ'.obj σ.nx = .arr true true r [] →
   (∀ C' : Cx, C.Le w C' w → VR C' w (.w σ.nx) (.slice none 0 0) → (∀ k, k ≠ σ.nx → C'.φ k = C.φ k) → C'.hs = C.hs → (∀ (i : Nat) (v : V), σ'.tm[i]? = some v → ∃ c, a.tmps[i]? = some c ∧ VR C' w v c) ∧ ∀ k, k ≠ σ.nx → ObR C' w k (σ'.obj k) (L k) ∧ ∀ b, wr (σ'.obj k) (L k) b → wr (σ.obj k) (L k) b) →
   AtR B0 w0 e σ'.nx [] σ' a w ∧ σ'.tm.length = σ.tm.length := by
  intro r σ' e1 e2 e3 e4 hh
  obtain ⟨C', c1, c2, c3, c4, c5⟩ := key r
  have hle : C.Le w C' w := ⟨fun k p hu hp => by
    have : k ≠ σ.nx := fun e => hU (e ▸ hu)
    rw [← c2 k this]; exact hp, fun k hu => (c5 k).2 (.inl hu), fun b hb => by rw [c4]; exact hb, fun _ _ => rfl, fun k f _ hp => by rw [c3] at hp; exact hp⟩
  have hw : VR C' w (.w σ.nx) (.slice none 0 0) := ⟨(c5 _).2 (.inr rfl), rfl, fun cv n hp => by rw [c1] at hp; cases hp; rfl⟩
  obtain ⟨g1, g2⟩ := hh C' hle hw c2 c3
  refine ⟨⟨C', L, { below := h1.below, hB0 := h1.hB0, defers := h1.defers, len := by rw [e2]; exact h1.len, tm := g1, ob := fun k => ?_, us := fun k hk => ?_, nd := h1.nd, dj := h1.dj, own := h1.own, nw := fun k b hb => ?_, C9 := fun b hb => h1.C9 b (by rw [← c4]; exact hb) }, { io := by rw [e3]; exact h2.io.le hle, nm := fun x hx => by rw [c4]; exact h2.nm x hx, fr := h2.fr, hd := fun k x hx hn => h2.hd k x hx (by rw [← c4]; exact hn), ow := h2.ow, nn := fun x hx => h2.nn x (by rw [← c4]; exact hx), sz := h2.sz }, fun k hk => ?_⟩, e2⟩
  ·by_cases e : k = σ.nx
   ·subst e
    rw [e4, hL]
    exact ⟨.slice none 0 0, [], c1, .inl ⟨rfl, rfl, none, 0, rfl, fun _ => ⟨rfl, rfl⟩⟩, fun b hb => (nomatch hb), rfl⟩
   ·exact (g2 k e).1
  ·by_cases e : k = σ.nx
   ·exact (c5 k).2 (.inr e)
   ·rw [c2 k e] at hk; exact (c5 k).2 (.inl (h1.us k hk))
  ·rw [c4]
   by_cases e : k = σ.nx
   ·subst e
    rw [e4, hL] at hb
    obtain ⟨_, hb⟩ := hb
    cases hb
   ·exact h1.nw k b ((g2 k e).2 b hb)
  ·rcases (c5 k).1 hk with hk | hk
   ·rcases h3 k hk with h | ⟨j, hj, _⟩
    ·left; omega
    ·cases hj
   ·left; omega
 obtain ⟨k, c, r⟩ := q
 cases k with
 | zero =>
  simp only [ajC]
  split
  ·rename_i hi
   refine fin r _ rfl (by simp) rfl (by simp [St.obj, dR.get_put]) (fun C' hle hw c2 c3 => ⟨fun i v hv => ?_, fun k hk => ?_⟩)
   ·obtain ⟨cc, q1, q2⟩ := h1.tm c .nl hi
    by_cases e : i = c
    ·subst e
     have hlt := (List.getElem?_eq_some_iff.1 hi).1
     simp only [List.getElem?_set_self hlt, Option.some.injEq] at hv
     subst hv
     have : cc = .slice none 0 0 := q2
     exact ⟨cc, q1, this ▸ hw⟩
    ·simp only [List.getElem?_set_ne (Ne.symm e)] at hv
     obtain ⟨cc, q1, q2⟩ := h1.tm i v hv
     exact ⟨cc, q1, q2.le hle⟩
   ·have e : St.obj { σ with tm := σ.tm.set c (.w σ.nx), ob := σ.ob.put σ.nx (.arr true true r []), nx := σ.nx + 1 } k = σ.obj k := by simp [St.obj, dR.get_put, hk]
    rw [e]
    exact ⟨(h1.ob k).le hle (c2 k hk) (by rw [c3]) (fun _ _ => rfl), fun b hb => hb⟩
  ·exact ⟨⟨C, L, h1, h2, h3⟩, rfl⟩
 | succ j =>
  simp only [ajC]
  split
  ·rename_i cs hcs
   split
   ·rename_i hc
    have hob := h1.ob j
    rw [show σ.obj j = .box cs from hcs] at hob
    obtain ⟨b, vs, ty, g1, g2, g3, g4⟩ := hob
    have hj : j ≠ σ.nx := fun e => by rw [e, hφ] at g1; cases g1
    refine fin r _ rfl rfl rfl (by simp [St.obj, dR.get_put]) (fun C' hle hw c2 c3 => ⟨fun i v hv => ?_, fun k hk => ?_⟩)
    ·obtain ⟨cc, q1, q2⟩ := h1.tm i v hv
     exact ⟨cc, q1, q2.le hle⟩
    ·by_cases e : k = j
     ·subst e
      have e : St.obj { σ with ob := (σ.ob.put k (.box (cs.set c (.w σ.nx)))).put σ.nx (.arr true true r []), nx := σ.nx + 1 } k = .box (cs.set c (.w σ.nx)) := by simp [St.obj, dR.get_put, hk]
      rw [e, show σ.obj k = .box cs from hcs]
      exact ⟨⟨b, vs, ty, by rw [c2 k hk]; exact g1, g2, g3, (g4.le hle).set c (g4.aoF c hc) hw⟩, fun b hb => hb⟩
     ·have e : St.obj { σ with ob := (σ.ob.put j (.box (cs.set c (.w σ.nx)))).put σ.nx (.arr true true r []), nx := σ.nx + 1 } k = σ.obj k := by simp [St.obj, dR.get_put, hk, e]
      rw [e]
      exact ⟨(h1.ob k).le hle (c2 k hk) (by rw [c3]) (fun _ _ => rfl), fun b hb => hb⟩
   ·exact ⟨⟨C, L, h1, h2, h3⟩, rfl⟩
  ·exact ⟨⟨C, L, h1, h2, h3⟩, rfl⟩
theorem acQ {e : En} : ∀ (qs : List (Nat × Nat × Rw)) {σ : St}, AtR B0 w0 e σ.nx [] σ a w → AtR B0 w0 e (akU qs σ).nx [] (akU qs σ) a w ∧ (akU qs σ).tm.length = σ.tm.length
 | [], _, h => ⟨h, rfl⟩
 | q :: qs, _, h => ⟨(acQ qs (acP q h).1).1, (acQ qs (acP q h).1).2.trans (acP q h).2⟩
theorem ae2 {e : En} {b : Nat} {done : List Nat} (n : Nat) (h : AtR B0 w0 e b done σ a w) : AtR B0 w0 e (enter Γ n σ).nx [] (enter Γ n σ) a w ∧ (enter Γ n σ).tm.length = σ.tm.length := by
 have h1 := I7 (Γ.hint n).1 h
 unfold enter
 cases (Γ.PX n).isEmpty with
 | true => exact h1
 | false =>
  have h2 := acQ (Γ.PX n) h1.1
  have h3 := I7 (Γ.hint n).1 h2.1
  exact ⟨h3.1, h3.2.trans (h2.2.trans h1.2)⟩
def ExR : Exit → Ex → Prop
 | .normal, .nrm => True
 | .exit i, .ext j => i = j
 | .ret, .ret => True
 | _, _ => False
def YG (B0 : Nat) (w0 : World) (e : En) (len : Nat) (K : Ex → St → Option aj) (r : aj) : Exit → Act → World → Prop := fun ex a w => ∃ x σ', ExR ex x ∧ K x σ' = some r ∧ AtR B0 w0 e σ'.nx [] σ' a w ∧ σ'.tm.length = len
theorem AtN.post {e : En} {n len : Nat} {K : St → Option aj} {r : aj} {b : Nat} (h : AtN B0 w0 e b (List.range n) (b + 256 * n) len K r a w) : ∃ σ', K σ' = some r ∧ AtR B0 w0 e σ'.nx [] σ' a w ∧ σ'.tm.length = len := by
 obtain ⟨σ', h1, ⟨C, L, h2, h3, h4⟩, h5, h6⟩ := h
 refine ⟨σ', h1, ⟨C, L, h2, h3, fun k hk => .inl ?_⟩, h6⟩
 rw [h5]
 rcases h4 k hk with h | ⟨j, hj, h7, h8⟩
 ·omega
 ·rw [List.mem_range] at hj; omega
theorem AtR.nx {e : En} {b nx : Nat} {done : List Nat} (h : AtR B0 w0 e b done σ a w) : AtR B0 w0 e b done { σ with nx := nx } a w := by
 obtain ⟨C, L, h1, h2, h3⟩ := h
 exact ⟨C, L, { below := h1.below, hB0 := h1.hB0, defers := h1.defers, len := h1.len, tm := h1.tm, ob := h1.ob, us := h1.us, nd := h1.nd, dj := h1.dj, own := h1.own, nw := h1.nw, C9 := h1.C9 }, { h2 with io := h2.io }, h3⟩
theorem abZ {e : En} {len : Nat} {c : Code} {live out : List Nat} {r : aj}
  (IH : ∀ {σ : St} {a : Act} {w : World} {K : Ex → St → Option aj}, run Γ c σ K = some r → AtR B0 w0 e σ.nx [] σ a w → σ.tm.length = len → c.wp P (YG B0 w0 e len K r) a w) :
  ∀ (n : Nat) {σ : St} {a : Act} {w : World} {K : Ex → St → Option aj}, rounds (run Γ c) live out n σ K = some r → AtR B0 w0 e σ.nx [] σ a w → σ.tm.length = len → Code.rounds P c (YG B0 w0 e len K r) n a w
 | 0, σ, a, w, K, hp, h, hl => by simp [rounds] at hp
 | n + 1, σ, a, w, K, hp, h, hl => by
  rw [rounds_succ]
  simp only [rounds] at hp
  refine wp_mono (IH hp h hl) (fun ex a' w' hpost => ?_)
  obtain ⟨x, σ', hx, hK, h1, h2⟩ := hpost
  have exit : ∀ x', ex ≠ .normal → ExR ex x' → K x' (canon out σ') = some r → Exit.then (Code.rounds P c (YG B0 w0 e len K r) n) (YG B0 w0 e len K r) ex a' w' := by
   intro x' hne hx' hK'
   have hq : YG B0 w0 e len K r ex a' w' := ⟨x', canon out σ', hx', hK', (I7 out h1).1, (I7 out h1).2.trans h2⟩
   cases ex <;> first | exact absurd rfl hne | exact hq
  cases x with
  | nrm =>
   cases ex <;> first | exact hx.elim | skip
   exact abZ IH n hK (I7 live h1).1 ((I7 live h1).2.trans h2)
  | ext i => exact exit (.ext i) (fun e => by subst e; exact hx.elim) hx hK
  | ret => exact exit .ret (fun e => by subst e; exact hx.elim) hx hK
theorem P9 (hm : P.follows .mixedOrders = true) (hT : iV P Γ.ty) (hI : I B0 w0) (hΓ : Dc P I Γ) {e : En} {len : Nat} {r : aj} : (c : Code) → sD Γ.plan c = true → D8 Γ c → ∀ {σ : St} {a : Act} {w : World} {K : Ex → St → Option aj}, run Γ c σ K = some r → AtR B0 w0 e σ.nx [] σ a w → σ.tm.length = len → c.wp P (YG B0 w0 e len K r) a w
 | .skip, _, _, σ, a, w, K, hp, h, hl => wp_skip ⟨.nrm, σ, trivial, hp, h, hl⟩
 | .region id ops false, _, _, σ, a, w, K, hp, h, hl => by
  simp only [run] at hp
  refine wp_region (abX hT hI hΓ (b := σ.nx) (nx := σ.nx + 256 * ops.size) (len := len) (K := fun σ' => K .nrm σ') (all := List.range ops.size) (fun a' w' hn => ?_) (List.range ops.size) (done := []) h.nx List.nodup_range (fun _ _ h => (nomatch h)) (fun j hj => by simpa using hj) rfl hl hp)
  obtain ⟨σ', g1, g2, g3⟩ := hn.post
  exact ⟨.nrm, σ', trivial, g1, g2, g3⟩
 | .region id ops true, hpl, _, σ, a, w, K, hp, h, hl => by
  simp only [run] at hp
  split at hp
  ·rename_i p ts ep
   simp only [sD, ep] at hpl
   refine amH hm hT hI hΓ hpl (nx := σ.nx + 256 * ops.size) (K := fun σ' => K .nrm σ') h (fun a' w' hn => ?_) (fun c a w hq => ?_) hp
   ·obtain ⟨σ', g1, g2, g3⟩ := hn.post
    exact ⟨.nrm, σ', trivial, g1, g2, g3.trans hl⟩
   ·obtain ⟨x, _, hx, _⟩ := hq
    exact hx.elim
  ·cases hp
 | .seq x y, hpl, hlo, σ, a, w, K, hp, h, hl => by
  simp only [sD, Bool.and_eq_true] at hpl
  simp only [run] at hp
  refine wp_seq (wp_mono (P9 hm hT hI hΓ x hpl.1 hlo.1 hp h hl) (fun ex a' w' hpost => ?_))
  obtain ⟨z, σ', hx, hK, h1, h2⟩ := hpost
  cases z with
  | nrm =>
   cases ex <;> first | exact hx.elim | skip
   exact P9 hm hT hI hΓ y hpl.2 hlo.2 hK h1 h2
  | ext i =>
   cases ex <;> first | exact hx.elim | skip
   exact ⟨.ext i, σ', hx, hK, h1, h2⟩
  | ret =>
   cases ex <;> first | exact hx.elim | skip
   exact ⟨.ret, σ', hx, hK, h1, h2⟩
 | .cond c x y, hpl, hlo, σ, a, w, K, hp, h, hl => by
  simp only [sD, Bool.and_eq_true] at hpl
  simp only [run] at hp
  split at hp
  ·rename_i t ec
   obtain ⟨C, L, h1, h2, h3⟩ := h
   have hc := h1.ev c
   rw [ec] at hc
   refine wp_cond (t := t) hc.1 ?_
   cases t with
   | true => exact P9 hm hT hI hΓ x hpl.1 hlo.1 hp ⟨C, L, h1, h2, h3⟩ hl
   | false => exact P9 hm hT hI hΓ y hpl.2 hlo.2 hp ⟨C, L, h1, h2, h3⟩ hl
  ·cases hp
 | .block id c, hpl, hlo, σ, a, w, K, hp, h, hl => by
  simp only [sD] at hpl
  simp only [run] at hp
  refine wp_block (wp_mono (P9 hm hT hI hΓ c hpl hlo hp h hl) (fun ex a' w' hpost => ?_))
  obtain ⟨z, σ', hx, hK, h1, h2⟩ := hpost
  cases z with
  | nrm =>
   cases ex <;> first | exact hx.elim | skip
   exact ⟨.nrm, σ', hx, hK, h1, h2⟩
  | ext i =>
   cases ex <;> first | exact hx.elim | skip
   have hxi : _ = i := hx
   subst hxi
   simp only at hK
   simp only [Exit.inBlock]
   split at hK
   ·rename_i hid
    rw [if_pos hid]
    exact ⟨.nrm, σ', trivial, hK, h1, h2⟩
   ·rename_i hid
    rw [if_neg hid]
    exact ⟨.ext _, σ', rfl, hK, h1, h2⟩
  | ret =>
   cases ex <;> first | exact hx.elim | skip
   exact ⟨.ret, σ', hx, hK, h1, h2⟩
 | .loop c, hpl, hlo, σ, a, w, K, hp, h, hl => by
  simp only [sD] at hpl
  simp only [run] at hp
  split at hp
  ·rename_i n en
   have body : ∀ m, rounds (run Γ c) (Γ.hint n).1 (Γ.hint n).2 m (enter Γ n σ) K = some r → (Code.loop c).wp P (YG B0 w0 e len K r) a w := fun m hm' =>
    wp_loop_rounds m (abZ (fun hp' h' hl' => P9 hm hT hI hΓ c hpl hlo.2 hp' h' hl') m hm' (ae2 n h).1 ((ae2 n h).2.trans hl))
   split at hp
   ·rename_i F eF
    obtain ⟨m, hm'⟩ := hlo.1 n F en eF _ K r hp
    exact body m hm'
   ·exact body Γ.fuel hp
  ·cases hp
 | .exit id, _, _, σ, a, w, K, hp, h, hl => wp_exit ⟨.ext id, σ, rfl, hp, h, hl⟩
 | .ret, _, _, σ, a, w, K, hp, h, hl => wp_ret ⟨.ret, σ, trivial, hp, h, hl⟩
 | .goto _, _, _, σ, a, w, K, hp, h, hl => by simp [run] at hp
 | .label _, _, _, σ, a, w, K, hp, h, hl => by simp [run] at hp
 | .scope _, _, _, σ, a, w, K, hp, h, hl => by simp [run] at hp
end
end Go.Ev
end
section
set_option linter.unusedVariables false
namespace Go.Ev
open Go.RowKit
theorem O6.nil0 {w : World} : (cc : Cc) → {d : V} → {v : Value} → {O M H : List Nat} → jy w d v O M H → ∃ M', jy w (cc.nil0 d) v O M' H ∧ ∀ x ∈ M', x ∈ M := by
 intro cc d v O M H h
 unfold Cc.nil0
 split
 ·obtain ⟨h1, rfl, rfl⟩ := h
  exact ⟨[], ⟨.inl ⟨rfl, rfl, none, 0, h1, fun _ => ⟨rfl, rfl⟩⟩, rfl, rfl⟩, fun _ h => (nomatch h)⟩
 ·exact ⟨M, h, fun _ h => h⟩
theorem aiZ {w : World} : (r : Rw) → {ds : List V} → {vs : List Value} → {O M H : List Nat} → kS w ds vs O M H → ∃ M', kS w (r.nil0 ds) vs O M' H ∧ ∀ x ∈ M', x ∈ M
 | .one c, [], vs, O, M, H, h => ⟨M, h, fun _ h => h⟩
 | .one c, [d], vs, O, M, H, h => by
  obtain ⟨v, vs', O1, O2, M1, M2, H1, H2, rfl, rfl, rfl, rfl, h1, h2⟩ := h
  obtain ⟨M', g1, g2⟩ := O6.nil0 c h1
  exact ⟨M' ++ M2, ⟨v, vs', O1, O2, M', M2, H1, H2, rfl, rfl, rfl, rfl, g1, h2⟩, fun x hx => by
   rcases List.mem_append.1 hx with hx | hx
   ·simp [g2 x hx]
   ·simp [hx]⟩
 | .one c, _ :: _ :: _, vs, O, M, H, h => ⟨M, h, fun _ h => h⟩
 | .cons c r, [], vs, O, M, H, h => ⟨M, h, fun _ h => h⟩
 | .cons c r, d :: ds, vs, O, M, H, h => by
  obtain ⟨v, vs', O1, O2, M1, M2, H1, H2, rfl, rfl, rfl, rfl, h1, h2⟩ := h
  obtain ⟨M', g1, g2⟩ := O6.nil0 c h1
  obtain ⟨M3, g3, g4⟩ := aiZ r h2
  exact ⟨M' ++ M3, ⟨v, vs', O1, O2, M', M3, H1, H2, rfl, rfl, rfl, rfl, g1, g3⟩, fun x hx => by
   rcases List.mem_append.1 hx with hx | hx
   ·simp [g2 x hx]
   ·simp [g4 x hx]⟩
section
variable {P : Program} {Γ : Env} {I : Nat → World → Prop} {B0 : Nat} {w0 : World} {σ : St} {a : Act} {w : World} {C : Cx} {L : Nat → List Nat}
structure Gone (B0 : Nat) (w0 : World) (σ : St) (a : Act) (w : World) (C : Cx) (L : Nat → List Nat) (ob' : dR) (O M H : List Nat) (C' : Cx) (L' : Nat → List Nat) : Prop where
 rel : Rel B0 w0 { σ with ob := ob' } a w C' L'
 le : C.Le w C' w
 eqn : ∀ k, L' k = L k ∨ L' k = []
 nn : ∀ x, C'.N x → C.N x ∨ ∃ j, x ∈ L j
 nd : O.Nodup
 from_ : ∀ x ∈ O, ∃ k, x ∈ L k
 off : ∀ x ∈ O, ∀ k, x ∉ L' k
 hM : ∀ x ∈ M, C'.N x
 hH : ∀ x ∈ H, x ∈ O ∧ ¬ C'.N x
theorem Handed.gone {ob' : dR} {Ks O M H : List Nat} {C' : Cx} {L' : Nat → List Nat} (h : Handed B0 w0 σ a w C L ob' Ks O M H C' L') {M' : List Nat} (hM : ∀ x ∈ M', x ∈ M) : Gone B0 w0 σ a w C L ob' O M' H C' L' :=
 ⟨h.rel, h.le, h.eqn, h.nn, h.nd, h.from_, h.off, fun x hx => h.hM x (hM x hx), fun x hx => (h.hH x hx).2⟩
theorem Gone.sub {ob' : dR} {O M H : List Nat} {C' : Cx} {L' : Nat → List Nat} (h : Gone B0 w0 σ a w C L ob' O M H C' L') : ∀ k x, x ∈ L' k → x ∈ L k := fun k x hx => by
 rcases h.eqn k with h | h
 ·rw [h] at hx; exact hx
 ·rw [h] at hx; cases hx
theorem Gone.refl (h : Rel B0 w0 σ a w C L) : Gone B0 w0 σ a w C L σ.ob [] [] [] C L :=
 (Handed.refl h (M := []) (fun _ h => (nomatch h))).gone (fun _ h => h)
theorem Gone.trans {kX yZ : dR} {O1 O2 M1 M2 H1 H2 : List Nat} {C1 C2 : Cx} {L1 L2 : Nat → List Nat} (h1 : Gone B0 w0 σ a w C L kX O1 M1 H1 C1 L1) (h2 : Gone B0 w0 { σ with ob := kX } a w C1 L1 yZ O2 M2 H2 C2 L2) :
  Gone B0 w0 σ a w C L yZ (O1 ++ O2) (M1 ++ M2) (H1 ++ H2) C2 L2 := by
 refine ⟨h2.rel, h1.le.trans h2.le, fun k => ?_, fun x hx => ?_, ?_, fun x hx => ?_, fun x hx k hk => ?_, fun x hx => ?_, fun x hx => ?_⟩
 ·rcases h2.eqn k with h | h
  ·rw [h]; exact h1.eqn k
  ·exact .inr h
 ·rcases h2.nn x hx with h | ⟨j, h⟩
  ·exact h1.nn x h
  ·exact .inr ⟨j, h1.sub j x h⟩
 ·rw [List.nodup_append]
  refine ⟨h1.nd, h2.nd, fun x hx y hy e => ?_⟩
  subst e
  obtain ⟨k, hk⟩ := h2.from_ x hy
  exact h1.off x hx k hk
 ·rcases List.mem_append.1 hx with hx | hx
  ·exact h1.from_ x hx
  ·obtain ⟨k, hk⟩ := h2.from_ x hx
   exact ⟨k, h1.sub k x hk⟩
 ·rcases List.mem_append.1 hx with hx | hx
  ·exact h1.off x hx k (h2.sub k x hk)
  ·exact h2.off x hx k hk
 ·rcases List.mem_append.1 hx with hx | hx
  ·exact h2.le.N x (h1.hM x hx)
  ·exact h2.hM x hx
 ·rcases List.mem_append.1 hx with hx | hx
  ·obtain ⟨g2, g3⟩ := h1.hH x hx
   refine ⟨by simp [g2], fun hN => ?_⟩
   rcases h2.nn x hN with h | ⟨j, h⟩
   ·exact g3 h
   ·exact h1.off x g2 j h
  ·obtain ⟨g2, g3⟩ := h2.hH x hx
   exact ⟨by simp [g2], g3⟩
theorem alj (h : Rel B0 w0 σ a w C L) {ty : Ty} {v : V} {cv : Value} (hv : VR C w v cv) {d : V} {ob' : dR} (hh : akV ty v σ.ob = some (d, ob')) : ∃ O M H C' L', rW w d cv O M H ∧ Gone B0 w0 σ a w C L ob' O M H C' L' := by
 have cell : (∀ cs, d ≠ .io cs) → (∀ cs, d ≠ .a cs) → tX v σ.ob = some (d, ob') → ∃ O M H C' L', rW w d cv O M H ∧ Gone B0 w0 σ a w C L ob' O M H C' L' := by
  intro h1 h2 hh
  obtain ⟨O, M, H, C', L', g1, g2⟩ := Ho h hv hh (Ks := oK v) (fun k hk => by rcases hk with rfl | ⟨_, _, rfl⟩ <;> simp [oK])
  refine ⟨O, M, H, C', L', ?_, g2.gone (fun _ h => h)⟩
  unfold rW
  split
  ·exact absurd rfl (h1 _)
  ·exact absurd rfl (h2 _)
  ·exact g1
 have aoG : ∀ {v d : V} {ob ob' : dR}, tX v ob = some (d, ob') → (∀ cs, d ≠ .io cs) ∧ ∀ cs, d ≠ .a cs := by
  intro v d ob ob' hh
  unfold tX at hh
  split at hh
  ·cases hh; exact ⟨by simp, by simp⟩
  ·cases hh; exact ⟨by simp, by simp⟩
  ·cases hh; exact ⟨by simp, by simp⟩
  ·split at hh <;> cases hh <;> exact ⟨by simp, by simp⟩
  ·split at hh <;> cases hh <;> exact ⟨by simp, by simp⟩
  ·cases hh
 unfold akV at hh
 split at hh
 ·rename_i cs
  split at hh
  ·rename_i ds kX e1
   cases hh
   obtain ⟨vs, rfl, h2⟩ := hv
   obtain ⟨O, M, H, C', L', g1, g2⟩ := uV cs h h2 e1 (Ks := cs.flatMap oK) (fun c hc k hk => List.mem_flatMap.2 ⟨c, hc, by rcases hk with rfl | ⟨_, _, rfl⟩ <;> simp [oK]⟩)
   obtain ⟨M', g3, g4⟩ := aiZ ty.row g1
   exact ⟨O, M', H, C', L', ⟨vs, rfl, g3⟩, g2.gone g4⟩
  ·cases hh
 ·cases hh
  exact ⟨[], [], [], C, L, ⟨.inl ⟨rfl, rfl, none, 0, hv, fun _ => ⟨rfl, rfl⟩⟩, rfl, rfl⟩, Gone.refl h⟩
 ·rename_i k
  split at hh
  ·rename_i cs eo
   split at hh
   ·rename_i ds kX e1
    cases hh
    have Eb : σ.obj k = .box cs := eo
    obtain ⟨b, bvs, ty', q1, q2, q3, q4⟩ := h.box Eb
    have hd := Handed.del h (k := k) (O := [b]) (M := []) (H := [b]) q2.symm (fun _ h => (nomatch h)) (fun x hx => by simp at hx; subst hx; exact ⟨by rw [q2]; simp, h.nm k _ (by rw [Eb]; rfl) (by rw [q2]; rfl)⟩) (fun x hx => .inl hx)
    obtain ⟨O1, M1, H1, C1, L1, g1, g2⟩ := uV cs hd.rel (q4.le hd.le) e1 (Ks := cs.flatMap oK) (fun c hc k hk => List.mem_flatMap.2 ⟨c, hc, by rcases hk with rfl | ⟨_, _, rfl⟩ <;> simp [oK]⟩)
    exact ⟨[b] ++ O1, [] ++ M1, [b] ++ H1, C1, L1, ⟨b, bvs, ty', O1, H1, hv.2.2 b q1, q3, g1, rfl, rfl⟩, (hd.trans g2).gone (fun _ h => h)⟩
   ·cases hh
  ·cases hh
 ·exact cell (aoG hh).1 (aoG hh).2 hh
theorem alk (h : Rel B0 w0 σ a w C L) {v : V} {cv : Value} (hv : VR C w v cv) {d : V} {ob' : dR} (hh : akW v σ.ob = some (d, ob')) : ∃ O M H C' L', rW w d cv O M H ∧ Gone B0 w0 σ a w C L ob' O M H C' L' := by
 unfold akW at hh
 split at hh
 ·rename_i cs
  split at hh
  ·rename_i ds kX e1
   cases hh
   obtain ⟨vs, rfl, h2⟩ := hv
   obtain ⟨O, M, H, C', L', g1, g2⟩ := uV cs h h2 e1 (Ks := cs.flatMap oK) (fun c hc k hk => List.mem_flatMap.2 ⟨c, hc, by rcases hk with rfl | ⟨_, _, rfl⟩ <;> simp [oK]⟩)
   exact ⟨O, M, H, C', L', ⟨vs, rfl, g1⟩, g2.gone (fun _ h => h)⟩
  ·cases hh
 ·rename_i k
  split at hh
  ·rename_i cs eo
   split at hh
   ·rename_i ds kX e1
    cases hh
    have Eb : σ.obj k = .box cs := eo
    obtain ⟨b, bvs, ty', q1, q2, q3, q4⟩ := h.box Eb
    have hd := Handed.del h (k := k) (O := [b]) (M := []) (H := [b]) q2.symm (fun _ h => (nomatch h)) (fun x hx => by simp at hx; subst hx; exact ⟨by rw [q2]; simp, h.nm k _ (by rw [Eb]; rfl) (by rw [q2]; rfl)⟩) (fun x hx => .inl hx)
    obtain ⟨O1, M1, H1, C1, L1, g1, g2⟩ := uV cs hd.rel (q4.le hd.le) e1 (Ks := cs.flatMap oK) (fun c hc k hk => List.mem_flatMap.2 ⟨c, hc, by rcases hk with rfl | ⟨_, _, rfl⟩ <;> simp [oK]⟩)
    exact ⟨[b] ++ O1, [] ++ M1, [b] ++ H1, C1, L1, ⟨b, bvs, ty', O1, H1, hv.2.2 b q1, q3, g1, rfl, rfl⟩, (hd.trans g2).gone (fun _ h => h)⟩
   ·cases hh
  ·cases hh
 ·rename_i k
  obtain ⟨O, M, H, C', L', g1, g2⟩ := Ho h hv hh (Ks := [k]) (fun j hj => by rcases hj with hj | ⟨_, _, hj⟩ <;> cases hj; simp)
  have hno : (∀ cs, d ≠ .io cs) ∧ ∀ cs, d ≠ .a cs := by
   simp only [tX] at hh
   split at hh <;> cases hh <;> exact ⟨by simp, by simp⟩
  refine ⟨O, M, H, C', L', ?_, g2.gone (fun _ h => h)⟩
  unfold rW
  split
  ·exact absurd rfl (hno.1 _)
  ·exact absurd rfl (hno.2 _)
  ·exact g1
 ·cases hh
theorem ab1 : ∀ (us : List V) {σ : St} {C : Cx} {L : Nat → List Nat} (h : Rel B0 w0 σ a w C L) {vs : List Value} (hv : jv C w us vs) {ds : List V} {ob' : dR} (hh : Yq us σ.ob = some (ds, ob')), ∃ O M H C' L', jH w ds vs O M H ∧ Gone B0 w0 σ a w C L ob' O M H C' L'
 | [], σ, C, L, h, vs, hv, ds, ob', hh => by
  simp only [Yq, Option.some.injEq, Prod.mk.injEq] at hh
  obtain ⟨rfl, rfl⟩ := hh
  simp only [jv] at hv
  exact ⟨[], [], [], C, L, ⟨hv, rfl, rfl, rfl⟩, Gone.refl h⟩
 | u :: us, σ, C, L, h, vs, hv, ds, ob', hh => by
  obtain ⟨v, vs', rfl, h2, h3⟩ := hv
  simp only [Yq] at hh
  split at hh
  ·cases hh
  ·rename_i d kX e1
   split at hh
   ·cases hh
   ·rename_i ds2 yZ e2
    cases hh
    obtain ⟨O1, M1, H1, C1, L1, g1, g2⟩ := alk h h2 e1
    obtain ⟨O2, M2, H2, C2, L2, g3, g4⟩ := ab1 us g2.rel (h3.le g2.le) e2
    exact ⟨O1 ++ O2, M1 ++ M2, H1 ++ H2, C2, L2, ⟨v, vs', O1, O2, M1, M2, H1, H2, rfl, rfl, rfl, rfl, g1, g3⟩, g2.trans g4⟩
def YH (tmps : Array Value) : ResultVar → Sem Value
 | .tmp t => pure (tmps.getD t undef)
 | .cell a t => do loadVar t (← asAddr (tmps.getD a undef))
theorem amI (hT : iV P Γ.ty) (h : Rel B0 w0 σ a w C L) {x : ResultVar} {v : V} (hp : ams Γ σ x = some v) : ∃ cv, (YH a.tmps x).run P w = .ok cv w ∧ VR C w v cv := by
 cases x with
 | tmp t =>
  simp only [ams, Option.some.injEq] at hp
  subst hp
  exact ⟨_, rfl, h.ev (.tmp t)⟩
 | cell ad t =>
  simp only [ams] at hp
  obtain ⟨cv, b, h1, _, h3⟩ := ld hT h hp
  refine ⟨cv, ?_, h1⟩
  have h4 := h3 w rfl
  simp only [execOp, Yp] at h4
  simp only [YH]
  have e : a.eval (.tmp ad) = a.tmps.getD ad undef := rfl
  rw [e] at h4
  generalize a.tmps.getD ad undef = pv at h4 ⊢
  cases pv with
  | pointer q =>
   cases q with
   | some q =>
    simp only [Instr.loadAt, Instr.sureAddr, Sem.run_bind, Sem.run_pure, Result.andThen_ok, asAddr] at h4 ⊢
    cases hr : (loadVar t q).run P w with
    | ok c w2 =>
     rw [hr] at h4
     simp only [Result.andThen_ok, Result.ok.injEq, Next.value.injEq] at h4
     rw [h4.1, h4.2]
    | halt _ _ => rw [hr] at h4; simp [Result.andThen] at h4
   | none => simp [Instr.loadAt, Instr.sureAddr] at h4
  | _ => simp [Instr.loadAt, Instr.sureAddr] at h4
theorem ai0 (hT : iV P Γ.ty) (h0 : Rel B0 w0 σ a w C L) : ∀ (rs : List ResultVar) (ts : List TypeId) {ob : dR} {C1 : Cx} {L1 : Nat → List Nat} (h : Rel B0 w0 { σ with ob := ob } a w C1 L1) (hle : C.Le w C1 w) {ds : List V} {ob' : dR} (hp : outs Γ σ rs ts ob = some (ds, ob')),
  ∃ KR O M H C' L', (rs.mapM (YH a.tmps)).run P w = .ok KR w ∧ jH w ds KR O M H ∧ Gone B0 w0 { σ with ob := ob } a w C1 L1 ob' O M H C' L'
 | [], ts, ob, C1, L1, h, hle, ds, ob', hp => by
  simp only [outs, Option.some.injEq, Prod.mk.injEq] at hp
  obtain ⟨rfl, rfl⟩ := hp
  exact ⟨[], [], [], [], C1, L1, rfl, ⟨rfl, rfl, rfl, rfl⟩, Gone.refl h⟩
 | x :: rs, [], ob, C1, L1, h, hle, ds, ob', hp => by simp [outs] at hp
 | x :: rs, ti :: ts, ob, C1, L1, h, hle, ds, ob', hp => by
  simp only [outs] at hp
  split at hp
  ·rename_i ty _
   split at hp
   ·rename_i v ev
    split at hp
    ·cases hp
    ·rename_i d kX e1
     split at hp
     ·cases hp
     ·rename_i ds2 yZ e2
      cases hp
      obtain ⟨cv, q1, q2⟩ := amI hT h0 ev
      obtain ⟨O1, M1, H1, C2, L2, g1, g2⟩ := alj h (q2.le hle) e1
      obtain ⟨KR, O2, M2, H2, C3, L3, r1, r2, r3⟩ := ai0 hT h0 rs ts g2.rel (hle.trans g2.le) e2
      refine ⟨cv :: KR, O1 ++ O2, M1 ++ M2, H1 ++ H2, C3, L3, ?_, ⟨cv, KR, O1, O2, M1, M2, H1, H2, rfl, rfl, rfl, rfl, g1, r2⟩, g2.trans r3⟩
      simp [List.mapM_cons, q1, r1]
   ·cases hp
  ·cases hp
def ai1 : List Value → Value
 | [c] => c
 | cs => .tuple ⟨cs⟩
theorem ahC (fn : Func) (tmps : Array Value) {KR : List Value} (h : (fn.results.toList.mapM (YH tmps)).run P w = .ok KR w) : (results fn tmps).run P w = .ok (ai1 KR) w := by
 have e : results fn tmps = (do
   let vs ← fn.results.mapM (YH tmps)
   pure (if h : vs.size = 1 then vs[0] else .tuple vs)) := by
  unfold results
  congr 1
 rw [e, Array.mapM_eq_mapM_toList]
 simp only [Sem.run_bind, map_eq_pure_bind, h, Result.andThen_ok, Sem.run_pure]
 match KR with
 | [] => rfl
 | [c] => rfl
 | _ :: _ :: _ => rfl
theorem Cell.fresh {v : V} {c : Value} {O M H : List Nat} (h : jy w v c O M H) (hf : v.Hl = true) : ∃ M', jy w v c O M' H ∧ ∀ x ∈ M', x ∈ M ∧ x ∈ O := by
 cases v with
 | s u => exact ⟨[], ⟨h.1, h.2⟩, fun _ h => (nomatch h)⟩
 | nl => exact ⟨[], ⟨h.1, h.2⟩, fun _ h => (nomatch h)⟩
 | l o r xs =>
  cases o with
  | no => simp [V.Hl] at hf
  | deep =>
   obtain ⟨h1, rfl, rfl⟩ := h
   exact ⟨O.drop 1, ⟨h1, rfl, rfl⟩, fun x hx => ⟨hx, List.mem_of_mem_drop hx⟩⟩
  | own => exact ⟨[], ⟨h.1, rfl, h.2.2⟩, fun _ h => (nomatch h)⟩
  | top =>
   obtain ⟨F, h1, rfl, rfl, rfl⟩ := h
   have hr : r.flat = true := hf
   refine ⟨F.drop 1, ⟨F, h1, rfl, rfl, rfl⟩, fun x hx => ?_⟩
   exfalso
   rcases h1 with ⟨_, h2, _⟩ | ⟨b, o, cap, F', _, _, h3, _, _, h4⟩
   ·rw [h2] at hx; cases hx
   ·have := (iU.flat (e' := true) hr h4).1
    rw [h3, this] at hx; cases hx
 | _ => simp [V.Hl] at hf
theorem Cells.fresh : ∀ {cs : List V} {vs : List Value} {O M H : List Nat} (h : kS w cs vs O M H) (hf : cs.all V.Hl = true), ∃ M', kS w cs vs O M' H ∧ ∀ x ∈ M', x ∈ M ∧ x ∈ O
 | [], _, _, _, _, h, _ => ⟨_, h, fun x hx => by rw [h.2.2.1] at hx; cases hx⟩
 | c :: cs, _, _, _, _, ⟨v, vs', O1, O2, M1, M2, H1, H2, e1, e2, e3, e4, h1, h2⟩, hf => by
  simp only [List.all_cons, Bool.and_eq_true] at hf
  obtain ⟨M3, g1, g2⟩ := Cell.fresh h1 hf.1
  obtain ⟨M4, g3, g4⟩ := Cells.fresh h2 hf.2
  refine ⟨M3 ++ M4, ⟨v, vs', O1, O2, M3, M4, H1, H2, e1, e2, rfl, e4, g1, g3⟩, fun x hx => ?_⟩
  rw [e2, e3]
  rcases List.mem_append.1 hx with hx | hx
  ·simp [g2 x hx]
  ·simp [g4 x hx]
theorem Arg.fresh {v : V} {c : Value} {O M H : List Nat} (h : rW w v c O M H) (hf : v.Q8 = true) : ∃ M', rW w v c O M' H ∧ ∀ x ∈ M', x ∈ M ∧ x ∈ O := by
 unfold rW at h
 split at h
 ·obtain ⟨b, vs, ty, O', H', h1, h2, h3, rfl, rfl⟩ := h
  obtain ⟨M', g1, g2⟩ := Cells.fresh h3 hf
  exact ⟨M', ⟨b, vs, ty, O', H', h1, h2, g1, rfl, rfl⟩, fun x hx => ⟨(g2 x hx).1, by simp [(g2 x hx).2]⟩⟩
 ·obtain ⟨vs, h1, h2⟩ := h
  obtain ⟨M', g1, g2⟩ := Cells.fresh h2 hf
  exact ⟨M', ⟨vs, h1, g1⟩, g2⟩
 ·rename_i hn1 hn2
  have hf' : v.Hl = true := by
   unfold V.Q8 at hf
   split at hf
   ·exact absurd rfl (hn2 _)
   ·exact absurd rfl (hn1 _)
   ·exact hf
  obtain ⟨M', g1, g2⟩ := Cell.fresh h hf'
  refine ⟨M', ?_, g2⟩
  unfold rW
  split
  ·exact absurd rfl (hn1 _)
  ·exact absurd rfl (hn2 _)
  ·exact g1
theorem Args.fresh : ∀ {cs : List V} {vs : List Value} {O M H : List Nat} (h : jH w cs vs O M H) (hf : cs.all V.Q8 = true), ∃ M', jH w cs vs O M' H ∧ ∀ x ∈ M', x ∈ M ∧ x ∈ O
 | [], _, _, _, _, h, _ => ⟨_, h, fun x hx => by rw [h.2.2.1] at hx; cases hx⟩
 | c :: cs, _, _, _, _, ⟨v, vs', O1, O2, M1, M2, H1, H2, e1, e2, e3, e4, h1, h2⟩, hf => by
  simp only [List.all_cons, Bool.and_eq_true] at hf
  obtain ⟨M3, g1, g2⟩ := Arg.fresh h1 hf.1
  obtain ⟨M4, g3, g4⟩ := Args.fresh h2 hf.2
  refine ⟨M3 ++ M4, ⟨v, vs', O1, O2, M3, M4, H1, H2, e1, e2, rfl, e4, g1, g3⟩, fun x hx => ?_⟩
  rw [e2, e3]
  rcases List.mem_append.1 hx with hx | hx
  ·simp [g2 x hx]
  ·simp [g4 x hx]
theorem aj.fresh {v : V} {c : Value} {O M H : List Nat} (h : Ik w v c O M H) (hf : zh v = true) : ∃ M', Ik w v c O M' H ∧ ∀ x ∈ M', x ∈ M ∧ x ∈ O := by
 unfold Ik at h
 split at h
 ·obtain ⟨vs, h1, h2⟩ := h
  obtain ⟨M', g1, g2⟩ := Args.fresh h2 hf
  exact ⟨M', ⟨vs, h1, g1⟩, g2⟩
 ·rename_i hn
  have hf' : v.Q8 = true := by
   unfold zh at hf
   split at hf
   ·exact absurd rfl (hn _)
   ·exact hf
  obtain ⟨M', g1, g2⟩ := Arg.fresh h hf'
  refine ⟨M', ?_, g2⟩
  unfold Ik
  split
  ·exact absurd rfl (hn _)
  ·exact g1
theorem anz {ds : List V} {KR : List Value} {O M H : List Nat} (h : jH w ds KR O M H) : Ik w (oneOf ds) (ai1 KR) O M H := by
 match ds, h with
 | [], h =>
  obtain ⟨rfl, h2⟩ := h
  exact ⟨[], rfl, rfl, h2⟩
 | [d], h =>
  obtain ⟨v, vs', O1, O2, M1, M2, H1, H2, rfl, rfl, rfl, rfl, h1, rfl, rfl, rfl, rfl⟩ := h
  simp only [List.append_nil]
  have nt : (∀ us, d ≠ .t us) → Ik w (oneOf [d]) v O1 M1 H1 := by
   intro hn
   have e : oneOf [d] = d := by cases d <;> first | rfl | exact absurd rfl (hn _)
   rw [e]
   unfold Ik
   split
   ·exact absurd rfl (hn _)
   ·exact h1
  cases d with
  | t us =>
   obtain ⟨_, rfl, rfl⟩ := h1
   exact ⟨trivial, rfl, rfl⟩
  | _ => exact nt (by simp)
 | d :: d2 :: ds, h =>
  obtain ⟨v, vs', O1, O2, M1, M2, H1, H2, rfl, e2, e3, e4, h1, h2⟩ := h
  obtain ⟨v2, vs2, O3, O4, M3, M4, H3, H4, rfl, e5, e6, e7, h3, h4⟩ := h2
  have e : oneOf (d :: d2 :: ds) = .t (d :: d2 :: ds) := by cases d <;> rfl
  rw [e]
  exact ⟨v :: v2 :: vs2, rfl, v, _, O1, O2, M1, M2, H1, H2, rfl, e2, e3, e4, h1, v2, _, O3, O4, M3, M4, H3, H4, rfl, e5, e6, e7, h3, h4⟩
theorem ai2 {C : Cx} : ∀ (ws : List V) {ds : List V} {vs : List Value}, jv C w ds vs → jv C w (ptrs ws ds) (ptrs ws vs)
 | [], ds, vs, h => by cases ds <;> simp [ptrs, jv]
 | u :: ws, [], vs, h => by simp only [jv] at h; subst h; simp [ptrs, jv]
 | u :: ws, d :: ds, _, ⟨v, vs', h1, h2, h3⟩ => by
  subst h1
  have ih := ai2 ws h3
  simp only [ptrs]
  cases u.back with
  | false => exact ih
  | true => exact ⟨v, _, rfl, h2, ih⟩
theorem Rel.init {N : Nat → Prop} {tmps : Array Value} {n nx : Nat} (hb : Below B0 w0 w) (hB : B0 ≤ w.heap.size) (hn : ∀ x, N x → x < w.heap.size) (hl : tmps.size = n) : Rel B0 w0 { tm := List.replicate n .x, ob := [], nx := nx } { tmps := tmps, defers := [] } w ⟨fun _ => none, fun _ => False, N, fun _ => none⟩ (fun _ => []) := by
 refine { below := hb, hB0 := hB, defers := rfl, len := by simp [hl], tm := fun i v hv => ?_, ob := fun k => rfl, us := fun k h => absurd rfl h, nd := fun _ => List.nodup_nil, dj := fun _ _ _ _ h => (nomatch h), own := fun _ _ h => (nomatch h), nw := fun k b hm => ?_, C9 := hn }
 ·rw [List.getElem?_replicate] at hv
  split at hv
  ·rename_i hi
   cases hv
   have hi' : i < tmps.size := by omega
   exact ⟨_, Array.getElem?_eq_getElem hi', trivial⟩
  ·cases hv
 ·exact absurd hm.mem (by simp)
theorem anA (hm : P.follows .mixedOrders = true) (hT : iV P Γ.ty) (hΓ : Dc P I Γ) {g : FuncId} {fn : Func} (hg : P.funcs[g]? = some fn) (hname : (fn.name == "runtime.NumGoroutine") = false) {c : Code} (hc : fn.body = some c) (hpl : sD Γ.plan c = true) (hlo : D8 Γ c) {fresh : Bool} : aT P I g fresh (dS Γ fresh fn) := by
 refine ⟨fun args w => ?_, ?_⟩
 ·have hname' : ¬ fn.name = "runtime.NumGoroutine" := by simpa using hname
  simp [callFunc, hg, hname', hc]
 intro ws K r hev B0 w0 w N vs O M H hI hbel hB0 hA hnd hown hM hH hNs
 unfold dS at hev
 rw [hc] at hev
 simp only at hev
 cases hs : (ws.all V.aaz && Nat.ble ws.length fn.ntmps) with
 | false => rw [hs] at hev; cases hev
 | true =>
  rw [hs] at hev
  simp only [Bool.and_eq_true] at hs
  have hlen : ws.length ≤ fn.ntmps := Nat.le_of_ble_eq_true hs.2
  have hvl : ∀ {cs : List V} {vs : List Value} {O M H : List Nat}, jH w cs vs O M H → cs.length = vs.length := by
   intro cs
   induction cs with
   | nil => intro vs O M H h; rw [h.1]; rfl
   | cons c cs ih =>
    intro vs O M H h
    obtain ⟨v, vs', _, _, _, _, _, _, rfl, _, _, _, _, h2⟩ := h
    simp [ih h2]
  have hvl := hvl hA
  refine calls_of_wp hg hc ?_
  have hsz : ((⟨vs⟩ : Array Value) ++ Array.replicate (fn.ntmps - (⟨vs⟩ : Array Value).size) undef).size = fn.ntmps := by
   simp; omega
  have h0 := Rel.init (nx := 24 * ws.length) hbel hB0 hNs hsz
  cases et : D5 0 ws [] with
  | mk ds ob =>
   rw [et] at hev
   simp only [cond_true] at hev
   obtain ⟨C1, L1, t1, t2⟩ := P5 ws h0 (b := 0) (fun k _ _ h => h) hs.1 hA ⟨hM, hH, hnd, hown, fun x _ k hk => (nomatch hk)⟩ et
   have hdl := t2.length
   have hR : Rel B0 w0 { tm := ds ++ List.replicate (fn.ntmps - ws.length) .x, ob := ob, nx := 24 * ws.length, io := ptrs ws ds } { tmps := (⟨vs⟩ : Array Value) ++ Array.replicate (fn.ntmps - (⟨vs⟩ : Array Value).size) undef, defers := [] } w C1 L1 := by
    have hr := t1.rel
    refine { below := hr.below, hB0 := hr.hB0, defers := rfl, len := by rw [hsz]; simp; omega, tm := fun i v hv => ?_, ob := hr.ob, us := hr.us, nd := hr.nd, dj := hr.dj, own := hr.own, nw := hr.nw, C9 := hr.C9 }
    rw [List.getElem?_append] at hv
    split at hv
    ·rename_i hi
     obtain ⟨cv, g1, g2⟩ := t2.get hv
     refine ⟨cv, ?_, g2⟩
     have hlt : i < vs.length := by omega
     rw [Array.getElem?_append_left (by simpa using hlt)]
     simpa using g1
    ·rename_i hi
     rw [List.getElem?_replicate] at hv
     split at hv
     ·rename_i hi2
      cases hv
      exact ⟨_, Array.getElem?_eq_getElem (by rw [hsz]; omega), trivial⟩
     ·cases hv
   let e : En := ⟨w, (· ∈ O), (· ∈ H), N, ptrs ws vs⟩
   have hF : Fr e { tm := ds ++ List.replicate (fn.ntmps - ws.length) .x, ob := ob, nx := 24 * ws.length, io := ptrs ws ds } w C1 L1 := by
    refine ⟨ai2 ws t2, fun x hx => t1.le.N x hx, fun x _ _ => rfl, fun k x hx hn => ?_, fun k x hx => ?_, fun x hx => ?_, Nat.le_refl _⟩
    ·rcases t1.hd k x hx hn with h | h
     ·cases h
     ·exact .inl h
    ·rcases t1.ow k x hx with h | h
     ·cases h
     ·exact .inl h
    ·rw [t1.N] at hx; exact .inl hx
   refine wp_mono (P9 (e := e) (len := fn.ntmps) hm hT hI hΓ c hpl hlo hev ⟨C1, L1, hR, hF, fun k hk => ?_⟩ (by simp; omega)) (fun ex a' w' hpost => ?_)
   ·rcases t1.U k hk with h | h
    ·exact h.elim
    ·exact .inl (by simp at h ⊢; omega)
   obtain ⟨x, σ', hx, hK, ⟨C2, L2, p1, p2, _⟩, _⟩ := hpost
   have key : (match finish Γ fn σ' with
      | some q => bif !fresh || (zh q.1 && q.2.all V.Q8) then K q else none
      | none => none) = some r → a'.defers = [] ∧ ∃ v, (results fn a'.tmps).run P w' = .ok v w' ∧ ∃ q, K q = some r ∧ Back B0 w0 w N O (ptrs ws vs) fresh q v w' := by
    intro hK
    refine ⟨p1.defers, ?_⟩
    split at hK
    ·rename_i q hq
     unfold finish at hq
     split at hq
     ·cases hq
     ·rename_i ds2 yZ eo
      split at hq
      ·cases hq
      ·rename_i es ob3 eh
       cases hq
       obtain ⟨KR, O1, M1, H1, C3, L3, r1, r2, r3⟩ := ai0 hT p1 fn.results.toList fn.resultTypes.toList p1 (Cx.Le.refl C2 w') eo
       obtain ⟨O2, M2, H2, C4, L4, s1, s2⟩ := ab1 σ'.io r3.rel (p2.io.le r3.le) eh
       have hg := r3.trans s2
       have hb : jH w' es (ptrs ws vs) O2 M2 H2 := s1
       ·skip
        have hret := anz r2
        have base : ∀ M1' M2' : List Nat, (∀ x ∈ M1', x ∈ M1) → (∀ x ∈ M2', x ∈ M2) → Ik w' (oneOf ds2) (ai1 KR) O1 M1' H1 → jH w' es (ptrs ws vs) O2 M2' H2 → (fresh = true → ∀ x ∈ M1' ++ M2', x ∈ O1 ++ O2) →
          Back B0 w0 w N O (ptrs ws vs) fresh (oneOf ds2, es) (ai1 KR) w' := by
         intro M1' M2' hM1 hM2 b1 b2 b3
         have hMN : ∀ x ∈ M1' ++ M2', C4.N x := fun x hx => hg.hM x (by
          rcases List.mem_append.1 hx with hx | hx
          ·simp [hM1 x hx]
          ·simp [hM2 x hx])
         have how : ∀ k x, x ∈ L2 k → x ∈ O ∨ w.heap.size ≤ x := fun k x hx => p2.ow k x hx
         refine ⟨⟨O1, M1', H1, O2, M2', H2, b1, b2, hg.nd, fun x hx => ?_, fun x hx => ?_, fun x hx => ?_⟩, p1.below, p2.sz, fun x hx hxO => p2.fr x hx (fun hxH => ?_)⟩
         ·obtain ⟨k, hk⟩ := hg.from_ x hx
          exact ⟨how k x hk, (p1.own k x hk).2⟩
         ·refine ⟨?_, hg.rel.C9 x (hMN x hx), fun hfr => b3 hfr x hx⟩
          rcases hg.nn x (hMN x hx) with h1 | ⟨j, h1⟩
          ·exact p2.nn x h1
          ·exact .inr (how j x h1)
         ·obtain ⟨_, h2⟩ := hg.hH x hx
          exact ⟨fun hm' => h2 (hMN x hm'), fun hn => h2 (hg.le.N x (p2.nm x hn))⟩
         ·have aoH : x ∈ H := hxH
          rcases hxO with h1 | h1
          ·exact h1 (hA.hsub x aoH)
          ·exact hH x aoH h1
        refine ⟨_, ahC fn a'.tmps r1, (oneOf ds2, es), ?_, ?_⟩
        ·cases hfc : (!fresh || (zh (oneOf ds2) && es.all V.Q8)) with
         | false => rw [hfc] at hK; cases hK
         | true => rw [hfc] at hK; exact hK
        ·cases hfr : fresh with
         | false => rw [← hfr]; exact base M1 M2 (fun _ h => h) (fun _ h => h) hret hb (fun h => by rw [hfr] at h; cases h)
         | true =>
          cases hfc : (!fresh || (zh (oneOf ds2) && es.all V.Q8)) with
          | false => rw [hfc] at hK; cases hK
          | true =>
           rw [hfr] at hfc
           simp only [Bool.not_true, Bool.false_or, Bool.and_eq_true] at hfc
           obtain ⟨M1', g1, g2⟩ := aj.fresh hret hfc.1
           obtain ⟨M2', g3, g4⟩ := Args.fresh hb hfc.2
           rw [← hfr]
           exact base M1' M2' (fun x hx => (g2 x hx).1) (fun x hx => (g4 x hx).1) g1 g3 (fun _ x hx => by
            rcases List.mem_append.1 hx with hx | hx
            ·exact List.mem_append.2 (.inl (g2 x hx).2)
            ·exact List.mem_append.2 (.inr (g4 x hx).2))
    ·cases hK
   cases x with
   | nrm =>
    cases ex <;> first | exact hx.elim | skip
    exact key hK
   | ext i => cases hK
   | ret =>
    cases ex <;> first | exact hx.elim | skip
    exact key hK
end
def tab : List (Nat × Bool × Sm) → Nat → Option (Bool × Sm)
 | [], _ => none
 | (k, b, G) :: l, g => bif Nat.beq g k then some (b, G) else tab l g
theorem alm {P : Program} {I : Nat → World → Prop} : ∀ {l : List (Nat × Bool × Sm)}, (∀ p ∈ l, aT P I p.1 p.2.1 p.2.2) → ∀ g fresh G, tab l g = some (fresh, G) → aT P I g fresh G
 | [], _, g, fresh, G, h => by simp [tab] at h
 | (k, b, G') :: l, hl, g, fresh, G, h => by
  simp only [tab] at h
  cases e : Nat.beq g k with
  | true =>
   rw [e] at h
   cases h
   rw [Nat.eq_of_beq_eq_true e]
   exact hl (k, b, G') (by simp)
  | false =>
   rw [e] at h
   exact alm (fun p hp => hl p (by simp [hp])) g fresh G h
end Go.Ev
end
section
set_option linter.unusedVariables false
namespace Go.Ev
open Go.RowKit
def Rw.list : Rw → List Cc
 | .one c => [c]
 | .cons c r => c :: r.list
mutual
inductive YI (P : Program) : Cc → TypeId → Prop
 | int {k : IntKind} {t : TypeId} : P.underlying t = some (.int k) → YI P (.int k) t
 | bool {t : TypeId} : P.underlying t = some .bool → YI P .bool t
 | str {t : TypeId} : P.underlying t = some .string → YI P .str t
 | sl {r : Rw} {t e : TypeId} : P.underlying t = some (.slice e) → P.cellsOf e = r.n → Ro P r.list e → YI P (.sl r) t
inductive Ro (P : Program) : List Cc → TypeId → Prop
 | one {c : Cc} {t : TypeId} : YI P c t → Ro P [c] t
 | st {cs : List Cc} {t : TypeId} {fs : Array Field} : P.underlying t = some (.struct fs) → ab2 P cs 0 fs.toList → Ro P cs t
inductive ab2 (P : Program) : List Cc → Nat → List Field → Prop
 | nil {i : Nat} : ab2 P [] i []
 | cons {cs ds : List Cc} {i : Nat} {f : Field} {rest : List Field} : f.offset = i → P.cellsOf f.type = cs.length → Ro P cs f.type → ab2 P ds (i + cs.length) rest → ab2 P (cs ++ ds) i (f :: rest)
end
abbrev anB (P : Program) (r : Rw) (t : TypeId) : Prop := Ro P r.list t
mutual
def Cc.wf : (c : Cc) → c.T → Prop
 | .int k, n => (Lit.int k n).wf = true
 | .bool, _ => True
 | .str, s => s.size ≤ maxLen
 | .sl r, xs => xs.length ≤ maxLen ∧ ∀ x ∈ xs, r.wf x
def Rw.wf : (r : Rw) → r.T → Prop
 | .one c, d => c.wf d
 | .cons c r, d => c.wf d.1 ∧ r.wf d.2
end
section
variable {P : Program} {w : World} {H : Type} {enc : TypeId × Value → H} {spare : Nat → Bool}
def InC (P : Program) (w : World) (c : Cc) (cs : List Value) : Prop := ∃ v x F, cs = [v] ∧ O6 w true c x v F ∧ c.wf x ∧ ∀ b ∈ F, b < w.heap.size
def InR (P : Program) (w : World) (r : Rw) (cs : List Value) : Prop := ∃ x F, ji w true r x cs F ∧ r.wf x ∧ ∀ b ∈ F, b < w.heap.size
theorem YJ {α β : Type} {f : α → Option β} : ∀ {l : List α} {ys : List β}, l.mapM f = some ys → ys.length = l.length ∧ ∀ (i : Nat) (a : α), l[i]? = some a → ∃ y, f a = some y
 | [], ys, h => by simp at h; subst h; exact ⟨rfl, fun i a h => by simp at h⟩
 | x :: l, ys, h => by
  rw [List.mapM_cons] at h
  cases e : f x with
  | none => simp [e] at h
  | some y =>
   cases e2 : l.mapM f with
   | none => simp [e, e2] at h
   | some zs =>
    simp [e, e2] at h
    subst h
    obtain ⟨h1, h2⟩ := YJ e2
    refine ⟨by simp [h1], fun i a hi => ?_⟩
    cases i with
    | zero => simp at hi; subst hi; exact ⟨y, e⟩
    | succ i => simp at hi; exact h2 i a hi
theorem ai3 {r : Rw} {b : Nat} : ∀ (n o : Nat), (∀ i, i < n → ∃ cs, cs.length = r.n ∧ (∀ j v, cs[j]? = some v → w.cell? ⟨b, o + i * r.n + j, none⟩ = some v) ∧ InR P w r cs) →
  ∃ xs F, xs.length = n ∧ iU (ji w true r) w r.n b xs o F ∧ (∀ x ∈ xs, r.wf x) ∧ ∀ b ∈ F, b < w.heap.size
 | 0, o, _ => ⟨[], [], rfl, rfl, fun _ h => (nomatch h), fun _ h => (nomatch h)⟩
 | n + 1, o, h => by
  obtain ⟨cs, h1, h2, x, F1, h3, h4, h5⟩ := h 0 (by omega)
  obtain ⟨xs, F2, g1, g2, g3, g4⟩ := ai3 n (o + r.n) (fun i hi => by
   obtain ⟨cs, k1, k2, k3⟩ := h (i + 1) (by omega)
   refine ⟨cs, k1, fun j v hj => ?_, k3⟩
   rw [show o + r.n + i * r.n + j = o + (i + 1) * r.n + j by rw [Nat.add_mul]; omega]
   exact k2 j v hj)
  refine ⟨x :: xs, F1 ++ F2, by simp [g1], ⟨cs, F1, F2, rfl, h1, fun j v hj => by simpa using h2 j v hj, h3, g2⟩, fun y hy => ?_, fun y hy => ?_⟩
  ·rcases List.mem_cons.1 hy with rfl | hy
   ·exact h4
   ·exact g3 y hy
  ·rcases List.mem_append.1 hy with hy | hy
   ·exact h5 y hy
   ·exact g4 y hy
theorem ae3 {base : Nat} {a : Addr} {n : Nat} {cs : List Value} (h : w.cells? base a n = some cs) (hn : n ≠ 0) : a.spot = none ∧ cs.length = n ∧ ∀ j v, cs[j]? = some v → w.cell? ⟨a.block, a.off + j, none⟩ = some v := by
 unfold World.cells? at h
 split at h
 ·have key : ∀ (m s : Nat) (ys : List Value), ((List.range' s m).mapM fun i => w.cell? (a.add i)) = some ys → ys.length = m ∧ ∀ j v, ys[j]? = some v → w.cell? (a.add (s + j)) = some v := by
   intro m
   induction m with
   | zero => intro s ys h; simp at h; subst h; exact ⟨rfl, fun j v h => by simp at h⟩
   | succ m ih =>
    intro s ys h
    rw [List.range'_succ, List.mapM_cons] at h
    cases e : w.cell? (a.add s) with
    | none => simp [e] at h
    | some y =>
     cases e2 : (List.range' (s + 1) m).mapM (fun i => w.cell? (a.add i)) with
     | none => simp [e, e2] at h
     | some zs =>
      simp [e, e2] at h
      subst h
      obtain ⟨h1, h2⟩ := ih (s + 1) zs e2
      refine ⟨by simp [h1], fun j v hj => ?_⟩
      cases j with
      | zero => simp at hj; subst hj; exact e
      | succ j =>
       simp at hj
       have := h2 j v hj
       rwa [show s + 1 + j = s + (j + 1) by omega] at this
  rw [List.range_eq_range'] at h
  obtain ⟨h1, h2⟩ := key n 0 cs h
  have hs : a.spot = none := by
   cases n with
   | zero => exact absurd rfl hn
   | succ n =>
    cases cs with
    | nil => simp at h1
    | cons y ys =>
     have := h2 0 y rfl
     simp only [World.cell?, Nat.add_zero] at this
     split at this
     ·split at this
      ·cases this
      ·rename_i hsp
       have h0 : (a.add 0).spot = a.spot := by unfold Addr.add; rw [if_pos rfl]
       rw [h0] at hsp
       simpa using hsp
     ·cases this
  refine ⟨hs, h1, fun j v hj => ?_⟩
  have := h2 j v hj
  obtain ⟨blk, off, spot⟩ := a
  simp only at hs
  subst hs
  rwa [Ij, Nat.zero_add] at this
 ·cases h
theorem Rw.anD (r : Rw) : r.n ≠ 0 := by cases r <;> simp [Rw.n]
theorem one_cell {c : Cc} {cs : List Value} (h : InC P w c cs) : InR P w (.one c) cs := by
 obtain ⟨v, x, F, h1, h2, h3, h4⟩ := h
 exact ⟨x, F, ⟨v, h1, h2⟩, h3, h4⟩
def InL (P : Program) (w : World) : List Cc → List Value → Prop
 | [], vs => vs = []
 | c :: cs, vs => ∃ v vs', vs = v :: vs' ∧ InC P w c [v] ∧ InL P w cs vs'
theorem InL.append : ∀ {cs ds : List Cc} {us vs : List Value}, InL P w cs us → InL P w ds vs → InL P w (cs ++ ds) (us ++ vs)
 | [], ds, us, vs, h, g => by
  have : us = [] := h
  subst this; exact g
 | c :: cs, ds, us, vs, ⟨v, vs', h1, h2, h3⟩, g => by
  subst h1
  exact ⟨v, vs' ++ vs, rfl, h2, InL.append h3 g⟩
theorem InL.row : ∀ (r : Rw) {vs : List Value}, InL P w r.list vs → InR P w r vs
 | .one c, vs, ⟨v, vs', h1, h2, h3⟩ => by
  have : vs' = [] := h3
  subst this; subst h1
  exact one_cell h2
 | .cons c r, vs, ⟨v, vs', h1, h2, h3⟩ => by
  subst h1
  obtain ⟨v', x, F, g1, g2, g3, g4⟩ := h2
  cases g1
  obtain ⟨y, F2, g5, g6, g7⟩ := InL.row r h3
  refine ⟨(x, y), F ++ F2, ⟨v, vs', F, F2, rfl, rfl, g2, g5⟩, ⟨g3, g6⟩, fun b hb => ?_⟩
  rcases List.mem_append.1 hb with hb | hb
  ·exact g4 b hb
  ·exact g7 b hb
theorem Rw.Fg : (r : Rw) → r.list.length = r.n
 | .one c => rfl
 | .cons c r => by simp [Rw.list, Rw.n, Rw.Fg r]
theorem am5 {vs : List Value} {good : TypeId → List Value → Prop} (hg : ∀ cs t us, good t us → Ro P cs t → P.cellsOf t = cs.length → us.length = cs.length → InL P w cs us) : ∀ (fs : List Field) {cs : List Cc} {i : Nat}, ab2 P cs i fs → (∀ f ∈ fs, good f.type ((vs.drop f.offset).take (P.cellsOf f.type))) → vs.length = i + cs.length → InL P w cs (vs.drop i)
 | [], _, i, h, hy, hl => by
  cases h
  exact List.drop_eq_nil_of_le (by simp at hl; omega)
 | f :: rest, _, i, h, hy, hl => by
  cases h with
  | cons h1 h2 h3 h4 =>
   rename_i cs ds
   simp only [List.length_append] at hl
   have hf := hy f (by simp)
   rw [h1, h2] at hf
   have a1 := hg cs _ _ hf h3 h2 (by simp; omega)
   have a2 := am5 hg rest h4 (fun g hg' => hy g (by simp [hg'])) (by omega)
   have := InL.append a1 a2
   rwa [← List.drop_drop, List.take_append_drop] at this
theorem Rq {base : Nat} {held : Bool} : ∀ (fuel : Nat) {t : TypeId} {cs : List Value} {d : DataW H} {ps : List MemPlace}, DataW.trod enc P w base spare held fuel t cs = some (d, ps) → (∀ c, YI P c t → InC P w c cs) ∧ ∀ ks, Ro P ks t → P.cellsOf t = ks.length → cs.length = ks.length → InL P w ks cs
 | 0, t, cs, d, ps, h => by simp [DataW.trod] at h
 | fuel + 1, t, cs, d, ps, h => by
  have cell : ∀ c, YI P c t → InC P w c cs := by
   intro c hc
   cases c with
   | int k =>
    cases hc with | int hc =>
    simp only [DataW.trod, hc] at h
    split at h <;> simp_all
    rename_i k' n _
    exact ⟨_, n, [], rfl, ⟨rfl, rfl⟩, by simp [Cc.wf]; exact h.1.2, fun _ h => (nomatch h)⟩
   | bool =>
    cases hc with | bool hc =>
    simp only [DataW.trod, hc] at h
    split at h <;> simp_all
    exact ⟨_, _, [], rfl, ⟨rfl, rfl⟩, trivial, fun _ h => (nomatch h)⟩
   | str =>
    cases hc with | str hc =>
    simp only [DataW.trod, hc] at h
    split at h <;> simp_all
    exact ⟨_, _, [], rfl, ⟨rfl, rfl⟩, h.1, fun _ h => (nomatch h)⟩
   | sl r =>
    cases hc with | sl hu hn hr =>
    rename_i e
    simp only [DataW.trod, hu] at h
    have hnil : cs = [.slice none 0 0] → InC P w (.sl r) cs := fun hcs => ⟨_, [], [], hcs, .inl ⟨rfl, rfl, none, 0, rfl, fun h => (nomatch h)⟩, ⟨Nat.zero_le _, fun _ h => (nomatch h)⟩, fun _ h => (nomatch h)⟩
    have hsome : ∀ (ad : Addr) (len cap : Nat), cs = [.slice (some ad) len cap] → len ≤ cap → cap ≤ maxLen → (∃ ys, (List.range len).mapM (fun i => (w.cells? base (ad.add (i * P.cellsOf e)) (P.cellsOf e)).bind (DataW.trod enc P w base spare held fuel e)) = some ys) → InC P w (.sl r) cs := by
     intro ad len cap hcs h1 h2 ⟨ys, h3⟩
     rw [hn] at h3
     have hel : ∀ i, i < len → ∃ us d' ps', w.cells? base (ad.add (i * r.n)) r.n = some us ∧ DataW.trod enc P w base spare held fuel e us = some (d', ps') := by
      intro i hi
      obtain ⟨y, hy⟩ := (YJ h3).2 i i (by simp [hi])
      obtain ⟨us, h4, h5⟩ := Option.bind_eq_some_iff.1 hy
      exact ⟨us, y.1, y.2, h4, h5⟩
     by_cases hz : len = 0
     ·subst hz
      exact ⟨_, [], [], hcs, .inl ⟨rfl, rfl, some ad, cap, rfl, fun h => (nomatch h)⟩, ⟨Nat.zero_le _, fun _ h => (nomatch h)⟩, fun _ h => (nomatch h)⟩
     ·obtain ⟨us0, _, _, g1, _⟩ := hel 0 (by omega)
      obtain ⟨g2, g3, g4⟩ := ae3 g1 r.anD
      have h00 : ad.add (0 * r.n) = ad := by rw [Nat.zero_mul]; unfold Addr.add; rw [if_pos rfl]
      rw [h00] at g2 g4
      obtain ⟨blk, off, spot⟩ := ad
      simp only at g2 g4
      subst g2
      obtain ⟨xs, F, k1, k2, k3, k4⟩ := ai3 (P := P) (w := w) (r := r) (b := blk) len off (fun i hi => by
       obtain ⟨us, d', ps', q1, q2⟩ := hel i hi
       obtain ⟨_, q3, q4⟩ := ae3 q1 r.anD
       refine ⟨us, q3, fun j v hj => ?_, InL.row r ((Rq fuel q2).2 r.list hr (hn.trans r.Fg.symm) (q3.trans r.Fg.symm))⟩
       have := q4 j v hj
       rwa [Ij] at this)
      have hb : blk < w.heap.size := by
       have hne : us0 ≠ [] := fun e => by rw [e] at g3; exact r.anD g3.symm
       obtain ⟨u, us', rfl⟩ := List.exists_cons_of_ne_nil hne
       have := g4 0 u rfl
       simp only [World.cell?] at this
       split at this
       ·rename_i hh
        exact (Array.getElem?_eq_some_iff.1 hh).1
       ·cases this
      refine ⟨_, xs, blk :: F, hcs, .inr ⟨blk, off, cap, F, by rw [k1], by omega, rfl, hb, fun h => (nomatch h), k2⟩, ⟨by omega, k3⟩, fun b hb' => ?_⟩
      rcases List.mem_cons.1 hb' with rfl | hb'
      ·exact hb
      ·exact k4 b hb'
    split at h
    all_goals first
     | (exfalso; simp_all; done)
     | skip
    ·exact hnil rfl
    ·rename_i e' ad len cap heq
     cases heq
     split at h
     ·rename_i hb
      refine hsome ad len cap rfl hb.2.1 hb.2.2 ?_
      obtain ⟨ys, h4, _⟩ := Option.bind_eq_some_iff.1 h
      exact ⟨ys, h4⟩
     ·cases h
  refine ⟨cell, fun ks hr hn hl => ?_⟩
  cases hr with
  | one hc =>
   obtain ⟨v, x, F, h0, h1⟩ := cell _ hc
   exact ⟨v, [], h0, ⟨v, x, F, rfl, h1⟩, rfl⟩
  | st hu hfs =>
   rename_i fs
   have hd : (if cs.length = P.cellsOf t then (fs.toList.mapM fun f => DataW.trod enc P w base spare held fuel f.type ((cs.drop f.offset).take (P.cellsOf f.type))).map fun xs => ((.agg (xs.map (·.1)), xs.flatMap (·.2)) : DataW H × List MemPlace) else none) = some (d, ps) := by
    simpa only [DataW.trod, hu] using h
   rw [if_pos (by rw [hl, hn])] at hd
   cases em : (fs.toList.mapM fun f => DataW.trod enc P w base spare held fuel f.type ((cs.drop f.offset).take (P.cellsOf f.type))) with
   | none => rw [em] at hd; cases hd
   | some ys =>
    have hy : ∀ g ∈ fs.toList, ∃ y, DataW.trod enc P w base spare held fuel g.type ((cs.drop g.offset).take (P.cellsOf g.type)) = some y := by
     intro g hg
     obtain ⟨i, hi⟩ := List.getElem?_of_mem hg
     exact (YJ em).2 i g hi
    have := am5 (vs := cs) (good := fun t us => ∃ y, DataW.trod enc P w base spare held fuel t us = some y) (fun ks' t us hgd hk h1 h2 => by
     obtain ⟨⟨d', ps'⟩, hy⟩ := hgd
     exact (Rq fuel hy).2 ks' hk h1 h2) fs.toList hfs hy (by omega)
    simpa using this
def V.bare : V → Bool
 | .l .no _ _ => true
 | .l _ _ _ => false
 | _ => true
theorem YK : (r : Rw) → (d : r.T) → ∀ c ∈ r.cells .no d, c.bare = true
 | .one c, d, u, hu => by
  simp only [Rw.cells, List.mem_singleton] at hu
  subst hu
  cases c <;> rfl
 | .cons c r, d, u, hu => by
  simp only [Rw.cells] at hu
  rcases List.mem_cons.1 hu with rfl | hu
  ·cases c <;> rfl
  ·exact YK r d.2 u hu
theorem WG {M : List Nat} : ∀ {cs : List V} {vs : List Value}, jv (Cx.ext (· ∈ M)) w cs vs → (∀ c ∈ cs, c.bare = true) → ∃ M', kS w cs vs [] M' [] ∧ ∀ x ∈ M', x ∈ M
 | [], vs, h, _ => ⟨[], ⟨h, rfl, rfl, rfl⟩, fun _ h => (nomatch h)⟩
 | c :: cs, _, ⟨v, vs', h1, h2, h3⟩, hb => by
  subst h1
  obtain ⟨M2, g1, g2⟩ := WG h3 (fun c hc => hb c (by simp [hc]))
  have hc := hb c (by simp)
  refine ⟨M ++ M2, ⟨v, vs', [], [], M, M2, [], [], rfl, rfl, rfl, rfl, jy.plain h2 (fun r xs e => ?_) (fun r xs e => ?_) (fun r xs e => ?_), g1⟩, fun x hx => ?_⟩
  ·subst e; simp [V.bare] at hc
  ·subst e; simp [V.bare] at hc
  ·subst e; simp [V.bare] at hc
  ·rcases List.mem_append.1 hx with hx | hx
   ·exact hx
   ·exact g2 x hx
theorem aln {r : Rw} {cs : List Value} (h : InR P w r cs) : ∃ x M, rW w (.a (r.cells .no x)) (.agg ⟨cs⟩) [] M [] ∧ r.wf x ∧ ∀ b ∈ M, b < w.heap.size := by
 obtain ⟨x, F, h1, h2, h3⟩ := h
 obtain ⟨M, g1, g2⟩ := WG (ji.vs (C := Cx.ext (· ∈ F)) r h1 (fun _ h => h)) (YK r x)
 exact ⟨x, M, ⟨cs, rfl, g1⟩, h2, fun b hb => h3 b (g2 b hb)⟩
theorem amJ {c : Cc} {v : Value} (h : InC P w c [v]) : ∃ x M, rW w (c.cell .no x) v [] M [] ∧ c.wf x ∧ ∀ b ∈ M, b < w.heap.size := by
 obtain ⟨v', x, F, h0, h1, h2, h3⟩ := h
 cases h0
 have hv := O6.vr (C := Cx.ext (· ∈ F)) c h1 (fun _ h => h)
 refine ⟨x, F, ?_, h2, h3⟩
 cases c <;> exact jy.plain hv (by simp [Cc.cell]) (by simp [Cc.cell]) (by simp [Cc.cell])
theorem alo : jH w [] [] [] [] [] := ⟨rfl, rfl, rfl, rfl⟩
theorem Uz {u : V} {us : List V} {v : Value} {vs : List Value} {M1 M2 : List Nat} (h1 : rW w u v [] M1 []) (h2 : jH w us vs [] M2 []) : jH w (u :: us) (v :: vs) [] (M1 ++ M2) [] :=
 ⟨v, vs, [], [], M1, M2, [], [], rfl, rfl, rfl, rfl, h1, h2⟩
theorem law_true {I : Nat → World → Prop} {g : FuncId} {fresh : Bool} {G : Sm} (hok : aT P I g fresh G) (hI : I w.heap.size w) {ws : List V} {vs : List Value} {M : List Nat} (hA : jH w ws vs [] M []) (hM : ∀ b ∈ M, b < w.heap.size)
  (hG : ∃ css, ∀ K, G ws K = K (.s (.bool true), css)) : Calls P g ⟨vs⟩ w fun e w' => e = .returned (.bool true) ∧ Below w.heap.size w w' := by
 obtain ⟨css, hG⟩ := hG
 have := hok.2 ws (fun q => some q) (.s (.bool true), css) (hG _) w.heap.size w w (fun x => x < w.heap.size) vs [] M [] hI (Below.refl _ _) (Nat.le_refl _) hA List.nodup_nil (fun _ h => (nomatch h)) hM (fun _ h => (nomatch h)) (fun _ h => h)
 refine Calls.mono this (fun e w' he => ?_)
 cases e with
 | returned c =>
  obtain ⟨q, hq, hb⟩ := he
  cases hq
  obtain ⟨O1, M1, H1, O2, M2, H2, h1, _⟩ := hb.ex
  have hc : c = .bool true := h1.1.1
  exact ⟨by rw [hc], hb.below⟩
 | _ => exact he.elim
theorem aT.weak {I : Nat → World → Prop} {g : FuncId} {fresh : Bool} {G : Sm} (h : ∀ ws K r, G ws K = some r → ∃ G', aT P I g fresh G' ∧ G' ws K = some r) (hent : ∀ (args : Array Value) (w : World), (callFunc g args).run P w = .ok (.enter g args) w) : aT P I g fresh G :=
 ⟨hent, fun ws K r hr => by
  obtain ⟨G', h1, h2⟩ := h ws K r hr
  exact h1.2 ws K r h2⟩
end
end Go.Ev
end
section
set_option linter.unusedVariables false
namespace Go.Ev
open Go.RowKit
inductive Tr where
 | leaf
 | node (k : Nat) (v : Ty) (l r : Tr)
def Tr.get : Tr → Nat → Option Ty
 | .leaf, _ => none
 | .node k v l r, t => bif Nat.beq t k then some v else bif Nat.blt t k then l.get t else r.get t
def Tr.all (p : Nat → Ty → Bool) : Tr → Bool
 | .leaf => true
 | .node k v l r => p k v && l.all p && r.all p
theorem Tr.acR {p : Nat → Ty → Bool} {ty : Ty} : ∀ {T : Tr} {t : Nat}, T.all p = true → T.get t = some ty → p t ty = true
 | .leaf, t, _, h => by simp [Tr.get] at h
 | .node k v l r, t, ha, h => by
  simp only [Tr.all, Bool.and_eq_true] at ha
  simp only [Tr.get] at h
  cases e : Nat.beq t k with
  | true =>
   rw [e] at h
   have := Nat.eq_of_beq_eq_true e
   subst this
   cases h
   exact ha.1.1
  | false =>
   rw [e] at h
   cases e2 : Nat.blt t k with
   | true => rw [e2] at h; exact Tr.acR ha.1.2 h
   | false => rw [e2] at h; exact Tr.acR ha.2 h
def anE : V → Value → Bool
 | .s (.int k n), .int k' n' => decide (k = k') && decide (n = n')
 | .s (.bool b), .bool b' => b == b'
 | .s (.string b), .string b' => b.toList.isEmpty && b'.toList.isEmpty && b.data.toList.isEmpty && b'.data.toList.isEmpty
 | .nl, .slice none 0 0 => true
 | .x, _ => true
 | _, _ => false
def ajP : List V → List Value → Bool
 | [], [] => true
 | u :: us, v :: vs => anE u v && ajP us vs
 | _, _ => false
theorem UA {b : ByteArray} (h : b.data.toList.isEmpty = true) : b = ByteArray.empty := by
 obtain ⟨d⟩ := b
 have : d.toList = [] := by simpa using h
 have : d = #[] := by simpa using this
 subst this; rfl
theorem amK (C : Cx) (w : World) {u : V} {v : Value} (h : anE u v = true) : VR C w u v := by
 unfold anE at h
 split at h
 ·simp only [Bool.and_eq_true, decide_eq_true_eq] at h
  obtain ⟨rfl, rfl⟩ := h
  exact ⟨rfl, rfl⟩
 ·simp only [beq_iff_eq] at h
  subst h
  exact ⟨rfl, rfl⟩
 ·simp only [Bool.and_eq_true] at h
  rw [UA h.2, UA h.1.2]
  exact ⟨rfl, rfl⟩
 ·rfl
 ·trivial
 ·cases h
theorem ai4 (C : Cx) (w : World) : ∀ {us : List V} {vs : List Value}, ajP us vs = true → jv C w us vs
 | [], [], _ => rfl
 | u :: us, v :: vs, h => by
  simp only [ajP, Bool.and_eq_true] at h
  exact ⟨v, vs, rfl, amK C w h.1, ai4 C w h.2⟩
 | [], _ :: _, h => by simp [ajP] at h
 | _ :: _, [], h => by simp [ajP] at h
def zCc : Cc → Value → Bool
 | .int k, .int k' n => decide (k' = k) && decide (n = 0)
 | .bool, .bool b => !b
 | .str, .string b => b.data.toList.isEmpty
 | .sl _, .slice none 0 0 => true
 | _, _ => false
def zRw : Rw → List Value → Bool
 | .one c, [v] => zCc c v
 | .cons c r, v :: vs => zCc c v && zRw r vs
 | _, _ => false
theorem alp (w : World) (e : Bool) : (c : Cc) → {v : Value} → zCc c v = true → O6 w e c c.dflt v []
 | .int k, v, h => by
  cases v <;> simp [zCc] at h
  obtain ⟨rfl, rfl⟩ := h
  exact ⟨rfl, rfl⟩
 | .bool, v, h => by
  cases v <;> simp [zCc] at h
  subst h; exact ⟨rfl, rfl⟩
 | .str, v, h => by
  cases v <;> try (simp [zCc] at h; done)
  simp only [zCc] at h
  rw [UA h]; exact ⟨rfl, rfl⟩
 | .sl r, v, h => by
  unfold zCc at h
  split at h <;> first | cases h | skip
  all_goals first | (rename_i hh; cases hh; done) | skip
  exact .inl ⟨rfl, rfl, none, 0, rfl, fun _ => ⟨rfl, rfl⟩⟩
theorem alq (w : World) (e : Bool) : (r : Rw) → {vs : List Value} → zRw r vs = true → ji w e r r.dflt vs []
 | .one c, [v], h => ⟨v, rfl, alp w e c h⟩
 | .one c, [], h => by simp [zRw] at h
 | .one c, _ :: _ :: _, h => by simp [zRw] at h
 | .cons c r, [], h => by simp [zRw] at h
 | .cons c r, v :: vs, h => by
  simp only [zRw, Bool.and_eq_true] at h
  exact ⟨v, vs, [], [], rfl, rfl, alp w e c h.1, alq w e r h.2⟩
def fsB (P : Program) (N : Nat) : List Field → List (Nat × Nat × Bool) → Bool
 | [], [] => true
 | f :: fs, (off, n, g) :: rest => Nat.beq f.offset off && (match P.info? f.type with
   | some j => Nat.beq j.size n
   | none => false) && !(Nat.beq n 0) && Nat.ble (off + n) N && (match P.underlying f.type with
   | some d => g == JI d
   | none => false) && fsB P N fs rest
 | _, _ => false
theorem alr {P : Program} {N : Nat} : ∀ {fs : List Field} {gs : List (Nat × Nat × Bool)}, fsB P N fs gs = true → fs.length = gs.length ∧ ∀ (i off n : Nat) (g : Bool), gs[i]? = some (off, n, g) →
  ∃ f j d, fs[i]? = some f ∧ f.offset = off ∧ P.info? f.type = some j ∧ j.size = n ∧ n ≠ 0 ∧ off + n ≤ N ∧ P.underlying f.type = some d ∧ g = JI d
 | [], [], _ => ⟨rfl, fun i off n g h => by simp at h⟩
 | f :: fs, (off, n, g) :: rest, h => by
  simp only [fsB, Bool.and_eq_true] at h
  obtain ⟨⟨⟨⟨⟨h1, h2⟩, h3⟩, h4⟩, h5⟩, h6⟩ := h
  obtain ⟨k1, k2⟩ := alr h6
  refine ⟨by simp [k1], fun i off' n' g' hi => ?_⟩
  cases i with
  | zero =>
   simp at hi
   obtain ⟨rfl, rfl, rfl⟩ := hi
   split at h2
   ·rename_i j hj
    split at h5
    ·rename_i d hd
     refine ⟨f, j, d, rfl, Nat.eq_of_beq_eq_true h1, hj, Nat.eq_of_beq_eq_true h2, fun e => ?_, Nat.le_of_ble_eq_true h4, hd, by simpa using h5⟩
     rw [e] at h3; simp at h3
    ·cases h5
   ·cases h2
  | succ i => simp at hi; simpa using k2 i off' n' g' hi
 | [], _ :: _, h => by simp [fsB] at h
 | _ :: _, [], h => by simp [fsB] at h
def dsB (P : Program) (ty : Ty) : Ds → TypeDesc → Bool
 | .st, .struct fields => fsB P ty.n fields.toList ty.fs
 | .sl, .slice e => match P.info? e with
  | some j => Nat.beq j.size ty.row.n && Nat.beq j.bytes ty.bytes && (match j.zero with
   | some z => Nat.beq z.cells.size ty.row.n && zRw ty.row z.cells.toList
   | none => false) && (if ty.row = .one (.int .u8) then (match P.underlying e with
   | some (.int .u8) => true
   | _ => false) else true)
  | none => false
 | .int k, .int k' => decide (k' = k)
 | .bool, .bool => true
 | .str, .string => true
 | .arr len m, .array len' e => Nat.beq len' len && (match P.info? e with
  | some j => Nat.beq j.size m
  | none => false)
 | .other, _ => true
 | _, _ => false
def tyB (P : Program) (t : Nat) (ty : Ty) : Bool :=
 (match P.underlying t with
  | some d => dsB P ty ty.ds d && (ty.agg == JI d)
  | none => false) &&
 (match P.info? t with
  | some i => Nat.beq i.size ty.n && (match i.zero with
   | some z => Nat.beq z.cells.size ty.n && ajP ty.zero z.cells.toList
   | none => false)
  | none => false)
theorem anG {P : Program} {ty : Ty} {s : Ds} {d : TypeDesc} (h : dsB P ty s d = true) : aaA P ty s d := by
 unfold dsB at h
 split at h
 ·rename_i fields
  obtain ⟨h1, h2⟩ := alr h
  refine ⟨by rw [← h1]; simp, fun i off n g hi => ?_⟩
  obtain ⟨f, j, d, k1, k2⟩ := h2 i off n g hi
  exact ⟨f, j, d, by simpa using k1, k2⟩
 ·rename_i e
  split at h
  ·rename_i j hj
   simp only [Bool.and_eq_true] at h
   obtain ⟨⟨⟨h1, h2⟩, h3⟩, h4⟩ := h
   split at h3
   ·rename_i z hz
    simp only [Bool.and_eq_true] at h3
    refine ⟨j, z, hj, Nat.eq_of_beq_eq_true h1, Nat.eq_of_beq_eq_true h2, hz, Nat.eq_of_beq_eq_true h3.1, fun w e => alq w e _ h3.2, fun hr => ?_⟩
    rw [if_pos hr] at h4
    split at h4
    ·assumption
    ·cases h4
   ·cases h3
  ·cases h
 ·simp only [aaA]; simpa using h
 ·trivial
 ·trivial
 ·simp only [Bool.and_eq_true] at h
  obtain ⟨h1, h2⟩ := h
  split at h2
  ·rename_i j hj
   exact ⟨Nat.eq_of_beq_eq_true h1, j, hj, Nat.eq_of_beq_eq_true h2⟩
  ·cases h2
 ·simp [aaA]
 ·cases h
theorem anH {P : Program} {t : Nat} {ty : Ty} (h : tyB P t ty = true) : PZ P t ty := by
 unfold tyB at h
 simp only [Bool.and_eq_true] at h
 obtain ⟨h1, h2⟩ := h
 split at h1
 ·rename_i d hd
  split at h2
  ·rename_i i hi
   simp only [Bool.and_eq_true] at h1 h2
   obtain ⟨h2, h3⟩ := h2
   split at h3
   ·rename_i z hz
    simp only [Bool.and_eq_true] at h3
    exact ⟨⟨d, hd, anG h1.1, by simpa using h1.2⟩, ⟨i, z, hi, Nat.eq_of_beq_eq_true h2, hz, fun C w => ai4 C w h3.2, Nat.eq_of_beq_eq_true h3.1⟩⟩
   ·cases h3
  ·cases h2
 ·cases h1
def als (glob : Nat → Option ((r : Rw) × List r.T)) : Nat → World → Prop := fun B0 w0 => ∀ g r (xs : List r.T), glob g = some ⟨r, xs⟩ → g < B0 ∧
 ∀ (i : Nat) (d : r.T), xs[i]? = some d → ∃ vs : List Value, vs.length = r.n ∧ (∀ (j : Nat) (v : Value), vs[j]? = some v → w0.cell? ⟨g, i * r.n + j, none⟩ = some v) ∧ ∀ C w, jv C w (r.cells .no d) vs
theorem anI {P : Program} {T : Tr} (h : T.all (tyB P) = true) : iV P T.get := fun t ty ht => anH (Tr.acR h ht)
end Go.Ev
end
section
namespace Go.Ev
abbrev Seat.ahD : Rw := .cons (.int .u8) (.one (.int .u8))
def gU : List Int := List.replicate 128 240 ++ List.replicate 66 241 ++ List.replicate 30 2 ++ [19] ++ List.replicate 12 3 ++ [35, 3, 3, 52, 4, 4, 4, 68] ++ List.replicate 11 241
def jJ : List (Int × Int) := [(128, 191), (160, 191), (128, 159), (144, 191), (128, 143)] ++ List.replicate 11 (0, 0)
def Yc (g : Nat) : Option ((r : Rw) × List r.T) :=
 bif Nat.beq g 0 then some ⟨.one (.int .u8), gU⟩ else bif Nat.beq g 1 then some ⟨.cons (.int .u8) (.one (.int .u8)), jJ⟩ else none
end Go.Ev
end
section
namespace Go.Ev.Seat
open Go.RowKit
set_option maxRecDepth 100000
def tys : Tr :=
 .node 74 { ds := .st, row := .cons (.sl (.one (.int .u8))) (.cons (.sl (.one (.int .u8))) (.cons (.sl (.cons (.int .i64) (.cons (.int .i64) (.cons (.int .i64) (.one (.sl (.one (.int .u8)))))))) (.cons (.int .i64) (.cons (.sl (.cons (.int .i64) (.cons (.int .i64) (.cons (.int .i64) (.cons (.sl (.cons (.int .i64) (.cons (.int .i64) (.one (.sl (.one (.int .u8))))))) (.one (.sl (.cons (.int .i64) (.cons (.int .i64) (.one (.sl (.one (.int .u8))))))))))))) (.cons (.sl (.cons (.int .i64) (.cons (.int .i64) (.cons (.int .i64) (.one (.int .i64)))))) (.one (.sl (.cons (.int .i64) (.cons (.int .i64) (.cons (.int .i64) (.cons (.int .i64) (.cons (.int .i64) (.cons (.sl (.one (.int .u8))) (.cons (.int .i64) (.cons (.int .i64) (.cons (.int .i64) (.cons (.int .i64) (.cons (.int .i64) (.cons (.int .i64) (.one (.sl (.one (.int .u8))))))))))))))))))))))), n := 7, agg := true, zero := [.nl, .nl, .nl, .s (.int .i64 0), .nl, .nl, .nl], fs := [(0, 6, true), (6, 1, false)] }
 (.node 27 { ds := .st, row := .cons (.sl (.one (.int .u8))) (.cons (.sl (.one (.int .u8))) (.cons (.sl (.cons (.int .i64) (.cons (.int .i64) (.cons (.int .i64) (.one (.sl (.one (.int .u8)))))))) (.cons (.int .i64) (.cons (.sl (.cons (.int .i64) (.cons (.int .i64) (.cons (.int .i64) (.cons (.sl (.cons (.int .i64) (.cons (.int .i64) (.one (.sl (.one (.int .u8))))))) (.one (.sl (.cons (.int .i64) (.cons (.int .i64) (.one (.sl (.one (.int .u8))))))))))))) (.one (.sl (.cons (.int .i64) (.cons (.int .i64) (.cons (.int .i64) (.one (.int .i64))))))))))), n := 6, agg := true, zero := [.nl, .nl, .nl, .s (.int .i64 0), .nl, .nl], fs := [(0, 1, false), (1, 1, false), (2, 1, false), (3, 1, false), (4, 1, false), (5, 1, false)] }
 (.node 11 { ds := .str, zero := [.s (.string ByteArray.empty)] }
 (.node 6 { ds := .int .u8, zero := [.s (.int .u8 0)] }
 (.node 4 { ds := .bool, zero := [.s (.bool false)] }
 (.node 3 { ds := .int .i64, zero := [.s (.int .i64 0)] }
 (.node 2 { ds := .int .i64, zero := [.s (.int .i64 0)] }
 (.leaf)
 (.leaf))
 (.leaf))
 (.node 5 { ds := .int .u8, zero := [.s (.int .u8 0)] }
 (.leaf)
 (.leaf)))
 (.node 9 { ds := .str, zero := [.s (.string ByteArray.empty)] }
 (.node 8 { ds := .st, row := .cons (.int .i64) (.cons (.int .i64) (.cons (.bool) (.one (.int .u8)))), n := 4, agg := true, zero := [.s (.int .i64 0), .s (.int .i64 0), .s (.bool false), .s (.int .u8 0)], fs := [(0, 1, false), (1, 1, false), (2, 1, false), (3, 1, false)] }
 (.node 7 { ds := .st, row := .cons (.int .i64) (.cons (.int .i64) (.cons (.bool) (.one (.int .u8)))), n := 4, agg := true, zero := [.s (.int .i64 0), .s (.int .i64 0), .s (.bool false), .s (.int .u8 0)], fs := [(0, 1, false), (1, 1, false), (2, 1, false), (3, 1, false)] }
 (.leaf)
 (.leaf))
 (.leaf))
 (.node 10 { ds := .str, zero := [.s (.string ByteArray.empty)] }
 (.leaf)
 (.leaf))))
 (.node 22 { ds := .sl, row := .one (.int .u8), bytes := 1, zero := [.nl] }
 (.node 14 { ds := .st, row := .cons (.str) (.one (.int .u64)), n := 2, agg := true, zero := [.s (.string ByteArray.empty), .s (.int .u64 0)], fs := [(0, 1, false), (1, 1, false)] }
 (.node 13 { ds := .st, row := .cons (.str) (.one (.int .u64)), n := 2, agg := true, zero := [.s (.string ByteArray.empty), .s (.int .u64 0)], fs := [(0, 1, false), (1, 1, false)] }
 (.node 12 { ds := .int .u64, zero := [.s (.int .u64 0)] }
 (.leaf)
 (.leaf))
 (.leaf))
 (.node 21 { ds := .int .i32, zero := [.s (.int .i32 0)] }
 (.leaf)
 (.leaf)))
 (.node 25 { ds := .sl, row := .cons (.int .i64) (.cons (.int .i64) (.cons (.int .i64) (.one (.int .i64)))), bytes := 32, zero := [.nl] }
 (.node 24 { ds := .sl, row := .cons (.int .i64) (.cons (.int .i64) (.cons (.int .i64) (.cons (.sl (.cons (.int .i64) (.cons (.int .i64) (.one (.sl (.one (.int .u8))))))) (.one (.sl (.cons (.int .i64) (.cons (.int .i64) (.one (.sl (.one (.int .u8))))))))))), bytes := 72, zero := [.nl] }
 (.node 23 { ds := .sl, row := .cons (.int .i64) (.cons (.int .i64) (.cons (.int .i64) (.one (.sl (.one (.int .u8)))))), bytes := 48, zero := [.nl] }
 (.leaf)
 (.leaf))
 (.leaf))
 (.node 26 { ds := .st, row := .cons (.sl (.one (.int .u8))) (.cons (.sl (.one (.int .u8))) (.cons (.sl (.cons (.int .i64) (.cons (.int .i64) (.cons (.int .i64) (.one (.sl (.one (.int .u8)))))))) (.cons (.int .i64) (.cons (.sl (.cons (.int .i64) (.cons (.int .i64) (.cons (.int .i64) (.cons (.sl (.cons (.int .i64) (.cons (.int .i64) (.one (.sl (.one (.int .u8))))))) (.one (.sl (.cons (.int .i64) (.cons (.int .i64) (.one (.sl (.one (.int .u8))))))))))))) (.one (.sl (.cons (.int .i64) (.cons (.int .i64) (.cons (.int .i64) (.one (.int .i64))))))))))), n := 6, agg := true, zero := [.nl, .nl, .nl, .s (.int .i64 0), .nl, .nl], fs := [(0, 1, false), (1, 1, false), (2, 1, false), (3, 1, false), (4, 1, false), (5, 1, false)] }
 (.leaf)
 (.leaf)))))
 (.node 50 { ds := .st, row := .cons (.sl (.cons (.int .i64) (.cons (.int .i64) (.one (.sl (.one (.int .u8))))))) (.one (.sl (.cons (.int .i64) (.cons (.int .i64) (.one (.sl (.one (.int .u8)))))))), n := 2, agg := true, zero := [.nl, .nl], fs := [(0, 1, false), (1, 1, false)] }
 (.node 35 { ds := .st, row := .cons (.sl (.one (.int .u8))) (.cons (.sl (.one (.int .u8))) (.cons (.sl (.cons (.int .i64) (.cons (.int .i64) (.cons (.int .i64) (.one (.sl (.one (.int .u8)))))))) (.cons (.int .i64) (.cons (.sl (.cons (.int .i64) (.cons (.int .i64) (.cons (.int .i64) (.cons (.sl (.cons (.int .i64) (.cons (.int .i64) (.one (.sl (.one (.int .u8))))))) (.one (.sl (.cons (.int .i64) (.cons (.int .i64) (.one (.sl (.one (.int .u8))))))))))))) (.one (.sl (.cons (.int .i64) (.cons (.int .i64) (.cons (.int .i64) (.one (.int .i64))))))))))), n := 6, agg := true, zero := [.nl, .nl, .nl, .s (.int .i64 0), .nl, .nl], fs := [(0, 1, false), (1, 1, false), (2, 1, false), (3, 1, false), (4, 1, false), (5, 1, false)] }
 (.node 33 { ds := .sl, row := .cons (.int .i64) (.cons (.int .i64) (.cons (.int .i64) (.one (.int .i64)))), bytes := 32, zero := [.nl] }
 (.node 32 { ds := .sl, row := .cons (.int .i64) (.cons (.int .i64) (.cons (.int .i64) (.cons (.sl (.cons (.int .i64) (.cons (.int .i64) (.one (.sl (.one (.int .u8))))))) (.one (.sl (.cons (.int .i64) (.cons (.int .i64) (.one (.sl (.one (.int .u8))))))))))), bytes := 72, zero := [.nl] }
 (.node 31 { ds := .sl, row := .cons (.int .i64) (.cons (.int .i64) (.cons (.int .i64) (.one (.sl (.one (.int .u8)))))), bytes := 48, zero := [.nl] }
 (.leaf)
 (.leaf))
 (.leaf))
 (.node 34 { ds := .st, row := .cons (.sl (.one (.int .u8))) (.cons (.sl (.one (.int .u8))) (.cons (.sl (.cons (.int .i64) (.cons (.int .i64) (.cons (.int .i64) (.one (.sl (.one (.int .u8)))))))) (.cons (.int .i64) (.cons (.sl (.cons (.int .i64) (.cons (.int .i64) (.cons (.int .i64) (.cons (.sl (.cons (.int .i64) (.cons (.int .i64) (.one (.sl (.one (.int .u8))))))) (.one (.sl (.cons (.int .i64) (.cons (.int .i64) (.one (.sl (.one (.int .u8))))))))))))) (.one (.sl (.cons (.int .i64) (.cons (.int .i64) (.cons (.int .i64) (.one (.int .i64))))))))))), n := 6, agg := true, zero := [.nl, .nl, .nl, .s (.int .i64 0), .nl, .nl], fs := [(0, 1, false), (1, 1, false), (2, 1, false), (3, 1, false), (4, 1, false), (5, 1, false)] }
 (.leaf)
 (.leaf)))
 (.node 48 { ds := .st, row := .cons (.int .i64) (.one (.int .i64)), n := 2, agg := true, zero := [.s (.int .i64 0), .s (.int .i64 0)], fs := [(0, 1, false), (1, 1, false)] }
 (.node 47 { ds := .st, row := .cons (.int .i64) (.one (.int .i64)), n := 2, agg := true, zero := [.s (.int .i64 0), .s (.int .i64 0)], fs := [(0, 1, false), (1, 1, false)] }
 (.node 42 { ds := .sl, row := .cons (.int .i64) (.cons (.int .i64) (.one (.sl (.one (.int .u8))))), bytes := 40, zero := [.nl] }
 (.leaf)
 (.leaf))
 (.leaf))
 (.node 49 { ds := .st, row := .cons (.sl (.cons (.int .i64) (.cons (.int .i64) (.one (.sl (.one (.int .u8))))))) (.one (.sl (.cons (.int .i64) (.cons (.int .i64) (.one (.sl (.one (.int .u8)))))))), n := 2, agg := true, zero := [.nl, .nl], fs := [(0, 1, false), (1, 1, false)] }
 (.leaf)
 (.leaf))))
 (.node 62 { ds := .st, row := .cons (.int .i64) (.cons (.int .i64) (.one (.sl (.one (.int .u8))))), n := 3, agg := true, zero := [.s (.int .i64 0), .s (.int .i64 0), .nl], fs := [(0, 1, false), (1, 1, false), (2, 1, false)] }
 (.node 59 { ds := .st, row := .cons (.int .i64) (.cons (.int .i64) (.cons (.int .i64) (.cons (.int .i64) (.cons (.int .i64) (.one (.sl (.one (.int .u8)))))))), n := 6, agg := true, zero := [.s (.int .i64 0), .s (.int .i64 0), .s (.int .i64 0), .s (.int .i64 0), .s (.int .i64 0), .nl], fs := [(0, 1, false), (1, 1, false), (2, 1, false), (3, 1, false), (4, 1, false), (5, 1, false)] }
 (.node 52 { ds := .st, row := .cons (.int .i64) (.cons (.int .i64) (.cons (.int .i64) (.cons (.sl (.cons (.int .i64) (.cons (.int .i64) (.one (.sl (.one (.int .u8))))))) (.one (.sl (.cons (.int .i64) (.cons (.int .i64) (.one (.sl (.one (.int .u8))))))))))), n := 5, agg := true, zero := [.s (.int .i64 0), .s (.int .i64 0), .s (.int .i64 0), .nl, .nl], fs := [(0, 1, false), (1, 2, true), (3, 2, true)] }
 (.node 51 { ds := .st, row := .cons (.int .i64) (.cons (.int .i64) (.cons (.int .i64) (.cons (.sl (.cons (.int .i64) (.cons (.int .i64) (.one (.sl (.one (.int .u8))))))) (.one (.sl (.cons (.int .i64) (.cons (.int .i64) (.one (.sl (.one (.int .u8))))))))))), n := 5, agg := true, zero := [.s (.int .i64 0), .s (.int .i64 0), .s (.int .i64 0), .nl, .nl], fs := [(0, 1, false), (1, 2, true), (3, 2, true)] }
 (.leaf)
 (.leaf))
 (.leaf))
 (.node 60 { ds := .st, row := .cons (.int .i64) (.cons (.int .i64) (.cons (.int .i64) (.cons (.int .i64) (.cons (.int .i64) (.one (.sl (.one (.int .u8)))))))), n := 6, agg := true, zero := [.s (.int .i64 0), .s (.int .i64 0), .s (.int .i64 0), .s (.int .i64 0), .s (.int .i64 0), .nl], fs := [(0, 1, false), (1, 1, false), (2, 1, false), (3, 1, false), (4, 1, false), (5, 1, false)] }
 (.leaf)
 (.leaf)))
 (.node 66 { ds := .st, row := .cons (.int .i64) (.cons (.int .i64) (.cons (.int .i64) (.cons (.int .i64) (.cons (.int .i64) (.one (.sl (.one (.int .u8)))))))), n := 6, agg := true, zero := [.s (.int .i64 0), .s (.int .i64 0), .s (.int .i64 0), .s (.int .i64 0), .s (.int .i64 0), .nl], fs := [(0, 1, false), (1, 1, false), (2, 1, false), (3, 1, false), (4, 1, false), (5, 1, false)] }
 (.node 63 { ds := .st, row := .cons (.int .i64) (.cons (.int .i64) (.one (.sl (.one (.int .u8))))), n := 3, agg := true, zero := [.s (.int .i64 0), .s (.int .i64 0), .nl], fs := [(0, 1, false), (1, 1, false), (2, 1, false)] }
 (.leaf)
 (.leaf))
 (.node 73 { ds := .sl, row := .cons (.int .i64) (.cons (.int .i64) (.cons (.int .i64) (.cons (.int .i64) (.cons (.int .i64) (.cons (.sl (.one (.int .u8))) (.cons (.int .i64) (.cons (.int .i64) (.cons (.int .i64) (.cons (.int .i64) (.cons (.int .i64) (.cons (.int .i64) (.one (.sl (.one (.int .u8))))))))))))))), bytes := 136, zero := [.nl] }
 (.leaf)
 (.leaf))))))
 (.node 159 { ds := .st, row := .cons (.int .i64) (.cons (.int .i64) (.cons (.int .i64) (.one (.int .i64)))), n := 4, agg := true, zero := [.s (.int .i64 0), .s (.int .i64 0), .s (.int .i64 0), .s (.int .i64 0)], fs := [(0, 1, false), (1, 1, false), (2, 1, false), (3, 1, false)] }
 (.node 145 { ds := .st, row := .cons (.int .i64) (.cons (.int .i64) (.cons (.int .i64) (.one (.sl (.one (.int .u8)))))), n := 4, agg := true, zero := [.s (.int .i64 0), .s (.int .i64 0), .s (.int .i64 0), .nl], fs := [(0, 1, false), (1, 3, true)] }
 (.node 84 { ds := .sl, row := .one (.int .i64), bytes := 8, zero := [.nl] }
 (.node 79 { ds := .st, row := .cons (.sl (.one (.int .u8))) (.cons (.sl (.one (.int .u8))) (.cons (.sl (.cons (.int .i64) (.cons (.int .i64) (.cons (.int .i64) (.one (.sl (.one (.int .u8)))))))) (.cons (.int .i64) (.cons (.sl (.cons (.int .i64) (.cons (.int .i64) (.cons (.int .i64) (.cons (.sl (.cons (.int .i64) (.cons (.int .i64) (.one (.sl (.one (.int .u8))))))) (.one (.sl (.cons (.int .i64) (.cons (.int .i64) (.one (.sl (.one (.int .u8))))))))))))) (.cons (.sl (.cons (.int .i64) (.cons (.int .i64) (.cons (.int .i64) (.one (.int .i64)))))) (.one (.sl (.cons (.int .i64) (.cons (.int .i64) (.cons (.int .i64) (.cons (.int .i64) (.cons (.int .i64) (.cons (.sl (.one (.int .u8))) (.cons (.int .i64) (.cons (.int .i64) (.cons (.int .i64) (.cons (.int .i64) (.cons (.int .i64) (.cons (.int .i64) (.one (.sl (.one (.int .u8))))))))))))))))))))))), n := 7, agg := true, zero := [.nl, .nl, .nl, .s (.int .i64 0), .nl, .nl, .nl], fs := [(0, 6, true), (6, 1, false)] }
 (.node 78 { ds := .sl, row := .cons (.int .i64) (.cons (.int .i64) (.cons (.int .i64) (.cons (.int .i64) (.cons (.int .i64) (.cons (.sl (.one (.int .u8))) (.cons (.int .i64) (.cons (.int .i64) (.cons (.int .i64) (.cons (.int .i64) (.cons (.int .i64) (.cons (.int .i64) (.one (.sl (.one (.int .u8))))))))))))))), bytes := 136, zero := [.nl] }
 (.node 75 { ds := .st, row := .cons (.sl (.one (.int .u8))) (.cons (.sl (.one (.int .u8))) (.cons (.sl (.cons (.int .i64) (.cons (.int .i64) (.cons (.int .i64) (.one (.sl (.one (.int .u8)))))))) (.cons (.int .i64) (.cons (.sl (.cons (.int .i64) (.cons (.int .i64) (.cons (.int .i64) (.cons (.sl (.cons (.int .i64) (.cons (.int .i64) (.one (.sl (.one (.int .u8))))))) (.one (.sl (.cons (.int .i64) (.cons (.int .i64) (.one (.sl (.one (.int .u8))))))))))))) (.cons (.sl (.cons (.int .i64) (.cons (.int .i64) (.cons (.int .i64) (.one (.int .i64)))))) (.one (.sl (.cons (.int .i64) (.cons (.int .i64) (.cons (.int .i64) (.cons (.int .i64) (.cons (.int .i64) (.cons (.sl (.one (.int .u8))) (.cons (.int .i64) (.cons (.int .i64) (.cons (.int .i64) (.cons (.int .i64) (.cons (.int .i64) (.cons (.int .i64) (.one (.sl (.one (.int .u8))))))))))))))))))))))), n := 7, agg := true, zero := [.nl, .nl, .nl, .s (.int .i64 0), .nl, .nl, .nl], fs := [(0, 6, true), (6, 1, false)] }
 (.leaf)
 (.leaf))
 (.leaf))
 (.node 80 { ds := .st, row := .cons (.sl (.one (.int .u8))) (.cons (.sl (.one (.int .u8))) (.cons (.sl (.cons (.int .i64) (.cons (.int .i64) (.cons (.int .i64) (.one (.sl (.one (.int .u8)))))))) (.cons (.int .i64) (.cons (.sl (.cons (.int .i64) (.cons (.int .i64) (.cons (.int .i64) (.cons (.sl (.cons (.int .i64) (.cons (.int .i64) (.one (.sl (.one (.int .u8))))))) (.one (.sl (.cons (.int .i64) (.cons (.int .i64) (.one (.sl (.one (.int .u8))))))))))))) (.cons (.sl (.cons (.int .i64) (.cons (.int .i64) (.cons (.int .i64) (.one (.int .i64)))))) (.one (.sl (.cons (.int .i64) (.cons (.int .i64) (.cons (.int .i64) (.cons (.int .i64) (.cons (.int .i64) (.cons (.sl (.one (.int .u8))) (.cons (.int .i64) (.cons (.int .i64) (.cons (.int .i64) (.cons (.int .i64) (.cons (.int .i64) (.cons (.int .i64) (.one (.sl (.one (.int .u8))))))))))))))))))))))), n := 7, agg := true, zero := [.nl, .nl, .nl, .s (.int .i64 0), .nl, .nl, .nl], fs := [(0, 6, true), (6, 1, false)] }
 (.leaf)
 (.leaf)))
 (.node 143 { ds := .st, row := .cons (.int .i64) (.cons (.int .i64) (.one (.sl (.one (.int .u8))))), n := 3, agg := true, zero := [.s (.int .i64 0), .s (.int .i64 0), .nl], fs := [(0, 1, false), (1, 1, false), (2, 1, false)] }
 (.node 90 { ds := .st, row := .cons (.int .i64) (.cons (.int .i64) (.cons (.int .i64) (.cons (.int .i64) (.cons (.int .i64) (.cons (.sl (.one (.int .u8))) (.cons (.int .i64) (.cons (.int .i64) (.cons (.int .i64) (.cons (.int .i64) (.cons (.int .i64) (.cons (.int .i64) (.one (.sl (.one (.int .u8))))))))))))))), n := 13, agg := true, zero := [.s (.int .i64 0), .s (.int .i64 0), .s (.int .i64 0), .s (.int .i64 0), .s (.int .i64 0), .nl, .s (.int .i64 0), .s (.int .i64 0), .s (.int .i64 0), .s (.int .i64 0), .s (.int .i64 0), .s (.int .i64 0), .nl], fs := [(0, 6, true), (6, 1, false), (7, 1, false), (8, 1, false), (9, 1, false), (10, 3, true)] }
 (.node 89 { ds := .st, row := .cons (.int .i64) (.cons (.int .i64) (.cons (.int .i64) (.cons (.int .i64) (.cons (.int .i64) (.cons (.sl (.one (.int .u8))) (.cons (.int .i64) (.cons (.int .i64) (.cons (.int .i64) (.cons (.int .i64) (.cons (.int .i64) (.cons (.int .i64) (.one (.sl (.one (.int .u8))))))))))))))), n := 13, agg := true, zero := [.s (.int .i64 0), .s (.int .i64 0), .s (.int .i64 0), .s (.int .i64 0), .s (.int .i64 0), .nl, .s (.int .i64 0), .s (.int .i64 0), .s (.int .i64 0), .s (.int .i64 0), .s (.int .i64 0), .s (.int .i64 0), .nl], fs := [(0, 6, true), (6, 1, false), (7, 1, false), (8, 1, false), (9, 1, false), (10, 3, true)] }
 (.leaf)
 (.leaf))
 (.leaf))
 (.node 144 { ds := .st, row := .cons (.int .i64) (.cons (.int .i64) (.cons (.int .i64) (.one (.sl (.one (.int .u8)))))), n := 4, agg := true, zero := [.s (.int .i64 0), .s (.int .i64 0), .s (.int .i64 0), .nl], fs := [(0, 1, false), (1, 3, true)] }
 (.leaf)
 (.leaf))))
 (.node 151 { ds := .st, row := .cons (.int .i64) (.cons (.int .i64) (.cons (.int .i64) (.cons (.sl (.cons (.int .i64) (.cons (.int .i64) (.one (.sl (.one (.int .u8))))))) (.one (.sl (.cons (.int .i64) (.cons (.int .i64) (.one (.sl (.one (.int .u8))))))))))), n := 5, agg := true, zero := [.s (.int .i64 0), .s (.int .i64 0), .s (.int .i64 0), .nl, .nl], fs := [(0, 1, false), (1, 2, true), (3, 2, true)] }
 (.node 149 { ds := .st, row := .cons (.sl (.cons (.int .i64) (.cons (.int .i64) (.one (.sl (.one (.int .u8))))))) (.one (.sl (.cons (.int .i64) (.cons (.int .i64) (.one (.sl (.one (.int .u8)))))))), n := 2, agg := true, zero := [.nl, .nl], fs := [(0, 1, false), (1, 1, false)] }
 (.node 148 { ds := .sl, row := .cons (.int .i64) (.cons (.int .i64) (.one (.sl (.one (.int .u8))))), bytes := 40, zero := [.nl] }
 (.node 147 { ds := .st, row := .cons (.int .i64) (.one (.int .i64)), n := 2, agg := true, zero := [.s (.int .i64 0), .s (.int .i64 0)], fs := [(0, 1, false), (1, 1, false)] }
 (.leaf)
 (.leaf))
 (.leaf))
 (.node 150 { ds := .st, row := .cons (.sl (.cons (.int .i64) (.cons (.int .i64) (.one (.sl (.one (.int .u8))))))) (.one (.sl (.cons (.int .i64) (.cons (.int .i64) (.one (.sl (.one (.int .u8)))))))), n := 2, agg := true, zero := [.nl, .nl], fs := [(0, 1, false), (1, 1, false)] }
 (.leaf)
 (.leaf)))
 (.node 155 { ds := .st, row := .cons (.int .i64) (.cons (.int .i64) (.cons (.int .i64) (.one (.sl (.one (.int .u8)))))), n := 4, agg := true, zero := [.s (.int .i64 0), .s (.int .i64 0), .s (.int .i64 0), .nl], fs := [(0, 1, false), (1, 3, true)] }
 (.node 152 { ds := .st, row := .cons (.int .i64) (.cons (.int .i64) (.cons (.int .i64) (.cons (.sl (.cons (.int .i64) (.cons (.int .i64) (.one (.sl (.one (.int .u8))))))) (.one (.sl (.cons (.int .i64) (.cons (.int .i64) (.one (.sl (.one (.int .u8))))))))))), n := 5, agg := true, zero := [.s (.int .i64 0), .s (.int .i64 0), .s (.int .i64 0), .nl, .nl], fs := [(0, 1, false), (1, 2, true), (3, 2, true)] }
 (.leaf)
 (.leaf))
 (.node 156 { ds := .st, row := .cons (.int .i64) (.cons (.int .i64) (.cons (.int .i64) (.one (.sl (.one (.int .u8)))))), n := 4, agg := true, zero := [.s (.int .i64 0), .s (.int .i64 0), .s (.int .i64 0), .nl], fs := [(0, 1, false), (1, 3, true)] }
 (.leaf)
 (.leaf)))))
 (.node 216 { ds := .arr 16 2, n := 32, agg := true, zero := List.replicate 32 .x }
 (.node 188 { ds := .st, row := .cons (.int .i64) (.cons (.int .i64) (.cons (.int .i64) (.cons (.int .i64) (.cons (.int .i64) (.cons (.sl (.one (.int .u8))) (.cons (.int .i64) (.cons (.int .i64) (.cons (.int .i64) (.cons (.int .i64) (.cons (.int .i64) (.cons (.int .i64) (.one (.sl (.one (.int .u8))))))))))))))), n := 13, agg := true, zero := [.s (.int .i64 0), .s (.int .i64 0), .s (.int .i64 0), .s (.int .i64 0), .s (.int .i64 0), .nl, .s (.int .i64 0), .s (.int .i64 0), .s (.int .i64 0), .s (.int .i64 0), .s (.int .i64 0), .s (.int .i64 0), .nl], fs := [(0, 6, true), (6, 1, false), (7, 1, false), (8, 1, false), (9, 1, false), (10, 3, true)] }
 (.node 179 { zero := [.x] }
 (.node 162 { ds := .st, row := .cons (.int .i64) (.cons (.int .i64) (.cons (.int .i64) (.one (.int .i64)))), n := 4, agg := true, zero := [.s (.int .i64 0), .s (.int .i64 0), .s (.int .i64 0), .s (.int .i64 0)], fs := [(0, 1, false), (1, 1, false), (2, 1, false), (3, 1, false)] }
 (.node 160 { ds := .st, row := .cons (.int .i64) (.cons (.int .i64) (.cons (.int .i64) (.one (.int .i64)))), n := 4, agg := true, zero := [.s (.int .i64 0), .s (.int .i64 0), .s (.int .i64 0), .s (.int .i64 0)], fs := [(0, 1, false), (1, 1, false), (2, 1, false), (3, 1, false)] }
 (.leaf)
 (.leaf))
 (.leaf))
 (.node 187 { ds := .st, row := .cons (.int .i64) (.cons (.int .i64) (.cons (.int .i64) (.cons (.int .i64) (.cons (.int .i64) (.cons (.sl (.one (.int .u8))) (.cons (.int .i64) (.cons (.int .i64) (.cons (.int .i64) (.cons (.int .i64) (.cons (.int .i64) (.cons (.int .i64) (.one (.sl (.one (.int .u8))))))))))))))), n := 13, agg := true, zero := [.s (.int .i64 0), .s (.int .i64 0), .s (.int .i64 0), .s (.int .i64 0), .s (.int .i64 0), .nl, .s (.int .i64 0), .s (.int .i64 0), .s (.int .i64 0), .s (.int .i64 0), .s (.int .i64 0), .s (.int .i64 0), .nl], fs := [(0, 6, true), (6, 1, false), (7, 1, false), (8, 1, false), (9, 1, false), (10, 3, true)] }
 (.leaf)
 (.leaf)))
 (.node 214 { ds := .st, row := .cons (.int .u8) (.one (.int .u8)), n := 2, agg := true, zero := [.s (.int .u8 0), .s (.int .u8 0)], fs := [(0, 1, false), (1, 1, false)] }
 (.node 213 { ds := .arr 256 1, n := 256, agg := true, zero := List.replicate 256 .x }
 (.node 205 { ds := .int .u64, zero := [.s (.int .u64 0)] }
 (.leaf)
 (.leaf))
 (.leaf))
 (.node 215 { ds := .st, row := .cons (.int .u8) (.one (.int .u8)), n := 2, agg := true, zero := [.s (.int .u8 0), .s (.int .u8 0)], fs := [(0, 1, false), (1, 1, false)] }
 (.leaf)
 (.leaf))))
 (.node 239 { ds := .int .u8, zero := [.s (.int .u8 0)] }
 (.node 229 { ds := .sl, row := .one (.sl (.one (.int .u8))), bytes := 24, zero := [.nl] }
 (.node 227 { ds := .int .u64, zero := [.s (.int .u64 0)] }
 (.node 220 { ds := .sl, row := .one (.sl (.cons (.int .i64) (.cons (.int .i64) (.one (.sl (.one (.int .u8))))))), bytes := 24, zero := [.nl] }
 (.leaf)
 (.leaf))
 (.leaf))
 (.node 238 { ds := .int .u32, zero := [.s (.int .u32 0)] }
 (.leaf)
 (.leaf)))
 (.node 243 { ds := .int .i32, zero := [.s (.int .i32 0)] }
 (.node 240 { ds := .int .u8, zero := [.s (.int .u8 0)] }
 (.leaf)
 (.leaf))
 (.node 244 { ds := .int .i32, zero := [.s (.int .i32 0)] }
 (.leaf)
 (.leaf))))))
theorem aoI : iV Go.Proofs.Tryz.prog tys.get := anI (by kernel_rfl)
def globs : Nat → Option ((r : Rw) × List r.T) := Yc
def I : Nat → World → Prop := als globs
theorem anJ {Γ : Env} (h : Γ.glob = globs) : acE I Γ := fun B0 w0 hI g r xs hg => hI g r xs (by rw [← h]; exact hg)
theorem mixed : Go.Proofs.Tryz.prog.follows .mixedOrders = true := by kernel_rfl
end Go.Ev.Seat
end
section
namespace Go.Ev.Seat
noncomputable abbrev F.AP := Go.Proofs.Tryz.f7
abbrev N.AP : Nat := 7
noncomputable abbrev F.Rt := Go.Proofs.Tryz.f11
abbrev N.Rt : Nat := 11
noncomputable abbrev F.Ru := Go.Proofs.Tryz.f12
abbrev N.Ru : Nat := 12
noncomputable abbrev F.Rx := Go.Proofs.Tryz.f13
abbrev N.Rx : Nat := 13
noncomputable abbrev F.rJ := Go.Proofs.Tryz.f15
abbrev N.rJ : Nat := 15
noncomputable abbrev F.Ry := Go.Proofs.Tryz.f16
abbrev N.Ry : Nat := 16
noncomputable abbrev F.EI := Go.Proofs.Tryz.f17
abbrev N.EI : Nat := 17
noncomputable abbrev F.fJ := Go.Proofs.Tryz.f18
abbrev N.fJ : Nat := 18
noncomputable abbrev F.pX := Go.Proofs.Tryz.f19
abbrev N.pX : Nat := 19
noncomputable abbrev F.Fh := Go.Proofs.Tryz.f20
abbrev N.Fh : Nat := 20
noncomputable abbrev F.EJ := Go.Proofs.Tryz.f22
abbrev N.EJ : Nat := 22
noncomputable abbrev F.tZ := Go.Proofs.Tryz.f23
abbrev N.tZ : Nat := 23
noncomputable abbrev F.Fj := Go.Proofs.Tryz.f27
abbrev N.Fj : Nat := 27
noncomputable abbrev F.Rz := Go.Proofs.Tryz.f33
abbrev N.Rz : Nat := 33
noncomputable abbrev F.I8 := Go.Proofs.Tryz.f34
abbrev N.I8 : Nat := 34
noncomputable abbrev F.RD := Go.Proofs.Tryz.f35
abbrev N.RD : Nat := 35
noncomputable abbrev F.I9 := Go.Proofs.Tryz.f36
abbrev N.I9 : Nat := 36
noncomputable abbrev F.Fp := Go.Proofs.Tryz.f37
abbrev N.Fp : Nat := 37
noncomputable abbrev F.RF := Go.Proofs.Tryz.f38
abbrev N.RF : Nat := 38
noncomputable abbrev F.EK := Go.Proofs.Tryz.f39
abbrev N.EK : Nat := 39
noncomputable abbrev F.AQ := Go.Proofs.Tryz.f40
abbrev N.AQ : Nat := 40
noncomputable abbrev F.Fq := Go.Proofs.Tryz.f41
abbrev N.Fq : Nat := 41
noncomputable abbrev F.AU := Go.Proofs.Tryz.f58
abbrev N.AU : Nat := 58
noncomputable abbrev F.yK := Go.Proofs.Tryz.f59
abbrev N.yK : Nat := 59
noncomputable abbrev F.yL := Go.Proofs.Tryz.f60
abbrev N.yL : Nat := 60
noncomputable abbrev F.Fv := Go.Proofs.Tryz.f61
abbrev N.Fv : Nat := 61
noncomputable abbrev F.kY := Go.Proofs.Tryz.f62
abbrev N.kY : Nat := 62
noncomputable abbrev F.jK := Go.Proofs.Tryz.f63
abbrev N.jK : Nat := 63
noncomputable abbrev F.fK := Go.Proofs.Tryz.f64
abbrev N.fK : Nat := 64
noncomputable abbrev F.rM := Go.Proofs.Tryz.f65
abbrev N.rM : Nat := 65
noncomputable abbrev F.yM := Go.Proofs.Tryz.f66
abbrev N.yM : Nat := 66
noncomputable abbrev F.yN := Go.Proofs.Tryz.f67
abbrev N.yN : Nat := 67
noncomputable abbrev F.AV := Go.Proofs.Tryz.f68
abbrev N.AV : Nat := 68
noncomputable abbrev F.RG := Go.Proofs.Tryz.f69
abbrev N.RG : Nat := 69
noncomputable abbrev F.qJ := Go.Proofs.Tryz.f70
abbrev N.qJ : Nat := 70
noncomputable abbrev F.LU := Go.Proofs.Tryz.f71
abbrev N.LU : Nat := 71
noncomputable abbrev F.yO := Go.Proofs.Tryz.f72
abbrev N.yO : Nat := 72
noncomputable abbrev F.yP := Go.Proofs.Tryz.f73
abbrev N.yP : Nat := 73
noncomputable abbrev F.AX := Go.Proofs.Tryz.f74
abbrev N.AX : Nat := 74
noncomputable abbrev F.nU := Go.Proofs.Tryz.f75
abbrev N.nU : Nat := 75
noncomputable abbrev F.nV := Go.Proofs.Tryz.f76
abbrev N.nV : Nat := 76
noncomputable abbrev F.qj := Go.Proofs.Tryz.f77
abbrev N.qj : Nat := 77
noncomputable abbrev F.uX := Go.Proofs.Tryz.f78
abbrev N.uX : Nat := 78
noncomputable abbrev F.jL := Go.Proofs.Tryz.f79
abbrev N.jL : Nat := 79
noncomputable abbrev F.jA := Go.Proofs.Tryz.f80
abbrev N.jA : Nat := 80
noncomputable abbrev F.eG := Go.Proofs.Tryz.f81
abbrev N.eG : Nat := 81
noncomputable abbrev F.zk := Go.Proofs.Tryz.f83
abbrev N.zk : Nat := 83
noncomputable abbrev F.RH := Go.Proofs.Tryz.f85
abbrev N.RH : Nat := 85
noncomputable abbrev F.Ja := Go.Proofs.Tryz.f86
abbrev N.Ja : Nat := 86
noncomputable abbrev F.dn := Go.Proofs.Tryz.f96
abbrev N.dn : Nat := 96
noncomputable abbrev F.Fz := Go.Proofs.Tryz.f97
abbrev N.Fz : Nat := 97
noncomputable abbrev F.AY := Go.Proofs.Tryz.f98
abbrev N.AY : Nat := 98
noncomputable abbrev F.pY := Go.Proofs.Tryz.f99
abbrev N.pY : Nat := 99
noncomputable abbrev F.wY := Go.Proofs.Tryz.f100
abbrev N.wY : Nat := 100
noncomputable abbrev F.FB := Go.Proofs.Tryz.f101
abbrev N.FB : Nat := 101
noncomputable abbrev F.uf := Go.Proofs.Tryz.f102
abbrev N.uf : Nat := 102
noncomputable abbrev F.nX := Go.Proofs.Tryz.f103
abbrev N.nX : Nat := 103
noncomputable abbrev F.FC := Go.Proofs.Tryz.f117
abbrev N.FC : Nat := 117
noncomputable abbrev F.FD := Go.Proofs.Tryz.f118
abbrev N.FD : Nat := 118
noncomputable abbrev F.qK := Go.Proofs.Tryz.f119
abbrev N.qK : Nat := 119
noncomputable abbrev F.Jb := Go.Proofs.Tryz.f120
abbrev N.Jb : Nat := 120
noncomputable abbrev F.FH := Go.Proofs.Tryz.f121
abbrev N.FH : Nat := 121
noncomputable abbrev F.FI := Go.Proofs.Tryz.f122
abbrev N.FI : Nat := 122
noncomputable abbrev F.Jc := Go.Proofs.Tryz.f123
abbrev N.Jc : Nat := 123
noncomputable abbrev F.ng := Go.Proofs.Tryz.f124
abbrev N.ng : Nat := 124
noncomputable abbrev F.uY := Go.Proofs.Tryz.f125
abbrev N.uY : Nat := 125
noncomputable abbrev F.EL := Go.Proofs.Tryz.f126
abbrev N.EL : Nat := 126
noncomputable abbrev F.gW := Go.Proofs.Tryz.f127
abbrev N.gW : Nat := 127
noncomputable abbrev F.gI := Go.Proofs.Tryz.f128
abbrev N.gI : Nat := 128
noncomputable abbrev F.i_in := Go.Proofs.Tryz.f129
abbrev N.i_in : Nat := 129
noncomputable abbrev F.jM := Go.Proofs.Tryz.f130
abbrev N.jM : Nat := 130
noncomputable abbrev F.FK := Go.Proofs.Tryz.f131
abbrev N.FK : Nat := 131
noncomputable abbrev F.Jd := Go.Proofs.Tryz.f132
abbrev N.Jd : Nat := 132
noncomputable abbrev F.Je := Go.Proofs.Tryz.f133
abbrev N.Je : Nat := 133
noncomputable abbrev F.AZ := Go.Proofs.Tryz.f134
abbrev N.AZ : Nat := 134
noncomputable abbrev F.jO := Go.Proofs.Tryz.f135
abbrev N.jO : Nat := 135
noncomputable abbrev F.uZ := Go.Proofs.Tryz.f136
abbrev N.uZ : Nat := 136
noncomputable abbrev F.Ox := Go.Proofs.Tryz.f137
abbrev N.Ox : Nat := 137
noncomputable abbrev F.EM := Go.Proofs.Tryz.f138
abbrev N.EM : Nat := 138
noncomputable abbrev F.iW := Go.Proofs.Tryz.f139
abbrev N.iW : Nat := 139
noncomputable abbrev F.wZ := Go.Proofs.Tryz.f140
abbrev N.wZ : Nat := 140
noncomputable abbrev F.EN := Go.Proofs.Tryz.f141
abbrev N.EN : Nat := 141
noncomputable abbrev F.aV := Go.Proofs.Tryz.f143
abbrev N.aV : Nat := 143
noncomputable abbrev F.kE := Go.Proofs.Tryz.f144
abbrev N.kE : Nat := 144
noncomputable abbrev F.cmp_Compare_int := Go.Proofs.Tryz.f145
abbrev N.cmp_Compare_int : Nat := 145
noncomputable abbrev F.dA := Go.Proofs.Tryz.f147
abbrev N.dA : Nat := 147
noncomputable abbrev F.lD := Go.Proofs.Tryz.f151
abbrev N.lD : Nat := 151
noncomputable abbrev F.EO := Go.Proofs.Tryz.f152
abbrev N.EO : Nat := 152
noncomputable abbrev F.sF := Go.Proofs.Tryz.f153
abbrev N.sF : Nat := 153
noncomputable abbrev F.lT := Go.Proofs.Tryz.f154
abbrev N.lT : Nat := 154
noncomputable abbrev F.FM := Go.Proofs.Tryz.f155
abbrev N.FM : Nat := 155
noncomputable abbrev F.jB := Go.Proofs.Tryz.f156
abbrev N.jB : Nat := 156
noncomputable abbrev F.Oy := Go.Proofs.Tryz.f157
abbrev N.Oy : Nat := 157
noncomputable abbrev F.Jf := Go.Proofs.Tryz.f158
abbrev N.Jf : Nat := 158
noncomputable abbrev F.rO := Go.Proofs.Tryz.f159
abbrev N.rO : Nat := 159
noncomputable abbrev F.Df := Go.Proofs.Tryz.f160
abbrev N.Df : Nat := 160
noncomputable abbrev F.ug := Go.Proofs.Tryz.f161
abbrev N.ug : Nat := 161
noncomputable abbrev F.zl := Go.Proofs.Tryz.f162
abbrev N.zl : Nat := 162
noncomputable abbrev F.Jg := Go.Proofs.Tryz.f170
abbrev N.Jg : Nat := 170
noncomputable abbrev F.Jh := Go.Proofs.Tryz.f171
abbrev N.Jh : Nat := 171
noncomputable abbrev F.jP := Go.Proofs.Tryz.f172
abbrev N.jP : Nat := 172
noncomputable abbrev F.Ji := Go.Proofs.Tryz.f173
abbrev N.Ji : Nat := 173
noncomputable abbrev F.Jj := Go.Proofs.Tryz.f174
abbrev N.Jj : Nat := 174
noncomputable abbrev F.RI := Go.Proofs.Tryz.f175
abbrev N.RI : Nat := 175
noncomputable abbrev F.Jk := Go.Proofs.Tryz.f176
abbrev N.Jk : Nat := 176
noncomputable abbrev F.fB := Go.Proofs.Tryz.f177
abbrev N.fB : Nat := 177
noncomputable abbrev F.fC := Go.Proofs.Tryz.f178
abbrev N.fC : Nat := 178
noncomputable abbrev F.iI := Go.Proofs.Tryz.f179
abbrev N.iI : Nat := 179
noncomputable abbrev F.bytes_Equal := Go.Proofs.Tryz.f180
abbrev N.bytes_Equal : Nat := 180
noncomputable abbrev F.xg := Go.Proofs.Tryz.f181
abbrev N.xg : Nat := 181
noncomputable abbrev F.EP := Go.Proofs.Tryz.f182
abbrev N.EP : Nat := 182
noncomputable abbrev F.bK := Go.Proofs.Tryz.f183
abbrev N.bK : Nat := 183
noncomputable abbrev F.aQ := Go.Proofs.Tryz.f184
abbrev N.aQ : Nat := 184
noncomputable abbrev F.iJ := Go.Proofs.Tryz.f185
abbrev N.iJ : Nat := 185
noncomputable abbrev F.iY := Go.Proofs.Tryz.f186
abbrev N.iY : Nat := 186
noncomputable abbrev F.Jl := Go.Proofs.Tryz.f187
abbrev N.Jl : Nat := 187
noncomputable abbrev F.ER := Go.Proofs.Tryz.f188
abbrev N.ER : Nat := 188
noncomputable abbrev F.A8 := Go.Proofs.Tryz.f189
abbrev N.A8 : Nat := 189
noncomputable abbrev F.ES := Go.Proofs.Tryz.f190
abbrev N.ES : Nat := 190
noncomputable abbrev F.oL := Go.Proofs.Tryz.f191
abbrev N.oL : Nat := 191
noncomputable abbrev F.lF := Go.Proofs.Tryz.f192
abbrev N.lF : Nat := 192
noncomputable abbrev F.cmp_isNaN_int := Go.Proofs.Tryz.f193
abbrev N.cmp_isNaN_int : Nat := 193
noncomputable abbrev F.Ba := Go.Proofs.Tryz.f195
abbrev N.Ba : Nat := 195
noncomputable abbrev F.Bc := Go.Proofs.Tryz.f196
abbrev N.Bc : Nat := 196
noncomputable abbrev F.yQ := Go.Proofs.Tryz.f197
abbrev N.yQ : Nat := 197
noncomputable abbrev F.ET := Go.Proofs.Tryz.f200
abbrev N.ET : Nat := 200
noncomputable abbrev F.Bd := Go.Proofs.Tryz.f201
abbrev N.Bd : Nat := 201
noncomputable abbrev F.EU := Go.Proofs.Tryz.f202
abbrev N.EU : Nat := 202
noncomputable abbrev F.mQ := Go.Proofs.Tryz.f203
abbrev N.mQ : Nat := 203
noncomputable abbrev F.bF := Go.Proofs.Tryz.f204
abbrev N.bF : Nat := 204
noncomputable abbrev F.utf8_RuneStart := Go.Proofs.Tryz.f205
abbrev N.utf8_RuneStart : Nat := 205
noncomputable abbrev F.vg := Go.Proofs.Tryz.f206
abbrev N.vg : Nat := 206
noncomputable abbrev F.aP := Go.Proofs.Tryz.f207
abbrev N.aP : Nat := 207
noncomputable abbrev F.lG := Go.Proofs.Tryz.f208
abbrev N.lG : Nat := 208
noncomputable abbrev F.EW := Go.Proofs.Tryz.f209
abbrev N.EW : Nat := 209
noncomputable abbrev F.mV := Go.Proofs.Tryz.f210
abbrev N.mV : Nat := 210
noncomputable abbrev F.bG := Go.Proofs.Tryz.f211
abbrev N.bG : Nat := 211
noncomputable abbrev F.EX := Go.Proofs.Tryz.f212
abbrev N.EX : Nat := 212
noncomputable abbrev F.Bf := Go.Proofs.Tryz.f213
abbrev N.Bf : Nat := 213
noncomputable abbrev F.lH := Go.Proofs.Tryz.f214
abbrev N.lH : Nat := 214
noncomputable abbrev F.iK := Go.Proofs.Tryz.f215
abbrev N.iK : Nat := 215
noncomputable abbrev F.oM := Go.Proofs.Tryz.f216
abbrev N.oM : Nat := 216
noncomputable abbrev F.jQ := Go.Proofs.Tryz.f217
abbrev N.jQ : Nat := 217
noncomputable abbrev F.jl := Go.Proofs.Tryz.f218
abbrev N.jl : Nat := 218
noncomputable abbrev F.Bg := Go.Proofs.Tryz.f219
abbrev N.Bg : Nat := 219
noncomputable abbrev F.yR := Go.Proofs.Tryz.f220
abbrev N.yR : Nat := 220
end Go.Ev.Seat
end
section
set_option linter.unusedVariables false
namespace Go.Ev
mutual
inductive Sh where
 | x | nl | int (k : IntKind) | bool | str | l (o : Ow) (r : Rw) | w (k : Nat) | pb (k c : Nat) | a (ss : RJ) | io (ss : RJ) | f (g : Nat) (ss : RJ) | qb (ss : RJ) (c : Nat) | lit (v : Value) | q (r : Rw) (c : Nat) | r (k : Nat) | pa (k c : Nat)
inductive RJ where
 | nil
 | cons (s : Sh) (ss : RJ)
end
mutual
@[reducible] def Sh.T : Sh → Type
 | .int _ => Int
 | .bool => Bool
 | .str => ByteArray
 | .l _ r => List r.T
 | .a ss => ss.T
 | .io ss => ss.T
 | .f _ ss => ss.T
 | .qb ss _ => ss.T
 | .q r _ => r.T
 | .r _ => Nat × Nat
 | .pa _ _ => Nat
 | _ => Unit
@[reducible] def RJ.T : RJ → Type
 | .nil => Unit
 | .cons s ss => s.T × ss.T
end
mutual
def Sh.mk : (s : Sh) → s.T → V
 | .x, _ => .x
 | .nl, _ => .nl
 | .int k, n => .s (.int k n)
 | .bool, b => .s (.bool b)
 | .str, b => .s (.string b)
 | .l o r, xs => .l o r xs
 | .w k, _ => .w k
 | .pb k c, _ => .pb k c
 | .a ss, d => .a (ss.mk d)
 | .io ss, d => .io (ss.mk d)
 | .f g ss, d => .f g (ss.mk d)
 | .qb ss c, d => .qb (ss.mk d) c
 | .lit v, _ => .s v
 | .q r c, d => .q r d c
 | .r k, d => .r k d.1 d.2
 | .pa k c, i => .pa k i c
def RJ.mk : (ss : RJ) → ss.T → List V
 | .nil, _ => []
 | .cons s ss, d => s.mk d.1 :: ss.mk d.2
end
mutual
def Sh.un : (s : Sh) → V → Option s.T
 | .x, .x => some ()
 | .nl, .nl => some ()
 | .int k, .s (.int k' n) => if k' = k then some n else none
 | .bool, .s (.bool b) => some b
 | .str, .s (.string b) => some b
 | .l o r, .l o' r' xs => if h : r' = r then (if o' = o then some (h ▸ xs) else none) else none
 | .w k, .w j => bif Nat.beq j k then some () else none
 | .pb k c, .pb j e => bif Nat.beq j k && Nat.beq e c then some () else none
 | .a ss, .a cs => ss.un cs
 | .io ss, .io cs => ss.un cs
 | .f g ss, .f g' cs => bif Nat.beq g' g then ss.un cs else none
 | .qb ss c, .qb cs c' => bif Nat.beq c' c then ss.un cs else none
 | .q r c, .q r' d c' => if h : r' = r then (bif Nat.beq c' c then some (h ▸ d) else none) else none
 | .r k, .r j off len => bif Nat.beq j k then some (off, len) else none
 | .pa k c, .pa j i e => bif Nat.beq j k && Nat.beq e c then some i else none
 | _, _ => none
def RJ.un : (ss : RJ) → List V → Option ss.T
 | .nil, [] => some ()
 | .cons s ss, v :: vs => match s.un v with
  | some d => match ss.un vs with
   | some e => some (d, e)
   | none => none
  | none => none
 | _, _ => none
end
mutual
theorem Sh.fF : (s : Sh) → {v : V} → {d : s.T} → s.un v = some d → v = s.mk d
 | .x, v, d, h => by cases v <;> simp [Sh.un] at h; rfl
 | .nl, v, d, h => by cases v <;> simp [Sh.un] at h; rfl
 | .int k, v, d, h => by
  cases v with
  | s u =>
   cases u with
   | int k' n =>
    simp only [Sh.un] at h
    split at h
    ·rename_i hk; subst hk; cases h; rfl
    ·cases h
   | _ => simp [Sh.un] at h
  | _ => simp [Sh.un] at h
 | .bool, v, d, h => by
  cases v with
  | s u =>
   cases u with
   | bool b => simp only [Sh.un] at h; cases h; rfl
   | _ => simp [Sh.un] at h
  | _ => simp [Sh.un] at h
 | .str, v, d, h => by
  cases v with
  | s u =>
   cases u with
   | string b => simp only [Sh.un] at h; cases h; rfl
   | _ => simp [Sh.un] at h
  | _ => simp [Sh.un] at h
 | .l o r, v, d, h => by
  cases v with
  | l o' r' xs =>
   simp only [Sh.un] at h
   split at h
   ·rename_i hr
    subst hr
    split at h
    ·rename_i ho; subst ho; cases h; rfl
    ·cases h
   ·cases h
  | _ => simp [Sh.un] at h
 | .lit u, v, d, h => by simp [Sh.un] at h
 | .io ss, v, d, h => by
  cases v with
  | io cs => simp only [Sh.un] at h; simp only [Sh.mk]; rw [RJ.fF ss h]
  | _ => simp [Sh.un] at h
 | .f g ss, v, d, h => by
  cases v with
  | f g' cs =>
   simp only [Sh.un] at h
   cases e : Nat.beq g' g with
   | true => rw [e] at h; simp only [Sh.mk]; rw [RJ.fF ss h, Nat.eq_of_beq_eq_true e]
   | false => rw [e] at h; cases h
  | _ => simp [Sh.un] at h
 | .qb ss c, v, d, h => by
  cases v with
  | qb cs c' =>
   simp only [Sh.un] at h
   cases e : Nat.beq c' c with
   | true => rw [e] at h; simp only [Sh.mk]; rw [RJ.fF ss h, Nat.eq_of_beq_eq_true e]
   | false => rw [e] at h; cases h
  | _ => simp [Sh.un] at h
 | .q r c, v, d, h => by
  cases v with
  | q r' e c' =>
   simp only [Sh.un] at h
   split at h
   ·rename_i hr
    subst hr
    cases e1 : Nat.beq c' c with
    | true => rw [e1] at h; cases h; rw [Nat.eq_of_beq_eq_true e1]; rfl
    | false => rw [e1] at h; cases h
   ·cases h
  | _ => simp [Sh.un] at h
 | .r k, v, d, h => by
  cases v with
  | r j off len =>
   simp only [Sh.un] at h
   cases e : Nat.beq j k with
   | true => rw [e] at h; cases h; rw [Nat.eq_of_beq_eq_true e]; rfl
   | false => rw [e] at h; cases h
  | _ => simp [Sh.un] at h
 | .pa k c, v, d, h => by
  cases v with
  | pa j i e =>
   simp only [Sh.un] at h
   cases e1 : (Nat.beq j k && Nat.beq e c) with
   | true =>
    rw [e1] at h
    simp only [Bool.and_eq_true] at e1
    cases h
    rw [Nat.eq_of_beq_eq_true e1.1, Nat.eq_of_beq_eq_true e1.2]; rfl
   | false => rw [e1] at h; cases h
  | _ => simp [Sh.un] at h
 | .w k, v, d, h => by
  cases v with
  | w j =>
   simp only [Sh.un] at h
   cases e : Nat.beq j k with
   | true => rw [Nat.eq_of_beq_eq_true e]; rfl
   | false => rw [e] at h; cases h
  | _ => simp [Sh.un] at h
 | .pb k c, v, d, h => by
  cases v with
  | pb j e =>
   simp only [Sh.un] at h
   cases e1 : (Nat.beq j k && Nat.beq e c) with
   | true =>
    simp only [Bool.and_eq_true] at e1
    rw [Nat.eq_of_beq_eq_true e1.1, Nat.eq_of_beq_eq_true e1.2]; rfl
   | false => rw [e1] at h; cases h
  | _ => simp [Sh.un] at h
 | .a ss, v, d, h => by
  cases v with
  | a cs => simp only [Sh.un] at h; simp only [Sh.mk]; rw [RJ.fF ss h]
  | _ => simp [Sh.un] at h
theorem RJ.fF : (ss : RJ) → {vs : List V} → {d : ss.T} → ss.un vs = some d → vs = ss.mk d
 | .nil, [], d, h => rfl
 | .nil, _ :: _, d, h => by simp [RJ.un] at h
 | .cons s ss, [], d, h => by simp [RJ.un] at h
 | .cons s ss, v :: vs, d, h => by
  simp only [RJ.un] at h
  split at h
  ·rename_i e he
   split at h
   ·rename_i f hf
    cases h
    simp only [RJ.mk]
    rw [← Sh.fF s he, ← RJ.fF ss hf]
   ·cases h
  ·cases h
end
inductive Oh where
 | nil
 | arr (mu deep : Bool) (r : Rw) (o : Oh)
 | own (st : Bool) (r : Rw) (o : Oh)
 | box (ss : RJ) (o : Oh)
@[reducible] def Oh.T : Oh → Type
 | .nil => Unit
 | .arr _ _ r o => List r.T × o.T
 | .own _ r o => List r.T × o.T
 | .box ss o => ss.T × o.T
def Oh.mk : (o : Oh) → Nat → o.T → dR
 | .nil, _, _ => []
 | .arr mu deep r o, n, d => (n, .arr mu deep r d.1) :: o.mk (n + 1) d.2
 | .own st r o, n, d => (n, .own st r d.1) :: o.mk (n + 1) d.2
 | .box ss o, n, d => (n, .box (ss.mk d.1)) :: o.mk (n + 1) d.2
def Oh.un : (o : Oh) → Nat → dR → Option o.T
 | .nil, _, [] => some ()
 | .arr mu deep r o, n, (j, .arr mu' deep' r' xs) :: ob => if h : r' = r then (bif Nat.beq j n && (mu' == mu) && (deep' == deep) then (match o.un (n + 1) ob with
  | some e => some (h ▸ xs, e)
  | none => none) else none) else none
 | .own st r o, n, (j, .own st' r' xs) :: ob => if h : r' = r then (bif Nat.beq j n && (st' == st) then (match o.un (n + 1) ob with
  | some e => some (h ▸ xs, e)
  | none => none) else none) else none
 | .box ss o, n, (j, .box cs) :: ob => bif Nat.beq j n then (match ss.un cs with
  | some d => match o.un (n + 1) ob with
   | some e => some (d, e)
   | none => none
  | none => none) else none
 | _, _, _ => none
theorem Oh.fF : (o : Oh) → {n : Nat} → {ob : dR} → {d : o.T} → o.un n ob = some d → ob = o.mk n d
 | .nil, n, [], d, h => rfl
 | .nil, n, _ :: _, d, h => by simp [Oh.un] at h
 | .arr mu deep r o, n, [], d, h => by simp [Oh.un] at h
 | .arr mu deep r o, n, (j, e) :: ob, d, h => by
  cases e with
  | arr mu' deep' r' xs =>
   simp only [Oh.un] at h
   split at h
   ·rename_i hr
    subst hr
    cases e1 : (Nat.beq j n && (mu' == mu) && (deep' == deep)) with
    | true =>
     rw [e1] at h
     simp only [Bool.and_eq_true, beq_iff_eq] at e1
     obtain ⟨⟨h1, rfl⟩, rfl⟩ := e1
     have := Nat.eq_of_beq_eq_true h1
     subst this
     simp only [cond_true] at h
     split at h
     ·rename_i f hf
      cases h
      simp only [Oh.mk]
      rw [← Oh.fF o hf]
     ·cases h
    | false => rw [e1] at h; cases h
   ·cases h
  | _ => simp [Oh.un] at h
 | .own st r o, n, [], d, h => by simp [Oh.un] at h
 | .own st r o, n, (j, e) :: ob, d, h => by
  cases e with
  | own st' r' xs =>
   simp only [Oh.un] at h
   split at h
   ·rename_i hr
    subst hr
    cases e1 : (Nat.beq j n && (st' == st)) with
    | true =>
     rw [e1] at h
     simp only [Bool.and_eq_true, beq_iff_eq] at e1
     obtain ⟨h1, rfl⟩ := e1
     have := Nat.eq_of_beq_eq_true h1
     subst this
     simp only [cond_true] at h
     split at h
     ·rename_i f hf
      cases h
      simp only [Oh.mk]
      rw [← Oh.fF o hf]
     ·cases h
    | false => rw [e1] at h; cases h
   ·cases h
  | _ => simp [Oh.un] at h
 | .box ss o, n, [], d, h => by simp [Oh.un] at h
 | .box ss o, n, (j, e) :: ob, d, h => by
  cases e with
  | box cs =>
   simp only [Oh.un] at h
   cases e1 : Nat.beq j n with
   | true =>
    rw [e1] at h
    have := Nat.eq_of_beq_eq_true e1
    subst this
    simp only [cond_true] at h
    split at h
    ·rename_i f hf
     split at h
     ·rename_i g hg
      cases h
      simp only [Oh.mk]
      rw [← RJ.fF ss hf, ← Oh.fF o hg]
     ·cases h
    ·cases h
   | false => rw [e1] at h; cases h
  | _ => simp [Oh.un] at h
structure Ss where
 tm : RJ
 ob : Oh
 nx : Nat
 io : RJ
abbrev Ss.T (s : Ss) : Type := s.tm.T × s.ob.T × s.io.T
def Ss.mk' (s : Ss) (d : s.T) : St := { tm := s.tm.mk d.1, ob := s.ob.mk 0 d.2.1, nx := s.nx, io := s.io.mk d.2.2 }
def Ss.un (s : Ss) (σ : St) : Option s.T :=
 match s.tm.un σ.tm with
 | none => none
 | some d => match s.ob.un 0 σ.ob with
  | none => none
  | some e => match s.io.un σ.io with
   | none => none
   | some f => bif Nat.beq σ.nx s.nx then some (d, e, f) else none
theorem Ss.fF {s : Ss} {σ : St} {d : s.T} (h : s.un σ = some d) : σ = s.mk' d := by
 unfold Ss.un at h
 split at h
 ·cases h
 ·rename_i d1 h1
  split at h
  ·cases h
  ·rename_i d2 h2
   split at h
   ·cases h
   ·rename_i d3 h3
    cases e : Nat.beq σ.nx s.nx with
    | false => rw [e] at h; cases h
    | true =>
     rw [e] at h
     cases h
     obtain ⟨tm, ob, nx, io⟩ := σ
     have := Nat.eq_of_beq_eq_true e
     simp only at h1 h2 h3 this
     subst this
     simp only [Ss.mk']
     rw [← RJ.fF _ h1, ← Oh.fF _ h2, ← RJ.fF _ h3]
def oG : Code → List Code
 | .seq a b => oG a ++ oG b
 | .cond _ a b => oG a ++ oG b
 | .block _ c => oG c
 | .loop c => c :: oG c
 | _ => []
def dL (Γ : Env) (c : Code) : Prop := ∀ n F, fH c = some n → Γ.sum n = some F → ∀ σ K r, F σ K = some r → ∃ m, rounds (run Γ c) (Γ.hint n).1 (Γ.hint n).2 m σ K = some r
theorem yC {Γ : Env} : (c : Code) → (∀ b ∈ oG c, dL Γ b) → D8 Γ c
 | .seq a b, h => ⟨yC a (fun c hc => h c (by simp [oG, hc])), yC b (fun c hc => h c (by simp [oG, hc]))⟩
 | .cond _ a b, h => ⟨yC a (fun c hc => h c (by simp [oG, hc])), yC b (fun c hc => h c (by simp [oG, hc]))⟩
 | .block _ c, h => yC c (fun b hb => h b (by simpa [oG] using hb))
 | .loop c, h => ⟨h c (by simp [oG]), yC c (fun b hb => h b (by simp [oG, hb]))⟩
 | .skip, _ => trivial
 | .region _ _ _, _ => trivial
 | .exit _, _ => trivial
 | .goto _, _ => trivial
 | .label _, _ => trivial
 | .scope _, _ => trivial
 | .ret, _ => trivial
 | .rangeFunc _ _ _ _, _ => trivial
 | .refuse _, _ => trivial
end Go.Ev
end
section
namespace Go.Ev
set_option linter.unusedVariables false
def oN (sh : Ss) (R : sh.T → (Ex → St → Option aj) → Option aj) (σ : St) (K : Ex → St → Option aj) : Option aj :=
 match sh.un σ with
 | none => none
 | some d => R d K
theorem wI {Γ : Env} {c : Code} {n : Nat} {sh : Ss} {R : sh.T → (Ex → St → Option aj) → Option aj} (hn : fH c = some n) (hs : Γ.sum n = some (oN sh R)) {li lo : List Nat} (hh : Γ.hint n = (li, lo)) (h : ∀ d K r, R d K = some r → ∃ m, rounds (run Γ c) li lo m (sh.mk' d) K = some r) : dL Γ c := by
 intro n' F hn' hF σ K r hr
 rw [hn] at hn'
 cases hn'
 rw [hs] at hF
 cases hF
 unfold oN at hr
 split at hr
 ·cases hr
 ·rename_i d hd
  rw [Ss.fF hd, hh]
  exact h d K r hr
abbrev fG := St → (Ex → St → Option aj) → Option aj
theorem dG {Γ : Env} {c : Code} {n : Nat} {F : fG} (hn : fH c = some n) (hs : Γ.sum n = some F) {li lo : List Nat} (hh : Γ.hint n = (li, lo)) (h : ∀ σ K r, F σ K = some r → ∃ m, rounds (run Γ c) li lo m σ K = some r) : dL Γ c := by
 intro n' F' hn' hF σ K r hr
 rw [hn] at hn'
 cases hn'
 rw [hs] at hF
 cases hF
 rw [hh]
 exact h σ K r hr
def sumOf : List (Nat × List Nat × List Nat × fG) → Nat → Option fG
 | [], _ => none
 | (k, _, _, F) :: l, n => bif Nat.beq n k then some F else sumOf l n
def hintOf : List (Nat × List Nat × List Nat × fG) → Nat → List Nat × List Nat
 | [], _ => ([], [])
 | (k, a, b, _) :: l, n => bif Nat.beq n k then (a, b) else hintOf l n
def ahE : List (Nat × Plan × List Nat) → Nat → Option (Plan × List Nat)
 | [], _ => none
 | (k, p, t) :: l, n => bif Nat.beq n k then some (p, t) else ahE l n
def aoJ (l : List Nat) (n : Nat) : Bool := l.any (Nat.beq n)
def Ed : Nat → RJ
 | 0 => .nil
 | n + 1 => .cons .x (Ed n)
def xd : (n : Nat) → (Ed n).T
 | 0 => ()
 | n + 1 => ((), xd n)
def aA (f : Func) (n : Nat) : Code :=
 ((oG (f.body.getD .skip)).find? (fun c => match fH c with
  | some m => Nat.beq m n
  | none => false)).getD .skip
theorem Yd {n : Int} (h0 : 0 ≤ n) (h1 : n ≤ 4611686018427387905) : IntKind.i64.wrap n = n := by
 have : IntKind.i64.wrap n = Go.RowKit.wrap64 n := by
  simp only [IntKind.wrap, IntKind.bits, IntKind.signed, Go.RowKit.wrap64, Bool.true_and]
  split <;> simp_all <;> omega
 rw [this]; unfold Go.RowKit.wrap64; omega
theorem wrap_in {n : Int} (h0 : -9223372036854775808 ≤ n) (h1 : n ≤ 9223372036854775807) : IntKind.i64.wrap n = n := by
 have : IntKind.i64.wrap n = Go.RowKit.wrap64 n := by
  simp only [IntKind.wrap, IntKind.bits, IntKind.signed, Go.RowKit.wrap64, Bool.true_and]
  split <;> simp_all <;> omega
 rw [this]; unfold Go.RowKit.wrap64; omega
def takes : List Nat → Plan
 | [] => .done
 | i :: l => .take i (takes l)
def takeB : List Nat → Plan → Plan
 | [], p => p
 | i :: l, p => .take i (takeB l p)
section
variable {P : Program} {I : Nat → World → Prop}
theorem bn : ∀ q ∈ ([] : List (Nat × Bool × Sm)), aT P I q.1 q.2.1 q.2.2 := fun _ h => nomatch h
theorem bf {g : Nat} {b : Bool} {G : Sm} {l : List (Nat × Bool × Sm)} (h : aT P I g b G) (hl : ∀ q ∈ l, aT P I q.1 q.2.1 q.2.2) : ∀ q ∈ (g, b, G) :: l, aT P I q.1 q.2.1 q.2.2 := fun q hq => by
 rcases List.mem_cons.1 hq with rfl | hq
 ·exact h
 ·exact hl q hq
def RN (Γ : Env) (cs : List Code) : Prop := ∀ b ∈ cs, dL Γ b
theorem aJ {Γ : Env} : RN Γ [] := fun _ h => nomatch h
theorem dw {Γ : Env} {c : Code} {cs : List Code} (h : dL Γ c) (hl : RN Γ cs) : RN Γ (c :: cs) := fun q hq => by
 rcases List.mem_cons.1 hq with rfl | hq
 ·exact h
 ·exact hl q hq
end
def band (k : IntKind) (a b : Int) : Int := k.wrap ((BitVec.ofInt k.bits a &&& BitVec.ofInt k.bits b).toNat : Int)
def Uj (k : IntKind) (a b : Int) : Int := k.wrap ((BitVec.ofInt k.bits a ||| BitVec.ofInt k.bits b).toNat : Int)
def OM (k : IntKind) (a b : Int) : Int := k.wrap (a * 2 ^ (min b.toNat k.bits))
def JQ (k : IntKind) (a b : Int) : Int := a.fdiv (2 ^ (min b.toNat k.bits))
def alu : List (Nat × List (Nat × Nat × Rw)) → Nat → List (Nat × Nat × Rw)
 | [], _ => []
 | (k, q) :: l, n => bif Nat.beq n k then q else alu l n
def mkE (ty : Nat → Option Ty) (l : List (Nat × Bool × Sm)) (p : List (Nat × Plan × List Nat) := []) (ls : List (Nat × List Nat × List Nat × fG) := []) (lend : List Nat := []) (focus : Bool := false) (fuel : Nat := 0) (give : List Nat := []) (glob : Nat → Option ((r : Rw) × List r.T) := fun _ => none) (PX : List (Nat × List (Nat × Nat × Rw)) := []) : Env :=
 {ty := ty, fn := tab l, hint := hintOf ls, plan := ahE p, sum := sumOf ls, lend := ⟨aoJ lend, aoJ give⟩, focus := focus, fuel := fuel, glob := glob, PX := alu PX }
end Go.Ev
namespace Go.Ev.Seat
open Go.RowKit
set_option maxRecDepth 100000
set_option linter.unusedVariables false
noncomputable abbrev prog := Go.Proofs.Tryz.prog
noncomputable abbrev En (l : List (Nat × Bool × Sm)) (p : List (Nat × Plan × List Nat) := []) (ls : List (Nat × List Nat × List Nat × fG) := []) (lend : List Nat := []) (focus : Bool := false) (fuel : Nat := 0) (give : List Nat := []) (PX : List (Nat × List (Nat × Nat × Rw)) := []) : Env := mkE tys.get l p ls lend focus fuel give globs PX
theorem aU {l : List (Nat × Bool × Sm)} {p : List (Nat × Plan × List Nat)} {ls : List (Nat × List Nat × List Nat × fG)} {lend : List Nat} {focus : Bool} {fuel : Nat} {give : List Nat} {PX : List (Nat × List (Nat × Nat × Rw))} (hl : ∀ q ∈ l, aT prog I q.1 q.2.1 q.2.2) {g : FuncId} {fn : Func} (hg : prog.funcs[g]? = some fn) (hname : (fn.name == "runtime.NumGoroutine") = false) (hb : fn.body = some (fn.body.getD .skip)) (hpl : sD (ahE p) (fn.body.getD .skip) = true) {cs : List Code} (hcs : oG (fn.body.getD .skip) = cs) (hlo : RN (En l p ls lend focus fuel give PX) cs) {fresh : Bool} : aT prog I g fresh (dS (En l p ls lend focus fuel give PX) fresh fn) :=
 anA (Γ := En l p ls lend focus fuel give PX) mixed aoI ⟨fun g fresh G h => alm hl g fresh G h, anJ rfl⟩ hg hname hb hpl (yC _ (by rw [hcs]; exact hlo))
abbrev ah : Rw := .one (.int .u8)
abbrev FN : Rw := .one (.int .i64)
end Go.Ev.Seat
end
section
set_option linter.unusedVariables false
namespace Go.Ev
def bC {α : Type} (f : α → Int → α × Int) : List α → Int → List α × Int
 | [], k => ([], k)
 | x :: xs, k => ((f x k).1 :: (bC f xs (f x k).2).1, (bC f xs (f x k).2).2)
structure dO where
 t : Int → ByteArray
def ai5 : IntKind → Int → Int
 | .i64, n => n
 | k, n => k.wrap n
mutual
def Cc.mark (T : dO) : (c : Cc) → c.T → Int → c.T × Int
 | .int k, _, n => (ai5 k n, IntKind.i64.wrap (n + 1))
 | .bool, b, n => (b, n)
 | .str, _, n => (T.t n, IntKind.i64.wrap (n + 1))
 | .sl r, xs, n => bC (r.mark T) xs n
def Rw.mark (T : dO) : (r : Rw) → r.T → Int → r.T × Int
 | .one c, d, n => c.mark T d n
 | .cons c r, d, n => ((( c.mark T d.1 n).1, (r.mark T d.2 (c.mark T d.1 n).2).1), (r.mark T d.2 (c.mark T d.1 n).2).2)
end
def Cc.bU (T : dO) : (c : Cc) → c.T → Int → c.T × Int
 | .sl r, xs, n => bC (r.mark T) xs n
 | _, d, n => (d, n)
def Rw.bU (T : dO) : (r : Rw) → r.T → Int → r.T × Int
 | .one c, d, n => c.bU T d n
 | .cons c r, d, n => (((c.bU T d.1 n).1, (r.bU T d.2 (c.bU T d.1 n).2).1), (r.bU T d.2 (c.bU T d.1 n).2).2)
theorem RP {α : Type} (f : α → Int → α × Int) : ∀ (xs : List α) (k : Int), (bC f xs k).1.length = xs.length
 | [], _ => rfl
 | x :: xs, k => by simp [bC, RP f xs]
theorem Il {α : Type} {f : α → Int → α × Int} (h : ∀ x k, f (f x k).1 k = f x k) : ∀ (xs : List α) (k : Int), bC f (bC f xs k).1 k = bC f xs k
 | [], _ => rfl
 | x :: xs, k => by simp only [bC, h, Il h xs]
mutual
theorem Cc.EY (T : dO) : (c : Cc) → (d : c.T) → (k : Int) → c.mark T (c.mark T d k).1 k = c.mark T d k
 | .int _, _, _ => rfl
 | .bool, _, _ => rfl
 | .str, _, _ => rfl
 | .sl r, xs, k => by simp only [Cc.mark]; exact Il (fun x k => Rw.EY T r x k) xs k
theorem Rw.EY (T : dO) : (r : Rw) → (d : r.T) → (k : Int) → r.mark T (r.mark T d k).1 k = r.mark T d k
 | .one c, d, k => Cc.EY T c d k
 | .cons c r, d, k => by simp only [Rw.mark, Cc.EY T c, Rw.EY T r]
end
theorem Cc.FP (T : dO) : (c : Cc) → (d : c.T) → (k : Int) → c.bU T (c.bU T d k).1 k = c.bU T d k
 | .int _, _, _ => rfl
 | .bool, _, _ => rfl
 | .str, _, _ => rfl
 | .sl r, xs, k => by simp only [Cc.bU]; exact Il (fun x k => Rw.EY T r x k) xs k
theorem Rw.FP (T : dO) : (r : Rw) → (d : r.T) → (k : Int) → r.bU T (r.bU T d k).1 k = r.bU T d k
 | .one c, d, k => Cc.FP T c d k
 | .cons c r, d, k => by simp only [Rw.bU, Cc.FP T c, Rw.FP T r]
def sumW {α : Type} (f : α → Nat) : List α → Nat
 | [] => 0
 | x :: xs => f x + sumW f xs
mutual
def Cc.w : (c : Cc) → c.T → Nat
 | .int _, _ => 0
 | .bool, _ => 0
 | .str, s => s.size
 | .sl r, xs => xs.length + sumW r.w xs
def Rw.w : (r : Rw) → r.T → Nat
 | .one c, d => c.w d
 | .cons c r, d => c.w d.1 + r.w d.2
end
mutual
def Cc.marks : (c : Cc) → c.T → Nat
 | .int _, _ => 1
 | .bool, _ => 0
 | .str, _ => 1
 | .sl r, xs => sumW r.marks xs
def Rw.marks : (r : Rw) → r.T → Nat
 | .one c, d => c.marks d
 | .cons c r, d => c.marks d.1 + r.marks d.2
end
def Cc.gV : (c : Cc) → c.T → Nat
 | .sl r, xs => sumW r.marks xs
 | _, _ => 0
def Rw.gV : (r : Rw) → r.T → Nat
 | .one c, d => c.gV d
 | .cons c r, d => c.gV d.1 + r.gV d.2
theorem JR {α : Type} {f : α → Int → α × Int} {m : α → Nat} (h : ∀ x (k : Int), 0 ≤ k → k + m x ≤ 4611686018427387904 → (f x k).2 = k + m x) : ∀ (xs : List α) (k : Int), 0 ≤ k → k + sumW m xs ≤ 4611686018427387904 → (bC f xs k).2 = k + sumW m xs
 | [], k, _, _ => by simp [bC, sumW]
 | x :: xs, k, h0, h1 => by
  simp only [bC, sumW] at h1 ⊢
  have e := h x k h0 (by omega)
  rw [JR h xs _ (by rw [e]; omega) (by rw [e]; omega), e]
  omega
mutual
theorem Cc.FQ (T : dO) : (c : Cc) → (d : c.T) → (k : Int) → 0 ≤ k → k + c.marks d ≤ 4611686018427387904 → (c.mark T d k).2 = k + c.marks d
 | .int _, d, k, h0, h1 => by simp only [Cc.mark, Cc.marks] at h1 ⊢; rw [Yd (by omega) (by omega)]; rfl
 | .bool, d, k, h0, h1 => by simp [Cc.mark, Cc.marks]
 | .str, d, k, h0, h1 => by simp only [Cc.mark, Cc.marks] at h1 ⊢; rw [Yd (by omega) (by omega)]; rfl
 | .sl r, xs, k, h0, h1 => by simp only [Cc.mark, Cc.marks] at h1 ⊢; exact JR (fun x k => Rw.FQ T r x k) xs k h0 h1
theorem Rw.FQ (T : dO) : (r : Rw) → (d : r.T) → (k : Int) → 0 ≤ k → k + r.marks d ≤ 4611686018427387904 → (r.mark T d k).2 = k + r.marks d
 | .one c, d, k, h0, h1 => Cc.FQ T c d k h0 h1
 | .cons c r, d, k, h0, h1 => by
  simp only [Rw.mark, Rw.marks] at h1 ⊢
  have e := Cc.FQ T c d.1 k h0 (by omega)
  rw [Rw.FQ T r d.2 _ (by rw [e]; omega) (by rw [e]; omega), e]
  omega
end
theorem Cc.Bh (T : dO) : (c : Cc) → (d : c.T) → (k : Int) → 0 ≤ k → k + c.gV d ≤ 4611686018427387904 → (c.bU T d k).2 = k + c.gV d
 | .int _, d, k, h0, h1 => by simp [Cc.bU, Cc.gV]
 | .bool, d, k, h0, h1 => by simp [Cc.bU, Cc.gV]
 | .str, d, k, h0, h1 => by simp [Cc.bU, Cc.gV]
 | .sl r, xs, k, h0, h1 => by simp only [Cc.bU, Cc.gV] at h1 ⊢; exact JR (fun x k => Rw.FQ T r x k) xs k h0 h1
theorem Rw.Bh (T : dO) : (r : Rw) → (d : r.T) → (k : Int) → 0 ≤ k → k + r.gV d ≤ 4611686018427387904 → (r.bU T d k).2 = k + r.gV d
 | .one c, d, k, h0, h1 => Cc.Bh T c d k h0 h1
 | .cons c r, d, k, h0, h1 => by
  simp only [Rw.bU, Rw.gV] at h1 ⊢
  have e := Cc.Bh T c d.1 k h0 (by omega)
  rw [Rw.Bh T r d.2 _ (by rw [e]; omega) (by rw [e]; omega), e]
  omega
mutual
def Cc.lim : (c : Cc) → c.T → Bool
 | .int _, _ => true
 | .bool, _ => true
 | .str, _ => true
 | .sl r, xs => Nat.ble xs.length 1048576 && xs.all r.lim
def Rw.lim : (r : Rw) → r.T → Bool
 | .one c, d => c.lim d
 | .cons c r, d => c.lim d.1 && r.lim d.2
end
theorem YL {α : Type} {f : α → Nat} : ∀ {xs : List α} {x : α}, x ∈ xs → f x ≤ sumW f xs
 | y :: xs, x, h => by
  simp only [sumW]
  rcases List.mem_cons.1 h with rfl | h
  ·omega
  ·have := YL (f := f) h; omega
mutual
theorem Cc.Qa : (c : Cc) → (d : c.T) → c.w d ≤ 1048576 → c.lim d = true
 | .int _, _, _ => rfl
 | .bool, _, _ => rfl
 | .str, _, _ => rfl
 | .sl r, xs, h => by
  simp only [Cc.w] at h
  simp only [Cc.lim, Bool.and_eq_true, List.all_eq_true]
  refine ⟨Nat.ble_eq_true_of_le (by omega), fun x hx => ?_⟩
  have := YL (f := r.w) hx
  exact Rw.Qa r x (by omega)
theorem Rw.Qa : (r : Rw) → (d : r.T) → r.w d ≤ 1048576 → r.lim d = true
 | .one c, d, h => Cc.Qa c d h
 | .cons c r, d, h => by
  simp only [Rw.w] at h
  simp only [Rw.lim, Bool.and_eq_true]
  exact ⟨Cc.Qa c d.1 (by omega), Rw.Qa r d.2 (by omega)⟩
end
noncomputable def wG {α : Type} (x y : α) : Bool := by classical exact decide (x = y)
theorem wJ {α : Type} (x : α) : wG x x = true := by simp [wG]
theorem JU {α : Type} {x y : α} : wG x y = true ↔ x = y := by simp [wG]
theorem lI {α : Type} {x y : α} (h : x ≠ y) : wG x y = false := by simp [wG, h]
section
variable {α β : Type} {ρ : Type}
theorem ai6 {R : Nat → Int → List α → ρ} {Kf : List α → ρ} {xs : List α} {z : α}
  (hs : ∀ n (i : Nat) ys, i < xs.length → ys.length = xs.length → R (n + 1) i ys = R n ((i + 1 : Nat) : Int) (ys.set i (xs.getD i z)))
  (he : ∀ n ys, ys.length = xs.length → R (n + 1) (xs.length : Nat) ys = Kf ys) (ys : List α) (hy : ys.length = xs.length) : R (xs.length + 1) 0 ys = Kf xs := by
 have key : ∀ (k i : Nat) (ys : List α), ys.length = xs.length → i + k = xs.length → R (k + 1) i ys = Kf (ys.take i ++ xs.drop i) := by
  intro k
  induction k with
  | zero =>
   intro i ys hy hi
   have : i = xs.length := by omega
   subst this
   rw [he 0 ys hy, List.drop_length, List.append_nil, ← hy, List.take_length]
  | succ k ih =>
   intro i ys hy hi
   rw [hs _ i ys (by omega) hy, ih (i + 1) _ (by simpa using hy) (by omega)]
   congr 1
   have hlt : i < xs.length := by omega
   have hly : i < ys.length := by omega
   rw [List.drop_eq_getElem_cons hlt, List.take_add_one, List.take_set, List.getElem?_set, if_pos rfl, if_pos hly, List.set_eq_of_length_le (by simp; exact Nat.min_le_left _ _)]
   rw [List.getD_eq_getElem?_getD, List.getElem?_eq_getElem hlt]
   simp
 have := key xs.length 0 ys hy (by omega)
 simpa using this
theorem ai7 {R : Nat → Int → ρ} {kt kf : ρ} {xs ys : List α} {z : α} {e : α → α → Bool} (hE : ∀ a b, e a b = true ↔ a = b) (hl : ys.length = xs.length)
  (hs : ∀ n (i : Nat), i < xs.length → R (n + 1) i = bif e (xs.getD i z) (ys.getD i z) then R n ((i + 1 : Nat) : Int) else kf)
  (he : ∀ n, R (n + 1) (xs.length : Nat) = kt) : R (xs.length + 1) 0 = bif wG xs ys then kt else kf := by
 have key : ∀ (k i : Nat), i + k = xs.length → R (k + 1) i = bif wG (xs.drop i) (ys.drop i) then kt else kf := by
  intro k
  induction k with
  | zero =>
   intro i hi
   have : i = xs.length := by omega
   subst this
   rw [he 0, List.drop_length, ← hl, List.drop_length, wJ]; rfl
  | succ k ih =>
   intro i hi
   have hlt : i < xs.length := by omega
   have hly : i < ys.length := by omega
   rw [hs _ i hlt, ih (i + 1) (by omega), List.drop_eq_getElem_cons hlt, List.drop_eq_getElem_cons hly]
   have hx : xs.getD i z = xs[i] := by rw [List.getD_eq_getElem?_getD, List.getElem?_eq_getElem hlt]; rfl
   have hy : ys.getD i z = ys[i] := by rw [List.getD_eq_getElem?_getD, List.getElem?_eq_getElem hly]; rfl
   rw [hx, hy]
   by_cases h : xs[i] = ys[i]
   ·rw [(hE _ _).2 h, h]
    simp only [cond_true]
    by_cases h2 : xs.drop (i + 1) = ys.drop (i + 1)
    ·rw [h2, wJ, wJ]
    ·rw [lI h2, lI (fun h3 => h2 (List.cons.inj h3).2)]
   ·have : e xs[i] ys[i] = false := by
     rw [Bool.eq_false_iff]; exact fun h' => h ((hE _ _).1 h')
    rw [this, lI (fun h3 => h (List.cons.inj h3).1)]
    rfl
 have := key xs.length 0 (by omega)
 simpa using this
theorem ajQ {R : Nat → Int → Int → List α → ρ} {Kf : Int → List α → ρ} {f : α → Int → α × Int} {z : α} (n : Nat)
  (hs : ∀ m (i : Nat) k (ys : List α), i < n → ys.length = n → R (m + 1) i k ys = R m ((i + 1 : Nat) : Int) (f (ys.getD i z) k).2 (ys.set i (f (ys.getD i z) k).1))
  (he : ∀ m k (ys : List α), ys.length = n → R (m + 1) (n : Nat) k ys = Kf k ys) (xs : List α) (hx : xs.length = n) (k : Int) : R (n + 1) 0 k xs = Kf (bC f xs k).2 (bC f xs k).1 := by
 have key : ∀ (j i : Nat) (k : Int) (pre suf : List α), pre.length = i → (pre ++ suf).length = n → i + j = n → R (j + 1) i k (pre ++ suf) = Kf (bC f suf k).2 (pre ++ (bC f suf k).1) := by
  intro j
  induction j with
  | zero =>
   intro i k pre suf hp hn hi
   have hs0 : suf = [] := by
    cases suf with
    | nil => rfl
    | cons x xs => simp at hn; omega
   subst hs0
   have : i = n := by omega
   subst this
   rw [he 0 k _ hn]; rfl
  | succ j ih =>
   intro i k pre suf hp hn hi
   cases suf with
   | nil => simp at hn; omega
   | cons x suf =>
    rw [hs _ i k _ (by omega) hn]
    have hg : (pre ++ x :: suf).getD i z = x := by
     rw [List.getD_eq_getElem?_getD, List.getElem?_append_right (by omega), hp, Nat.sub_self]; rfl
    have hset : (pre ++ x :: suf).set i (f x k).1 = (pre ++ [(f x k).1]) ++ suf := by
     rw [List.set_append_right _ _ (by omega), hp, Nat.sub_self]; simp
    rw [hg, hset, ih (i + 1) (f x k).2 (pre ++ [(f x k).1]) suf (by simp [hp]) (by simpa using hn) (by omega)]
    simp [bC]
 have := key n 0 k [] xs rfl (by simpa using hx) (by omega)
 simpa using this
theorem ajR {R : Nat → Int → Int → ρ} {Kf : Int → ρ} {f : α → Int → α × Int} {xs : List α} {z : α}
  (hs : ∀ m (i : Nat) k, i < xs.length → (f (xs.getD i z) k).1 = xs.getD i z → R (m + 1) i k = R m ((i + 1 : Nat) : Int) (f (xs.getD i z) k).2)
  (he : ∀ m k, R (m + 1) (xs.length : Nat) k = Kf k) (k : Int) (hm : (bC f xs k).1 = xs) : R (xs.length + 1) 0 k = Kf (bC f xs k).2 := by
 have key : ∀ (j i : Nat) (k : Int), i + j = xs.length → (bC f (xs.drop i) k).1 = xs.drop i → R (j + 1) i k = Kf (bC f (xs.drop i) k).2 := by
  intro j
  induction j with
  | zero =>
   intro i k hi hm
   have : i = xs.length := by omega
   subst this
   rw [he 0 k, List.drop_length]; rfl
  | succ j ih =>
   intro i k hi hm
   have hlt : i < xs.length := by omega
   rw [List.drop_eq_getElem_cons hlt] at hm ⊢
   simp only [bC] at hm ⊢
   have h1 := (List.cons.inj hm).1
   have h2 := (List.cons.inj hm).2
   have hx : xs.getD i z = xs[i] := by rw [List.getD_eq_getElem?_getD, List.getElem?_eq_getElem hlt]; rfl
   rw [hs _ i k hlt (by rw [hx]; exact h1), hx, ih (i + 1) _ (by omega) h2]
 have := key xs.length 0 k (by omega) (by simpa using hm)
 simpa using this
theorem amL {R : Nat → Int → Int → ρ} {Kt : Int → ρ} {Kf : ρ} {xs : List α} {z : α} {g : α → Nat}
  (hs : ∀ m (i : Nat) (l : Int), i < xs.length → 0 ≤ l → l ≤ 4611686018427387904 → R (m + 1) i l = bif decide (l - g (xs.getD i z) < 0) then Kf else R m ((i + 1 : Nat) : Int) (l - g (xs.getD i z)))
  (he : ∀ m (l : Int), 0 ≤ l → R (m + 1) (xs.length : Nat) l = Kt l) (l : Int) (h0 : 0 ≤ l) (h1 : l ≤ 4611686018427387904) : R (xs.length + 1) 0 l = bif decide (l - sumW g xs < 0) then Kf else Kt (l - sumW g xs) := by
 have key : ∀ (j i : Nat) (l : Int), i + j = xs.length → 0 ≤ l → l ≤ 4611686018427387904 → R (j + 1) i l = bif decide (l - sumW g (xs.drop i) < 0) then Kf else Kt (l - sumW g (xs.drop i)) := by
  intro j
  induction j with
  | zero =>
   intro i l hi h0 h1
   have : i = xs.length := by omega
   subst this
   rw [he 0 l h0, List.drop_length]
   rw [show sumW g [] = 0 from rfl]
   have : decide (l - ((0 : Nat) : Int) < 0) = false := decide_eq_false (by omega)
   rw [this]; simp
  | succ j ih =>
   intro i l hi h0 h1
   have hlt : i < xs.length := by omega
   have hx : xs.getD i z = xs[i] := by rw [List.getD_eq_getElem?_getD, List.getElem?_eq_getElem hlt]; rfl
   rw [hs _ i l hlt h0 h1, List.drop_eq_getElem_cons hlt, hx, show sumW g (xs[i] :: xs.drop (i + 1)) = g xs[i] + sumW g (xs.drop (i + 1)) from rfl]
   by_cases h : l - (g xs[i] : Int) < 0
   ·rw [decide_eq_true h, decide_eq_true (show l - ((g xs[i] + sumW g (xs.drop (i + 1)) : Nat) : Int) < 0 by omega)]; rfl
   ·rw [decide_eq_false h, ih (i + 1) _ (by omega) (by omega) (by omega)]
    simp only [cond_false]
    have : l - (g xs[i] : Int) - (sumW g (xs.drop (i + 1)) : Int) = l - ((g xs[i] + sumW g (xs.drop (i + 1)) : Nat) : Int) := by omega
    rw [this]
 have := key xs.length 0 l (by omega) h0 h1
 simpa using this
theorem ae4 {ρ σ : Type} {R : Nat → Int → σ → ρ} {k : ρ} {f : Nat → σ} (n : Nat) (hs : ∀ m (i : Nat), i < n → R (m + 1) i (f i) = R m ((i + 1 : Nat) : Int) (f (i + 1))) (he : ∀ m, R (m + 1) (n : Nat) (f n) = k) : R (n + 1) 0 (f 0) = k := by
  have key : ∀ (j i : Nat), i + j = n → R (j + 1) i (f i) = k := by
    intro j
    induction j with
    | zero => intro i hi; have : i = n := by omega
              subst this; exact he 0
    | succ j ih => intro i hi; rw [hs _ i (by omega), ih (i + 1) (by omega)]
  exact key n 0 (by omega)
theorem Jm {α : Type} {g : α → Nat} {xs : List α} {i : Nat} {z : α} (h : i < xs.length) : sumW g (xs.take (i + 1)) = sumW g (xs.take i) + g (xs.getD i z) := by
 have app : ∀ (ys zs : List α), sumW g (ys ++ zs) = sumW g ys + sumW g zs := fun ys zs => by
  induction ys with
  | nil => simp [sumW]
  | cons y ys ih => simp only [List.cons_append, sumW, ih]; omega
 rw [List.take_add_one, app, List.getD_eq_getElem?_getD, List.getElem?_eq_getElem h]
 simp [sumW]
theorem zn {α : Type} {g : α → Nat} {xs : List α} {i : Nat} : sumW g (xs.take i) ≤ sumW g xs := by
 have app : ∀ (ys zs : List α), sumW g (ys ++ zs) = sumW g ys + sumW g zs := fun ys zs => by
  induction ys with
  | nil => simp [sumW]
  | cons y ys ih => simp only [List.cons_append, sumW, ih]; omega
 have := app (xs.take i) (xs.drop i)
 rw [List.take_append_drop] at this
 omega
theorem JV {α : Type} {xs : List (List α)} {i : Nat} {z : List α} (h : i < xs.length) : (xs.take (i + 1)).flatten = (xs.take i).flatten ++ xs.getD i z := by
 rw [List.take_add_one, List.flatten_append, List.getD_eq_getElem?_getD, List.getElem?_eq_getElem h]
 simp
theorem RQ {α : Type} (xs : List (List α)) : xs.flatten.length = sumW List.length xs := by
 induction xs with
 | nil => rfl
 | cons x xs ih => simp [sumW, ih]
end
end Go.Ev
end
section
set_option linter.unusedVariables false
namespace Go.Ev
def Cc.dec : (c : Cc) → V → Option c.T
 | .int k, .s (.int k' n) => if k' = k then some n else none
 | .bool, .s (.bool b) => some b
 | .str, .s (.string b) => some b
 | .sl r, .l .no r' xs => if h : r' = r then some (h ▸ xs) else none
 | _, _ => none
def Rw.dec : (r : Rw) → List V → Option r.T
 | .one c, [v] => c.dec v
 | .cons c r, v :: vs => match c.dec v with
  | some d => match r.dec vs with
   | some e => some (d, e)
   | none => none
  | none => none
 | _, _ => none
theorem Cc.iL : (c : Cc) → {v : V} → {d : c.T} → c.dec v = some d → v = c.cell .no d
 | .int k, v, d, h => by
  cases v with
  | s u =>
   cases u with
   | int k' n =>
    simp only [Cc.dec] at h
    split at h
    ·rename_i hk; subst hk; cases h; rfl
    ·cases h
   | _ => simp [Cc.dec] at h
  | _ => simp [Cc.dec] at h
 | .bool, v, d, h => by
  cases v with
  | s u => cases u <;> simp only [Cc.dec, reduceCtorEq, Option.some.injEq] at h; subst h; rfl
  | _ => simp [Cc.dec] at h
 | .str, v, d, h => by
  cases v with
  | s u => cases u <;> simp only [Cc.dec, reduceCtorEq, Option.some.injEq] at h; subst h; rfl
  | _ => simp [Cc.dec] at h
 | .sl r, v, d, h => by
  cases v with
  | l o r' xs =>
   cases o <;> simp only [Cc.dec, reduceCtorEq] at h
   split at h
   ·rename_i hr; subst hr; cases h; rfl
   ·cases h
  | _ => simp [Cc.dec] at h
theorem Rw.iL : (r : Rw) → {vs : List V} → {d : r.T} → r.dec vs = some d → vs = r.cells .no d
 | .one c, [], d, h => by simp [Rw.dec] at h
 | .one c, [v], d, h => by
  simp only [Rw.dec] at h
  rw [Cc.iL c h]; rfl
 | .one c, _ :: _ :: _, d, h => by simp [Rw.dec] at h
 | .cons c r, [], d, h => by simp [Rw.dec] at h
 | .cons c r, v :: vs, d, h => by
  simp only [Rw.dec] at h
  split at h
  ·rename_i d1 e1
   split at h
   ·rename_i d2 e2
    cases h
    rw [Cc.iL c e1, Rw.iL r e2]; rfl
   ·cases h
  ·cases h
def sc (n : Int) : V := .s (.int .i64 n)
def bl (b : Bool) : V := .s (.bool b)
def nY (w : Nat) (l : Int) : Int := if l - w < 0 then -1 else l - w
def oD (l : Int) : Bool := decide (0 ≤ l) && decide (l ≤ 4611686018427387904)
def FT (r : Rw) : Sm := fun vs K => match vs with
 | [v] => match (Cc.sl r).dec v with
  | some xs => bif (Cc.sl r).lim xs then K (.l .deep r xs, []) else none
  | none => none
 | _ => none
def zo (r : Rw) : Sm := fun vs K => match vs with
 | [.a cs] => match r.dec cs with
  | some d => bif r.lim d then K (.a (r.cells .deep d), []) else none
  | none => none
 | _ => none
mutual
def Cc.cnt : (c : Cc) → c.T → Bool
 | .sl r, xs => Nat.ble xs.length 4611686018427387904 && xs.all r.cnt
 | _, _ => true
def Rw.cnt : (r : Rw) → r.T → Bool
 | .one c, d => c.cnt d
 | .cons c r, d => c.cnt d.1 && r.cnt d.2
end
mutual
def Cc.Dh : (c : Cc) → c.T → Bool
 | .sl r, xs => Nat.ble xs.length 9223372036854775807 && xs.all r.Dh
 | _, _ => true
def Rw.Dh : (r : Rw) → r.T → Bool
 | .one c, d => c.Dh d
 | .cons c r, d => c.Dh d.1 && r.Dh d.2
end
mutual
theorem Cc.yD : (c : Cc) → (d : c.T) → c.lim d = true → c.cnt d = true
 | .int _, _, _ => rfl
 | .bool, _, _ => rfl
 | .str, _, _ => rfl
 | .sl r, xs, h => by
  simp only [Cc.lim, Cc.cnt, Bool.and_eq_true, List.all_eq_true] at h ⊢
  exact ⟨Nat.ble_eq_true_of_le (by have := Nat.le_of_ble_eq_true h.1; omega), fun x hx => Rw.yD r x (h.2 x hx)⟩
theorem Rw.yD : (r : Rw) → (d : r.T) → r.lim d = true → r.cnt d = true
 | .one c, d, h => Cc.yD c d h
 | .cons c r, d, h => by
  simp only [Rw.lim, Rw.cnt, Bool.and_eq_true] at h ⊢
  exact ⟨Cc.yD c d.1 h.1, Rw.yD r d.2 h.2⟩
end
noncomputable def Qb (r : Rw) : Sm := fun vs K => match vs with
 | [v, u] => match (Cc.sl r).dec v, (Cc.sl r).dec u with
  | some xs, some ys => bif (Cc.sl r).cnt xs then K (bl (wG xs ys), []) else none
  | _, _ => none
 | _ => none
noncomputable def yS (r : Rw) : Sm := fun vs K => match vs with
 | [.a cs, .a ds] => match r.dec cs, r.dec ds with
  | some d, some e => bif r.cnt d then K (bl (wG d e), []) else none
  | _, _ => none
 | _ => none
def FU (r : Rw) : Sm := fun vs K => match vs with
 | [v, .s (.int .i64 l)] => match (Cc.sl r).dec v with
  | some xs => bif oD l && (Cc.sl r).Dh xs then K (sc (nY ((Cc.sl r).w xs) l), []) else none
  | none => none
 | _ => none
def FV (r : Rw) : Sm := fun vs K => match vs with
 | [.a cs, .s (.int .i64 l)] => match r.dec cs with
  | some d => bif oD l && r.Dh d then K (sc (nY (r.w d) l), []) else none
  | none => none
 | _ => none
mutual
def Cc.GL : (c : Cc) → V → Option c.T
 | .int k, .s (.int k' n) => if k' = k then some n else none
 | .bool, .s (.bool b) => some b
 | .str, .s (.string b) => some b
 | .sl r, .l .own r' xs => if h : r' = r then some (h ▸ xs) else none
 | _, _ => none
def Rw.GL : (r : Rw) → List V → Option r.T
 | .one c, [v] => c.GL v
 | .cons c r, v :: vs => match c.GL v with
  | some d => match r.GL vs with
   | some e => some (d, e)
   | none => none
  | none => none
 | _, _ => none
end
theorem Cc.Oz : (c : Cc) → {v : V} → {d : c.T} → c.GL v = some d → v = c.cell .own d
 | .int k, v, d, h => by
  cases v with
  | s u =>
   cases u with
   | int k' n =>
    simp only [Cc.GL] at h
    split at h
    ·rename_i hk; subst hk; cases h; rfl
    ·cases h
   | _ => simp [Cc.GL] at h
  | _ => simp [Cc.GL] at h
 | .bool, v, d, h => by
  cases v with
  | s u => cases u <;> simp only [Cc.GL, reduceCtorEq, Option.some.injEq] at h; subst h; rfl
  | _ => simp [Cc.GL] at h
 | .str, v, d, h => by
  cases v with
  | s u => cases u <;> simp only [Cc.GL, reduceCtorEq, Option.some.injEq] at h; subst h; rfl
  | _ => simp [Cc.GL] at h
 | .sl r, v, d, h => by
  cases v with
  | l o r' xs =>
   cases o <;> simp only [Cc.GL, reduceCtorEq] at h
   split at h
   ·rename_i hr; subst hr; cases h; rfl
   ·cases h
  | _ => simp [Cc.GL] at h
theorem Rw.Oz : (r : Rw) → {vs : List V} → {d : r.T} → r.GL vs = some d → vs = r.cells .own d
 | .one c, [], d, h => by simp [Rw.GL] at h
 | .one c, [v], d, h => by
  simp only [Rw.GL] at h
  rw [Cc.Oz c h]; rfl
 | .one c, _ :: _ :: _, d, h => by simp [Rw.GL] at h
 | .cons c r, [], d, h => by simp [Rw.GL] at h
 | .cons c r, v :: vs, d, h => by
  simp only [Rw.GL] at h
  split at h
  ·rename_i d1 e1
   split at h
   ·rename_i d2 e2
    cases h
    rw [Cc.Oz c e1, Rw.Oz r e2]; rfl
   ·cases h
  ·cases h
def ni (T : dO) (r : Rw) : Sm := fun vs K => match vs with
 | [v, .s (.int .i64 k)] => match (Cc.sl r).GL v with
  | some xs => bif (Cc.sl r).cnt xs then K (sc ((Cc.sl r).mark T xs k).2, [.l .own r ((Cc.sl r).mark T xs k).1]) else none
  | none => none
 | _ => none
def Hq (T : dO) (r : Rw) : Sm := fun vs K => match vs with
 | [.a cs, .s (.int .i64 k)] => match r.GL cs with
  | some d => bif r.cnt d then K (sc (r.bU T d k).2, [.a (r.cells .own (r.bU T d k).1)]) else none
  | none => none
 | _ => none
noncomputable def Ye (T : dO) (r : Rw) : Sm := fun vs K => match vs with
 | [v, .s (.int .i64 k)] => match (Cc.sl r).dec v with
  | some xs => bif wG ((Cc.sl r).mark T xs k).1 xs && ((Cc.sl r).cnt xs && decide (0 ≤ k) && decide (k + (Cc.sl r).marks xs ≤ 4611686018427387904)) then K (sc ((Cc.sl r).mark T xs k).2, []) else none
  | none => none
 | _ => none
noncomputable def Yf (T : dO) (r : Rw) : Sm := fun vs K => match vs with
 | [.a cs, .s (.int .i64 k)] => match r.dec cs with
  | some d => bif wG (r.bU T d k).1 d && (r.cnt d && decide (0 ≤ k) && decide (k + r.gV d ≤ 4611686018427387904)) then K (sc (r.bU T d k).2, []) else none
  | none => none
 | _ => none
theorem bY {i : Nat} (h : i ≤ 4611686018427387904) : IntKind.i64.wrap (((i : Nat) : Int) + 1) = (((i + 1 : Nat)) : Int) := by
 rw [Yd (by omega) (by omega)]; rfl
theorem ae5 {w v : Nat} {l : Int} (h : 0 ≤ l) : nY (w + v) l = if nY w l < 0 then -1 else nY v (nY w l) := by
 simp only [nY]
 split <;> split <;> (try split) <;> (try split) <;> omega
section
variable {P : Program} {I : Nat → World → Prop}
theorem okW {g : FuncId} {f : Bool} {S G : Sm} (hG : aT P I g f G) (h : ∀ ws K q, S ws K = some q → G ws K = some q) : aT P I g f S := aT.weak (fun ws K r hr => ⟨_, hG, h ws K r hr⟩) hG.1
variable {r : Rw} {G : Sm} {T : dO}
theorem ae6 (h : ∀ xs K, (Cc.sl r).lim xs = true → G [.l .no r xs] K = K (.l .deep r xs, [])) : ∀ ws K q, FT r ws K = some q → G ws K = some q := by
 intro ws K q hr
 unfold FT at hr
 split at hr
 ·split at hr
  ·rename_i xs hx
   rw [Cc.iL _ hx]
   cases hl : (Cc.sl r).lim xs with
   | false => rw [hl] at hr; cases hr
   | true => rw [hl] at hr; exact (h xs K hl).trans hr
  ·cases hr
 ·cases hr
theorem Di (h : ∀ d K, r.lim d = true → G [.a (r.cells .no d)] K = K (.a (r.cells .deep d), [])) : ∀ ws K q, zo r ws K = some q → G ws K = some q := by
 intro ws K q hr
 unfold zo at hr
 split at hr
 ·split at hr
  ·rename_i d hx
   rw [Rw.iL _ hx]
   cases hl : r.lim d with
   | false => rw [hl] at hr; cases hr
   | true => rw [hl] at hr; exact (h d K hl).trans hr
  ·cases hr
 ·cases hr
theorem ai8 (h : ∀ xs ys K, (Cc.sl r).cnt xs = true → G [.l .no r xs, .l .no r ys] K = K (bl (wG xs ys), [])) : ∀ ws K q, Qb r ws K = some q → G ws K = some q := by
 intro ws K q hr
 unfold Qb at hr
 split at hr
 ·split at hr
  ·rename_i xs ys hx hy
   rw [Cc.iL _ hx, Cc.iL _ hy]
   cases hl : (Cc.sl r).cnt xs with
   | false => rw [hl] at hr; cases hr
   | true => rw [hl] at hr; exact (h xs ys K hl).trans hr
  ·cases hr
 ·cases hr
theorem Dj (h : ∀ xs ys K, r.cnt xs = true → G [.a (r.cells .no xs), .a (r.cells .no ys)] K = K (bl (wG xs ys), [])) : ∀ ws K q, yS r ws K = some q → G ws K = some q := by
 intro ws K q hr
 unfold yS at hr
 split at hr
 ·split at hr
  ·rename_i xs ys hx hy
   rw [Rw.iL _ hx, Rw.iL _ hy]
   cases hl : r.cnt xs with
   | false => rw [hl] at hr; cases hr
   | true => rw [hl] at hr; exact (h xs ys K hl).trans hr
  ·cases hr
 ·cases hr
theorem YM (h : ∀ xs l K, oD l = true → (Cc.sl r).Dh xs = true → G [.l .no r xs, .s (.int .i64 l)] K = K (sc (nY ((Cc.sl r).w xs) l), [])) : ∀ ws K q, FU r ws K = some q → G ws K = some q := by
 intro ws K q hr
 unfold FU at hr
 split at hr
 ·split at hr
  ·rename_i l _ xs hx
   rw [Cc.iL _ hx]
   cases hl : (oD l && (Cc.sl r).Dh xs) with
   | false => rw [hl] at hr; cases hr
   | true => rw [hl] at hr; rw [Bool.and_eq_true] at hl; exact (h xs l K hl.1 hl.2).trans hr
  ·cases hr
 ·cases hr
theorem Jo (h : ∀ d l K, oD l = true → r.Dh d = true → G [.a (r.cells .no d), .s (.int .i64 l)] K = K (sc (nY (r.w d) l), [])) : ∀ ws K q, FV r ws K = some q → G ws K = some q := by
 intro ws K q hr
 unfold FV at hr
 split at hr
 ·split at hr
  ·rename_i l _ xs hx
   rw [Rw.iL _ hx]
   cases hl : (oD l && r.Dh xs) with
   | false => rw [hl] at hr; cases hr
   | true => rw [hl] at hr; rw [Bool.and_eq_true] at hl; exact (h xs l K hl.1 hl.2).trans hr
  ·cases hr
 ·cases hr
theorem YN (h : ∀ xs k K, (Cc.sl r).cnt xs = true → G [.l .own r xs, .s (.int .i64 k)] K = K (sc ((Cc.sl r).mark T xs k).2, [.l .own r ((Cc.sl r).mark T xs k).1])) : ∀ ws K q, ni T r ws K = some q → G ws K = some q := by
 intro ws K q hr
 unfold ni at hr
 split at hr
 ·split at hr
  ·rename_i k _ xs hx
   rw [Cc.Oz _ hx]
   cases hl : (Cc.sl r).cnt xs with
   | false => rw [hl] at hr; cases hr
   | true => rw [hl] at hr; exact (h xs k K hl).trans hr
  ·cases hr
 ·cases hr
theorem Qc (h : ∀ d k K, r.cnt d = true → G [.a (r.cells .own d), .s (.int .i64 k)] K = K (sc (r.bU T d k).2, [.a (r.cells .own (r.bU T d k).1)])) : ∀ ws K q, Hq T r ws K = some q → G ws K = some q := by
 intro ws K q hr
 unfold Hq at hr
 split at hr
 ·split at hr
  ·rename_i k _ xs hx
   rw [Rw.Oz _ hx]
   cases hl : r.cnt xs with
   | false => rw [hl] at hr; cases hr
   | true => rw [hl] at hr; exact (h xs k K hl).trans hr
  ·cases hr
 ·cases hr
theorem ahF (h : ∀ xs k K, ((Cc.sl r).mark T xs k).1 = xs → (Cc.sl r).cnt xs = true → 0 ≤ k → k + (Cc.sl r).marks xs ≤ 4611686018427387904 → G [.l .no r xs, .s (.int .i64 k)] K = K (sc ((Cc.sl r).mark T xs k).2, [])) : ∀ ws K q, Ye T r ws K = some q → G ws K = some q := by
 intro ws K q hr
 unfold Ye at hr
 split at hr
 ·split at hr
  ·rename_i k _ xs hx
   rw [Cc.iL _ hx]
   cases hl : (wG ((Cc.sl r).mark T xs k).1 xs && ((Cc.sl r).cnt xs && decide (0 ≤ k) && decide (k + (Cc.sl r).marks xs ≤ 4611686018427387904))) with
   | false => rw [hl] at hr; cases hr
   | true =>
    rw [hl] at hr
    simp only [Bool.and_eq_true, decide_eq_true_eq] at hl
    exact (h xs k K (JU.1 hl.1) hl.2.1.1 hl.2.1.2 hl.2.2).trans hr
  ·cases hr
 ·cases hr
theorem ahG (h : ∀ d k K, (r.bU T d k).1 = d → r.cnt d = true → 0 ≤ k → k + r.gV d ≤ 4611686018427387904 → G [.a (r.cells .no d), .s (.int .i64 k)] K = K (sc (r.bU T d k).2, [])) : ∀ ws K q, Yf T r ws K = some q → G ws K = some q := by
 intro ws K q hr
 unfold Yf at hr
 split at hr
 ·split at hr
  ·rename_i k _ xs hx
   rw [Rw.iL _ hx]
   cases hl : (wG (r.bU T xs k).1 xs && (r.cnt xs && decide (0 ≤ k) && decide (k + r.gV xs ≤ 4611686018427387904))) with
   | false => rw [hl] at hr; cases hr
   | true =>
    rw [hl] at hr
    simp only [Bool.and_eq_true, decide_eq_true_eq] at hl
    exact (h xs k K (JU.1 hl.1) hl.2.1.1 hl.2.1.2 hl.2.2).trans hr
  ·cases hr
 ·cases hr
end
section
variable {ρ : Type}
theorem bZ {b : Bool} {A B : Option ρ} (h : b = true) (hA : A = B) : (bif b then A else none) = B := by rw [h]; exact hA
theorem Hr {α β : Type} [BEq α] [LawfulBEq α] {x y : α} {xs ys : β} {K : aj → Option aj} {A : Option aj} (h : A = K (bl (wG xs ys), [])) : (bif x != y then K (bl false, []) else A) = K (bl (wG (x, xs) (y, ys)), []) := by
 by_cases e : x = y
 ·rw [show (x != y) = false by simp [e]]
  show A = _
  rw [h]
  by_cases e2 : xs = ys
  ·rw [e, e2, wJ, wJ]
  ·rw [lI e2, lI (fun h => e2 (Prod.mk.inj h).2)]
 ·rw [show (x != y) = true by simp [e], lI (fun h => e (Prod.mk.inj h).1)]; rfl
theorem alv {α : Type} [BEq α] [LawfulBEq α] {x y : α} {K : aj → Option aj} : (bif x != y then K (bl false, []) else K (bl true, [])) = K (bl (wG x y), []) := by
 by_cases e : x = y
 ·rw [show (x != y) = false by simp [e], e, wJ]; rfl
 ·rw [show (x != y) = true by simp [e], lI e]; rfl
theorem alx {α β γ : Type} {x y : α} {xs ys : β} {u v : γ} {b : Bool} {K : aj → Option aj} {A : Option aj} (hb : b = true) (he : u = v ↔ x = y ∧ xs = ys) (h : A = K (bl (wG xs ys), [])) : (bif b then (bif !(wG x y) then K (bl false, []) else A) else none) = K (bl (wG u v), []) := by
 rw [hb]
 by_cases e : x = y
 ·rw [e, wJ]
  show A = _
  rw [h]
  by_cases e2 : xs = ys
  ·rw [he.2 ⟨e, e2⟩, e2, wJ, wJ]
  ·rw [lI e2, lI (fun h => e2 (he.1 h).2)]
 ·rw [lI e, lI (fun h => e (he.1 h).1)]; rfl
theorem ae7 {α β : Type} {x y : α} {xs ys : β} {b : Bool} {K : aj → Option aj} {A : Option aj} (hb : b = true) (h : A = K (bl (wG xs ys), [])) : (bif b then (bif !(wG x y) then K (bl false, []) else A) else none) = K (bl (wG (x, xs) (y, ys)), []) := alx hb (by simp) h
theorem OA {α : Type} {x y : α} {b : Bool} {K : aj → Option aj} (hb : b = true) : (bif b then (bif !(wG x y) then K (bl false, []) else K (bl true, [])) else none) = K (bl (wG x y), []) := by
 rw [hb]; cases wG x y <;> rfl
theorem zq {b : Bool} {w w2 wt : Nat} {l : Int} {K : Int → Option ρ} {A : Option ρ} (hl : oD l = true) (hb : b = true) (hw : wt = w + w2) (h : oD (nY w l) = true → A = K (nY w2 (nY w l))) : (bif oD l && b then (bif decide (nY w l < 0) then K (-1) else A) else none) = K (nY wt l) := by
 rw [hl, hb, hw]
 simp only [oD, Bool.and_eq_true, decide_eq_true_eq] at hl
 rw [ae5 hl.1]
 by_cases e : nY w l < 0
 ·rw [decide_eq_true e, if_pos e]; rfl
 ·rw [decide_eq_false e, if_neg e]
  refine h ?_
  have e2 : nY w l = l - w := by
   unfold nY at e ⊢
   split
   ·rename_i h2; rw [if_pos h2] at e; omega
   ·rfl
  rw [e2] at e ⊢
  unfold oD
  rw [decide_eq_true (show 0 ≤ l - (w : Int) by omega), decide_eq_true (show l - (w : Int) ≤ 4611686018427387904 by omega)]; rfl
theorem UC {l : Int} {K : Int → Option ρ} (hl : oD l = true) : K l = K (nY 0 l) := by
 simp only [oD, Bool.and_eq_true, decide_eq_true_eq] at hl
 unfold nY
 rw [if_neg (by omega)]; simp
theorem ajS {a b : Bool} {k m : Int} {n : Nat} {A B : Option ρ} {Z : Option ρ} (h1 : a = true) (h2 : b = true) (h3 : 0 ≤ k) (h4 : k + (n : Nat) ≤ 4611686018427387904) (hm : m = k + (n : Nat)) (h : A = B) : (bif a && (b && decide ((0 : Int) ≤ k) && decide (k + ((n : Nat) : Int) ≤ 4611686018427387904)) then (bif decide (m < 0) then Z else A) else none) = B := by
 rw [h1, h2, decide_eq_true h3, decide_eq_true h4, decide_eq_false (show ¬ m < 0 by omega)]
 exact h
end
end Go.Ev
end
