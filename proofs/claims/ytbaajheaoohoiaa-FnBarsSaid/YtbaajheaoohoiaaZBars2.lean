/- Bars: parts EvRun EvDraw EvCode EvFn EvRow EvTys EvSeat EvNames EvShape EvLib EvGen EvSum EvSig EvWeak EvSigN EvRows EvUtf PUtf PEdit PReq PLoop PEvent PMove EvFit PMoveF Flbig PDraw Fsl01Open, packed by squash.py. -/
import Derived.Laws.IdiomStrings
import Derived.Laws.BytesArg
import Derived.OrdersHeld
import GoSem.ClaimChange
import Derived.Test.YtbaajheaoohoiaaProg
import Derived.KernelRfl
import Derived.Lib.Strings
import Derived.Test.YtbaajheaoohoiaaZBars0
import Derived.Test.YtbaajheaoohoiaaZBars1
set_option linter.unusedVariables false
set_option linter.unusedSimpArgs false
section
/- Operations in order: the machine does what the evaluator says. -/
set_option linter.unusedVariables false
namespace Go.Ev
open Go.RowKit

/-- Every function that is called keeps its contract. -/
structure FnsOk (P : Program) (I : Nat → World → Prop) (Γ : Env) : Prop where
  fn : ∀ g fresh G, Γ.fn g = some (fresh, G) → OkFn P I g fresh G
  gl : GlobOk I Γ

section
variable {P : Program} {Γ : Env} {I : Nat → World → Prop} {B0 : Nat} {w0 : World} {σ : St} {a : Act} {w : World} {C : Cx} {L : Nat → List Nat}

theorem Nxt.stay (h : Rel B0 w0 σ a w C L) {o : Oper} {b : Nat} {K : St → Option Ret} {r : Ret} {v : V} {c : Value} (hv : VR C w v c) (hK : K (σ.put o.dst v) = some r) : Nxt Γ.lend B0 w0 o σ w C L b K r (a.put o.dst c) w :=
  ⟨⟨_, C, L, hK, h.put o.dst hv, Cx.Le.refl C w, fun _ h => .inl h, put_nx .., put_len .., put_io .., Org.refl w C L _⟩, fun _ _ _ => rfl, Nat.le_refl _⟩

theorem meet_some {x y : Option Ret} {r : Ret} (h : meet x y = some r) : x = some r ∧ y = some r := by
  unfold meet at h
  split at h
  · rename_i e; exact ⟨h, e ▸ h⟩
  · cases h
theorem equalIn_nil {t e : TypeId} (hu : P.underlying t = some (.slice e)) (b : Option Addr) (l c d : Nat) (w' : World) : (Op.equalIn (d + 1) t (.slice b l c) (.slice none 0 0)).run P w' = .ok b.isNone w' := by
  cases b <;> simp [Op.equalIn, run_underlying hu]
theorem equal_nil {t e : TypeId} (hu : P.underlying t = some (.slice e)) (b : Option Addr) (l c : Nat) (w' : World) : (Op.equal t (.slice b l c) (.slice none 0 0)).run P w' = .ok b.isNone w' := equalIn_nil hu b l c 9999 w'
theorem bin_nil (b : Option Addr) (l c : Nat) (t : TypeId) {e : TypeId} (y z : Operand) {op : BinOp} {f : Bool → Bool} (ho : op = .eql ∧ f = id ∨ op = .neq ∧ f = (!·)) (hu : P.underlying t = some (.slice e)) (w' : World) :
    (do eqGuard op t y z (.slice b l c) (.slice none 0 0); binOp op t (.slice b l c) (.slice none 0 0) : Sem Value).run P w' = .ok (.bool (f b.isNone)) w' := by
  rcases ho with ⟨rfl, rfl⟩ | ⟨rfl, rfl⟩
  · have e1 : (do eqGuard .eql t y z (.slice b l c) (.slice none 0 0); binOp .eql t (.slice b l c) (.slice none 0 0) : Sem Value) = (do pure (.bool (← Op.equal t (.slice b l c) (.slice none 0 0)))) := rfl
    rw [e1, Sem.run_bind, equal_nil hu]; rfl
  · have e1 : (do eqGuard .neq t y z (.slice b l c) (.slice none 0 0); binOp .neq t (.slice b l c) (.slice none 0 0) : Sem Value) = (do pure (.bool (!(← Op.equal t (.slice b l c) (.slice none 0 0))))) := rfl
    rw [e1, Sem.run_bind, equal_nil hu]; rfl
theorem nilCase_ok {v : V} {c : Value} (hv : VR C w v c) {x y : Option Ret} {r : Ret} (h : nilCase v x y = some r) : ∃ b l cap, c = .slice b l cap ∧ (b.isNone = true → x = some r) ∧ (b.isNone = false → y = some r) := by
  unfold nilCase at h
  split at h
  · have hc : c = .slice none 0 0 := hv
    exact ⟨none, 0, 0, hc, fun _ => h, fun h' => by cases h'⟩
  · rename_i o rr xs
    obtain ⟨F, h1, _⟩ := hv
    have h1' : SlT (RwR w true rr) w true rr.n xs c F := h1
    rcases h1' with ⟨rfl, _, a, cap, rfl, _⟩ | ⟨b, o', cap, F', rfl, _⟩
    · have hm := meet_some (show meet x y = some r from h)
      exact ⟨a, 0, cap, rfl, fun _ => hm.1, fun _ => hm.2⟩
    · refine ⟨some _, _, _, rfl, fun h' => (nomatch h'), fun _ => ?_⟩
      cases hb : Nat.beq xs.length 0 with
      | true => rw [hb] at h; exact (meet_some h).2
      | false => rw [hb] at h; exact h
  · cases h
theorem rows_bytes {w : World} {b : Nat} : ∀ (xs : List Int) (o : Nat), (∀ (j : Nat) (x : Int), xs[j]? = some x → w.cell? ⟨b, o + j, none⟩ = some (.int .u8 x)) → RowsR (RwR w true (.one (.int .u8))) w 1 b xs o []
  | [], _, _ => rfl
  | x :: xs, o, h => ⟨[.int .u8 x], [], [], rfl, rfl, fun j v hj => by
      cases j with
      | zero =>
        have := h 0 x rfl
        simp at hj; subst hj; exact this
      | succ j => simp at hj, ⟨.int .u8 x, rfl, rfl, rfl⟩, rows_bytes xs (o + 1) (fun j y hj => by
      have := h (j + 1) y (by simpa using hj)
      rw [show o + 1 + j = o + (j + 1) by omega]; exact this)⟩
/-- The bytes of a string, in a row of their own that nobody writes. -/
theorem eff_strB (h : Rel B0 w0 σ a w C L) {o : Oper} {u t e : TypeId} {y : Operand} (ho : o.op = .convert u t y) {s : ByteArray} (hy : a.eval y = .string s) (hu : P.underlying u = some .string) (ht : P.underlying t = some (.slice e)) (he : P.underlying e = some (.int .u8)) {b : Nat} {K : St → Option Ret} {r : Ret} (hp : K (σ.put o.dst (.l .no (.one (.int .u8)) (strB s))) = some r) {Q : Exit → Act → World → Prop} :
    o.wp P a w (Nxt Γ.lend B0 w0 o σ w C L b K r) Q := by
  have hrun := run_bytes_of_string (P := P) w u t e s hu ht he
  generalize hcap : grownCap w s.size 0 e = cap at hrun
  have hle0 : s.size ≤ cap := by rw [← hcap]; exact grownCap_ge ..
  generalize hn : (bytesRow s cap).size = n at hrun
  generalize hw1 : w.drew.alloc (.cells (bytesRow s cap) e (n, n + 1)) = w1 at hrun
  have hsz : w1.heap.size = w.heap.size + 1 := by rw [← hw1]; exact alloc_size _ _
  have hold : ∀ k, k < w.heap.size → w1.heap[k]? = w.heap[k]? := fun k hk => by rw [← hw1]; exact alloc_old w.drew _ k hk
  have hnew : w1.heap[w.heap.size]? = some (.cells (bytesRow s cap) e (n, n + 1)) := by rw [← hw1]; exact alloc_new w.drew _
  have hle : C.Le w { C with N := fun x => C.N x ∨ x = w.heap.size } w1 := ⟨fun _ _ _ h => h, fun _ h => h, fun _ h => .inl h, fun x hx => hold x (h.nsz x hx), fun _ _ _ h => h⟩
  have hR : Rel B0 w0 σ a w1 { C with N := fun x => C.N x ∨ x = w.heap.size } L :=
    { below := by rw [← hw1]; exact (h.below.drew).alloc h.hB0 _, hB0 := by have := h.hB0; omega, defers := h.defers, len := h.len, tm := fun i v hv => by
        obtain ⟨c, g1, g2⟩ := h.tm i v hv
        exact ⟨c, g1, g2.le hle⟩, ob := fun k => (h.ob k).le hle rfl rfl (fun x hx => hold x (h.own k x hx).2), us := h.us, nd := h.nd, dj := h.dj, own := fun k x hx => ⟨(h.own k x hx).1, by have := (h.own k x hx).2; omega⟩, nw := fun k x hx => fun hn => by
        rcases hn with hn | hn
        · exact h.nw k x hx hn
        · have := (h.own k x hx.mem).2
          omega, nsz := fun x hx => by
        rcases hx with hx | hx
        · have := h.nsz x hx; omega
        · omega }
  have hlen : (strB s).length = s.size := by unfold strB; simp
  have hV : VR { C with N := fun x => C.N x ∨ x = w.heap.size } w1 (.l .no (.one (.int .u8)) (strB s)) (.slice (some ⟨w.heap.size, 0, none⟩) s.size cap) := by
    refine ⟨[w.heap.size], .inr ⟨w.heap.size, 0, cap, [], by rw [hlen], by rw [hlen]; exact hle0, rfl, by omega, fun hf => (nomatch hf), rows_bytes _ 0 (fun j x hj => ?_)⟩, fun x hx => .inr (by simpa using hx)⟩
    have hj2 : j < s.data.size := by
      have := (List.getElem?_eq_some_iff.1 hj).1
      rw [hlen] at this; exact this
    have hat := bytesRow_at s cap j hj2
    have hx : x = (s.data[j].toNat : Int) := by
      unfold strB at hj
      rw [List.getElem?_map, Array.getElem?_toList, Array.getElem?_eq_getElem hj2] at hj
      simpa using hj.symm
    subst hx
    simp only [World.cell?, hnew]
    simpa using hat
  refine wp_val (c := .slice (some ⟨w.heap.size, 0, none⟩) s.size cap) (w' := w1) ?_ ⟨⟨_, _, L, hp, hR.put o.dst hV, hle, fun k hk => .inl hk, put_nx .., put_len .., put_io .., ⟨fun k x hx _ => .inl hx, fun k x hx => .inl ⟨k, hx⟩, fun x hx => by
    rcases hx with hx | hx
    · exact .inl hx
    · exact .inr (.inr (by omega))⟩⟩, fun x hx _ => hold x hx, by omega⟩
  simp only [execOp, ho, hy]
  rw [Sem.run_bind, hrun]; rfl
theorem heap_mark {w : World} {g n : Nat} {c : Array Value} {ty : TypeId} (hg : w.heap[g]? = some (.cells c ty (0, 0))) : (∀ j, j ≠ g → (w.freeze ⟨g, n, none⟩ 1).heap[j]? = w.heap[j]?) ∧ (w.freeze ⟨g, n, none⟩ 1).heap.size = w.heap.size ∧ (w.freeze ⟨g, n, none⟩ 1).heap[g]? = some (.cells c ty (n, n + 1)) := by
  unfold World.freeze
  rw [if_neg (by decide)]
  refine ⟨fun j hj => ?_, ?_, ?_⟩
  · show (w.heap.modify g _)[j]? = _
    rw [Array.getElem?_modify, if_neg (Ne.symm hj)]
  · show (w.heap.modify g _).size = _
    rw [Array.size_modify]
  · show (w.heap.modify g _)[g]? = _
    rw [Array.getElem?_modify, if_pos rfl, hg]
    rfl
/-- The bytes of a constant: the row is marked, and nobody writes it from here. -/
theorem eff_convB (h : Rel B0 w0 σ a w C L) {o : Oper} {t e : TypeId} {y : Operand} (ho : o.op = .convert t t y) {k : Nat} (hy : σ.ev y = .w k) {deep : Bool} {xs : List Int} (hk : σ.obj k = .arr true deep (.one (.int .u8)) xs) (hx : xs ≠ []) (ht : P.underlying t = some (.slice e)) (he : P.underlying e = some (.int .u8)) {b : Nat} {K : St → Option Ret} {r : Ret} (hp : K (St.put { σ with ob := σ.ob.del k } o.dst (.l .no (.one (.int .u8)) xs)) = some r) {Q : Exit → Act → World → Prop} :
    o.wp P a w (Nxt Γ.lend B0 w0 o σ w C L b K r) Q := by
  obtain ⟨cv, F, hφ, hS, hN, hO⟩ := h.arr hk
  have hyv := h.ev y
  rw [hy] at hyv
  have ey := hyv.2.2 cv _ hφ
  rcases hS with ⟨rfl, _⟩ | ⟨g, oo, cap, F', rfl, hcap, rfl, hlt, hfr, hR⟩
  · exact absurd rfl hx
  obtain ⟨c, ty0, hg, hsz0⟩ := hfr rfl
  have hgL : g ∈ L k := by
    simp only [if_true] at hO
    cases deep with
    | true => simp only [if_true] at hO; rw [hO]; simp
    | false => simp only [Bool.false_eq_true, if_false] at hO; rw [hO]; simp
  have hhd : (L k).head? = some g := by
    simp only [if_true] at hO
    cases deep with
    | true => simp only [if_true] at hO; rw [hO]; rfl
    | false => simp only [Bool.false_eq_true, if_false] at hO; rw [hO]; rfl
  have hng : ¬ C.N g := h.nm k g (by rw [hk]; rfl) hhd
  obtain ⟨m1, m2, m3⟩ := heap_mark (n := c.size) hg
  generalize hw1 : w.freeze ⟨g, c.size, none⟩ 1 = w1 at m1 m2 m3
  have hown := h.own k g hgL
  have hbel : Below B0 w0 w1 := h.below.trans (by rw [← hw1]; unfold World.freeze; rw [if_neg (by decide)]; exact ⟨rfl, rfl, rfl, by simp, fun j hj => by
    show (w.heap.modify g _)[j]? = _
    rw [Array.getElem?_modify, if_neg (by omega)]⟩)
  obtain ⟨q1, q2⟩ := (h.del k).world (w' := w1) hbel (by omega) (fun x hx => m1 x (fun e => hng (e ▸ hx))) (fun j x hx => m1 x (fun e => by
      subst e
      by_cases hj : j = k
      · rw [if_pos hj] at hx; cases hx
      · rw [if_neg hj] at hx
        exact h.dj j k hj x hx hgL)) (M := [g]) (fun x hx => by
      have : x = g := by simpa using hx
      subst this; omega) (fun j x hwr hx => by
      have : x = g := by simpa using hx
      subst this
      have hm := hwr.mem
      by_cases hj : j = k
      · rw [if_pos hj] at hm; cases hm
      · rw [if_neg hj] at hm
        exact h.dj j k hj x hm hgL)
  have hV : VR { C with N := fun x => C.N x ∨ x ∈ [g] } w1 (.l .no (.one (.int .u8)) xs) (.slice (some ⟨g, oo, none⟩) xs.length cap) := by
    refine ⟨[g], .inr ⟨g, oo, cap, [], rfl, hcap, rfl, by omega, fun hf => (nomatch hf), rows_bytes _ _ (fun j x hj => ?_)⟩, fun x hx => .inr hx⟩
    obtain ⟨vs, F1, g1, g2, g3, v, rfl, g5, _⟩ := hR.get hj
    have := g3 0 v rfl
    rw [g5] at this
    have hc1 : ∀ q, w1.cell? ⟨g, q, none⟩ = w.cell? ⟨g, q, none⟩ := fun q => by simp only [World.cell?, m3, hg]
    rw [hc1]
    simpa [Rw.n] using this
  refine wp_val (c := .slice (some ⟨g, oo, none⟩) xs.length cap) (w' := w1) ?_ ⟨⟨_, _, _, hp, q1.put o.dst hV, q2, fun k hk => .inl hk, put_nx .., put_len .., put_io .., Org.same (fun j => ?_) (fun x hx => ?_)⟩, fun x hx htd => m1 x (fun e => ?_), by omega⟩
  · simp only [execOp, ho, ey]
    refine run_v2 _ ?_
    have hsh : w.shape? g = some (ty0, c.size) := by unfold World.shape?; rw [hg]
    simp [convert, run_underlying ht, run_underlying he, markStringish, hsh]
    exact hw1
  · by_cases hj : j = k
    · rw [if_pos hj]; exact .inr rfl
    · rw [if_neg hj]; exact .inl rfl
  · rcases hx with hx | hx
    · exact .inl hx
    · have : x = g := by simpa using hx
      subst this
      exact .inr ⟨k, hgL⟩
  · subst e
    rcases htd with h1 | h1
    · exact hng h1
    · exact h1 k (by simp [touched, ho, hy]) hgL
theorem eff_conv (hT : TysOk P Γ.ty) (h : Rel B0 w0 σ a w C L) {o : Oper} {u t : TypeId} {y : Operand} (ho : o.op = .convert u t y) {b : Nat} {K : St → Option Ret} {r : Ret} (hp : effect Γ b o σ K = some r) {Q : Exit → Act → World → Prop} :
    o.wp P a w (Nxt Γ.lend B0 w0 o σ w C L b K r) Q := by
  simp only [effect, ho] at hp
  split at hp
  · rename_i tu ty hu ht
    split at hp
    · rename_i hc
      simp only [Bool.and_eq_true, decide_eq_true_eq] at hc
      obtain ⟨⟨h1, h2⟩, h3⟩ := hc
      split at hp
      · rename_i xs hx
        obtain ⟨e, he, _, _, _, _, _, _, _, _, h8⟩ := (hT u tu hu).sl h1
        have hd := (hT t ty ht).str h2
        obtain ⟨q, F, hS, _⟩ := rows_ok h (h.ev y) hx
        refine wp_val (c := .string (bstr xs)) (w' := w) ?_ (Nxt.stay (v := .s (.string (bstr xs))) h ⟨rfl, rfl⟩ hp)
        simp only [execOp, ho]
        refine run_v _ ?_
        rcases hS with ⟨rfl, _, ad, cap, hv, _⟩ | ⟨bb, oo, cap, F', hv, _, _, _, _, hR⟩
        · rw [hv, run_convert_bytes_string w u t e _ _ _ he (h8 h3) hd]
          cases ad with
          | none => simp [Conv.bytesToString, bstr]; rfl
          | some ad =>
            have := run_bytesToString (P := P) w ad 0 cap [] (by simpa using run_loadCells_list (P := P) w ad [] (fun j v hj => by simp at hj))
            exact this
        · rw [hv]
          exact run_convert_bytes_arg w u e he (h8 h3) bb oo xs.length cap xs rfl (fun i hi => by
            obtain ⟨vs, F1, g1, g2, g3, g4⟩ := hR.get (List.getElem?_eq_getElem hi)
            obtain ⟨v, rfl, g5, _⟩ := g4
            have := g3 0 v rfl
            rw [List.getD_eq_getElem?_getD, List.getElem?_eq_getElem hi]
            rw [g5] at this
            simpa [Rw.n] using this) t hd
      · cases hp
    · split at hp
      · rename_i hc
        simp only [Bool.and_eq_true, decide_eq_true_eq] at hc
        obtain ⟨⟨h1, h2⟩, h3⟩ := hc
        split at hp
        · rename_i s hs
          obtain ⟨e, he, _, _, _, _, _, _, _, _, h8⟩ := (hT t ty ht).sl h2
          have hv := h.ev y
          rw [hs] at hv
          exact eff_strB h ho hv.1 ((hT u tu hu).str h1) he (h8 h3) hp
        · cases hp
      · split at hp
        · rename_i hc
          simp only [Bool.and_eq_true, decide_eq_true_eq] at hc
          obtain ⟨⟨rfl, h2⟩, h3⟩ := hc
          split at hp
          · rename_i k hs
            split at hp
            · rename_i deep rr xs hk
              split at hp
              · rename_i hc2
                simp only [Bool.and_eq_true, decide_eq_true_eq] at hc2
                obtain ⟨rfl, hx⟩ := hc2
                obtain ⟨e, he, _, _, _, _, _, _, _, _, h8⟩ := (hT _ ty ht).sl h2
                exact eff_convB h ho hs hk (fun e => by rw [e] at hx; simp at hx) he (h8 h3) hp
              · cases hp
            · cases hp
          · cases hp
        · cases hp
  · cases hp

theorem effect_ok (hT : TysOk P Γ.ty) (hI : I B0 w0) (hΓ : FnsOk P I Γ) (h : Rel B0 w0 σ a w C L) {o : Oper} {b : Nat} (hb : ∀ k, b ≤ k → k < b + 256 → ¬ C.U k) {K : St → Option Ret} {r : Ret} (hp : effect Γ b o σ K = some r) {Q : Exit → Act → World → Prop} :
    o.wp P a w (Nxt Γ.lend B0 w0 o σ w C L b K r) Q := by
  cases ho : o.op with
  | alloc t => exact eff_alloc hT h ho hb hp
  | box t y => exact eff_box h ho hb hp
  | buildSlice t len parts => exact eff_buildSlice hT h ho hb hp
  | makeSlice t l c => exact eff_makeSlice hT h ho hb hp
  | slice t y lo hi mx => cases mx with
    | none => exact eff_trunc hT h ho hb hp
    | some m => simp [effect, ho] at hp
  | convert u t y => exact eff_conv hT h ho hp
  | store t p y =>
    have hp0 := hp
    simp only [effect, ho] at hp
    split at hp
    · cases hp
    · rename_i ty ht
      split at hp
      · rename_i k c ep
        exact eff_storeBox hT h ho ht ep hp0
      · rename_i k i c ep
        exact eff_storeArr hT h ho ht ep hp0
      · cases hp
  | call c =>
    cases hc : c.callee with
    | value g => exact eff_call hI hΓ.fn h ho hc hb hp
    | builtin bi =>
      cases bi with
      | append => exact eff_append hT h ho hc hb hp
      | _ => simp [effect, ho, hc] at hp
    | invoke _ _ => simp [effect, ho, hc] at hp
  | binOp op t y z u =>
    have hy := h.ev y
    have hz := h.ev z
    cases op with
    | eql =>
      simp only [effect, ho] at hp
      split at hp
      · rename_i ty ht ez
        split at hp
        · rename_i hs
          obtain ⟨e, hu, _⟩ := (hT t ty ht).sl hs
          rw [ez] at hz
          have ez' : a.eval z = .slice none 0 0 := hz
          obtain ⟨bb, l, cap, ec, h1, h2⟩ := nilCase_ok hy hp
          refine wp_val (c := .bool bb.isNone) (w' := w) ?_ ?_
          · simp only [execOp, ho, ec, ez']
            exact run_v _ (bin_nil bb l cap t y z (f := id) (.inl ⟨rfl, rfl⟩) hu w)
          · cases hb : bb.isNone with
            | true => exact Nxt.stay (v := .s (.bool true)) h ⟨rfl, rfl⟩ (h1 hb)
            | false => exact Nxt.stay (v := .s (.bool false)) h ⟨rfl, rfl⟩ (h2 hb)
        · cases hp
      · cases hp
    | neq =>
      simp only [effect, ho] at hp
      split at hp
      · rename_i ty ht ez
        split at hp
        · rename_i hs
          obtain ⟨e, hu, _⟩ := (hT t ty ht).sl hs
          rw [ez] at hz
          have ez' : a.eval z = .slice none 0 0 := hz
          obtain ⟨bb, l, cap, ec, h1, h2⟩ := nilCase_ok hy hp
          refine wp_val (c := .bool (!bb.isNone)) (w' := w) ?_ ?_
          · simp only [execOp, ho, ec, ez']
            exact run_v _ (bin_nil bb l cap t y z (f := (!·)) (.inr ⟨rfl, rfl⟩) hu w)
          · cases hb : bb.isNone with
            | true => exact Nxt.stay (v := .s (.bool false)) h ⟨rfl, rfl⟩ (h1 hb)
            | false => exact Nxt.stay (v := .s (.bool true)) h ⟨rfl, rfl⟩ (h2 hb)
        · cases hp
      · cases hp
    | _ => simp [effect, ho] at hp
  | _ => simp [effect, ho] at hp

theorem step_ok (hT : TysOk P Γ.ty) (hI : I B0 w0) (hΓ : FnsOk P I Γ) (h : Rel B0 w0 σ a w C L) {o : Oper} {b : Nat} (hb : ∀ k, b ≤ k → k < b + 256 → ¬ C.U k) {K : St → Option Ret} {r : Ret} (hp : step Γ b o σ K = some r) {Q : Exit → Act → World → Prop} :
    o.wp P a w (Nxt Γ.lend B0 w0 o σ w C L b K r) Q := by
  unfold step at hp
  split at hp
  · rename_i c y z ho
    split at hp
    · rename_i c' ec
      have hc := h.ev c
      rw [ec] at hc
      have ec' : a.eval c = .bool c' := hc.1
      cases c' with
      | true => exact wp_val (by simp [execOp, ho, ec', asBool]) (Nxt.stay h (h.ev y) hp)
      | false => exact wp_val (by simp [execOp, ho, ec', asBool]) (Nxt.stay h (h.ev z) hp)
    · cases hp
  · split at hp
    · rename_i c v ep
      cases c with
      | true =>
        obtain ⟨cv, h1, h2⟩ := yl hT h ep
        exact wp_val (h1 w) (Nxt.stay h h2 hp)
      | false => cases hp
    · split at hp
      · rename_i v el
        obtain ⟨cv, blk, h1, _, h2⟩ := ld hT h el
        exact wp_val (h2 w rfl) (Nxt.stay h h1 hp)
      · split at hp
        · rename_i c v eg
          cases c with
          | true =>
            obtain ⟨cv, h1, h2⟩ := glb hT hI hΓ.gl h eg
            refine wp_val (w' := w) ?_ (Nxt.stay h h1 hp)
            rcases h2 with ⟨_, _, _, _, h2⟩ | ⟨_, _, _, _, _, h2⟩
            · exact h2 w
            · exact h2 w rfl
          | false => cases hp
        · exact effect_ok hT hI hΓ h hb hp

/-! ### The whole frame -/
/-- How the function was entered: the world · the blocks that it owns · those of them that it may write · those that nobody writes. -/
structure En where
  w : World
  O : Nat → Prop
  H : Nat → Prop
  N : Nat → Prop
  ps : List Value
structure Fr (e : En) (σ : St) (w : World) (C : Cx) (L : Nat → List Nat) : Prop where
  io : VsR C w σ.io e.ps
  nm : ∀ x, e.N x → C.N x
  fr : ∀ x, x < e.w.heap.size → ¬ e.H x → w.heap[x]? = e.w.heap[x]?
  hd : ∀ k x, x ∈ L k → ¬ C.N x → e.H x ∨ e.w.heap.size ≤ x
  ow : ∀ k x, x ∈ L k → e.O x ∨ e.w.heap.size ≤ x
  nn : ∀ x, C.N x → e.N x ∨ e.O x ∨ e.w.heap.size ≤ x
  sz : e.w.heap.size ≤ w.heap.size
theorem Fr.next {e : En} {σ' : St} {w' : World} {C' : Cx} {L' : Nat → List Nat} {T : List Nat} (h : Fr e σ w C L) (hio : σ'.io = σ.io) (hle : C.Le w C' w') (ho : Org w C L T C' L') (hf : ∀ x, x < w.heap.size → (C.N x ∨ ∀ k ∈ T, x ∉ L k) → w'.heap[x]? = w.heap[x]?) (hs : w.heap.size ≤ w'.heap.size) : Fr e σ' w' C' L' := by
  have hsz := h.sz
  refine ⟨by rw [hio]; exact h.io.le hle, fun x hx => hle.N x (h.nm x hx), fun x hx hH => ?_, fun k x hx hn => ?_, fun k x hx => ?_, fun x hx => ?_, Nat.le_trans h.sz hs⟩
  · refine (hf x (by omega) ?_).trans (h.fr x hx hH)
    by_cases hN : C.N x
    · exact .inl hN
    · refine .inr (fun k hk hh => ?_)
      rcases h.hd k x hh hN with h1 | h1
      · exact hH h1
      · omega
  · have hN : ¬ C.N x := fun h1 => hn (hle.N x h1)
    rcases ho.hd k x hx hn with h1 | h1 | ⟨j, _, h1⟩
    · exact h.hd k x h1 hN
    · exact .inr (by omega)
    · exact h.hd j x h1 hN
  · rcases ho.ow k x hx with ⟨j, h1⟩ | h1
    · exact h.ow j x h1
    · exact .inr (by omega)
  · rcases ho.nn x hx with h1 | ⟨j, h1⟩ | h1
    · exact h.nn x h1
    · exact .inr (h.ow j x h1)
    · exact .inr (.inr (by omega))

/-- The numbers in use, in a region. -/
def Ux (b : Nat) (done : List Nat) (C : Cx) : Prop := ∀ k, C.U k → k < b ∨ ∃ j ∈ done, b + 256 * j ≤ k ∧ k < b + 256 * j + 256
theorem Ux.free {b i : Nat} {done : List Nat} {C : Cx} (h : Ux b done C) (hi : i ∉ done) : ∀ k, b + 256 * i ≤ k → k < b + 256 * i + 256 → ¬ C.U k := by
  intro k h1 h2 hk
  rcases h k hk with h3 | ⟨j, hj, h3, h4⟩
  · omega
  · have : j = i := by omega
    exact hi (this ▸ hj)
theorem Ux.next {b i : Nat} {done : List Nat} {C C' : Cx} (h : Ux b done C) (hU : ∀ k, C'.U k → C.U k ∨ (b + 256 * i ≤ k ∧ k < b + 256 * i + 256)) : Ux b (i :: done) C' := by
  intro k hk
  rcases hU k hk with h1 | h1
  · rcases h k h1 with h2 | ⟨j, hj, h2⟩
    · exact .inl h2
    · exact .inr ⟨j, by simp [hj], h2⟩
  · exact .inr ⟨i, by simp, h1⟩

def AtR (B0 : Nat) (w0 : World) (e : En) (b : Nat) (done : List Nat) (σ : St) (a : Act) (w : World) : Prop :=
  ∃ C L, Rel B0 w0 σ a w C L ∧ Fr e σ w C L ∧ Ux b done C

/-- Behind one operation. -/
def AtN (B0 : Nat) (w0 : World) (e : En) (b : Nat) (done : List Nat) (nx len : Nat) (K : St → Option Ret) (r : Ret) (a : Act) (w : World) : Prop :=
  ∃ σ', K σ' = some r ∧ AtR B0 w0 e b done σ' a w ∧ σ'.nx = nx ∧ σ'.tm.length = len

theorem stepR_ok {e : En} (hT : TysOk P Γ.ty) (hI : I B0 w0) (hΓ : FnsOk P I Γ) {b i : Nat} {done : List Nat} (h : AtR B0 w0 e b done σ a w) (hi : i ∉ done) {o : Oper} {K : St → Option Ret} {r : Ret} (hp : step Γ (b + 256 * i) o σ K = some r) {Q : Exit → Act → World → Prop} :
    o.wp P a w (AtN B0 w0 e b (i :: done) σ.nx σ.tm.length K r) Q := by
  obtain ⟨C, L, h1, h2, h3⟩ := h
  refine Oper.wp_mono (fun a' w' hn => ?_) (step_ok hT hI hΓ h1 (h3.free hi) hp)
  obtain ⟨σ', C', L', g1, g2, g3, g4, g5, g6, g8, g7⟩ := hn.ex
  exact ⟨σ', g1, ⟨C', L', g2, h2.next g8 g3 g7 hn.fr hn.sz, h3.next g4⟩, g5, g6⟩

theorem AtR.mono {e : En} {b : Nat} {done done' : List Nat} (h : AtR B0 w0 e b done σ a w) (hd : ∀ j ∈ done, j ∈ done') : AtR B0 w0 e b done' σ a w := by
  obtain ⟨C, L, h1, h2, h3⟩ := h
  exact ⟨C, L, h1, h2, fun k hk => (h3 k hk).imp id (fun ⟨j, hj, h⟩ => ⟨j, hd j hj, h⟩)⟩
theorem AtR.put {e : En} {b : Nat} {done : List Nat} (h : AtR B0 w0 e b done σ a w) (d : Option Tmp) {v : V} {c : Value} (hv : ∀ C, VR C w v c) : AtR B0 w0 e b done (σ.put d v) (a.put d c) w := by
  obtain ⟨C, L, h1, h2, h3⟩ := h
  exact ⟨C, L, h1.put d (hv C), { h2 with io := by rw [put_io]; exact h2.io }, h3⟩

theorem runOp_ok {e : En} (hT : TysOk P Γ.ty) (hI : I B0 w0) (hΓ : FnsOk P I Γ) {ops : Array Oper} {b i : Nat} {done : List Nat} (h : AtR B0 w0 e b done σ a w) (hi : i ∉ done) {K : St → Option Ret} {r : Ret} (hp : runOp Γ ops b i σ K = some r) {Q : Exit → Act → World → Prop} :
    wpOp P ops Q i (AtN B0 w0 e b (i :: done) σ.nx σ.tm.length K r) a w := by
  unfold runOp at hp
  unfold wpOp
  split at hp
  · cases hp
  · rename_i o eo
    simp only [eo]
    split at hp
    · rename_i eg
      rw [if_pos (by simp [Region.wanted, eg])]
      exact .inl (stepR_ok hT hI hΓ h hi hp)
    · rename_i j want eg
      split at hp
      · cases hp
      · rename_i t et
        split at hp
        · rename_i c ec
          obtain ⟨C, L, h1, h2, h3⟩ := h
          have hev := h1.ev (.tmp t)
          simp only [St.ev, ec] at hev
          have hval : a.tmps.getD t undef = .bool c := hev.1
          have hlt : t < a.tmps.size := by
            rcases Nat.lt_or_ge t a.tmps.size with h | h
            · exact h
            · rw [Array.getD_eq_getD_getElem?, Array.getElem?_eq_none h] at hval; cases hval
          have hget : a.tmps[t]? = some (.bool c) := by
            rw [Array.getD_eq_getD_getElem?] at hval
            rw [Array.getElem?_eq_getElem hlt] at hval ⊢
            exact congrArg some hval
          have hy : yielded ops a.tmps j = some c := by simp [yielded, et, hget]
          have hself : a.put (some t) (.bool c) = a := by
            simp only [Act.put]
            congr
            apply Array.ext_getElem?
            intro q
            rw [Array.getElem?_setIfInBounds]
            split
            · rename_i hq; subst hq; exact hget.symm
            · rfl
          have h' : ∀ c', c' = c → AtR B0 w0 e b done (σ.put (some t) (.s (.bool c'))) a w := by
            intro c' hc'
            rw [hc']
            have := h1.put (some t) (v := .s (.bool c)) (c := .bool c) ⟨rfl, rfl⟩
            rw [hself] at this
            exact ⟨C, L, this, { h2 with io := by rw [put_io]; exact h2.io }, h3⟩
          have hlen : ∀ v : V, (σ.put (some t) v).tm.length = σ.tm.length := fun v => put_len ..
          have skip : ∀ c', c' = c → want ≠ c → K ((σ.put (some t) (.s (.bool c'))).put o.dst .ud) = some r → (if Region.wanted o (yielded ops a.tmps) = true then o.wp P a w (AtN B0 w0 e b (i :: done) σ.nx σ.tm.length K r) Q ∨ (o.asks P a w ∧ LetsOut Q) else AtN B0 w0 e b (i :: done) σ.nx σ.tm.length K r (a.put o.dst undef) w) := by
            intro c' hc' hw hK
            rw [if_neg (by simp [Region.wanted, eg, hy]; exact fun h => hw h.symm)]
            exact ⟨_, hK, ((h' c' hc').put o.dst (v := .ud) (fun _ => rfl)).mono (fun j hj => by simp [hj]), by rw [put_nx, put_nx], by rw [put_len, put_len]⟩
          have go : ∀ c', c' = c → want = c → step Γ (b + 256 * i) o (σ.put (some t) (.s (.bool c'))) K = some r → (if Region.wanted o (yielded ops a.tmps) = true then o.wp P a w (AtN B0 w0 e b (i :: done) σ.nx σ.tm.length K r) Q ∨ (o.asks P a w ∧ LetsOut Q) else AtN B0 w0 e b (i :: done) σ.nx σ.tm.length K r (a.put o.dst undef) w) := by
            intro c' hc' hw hK
            rw [if_pos (by simp [Region.wanted, eg, hy, hw])]
            have := stepR_ok (Q := Q) hT hI hΓ (h' c' hc') hi hK
            rw [put_nx, put_len] at this
            exact .inl this
          cases c with
          | true =>
            cases want with
            | true => exact go true rfl rfl hp
            | false => exact skip true rfl (by simp) hp
          | false =>
            cases want with
            | true => exact skip false rfl (by simp) hp
            | false => exact go false rfl rfl hp
        · rename_i ec
          obtain ⟨C, L, h1, h2, h3⟩ := h
          have hev := h1.ev (.tmp t)
          simp only [St.ev, ec] at hev
          have hval : a.tmps.getD t undef = undef := hev
          have hy : yielded ops a.tmps j = none := by
            rw [Array.getD_eq_getD_getElem?] at hval
            cases e : a.tmps[t]? with
            | none => simp [yielded, et, e]
            | some q => rw [e] at hval; simp only [Option.getD_some] at hval; subst hval; simp [yielded, et, e, undef]
          rw [if_neg (by simp [Region.wanted, eg, hy])]
          exact ⟨_, hp, (AtR.put (h := ⟨C, L, h1, h2, h3⟩) o.dst (v := .ud) (fun _ => rfl)).mono (fun j hj => by simp [hj]), by rw [put_nx], by rw [put_len]⟩
        · cases hp

theorem runOps_ok {e : En} (hT : TysOk P Γ.ty) (hI : I B0 w0) (hΓ : FnsOk P I Γ) {ops : Array Oper} {b nx len : Nat} {K : St → Option Ret} {r : Ret} {Q : Exit → Act → World → Prop} {all : List Nat} (hQ : ∀ a w, AtN B0 w0 e b all nx len K r a w → Q .normal a w) :
    ∀ (rest : List Nat) {done : List Nat} {σ : St} {a : Act} {w : World} (h : AtR B0 w0 e b done σ a w) (hnd : rest.Nodup) (hdj : ∀ i ∈ rest, i ∉ done) (hall : ∀ j, j ∈ done ∨ j ∈ rest → j ∈ all) (h1 : σ.nx = nx) (h2 : σ.tm.length = len) (hp : runOps Γ ops b rest σ K = some r), wpOps P ops Q rest a w
  | [], done, σ, a, w, h, hnd, hdj, hall, h1, h2, hp => hQ _ _ ⟨σ, hp, h.mono (fun j hj => hall j (.inl hj)), h1, h2⟩
  | i :: rest, done, σ, a, w, h, hnd, hdj, hall, h1, h2, hp => by
    rw [wpOps_cons]
    refine wpOp_mono (fun a' w' hn => ?_) (runOp_ok hT hI hΓ h (hdj i (by simp)) hp)
    obtain ⟨σ', g1, g2, g3, g4⟩ := hn
    have hn' := List.nodup_cons.1 hnd
    exact runOps_ok hT hI hΓ hQ rest g2 hn'.2 (fun j hj hd => by
      rcases List.mem_cons.1 hd with rfl | hd
      · exact hn'.1 hj
      · exact hdj j (by simp [hj]) hd) (fun j hj => hall j (by
      rcases hj with hj | hj
      · rcases List.mem_cons.1 hj with rfl | hj
        · exact .inr (by simp)
        · exact .inl hj
      · exact .inr (by simp [hj]))) (g3.trans h1) (g4.trans h2) g1
end
end Go.Ev
end
section
/- Regions whose operations may come in any order: the machine does what the evaluator says. -/
set_option linter.unusedVariables false
namespace Go.Ev
open Go.RowKit

theorem meet_self (x : Option Ret) : meet x x = x := by
  classical
  unfold meet
  rw [if_pos rfl]

theorem clean_iff {ops : Array Oper} {listed : Array Bool} : clean ops listed = true ↔ ∀ j o, ops[j]? = some o → isStore o = true → listed.getD j false = false := by
  unfold clean
  rw [List.all_eq_true]
  constructor
  · intro h j o ho hs
    have := h j (List.mem_range.2 (Array.getElem?_eq_some_iff.1 ho).1)
    simpa [ho, hs] using this
  · intro h j hj
    rw [List.mem_range] at hj
    have ho : ops[j]? = some ops[j] := Array.getElem?_eq_getElem hj
    cases hs : isStore ops[j] with
    | false => simp [ho, hs]
    | true => simpa [ho, hs] using h j _ ho hs
theorem clean_back {ops : Array Oper} {listed : Array Bool} {i : Nat} (h : clean ops (listed.setIfInBounds i true) = true) : clean ops listed = true := by
  rw [clean_iff] at *
  intro j o ho hs
  have h1 := h j o ho hs
  cases h2 : listed.getD j false with
  | false => rfl
  | true => rw [getD_set_true h2] at h1; exact h1
theorem clean_set {ops : Array Oper} {listed : Array Bool} {i : Nat} (h : clean ops listed = true) (hi : ∀ o, ops[i]? = some o → isStore o = false) : clean ops (listed.setIfInBounds i true) = true := by
  rw [clean_iff] at *
  intro j o ho hs
  have : i ≠ j := fun e => by subst e; rw [hi o ho] at hs; cases hs
  rw [getD_set_ne false this]
  exact h j o ho hs

section
variable {P : Program} {ops : Array Oper} {Q : Exit → Act → World → Prop} {S : World → Prop}

/-- Whatever order comes; and S holds behind every operation, until a store has come up. -/
def wpAnyM (P : Program) (ops : Array Oper) (Q : Exit → Act → World → Prop) (S : World → Prop) : Nat → Array Bool → Act → World → Prop
  | 0, listed, a, w => Region.ready .any ops listed = [] ∧ Q .normal a w
  | fuel + 1, listed, a, w =>
    (Region.ready .any ops listed = [] → Q .normal a w) ∧
    ∀ i ∈ Region.ready .any ops listed, wpOp P ops Q i (fun a' w' => (clean ops (listed.setIfInBounds i true) = true → S w') ∧ wpAnyM P ops Q S fuel (listed.setIfInBounds i true) a' w') a w
theorem wpAny_of_M : ∀ (fuel : Nat) (listed : Array Bool) (a : Act) (w : World), wpAnyM P ops Q S fuel listed a w → wpAny P .any ops Q fuel listed a w
  | 0, _, _, _, h => h
  | fuel + 1, _, _, _, h => ⟨h.1, fun i hi => wpOp_mono (fun a' w' h' => wpAny_of_M fuel _ a' w' h'.2) (h.2 i hi)⟩
theorem wpAnyM.imp {S' : World → Prop} (hS : ∀ w, S' w → S w) : ∀ {fuel : Nat} {listed : Array Bool} {a : Act} {w : World}, wpAnyM P ops Q S' fuel listed a w → wpAnyM P ops Q S fuel listed a w
  | 0, _, _, _, h => h
  | fuel + 1, _, _, _, h => ⟨h.1, fun i hi => wpOp_mono (fun a' w' h' => ⟨fun hc => hS w' (h'.1 hc), wpAnyM.imp hS h'.2⟩) (h.2 i hi)⟩

theorem wpAnyM_first {i : Nat} {oi : Oper} {v : Value} {SY : World → Prop} {I : Array Bool → Prop} (hi : ops[i]? = some oi) (hst : isStore oi = false) (hsel : ∀ (j : Nat) (o : Oper) cs b, ops[j]? = some o → o.op ≠ .select cs b)
    (hQ : ∀ c a w, ¬ Q (.panic c) a w)
    (hI : ∀ listed j w', I listed → i ∈ Region.ready .any ops listed → j ∈ Region.ready .any ops listed → j ≠ i → (clean ops ((listed.setIfInBounds i true).setIfInBounds j true) = true → S w') → SY w' ∧ I (listed.setIfInBounds j true)) :
    ∀ (fuel : Nat) (listed : Array Bool) (a : Act) (w : World), I listed →
      (∀ j oj, ops[j]? = some oj → j ≠ i → listed.getD j true = false → (∀ e ∈ oj.after, Region.binds .any e = true → e.on ≠ i) → oi.apart ops oj = true) →
      i ∈ Region.ready .any ops listed → YieldsIf P ops SY oi v a → SY w → (clean ops (listed.setIfInBounds i true) = true → S w) →
      wpAnyM P ops Q S fuel (listed.setIfInBounds i true) (a.put oi.dst v) w → wpAnyM P ops Q S (fuel + 1) listed a w := by
  intro fuel
  induction fuel with
  | zero =>
    intro listed a w _ _ hr hy hSY hS H
    refine ⟨fun h => (by rw [h] at hr; cases hr), fun j hj => ?_⟩
    by_cases hji : j = i
    · subst hji; exact hy.wpOp hi hSY ⟨hS, H⟩
    · have := ready_mono hj hji
      rw [H.1] at this
      cases this
  | succ fuel ih =>
    intro listed a w hIl hfree hr hy hSY hS H
    refine ⟨fun h => (by rw [h] at hr; cases hr), fun j hj => ?_⟩
    by_cases hji : j = i
    · subst hji; exact hy.wpOp hi hSY ⟨hS, H⟩
    · have h1 := H.2 j (ready_mono hj hji)
      obtain ⟨hjun, oj, hoj, hall⟩ := mem_ready.1 hj
      have hnot : ∀ e ∈ oj.after, Region.binds .any e = true → e.on ≠ i := fun e he hb heq => by
        have h1 := hall e he hb
        have h0 := (mem_ready.1 hr).1
        rw [heq] at h1
        rcases Nat.lt_or_ge i listed.size with h' | h'
        · simp [h'] at h0 h1; rw [h0] at h1; cases h1
        · simp [Array.getElem?_eq_none h'] at h1
      have h2 := wpOp_putIf hoj (hfree j oj hoj hji hjun hnot) (fun cs b => hsel i oi cs b hi) (fun cs b => hsel j oj cs b hoj) (fun c a w h => absurd h (hQ c _ w)) hy h1
      have hfree' : ∀ k ok, ops[k]? = some ok → k ≠ i → (listed.setIfInBounds j true).getD k true = false →
          (∀ e ∈ ok.after, Region.binds .any e = true → e.on ≠ i) → oi.apart ops ok = true := fun k ok hk hki hun hno => by
        refine hfree k ok hk hki ?_ hno
        by_cases hjk : j = k
        · subst hjk; exact hjun
        · rw [getD_set_ne true hjk] at hun; exact hun
      refine wpOp_mono (fun a' w' h3 => ?_) h2
      obtain ⟨h4, h5, h6⟩ := h3
      obtain ⟨g1, g2⟩ := hI listed j w' hIl hr hj hji h5
      have h7 : clean ops (listed.setIfInBounds j true) = true → S w' := fun hc => h5 (by
        rw [Array.setIfInBounds_comm _ _ (Ne.symm hji)]
        exact clean_set hc (fun o ho => by rw [hi] at ho; cases ho; exact hst))
      refine ⟨h7, ih (listed.setIfInBounds j true) a' w' g2 hfree' (ready_mono hr (Ne.symm hji)) h4 g1 (fun hc => h7 (clean_back hc)) ?_⟩
      rw [Array.setIfInBounds_comm _ _ hji]
      exact h6

theorem storesWait_spec {i : Nat} (h : storesWait ops i = true) {j : Nat} {o : Oper} (ho : ops[j]? = some o) (hs : isStore o = true) : ∃ e ∈ o.after, Region.binds .any e = true ∧ e.on = i := by
  unfold storesWait at h
  rw [List.all_eq_true] at h
  have := h j (List.mem_range.2 (Array.getElem?_eq_some_iff.1 ho).1)
  simp only [ho, hs, Bool.not_true, Bool.false_or] at this
  obtain ⟨e, he, hb⟩ := Array.any_eq_true'.1 this
  simp only [Bool.and_eq_true, beq_iff_eq] at hb
  exact ⟨e, he, hb.1, hb.2⟩
end

section
variable {P : Program} {Γ : Env} {I : Nat → World → Prop} {B0 : Nat} {w0 : World}

/-- Blocks that nobody of the region writes. -/
def Prot (X T : List Nat) (b : Nat) (w : World) (C : Cx) (L : Nat → List Nat) : Prop := ∀ x ∈ X, x < w.heap.size ∧ (C.N x ∨ ∀ k, x ∈ L k → k ∉ T ∧ k < b)
def SX (X : List Nat) (wr w : World) : Prop := ∀ x ∈ X, w.heap[x]? = wr.heap[x]?

theorem Prot.next {X T : List Nat} {b : Nat} {w w' : World} {C C' : Cx} {L L' : Nat → List Nat} {Ts : List Nat} (h : Prot X T b w C L) (hT : ∀ k ∈ Ts, b ≤ k ∨ k ∈ T) (hle : C.Le w C' w') (ho : Org w C L Ts C' L') (hf : ∀ x, x < w.heap.size → (C.N x ∨ ∀ k ∈ Ts, x ∉ L k) → w'.heap[x]? = w.heap[x]?) (hs : w.heap.size ≤ w'.heap.size) :
    Prot X T b w' C' L' ∧ SX X w w' := by
  have key : ∀ x, (∀ k, x ∈ L k → k ∉ T ∧ k < b) → ∀ k ∈ Ts, x ∉ L k := by
    intro x hx k hk hh
    obtain ⟨h1, h2⟩ := hx k hh
    rcases hT k hk with h3 | h3
    · omega
    · exact h1 h3
  refine ⟨fun x hx => ?_, fun x hx => ?_⟩
  · obtain ⟨h1, h2⟩ := h x hx
    refine ⟨by omega, ?_⟩
    rcases h2 with h2 | h2
    · exact .inl (hle.N x h2)
    · by_cases hN : C'.N x
      · exact .inl hN
      · refine .inr (fun k hk => ?_)
        rcases ho.hd k x hk hN with h3 | h3 | ⟨j, hj, h3⟩
        · exact h2 k h3
        · omega
        · exact absurd h3 (key x h2 j hj)
  · obtain ⟨h1, h2⟩ := h x hx
    rcases h2 with h2 | h2
    · exact hle.w x h2
    · exact hf x h1 (.inr (key x h2))

/-- Is a guarded operation asked for? -/
theorem guarded_ok {ops : Array Oper} {o : Oper} {σ : St} {a : Act} {w : World} {C : Cx} {L : Nat → List Nat} (h : Rel B0 w0 σ a w C L) {F K : St → Option Ret} {r : Ret} (hp : guarded ops o σ F K = some r) :
    ∃ σ1, Rel B0 w0 σ1 a w C L ∧ σ1.nx = σ.nx ∧ σ1.tm.length = σ.tm.length ∧ σ1.io = σ.io ∧ ((Region.wanted o (yielded ops a.tmps) = true ∧ F σ1 = some r) ∨ (Region.wanted o (yielded ops a.tmps) = false ∧ K (σ1.put o.dst .ud) = some r)) := by
  unfold guarded at hp
  split at hp
  · rename_i hg
    exact ⟨σ, h, rfl, rfl, rfl, .inl ⟨by simp [Region.wanted, hg], hp⟩⟩
  · rename_i j want eg
    split at hp
    · cases hp
    · rename_i t et
      split at hp
      · rename_i c ec
        have hev := h.ev (.tmp t)
        simp only [St.ev, ec] at hev
        have hval : a.tmps.getD t undef = .bool c := hev.1
        have hlt : t < a.tmps.size := by
          rcases Nat.lt_or_ge t a.tmps.size with h | h
          · exact h
          · rw [Array.getD_eq_getD_getElem?, Array.getElem?_eq_none h] at hval; cases hval
        have hget : a.tmps[t]? = some (.bool c) := by
          rw [Array.getD_eq_getD_getElem?] at hval
          rw [Array.getElem?_eq_getElem hlt] at hval ⊢
          exact congrArg some hval
        have hy : yielded ops a.tmps j = some c := by simp [yielded, et, hget]
        have hself : a.put (some t) (.bool c) = a := by
          simp only [Act.put]
          congr
          apply Array.ext_getElem?
          intro q
          rw [Array.getElem?_setIfInBounds]
          split
          · rename_i hq; subst hq; exact hget.symm
          · rfl
        have h' : Rel B0 w0 (σ.put (some t) (.s (.bool c))) a w C L := by
          have := h.put (some t) (v := .s (.bool c)) (c := .bool c) ⟨rfl, rfl⟩
          rwa [hself] at this
        have hw : Region.wanted o (yielded ops a.tmps) = (c == want) := by simp [Region.wanted, eg, hy]
        refine ⟨_, h', put_nx .., put_len .., put_io .., ?_⟩
        rw [hw]
        cases c <;> cases want <;> first | exact .inl ⟨rfl, hp⟩ | exact .inr ⟨rfl, hp⟩
      · rename_i ec
        have hev := h.ev (.tmp t)
        simp only [St.ev, ec] at hev
        have hval : a.tmps.getD t undef = undef := hev
        have hy : yielded ops a.tmps j = none := by
          rw [Array.getD_eq_getD_getElem?] at hval
          cases e : a.tmps[t]? with
          | none => simp [yielded, et, e]
          | some q => rw [e] at hval; simp only [Option.getD_some] at hval; subst hval; simp [yielded, et, e, undef]
        exact ⟨σ, h, rfl, rfl, rfl, .inr ⟨by simp [Region.wanted, eg, hy], hp⟩⟩
      · cases hp

theorem quiet_ok (hT : TysOk P Γ.ty) (hI : I B0 w0) (hG : GlobOk I Γ) {T : List Nat} {b : Nat} {σ : St} {a : Act} {w : World} {C : Cx} {L : Nat → List Nat} (h : Rel B0 w0 σ a w C L) {o : Oper} {K : St → Option Ret} {r : Ret} (hp : quiet Γ T b o σ K = some r) :
    ∃ v cv, VR C w v cv ∧ K (σ.put o.dst v) = some r ∧ isStore o = false ∧
      ((isLoad o = false ∧ ∀ w', (execOp a.eval o).run P w' = .ok (.value cv) w') ∨
      (isLoad o = true ∧ ∃ blk, blk < w.heap.size ∧ (C.N blk ∨ ∀ k, blk ∈ L k → k ∉ T ∧ k < b) ∧ ∀ w', w'.heap[blk]? = w.heap[blk]? → (execOp a.eval o).run P w' = .ok (.value cv) w')) := by
  unfold quiet at hp
  split at hp
  · rename_i c y z ho
    split at hp
    · rename_i c' ec
      have hc := h.ev c
      rw [ec] at hc
      have ec' : a.eval c = .bool c' := hc.1
      have hst : isStore o = false := by simp [isStore, ho]
      have hld : isLoad o = false := by simp [isLoad, ho]
      cases c' with
      | true => exact ⟨_, _, h.ev y, hp, hst, .inl ⟨hld, fun w' => by simp [execOp, ho, ec', asBool]⟩⟩
      | false => exact ⟨_, _, h.ev z, hp, hst, .inl ⟨hld, fun w' => by simp [execOp, ho, ec', asBool]⟩⟩
    · cases hp
  · split at hp
    · rename_i c v ep
      cases c with
      | true =>
        obtain ⟨cv, h1, h2⟩ := yl hT h ep
        refine ⟨v, cv, h2, hp, ?_, .inl ⟨?_, h1⟩⟩
        · cases ho : o.op <;> simp [isStore, ho] <;> simp [pureV, ho] at ep
        · cases ho : o.op <;> simp [isLoad, ho] <;> simp [pureV, ho] at ep
      | false => cases hp
    · split at hp
      · rename_i v el
        cases hl : loadable T b o σ with
        | false => rw [hl] at hp; cases hp
        | true =>
          rw [hl] at hp
          obtain ⟨cv, blk, h1, h2, h3⟩ := ld hT h el
          have hlo : isLoad o = true ∧ isStore o = false := by
            unfold loadV at el
            split at el
            · rename_i ho; simp [isLoad, isStore, ho]
            · cases el
          refine ⟨v, cv, h1, hp, hlo.2, .inr ⟨hlo.1, blk, ?_, ?_, h3⟩⟩
          · rcases h2 with h2 | ⟨k, _, h2, _⟩
            · exact h.nsz blk h2
            · exact (h.own k blk (List.mem_of_mem_head? h2)).2
          · rcases h2 with h2 | ⟨k, hm, h2, t, p, ho, ha⟩
            · exact .inl h2
            · refine .inr (fun j hj => ?_)
              have hjk : j = k := by
                by_cases e : j = k
                · exact e
                · exact absurd (List.mem_of_mem_head? h2) (h.dj j k e blk hj)
              subst hjk
              unfold loadable at hl
              rw [ho] at hl
              simp only at hl
              rcases ha with ⟨c, e⟩ | ⟨i, c, e⟩ <;> rw [e] at hl <;> simp only [Bool.and_eq_true, Bool.not_eq_true'] at hl
              · refine ⟨fun hm => ?_, Nat.le_of_ble_eq_true hl.1⟩
                have := hl.2
                simp at this
                exact this hm
              · refine ⟨fun hm => ?_, Nat.le_of_ble_eq_true hl.1⟩
                have := hl.2
                simp at this
                exact this hm
      · split at hp
        · rename_i c v eg
          cases c with
          | false => cases hp
          | true =>
            obtain ⟨cv, h1, h2⟩ := glb hT hI hG h eg
            rcases h2 with ⟨_, _, _, ho, h2⟩ | ⟨_, _, ho, blk, hb, h2⟩
            · exact ⟨v, cv, h1, hp, by simp [isStore, ho], .inl ⟨by simp [isLoad, ho], h2⟩⟩
            · refine ⟨v, cv, h1, hp, by simp [isStore, ho], .inr ⟨by simp [isLoad, ho], blk, Nat.lt_of_lt_of_le hb h.hB0, .inr (fun k hk => ?_), h2⟩⟩
              have := (h.own k blk hk).1
              omega
        · cases hp

theorem wpAnyM_done {P : Program} {ops : Array Oper} {Q : Exit → Act → World → Prop} {S : World → Prop} {listed : Array Bool} {a : Act} {w : World} (hr : Region.ready .any ops listed = []) (h : Q .normal a w) : ∀ fuel, wpAnyM P ops Q S fuel listed a w
  | 0 => ⟨hr, h⟩
  | _ + 1 => ⟨fun _ => h, by rw [hr]; simp⟩

def PlanGood (P : Program) (Γ : Env) (B0 : Nat) (w0 : World) (e : En) (ops : Array Oper) (T : List Nat) (b nx len : Nat) (K : St → Option Ret) (r : Ret) (Q : Exit → Act → World → Prop) (p : Plan) : Prop :=
  ∀ {n : Nat} {listed : Array Bool}, planOk ops p n listed = true → ∀ {X : List Nat} {wr : World} {σ : St} {a : Act} {w : World} {C : Cx} {L : Nat → List Nat} {done : List Nat}, Rel B0 w0 σ a w C L → Fr e σ w C L → Ux b done C → (∀ j ∈ done, listed.getD j false = true) → (∀ j ∈ done, j < ops.size) →
      (clean ops listed = true → Prot X T b w C L ∧ SX X wr w) → σ.nx = nx → σ.tm.length = len → runPlan Γ ops T b p σ K = some r → wpAnyM P ops Q (SX X wr) n listed a w
def ForksGood (P : Program) (Γ : Env) (B0 : Nat) (w0 : World) (e : En) (ops : Array Oper) (T : List Nat) (b nx len : Nat) (K : St → Option Ret) (r : Ret) (Q : Exit → Act → World → Prop) (f : Forks) : Prop :=
  ∀ {n : Nat} {listed : Array Bool}, forksOk ops f n listed = true → ∀ {X : List Nat} {wr : World}, (∀ i ∈ forksOf f, i ∈ Region.ready .any ops listed) → ∀ {σ : St} {a : Act} {w : World} {C : Cx} {L : Nat → List Nat} {done : List Nat}, Rel B0 w0 σ a w C L → Fr e σ w C L → Ux b done C → (∀ j ∈ done, listed.getD j false = true) → (∀ j ∈ done, j < ops.size) →
      (clean ops listed = true → Prot X T b w C L ∧ SX X wr w) → σ.nx = nx → σ.tm.length = len → runForks Γ ops T b f σ K = some r →
      ∀ i ∈ forksOf f, wpOp P ops Q i (fun a' w' => (clean ops (listed.setIfInBounds i true) = true → SX X wr w') ∧ wpAnyM P ops Q (SX X wr) n (listed.setIfInBounds i true) a' w') a w

theorem loud_ok {e : En} (hT : TysOk P Γ.ty) (hI : I B0 w0) (hΓ : FnsOk P I Γ) {ops : Array Oper} (hsel : Region.noSelect ops = true) {T : List Nat} {b nx len : Nat} {K : St → Option Ret} {r : Ret} {Q : Exit → Act → World → Prop} (hQ : ∀ a w, AtN B0 w0 e b (List.range ops.size) nx len K r a w → Q .normal a w) (hQp : ∀ c a w, ¬ Q (.panic c) a w)
    {p : Plan} (IH : PlanGood P Γ B0 w0 e ops T b nx len K r Q p) {n : Nat} {listed : Array Bool} {i : Nat} (hok : planOk ops p n (listed.setIfInBounds i true) = true) {X : List Nat} {wr : World} {o : Oper} (ho : ops[i]? = some o) (hready : i ∈ Region.ready .any ops listed) {σ : St} {a : Act} {w : World} {C : Cx} {L : Nat → List Nat} {done : List Nat} (hwant : Region.wanted o (yielded ops a.tmps) = true) (hR : Rel B0 w0 σ a w C L) (hF : Fr e σ w C L) (hU : Ux b done C) (hd : ∀ j ∈ done, listed.getD j false = true) (hds : ∀ j ∈ done, j < ops.size)
      (hX : clean ops listed = true → Prot X T b w C L ∧ SX X wr w) (h1 : σ.nx = nx) (h2 : σ.tm.length = len) (hp : loud Γ T b i o σ (fun σ' => runPlan Γ ops T b p σ' K) = some r) :
      wpOp P ops Q i (fun a' w' => (clean ops (listed.setIfInBounds i true) = true → SX X wr w') ∧ wpAnyM P ops Q (SX X wr) n (listed.setIfInBounds i true) a' w') a w := by
    unfold loud at hp
    cases hc : (isStore o || (touched Γ.lend o σ).all (fun k => Nat.ble b k || T.contains k)) with
    | false => rw [hc] at hp; cases hp
    | true =>
      rw [hc] at hp
      simp only [cond_true] at hp
      have hlt : i < ops.size := (Array.getElem?_eq_some_iff.1 ho).1
      have h0 := (mem_ready.1 hready).1
      have hls : i < listed.size := by
        rcases Nat.lt_or_ge i listed.size with h | h
        · exact h
        · simp [Array.getElem?_eq_none h] at h0
      have hid : i ∉ done := fun hi => by
        have := hd i hi
        simp [hls] at this h0
        rw [this] at h0; cases h0
      have hd' : ∀ j ∈ i :: done, (listed.setIfInBounds i true).getD j false = true := by
        intro j hj
        rcases List.mem_cons.1 hj with rfl | hj
        · simp [hls]
        · exact getD_set_true (hd j hj)
      have hds' : ∀ j ∈ i :: done, j < ops.size := by
        intro j hj
        rcases List.mem_cons.1 hj with rfl | hj
        · exact hlt
        · exact hds j hj
      unfold wpOp
      rw [ho]
      simp only
      rw [if_pos hwant]
      refine .inl (Oper.wp_mono (fun a' w' hn => ?_) (step_ok hT hI hΓ hR (hU.free hid) hp))
      obtain ⟨σ', C', L', g1, g2, g3, g4, g5, g6, g8, g7⟩ := hn.ex
      have hX' : clean ops (listed.setIfInBounds i true) = true → Prot X T b w' C' L' ∧ SX X wr w' := by
        intro hcl
        have hst : isStore o = false := by
          cases hs : isStore o with
          | false => rfl
          | true =>
            have := clean_iff.1 hcl i o ho hs
            simp [hls] at this
        obtain ⟨hP, hS⟩ := hX (clean_back hcl)
        rw [hst, Bool.false_or, List.all_eq_true] at hc
        obtain ⟨r1, r2⟩ := hP.next (fun k hk => by
          have := hc k hk
          simp only [Bool.or_eq_true] at this
          rcases this with h | h
          · exact .inl (Nat.le_of_ble_eq_true h)
          · exact .inr (by simpa using h)) g3 g7 hn.fr hn.sz
        exact ⟨r1, fun x hx => (r2 x hx).trans (hS x hx)⟩
      exact ⟨fun hcl => (hX' hcl).2, IH hok g2 (hF.next g8 g3 g7 hn.fr hn.sz) (hU.next g4) hd' hds' hX' (g5.trans h1) (g6.trans h2) g1⟩

theorem gloud_ok {e : En} (hT : TysOk P Γ.ty) (hI : I B0 w0) (hΓ : FnsOk P I Γ) {ops : Array Oper} (hsel : Region.noSelect ops = true) {T : List Nat} {b nx len : Nat} {K : St → Option Ret} {r : Ret} {Q : Exit → Act → World → Prop} (hQ : ∀ a w, AtN B0 w0 e b (List.range ops.size) nx len K r a w → Q .normal a w) (hQp : ∀ c a w, ¬ Q (.panic c) a w)
    {p : Plan} (IH : PlanGood P Γ B0 w0 e ops T b nx len K r Q p) {n : Nat} {listed : Array Bool} {i : Nat} (hok : planOk ops p n (listed.setIfInBounds i true) = true) {X : List Nat} {wr : World} {o : Oper} (ho : ops[i]? = some o) (hready : i ∈ Region.ready .any ops listed) {σ : St} {a : Act} {w : World} {C : Cx} {L : Nat → List Nat} {done : List Nat} (hR : Rel B0 w0 σ a w C L) (hF : Fr e σ w C L) (hU : Ux b done C) (hd : ∀ j ∈ done, listed.getD j false = true) (hds : ∀ j ∈ done, j < ops.size)
      (hX : clean ops listed = true → Prot X T b w C L ∧ SX X wr w) (h1 : σ.nx = nx) (h2 : σ.tm.length = len) (hp : guarded ops o σ (fun σ1 => loud Γ T b i o σ1 (fun σ' => runPlan Γ ops T b p σ' K)) (fun σ' => runPlan Γ ops T b p σ' K) = some r) :
      wpOp P ops Q i (fun a' w' => (clean ops (listed.setIfInBounds i true) = true → SX X wr w') ∧ wpAnyM P ops Q (SX X wr) n (listed.setIfInBounds i true) a' w') a w := by
  obtain ⟨σ1, k1, k2, k3, k4, k5⟩ := guarded_ok hR hp
  have hF1 : Fr e σ1 w C L := { hF with io := by rw [k4]; exact hF.io }
  rcases k5 with ⟨hw, hp1⟩ | ⟨hw, hp1⟩
  · exact loud_ok hT hI hΓ hsel hQ hQp IH hok ho hready hw k1 hF1 hU hd hds hX (k2.trans h1) (k3.trans h2) hp1
  · have hlt : i < ops.size := (Array.getElem?_eq_some_iff.1 ho).1
    have h0 := (mem_ready.1 hready).1
    have hls : i < listed.size := by
      rcases Nat.lt_or_ge i listed.size with h | h
      · exact h
      · simp [Array.getElem?_eq_none h] at h0
    have hd' : ∀ j ∈ done, (listed.setIfInBounds i true).getD j false = true := fun j hj => getD_set_true (hd j hj)
    unfold wpOp
    rw [ho]
    simp only
    rw [if_neg (by rw [hw]; simp)]
    exact ⟨fun hc => (hX (clean_back hc)).2, IH hok (k1.put o.dst (v := .ud) rfl) { hF1 with io := by rw [put_io]; exact hF1.io } hU hd' hds (fun hc => hX (clean_back hc)) (by rw [put_nx]; exact k2.trans h1) (by rw [put_len]; exact k3.trans h2) hp1⟩

theorem plan_done {e : En} (hT : TysOk P Γ.ty) (hI : I B0 w0) (hΓ : FnsOk P I Γ) {ops : Array Oper} (hsel : Region.noSelect ops = true) {T : List Nat} {b nx len : Nat} {K : St → Option Ret} {r : Ret} {Q : Exit → Act → World → Prop} (hQ : ∀ a w, AtN B0 w0 e b (List.range ops.size) nx len K r a w → Q .normal a w) (hQp : ∀ c a w, ¬ Q (.panic c) a w) : PlanGood P Γ B0 w0 e ops T b nx len K r Q .done := by
  intro n listed hok X wr σ a w C L done hR hF hU hd hds hX h1 h2 hp
  simp only [planOk, List.isEmpty_iff] at hok
  refine wpAnyM_done hok (hQ a w ⟨σ, hp, ⟨C, L, hR, hF, fun k hk => (hU k hk).imp id (fun ⟨j, hj, h⟩ => ⟨j, List.mem_range.2 (hds j hj), h⟩)⟩, h1, h2⟩) n

theorem plan_take {e : En} (hT : TysOk P Γ.ty) (hI : I B0 w0) (hΓ : FnsOk P I Γ) {ops : Array Oper} (hsel : Region.noSelect ops = true) {T : List Nat} {b nx len : Nat} {K : St → Option Ret} {r : Ret} {Q : Exit → Act → World → Prop} (hQ : ∀ a w, AtN B0 w0 e b (List.range ops.size) nx len K r a w → Q .normal a w) (hQp : ∀ c a w, ¬ Q (.panic c) a w) {i : Nat} {p : Plan} (IH0 : PlanGood P Γ B0 w0 e ops T b nx len K r Q p) : PlanGood P Γ B0 w0 e ops T b nx len K r Q (.take i p) := by
  intro n
  cases n with
  | zero => intro listed hok; simp [planOk] at hok
  | succ n =>
    intro listed hok X wr σ a w C L done hR hF hU hd hds hX h1 h2 hp
    simp only [planOk, Bool.and_eq_true] at hok
    obtain ⟨⟨⟨k1, k2⟩, k3⟩, k4⟩ := hok
    simp only [runPlan] at hp
    split at hp
    · rename_i o ho
      simp only [ho, Bool.and_eq_true, Bool.not_eq_true'] at k3
      have hready : i ∈ Region.ready .any ops listed := by simpa using k1
      have hlt : i < ops.size := (Array.getElem?_eq_some_iff.1 ho).1
      obtain ⟨σ1, hR1, k5, k6, k7, k8⟩ := guarded_ok hR hp
      have hF1 : Fr e σ1 w C L := { hF with io := by rw [k7]; exact hF.io }
      have h11 : σ1.nx = nx := k5.trans h1
      have h12 : σ1.tm.length = len := k6.trans h2
      have hd' : ∀ j ∈ i :: done, (listed.setIfInBounds i true).getD j false = true := by
        intro j hj
        rcases List.mem_cons.1 hj with rfl | hj
        · have h0 := (mem_ready.1 hready).1
          have hls : j < listed.size := by
            rcases Nat.lt_or_ge j listed.size with h | h
            · exact h
            · simp [Array.getElem?_eq_none h] at h0
          simp [hls]
        · exact getD_set_true (hd j hj)
      have hds' : ∀ j ∈ i :: done, j < ops.size := by
        intro j hj
        rcases List.mem_cons.1 hj with rfl | hj
        · exact hlt
        · exact hds j hj
      have hU' : Ux b (i :: done) C := fun k hk => (hU k hk).imp id (fun ⟨j, hj, h⟩ => ⟨j, by simp [hj], h⟩)
      rcases k8 with ⟨hwant, hp⟩ | ⟨hwant, hp⟩
      case inr =>
        have IH := IH0 k4 (X := X) (wr := wr) (hR1.put o.dst (v := .ud) (c := undef) rfl) { hF1 with io := by rw [put_io]; exact hF1.io } hU' hd' hds' (fun hc => hX (clean_back hc)) (by rw [put_nx]; exact h11) (by rw [put_len]; exact h12) hp
        exact wpAnyM_first (SY := fun _ => True) (I := fun _ => True) ho k3.1 (Region.noSelect_spec hsel) hQp (fun _ _ _ _ _ _ _ _ => ⟨trivial, trivial⟩) n listed a w trivial (Region.free_spec ho k2) hready (.inr ⟨hwant, rfl⟩) trivial (fun hc => (hX (clean_back hc)).2) IH
      obtain ⟨v, cv, g1, g2, g3, g4⟩ := quiet_ok hT hI hΓ.gl hR1 hp
      rcases g4 with ⟨hl, g4⟩ | ⟨hl, blk, q1, q2, q3⟩
      · have IH := IH0 k4 (X := X) (wr := wr) (hR1.put o.dst g1) { hF1 with io := by rw [put_io]; exact hF1.io } hU' hd' hds' (fun hc => hX (clean_back hc)) (by rw [put_nx]; exact h11) (by rw [put_len]; exact h12) g2
        exact wpAnyM_first (SY := fun _ => True) (I := fun _ => True) ho g3 (Region.noSelect_spec hsel) hQp (fun _ _ _ _ _ _ _ _ => ⟨trivial, trivial⟩) n listed a w trivial (Region.free_spec ho k2) hready (.inl ⟨hwant, fun w' _ => g4 w'⟩) trivial (fun hc => (hX (clean_back hc)).2) IH
      · have hcl : clean ops listed = true ∧ storesWait ops i = true := by simpa [hl] using k3.2
        obtain ⟨hP, hS⟩ := hX hcl.1
        have IH := IH0 k4 (X := blk :: X) (wr := w) (hR1.put o.dst g1) { hF1 with io := by rw [put_io]; exact hF1.io } hU' hd' hds' (fun hc => ⟨fun x hx => by
            rcases List.mem_cons.1 hx with rfl | hx
            · exact ⟨q1, q2⟩
            · exact hP x hx, fun x hx => rfl⟩) (by rw [put_nx]; exact h11) (by rw [put_len]; exact h12) g2
        have hfirst := wpAnyM_first (SY := SX (blk :: X) w) (S := SX (blk :: X) w) (I := fun l => clean ops l = true) ho g3 (Region.noSelect_spec hsel) hQp (fun l j w' hIl hri hrj hji hS' => by
            obtain ⟨hjun, oj, hoj, hall⟩ := mem_ready.1 hrj
            have hjs : isStore oj = false := by
              cases hs : isStore oj with
              | false => rfl
              | true =>
                obtain ⟨ed, he, hb, hon⟩ := storesWait_spec hcl.2 hoj hs
                have h1 := hall ed he hb
                have h0 := (mem_ready.1 hri).1
                rw [hon] at h1
                rcases Nat.lt_or_ge i l.size with h' | h'
                · simp [h'] at h0 h1; rw [h0] at h1; cases h1
                · simp [Array.getElem?_eq_none h'] at h1
            have hc1 : clean ops (l.setIfInBounds j true) = true := clean_set hIl (fun o' ho' => by rw [hoj] at ho'; cases ho'; exact hjs)
            refine ⟨hS' ?_, hc1⟩
            rw [Array.setIfInBounds_comm _ _ (Ne.symm hji)]
            exact clean_set hc1 (fun o' ho' => by rw [ho] at ho'; cases ho'; exact g3)) n listed a w hcl.1 (Region.free_spec ho k2) hready (.inl ⟨hwant, fun w' hw' => q3 w' (hw' blk (by simp))⟩) (fun x hx => rfl) (fun _ => fun x hx => rfl) IH
        exact hfirst.imp (fun w' hw' x hx => (hw' x (by simp [hx])).trans (hS x hx))
    · cases hp

theorem plan_fork {e : En} (hT : TysOk P Γ.ty) (hI : I B0 w0) (hΓ : FnsOk P I Γ) {ops : Array Oper} (hsel : Region.noSelect ops = true) {T : List Nat} {b nx len : Nat} {K : St → Option Ret} {r : Ret} {Q : Exit → Act → World → Prop} (hQ : ∀ a w, AtN B0 w0 e b (List.range ops.size) nx len K r a w → Q .normal a w) (hQp : ∀ c a w, ¬ Q (.panic c) a w) {f : Forks} (IHf : ForksGood P Γ B0 w0 e ops T b nx len K r Q f) : PlanGood P Γ B0 w0 e ops T b nx len K r Q (.fork f) := by
  intro n
  cases n with
  | zero => intro listed hok; simp [planOk] at hok
  | succ n =>
    intro listed hok X wr σ a w C L done hR hF hU hd hds hX h1 h2 hp
    simp only [planOk, Bool.and_eq_true, beq_iff_eq] at hok
    simp only [runPlan] at hp
    have key := IHf hok.2 (X := X) (wr := wr) (fun i hi => by rw [hok.1]; exact hi) hR hF hU hd hds hX h1 h2 hp
    refine ⟨fun h0 => ?_, fun i hi => key i (by rw [← hok.1]; exact hi)⟩
    rw [h0] at hok
    exfalso
    cases f <;> simp [forksOf] at hok

theorem forks_one {e : En} (hT : TysOk P Γ.ty) (hI : I B0 w0) (hΓ : FnsOk P I Γ) {ops : Array Oper} (hsel : Region.noSelect ops = true) {T : List Nat} {b nx len : Nat} {K : St → Option Ret} {r : Ret} {Q : Exit → Act → World → Prop} (hQ : ∀ a w, AtN B0 w0 e b (List.range ops.size) nx len K r a w → Q .normal a w) (hQp : ∀ c a w, ¬ Q (.panic c) a w) {i : Nat} {p : Plan} (IH0 : PlanGood P Γ B0 w0 e ops T b nx len K r Q p) : ForksGood P Γ B0 w0 e ops T b nx len K r Q (.one i p) := by
  intro n listed hok X wr hr σ a w C L done hR hF hU hd hds hX h1 h2 hp j hj
  simp only [forksOf, List.mem_singleton] at hj
  subst hj
  simp only [forksOk, Bool.and_eq_true] at hok
  simp only [runForks] at hp
  split at hp
  · rename_i o ho
    exact gloud_ok hT hI hΓ hsel hQ hQp IH0 hok.2 ho (hr _ (by simp [forksOf])) hR hF hU hd hds hX h1 h2 hp
  · cases hp

theorem forks_more {e : En} (hT : TysOk P Γ.ty) (hI : I B0 w0) (hΓ : FnsOk P I Γ) {ops : Array Oper} (hsel : Region.noSelect ops = true) {T : List Nat} {b nx len : Nat} {K : St → Option Ret} {r : Ret} {Q : Exit → Act → World → Prop} (hQ : ∀ a w, AtN B0 w0 e b (List.range ops.size) nx len K r a w → Q .normal a w) (hQp : ∀ c a w, ¬ Q (.panic c) a w) {i : Nat} {p : Plan} {f : Forks} (IH0 : PlanGood P Γ B0 w0 e ops T b nx len K r Q p) (IHf : ForksGood P Γ B0 w0 e ops T b nx len K r Q f) : ForksGood P Γ B0 w0 e ops T b nx len K r Q (.more i p f) := by
  intro n listed hok X wr hr σ a w C L done hR hF hU hd hds hX h1 h2 hp j hj
  simp only [forksOk, Bool.and_eq_true] at hok
  simp only [runForks] at hp
  split at hp
  · rename_i o ho
    obtain ⟨hp1, hp2⟩ := meet_some hp
    simp only [forksOf, List.mem_cons] at hj
    rcases hj with rfl | hj
    · exact gloud_ok hT hI hΓ hsel hQ hQp IH0 hok.1.2 ho (hr _ (by simp [forksOf])) hR hF hU hd hds hX h1 h2 hp1
    · exact IHf hok.2 (fun i hi => hr i (by simp [forksOf, hi])) hR hF hU hd hds hX h1 h2 hp2 j hj
  · cases hp

mutual
theorem planGood {e : En} (hT : TysOk P Γ.ty) (hI : I B0 w0) (hΓ : FnsOk P I Γ) {ops : Array Oper} (hsel : Region.noSelect ops = true) {T : List Nat} {b nx len : Nat} {K : St → Option Ret} {r : Ret} {Q : Exit → Act → World → Prop} (hQ : ∀ a w, AtN B0 w0 e b (List.range ops.size) nx len K r a w → Q .normal a w) (hQp : ∀ c a w, ¬ Q (.panic c) a w) : (p : Plan) → PlanGood P Γ B0 w0 e ops T b nx len K r Q p
  | .done => plan_done hT hI hΓ hsel hQ hQp
  | .take i p => plan_take hT hI hΓ hsel hQ hQp (planGood hT hI hΓ hsel hQ hQp p)
  | .fork f => plan_fork hT hI hΓ hsel hQ hQp (forksGood hT hI hΓ hsel hQ hQp f)
theorem forksGood {e : En} (hT : TysOk P Γ.ty) (hI : I B0 w0) (hΓ : FnsOk P I Γ) {ops : Array Oper} (hsel : Region.noSelect ops = true) {T : List Nat} {b nx len : Nat} {K : St → Option Ret} {r : Ret} {Q : Exit → Act → World → Prop} (hQ : ∀ a w, AtN B0 w0 e b (List.range ops.size) nx len K r a w → Q .normal a w) (hQp : ∀ c a w, ¬ Q (.panic c) a w) : (f : Forks) → ForksGood P Γ B0 w0 e ops T b nx len K r Q f
  | .one i p => forks_one hT hI hΓ hsel hQ hQp (planGood hT hI hΓ hsel hQ hQp p)
  | .more i p f => forks_more hT hI hΓ hsel hQ hQp (planGood hT hI hΓ hsel hQ hQp p) (forksGood hT hI hΓ hsel hQ hQp f)
end

/-- A region whose operations may come in any order. -/
theorem draw_ok {e : En} (hm : P.follows .mixedOrders = true) (hT : TysOk P Γ.ty) (hI : I B0 w0) (hΓ : FnsOk P I Γ) {ops : Array Oper} {id : Nat} {p : Plan} (hok : (Region.noSelect ops && planOk ops p ops.size (Array.replicate ops.size false)) = true) {T : List Nat} {nx : Nat} {K : St → Option Ret} {r : Ret} {Q : Exit → Act → World → Prop} {σ : St} {a : Act} {w : World}
    (h : AtR B0 w0 e σ.nx [] σ a w) (hQ : ∀ a w, AtN B0 w0 e σ.nx (List.range ops.size) nx σ.tm.length K r a w → Q .normal a w) (hQp : ∀ c a w, ¬ Q (.panic c) a w) (hp : runPlan Γ ops T σ.nx p { σ with nx := nx } K = some r) : (Code.region id ops true).wp P Q a w := by
  simp only [Bool.and_eq_true] at hok
  obtain ⟨C, L, h1, h2, h3⟩ := h
  refine wp_region_any hm (wpAny_of_M (S := SX [] w) _ _ _ _ ?_)
  have hle : C.Le w C { w with drawn := w.drawn + 1 } := ⟨fun _ _ _ h => h, fun _ h => h, fun _ h => h, fun _ _ => rfl, fun _ _ _ h => h⟩
  have hR : Rel B0 w0 { σ with nx := nx } a { w with drawn := w.drawn + 1 } C L :=
    { below := ⟨h1.below.os, h1.below.tape, h1.below.output, h1.below.size, h1.below.block⟩, hB0 := h1.hB0, defers := h1.defers, len := h1.len, tm := fun i v hv => by
        obtain ⟨c, g1, g2⟩ := h1.tm i v hv
        exact ⟨c, g1, g2.le hle⟩, ob := fun k => (h1.ob k).le hle rfl rfl (fun _ _ => rfl), us := h1.us, nd := h1.nd, dj := h1.dj, own := h1.own, nw := h1.nw, nsz := h1.nsz }
  exact planGood hT hI hΓ hok.1 hQ hQp p hok.2 hR ⟨h2.io.le hle, h2.nm, h2.fr, h2.hd, h2.ow, h2.nn, h2.sz⟩ h3 (fun _ h => (nomatch h)) (fun _ h => (nomatch h)) (fun _ => ⟨fun _ h => (nomatch h), fun _ h => (nomatch h)⟩) rfl rfl hp
end
end Go.Ev
end
section
/- Code: the machine does what the evaluator says. -/
set_option linter.unusedVariables false
namespace Go.Ev
open Go.RowKit

/-! ### Numbers given anew -/
theorem reach_nodup (ob : Obs) : ∀ (n : Nat) (acc ks : List Nat), acc.Nodup → (reach ob n acc ks).Nodup
  | 0, acc, ks, h => by cases ks <;> simpa [reach] using h
  | n + 1, acc, [], h => by simpa [reach] using h
  | n + 1, acc, k :: ks, h => by
    simp only [reach]
    split
    · exact reach_nodup ob n acc ks h
    · rename_i hk
      refine reach_nodup ob n _ _ ?_
      rw [List.nodup_append]
      refine ⟨h, by simp, fun x hx y hy e => ?_⟩
      simp at hy
      subst hy; subst e
      exact hk (by simpa using hx)

theorem zip_get (g : Nat → E) : ∀ (m : List Nat) (n i : Nat), Obs.get ((m.zipIdx n).map (fun p => (p.2, g p.1))) i = if n ≤ i then (match m[i - n]? with | some k => g k | none => .no) else .no
  | [], n, i => by simp [Obs.get]
  | k :: m, n, i => by
    simp only [List.zipIdx_cons, List.map_cons, Obs.get]
    by_cases h : n = i
    · subst h; simp [Nat.beq_refl]
    · have hb : n.beq i = false := by rw [Bool.eq_false_iff]; intro h'; exact h (Nat.eq_of_beq_eq_true h')
      rw [hb, zip_get g m (n + 1) i]
      simp only [cond_false]
      by_cases h1 : n + 1 ≤ i
      · rw [if_pos h1, if_pos (by omega), show i - n = (i - (n + 1)) + 1 by omega]
        simp
      · rw [if_neg h1, if_neg (by omega)]

theorem renL_map (m : List Nat) : ∀ (vs : List V), renL m vs = vs.map (V.ren m)
  | [] => rfl
  | v :: vs => by simp [renL, renL_map m vs]
theorem keep_len (live : List Nat) : ∀ (i : Nat) (vs : List V), (keep live i vs).length = vs.length
  | _, [] => rfl
  | i, v :: vs => by simp [keep, keep_len live (i + 1) vs]
theorem keep_get (live : List Nat) : ∀ (i : Nat) (vs : List V) (j : Nat) (v : V), (keep live i vs)[j]? = some v → v = .x ∨ vs[j]? = some v
  | _, [], j, v, h => by simp [keep] at h
  | i, u :: vs, 0, v, h => by
    simp [keep] at h
    split at h
    · exact .inr (by simp [h])
    · exact .inl h.symm
  | i, u :: vs, j + 1, v, h => by
    simp [keep] at h
    simpa using keep_get live (i + 1) vs j v h

theorem idx_get {m : List Nat} {k : Nat} (h : k ∈ m) : m[m.idxOf k]? = some k := by
  have hlt := List.idxOf_lt_length_of_mem h
  rw [List.getElem?_eq_getElem hlt]
  congr 1
  exact List.getElem_idxOf hlt
def Cx.ren (C : Cx) (m : List Nat) : Cx := { φ := fun i => match m[i]? with | some k => C.φ k | none => none, U := fun i => i < m.length, N := C.N, hs := fun i => match m[i]? with | some k => C.hs k | none => none }
mutual
theorem VR.ren {C : Cx} {w : World} (m : List Nat) : (u : V) → {c : Value} → VR C w u c → VR (C.ren m) w (u.ren m) c
  | .s _, _, h => h
  | .a cs, _, ⟨vs, h1, h2⟩ => ⟨vs, h1, VsR.ren m cs h2⟩
  | .t cs, _, ⟨vs, h1, h2⟩ => ⟨vs, h1, VsR.ren m cs h2⟩
  | .nl, _, h => h
  | .gl _, _, h => h
  | .gq _ _ _, _, h => h
  | .ud, _, h => h
  | .l _ r xs, _, h => h
  | .w k, c, h => by
    simp only [V.ren]
    split
    · rename_i hk
      have hk' : k ∈ m := by simpa using hk
      exact ⟨List.idxOf_lt_length_of_mem hk', h.2.1, fun cv n hφ => h.2.2 cv n (by simpa [Cx.ren, idx_get hk'] using hφ)⟩
    · trivial
  | .r k off len, c, h => by
    simp only [V.ren]
    split
    · rename_i hk
      have hk' : k ∈ m := by simpa using hk
      exact ⟨List.idxOf_lt_length_of_mem hk', h.2.1, fun cv n hφ => h.2.2 cv n (by simpa [Cx.ren, idx_get hk'] using hφ)⟩
    · trivial
  | .pb k j, c, h => by
    simp only [V.ren]
    split
    · rename_i hk
      have hk' : k ∈ m := by simpa using hk
      exact ⟨List.idxOf_lt_length_of_mem hk', h.2.1, fun b hφ => h.2.2 b (by simpa [Cx.ren, idx_get hk'] using hφ)⟩
    · trivial
  | .pa k i j, c, h => by
    simp only [V.ren]
    split
    · rename_i hk
      have hk' : k ∈ m := by simpa using hk
      exact ⟨List.idxOf_lt_length_of_mem hk', h.2.1, fun cv n hφ => h.2.2 cv n (by simpa [Cx.ren, idx_get hk'] using hφ)⟩
    · trivial
  | .sb k i j, c, h => by
    simp only [V.ren]
    split
    · rename_i hk
      have hk' : k ∈ m := by simpa using hk
      exact ⟨List.idxOf_lt_length_of_mem hk', h.2.1, fun f hf => h.2.2 f (by simpa [Cx.ren, idx_get hk'] using hf)⟩
    · trivial
  | .qb cs j, _, ⟨b, vs, ty, h1, h2, h3, h4⟩ => ⟨b, vs, ty, h1, h2, h3, VsR.ren m cs h4⟩
  | .q r d j, _, h => h
  | .f g caps, _, ⟨vs, h1, h2⟩ => ⟨vs, h1, VsR.ren m caps h2⟩
  | .io _, _, h => h.elim
  | .x, _, _ => trivial
theorem VsR.ren {C : Cx} {w : World} (m : List Nat) : (us : List V) → {vs : List Value} → VsR C w us vs → VsR (C.ren m) w (renL m us) vs
  | [], _, h => h
  | u :: us, _, ⟨v, vs', h1, h2, h3⟩ => ⟨v, vs', h1, VR.ren m u h2, VsR.ren m us h3⟩
end

section
variable {P : Program} {Γ : Env} {I : Nat → World → Prop} {B0 : Nat} {w0 : World} {σ : St} {a : Act} {w : World}

theorem canon_ok {e : En} {b : Nat} {done : List Nat} (live : List Nat) (h : AtR B0 w0 e b done σ a w) : AtR B0 w0 e (canon live σ).nx [] (canon live σ) a w ∧ (canon live σ).tm.length = σ.tm.length := by
  obtain ⟨C, L, h1, h2, h3⟩ := h
  obtain ⟨m, hm⟩ : ∃ m, m = reach σ.ob 1000 [] (refsL (keep live 0 σ.tm) ++ refsL σ.io) := ⟨_, rfl⟩
  have hnd : m.Nodup := by rw [hm]; exact reach_nodup _ _ _ _ List.nodup_nil
  have hc : canon live σ = { tm := renL m (keep live 0 σ.tm), ob := m.zipIdx.map (fun p => (p.2, (σ.ob.get p.1).ren m)), nx := m.length, io := renL m σ.io } := by
    rw [hm]; rfl
  have hlen : (renL m (keep live 0 σ.tm)).length = σ.tm.length := by rw [renL_map, List.length_map, keep_len]
  rw [hc]
  have hob : ∀ i, St.obj { tm := renL m (keep live 0 σ.tm), ob := m.zipIdx.map (fun p => (p.2, (σ.ob.get p.1).ren m)), nx := m.length, io := renL m σ.io } i = match m[i]? with | some k => (σ.obj k).ren m | none => .no := by
    intro i
    have := zip_get (fun k => (σ.ob.get k).ren m) m 0 i
    simpa [St.obj] using this
  refine ⟨⟨C.ren m, fun i => match m[i]? with | some k => L k | none => [], ?_, ⟨VsR.ren m _ h2.io, h2.nm, h2.fr, fun i x hx hn => ?_, fun i x hx => ?_, h2.nn, h2.sz⟩, fun k hk => .inl hk⟩, hlen⟩
  · refine { below := h1.below, hB0 := h1.hB0, defers := h1.defers, len := by rw [hlen]; exact h1.len, tm := fun i v hv => ?_, ob := fun i => ?_, us := fun i hi => ?_, nd := fun i => ?_, dj := fun i j hij x hx => ?_, own := fun i x hx => ?_, nw := fun i x hwr => ?_, nsz := h1.nsz }
    · simp only [renL_map, List.getElem?_map, Option.map_eq_some_iff] at hv
      obtain ⟨u, hu, rfl⟩ := hv
      have hlt : i < σ.tm.length := by
        have := (List.getElem?_eq_some_iff.1 hu).1
        rwa [keep_len] at this
      rcases keep_get live 0 σ.tm i u hu with rfl | hu
      · have : i < a.tmps.size := by rw [h1.len]; exact hlt
        exact ⟨a.tmps[i], Array.getElem?_eq_getElem this, trivial⟩
      · obtain ⟨c, g1, g2⟩ := h1.tm i u hu
        exact ⟨c, g1, g2.ren m⟩
    · rw [hob]
      cases hmi : m[i]? with
      | none => exact rfl
      | some k =>
        have := h1.ob k
        simp only
        cases he : σ.obj k with
        | no => rw [he] at this; exact this
        | box cs =>
          rw [he] at this
          obtain ⟨blk, vs, ty, g1, g2, g3, g4⟩ := this
          exact ⟨blk, vs, ty, by simp [Cx.ren, hmi, g1], g2, g3, VsR.ren m cs g4⟩
        | arr mu deep r xs =>
          rw [he] at this
          obtain ⟨cv, F, g1, g2⟩ := this
          exact ⟨cv, F, by simp [Cx.ren, hmi, g1], g2⟩
        | own st r xs =>
          rw [he] at this
          obtain ⟨cv, g1, g2, g3⟩ := this
          refine ⟨cv, by simp [Cx.ren, hmi, g1], g2, fun hst => ?_⟩
          obtain ⟨f, g4, g5⟩ := g3 hst
          exact ⟨f, by simp [Cx.ren, hmi, g4], g5⟩
    · show i < m.length
      rcases Nat.lt_or_ge i m.length with h | h
      · exact h
      · exact absurd (by simp [Cx.ren, List.getElem?_eq_none h]) hi
    · cases hmi : m[i]? with
      | none => simp
      | some k => simpa using h1.nd k
    · cases hmi : m[i]? with
      | none => rw [hmi] at hx; cases hx
      | some k =>
        rw [hmi] at hx
        cases hmj : m[j]? with
        | none => simp
        | some k' =>
          refine h1.dj k k' (fun e => ?_) x hx
          subst e
          have hi := (List.getElem?_eq_some_iff.1 hmi).1
          exact hij ((List.getElem?_inj hi hnd).1 (hmi.trans hmj.symm))
    · cases hmi : m[i]? with
      | none => rw [hmi] at hx; cases hx
      | some k => rw [hmi] at hx; exact h1.own k x hx
    · rw [hob] at hwr
      cases hmi : m[i]? with
      | none => rw [hmi] at hwr; exact absurd hwr.mem (by simp)
      | some k =>
        rw [hmi] at hwr
        refine h1.nw k x ?_
        simp only at hwr
        cases he : σ.obj k <;> rw [he] at hwr <;> exact hwr
  · cases hmi : m[i]? with
    | none => rw [hmi] at hx; cases hx
    | some k => rw [hmi] at hx; exact h2.hd k x hx hn
  · cases hmi : m[i]? with
    | none => rw [hmi] at hx; cases hx
    | some k => rw [hmi] at hx; exact h2.ow k x hx

theorem VsR.set {C : Cx} {w : World} {u : V} {c : Value} : ∀ {us : List V} {vs : List Value} (i : Nat), VsR C w us vs → vs[i]? = some c → VR C w u c → VsR C w (us.set i u) vs
  | [], vs, i, h, hc, _ => by
    have : vs = [] := h
    subst this; simp at hc
  | u' :: us, _, 0, ⟨v, vs', rfl, h2, h3⟩, hc, hu => by
    simp only [List.getElem?_cons_zero, Option.some.injEq] at hc
    subst hc
    exact ⟨_, vs', rfl, hu, h3⟩
  | u' :: us, _, i + 1, ⟨v, vs', rfl, h2, h3⟩, hc, hu => ⟨v, vs', rfl, h2, VsR.set i h3 (by simpa using hc) hu⟩
theorem VsR.nlAt {C : Cx} {w : World} : ∀ {us : List V} {vs : List Value} (i : Nat), VsR C w us vs → us[i]? = some .nl → vs[i]? = some (.slice none 0 0)
  | [], _, i, _, h => by simp at h
  | u :: us, _, 0, ⟨v, vs', rfl, h2, h3⟩, h => by
    simp only [List.getElem?_cons_zero, Option.some.injEq] at h
    subst h
    have : v = .slice none 0 0 := h2
    rw [this]; rfl
  | u :: us, _, i + 1, ⟨v, vs', rfl, h2, h3⟩, h => by
    have := VsR.nlAt i h3 (by simpa using h)
    simpa using this
theorem nil1_ok {e : En} (q : Nat × Nat × Rw) (h : AtR B0 w0 e σ.nx [] σ a w) : AtR B0 w0 e (nil1 q σ).nx [] (nil1 q σ) a w ∧ (nil1 q σ).tm.length = σ.tm.length := by
  obtain ⟨C, L, h1, h2, h3⟩ := h
  have hU : ¬ C.U σ.nx := fun hk => by
    rcases h3 _ hk with h | ⟨j, hj, _⟩
    · omega
    · cases hj
  have hφ : C.φ σ.nx = none := by
    cases hp : C.φ σ.nx with
    | none => rfl
    | some p => exact absurd (h1.us _ (by rw [hp]; simp)) hU
  have hL : L σ.nx = [] := by
    have := h1.ob σ.nx
    cases he : σ.obj σ.nx with
    | no => rw [he] at this; exact this
    | box cs => rw [he] at this; obtain ⟨b, vs, ty, g, _⟩ := this; rw [hφ] at g; cases g
    | arr mu deep r xs => rw [he] at this; obtain ⟨cv, F, g, _⟩ := this; rw [hφ] at g; cases g
    | own st r xs => rw [he] at this; obtain ⟨cv, g, _⟩ := this; rw [hφ] at g; cases g
  have key : ∀ (r : Rw), ∃ C' : Cx, C'.φ σ.nx = some (.arr (.slice none 0 0) r.n) ∧ (∀ k, k ≠ σ.nx → C'.φ k = C.φ k) ∧ C'.hs = C.hs ∧ C'.N = C.N ∧ (∀ k, C'.U k ↔ C.U k ∨ k = σ.nx) := fun r =>
    ⟨{ φ := fun k => if k = σ.nx then some (.arr (.slice none 0 0) r.n) else C.φ k, U := fun k => C.U k ∨ k = σ.nx, N := C.N, hs := C.hs }, by simp, fun k hk => by simp [hk], rfl, rfl, fun k => Iff.rfl⟩
  have fin : ∀ (r : Rw) (σ' : St), σ'.nx = σ.nx + 1 → σ'.tm.length = σ.tm.length → σ'.io = σ.io → σ'.obj σ.nx = .arr true true r [] →
      (∀ C' : Cx, C.Le w C' w → VR C' w (.w σ.nx) (.slice none 0 0) → (∀ k, k ≠ σ.nx → C'.φ k = C.φ k) → C'.hs = C.hs → (∀ (i : Nat) (v : V), σ'.tm[i]? = some v → ∃ c, a.tmps[i]? = some c ∧ VR C' w v c) ∧ ∀ k, k ≠ σ.nx → ObR C' w k (σ'.obj k) (L k) ∧ ∀ b, wr (σ'.obj k) (L k) b → wr (σ.obj k) (L k) b) →
      AtR B0 w0 e σ'.nx [] σ' a w ∧ σ'.tm.length = σ.tm.length := by
    intro r σ' e1 e2 e3 e4 hh
    obtain ⟨C', c1, c2, c3, c4, c5⟩ := key r
    have hle : C.Le w C' w := ⟨fun k p hu hp => by
        have : k ≠ σ.nx := fun e => hU (e ▸ hu)
        rw [← c2 k this]; exact hp, fun k hu => (c5 k).2 (.inl hu), fun b hb => by rw [c4]; exact hb, fun _ _ => rfl, fun k f _ hp => by rw [c3] at hp; exact hp⟩
    have hw : VR C' w (.w σ.nx) (.slice none 0 0) := ⟨(c5 _).2 (.inr rfl), rfl, fun cv n hp => by rw [c1] at hp; cases hp; rfl⟩
    obtain ⟨g1, g2⟩ := hh C' hle hw c2 c3
    refine ⟨⟨C', L, { below := h1.below, hB0 := h1.hB0, defers := h1.defers, len := by rw [e2]; exact h1.len, tm := g1, ob := fun k => ?_, us := fun k hk => ?_, nd := h1.nd, dj := h1.dj, own := h1.own, nw := fun k b hb => ?_, nsz := fun b hb => h1.nsz b (by rw [← c4]; exact hb) }, { io := by rw [e3]; exact h2.io.le hle, nm := fun x hx => by rw [c4]; exact h2.nm x hx, fr := h2.fr, hd := fun k x hx hn => h2.hd k x hx (by rw [← c4]; exact hn), ow := h2.ow, nn := fun x hx => h2.nn x (by rw [← c4]; exact hx), sz := h2.sz }, fun k hk => ?_⟩, e2⟩
    · by_cases e : k = σ.nx
      · subst e
        rw [e4, hL]
        exact ⟨.slice none 0 0, [], c1, .inl ⟨rfl, rfl, none, 0, rfl, fun _ => ⟨rfl, rfl⟩⟩, fun b hb => (nomatch hb), rfl⟩
      · exact (g2 k e).1
    · by_cases e : k = σ.nx
      · exact (c5 k).2 (.inr e)
      · rw [c2 k e] at hk; exact (c5 k).2 (.inl (h1.us k hk))
    · rw [c4]
      by_cases e : k = σ.nx
      · subst e
        rw [e4, hL] at hb
        obtain ⟨_, hb⟩ := hb
        cases hb
      · exact h1.nw k b ((g2 k e).2 b hb)
    · rcases (c5 k).1 hk with hk | hk
      · rcases h3 k hk with h | ⟨j, hj, _⟩
        · left; omega
        · cases hj
      · left; omega
  obtain ⟨k, c, r⟩ := q
  cases k with
  | zero =>
    simp only [nil1]
    split
    · rename_i hi
      refine fin r _ rfl (by simp) rfl (by simp [St.obj, Obs.get_put]) (fun C' hle hw c2 c3 => ⟨fun i v hv => ?_, fun k hk => ?_⟩)
      · obtain ⟨cc, q1, q2⟩ := h1.tm c .nl hi
        by_cases e : i = c
        · subst e
          have hlt := (List.getElem?_eq_some_iff.1 hi).1
          simp only [List.getElem?_set_self hlt, Option.some.injEq] at hv
          subst hv
          have : cc = .slice none 0 0 := q2
          exact ⟨cc, q1, this ▸ hw⟩
        · simp only [List.getElem?_set_ne (Ne.symm e)] at hv
          obtain ⟨cc, q1, q2⟩ := h1.tm i v hv
          exact ⟨cc, q1, q2.le hle⟩
      · have e : St.obj { σ with tm := σ.tm.set c (.w σ.nx), ob := σ.ob.put σ.nx (.arr true true r []), nx := σ.nx + 1 } k = σ.obj k := by simp [St.obj, Obs.get_put, hk]
        rw [e]
        exact ⟨(h1.ob k).le hle (c2 k hk) (by rw [c3]) (fun _ _ => rfl), fun b hb => hb⟩
    · exact ⟨⟨C, L, h1, h2, h3⟩, rfl⟩
  | succ j =>
    simp only [nil1]
    split
    · rename_i cs hcs
      split
      · rename_i hc
        have hob := h1.ob j
        rw [show σ.obj j = .box cs from hcs] at hob
        obtain ⟨b, vs, ty, g1, g2, g3, g4⟩ := hob
        have hj : j ≠ σ.nx := fun e => by rw [e, hφ] at g1; cases g1
        refine fin r _ rfl rfl rfl (by simp [St.obj, Obs.get_put]) (fun C' hle hw c2 c3 => ⟨fun i v hv => ?_, fun k hk => ?_⟩)
        · obtain ⟨cc, q1, q2⟩ := h1.tm i v hv
          exact ⟨cc, q1, q2.le hle⟩
        · by_cases e : k = j
          · subst e
            have e : St.obj { σ with ob := (σ.ob.put k (.box (cs.set c (.w σ.nx)))).put σ.nx (.arr true true r []), nx := σ.nx + 1 } k = .box (cs.set c (.w σ.nx)) := by simp [St.obj, Obs.get_put, hk]
            rw [e, show σ.obj k = .box cs from hcs]
            exact ⟨⟨b, vs, ty, by rw [c2 k hk]; exact g1, g2, g3, (g4.le hle).set c (g4.nlAt c hc) hw⟩, fun b hb => hb⟩
          · have e : St.obj { σ with ob := (σ.ob.put j (.box (cs.set c (.w σ.nx)))).put σ.nx (.arr true true r []), nx := σ.nx + 1 } k = σ.obj k := by simp [St.obj, Obs.get_put, hk, e]
            rw [e]
            exact ⟨(h1.ob k).le hle (c2 k hk) (by rw [c3]) (fun _ _ => rfl), fun b hb => hb⟩
      · exact ⟨⟨C, L, h1, h2, h3⟩, rfl⟩
    · exact ⟨⟨C, L, h1, h2, h3⟩, rfl⟩
theorem nilN_ok {e : En} : ∀ (qs : List (Nat × Nat × Rw)) {σ : St}, AtR B0 w0 e σ.nx [] σ a w → AtR B0 w0 e (nilN qs σ).nx [] (nilN qs σ) a w ∧ (nilN qs σ).tm.length = σ.tm.length
  | [], _, h => ⟨h, rfl⟩
  | q :: qs, _, h => ⟨(nilN_ok qs (nil1_ok q h).1).1, (nilN_ok qs (nil1_ok q h).1).2.trans (nil1_ok q h).2⟩
theorem enter_ok {e : En} {b : Nat} {done : List Nat} (n : Nat) (h : AtR B0 w0 e b done σ a w) : AtR B0 w0 e (enter Γ n σ).nx [] (enter Γ n σ) a w ∧ (enter Γ n σ).tm.length = σ.tm.length := by
  have h1 := canon_ok (Γ.hint n).1 h
  unfold enter
  cases (Γ.nils n).isEmpty with
  | true => exact h1
  | false =>
    have h2 := nilN_ok (Γ.nils n) h1.1
    have h3 := canon_ok (Γ.hint n).1 h2.1
    exact ⟨h3.1, h3.2.trans (h2.2.trans h1.2)⟩

/-! ### Code -/
def ExR : Exit → Ex → Prop
  | .normal, .nrm => True
  | .exit i, .ext j => i = j
  | .ret, .ret => True
  | _, _ => False
def PostC (B0 : Nat) (w0 : World) (e : En) (len : Nat) (K : Ex → St → Option Ret) (r : Ret) : Exit → Act → World → Prop := fun ex a w => ∃ x σ', ExR ex x ∧ K x σ' = some r ∧ AtR B0 w0 e σ'.nx [] σ' a w ∧ σ'.tm.length = len

theorem AtN.post {e : En} {n len : Nat} {K : St → Option Ret} {r : Ret} {b : Nat} (h : AtN B0 w0 e b (List.range n) (b + 256 * n) len K r a w) : ∃ σ', K σ' = some r ∧ AtR B0 w0 e σ'.nx [] σ' a w ∧ σ'.tm.length = len := by
  obtain ⟨σ', h1, ⟨C, L, h2, h3, h4⟩, h5, h6⟩ := h
  refine ⟨σ', h1, ⟨C, L, h2, h3, fun k hk => .inl ?_⟩, h6⟩
  rw [h5]
  rcases h4 k hk with h | ⟨j, hj, h7, h8⟩
  · omega
  · rw [List.mem_range] at hj; omega

theorem AtR.nx {e : En} {b nx : Nat} {done : List Nat} (h : AtR B0 w0 e b done σ a w) : AtR B0 w0 e b done { σ with nx := nx } a w := by
  obtain ⟨C, L, h1, h2, h3⟩ := h
  exact ⟨C, L, { below := h1.below, hB0 := h1.hB0, defers := h1.defers, len := h1.len, tm := h1.tm, ob := h1.ob, us := h1.us, nd := h1.nd, dj := h1.dj, own := h1.own, nw := h1.nw, nsz := h1.nsz }, { h2 with io := h2.io }, h3⟩

theorem rounds_ok {e : En} {len : Nat} {c : Code} {live out : List Nat} {r : Ret}
    (IH : ∀ {σ : St} {a : Act} {w : World} {K : Ex → St → Option Ret}, run Γ c σ K = some r → AtR B0 w0 e σ.nx [] σ a w → σ.tm.length = len → c.wp P (PostC B0 w0 e len K r) a w) :
    ∀ (n : Nat) {σ : St} {a : Act} {w : World} {K : Ex → St → Option Ret}, rounds (run Γ c) live out n σ K = some r → AtR B0 w0 e σ.nx [] σ a w → σ.tm.length = len → Code.rounds P c (PostC B0 w0 e len K r) n a w
  | 0, σ, a, w, K, hp, h, hl => by simp [rounds] at hp
  | n + 1, σ, a, w, K, hp, h, hl => by
    rw [rounds_succ]
    simp only [rounds] at hp
    refine wp_mono (IH hp h hl) (fun ex a' w' hpost => ?_)
    obtain ⟨x, σ', hx, hK, h1, h2⟩ := hpost
    have exit : ∀ x', ex ≠ .normal → ExR ex x' → K x' (canon out σ') = some r → Exit.then (Code.rounds P c (PostC B0 w0 e len K r) n) (PostC B0 w0 e len K r) ex a' w' := by
      intro x' hne hx' hK'
      have hq : PostC B0 w0 e len K r ex a' w' := ⟨x', canon out σ', hx', hK', (canon_ok out h1).1, (canon_ok out h1).2.trans h2⟩
      cases ex <;> first | exact absurd rfl hne | exact hq
    cases x with
    | nrm =>
      cases ex <;> first | exact hx.elim | skip
      exact rounds_ok IH n hK (canon_ok live h1).1 ((canon_ok live h1).2.trans h2)
    | ext i => exact exit (.ext i) (fun e => by subst e; exact hx.elim) hx hK
    | ret => exact exit .ret (fun e => by subst e; exact hx.elim) hx hK

theorem run_ok (hm : P.follows .mixedOrders = true) (hT : TysOk P Γ.ty) (hI : I B0 w0) (hΓ : FnsOk P I Γ) {e : En} {len : Nat} {r : Ret} : (c : Code) → plansOk Γ.plan c = true → LoopsOk Γ c → ∀ {σ : St} {a : Act} {w : World} {K : Ex → St → Option Ret}, run Γ c σ K = some r → AtR B0 w0 e σ.nx [] σ a w → σ.tm.length = len → c.wp P (PostC B0 w0 e len K r) a w
  | .skip, _, _, σ, a, w, K, hp, h, hl => wp_skip ⟨.nrm, σ, trivial, hp, h, hl⟩
  | .region id ops false, _, _, σ, a, w, K, hp, h, hl => by
    simp only [run] at hp
    refine wp_region (runOps_ok hT hI hΓ (b := σ.nx) (nx := σ.nx + 256 * ops.size) (len := len) (K := fun σ' => K .nrm σ') (all := List.range ops.size) (fun a' w' hn => ?_) (List.range ops.size) (done := []) h.nx List.nodup_range (fun _ _ h => (nomatch h)) (fun j hj => by simpa using hj) rfl hl hp)
    obtain ⟨σ', g1, g2, g3⟩ := hn.post
    exact ⟨.nrm, σ', trivial, g1, g2, g3⟩
  | .region id ops true, hpl, _, σ, a, w, K, hp, h, hl => by
    simp only [run] at hp
    split at hp
    · rename_i p ts ep
      simp only [plansOk, ep] at hpl
      refine draw_ok hm hT hI hΓ hpl (nx := σ.nx + 256 * ops.size) (K := fun σ' => K .nrm σ') h (fun a' w' hn => ?_) (fun c a w hq => ?_) hp
      · obtain ⟨σ', g1, g2, g3⟩ := hn.post
        exact ⟨.nrm, σ', trivial, g1, g2, g3.trans hl⟩
      · obtain ⟨x, _, hx, _⟩ := hq
        exact hx.elim
    · cases hp
  | .seq x y, hpl, hlo, σ, a, w, K, hp, h, hl => by
    simp only [plansOk, Bool.and_eq_true] at hpl
    simp only [run] at hp
    refine wp_seq (wp_mono (run_ok hm hT hI hΓ x hpl.1 hlo.1 hp h hl) (fun ex a' w' hpost => ?_))
    obtain ⟨z, σ', hx, hK, h1, h2⟩ := hpost
    cases z with
    | nrm =>
      cases ex <;> first | exact hx.elim | skip
      exact run_ok hm hT hI hΓ y hpl.2 hlo.2 hK h1 h2
    | ext i =>
      cases ex <;> first | exact hx.elim | skip
      exact ⟨.ext i, σ', hx, hK, h1, h2⟩
    | ret =>
      cases ex <;> first | exact hx.elim | skip
      exact ⟨.ret, σ', hx, hK, h1, h2⟩
  | .cond c x y, hpl, hlo, σ, a, w, K, hp, h, hl => by
    simp only [plansOk, Bool.and_eq_true] at hpl
    simp only [run] at hp
    split at hp
    · rename_i t ec
      obtain ⟨C, L, h1, h2, h3⟩ := h
      have hc := h1.ev c
      rw [ec] at hc
      refine wp_cond (t := t) hc.1 ?_
      cases t with
      | true => exact run_ok hm hT hI hΓ x hpl.1 hlo.1 hp ⟨C, L, h1, h2, h3⟩ hl
      | false => exact run_ok hm hT hI hΓ y hpl.2 hlo.2 hp ⟨C, L, h1, h2, h3⟩ hl
    · cases hp
  | .block id c, hpl, hlo, σ, a, w, K, hp, h, hl => by
    simp only [plansOk] at hpl
    simp only [run] at hp
    refine wp_block (wp_mono (run_ok hm hT hI hΓ c hpl hlo hp h hl) (fun ex a' w' hpost => ?_))
    obtain ⟨z, σ', hx, hK, h1, h2⟩ := hpost
    cases z with
    | nrm =>
      cases ex <;> first | exact hx.elim | skip
      exact ⟨.nrm, σ', hx, hK, h1, h2⟩
    | ext i =>
      cases ex <;> first | exact hx.elim | skip
      have hxi : _ = i := hx
      subst hxi
      simp only at hK
      simp only [Exit.inBlock]
      split at hK
      · rename_i hid
        rw [if_pos hid]
        exact ⟨.nrm, σ', trivial, hK, h1, h2⟩
      · rename_i hid
        rw [if_neg hid]
        exact ⟨.ext _, σ', rfl, hK, h1, h2⟩
    | ret =>
      cases ex <;> first | exact hx.elim | skip
      exact ⟨.ret, σ', hx, hK, h1, h2⟩
  | .loop c, hpl, hlo, σ, a, w, K, hp, h, hl => by
    simp only [plansOk] at hpl
    simp only [run] at hp
    split at hp
    · rename_i n en
      have body : ∀ m, rounds (run Γ c) (Γ.hint n).1 (Γ.hint n).2 m (enter Γ n σ) K = some r → (Code.loop c).wp P (PostC B0 w0 e len K r) a w := fun m hm' =>
        wp_loop_rounds m (rounds_ok (fun hp' h' hl' => run_ok hm hT hI hΓ c hpl hlo.2 hp' h' hl') m hm' (enter_ok n h).1 ((enter_ok n h).2.trans hl))
      split at hp
      · rename_i F eF
        obtain ⟨m, hm'⟩ := hlo.1 n F en eF _ K r hp
        exact body m hm'
      · exact body Γ.fuel hp
    · cases hp
  | .exit id, _, _, σ, a, w, K, hp, h, hl => wp_exit ⟨.ext id, σ, rfl, hp, h, hl⟩
  | .ret, _, _, σ, a, w, K, hp, h, hl => wp_ret ⟨.ret, σ, trivial, hp, h, hl⟩
  | .goto _, _, _, σ, a, w, K, hp, h, hl => by simp [run] at hp
  | .label _, _, _, σ, a, w, K, hp, h, hl => by simp [run] at hp
  | .scope _, _, _, σ, a, w, K, hp, h, hl => by simp [run] at hp
end
end Go.Ev
end
section
/- A function: it keeps the contract that the evaluator reckons. -/
set_option linter.unusedVariables false
namespace Go.Ev
open Go.RowKit

theorem CcR.nil0 {w : World} : (cc : Cc) → {d : V} → {v : Value} → {O M H : List Nat} → CellR w d v O M H → ∃ M', CellR w (cc.nil0 d) v O M' H ∧ ∀ x ∈ M', x ∈ M := by
  intro cc d v O M H h
  unfold Cc.nil0
  split
  · obtain ⟨h1, rfl, rfl⟩ := h
    exact ⟨[], ⟨.inl ⟨rfl, rfl, none, 0, h1, fun _ => ⟨rfl, rfl⟩⟩, rfl, rfl⟩, fun _ h => (nomatch h)⟩
  · exact ⟨M, h, fun _ h => h⟩
theorem nil0_ok {w : World} : (r : Rw) → {ds : List V} → {vs : List Value} → {O M H : List Nat} → CellsR w ds vs O M H → ∃ M', CellsR w (r.nil0 ds) vs O M' H ∧ ∀ x ∈ M', x ∈ M
  | .one c, [], vs, O, M, H, h => ⟨M, h, fun _ h => h⟩
  | .one c, [d], vs, O, M, H, h => by
    obtain ⟨v, vs', O1, O2, M1, M2, H1, H2, rfl, rfl, rfl, rfl, h1, h2⟩ := h
    obtain ⟨M', g1, g2⟩ := CcR.nil0 c h1
    exact ⟨M' ++ M2, ⟨v, vs', O1, O2, M', M2, H1, H2, rfl, rfl, rfl, rfl, g1, h2⟩, fun x hx => by
      rcases List.mem_append.1 hx with hx | hx
      · simp [g2 x hx]
      · simp [hx]⟩
  | .one c, _ :: _ :: _, vs, O, M, H, h => ⟨M, h, fun _ h => h⟩
  | .cons c r, [], vs, O, M, H, h => ⟨M, h, fun _ h => h⟩
  | .cons c r, d :: ds, vs, O, M, H, h => by
    obtain ⟨v, vs', O1, O2, M1, M2, H1, H2, rfl, rfl, rfl, rfl, h1, h2⟩ := h
    obtain ⟨M', g1, g2⟩ := CcR.nil0 c h1
    obtain ⟨M3, g3, g4⟩ := nil0_ok r h2
    exact ⟨M' ++ M3, ⟨v, vs', O1, O2, M', M3, H1, H2, rfl, rfl, rfl, rfl, g1, g3⟩, fun x hx => by
      rcases List.mem_append.1 hx with hx | hx
      · simp [g2 x hx]
      · simp [g4 x hx]⟩

section
variable {P : Program} {Γ : Env} {I : Nat → World → Prop} {B0 : Nat} {w0 : World} {σ : St} {a : Act} {w : World} {C : Cx} {L : Nat → List Nat}

/-- What goes out, without regard to which of it may be written on. -/
structure Gone (B0 : Nat) (w0 : World) (σ : St) (a : Act) (w : World) (C : Cx) (L : Nat → List Nat) (ob' : Obs) (O M H : List Nat) (C' : Cx) (L' : Nat → List Nat) : Prop where
  rel : Rel B0 w0 { σ with ob := ob' } a w C' L'
  le : C.Le w C' w
  eqn : ∀ k, L' k = L k ∨ L' k = []
  nn : ∀ x, C'.N x → C.N x ∨ ∃ j, x ∈ L j
  nd : O.Nodup
  from_ : ∀ x ∈ O, ∃ k, x ∈ L k
  off : ∀ x ∈ O, ∀ k, x ∉ L' k
  hM : ∀ x ∈ M, C'.N x
  hH : ∀ x ∈ H, x ∈ O ∧ ¬ C'.N x
theorem Handed.gone {ob' : Obs} {Ks O M H : List Nat} {C' : Cx} {L' : Nat → List Nat} (h : Handed B0 w0 σ a w C L ob' Ks O M H C' L') {M' : List Nat} (hM : ∀ x ∈ M', x ∈ M) : Gone B0 w0 σ a w C L ob' O M' H C' L' :=
  ⟨h.rel, h.le, h.eqn, h.nn, h.nd, h.from_, h.off, fun x hx => h.hM x (hM x hx), fun x hx => (h.hH x hx).2⟩
theorem Gone.sub {ob' : Obs} {O M H : List Nat} {C' : Cx} {L' : Nat → List Nat} (h : Gone B0 w0 σ a w C L ob' O M H C' L') : ∀ k x, x ∈ L' k → x ∈ L k := fun k x hx => by
  rcases h.eqn k with h | h
  · rw [h] at hx; exact hx
  · rw [h] at hx; cases hx
theorem Gone.refl (h : Rel B0 w0 σ a w C L) : Gone B0 w0 σ a w C L σ.ob [] [] [] C L :=
  (Handed.refl h (M := []) (fun _ h => (nomatch h))).gone (fun _ h => h)
theorem Gone.trans {ob1 ob2 : Obs} {O1 O2 M1 M2 H1 H2 : List Nat} {C1 C2 : Cx} {L1 L2 : Nat → List Nat} (h1 : Gone B0 w0 σ a w C L ob1 O1 M1 H1 C1 L1) (h2 : Gone B0 w0 { σ with ob := ob1 } a w C1 L1 ob2 O2 M2 H2 C2 L2) :
    Gone B0 w0 σ a w C L ob2 (O1 ++ O2) (M1 ++ M2) (H1 ++ H2) C2 L2 := by
  refine ⟨h2.rel, h1.le.trans h2.le, fun k => ?_, fun x hx => ?_, ?_, fun x hx => ?_, fun x hx k hk => ?_, fun x hx => ?_, fun x hx => ?_⟩
  · rcases h2.eqn k with h | h
    · rw [h]; exact h1.eqn k
    · exact .inr h
  · rcases h2.nn x hx with h | ⟨j, h⟩
    · exact h1.nn x h
    · exact .inr ⟨j, h1.sub j x h⟩
  · rw [List.nodup_append]
    refine ⟨h1.nd, h2.nd, fun x hx y hy e => ?_⟩
    subst e
    obtain ⟨k, hk⟩ := h2.from_ x hy
    exact h1.off x hx k hk
  · rcases List.mem_append.1 hx with hx | hx
    · exact h1.from_ x hx
    · obtain ⟨k, hk⟩ := h2.from_ x hx
      exact ⟨k, h1.sub k x hk⟩
  · rcases List.mem_append.1 hx with hx | hx
    · exact h1.off x hx k (h2.sub k x hk)
    · exact h2.off x hx k hk
  · rcases List.mem_append.1 hx with hx | hx
    · exact h2.le.N x (h1.hM x hx)
    · exact h2.hM x hx
  · rcases List.mem_append.1 hx with hx | hx
    · obtain ⟨g2, g3⟩ := h1.hH x hx
      refine ⟨by simp [g2], fun hN => ?_⟩
      rcases h2.nn x hN with h | ⟨j, h⟩
      · exact g3 h
      · exact h1.off x g2 j h
    · obtain ⟨g2, g3⟩ := h2.hH x hx
      exact ⟨by simp [g2], g3⟩

theorem handV_ok (h : Rel B0 w0 σ a w C L) {ty : Ty} {v : V} {cv : Value} (hv : VR C w v cv) {d : V} {ob' : Obs} (hh : handV ty v σ.ob = some (d, ob')) : ∃ O M H C' L', ArgR w d cv O M H ∧ Gone B0 w0 σ a w C L ob' O M H C' L' := by
  have cell : (∀ cs, d ≠ .io cs) → (∀ cs, d ≠ .a cs) → handCell v σ.ob = some (d, ob') → ∃ O M H C' L', ArgR w d cv O M H ∧ Gone B0 w0 σ a w C L ob' O M H C' L' := by
    intro h1 h2 hh
    obtain ⟨O, M, H, C', L', g1, g2⟩ := handCell_ok h hv hh (Ks := touchC v) (fun k hk => by rcases hk with rfl | ⟨_, _, rfl⟩ <;> simp [touchC])
    refine ⟨O, M, H, C', L', ?_, g2.gone (fun _ h => h)⟩
    unfold ArgR
    split
    · exact absurd rfl (h1 _)
    · exact absurd rfl (h2 _)
    · exact g1
  have noio : ∀ {v d : V} {ob ob' : Obs}, handCell v ob = some (d, ob') → (∀ cs, d ≠ .io cs) ∧ ∀ cs, d ≠ .a cs := by
    intro v d ob ob' hh
    unfold handCell at hh
    split at hh
    · cases hh; exact ⟨by simp, by simp⟩
    · cases hh; exact ⟨by simp, by simp⟩
    · cases hh; exact ⟨by simp, by simp⟩
    · split at hh <;> cases hh <;> exact ⟨by simp, by simp⟩
    · split at hh <;> cases hh <;> exact ⟨by simp, by simp⟩
    · cases hh
  unfold handV at hh
  split at hh
  · rename_i cs
    split at hh
    · rename_i ds ob1 e1
      cases hh
      obtain ⟨vs, rfl, h2⟩ := hv
      obtain ⟨O, M, H, C', L', g1, g2⟩ := handCells_ok cs h h2 e1 (Ks := cs.flatMap touchC) (fun c hc k hk => List.mem_flatMap.2 ⟨c, hc, by rcases hk with rfl | ⟨_, _, rfl⟩ <;> simp [touchC]⟩)
      obtain ⟨M', g3, g4⟩ := nil0_ok ty.row g1
      exact ⟨O, M', H, C', L', ⟨vs, rfl, g3⟩, g2.gone g4⟩
    · cases hh
  · cases hh
    exact ⟨[], [], [], C, L, ⟨.inl ⟨rfl, rfl, none, 0, hv, fun _ => ⟨rfl, rfl⟩⟩, rfl, rfl⟩, Gone.refl h⟩
  · rename_i k
    split at hh
    · rename_i cs eo
      split at hh
      · rename_i ds ob1 e1
        cases hh
        have eo' : σ.obj k = .box cs := eo
        obtain ⟨b, bvs, ty', q1, q2, q3, q4⟩ := h.box eo'
        have hd := Handed.del h (k := k) (O := [b]) (M := []) (H := [b]) q2.symm (fun _ h => (nomatch h)) (fun x hx => by simp at hx; subst hx; exact ⟨by rw [q2]; simp, h.nm k _ (by rw [eo']; rfl) (by rw [q2]; rfl)⟩) (fun x hx => .inl hx)
        obtain ⟨O1, M1, H1, C1, L1, g1, g2⟩ := handCells_ok cs hd.rel (q4.le hd.le) e1 (Ks := cs.flatMap touchC) (fun c hc k hk => List.mem_flatMap.2 ⟨c, hc, by rcases hk with rfl | ⟨_, _, rfl⟩ <;> simp [touchC]⟩)
        exact ⟨[b] ++ O1, [] ++ M1, [b] ++ H1, C1, L1, ⟨b, bvs, ty', O1, H1, hv.2.2 b q1, q3, g1, rfl, rfl⟩, (hd.trans g2).gone (fun _ h => h)⟩
      · cases hh
    · cases hh
  · exact cell (noio hh).1 (noio hh).2 hh

theorem handB_ok (h : Rel B0 w0 σ a w C L) {v : V} {cv : Value} (hv : VR C w v cv) {d : V} {ob' : Obs} (hh : handB v σ.ob = some (d, ob')) : ∃ O M H C' L', ArgR w d cv O M H ∧ Gone B0 w0 σ a w C L ob' O M H C' L' := by
  unfold handB at hh
  split at hh
  · rename_i cs
    split at hh
    · rename_i ds ob1 e1
      cases hh
      obtain ⟨vs, rfl, h2⟩ := hv
      obtain ⟨O, M, H, C', L', g1, g2⟩ := handCells_ok cs h h2 e1 (Ks := cs.flatMap touchC) (fun c hc k hk => List.mem_flatMap.2 ⟨c, hc, by rcases hk with rfl | ⟨_, _, rfl⟩ <;> simp [touchC]⟩)
      exact ⟨O, M, H, C', L', ⟨vs, rfl, g1⟩, g2.gone (fun _ h => h)⟩
    · cases hh
  · rename_i k
    split at hh
    · rename_i cs eo
      split at hh
      · rename_i ds ob1 e1
        cases hh
        have eo' : σ.obj k = .box cs := eo
        obtain ⟨b, bvs, ty', q1, q2, q3, q4⟩ := h.box eo'
        have hd := Handed.del h (k := k) (O := [b]) (M := []) (H := [b]) q2.symm (fun _ h => (nomatch h)) (fun x hx => by simp at hx; subst hx; exact ⟨by rw [q2]; simp, h.nm k _ (by rw [eo']; rfl) (by rw [q2]; rfl)⟩) (fun x hx => .inl hx)
        obtain ⟨O1, M1, H1, C1, L1, g1, g2⟩ := handCells_ok cs hd.rel (q4.le hd.le) e1 (Ks := cs.flatMap touchC) (fun c hc k hk => List.mem_flatMap.2 ⟨c, hc, by rcases hk with rfl | ⟨_, _, rfl⟩ <;> simp [touchC]⟩)
        exact ⟨[b] ++ O1, [] ++ M1, [b] ++ H1, C1, L1, ⟨b, bvs, ty', O1, H1, hv.2.2 b q1, q3, g1, rfl, rfl⟩, (hd.trans g2).gone (fun _ h => h)⟩
      · cases hh
    · cases hh
  · rename_i k
    obtain ⟨O, M, H, C', L', g1, g2⟩ := handCell_ok h hv hh (Ks := [k]) (fun j hj => by rcases hj with hj | ⟨_, _, hj⟩ <;> cases hj; simp)
    have hno : (∀ cs, d ≠ .io cs) ∧ ∀ cs, d ≠ .a cs := by
      simp only [handCell] at hh
      split at hh <;> cases hh <;> exact ⟨by simp, by simp⟩
    refine ⟨O, M, H, C', L', ?_, g2.gone (fun _ h => h)⟩
    unfold ArgR
    split
    · exact absurd rfl (hno.1 _)
    · exact absurd rfl (hno.2 _)
    · exact g1
  · cases hh
theorem handBs_ok : ∀ (us : List V) {σ : St} {C : Cx} {L : Nat → List Nat} (h : Rel B0 w0 σ a w C L) {vs : List Value} (hv : VsR C w us vs) {ds : List V} {ob' : Obs} (hh : handBs us σ.ob = some (ds, ob')), ∃ O M H C' L', ArgsR w ds vs O M H ∧ Gone B0 w0 σ a w C L ob' O M H C' L'
  | [], σ, C, L, h, vs, hv, ds, ob', hh => by
    simp only [handBs, Option.some.injEq, Prod.mk.injEq] at hh
    obtain ⟨rfl, rfl⟩ := hh
    simp only [VsR] at hv
    exact ⟨[], [], [], C, L, ⟨hv, rfl, rfl, rfl⟩, Gone.refl h⟩
  | u :: us, σ, C, L, h, vs, hv, ds, ob', hh => by
    obtain ⟨v, vs', rfl, h2, h3⟩ := hv
    simp only [handBs] at hh
    split at hh
    · cases hh
    · rename_i d ob1 e1
      split at hh
      · cases hh
      · rename_i ds2 ob2 e2
        cases hh
        obtain ⟨O1, M1, H1, C1, L1, g1, g2⟩ := handB_ok h h2 e1
        obtain ⟨O2, M2, H2, C2, L2, g3, g4⟩ := handBs_ok us g2.rel (h3.le g2.le) e2
        exact ⟨O1 ++ O2, M1 ++ M2, H1 ++ H2, C2, L2, ⟨v, vs', O1, O2, M1, M2, H1, H2, rfl, rfl, rfl, rfl, g1, g3⟩, g2.trans g4⟩

def resOne (tmps : Array Value) : ResultVar → Sem Value
  | .tmp t => pure (tmps.getD t undef)
  | .cell a t => do loadVar t (← asAddr (tmps.getD a undef))
theorem outV_ok (hT : TysOk P Γ.ty) (h : Rel B0 w0 σ a w C L) {x : ResultVar} {v : V} (hp : outV Γ σ x = some v) : ∃ cv, (resOne a.tmps x).run P w = .ok cv w ∧ VR C w v cv := by
  cases x with
  | tmp t =>
    simp only [outV, Option.some.injEq] at hp
    subst hp
    exact ⟨_, rfl, h.ev (.tmp t)⟩
  | cell ad t =>
    simp only [outV] at hp
    obtain ⟨cv, b, h1, _, h3⟩ := ld hT h hp
    refine ⟨cv, ?_, h1⟩
    have h4 := h3 w rfl
    simp only [execOp, resultOper] at h4
    simp only [resOne]
    have e : a.eval (.tmp ad) = a.tmps.getD ad undef := rfl
    rw [e] at h4
    generalize a.tmps.getD ad undef = pv at h4 ⊢
    cases pv with
    | pointer q =>
      cases q with
      | some q =>
        simp only [Instr.loadAt, Instr.sureAddr, Sem.run_bind, Sem.run_pure, Result.andThen_ok, asAddr] at h4 ⊢
        cases hr : (loadVar t q).run P w with
        | ok c w2 =>
          rw [hr] at h4
          simp only [Result.andThen_ok, Result.ok.injEq, Next.value.injEq] at h4
          rw [h4.1, h4.2]
        | halt _ _ => rw [hr] at h4; simp [Result.andThen] at h4
      | none => simp [Instr.loadAt, Instr.sureAddr] at h4
    | _ => simp [Instr.loadAt, Instr.sureAddr] at h4
theorem outs_ok (hT : TysOk P Γ.ty) (h0 : Rel B0 w0 σ a w C L) : ∀ (rs : List ResultVar) (ts : List TypeId) {ob : Obs} {C1 : Cx} {L1 : Nat → List Nat} (h : Rel B0 w0 { σ with ob := ob } a w C1 L1) (hle : C.Le w C1 w) {ds : List V} {ob' : Obs} (hp : outs Γ σ rs ts ob = some (ds, ob')),
    ∃ cvs O M H C' L', (rs.mapM (resOne a.tmps)).run P w = .ok cvs w ∧ ArgsR w ds cvs O M H ∧ Gone B0 w0 { σ with ob := ob } a w C1 L1 ob' O M H C' L'
  | [], ts, ob, C1, L1, h, hle, ds, ob', hp => by
    simp only [outs, Option.some.injEq, Prod.mk.injEq] at hp
    obtain ⟨rfl, rfl⟩ := hp
    exact ⟨[], [], [], [], C1, L1, rfl, ⟨rfl, rfl, rfl, rfl⟩, Gone.refl h⟩
  | x :: rs, [], ob, C1, L1, h, hle, ds, ob', hp => by simp [outs] at hp
  | x :: rs, ti :: ts, ob, C1, L1, h, hle, ds, ob', hp => by
    simp only [outs] at hp
    split at hp
    · rename_i ty _
      split at hp
      · rename_i v ev
        split at hp
        · cases hp
        · rename_i d ob1 e1
          split at hp
          · cases hp
          · rename_i ds2 ob2 e2
            cases hp
            obtain ⟨cv, q1, q2⟩ := outV_ok hT h0 ev
            obtain ⟨O1, M1, H1, C2, L2, g1, g2⟩ := handV_ok h (q2.le hle) e1
            obtain ⟨cvs, O2, M2, H2, C3, L3, r1, r2, r3⟩ := outs_ok hT h0 rs ts g2.rel (hle.trans g2.le) e2
            refine ⟨cv :: cvs, O1 ++ O2, M1 ++ M2, H1 ++ H2, C3, L3, ?_, ⟨cv, cvs, O1, O2, M1, M2, H1, H2, rfl, rfl, rfl, rfl, g1, r2⟩, g2.trans r3⟩
            simp [List.mapM_cons, q1, r1]
      · cases hp
    · cases hp

def retOf : List Value → Value
  | [c] => c
  | cs => .tuple ⟨cs⟩
theorem results_eq (fn : Func) (tmps : Array Value) {cvs : List Value} (h : (fn.results.toList.mapM (resOne tmps)).run P w = .ok cvs w) : (results fn tmps).run P w = .ok (retOf cvs) w := by
  have e : results fn tmps = (do
      let vs ← fn.results.mapM (resOne tmps)
      pure (if h : vs.size = 1 then vs[0] else .tuple vs)) := by
    unfold results
    congr 1
  rw [e, Array.mapM_eq_mapM_toList]
  simp only [Sem.run_bind, map_eq_pure_bind, h, Result.andThen_ok, Sem.run_pure]
  match cvs with
  | [] => rfl
  | [c] => rfl
  | _ :: _ :: _ => rfl

/-! ### What a result shows -/
theorem Cell.fresh {v : V} {c : Value} {O M H : List Nat} (h : CellR w v c O M H) (hf : v.frsh1 = true) : ∃ M', CellR w v c O M' H ∧ ∀ x ∈ M', x ∈ M ∧ x ∈ O := by
  cases v with
  | s u => exact ⟨[], ⟨h.1, h.2⟩, fun _ h => (nomatch h)⟩
  | nl => exact ⟨[], ⟨h.1, h.2⟩, fun _ h => (nomatch h)⟩
  | l o r xs =>
    cases o with
    | no => simp [V.frsh1] at hf
    | deep =>
      obtain ⟨h1, rfl, rfl⟩ := h
      exact ⟨O.drop 1, ⟨h1, rfl, rfl⟩, fun x hx => ⟨hx, List.mem_of_mem_drop hx⟩⟩
    | own => exact ⟨[], ⟨h.1, rfl, h.2.2⟩, fun _ h => (nomatch h)⟩
    | top =>
      obtain ⟨F, h1, rfl, rfl, rfl⟩ := h
      have hr : r.flat = true := hf
      refine ⟨F.drop 1, ⟨F, h1, rfl, rfl, rfl⟩, fun x hx => ?_⟩
      exfalso
      rcases h1 with ⟨_, h2, _⟩ | ⟨b, o, cap, F', _, _, h3, _, _, h4⟩
      · rw [h2] at hx; cases hx
      · have := (RowsR.flat (e' := true) hr h4).1
        rw [h3, this] at hx; cases hx
  | _ => simp [V.frsh1] at hf
theorem Cells.fresh : ∀ {cs : List V} {vs : List Value} {O M H : List Nat} (h : CellsR w cs vs O M H) (hf : cs.all V.frsh1 = true), ∃ M', CellsR w cs vs O M' H ∧ ∀ x ∈ M', x ∈ M ∧ x ∈ O
  | [], _, _, _, _, h, _ => ⟨_, h, fun x hx => by rw [h.2.2.1] at hx; cases hx⟩
  | c :: cs, _, _, _, _, ⟨v, vs', O1, O2, M1, M2, H1, H2, e1, e2, e3, e4, h1, h2⟩, hf => by
    simp only [List.all_cons, Bool.and_eq_true] at hf
    obtain ⟨M3, g1, g2⟩ := Cell.fresh h1 hf.1
    obtain ⟨M4, g3, g4⟩ := Cells.fresh h2 hf.2
    refine ⟨M3 ++ M4, ⟨v, vs', O1, O2, M3, M4, H1, H2, e1, e2, rfl, e4, g1, g3⟩, fun x hx => ?_⟩
    rw [e2, e3]
    rcases List.mem_append.1 hx with hx | hx
    · simp [g2 x hx]
    · simp [g4 x hx]
theorem Arg.fresh {v : V} {c : Value} {O M H : List Nat} (h : ArgR w v c O M H) (hf : v.frsh = true) : ∃ M', ArgR w v c O M' H ∧ ∀ x ∈ M', x ∈ M ∧ x ∈ O := by
  unfold ArgR at h
  split at h
  · obtain ⟨b, vs, ty, O', H', h1, h2, h3, rfl, rfl⟩ := h
    obtain ⟨M', g1, g2⟩ := Cells.fresh h3 hf
    exact ⟨M', ⟨b, vs, ty, O', H', h1, h2, g1, rfl, rfl⟩, fun x hx => ⟨(g2 x hx).1, by simp [(g2 x hx).2]⟩⟩
  · obtain ⟨vs, h1, h2⟩ := h
    obtain ⟨M', g1, g2⟩ := Cells.fresh h2 hf
    exact ⟨M', ⟨vs, h1, g1⟩, g2⟩
  · rename_i hn1 hn2
    have hf' : v.frsh1 = true := by
      unfold V.frsh at hf
      split at hf
      · exact absurd rfl (hn2 _)
      · exact absurd rfl (hn1 _)
      · exact hf
    obtain ⟨M', g1, g2⟩ := Cell.fresh h hf'
    refine ⟨M', ?_, g2⟩
    unfold ArgR
    split
    · exact absurd rfl (hn1 _)
    · exact absurd rfl (hn2 _)
    · exact g1
theorem Args.fresh : ∀ {cs : List V} {vs : List Value} {O M H : List Nat} (h : ArgsR w cs vs O M H) (hf : cs.all V.frsh = true), ∃ M', ArgsR w cs vs O M' H ∧ ∀ x ∈ M', x ∈ M ∧ x ∈ O
  | [], _, _, _, _, h, _ => ⟨_, h, fun x hx => by rw [h.2.2.1] at hx; cases hx⟩
  | c :: cs, _, _, _, _, ⟨v, vs', O1, O2, M1, M2, H1, H2, e1, e2, e3, e4, h1, h2⟩, hf => by
    simp only [List.all_cons, Bool.and_eq_true] at hf
    obtain ⟨M3, g1, g2⟩ := Arg.fresh h1 hf.1
    obtain ⟨M4, g3, g4⟩ := Args.fresh h2 hf.2
    refine ⟨M3 ++ M4, ⟨v, vs', O1, O2, M3, M4, H1, H2, e1, e2, rfl, e4, g1, g3⟩, fun x hx => ?_⟩
    rw [e2, e3]
    rcases List.mem_append.1 hx with hx | hx
    · simp [g2 x hx]
    · simp [g4 x hx]
theorem Ret.fresh {v : V} {c : Value} {O M H : List Nat} (h : RetR w v c O M H) (hf : frshRet v = true) : ∃ M', RetR w v c O M' H ∧ ∀ x ∈ M', x ∈ M ∧ x ∈ O := by
  unfold RetR at h
  split at h
  · obtain ⟨vs, h1, h2⟩ := h
    obtain ⟨M', g1, g2⟩ := Args.fresh h2 hf
    exact ⟨M', ⟨vs, h1, g1⟩, g2⟩
  · rename_i hn
    have hf' : v.frsh = true := by
      unfold frshRet at hf
      split at hf
      · exact absurd rfl (hn _)
      · exact hf
    obtain ⟨M', g1, g2⟩ := Arg.fresh h hf'
    refine ⟨M', ?_, g2⟩
    unfold RetR
    split
    · exact absurd rfl (hn _)
    · exact g1

theorem ret_of {ds : List V} {cvs : List Value} {O M H : List Nat} (h : ArgsR w ds cvs O M H) : RetR w (oneOf ds) (retOf cvs) O M H := by
  match ds, h with
  | [], h => 
    obtain ⟨rfl, h2⟩ := h
    exact ⟨[], rfl, rfl, h2⟩
  | [d], h =>
    obtain ⟨v, vs', O1, O2, M1, M2, H1, H2, rfl, rfl, rfl, rfl, h1, rfl, rfl, rfl, rfl⟩ := h
    simp only [List.append_nil]
    have nt : (∀ us, d ≠ .t us) → RetR w (oneOf [d]) v O1 M1 H1 := by
      intro hn
      have e : oneOf [d] = d := by cases d <;> first | rfl | exact absurd rfl (hn _)
      rw [e]
      unfold RetR
      split
      · exact absurd rfl (hn _)
      · exact h1
    cases d with
    | t us =>
      obtain ⟨_, rfl, rfl⟩ := h1
      exact ⟨trivial, rfl, rfl⟩
    | _ => exact nt (by simp)
  | d :: d2 :: ds, h =>
    obtain ⟨v, vs', O1, O2, M1, M2, H1, H2, rfl, e2, e3, e4, h1, h2⟩ := h
    obtain ⟨v2, vs2, O3, O4, M3, M4, H3, H4, rfl, e5, e6, e7, h3, h4⟩ := h2
    have e : oneOf (d :: d2 :: ds) = .t (d :: d2 :: ds) := by cases d <;> rfl
    rw [e]
    exact ⟨v :: v2 :: vs2, rfl, v, _, O1, O2, M1, M2, H1, H2, rfl, e2, e3, e4, h1, v2, _, O3, O4, M3, M4, H3, H4, rfl, e5, e6, e7, h3, h4⟩

theorem ptrs_vs {C : Cx} : ∀ (ws : List V) {ds : List V} {vs : List Value}, VsR C w ds vs → VsR C w (ptrs ws ds) (ptrs ws vs)
  | [], ds, vs, h => by cases ds <;> simp [ptrs, VsR]
  | u :: ws, [], vs, h => by simp only [VsR] at h; subst h; simp [ptrs, VsR]
  | u :: ws, d :: ds, _, ⟨v, vs', h1, h2, h3⟩ => by
    subst h1
    have ih := ptrs_vs ws h3
    simp only [ptrs]
    cases u.back with
    | false => exact ih
    | true => exact ⟨v, _, rfl, h2, ih⟩

/-- A frame with nothing of its own. -/
theorem Rel.init {N : Nat → Prop} {tmps : Array Value} {n nx : Nat} (hb : Below B0 w0 w) (hB : B0 ≤ w.heap.size) (hn : ∀ x, N x → x < w.heap.size) (hl : tmps.size = n) : Rel B0 w0 { tm := List.replicate n .x, ob := [], nx := nx } { tmps := tmps, defers := [] } w ⟨fun _ => none, fun _ => False, N, fun _ => none⟩ (fun _ => []) := by
  refine { below := hb, hB0 := hB, defers := rfl, len := by simp [hl], tm := fun i v hv => ?_, ob := fun k => rfl, us := fun k h => absurd rfl h, nd := fun _ => List.nodup_nil, dj := fun _ _ _ _ h => (nomatch h), own := fun _ _ h => (nomatch h), nw := fun k b hm => ?_, nsz := hn }
  · rw [List.getElem?_replicate] at hv
    split at hv
    · rename_i hi
      cases hv
      have hi' : i < tmps.size := by omega
      exact ⟨_, Array.getElem?_eq_getElem hi', trivial⟩
    · cases hv
  · exact absurd hm.mem (by simp)

theorem evF_ok (hm : P.follows .mixedOrders = true) (hT : TysOk P Γ.ty) (hΓ : FnsOk P I Γ) {g : FuncId} {fn : Func} (hg : P.funcs[g]? = some fn) (hname : (fn.name == "runtime.NumGoroutine") = false) {c : Code} (hc : fn.body = some c) (hpl : plansOk Γ.plan c = true) (hlo : LoopsOk Γ c) {fresh : Bool} : OkFn P I g fresh (evF Γ fresh fn) := by
  refine ⟨fun args w => ?_, ?_⟩
  · have hname' : ¬ fn.name = "runtime.NumGoroutine" := by simpa using hname
    simp [callFunc, hg, hname', hc]
  intro ws K r hev B0 w0 w N vs O M H hI hbel hB0 hA hnd hown hM hH hNs
  unfold evF at hev
  rw [hc] at hev
  simp only at hev
  cases hs : (ws.all V.slim && Nat.ble ws.length fn.ntmps) with
  | false => rw [hs] at hev; cases hev
  | true =>
    rw [hs] at hev
    simp only [Bool.and_eq_true] at hs
    have hlen : ws.length ≤ fn.ntmps := Nat.le_of_ble_eq_true hs.2
    have hvl : ∀ {cs : List V} {vs : List Value} {O M H : List Nat}, ArgsR w cs vs O M H → cs.length = vs.length := by
      intro cs
      induction cs with
      | nil => intro vs O M H h; rw [h.1]; rfl
      | cons c cs ih =>
        intro vs O M H h
        obtain ⟨v, vs', _, _, _, _, _, _, rfl, _, _, _, _, h2⟩ := h
        simp [ih h2]
    have hvl := hvl hA
    refine calls_of_wp hg hc ?_
    have hsz : ((⟨vs⟩ : Array Value) ++ Array.replicate (fn.ntmps - (⟨vs⟩ : Array Value).size) undef).size = fn.ntmps := by
      simp; omega
    have h0 := Rel.init (nx := 24 * ws.length) hbel hB0 hNs hsz
    cases et : takeAll 0 ws [] with
    | mk ds ob =>
      rw [et] at hev
      simp only [cond_true] at hev
      obtain ⟨C1, L1, t1, t2⟩ := takeAll_ok ws h0 (b := 0) (fun k _ _ h => h) hs.1 hA ⟨hM, hH, hnd, hown, fun x _ k hk => (nomatch hk)⟩ et
      have hdl := t2.length
      -- the frame at the start
      have hR : Rel B0 w0 { tm := ds ++ List.replicate (fn.ntmps - ws.length) .x, ob := ob, nx := 24 * ws.length, io := ptrs ws ds } { tmps := (⟨vs⟩ : Array Value) ++ Array.replicate (fn.ntmps - (⟨vs⟩ : Array Value).size) undef, defers := [] } w C1 L1 := by
        have hr := t1.rel
        refine { below := hr.below, hB0 := hr.hB0, defers := rfl, len := by rw [hsz]; simp; omega, tm := fun i v hv => ?_, ob := hr.ob, us := hr.us, nd := hr.nd, dj := hr.dj, own := hr.own, nw := hr.nw, nsz := hr.nsz }
        rw [List.getElem?_append] at hv
        split at hv
        · rename_i hi
          obtain ⟨cv, g1, g2⟩ := t2.get hv
          refine ⟨cv, ?_, g2⟩
          have hlt : i < vs.length := by omega
          rw [Array.getElem?_append_left (by simpa using hlt)]
          simpa using g1
        · rename_i hi
          rw [List.getElem?_replicate] at hv
          split at hv
          · rename_i hi2
            cases hv
            exact ⟨_, Array.getElem?_eq_getElem (by rw [hsz]; omega), trivial⟩
          · cases hv
      let e : En := ⟨w, (· ∈ O), (· ∈ H), N, ptrs ws vs⟩
      have hF : Fr e { tm := ds ++ List.replicate (fn.ntmps - ws.length) .x, ob := ob, nx := 24 * ws.length, io := ptrs ws ds } w C1 L1 := by
        refine ⟨ptrs_vs ws t2, fun x hx => t1.le.N x hx, fun x _ _ => rfl, fun k x hx hn => ?_, fun k x hx => ?_, fun x hx => ?_, Nat.le_refl _⟩
        · rcases t1.hd k x hx hn with h | h
          · cases h
          · exact .inl h
        · rcases t1.ow k x hx with h | h
          · cases h
          · exact .inl h
        · rw [t1.N] at hx; exact .inl hx
      refine wp_mono (run_ok (e := e) (len := fn.ntmps) hm hT hI hΓ c hpl hlo hev ⟨C1, L1, hR, hF, fun k hk => ?_⟩ (by simp; omega)) (fun ex a' w' hpost => ?_)
      · rcases t1.U k hk with h | h
        · exact h.elim
        · exact .inl (by simp at h ⊢; omega)
      obtain ⟨x, σ', hx, hK, ⟨C2, L2, p1, p2, _⟩, _⟩ := hpost
      have key : (match finish Γ fn σ' with
            | some q => bif !fresh || (frshRet q.1 && q.2.all V.frsh) then K q else none
            | none => none) = some r → a'.defers = [] ∧ ∃ v, (results fn a'.tmps).run P w' = .ok v w' ∧ ∃ q, K q = some r ∧ Back B0 w0 w N O (ptrs ws vs) fresh q v w' := by
        intro hK
        refine ⟨p1.defers, ?_⟩
        split at hK
        · rename_i q hq
          unfold finish at hq
          split at hq
          · cases hq
          · rename_i ds2 ob2 eo
            split at hq
            · cases hq
            · rename_i es ob3 eh
              cases hq
              obtain ⟨cvs, O1, M1, H1, C3, L3, r1, r2, r3⟩ := outs_ok hT p1 fn.results.toList fn.resultTypes.toList p1 (Cx.Le.refl C2 w') eo
              obtain ⟨O2, M2, H2, C4, L4, s1, s2⟩ := handBs_ok σ'.io r3.rel (p2.io.le r3.le) eh
              have hg := r3.trans s2
              have hb : ArgsR w' es (ptrs ws vs) O2 M2 H2 := s1
              · skip
                have hret := ret_of r2
                have base : ∀ M1' M2' : List Nat, (∀ x ∈ M1', x ∈ M1) → (∀ x ∈ M2', x ∈ M2) → RetR w' (oneOf ds2) (retOf cvs) O1 M1' H1 → ArgsR w' es (ptrs ws vs) O2 M2' H2 → (fresh = true → ∀ x ∈ M1' ++ M2', x ∈ O1 ++ O2) →
                    Back B0 w0 w N O (ptrs ws vs) fresh (oneOf ds2, es) (retOf cvs) w' := by
                  intro M1' M2' hM1 hM2 b1 b2 b3
                  have hMN : ∀ x ∈ M1' ++ M2', C4.N x := fun x hx => hg.hM x (by
                    rcases List.mem_append.1 hx with hx | hx
                    · simp [hM1 x hx]
                    · simp [hM2 x hx])
                  have how : ∀ k x, x ∈ L2 k → x ∈ O ∨ w.heap.size ≤ x := fun k x hx => p2.ow k x hx
                  refine ⟨⟨O1, M1', H1, O2, M2', H2, b1, b2, hg.nd, fun x hx => ?_, fun x hx => ?_, fun x hx => ?_⟩, p1.below, p2.sz, fun x hx hxO => p2.fr x hx (fun hxH => ?_)⟩
                  · obtain ⟨k, hk⟩ := hg.from_ x hx
                    exact ⟨how k x hk, (p1.own k x hk).2⟩
                  · refine ⟨?_, hg.rel.nsz x (hMN x hx), fun hfr => b3 hfr x hx⟩
                    rcases hg.nn x (hMN x hx) with h1 | ⟨j, h1⟩
                    · exact p2.nn x h1
                    · exact .inr (how j x h1)
                  · obtain ⟨_, h2⟩ := hg.hH x hx
                    exact ⟨fun hm' => h2 (hMN x hm'), fun hn => h2 (hg.le.N x (p2.nm x hn))⟩
                  · have hxH' : x ∈ H := hxH
                    rcases hxO with h1 | h1
                    · exact h1 (hA.hsub x hxH')
                    · exact hH x hxH' h1
                refine ⟨_, results_eq fn a'.tmps r1, (oneOf ds2, es), ?_, ?_⟩
                · cases hfc : (!fresh || (frshRet (oneOf ds2) && es.all V.frsh)) with
                  | false => rw [hfc] at hK; cases hK
                  | true => rw [hfc] at hK; exact hK
                · cases hfr : fresh with
                  | false => rw [← hfr]; exact base M1 M2 (fun _ h => h) (fun _ h => h) hret hb (fun h => by rw [hfr] at h; cases h)
                  | true =>
                    cases hfc : (!fresh || (frshRet (oneOf ds2) && es.all V.frsh)) with
                    | false => rw [hfc] at hK; cases hK
                    | true =>
                      rw [hfr] at hfc
                      simp only [Bool.not_true, Bool.false_or, Bool.and_eq_true] at hfc
                      obtain ⟨M1', g1, g2⟩ := Ret.fresh hret hfc.1
                      obtain ⟨M2', g3, g4⟩ := Args.fresh hb hfc.2
                      rw [← hfr]
                      exact base M1' M2' (fun x hx => (g2 x hx).1) (fun x hx => (g4 x hx).1) g1 g3 (fun _ x hx => by
                        rcases List.mem_append.1 hx with hx | hx
                        · exact List.mem_append.2 (.inl (g2 x hx).2)
                        · exact List.mem_append.2 (.inr (g4 x hx).2))
        · cases hK
      cases x with
      | nrm =>
        cases ex <;> first | exact hx.elim | skip
        exact key hK
      | ext i => cases hK
      | ret =>
        cases ex <;> first | exact hx.elim | skip
        exact key hK
end

/-- A table of contracts. -/
def tab : List (Nat × Bool × Sm) → Nat → Option (Bool × Sm)
  | [], _ => none
  | (k, b, G) :: l, g => bif Nat.beq g k then some (b, G) else tab l g
theorem tab_ok {P : Program} {I : Nat → World → Prop} : ∀ {l : List (Nat × Bool × Sm)}, (∀ p ∈ l, OkFn P I p.1 p.2.1 p.2.2) → ∀ g fresh G, tab l g = some (fresh, G) → OkFn P I g fresh G
  | [], _, g, fresh, G, h => by simp [tab] at h
  | (k, b, G') :: l, hl, g, fresh, G, h => by
    simp only [tab] at h
    cases e : Nat.beq g k with
    | true =>
      rw [e] at h
      cases h
      rw [Nat.eq_of_beq_eq_true e]
      exact hl (k, b, G') (by simp)
    | false =>
      rw [e] at h
      exact tab_ok (fun p hp => hl p (by simp [hp])) g fresh G h
end Go.Ev
end
section
/- What comes in at the top: data in memory, as the evaluator has them. -/
set_option linter.unusedVariables false
namespace Go.Ev
open Go.RowKit

def Rw.list : Rw → List Cc
  | .one c => [c]
  | .cons c r => c :: r.list
mutual
inductive CcOk (P : Program) : Cc → TypeId → Prop
  | int {k : IntKind} {t : TypeId} : P.underlying t = some (.int k) → CcOk P (.int k) t
  | bool {t : TypeId} : P.underlying t = some .bool → CcOk P .bool t
  | str {t : TypeId} : P.underlying t = some .string → CcOk P .str t
  | sl {r : Rw} {t e : TypeId} : P.underlying t = some (.slice e) → P.cellsOf e = r.n → LayOk P r.list e → CcOk P (.sl r) t
/-- How the cells of a type lie. -/
inductive LayOk (P : Program) : List Cc → TypeId → Prop
  | one {c : Cc} {t : TypeId} : CcOk P c t → LayOk P [c] t
  | st {cs : List Cc} {t : TypeId} {fs : Array Field} : P.underlying t = some (.struct fs) → LayFs P cs 0 fs.toList → LayOk P cs t
inductive LayFs (P : Program) : List Cc → Nat → List Field → Prop
  | nil {i : Nat} : LayFs P [] i []
  | cons {cs ds : List Cc} {i : Nat} {f : Field} {rest : List Field} : f.offset = i → P.cellsOf f.type = cs.length → LayOk P cs f.type → LayFs P ds (i + cs.length) rest → LayFs P (cs ++ ds) i (f :: rest)
end
mutual
def Cc.wf : (c : Cc) → c.T → Prop
  | .int k, n => (Lit.int k n).wf = true
  | .bool, _ => True
  | .str, s => s.size ≤ maxLen
  | .sl r, xs => xs.length ≤ maxLen ∧ ∀ x ∈ xs, r.wf x
def Rw.wf : (r : Rw) → r.T → Prop
  | .one c, d => c.wf d
  | .cons c r, d => c.wf d.1 ∧ r.wf d.2
end

section
variable {P : Program} {w : World} {H : Type} {enc : TypeId × Value → H} {spare : Nat → Bool}

def InC (P : Program) (w : World) (c : Cc) (cs : List Value) : Prop := ∃ v x F, cs = [v] ∧ CcR w true c x v F ∧ c.wf x ∧ ∀ b ∈ F, b < w.heap.size
def InR (P : Program) (w : World) (r : Rw) (cs : List Value) : Prop := ∃ x F, RwR w true r x cs F ∧ r.wf x ∧ ∀ b ∈ F, b < w.heap.size

theorem mapM_get {α β : Type} {f : α → Option β} : ∀ {l : List α} {ys : List β}, l.mapM f = some ys → ys.length = l.length ∧ ∀ (i : Nat) (a : α), l[i]? = some a → ∃ y, f a = some y
  | [], ys, h => by simp at h; subst h; exact ⟨rfl, fun i a h => by simp at h⟩
  | x :: l, ys, h => by
    rw [List.mapM_cons] at h
    cases e : f x with
    | none => simp [e] at h
    | some y =>
      cases e2 : l.mapM f with
      | none => simp [e, e2] at h
      | some zs =>
        simp [e, e2] at h
        subst h
        obtain ⟨h1, h2⟩ := mapM_get e2
        refine ⟨by simp [h1], fun i a hi => ?_⟩
        cases i with
        | zero => simp at hi; subst hi; exact ⟨y, e⟩
        | succ i => simp at hi; exact h2 i a hi

theorem rows_in {r : Rw} {b : Nat} : ∀ (n o : Nat), (∀ i, i < n → ∃ cs, cs.length = r.n ∧ (∀ j v, cs[j]? = some v → w.cell? ⟨b, o + i * r.n + j, none⟩ = some v) ∧ InR P w r cs) →
    ∃ xs F, xs.length = n ∧ RowsR (RwR w true r) w r.n b xs o F ∧ (∀ x ∈ xs, r.wf x) ∧ ∀ b ∈ F, b < w.heap.size
  | 0, o, _ => ⟨[], [], rfl, rfl, fun _ h => (nomatch h), fun _ h => (nomatch h)⟩
  | n + 1, o, h => by
    obtain ⟨cs, h1, h2, x, F1, h3, h4, h5⟩ := h 0 (by omega)
    obtain ⟨xs, F2, g1, g2, g3, g4⟩ := rows_in n (o + r.n) (fun i hi => by
      obtain ⟨cs, k1, k2, k3⟩ := h (i + 1) (by omega)
      refine ⟨cs, k1, fun j v hj => ?_, k3⟩
      rw [show o + r.n + i * r.n + j = o + (i + 1) * r.n + j by rw [Nat.add_mul]; omega]
      exact k2 j v hj)
    refine ⟨x :: xs, F1 ++ F2, by simp [g1], ⟨cs, F1, F2, rfl, h1, fun j v hj => by simpa using h2 j v hj, h3, g2⟩, fun y hy => ?_, fun y hy => ?_⟩
    · rcases List.mem_cons.1 hy with rfl | hy
      · exact h4
      · exact g3 y hy
    · rcases List.mem_append.1 hy with hy | hy
      · exact h5 y hy
      · exact g4 y hy

theorem cells_in {base : Nat} {a : Addr} {n : Nat} {cs : List Value} (h : w.cells? base a n = some cs) (hn : n ≠ 0) : a.spot = none ∧ cs.length = n ∧ ∀ j v, cs[j]? = some v → w.cell? ⟨a.block, a.off + j, none⟩ = some v := by
  unfold World.cells? at h
  split at h
  · have key : ∀ (m s : Nat) (ys : List Value), ((List.range' s m).mapM fun i => w.cell? (a.add i)) = some ys → ys.length = m ∧ ∀ j v, ys[j]? = some v → w.cell? (a.add (s + j)) = some v := by
      intro m
      induction m with
      | zero => intro s ys h; simp at h; subst h; exact ⟨rfl, fun j v h => by simp at h⟩
      | succ m ih =>
        intro s ys h
        rw [List.range'_succ, List.mapM_cons] at h
        cases e : w.cell? (a.add s) with
        | none => simp [e] at h
        | some y =>
          cases e2 : (List.range' (s + 1) m).mapM (fun i => w.cell? (a.add i)) with
          | none => simp [e, e2] at h
          | some zs =>
            simp [e, e2] at h
            subst h
            obtain ⟨h1, h2⟩ := ih (s + 1) zs e2
            refine ⟨by simp [h1], fun j v hj => ?_⟩
            cases j with
            | zero => simp at hj; subst hj; exact e
            | succ j =>
              simp at hj
              have := h2 j v hj
              rwa [show s + 1 + j = s + (j + 1) by omega] at this
    rw [List.range_eq_range'] at h
    obtain ⟨h1, h2⟩ := key n 0 cs h
    have hs : a.spot = none := by
      cases n with
      | zero => exact absurd rfl hn
      | succ n =>
        cases cs with
        | nil => simp at h1
        | cons y ys =>
          have := h2 0 y rfl
          simp only [World.cell?, Nat.add_zero] at this
          split at this
          · split at this
            · cases this
            · rename_i hsp
              have h0 : (a.add 0).spot = a.spot := by unfold Addr.add; rw [if_pos rfl]
              rw [h0] at hsp
              simpa using hsp
          · cases this
    refine ⟨hs, h1, fun j v hj => ?_⟩
    have := h2 j v hj
    obtain ⟨blk, off, spot⟩ := a
    simp only at hs
    subst hs
    rwa [add_at, Nat.zero_add] at this
  · cases h

theorem Rw.n_ne (r : Rw) : r.n ≠ 0 := by cases r <;> simp [Rw.n]

theorem one_cell {c : Cc} {cs : List Value} (h : InC P w c cs) : InR P w (.one c) cs := by
  obtain ⟨v, x, F, h1, h2, h3, h4⟩ := h
  exact ⟨x, F, ⟨v, h1, h2⟩, h3, h4⟩
def InL (P : Program) (w : World) : List Cc → List Value → Prop
  | [], vs => vs = []
  | c :: cs, vs => ∃ v vs', vs = v :: vs' ∧ InC P w c [v] ∧ InL P w cs vs'
theorem InL.append : ∀ {cs ds : List Cc} {us vs : List Value}, InL P w cs us → InL P w ds vs → InL P w (cs ++ ds) (us ++ vs)
  | [], ds, us, vs, h, g => by
    have : us = [] := h
    subst this; exact g
  | c :: cs, ds, us, vs, ⟨v, vs', h1, h2, h3⟩, g => by
    subst h1
    exact ⟨v, vs' ++ vs, rfl, h2, InL.append h3 g⟩
theorem InL.row : ∀ (r : Rw) {vs : List Value}, InL P w r.list vs → InR P w r vs
  | .one c, vs, ⟨v, vs', h1, h2, h3⟩ => by
    have : vs' = [] := h3
    subst this; subst h1
    exact one_cell h2
  | .cons c r, vs, ⟨v, vs', h1, h2, h3⟩ => by
    subst h1
    obtain ⟨v', x, F, g1, g2, g3, g4⟩ := h2
    cases g1
    obtain ⟨y, F2, g5, g6, g7⟩ := InL.row r h3
    refine ⟨(x, y), F ++ F2, ⟨v, vs', F, F2, rfl, rfl, g2, g5⟩, ⟨g3, g6⟩, fun b hb => ?_⟩
    rcases List.mem_append.1 hb with hb | hb
    · exact g4 b hb
    · exact g7 b hb
theorem Rw.list_len : (r : Rw) → r.list.length = r.n
  | .one c => rfl
  | .cons c r => by simp [Rw.list, Rw.n, Rw.list_len r]
theorem fs_in {vs : List Value} {good : TypeId → List Value → Prop} (hg : ∀ cs t us, good t us → LayOk P cs t → P.cellsOf t = cs.length → us.length = cs.length → InL P w cs us) : ∀ (fs : List Field) {cs : List Cc} {i : Nat}, LayFs P cs i fs → (∀ f ∈ fs, good f.type ((vs.drop f.offset).take (P.cellsOf f.type))) → vs.length = i + cs.length → InL P w cs (vs.drop i)
  | [], _, i, h, hy, hl => by
    cases h
    exact List.drop_eq_nil_of_le (by simp at hl; omega)
  | f :: rest, _, i, h, hy, hl => by
    cases h with
    | cons h1 h2 h3 h4 =>
      rename_i cs ds
      simp only [List.length_append] at hl
      have hf := hy f (by simp)
      rw [h1, h2] at hf
      have a1 := hg cs _ _ hf h3 h2 (by simp; omega)
      have a2 := fs_in hg rest h4 (fun g hg' => hy g (by simp [hg'])) (by omega)
      have := InL.append a1 a2
      rwa [← List.drop_drop, List.take_append_drop] at this

theorem trod_in {base : Nat} {held : Bool} : ∀ (fuel : Nat) {t : TypeId} {cs : List Value} {d : DataW H} {ps : List MemPlace}, DataW.trod enc P w base spare held fuel t cs = some (d, ps) → (∀ c, CcOk P c t → InC P w c cs) ∧ ∀ ks, LayOk P ks t → P.cellsOf t = ks.length → cs.length = ks.length → InL P w ks cs
  | 0, t, cs, d, ps, h => by simp [DataW.trod] at h
  | fuel + 1, t, cs, d, ps, h => by
    have cell : ∀ c, CcOk P c t → InC P w c cs := by
      intro c hc
      cases c with
      | int k =>
        cases hc with | int hc =>
        simp only [DataW.trod, hc] at h
        split at h <;> simp_all
        rename_i k' n _
        exact ⟨_, n, [], rfl, ⟨rfl, rfl⟩, by simp [Cc.wf]; exact h.1.2, fun _ h => (nomatch h)⟩
      | bool =>
        cases hc with | bool hc =>
        simp only [DataW.trod, hc] at h
        split at h <;> simp_all
        exact ⟨_, _, [], rfl, ⟨rfl, rfl⟩, trivial, fun _ h => (nomatch h)⟩
      | str =>
        cases hc with | str hc =>
        simp only [DataW.trod, hc] at h
        split at h <;> simp_all
        exact ⟨_, _, [], rfl, ⟨rfl, rfl⟩, h.1, fun _ h => (nomatch h)⟩
      | sl r =>
        cases hc with | sl hu hn hr =>
        rename_i e
        simp only [DataW.trod, hu] at h
        have hnil : cs = [.slice none 0 0] → InC P w (.sl r) cs := fun hcs => ⟨_, [], [], hcs, .inl ⟨rfl, rfl, none, 0, rfl, fun h => (nomatch h)⟩, ⟨Nat.zero_le _, fun _ h => (nomatch h)⟩, fun _ h => (nomatch h)⟩
        have hsome : ∀ (ad : Addr) (len cap : Nat), cs = [.slice (some ad) len cap] → len ≤ cap → cap ≤ maxLen → (∃ ys, (List.range len).mapM (fun i => (w.cells? base (ad.add (i * P.cellsOf e)) (P.cellsOf e)).bind (DataW.trod enc P w base spare held fuel e)) = some ys) → InC P w (.sl r) cs := by
          intro ad len cap hcs h1 h2 ⟨ys, h3⟩
          rw [hn] at h3
          have hel : ∀ i, i < len → ∃ us d' ps', w.cells? base (ad.add (i * r.n)) r.n = some us ∧ DataW.trod enc P w base spare held fuel e us = some (d', ps') := by
            intro i hi
            obtain ⟨y, hy⟩ := (mapM_get h3).2 i i (by simp [hi])
            obtain ⟨us, h4, h5⟩ := Option.bind_eq_some_iff.1 hy
            exact ⟨us, y.1, y.2, h4, h5⟩
          by_cases hz : len = 0
          · subst hz
            exact ⟨_, [], [], hcs, .inl ⟨rfl, rfl, some ad, cap, rfl, fun h => (nomatch h)⟩, ⟨Nat.zero_le _, fun _ h => (nomatch h)⟩, fun _ h => (nomatch h)⟩
          · obtain ⟨us0, _, _, g1, _⟩ := hel 0 (by omega)
            obtain ⟨g2, g3, g4⟩ := cells_in g1 r.n_ne
            have h00 : ad.add (0 * r.n) = ad := by rw [Nat.zero_mul]; unfold Addr.add; rw [if_pos rfl]
            rw [h00] at g2 g4
            obtain ⟨blk, off, spot⟩ := ad
            simp only at g2 g4
            subst g2
            obtain ⟨xs, F, k1, k2, k3, k4⟩ := rows_in (P := P) (w := w) (r := r) (b := blk) len off (fun i hi => by
              obtain ⟨us, d', ps', q1, q2⟩ := hel i hi
              obtain ⟨_, q3, q4⟩ := cells_in q1 r.n_ne
              refine ⟨us, q3, fun j v hj => ?_, InL.row r ((trod_in fuel q2).2 r.list hr (hn.trans r.list_len.symm) (q3.trans r.list_len.symm))⟩
              have := q4 j v hj
              rwa [add_at] at this)
            have hb : blk < w.heap.size := by
              have hne : us0 ≠ [] := fun e => by rw [e] at g3; exact r.n_ne g3.symm
              obtain ⟨u, us', rfl⟩ := List.exists_cons_of_ne_nil hne
              have := g4 0 u rfl
              simp only [World.cell?] at this
              split at this
              · rename_i hh
                exact (Array.getElem?_eq_some_iff.1 hh).1
              · cases this
            refine ⟨_, xs, blk :: F, hcs, .inr ⟨blk, off, cap, F, by rw [k1], by omega, rfl, hb, fun h => (nomatch h), k2⟩, ⟨by omega, k3⟩, fun b hb' => ?_⟩
            rcases List.mem_cons.1 hb' with rfl | hb'
            · exact hb
            · exact k4 b hb'
        split at h
        all_goals first
          | (exfalso; simp_all; done)
          | skip
        · exact hnil rfl
        · rename_i e' ad len cap heq
          cases heq
          split at h
          · rename_i hb
            refine hsome ad len cap rfl hb.2.1 hb.2.2 ?_
            obtain ⟨ys, h4, _⟩ := Option.bind_eq_some_iff.1 h
            exact ⟨ys, h4⟩
          · cases h
    refine ⟨cell, fun ks hr hn hl => ?_⟩
    cases hr with
    | one hc =>
      obtain ⟨v, x, F, h0, h1⟩ := cell _ hc
      exact ⟨v, [], h0, ⟨v, x, F, rfl, h1⟩, rfl⟩
    | st hu hfs =>
      rename_i fs
      have hd : (if cs.length = P.cellsOf t then (fs.toList.mapM fun f => DataW.trod enc P w base spare held fuel f.type ((cs.drop f.offset).take (P.cellsOf f.type))).map fun xs => ((.agg (xs.map (·.1)), xs.flatMap (·.2)) : DataW H × List MemPlace) else none) = some (d, ps) := by
        simpa only [DataW.trod, hu] using h
      rw [if_pos (by rw [hl, hn])] at hd
      cases em : (fs.toList.mapM fun f => DataW.trod enc P w base spare held fuel f.type ((cs.drop f.offset).take (P.cellsOf f.type))) with
      | none => rw [em] at hd; cases hd
      | some ys =>
        have hy : ∀ g ∈ fs.toList, ∃ y, DataW.trod enc P w base spare held fuel g.type ((cs.drop g.offset).take (P.cellsOf g.type)) = some y := by
          intro g hg
          obtain ⟨i, hi⟩ := List.getElem?_of_mem hg
          exact (mapM_get em).2 i g hi
        have := fs_in (vs := cs) (good := fun t us => ∃ y, DataW.trod enc P w base spare held fuel t us = some y) (fun ks' t us hgd hk h1 h2 => by
          obtain ⟨⟨d', ps'⟩, hy⟩ := hgd
          exact (trod_in fuel hy).2 ks' hk h1 h2) fs.toList hfs hy (by omega)
        simpa using this

/-! ### Arguments at the top -/
/-- A value of one cell that comes in. -/
theorem arg_one {c : Cc} {v : Value} (h : InC P w c [v]) : ∃ x M, ArgR w (c.cell .no x) v [] M [] ∧ c.wf x ∧ ∀ b ∈ M, b < w.heap.size := by
  obtain ⟨v', x, F, h0, h1, h2, h3⟩ := h
  cases h0
  have hv := CcR.vr (C := Cx.ext (· ∈ F)) c h1 (fun _ h => h)
  refine ⟨x, F, ?_, h2, h3⟩
  cases c <;> exact CellR.plain hv (by simp [Cc.cell]) (by simp [Cc.cell]) (by simp [Cc.cell])
theorem args_nil : ArgsR w [] [] [] [] [] := ⟨rfl, rfl, rfl, rfl⟩
theorem args_cons {u : V} {us : List V} {v : Value} {vs : List Value} {M1 M2 : List Nat} (h1 : ArgR w u v [] M1 []) (h2 : ArgsR w us vs [] M2 []) : ArgsR w (u :: us) (v :: vs) [] (M1 ++ M2) [] :=
  ⟨v, vs, [], [], M1, M2, [], [], rfl, rfl, rfl, rfl, h1, h2⟩

/-- A law that answers true. -/
theorem law_true {I : Nat → World → Prop} {g : FuncId} {fresh : Bool} {G : Sm} (hok : OkFn P I g fresh G) (hI : I w.heap.size w) {ws : List V} {vs : List Value} {M : List Nat} (hA : ArgsR w ws vs [] M []) (hM : ∀ b ∈ M, b < w.heap.size)
    (hG : ∃ css, ∀ K, G ws K = K (.s (.bool true), css)) : Calls P g ⟨vs⟩ w fun e w' => e = .returned (.bool true) ∧ Below w.heap.size w w' := by
  obtain ⟨css, hG⟩ := hG
  have := hok.2 ws (fun q => some q) (.s (.bool true), css) (hG _) w.heap.size w w (fun x => x < w.heap.size) vs [] M [] hI (Below.refl _ _) (Nat.le_refl _) hA List.nodup_nil (fun _ h => (nomatch h)) hM (fun _ h => (nomatch h)) (fun _ h => h)
  refine Calls.mono this (fun e w' he => ?_)
  cases e with
  | returned c =>
    obtain ⟨q, hq, hb⟩ := he
    cases hq
    obtain ⟨O1, M1, H1, O2, M2, H2, h1, _⟩ := hb.ex
    have hc : c = .bool true := h1.1.1
    exact ⟨by rw [hc], hb.below⟩
  | _ => exact he.elim
end
end Go.Ev
end
section
/- A table of types, checked by reckoning. -/
set_option linter.unusedVariables false
namespace Go.Ev
open Go.RowKit

inductive Tr where
  | leaf
  | node (k : Nat) (v : Ty) (l r : Tr)
def Tr.get : Tr → Nat → Option Ty
  | .leaf, _ => none
  | .node k v l r, t => bif Nat.beq t k then some v else bif Nat.blt t k then l.get t else r.get t
def Tr.all (p : Nat → Ty → Bool) : Tr → Bool
  | .leaf => true
  | .node k v l r => p k v && l.all p && r.all p
theorem Tr.all_get {p : Nat → Ty → Bool} {ty : Ty} : ∀ {T : Tr} {t : Nat}, T.all p = true → T.get t = some ty → p t ty = true
  | .leaf, t, _, h => by simp [Tr.get] at h
  | .node k v l r, t, ha, h => by
    simp only [Tr.all, Bool.and_eq_true] at ha
    simp only [Tr.get] at h
    cases e : Nat.beq t k with
    | true =>
      rw [e] at h
      have := Nat.eq_of_beq_eq_true e
      subst this
      cases h
      exact ha.1.1
    | false =>
      rw [e] at h
      cases e2 : Nat.blt t k with
      | true => rw [e2] at h; exact Tr.all_get ha.1.2 h
      | false => rw [e2] at h; exact Tr.all_get ha.2 h

/-- Is it this zero? -/
def zOne : V → Value → Bool
  | .s (.int k n), .int k' n' => decide (k = k') && decide (n = n')
  | .s (.bool b), .bool b' => b == b'
  | .s (.string b), .string b' => b.toList.isEmpty && b'.toList.isEmpty && b.data.toList.isEmpty && b'.data.toList.isEmpty
  | .nl, .slice none 0 0 => true
  | .x, _ => true
  | _, _ => false
def zAll : List V → List Value → Bool
  | [], [] => true
  | u :: us, v :: vs => zOne u v && zAll us vs
  | _, _ => false
theorem bytes_nil {b : ByteArray} (h : b.data.toList.isEmpty = true) : b = ByteArray.empty := by
  obtain ⟨d⟩ := b
  have : d.toList = [] := by simpa using h
  have : d = #[] := by simpa using this
  subst this; rfl
theorem zOne_ok (C : Cx) (w : World) {u : V} {v : Value} (h : zOne u v = true) : VR C w u v := by
  unfold zOne at h
  split at h
  · simp only [Bool.and_eq_true, decide_eq_true_eq] at h
    obtain ⟨rfl, rfl⟩ := h
    exact ⟨rfl, rfl⟩
  · simp only [beq_iff_eq] at h
    subst h
    exact ⟨rfl, rfl⟩
  · simp only [Bool.and_eq_true] at h
    rw [bytes_nil h.2, bytes_nil h.1.2]
    exact ⟨rfl, rfl⟩
  · rfl
  · trivial
  · cases h
theorem zAll_ok (C : Cx) (w : World) : ∀ {us : List V} {vs : List Value}, zAll us vs = true → VsR C w us vs
  | [], [], _ => rfl
  | u :: us, v :: vs, h => by
    simp only [zAll, Bool.and_eq_true] at h
    exact ⟨v, vs, rfl, zOne_ok C w h.1, zAll_ok C w h.2⟩
  | [], _ :: _, h => by simp [zAll] at h
  | _ :: _, [], h => by simp [zAll] at h
def zCc : Cc → Value → Bool
  | .int k, .int k' n => decide (k' = k) && decide (n = 0)
  | .bool, .bool b => !b
  | .str, .string b => b.data.toList.isEmpty
  | .sl _, .slice none 0 0 => true
  | _, _ => false
def zRw : Rw → List Value → Bool
  | .one c, [v] => zCc c v
  | .cons c r, v :: vs => zCc c v && zRw r vs
  | _, _ => false
theorem zCc_ok (w : World) (e : Bool) : (c : Cc) → {v : Value} → zCc c v = true → CcR w e c c.dflt v []
  | .int k, v, h => by
    cases v <;> simp [zCc] at h
    obtain ⟨rfl, rfl⟩ := h
    exact ⟨rfl, rfl⟩
  | .bool, v, h => by
    cases v <;> simp [zCc] at h
    subst h; exact ⟨rfl, rfl⟩
  | .str, v, h => by
    cases v <;> try (simp [zCc] at h; done)
    simp only [zCc] at h
    rw [bytes_nil h]; exact ⟨rfl, rfl⟩
  | .sl r, v, h => by
    unfold zCc at h
    split at h <;> first | cases h | skip
    all_goals first | (rename_i hh; cases hh; done) | skip
    exact .inl ⟨rfl, rfl, none, 0, rfl, fun _ => ⟨rfl, rfl⟩⟩
theorem zRw_ok (w : World) (e : Bool) : (r : Rw) → {vs : List Value} → zRw r vs = true → RwR w e r r.dflt vs []
  | .one c, [v], h => ⟨v, rfl, zCc_ok w e c h⟩
  | .one c, [], h => by simp [zRw] at h
  | .one c, _ :: _ :: _, h => by simp [zRw] at h
  | .cons c r, [], h => by simp [zRw] at h
  | .cons c r, v :: vs, h => by
    simp only [zRw, Bool.and_eq_true] at h
    exact ⟨v, vs, [], [], rfl, rfl, zCc_ok w e c h.1, zRw_ok w e r h.2⟩

def fsB (P : Program) (N : Nat) : List Field → List (Nat × Nat × Bool) → Bool
  | [], [] => true
  | f :: fs, (off, n, g) :: rest => Nat.beq f.offset off && (match P.info? f.type with
      | some j => Nat.beq j.size n
      | none => false) && !(Nat.beq n 0) && Nat.ble (off + n) N && (match P.underlying f.type with
      | some d => g == isAggD d
      | none => false) && fsB P N fs rest
  | _, _ => false
theorem fsB_ok {P : Program} {N : Nat} : ∀ {fs : List Field} {gs : List (Nat × Nat × Bool)}, fsB P N fs gs = true → fs.length = gs.length ∧ ∀ (i off n : Nat) (g : Bool), gs[i]? = some (off, n, g) →
    ∃ f j d, fs[i]? = some f ∧ f.offset = off ∧ P.info? f.type = some j ∧ j.size = n ∧ n ≠ 0 ∧ off + n ≤ N ∧ P.underlying f.type = some d ∧ g = isAggD d
  | [], [], _ => ⟨rfl, fun i off n g h => by simp at h⟩
  | f :: fs, (off, n, g) :: rest, h => by
    simp only [fsB, Bool.and_eq_true] at h
    obtain ⟨⟨⟨⟨⟨h1, h2⟩, h3⟩, h4⟩, h5⟩, h6⟩ := h
    obtain ⟨k1, k2⟩ := fsB_ok h6
    refine ⟨by simp [k1], fun i off' n' g' hi => ?_⟩
    cases i with
    | zero =>
      simp at hi
      obtain ⟨rfl, rfl, rfl⟩ := hi
      split at h2
      · rename_i j hj
        split at h5
        · rename_i d hd
          refine ⟨f, j, d, rfl, Nat.eq_of_beq_eq_true h1, hj, Nat.eq_of_beq_eq_true h2, fun e => ?_, Nat.le_of_ble_eq_true h4, hd, by simpa using h5⟩
          rw [e] at h3; simp at h3
        · cases h5
      · cases h2
    | succ i => simp at hi; simpa using k2 i off' n' g' hi
  | [], _ :: _, h => by simp [fsB] at h
  | _ :: _, [], h => by simp [fsB] at h

def dsB (P : Program) (ty : Ty) : Ds → TypeDesc → Bool
  | .st, .struct fields => fsB P ty.n fields.toList ty.fs
  | .sl, .slice e => match P.info? e with
    | some j => Nat.beq j.size ty.row.n && Nat.beq j.bytes ty.bytes && (match j.zero with
      | some z => Nat.beq z.cells.size ty.row.n && zRw ty.row z.cells.toList
      | none => false) && (if ty.row = .one (.int .u8) then (match P.underlying e with
      | some (.int .u8) => true
      | _ => false) else true)
    | none => false
  | .int k, .int k' => decide (k' = k)
  | .bool, .bool => true
  | .str, .string => true
  | .arr len m, .array len' e => Nat.beq len' len && (match P.info? e with
    | some j => Nat.beq j.size m
    | none => false)
  | .other, _ => true
  | _, _ => false
def tyB (P : Program) (t : Nat) (ty : Ty) : Bool :=
  (match P.underlying t with
    | some d => dsB P ty ty.ds d && (ty.agg == isAggD d)
    | none => false) &&
  (match P.info? t with
    | some i => Nat.beq i.size ty.n && (match i.zero with
      | some z => Nat.beq z.cells.size ty.n && zAll ty.zero z.cells.toList
      | none => false)
    | none => false)
theorem dsB_ok {P : Program} {ty : Ty} {s : Ds} {d : TypeDesc} (h : dsB P ty s d = true) : DsOk P ty s d := by
  unfold dsB at h
  split at h
  · rename_i fields
    obtain ⟨h1, h2⟩ := fsB_ok h
    refine ⟨by rw [← h1]; simp, fun i off n g hi => ?_⟩
    obtain ⟨f, j, d, k1, k2⟩ := h2 i off n g hi
    exact ⟨f, j, d, by simpa using k1, k2⟩
  · rename_i e
    split at h
    · rename_i j hj
      simp only [Bool.and_eq_true] at h
      obtain ⟨⟨⟨h1, h2⟩, h3⟩, h4⟩ := h
      split at h3
      · rename_i z hz
        simp only [Bool.and_eq_true] at h3
        refine ⟨j, z, hj, Nat.eq_of_beq_eq_true h1, Nat.eq_of_beq_eq_true h2, hz, Nat.eq_of_beq_eq_true h3.1, fun w e => zRw_ok w e _ h3.2, fun hr => ?_⟩
        rw [if_pos hr] at h4
        split at h4
        · assumption
        · cases h4
      · cases h3
    · cases h
  · simp only [DsOk]; simpa using h
  · trivial
  · trivial
  · simp only [Bool.and_eq_true] at h
    obtain ⟨h1, h2⟩ := h
    split at h2
    · rename_i j hj
      exact ⟨Nat.eq_of_beq_eq_true h1, j, hj, Nat.eq_of_beq_eq_true h2⟩
    · cases h2
  · simp [DsOk]
  · cases h
theorem tyB_ok {P : Program} {t : Nat} {ty : Ty} (h : tyB P t ty = true) : TyOk P t ty := by
  unfold tyB at h
  simp only [Bool.and_eq_true] at h
  obtain ⟨h1, h2⟩ := h
  split at h1
  · rename_i d hd
    split at h2
    · rename_i i hi
      simp only [Bool.and_eq_true] at h1 h2
      obtain ⟨h2, h3⟩ := h2
      split at h3
      · rename_i z hz
        simp only [Bool.and_eq_true] at h3
        exact ⟨⟨d, hd, dsB_ok h1.1, by simpa using h1.2⟩, ⟨i, z, hi, Nat.eq_of_beq_eq_true h2, hz, fun C w => zAll_ok C w h3.2, Nat.eq_of_beq_eq_true h3.1⟩⟩
      · cases h3
    · cases h2
  · cases h1
/-- What a program's tables hold, at the start. -/
def GlobI (glob : Nat → Option ((r : Rw) × List r.T)) : Nat → World → Prop := fun B0 w0 => ∀ g r (xs : List r.T), glob g = some ⟨r, xs⟩ → g < B0 ∧
  ∀ (i : Nat) (d : r.T), xs[i]? = some d → ∃ vs : List Value, vs.length = r.n ∧ (∀ (j : Nat) (v : Value), vs[j]? = some v → w0.cell? ⟨g, i * r.n + j, none⟩ = some v) ∧ ∀ C w, VsR C w (r.cells .no d) vs
theorem globI_none (B0 : Nat) (w0 : World) : GlobI (fun _ => none) B0 w0 := fun _ _ _ h => nomatch h
theorem tys_ok {P : Program} {T : Tr} (h : T.all (tyB P) = true) : TysOk P T.get := fun t ty ht => tyB_ok (Tr.all_get h ht)
end Go.Ev
end
section
/- The seat's table of types. Printed by inst.py. -/
namespace Go.Ev.Seat
open Go.RowKit
set_option maxRecDepth 100000
def tys : Tr :=
 .node 34 { ds := .sl, row := .one (.sl (.one (.int .u8))), bytes := 24, zero := [.nl] }
 (.node 11 { ds := .str, zero := [.s (.string ByteArray.empty)] }
 (.node 6 { ds := .int .u8, zero := [.s (.int .u8 0)] }
 (.node 4 { ds := .bool, zero := [.s (.bool false)] }
 (.node 3 { ds := .int .i64, zero := [.s (.int .i64 0)] }
 (.node 2 { ds := .int .i64, zero := [.s (.int .i64 0)] }
 (.leaf)
 (.leaf))
 (.leaf))
 (.node 5 { ds := .int .u8, zero := [.s (.int .u8 0)] }
 (.leaf)
 (.leaf)))
 (.node 9 { ds := .str, zero := [.s (.string ByteArray.empty)] }
 (.node 8 { ds := .st, row := .cons (.int .i64) (.cons (.int .i64) (.cons (.bool) (.one (.int .u8)))), n := 4, agg := true, zero := [.s (.int .i64 0), .s (.int .i64 0), .s (.bool false), .s (.int .u8 0)], fs := [(0, 1, false), (1, 1, false), (2, 1, false), (3, 1, false)] }
 (.node 7 { ds := .st, row := .cons (.int .i64) (.cons (.int .i64) (.cons (.bool) (.one (.int .u8)))), n := 4, agg := true, zero := [.s (.int .i64 0), .s (.int .i64 0), .s (.bool false), .s (.int .u8 0)], fs := [(0, 1, false), (1, 1, false), (2, 1, false), (3, 1, false)] }
 (.leaf)
 (.leaf))
 (.leaf))
 (.node 10 { ds := .str, zero := [.s (.string ByteArray.empty)] }
 (.leaf)
 (.leaf))))
 (.node 22 { ds := .sl, row := .one (.int .u8), bytes := 1, zero := [.nl] }
 (.node 14 { ds := .st, row := .cons (.str) (.one (.int .u64)), n := 2, agg := true, zero := [.s (.string ByteArray.empty), .s (.int .u64 0)], fs := [(0, 1, false), (1, 1, false)] }
 (.node 13 { ds := .st, row := .cons (.str) (.one (.int .u64)), n := 2, agg := true, zero := [.s (.string ByteArray.empty), .s (.int .u64 0)], fs := [(0, 1, false), (1, 1, false)] }
 (.node 12 { ds := .int .u64, zero := [.s (.int .u64 0)] }
 (.leaf)
 (.leaf))
 (.leaf))
 (.node 21 { ds := .int .i32, zero := [.s (.int .i32 0)] }
 (.leaf)
 (.leaf)))
 (.node 25 { ds := .st, row := .cons (.int .i64) (.cons (.int .i64) (.one (.sl (.one (.int .u8))))), n := 3, agg := true, zero := [.s (.int .i64 0), .s (.int .i64 0), .nl], fs := [(0, 1, false), (1, 1, false), (2, 1, false)] }
 (.node 24 { ds := .st, row := .cons (.int .i64) (.cons (.int .i64) (.one (.sl (.one (.int .u8))))), n := 3, agg := true, zero := [.s (.int .i64 0), .s (.int .i64 0), .nl], fs := [(0, 1, false), (1, 1, false), (2, 1, false)] }
 (.leaf)
 (.leaf))
 (.node 26 { ds := .sl, row := .cons (.int .i64) (.cons (.int .i64) (.one (.sl (.one (.int .u8))))), bytes := 40, zero := [.nl] }
 (.leaf)
 (.leaf)))))
 (.node 91 { ds := .st, row := .cons (.int .i64) (.cons (.int .i64) (.cons (.int .i64) (.cons (.int .i64) (.cons (.int .i64) (.one (.sl (.one (.int .u8)))))))), n := 6, agg := true, zero := [.s (.int .i64 0), .s (.int .i64 0), .s (.int .i64 0), .s (.int .i64 0), .s (.int .i64 0), .nl], fs := [(0, 1, false), (1, 1, false), (2, 1, false), (3, 1, false), (4, 1, false), (5, 1, false)] }
 (.node 48 { ds := .st, row := .cons (.int .i64) (.cons (.int .i64) (.cons (.int .i64) (.one (.int .i64)))), n := 4, agg := true, zero := [.s (.int .i64 0), .s (.int .i64 0), .s (.int .i64 0), .s (.int .i64 0)], fs := [(0, 1, false), (1, 1, false), (2, 1, false), (3, 1, false)] }
 (.node 42 { ds := .sl, row := .cons (.int .i64) (.cons (.int .i64) (.cons (.int .i64) (.one (.int .i64)))), bytes := 32, zero := [.nl] }
 (.node 41 { ds := .st, row := .one (.sl (.one (.int .u8))), n := 1, agg := true, zero := [.nl], fs := [(0, 1, false)] }
 (.node 40 { ds := .st, row := .one (.sl (.one (.int .u8))), n := 1, agg := true, zero := [.nl], fs := [(0, 1, false)] }
 (.leaf)
 (.leaf))
 (.leaf))
 (.node 47 { ds := .st, row := .cons (.int .i64) (.cons (.int .i64) (.cons (.int .i64) (.one (.int .i64)))), n := 4, agg := true, zero := [.s (.int .i64 0), .s (.int .i64 0), .s (.int .i64 0), .s (.int .i64 0)], fs := [(0, 1, false), (1, 1, false), (2, 1, false), (3, 1, false)] }
 (.leaf)
 (.leaf)))
 (.node 85 { ds := .st, row := .cons (.sl (.one (.int .u8))) (.cons (.int .i64) (.one (.int .i64))), n := 3, agg := true, zero := [.nl, .s (.int .i64 0), .s (.int .i64 0)], fs := [(0, 1, false), (1, 1, false), (2, 1, false)] }
 (.node 73 { ds := .sl, row := .one (.int .i64), bytes := 8, zero := [.nl] }
 (.node 59 { zero := [.x] }
 (.leaf)
 (.leaf))
 (.leaf))
 (.node 86 { ds := .st, row := .cons (.sl (.one (.int .u8))) (.cons (.int .i64) (.one (.int .i64))), n := 3, agg := true, zero := [.nl, .s (.int .i64 0), .s (.int .i64 0)], fs := [(0, 1, false), (1, 1, false), (2, 1, false)] }
 (.leaf)
 (.leaf))))
 (.node 124 { ds := .int .u8, zero := [.s (.int .u8 0)] }
 (.node 96 { ds := .int .u64, zero := [.s (.int .u64 0)] }
 (.node 94 { ds := .sl, row := .one (.sl (.one (.int .u8))), bytes := 24, zero := [.nl] }
 (.node 92 { ds := .st, row := .cons (.int .i64) (.cons (.int .i64) (.cons (.int .i64) (.cons (.int .i64) (.cons (.int .i64) (.one (.sl (.one (.int .u8)))))))), n := 6, agg := true, zero := [.s (.int .i64 0), .s (.int .i64 0), .s (.int .i64 0), .s (.int .i64 0), .s (.int .i64 0), .nl], fs := [(0, 1, false), (1, 1, false), (2, 1, false), (3, 1, false), (4, 1, false), (5, 1, false)] }
 (.leaf)
 (.leaf))
 (.leaf))
 (.node 123 { ds := .int .u32, zero := [.s (.int .u32 0)] }
 (.leaf)
 (.leaf)))
 (.node 128 { ds := .int .i32, zero := [.s (.int .i32 0)] }
 (.node 125 { ds := .int .u8, zero := [.s (.int .u8 0)] }
 (.leaf)
 (.leaf))
 (.node 129 { ds := .int .i32, zero := [.s (.int .i32 0)] }
 (.leaf)
 (.leaf)))))

theorem tysOk : TysOk Go.Proofs.Try.prog tys.get := tys_ok (by kernel_rfl)
def globs : Nat → Option ((r : Rw) × List r.T) := fun _ => none
/-- What is asked of the world at the start. -/
def I : Nat → World → Prop := GlobI globs
theorem globOk {Γ : Env} (h : Γ.glob = globs) : GlobOk I Γ := fun B0 w0 hI g r xs hg => hI g r xs (by rw [← h]; exact hg)
theorem I_ok (B0 : Nat) (w0 : World) : I B0 w0 := globI_none B0 w0
theorem mixed : Go.Proofs.Try.prog.follows .mixedOrders = true := by kernel_rfl
end Go.Ev.Seat
end
section
/- The seat's functions by name. Printed by names.py. -/
namespace Go.Ev.Seat
noncomputable abbrev F.l_FnBars := Go.Proofs.Try.f5
abbrev N.l_FnBars : Nat := 5
noncomputable abbrev F.l_big := Go.Proofs.Try.f8
abbrev N.l_big : Nat := 8
noncomputable abbrev F.l_pick := Go.Proofs.Try.f13
abbrev N.l_pick : Nat := 13
noncomputable abbrev F.s_DrawLeaseBars := Go.Proofs.Try.f20
abbrev N.s_DrawLeaseBars : Nat := 20
noncomputable abbrev F.i_LeaseBars := Go.Proofs.Try.f21
abbrev N.i_LeaseBars : Nat := 21
noncomputable abbrev F.s_LeaseBars := Go.Proofs.Try.f22
abbrev N.s_LeaseBars : Nat := 22
noncomputable abbrev F.s_LeasesOk := Go.Proofs.Try.f23
abbrev N.s_LeasesOk : Nat := 23
noncomputable abbrev F.s_LeaseTake := Go.Proofs.Try.f25
abbrev N.s_LeaseTake : Nat := 25
noncomputable abbrev F.s_l01Open := Go.Proofs.Try.f36
abbrev N.s_l01Open : Nat := 36
noncomputable abbrev F.s_l01Cur_small := Go.Proofs.Try.f37
abbrev N.s_l01Cur_small : Nat := 37
noncomputable abbrev F.s_l01Cur_size := Go.Proofs.Try.f38
abbrev N.s_l01Cur_size : Nat := 38
noncomputable abbrev F.s_l05Small := Go.Proofs.Try.f39
abbrev N.s_l05Small : Nat := 39
noncomputable abbrev F.i_Edit_isSmall := Go.Proofs.Try.f40
abbrev N.i_Edit_isSmall : Nat := 40
noncomputable abbrev F.s_l01Cur_pick := Go.Proofs.Try.f45
abbrev N.s_l01Cur_pick : Nat := 45
noncomputable abbrev F.s_l01Cur_leases := Go.Proofs.Try.f50
abbrev N.s_l01Cur_leases : Nat := 50
noncomputable abbrev F.s_l01Cur_raw := Go.Proofs.Try.f51
abbrev N.s_l01Cur_raw : Nat := 51
noncomputable abbrev F.s_l01Cur_now := Go.Proofs.Try.f52
abbrev N.s_l01Cur_now : Nat := 52
noncomputable abbrev F.i_areLeases := Go.Proofs.Try.f53
abbrev N.i_areLeases : Nat := 53
noncomputable abbrev F.i_leaseBars := Go.Proofs.Try.f54
abbrev N.i_leaseBars : Nat := 54
noncomputable abbrev F.s_EditHits := Go.Proofs.Try.f55
abbrev N.s_EditHits : Nat := 55
noncomputable abbrev F.s_l07Right := Go.Proofs.Try.f56
abbrev N.s_l07Right : Nat := 56
noncomputable abbrev F.s_l07Less := Go.Proofs.Try.f57
abbrev N.s_l07Less : Nat := 57
noncomputable abbrev F.s_l01Cur_badLease := Go.Proofs.Try.f58
abbrev N.s_l01Cur_badLease : Nat := 58
noncomputable abbrev F.s_l07Clock := Go.Proofs.Try.f61
abbrev N.s_l07Clock : Nat := 61
noncomputable abbrev F.s_l07Meet := Go.Proofs.Try.f62
abbrev N.s_l07Meet : Nat := 62
noncomputable abbrev F.s_l07At := Go.Proofs.Try.f63
abbrev N.s_l07At : Nat := 63
noncomputable abbrev F.s_l07Put := Go.Proofs.Try.f64
abbrev N.s_l07Put : Nat := 64
noncomputable abbrev F.i_isLease := Go.Proofs.Try.f65
abbrev N.i_isLease : Nat := 65
noncomputable abbrev F.i_Lease_isActive := Go.Proofs.Try.f72
abbrev N.i_Lease_isActive : Nat := 72
noncomputable abbrev F.s_l01Cur_text := Go.Proofs.Try.f75
abbrev N.s_l01Cur_text : Nat := 75
noncomputable abbrev F.s_l02Small := Go.Proofs.Try.f76
abbrev N.s_l02Small : Nat := 76
noncomputable abbrev F.i_in := Go.Proofs.Try.f77
abbrev N.i_in : Nat := 77
noncomputable abbrev F.s_l01Cur_lease := Go.Proofs.Try.f85
abbrev N.s_l01Cur_lease : Nat := 85
noncomputable abbrev F.i_compareLeases := Go.Proofs.Try.f86
abbrev N.i_compareLeases : Nat := 86
noncomputable abbrev F.slices_ContainsFunc_Lease := Go.Proofs.Try.f87
abbrev N.slices_ContainsFunc_Lease : Nat := 87
noncomputable abbrev F.i_leaseBars_1 := Go.Proofs.Try.f88
abbrev N.i_leaseBars_1 : Nat := 88
noncomputable abbrev F.i_EditHits := Go.Proofs.Try.f89
abbrev N.i_EditHits : Nat := 89
noncomputable abbrev F.s_l06Place := Go.Proofs.Try.f90
abbrev N.s_l06Place : Nat := 90
noncomputable abbrev F.s_l07One := Go.Proofs.Try.f91
abbrev N.s_l07One : Nat := 91
noncomputable abbrev F.i_isSession := Go.Proofs.Try.f92
abbrev N.i_isSession : Nat := 92
noncomputable abbrev F.s_RuneBytes := Go.Proofs.Try.f97
abbrev N.s_RuneBytes : Nat := 97
noncomputable abbrev F.s_l01Cur_rune := Go.Proofs.Try.f98
abbrev N.s_l01Cur_rune : Nat := 98
noncomputable abbrev F.cmp_Or_int := Go.Proofs.Try.f101
abbrev N.cmp_Or_int : Nat := 101
noncomputable abbrev F.cmp_Compare_int := Go.Proofs.Try.f102
abbrev N.cmp_Compare_int : Nat := 102
noncomputable abbrev F.slices_IndexFunc_Lease := Go.Proofs.Try.f103
abbrev N.slices_IndexFunc_Lease : Nat := 103
noncomputable abbrev F.i_isPos := Go.Proofs.Try.f104
abbrev N.i_isPos : Nat := 104
noncomputable abbrev F.i_Edit_hits := Go.Proofs.Try.f105
abbrev N.i_Edit_hits : Nat := 105
noncomputable abbrev F.cmp_isNaN_int := Go.Proofs.Try.f111
abbrev N.cmp_isNaN_int : Nat := 111
end Go.Ev.Seat
end
section
/- Shapes of states: which data stand where. -/
set_option linter.unusedVariables false
namespace Go.Ev

mutual
inductive Sh where
  | x | nl | int (k : IntKind) | bool | str | l (o : Ow) (r : Rw) | w (k : Nat) | pb (k c : Nat) | a (ss : ShL) | io (ss : ShL) | f (g : Nat) (ss : ShL) | qb (ss : ShL) (c : Nat) | lit (v : Value) | q (r : Rw) (c : Nat) | r (k : Nat) | pa (k c : Nat)
inductive ShL where
  | nil
  | cons (s : Sh) (ss : ShL)
end
mutual
@[reducible] def Sh.T : Sh → Type
  | .int _ => Int
  | .bool => Bool
  | .str => ByteArray
  | .l _ r => List r.T
  | .a ss => ss.T
  | .io ss => ss.T
  | .f _ ss => ss.T
  | .qb ss _ => ss.T
  | .q r _ => r.T
  | .r _ => Nat × Nat
  | .pa _ _ => Nat
  | _ => Unit
@[reducible] def ShL.T : ShL → Type
  | .nil => Unit
  | .cons s ss => s.T × ss.T
end
mutual
def Sh.mk : (s : Sh) → s.T → V
  | .x, _ => .x
  | .nl, _ => .nl
  | .int k, n => .s (.int k n)
  | .bool, b => .s (.bool b)
  | .str, b => .s (.string b)
  | .l o r, xs => .l o r xs
  | .w k, _ => .w k
  | .pb k c, _ => .pb k c
  | .a ss, d => .a (ss.mk d)
  | .io ss, d => .io (ss.mk d)
  | .f g ss, d => .f g (ss.mk d)
  | .qb ss c, d => .qb (ss.mk d) c
  | .lit v, _ => .s v
  | .q r c, d => .q r d c
  | .r k, d => .r k d.1 d.2
  | .pa k c, i => .pa k i c
def ShL.mk : (ss : ShL) → ss.T → List V
  | .nil, _ => []
  | .cons s ss, d => s.mk d.1 :: ss.mk d.2
end
mutual
def Sh.un : (s : Sh) → V → Option s.T
  | .x, .x => some ()
  | .nl, .nl => some ()
  | .int k, .s (.int k' n) => if k' = k then some n else none
  | .bool, .s (.bool b) => some b
  | .str, .s (.string b) => some b
  | .l o r, .l o' r' xs => if h : r' = r then (if o' = o then some (h ▸ xs) else none) else none
  | .w k, .w j => bif Nat.beq j k then some () else none
  | .pb k c, .pb j e => bif Nat.beq j k && Nat.beq e c then some () else none
  | .a ss, .a cs => ss.un cs
  | .io ss, .io cs => ss.un cs
  | .f g ss, .f g' cs => bif Nat.beq g' g then ss.un cs else none
  | .qb ss c, .qb cs c' => bif Nat.beq c' c then ss.un cs else none
  | .q r c, .q r' d c' => if h : r' = r then (bif Nat.beq c' c then some (h ▸ d) else none) else none
  | .r k, .r j off len => bif Nat.beq j k then some (off, len) else none
  | .pa k c, .pa j i e => bif Nat.beq j k && Nat.beq e c then some i else none
  | _, _ => none
def ShL.un : (ss : ShL) → List V → Option ss.T
  | .nil, [] => some ()
  | .cons s ss, v :: vs => match s.un v with
    | some d => match ss.un vs with
      | some e => some (d, e)
      | none => none
    | none => none
  | _, _ => none
end
mutual
theorem Sh.un_mk : (s : Sh) → {v : V} → {d : s.T} → s.un v = some d → v = s.mk d
  | .x, v, d, h => by cases v <;> simp [Sh.un] at h; rfl
  | .nl, v, d, h => by cases v <;> simp [Sh.un] at h; rfl
  | .int k, v, d, h => by
    cases v with
    | s u =>
      cases u with
      | int k' n =>
        simp only [Sh.un] at h
        split at h
        · rename_i hk; subst hk; cases h; rfl
        · cases h
      | _ => simp [Sh.un] at h
    | _ => simp [Sh.un] at h
  | .bool, v, d, h => by
    cases v with
    | s u =>
      cases u with
      | bool b => simp only [Sh.un] at h; cases h; rfl
      | _ => simp [Sh.un] at h
    | _ => simp [Sh.un] at h
  | .str, v, d, h => by
    cases v with
    | s u =>
      cases u with
      | string b => simp only [Sh.un] at h; cases h; rfl
      | _ => simp [Sh.un] at h
    | _ => simp [Sh.un] at h
  | .l o r, v, d, h => by
    cases v with
    | l o' r' xs =>
      simp only [Sh.un] at h
      split at h
      · rename_i hr
        subst hr
        split at h
        · rename_i ho; subst ho; cases h; rfl
        · cases h
      · cases h
    | _ => simp [Sh.un] at h
  | .lit u, v, d, h => by simp [Sh.un] at h
  | .io ss, v, d, h => by
    cases v with
    | io cs => simp only [Sh.un] at h; simp only [Sh.mk]; rw [ShL.un_mk ss h]
    | _ => simp [Sh.un] at h
  | .f g ss, v, d, h => by
    cases v with
    | f g' cs =>
      simp only [Sh.un] at h
      cases e : Nat.beq g' g with
      | true => rw [e] at h; simp only [Sh.mk]; rw [ShL.un_mk ss h, Nat.eq_of_beq_eq_true e]
      | false => rw [e] at h; cases h
    | _ => simp [Sh.un] at h
  | .qb ss c, v, d, h => by
    cases v with
    | qb cs c' =>
      simp only [Sh.un] at h
      cases e : Nat.beq c' c with
      | true => rw [e] at h; simp only [Sh.mk]; rw [ShL.un_mk ss h, Nat.eq_of_beq_eq_true e]
      | false => rw [e] at h; cases h
    | _ => simp [Sh.un] at h
  | .q r c, v, d, h => by
    cases v with
    | q r' e c' =>
      simp only [Sh.un] at h
      split at h
      · rename_i hr
        subst hr
        cases e1 : Nat.beq c' c with
        | true => rw [e1] at h; cases h; rw [Nat.eq_of_beq_eq_true e1]; rfl
        | false => rw [e1] at h; cases h
      · cases h
    | _ => simp [Sh.un] at h
  | .r k, v, d, h => by
    cases v with
    | r j off len =>
      simp only [Sh.un] at h
      cases e : Nat.beq j k with
      | true => rw [e] at h; cases h; rw [Nat.eq_of_beq_eq_true e]; rfl
      | false => rw [e] at h; cases h
    | _ => simp [Sh.un] at h
  | .pa k c, v, d, h => by
    cases v with
    | pa j i e =>
      simp only [Sh.un] at h
      cases e1 : (Nat.beq j k && Nat.beq e c) with
      | true =>
        rw [e1] at h
        simp only [Bool.and_eq_true] at e1
        cases h
        rw [Nat.eq_of_beq_eq_true e1.1, Nat.eq_of_beq_eq_true e1.2]; rfl
      | false => rw [e1] at h; cases h
    | _ => simp [Sh.un] at h
  | .w k, v, d, h => by
    cases v with
    | w j =>
      simp only [Sh.un] at h
      cases e : Nat.beq j k with
      | true => rw [Nat.eq_of_beq_eq_true e]; rfl
      | false => rw [e] at h; cases h
    | _ => simp [Sh.un] at h
  | .pb k c, v, d, h => by
    cases v with
    | pb j e =>
      simp only [Sh.un] at h
      cases e1 : (Nat.beq j k && Nat.beq e c) with
      | true =>
        simp only [Bool.and_eq_true] at e1
        rw [Nat.eq_of_beq_eq_true e1.1, Nat.eq_of_beq_eq_true e1.2]; rfl
      | false => rw [e1] at h; cases h
    | _ => simp [Sh.un] at h
  | .a ss, v, d, h => by
    cases v with
    | a cs => simp only [Sh.un] at h; simp only [Sh.mk]; rw [ShL.un_mk ss h]
    | _ => simp [Sh.un] at h
theorem ShL.un_mk : (ss : ShL) → {vs : List V} → {d : ss.T} → ss.un vs = some d → vs = ss.mk d
  | .nil, [], d, h => rfl
  | .nil, _ :: _, d, h => by simp [ShL.un] at h
  | .cons s ss, [], d, h => by simp [ShL.un] at h
  | .cons s ss, v :: vs, d, h => by
    simp only [ShL.un] at h
    split at h
    · rename_i e he
      split at h
      · rename_i f hf
        cases h
        simp only [ShL.mk]
        rw [← Sh.un_mk s he, ← ShL.un_mk ss hf]
      · cases h
    · cases h
end

/-- Objects, numbered from n on. -/
inductive Oh where
  | nil
  | arr (mu deep : Bool) (r : Rw) (o : Oh)
  | own (st : Bool) (r : Rw) (o : Oh)
  | box (ss : ShL) (o : Oh)
@[reducible] def Oh.T : Oh → Type
  | .nil => Unit
  | .arr _ _ r o => List r.T × o.T
  | .own _ r o => List r.T × o.T
  | .box ss o => ss.T × o.T
def Oh.mk : (o : Oh) → Nat → o.T → Obs
  | .nil, _, _ => []
  | .arr mu deep r o, n, d => (n, .arr mu deep r d.1) :: o.mk (n + 1) d.2
  | .own st r o, n, d => (n, .own st r d.1) :: o.mk (n + 1) d.2
  | .box ss o, n, d => (n, .box (ss.mk d.1)) :: o.mk (n + 1) d.2
def Oh.un : (o : Oh) → Nat → Obs → Option o.T
  | .nil, _, [] => some ()
  | .arr mu deep r o, n, (j, .arr mu' deep' r' xs) :: ob => if h : r' = r then (bif Nat.beq j n && (mu' == mu) && (deep' == deep) then (match o.un (n + 1) ob with
    | some e => some (h ▸ xs, e)
    | none => none) else none) else none
  | .own st r o, n, (j, .own st' r' xs) :: ob => if h : r' = r then (bif Nat.beq j n && (st' == st) then (match o.un (n + 1) ob with
    | some e => some (h ▸ xs, e)
    | none => none) else none) else none
  | .box ss o, n, (j, .box cs) :: ob => bif Nat.beq j n then (match ss.un cs with
    | some d => match o.un (n + 1) ob with
      | some e => some (d, e)
      | none => none
    | none => none) else none
  | _, _, _ => none
theorem Oh.un_mk : (o : Oh) → {n : Nat} → {ob : Obs} → {d : o.T} → o.un n ob = some d → ob = o.mk n d
  | .nil, n, [], d, h => rfl
  | .nil, n, _ :: _, d, h => by simp [Oh.un] at h
  | .arr mu deep r o, n, [], d, h => by simp [Oh.un] at h
  | .arr mu deep r o, n, (j, e) :: ob, d, h => by
    cases e with
    | arr mu' deep' r' xs =>
      simp only [Oh.un] at h
      split at h
      · rename_i hr
        subst hr
        cases e1 : (Nat.beq j n && (mu' == mu) && (deep' == deep)) with
        | true =>
          rw [e1] at h
          simp only [Bool.and_eq_true, beq_iff_eq] at e1
          obtain ⟨⟨h1, rfl⟩, rfl⟩ := e1
          have := Nat.eq_of_beq_eq_true h1
          subst this
          simp only [cond_true] at h
          split at h
          · rename_i f hf
            cases h
            simp only [Oh.mk]
            rw [← Oh.un_mk o hf]
          · cases h
        | false => rw [e1] at h; cases h
      · cases h
    | _ => simp [Oh.un] at h
  | .own st r o, n, [], d, h => by simp [Oh.un] at h
  | .own st r o, n, (j, e) :: ob, d, h => by
    cases e with
    | own st' r' xs =>
      simp only [Oh.un] at h
      split at h
      · rename_i hr
        subst hr
        cases e1 : (Nat.beq j n && (st' == st)) with
        | true =>
          rw [e1] at h
          simp only [Bool.and_eq_true, beq_iff_eq] at e1
          obtain ⟨h1, rfl⟩ := e1
          have := Nat.eq_of_beq_eq_true h1
          subst this
          simp only [cond_true] at h
          split at h
          · rename_i f hf
            cases h
            simp only [Oh.mk]
            rw [← Oh.un_mk o hf]
          · cases h
        | false => rw [e1] at h; cases h
      · cases h
    | _ => simp [Oh.un] at h
  | .box ss o, n, [], d, h => by simp [Oh.un] at h
  | .box ss o, n, (j, e) :: ob, d, h => by
    cases e with
    | box cs =>
      simp only [Oh.un] at h
      cases e1 : Nat.beq j n with
      | true =>
        rw [e1] at h
        have := Nat.eq_of_beq_eq_true e1
        subst this
        simp only [cond_true] at h
        split at h
        · rename_i f hf
          split at h
          · rename_i g hg
            cases h
            simp only [Oh.mk]
            rw [← ShL.un_mk ss hf, ← Oh.un_mk o hg]
          · cases h
        · cases h
      | false => rw [e1] at h; cases h
    | _ => simp [Oh.un] at h

structure Ss where
  tm : ShL
  ob : Oh
  nx : Nat
  io : ShL
abbrev Ss.T (s : Ss) : Type := s.tm.T × s.ob.T × s.io.T
def Ss.mk' (s : Ss) (d : s.T) : St := { tm := s.tm.mk d.1, ob := s.ob.mk 0 d.2.1, nx := s.nx, io := s.io.mk d.2.2 }
def Ss.un (s : Ss) (σ : St) : Option s.T :=
  match s.tm.un σ.tm with
  | none => none
  | some d => match s.ob.un 0 σ.ob with
    | none => none
    | some e => match s.io.un σ.io with
      | none => none
      | some f => bif Nat.beq σ.nx s.nx then some (d, e, f) else none
theorem Ss.un_mk {s : Ss} {σ : St} {d : s.T} (h : s.un σ = some d) : σ = s.mk' d := by
  unfold Ss.un at h
  split at h
  · cases h
  · rename_i d1 h1
    split at h
    · cases h
    · rename_i d2 h2
      split at h
      · cases h
      · rename_i d3 h3
        cases e : Nat.beq σ.nx s.nx with
        | false => rw [e] at h; cases h
        | true =>
          rw [e] at h
          cases h
          obtain ⟨tm, ob, nx, io⟩ := σ
          have := Nat.eq_of_beq_eq_true e
          simp only at h1 h2 h3 this
          subst this
          simp only [Ss.mk']
          rw [← ShL.un_mk _ h1, ← Oh.un_mk _ h2, ← ShL.un_mk _ h3]

/-! ### The loops of a piece of code -/
def loopsIn : Code → List Code
  | .seq a b => loopsIn a ++ loopsIn b
  | .cond _ a b => loopsIn a ++ loopsIn b
  | .block _ c => loopsIn c
  | .loop c => c :: loopsIn c
  | _ => []
def LoopOk (Γ : Env) (c : Code) : Prop := ∀ n F, firstRegion c = some n → Γ.sum n = some F → ∀ σ K r, F σ K = some r → ∃ m, rounds (run Γ c) (Γ.hint n).1 (Γ.hint n).2 m σ K = some r
theorem loopsOk_of {Γ : Env} : (c : Code) → (∀ b ∈ loopsIn c, LoopOk Γ b) → LoopsOk Γ c
  | .seq a b, h => ⟨loopsOk_of a (fun c hc => h c (by simp [loopsIn, hc])), loopsOk_of b (fun c hc => h c (by simp [loopsIn, hc]))⟩
  | .cond _ a b, h => ⟨loopsOk_of a (fun c hc => h c (by simp [loopsIn, hc])), loopsOk_of b (fun c hc => h c (by simp [loopsIn, hc]))⟩
  | .block _ c, h => loopsOk_of c (fun b hb => h b (by simpa [loopsIn] using hb))
  | .loop c, h => ⟨h c (by simp [loopsIn]), loopsOk_of c (fun b hb => h b (by simp [loopsIn, hb]))⟩
  | .skip, _ => trivial
  | .region _ _ _, _ => trivial
  | .exit _, _ => trivial
  | .goto _, _ => trivial
  | .label _, _ => trivial
  | .scope _, _ => trivial
  | .ret, _ => trivial
  | .rangeFunc _ _ _ _, _ => trivial
  | .refuse _, _ => trivial
end Go.Ev
end
section
/- What the functions' texts share. -/
namespace Go.Ev
set_option linter.unusedVariables false
abbrev LoopFn := St → (Ex → St → Option Ret) → Option Ret
theorem loopW_ok {Γ : Env} {c : Code} {n : Nat} {F : LoopFn} (hn : firstRegion c = some n) (hs : Γ.sum n = some F) {li lo : List Nat} (hh : Γ.hint n = (li, lo)) (h : ∀ σ K r, F σ K = some r → ∃ m, rounds (run Γ c) li lo m σ K = some r) : LoopOk Γ c := by
  intro n' F' hn' hF σ K r hr
  rw [hn] at hn'
  cases hn'
  rw [hs] at hF
  cases hF
  rw [hh]
  exact h σ K r hr
/-- The loops of a function: number, what lives at the head, at the exit, the summary. -/
def sumOf : List (Nat × List Nat × List Nat × LoopFn) → Nat → Option LoopFn
  | [], _ => none
  | (k, _, _, F) :: l, n => bif Nat.beq n k then some F else sumOf l n
def hintOf : List (Nat × List Nat × List Nat × LoopFn) → Nat → List Nat × List Nat
  | [], _ => ([], [])
  | (k, a, b, _) :: l, n => bif Nat.beq n k then (a, b) else hintOf l n
def planOf : List (Nat × Plan × List Nat) → Nat → Option (Plan × List Nat)
  | [], _ => none
  | (k, p, t) :: l, n => bif Nat.beq n k then some (p, t) else planOf l n
def memN (l : List Nat) (n : Nat) : Bool := l.any (Nat.beq n)
def xsh : Nat → ShL
  | 0 => .nil
  | n + 1 => .cons .x (xsh n)
def xd : (n : Nat) → (xsh n).T
  | 0 => ()
  | n + 1 => ((), xd n)
/-- The loop's body whose first region is n. -/
def bodyOf (f : Func) (n : Nat) : Code :=
  ((loopsIn (f.body.getD .skip)).find? (fun c => match firstRegion c with
    | some m => Nat.beq m n
    | none => false)).getD .skip
theorem wrap_id {n : Int} (h0 : 0 ≤ n) (h1 : n ≤ 4611686018427387905) : IntKind.i64.wrap n = n := by
  have : IntKind.i64.wrap n = Go.RowKit.wrap64 n := by
    simp only [IntKind.wrap, IntKind.bits, IntKind.signed, Go.RowKit.wrap64, Bool.true_and]
    split <;> simp_all <;> omega
  rw [this]; unfold Go.RowKit.wrap64; omega
theorem wrap_in {n : Int} (h0 : -9223372036854775808 ≤ n) (h1 : n ≤ 9223372036854775807) : IntKind.i64.wrap n = n := by
  have : IntKind.i64.wrap n = Go.RowKit.wrap64 n := by
    simp only [IntKind.wrap, IntKind.bits, IntKind.signed, Go.RowKit.wrap64, Bool.true_and]
    split <;> simp_all <;> omega
  rw [this]; unfold Go.RowKit.wrap64; omega
def takes : List Nat → Plan
  | [] => .done
  | i :: l => .take i (takes l)
def takeB : List Nat → Plan → Plan
  | [], p => p
  | i :: l, p => .take i (takeB l p)
section
variable {P : Program} {I : Nat → World → Prop}
theorem mem0 : ∀ q ∈ ([] : List (Nat × Bool × Sm)), OkFn P I q.1 q.2.1 q.2.2 := fun _ h => nomatch h
theorem memc {g : Nat} {b : Bool} {G : Sm} {l : List (Nat × Bool × Sm)} (h : OkFn P I g b G) (hl : ∀ q ∈ l, OkFn P I q.1 q.2.1 q.2.2) : ∀ q ∈ (g, b, G) :: l, OkFn P I q.1 q.2.1 q.2.2 := fun q hq => by
  rcases List.mem_cons.1 hq with rfl | hq
  · exact h
  · exact hl q hq
/-- All loops of a function, one after the other. -/
def LoopsAll (Γ : Env) (cs : List Code) : Prop := ∀ b ∈ cs, LoopOk Γ b
theorem loops0 {Γ : Env} : LoopsAll Γ [] := fun _ h => nomatch h
theorem loopsc {Γ : Env} {c : Code} {cs : List Code} (h : LoopOk Γ c) (hl : LoopsAll Γ cs) : LoopsAll Γ (c :: cs) := fun q hq => by
  rcases List.mem_cons.1 hq with rfl | hq
  · exact h
  · exact hl q hq
end
def nilsOf : List (Nat × List (Nat × Nat × Rw)) → Nat → List (Nat × Nat × Rw)
  | [], _ => []
  | (k, q) :: l, n => bif Nat.beq n k then q else nilsOf l n
/-- A table of types, contracts, plans and loops. -/
def mkE (ty : Nat → Option Ty) (l : List (Nat × Bool × Sm)) (p : List (Nat × Plan × List Nat) := []) (ls : List (Nat × List Nat × List Nat × LoopFn) := []) (lend : List Nat := []) (focus : Bool := false) (fuel : Nat := 0) (give : List Nat := []) (glob : Nat → Option ((r : Rw) × List r.T) := fun _ => none) (nils : List (Nat × List (Nat × Nat × Rw)) := []) : Env :=
  { ty := ty, fn := tab l, hint := hintOf ls, plan := planOf p, sum := sumOf ls, lend := ⟨memN lend, memN give⟩, focus := focus, fuel := fuel, glob := glob, nils := nilsOf nils }
end Go.Ev
namespace Go.Ev.Seat
open Go.RowKit
set_option maxRecDepth 100000
set_option linter.unusedVariables false
noncomputable abbrev prog := Go.Proofs.Try.prog
noncomputable abbrev En (l : List (Nat × Bool × Sm)) (p : List (Nat × Plan × List Nat) := []) (ls : List (Nat × List Nat × List Nat × LoopFn) := []) (lend : List Nat := []) (focus : Bool := false) (fuel : Nat := 0) (give : List Nat := []) (nils : List (Nat × List (Nat × Nat × Rw)) := []) : Env := mkE tys.get l p ls lend focus fuel give globs nils
/-- A function keeps its contract. -/
theorem ok_fn {l : List (Nat × Bool × Sm)} {p : List (Nat × Plan × List Nat)} {ls : List (Nat × List Nat × List Nat × LoopFn)} {lend : List Nat} {focus : Bool} {fuel : Nat} {give : List Nat} {nils : List (Nat × List (Nat × Nat × Rw))} (hl : ∀ q ∈ l, OkFn prog I q.1 q.2.1 q.2.2) {g : FuncId} {fn : Func} (hg : prog.funcs[g]? = some fn) (hname : (fn.name == "runtime.NumGoroutine") = false) (hb : fn.body = some (fn.body.getD .skip)) (hpl : plansOk (planOf p) (fn.body.getD .skip) = true) {cs : List Code} (hcs : loopsIn (fn.body.getD .skip) = cs) (hlo : LoopsAll (En l p ls lend focus fuel give nils) cs) {fresh : Bool} : OkFn prog I g fresh (evF (En l p ls lend focus fuel give nils) fresh fn) :=
  evF_ok (Γ := En l p ls lend focus fuel give nils) mixed tysOk ⟨fun g fresh G h => tab_ok hl g fresh G h, globOk rfl⟩ hg hname hb hpl (loopsOk_of _ (by rw [hcs]; exact hlo))
abbrev bytesR : Rw := .one (.int .u8)
abbrev intR : Rw := .one (.int .i64)
end Go.Ev.Seat
end
section
/- The laws' helpers, for all kinds of rows at once: how much lies there, equal, copied, marked, held. -/
set_option linter.unusedVariables false
namespace Go.Ev

/-! ### Marks -/
def markList {α : Type} (f : α → Int → α × Int) : List α → Int → List α × Int
  | [], k => ([], k)
  | x :: xs, k => ((f x k).1 :: (markList f xs (f x k).2).1, (markList f xs (f x k).2).2)
/-- The text of a mark; what it is does not matter here. -/
structure MText where
  t : Int → ByteArray
def markInt : IntKind → Int → Int
  | .i64, n => n
  | k, n => k.wrap n
mutual
def Cc.mark (T : MText) : (c : Cc) → c.T → Int → c.T × Int
  | .int k, _, n => (markInt k n, IntKind.i64.wrap (n + 1))
  | .bool, b, n => (b, n)
  | .str, _, n => (T.t n, IntKind.i64.wrap (n + 1))
  | .sl r, xs, n => markList (r.mark T) xs n
def Rw.mark (T : MText) : (r : Rw) → r.T → Int → r.T × Int
  | .one c, d, n => c.mark T d n
  | .cons c r, d, n => ((( c.mark T d.1 n).1, (r.mark T d.2 (c.mark T d.1 n).2).1), (r.mark T d.2 (c.mark T d.1 n).2).2)
end
theorem markList_len {α : Type} (f : α → Int → α × Int) : ∀ (xs : List α) (k : Int), (markList f xs k).1.length = xs.length
  | [], _ => rfl
  | x :: xs, k => by simp [markList, markList_len f xs]
theorem markList_idem {α : Type} {f : α → Int → α × Int} (h : ∀ x k, f (f x k).1 k = f x k) : ∀ (xs : List α) (k : Int), markList f (markList f xs k).1 k = markList f xs k
  | [], _ => rfl
  | x :: xs, k => by simp only [markList, h, markList_idem h xs]
mutual
theorem Cc.mark_idem (T : MText) : (c : Cc) → (d : c.T) → (k : Int) → c.mark T (c.mark T d k).1 k = c.mark T d k
  | .int _, _, _ => rfl
  | .bool, _, _ => rfl
  | .str, _, _ => rfl
  | .sl r, xs, k => by simp only [Cc.mark]; exact markList_idem (fun x k => Rw.mark_idem T r x k) xs k
theorem Rw.mark_idem (T : MText) : (r : Rw) → (d : r.T) → (k : Int) → r.mark T (r.mark T d k).1 k = r.mark T d k
  | .one c, d, k => Cc.mark_idem T c d k
  | .cons c r, d, k => by simp only [Rw.mark, Cc.mark_idem T c, Rw.mark_idem T r]
end
/-! ### How much -/
def sumW {α : Type} (f : α → Nat) : List α → Nat
  | [] => 0
  | x :: xs => f x + sumW f xs
mutual
def Cc.w : (c : Cc) → c.T → Nat
  | .int _, _ => 0
  | .bool, _ => 0
  | .str, s => s.size
  | .sl r, xs => xs.length + sumW r.w xs
def Rw.w : (r : Rw) → r.T → Nat
  | .one c, d => c.w d
  | .cons c r, d => c.w d.1 + r.w d.2
end
mutual
def Cc.marks : (c : Cc) → c.T → Nat
  | .int _, _ => 1
  | .bool, _ => 0
  | .str, _ => 1
  | .sl r, xs => sumW r.marks xs
def Rw.marks : (r : Rw) → r.T → Nat
  | .one c, d => c.marks d
  | .cons c r, d => c.marks d.1 + r.marks d.2
end
theorem markList_cnt {α : Type} {f : α → Int → α × Int} {m : α → Nat} (h : ∀ x (k : Int), 0 ≤ k → k + m x ≤ 4611686018427387904 → (f x k).2 = k + m x) : ∀ (xs : List α) (k : Int), 0 ≤ k → k + sumW m xs ≤ 4611686018427387904 → (markList f xs k).2 = k + sumW m xs
  | [], k, _, _ => by simp [markList, sumW]
  | x :: xs, k, h0, h1 => by
    simp only [markList, sumW] at h1 ⊢
    have e := h x k h0 (by omega)
    rw [markList_cnt h xs _ (by rw [e]; omega) (by rw [e]; omega), e]
    omega
mutual
theorem Cc.mark_cnt (T : MText) : (c : Cc) → (d : c.T) → (k : Int) → 0 ≤ k → k + c.marks d ≤ 4611686018427387904 → (c.mark T d k).2 = k + c.marks d
  | .int _, d, k, h0, h1 => by simp only [Cc.mark, Cc.marks] at h1 ⊢; rw [wrap_id (by omega) (by omega)]; rfl
  | .bool, d, k, h0, h1 => by simp [Cc.mark, Cc.marks]
  | .str, d, k, h0, h1 => by simp only [Cc.mark, Cc.marks] at h1 ⊢; rw [wrap_id (by omega) (by omega)]; rfl
  | .sl r, xs, k, h0, h1 => by simp only [Cc.mark, Cc.marks] at h1 ⊢; exact markList_cnt (fun x k => Rw.mark_cnt T r x k) xs k h0 h1
theorem Rw.mark_cnt (T : MText) : (r : Rw) → (d : r.T) → (k : Int) → 0 ≤ k → k + r.marks d ≤ 4611686018427387904 → (r.mark T d k).2 = k + r.marks d
  | .one c, d, k, h0, h1 => Cc.mark_cnt T c d k h0 h1
  | .cons c r, d, k, h0, h1 => by
    simp only [Rw.mark, Rw.marks] at h1 ⊢
    have e := Cc.mark_cnt T c d.1 k h0 (by omega)
    rw [Rw.mark_cnt T r d.2 _ (by rw [e]; omega) (by rw [e]; omega), e]
    omega
end
/-! ### Small enough to be copied -/
mutual
def Cc.lim : (c : Cc) → c.T → Bool
  | .int _, _ => true
  | .bool, _ => true
  | .str, _ => true
  | .sl r, xs => Nat.ble xs.length 1048576 && xs.all r.lim
def Rw.lim : (r : Rw) → r.T → Bool
  | .one c, d => c.lim d
  | .cons c r, d => c.lim d.1 && r.lim d.2
end
theorem sumW_mem {α : Type} {f : α → Nat} : ∀ {xs : List α} {x : α}, x ∈ xs → f x ≤ sumW f xs
  | y :: xs, x, h => by
    simp only [sumW]
    rcases List.mem_cons.1 h with rfl | h
    · omega
    · have := sumW_mem (f := f) h; omega
mutual
theorem Cc.lim_ok : (c : Cc) → (d : c.T) → c.w d ≤ 1048576 → c.lim d = true
  | .int _, _, _ => rfl
  | .bool, _, _ => rfl
  | .str, _, _ => rfl
  | .sl r, xs, h => by
    simp only [Cc.w] at h
    simp only [Cc.lim, Bool.and_eq_true, List.all_eq_true]
    refine ⟨Nat.ble_eq_true_of_le (by omega), fun x hx => ?_⟩
    have := sumW_mem (f := r.w) hx
    exact Rw.lim_ok r x (by omega)
theorem Rw.lim_ok : (r : Rw) → (d : r.T) → r.w d ≤ 1048576 → r.lim d = true
  | .one c, d, h => Cc.lim_ok c d h
  | .cons c r, d, h => by
    simp only [Rw.w] at h
    simp only [Rw.lim, Bool.and_eq_true]
    exact ⟨Cc.lim_ok c d.1 (by omega), Rw.lim_ok r d.2 (by omega)⟩
end
/-! ### Equality -/
/-! ### Rounds of loops over a list -/
section
variable {α β : Type} {ρ : Type}
end
end Go.Ev
end
section
/- The laws' helpers: their contracts, for all kinds of rows at once. -/
set_option linter.unusedVariables false
namespace Go.Ev

/-! ### What comes in, read as data -/
def Cc.dec : (c : Cc) → V → Option c.T
  | .int k, .s (.int k' n) => if k' = k then some n else none
  | .bool, .s (.bool b) => some b
  | .str, .s (.string b) => some b
  | .sl r, .l .no r' xs => if h : r' = r then some (h ▸ xs) else none
  | _, _ => none
def Rw.dec : (r : Rw) → List V → Option r.T
  | .one c, [v] => c.dec v
  | .cons c r, v :: vs => match c.dec v with
    | some d => match r.dec vs with
      | some e => some (d, e)
      | none => none
    | none => none
  | _, _ => none
theorem Cc.dec_ok : (c : Cc) → {v : V} → {d : c.T} → c.dec v = some d → v = c.cell .no d
  | .int k, v, d, h => by
    cases v with
    | s u =>
      cases u with
      | int k' n =>
        simp only [Cc.dec] at h
        split at h
        · rename_i hk; subst hk; cases h; rfl
        · cases h
      | _ => simp [Cc.dec] at h
    | _ => simp [Cc.dec] at h
  | .bool, v, d, h => by
    cases v with
    | s u => cases u <;> simp only [Cc.dec, reduceCtorEq, Option.some.injEq] at h; subst h; rfl
    | _ => simp [Cc.dec] at h
  | .str, v, d, h => by
    cases v with
    | s u => cases u <;> simp only [Cc.dec, reduceCtorEq, Option.some.injEq] at h; subst h; rfl
    | _ => simp [Cc.dec] at h
  | .sl r, v, d, h => by
    cases v with
    | l o r' xs =>
      cases o <;> simp only [Cc.dec, reduceCtorEq] at h
      split at h
      · rename_i hr; subst hr; cases h; rfl
      · cases h
    | _ => simp [Cc.dec] at h
theorem Rw.dec_ok : (r : Rw) → {vs : List V} → {d : r.T} → r.dec vs = some d → vs = r.cells .no d
  | .one c, [], d, h => by simp [Rw.dec] at h
  | .one c, [v], d, h => by
    simp only [Rw.dec] at h
    rw [Cc.dec_ok c h]; rfl
  | .one c, _ :: _ :: _, d, h => by simp [Rw.dec] at h
  | .cons c r, [], d, h => by simp [Rw.dec] at h
  | .cons c r, v :: vs, d, h => by
    simp only [Rw.dec] at h
    split at h
    · rename_i d1 e1
      split at h
      · rename_i d2 e2
        cases h
        rw [Cc.dec_ok c e1, Rw.dec_ok r e2]; rfl
      · cases h
    · cases h

def sc (n : Int) : V := .s (.int .i64 n)
def bl (b : Bool) : V := .s (.bool b)
/-! ### Contracts: of slices (L) and of structs (A) -/
mutual
/-- All lists short enough for a counter. -/
def Cc.cnt : (c : Cc) → c.T → Bool
  | .sl r, xs => Nat.ble xs.length 4611686018427387904 && xs.all r.cnt
  | _, _ => true
def Rw.cnt : (r : Rw) → r.T → Bool
  | .one c, d => c.cnt d
  | .cons c r, d => c.cnt d.1 && r.cnt d.2
end
mutual
/-- All lists as short as Go has them. -/
def Cc.cnz : (c : Cc) → c.T → Bool
  | .sl r, xs => Nat.ble xs.length 9223372036854775807 && xs.all r.cnz
  | _, _ => true
def Rw.cnz : (r : Rw) → r.T → Bool
  | .one c, d => c.cnz d
  | .cons c r, d => c.cnz d.1 && r.cnz d.2
end
mutual
theorem Cc.cnt_of_lim : (c : Cc) → (d : c.T) → c.lim d = true → c.cnt d = true
  | .int _, _, _ => rfl
  | .bool, _, _ => rfl
  | .str, _, _ => rfl
  | .sl r, xs, h => by
    simp only [Cc.lim, Cc.cnt, Bool.and_eq_true, List.all_eq_true] at h ⊢
    exact ⟨Nat.ble_eq_true_of_le (by have := Nat.le_of_ble_eq_true h.1; omega), fun x hx => Rw.cnt_of_lim r x (h.2 x hx)⟩
theorem Rw.cnt_of_lim : (r : Rw) → (d : r.T) → r.lim d = true → r.cnt d = true
  | .one c, d, h => Cc.cnt_of_lim c d h
  | .cons c r, d, h => by
    simp only [Rw.lim, Rw.cnt, Bool.and_eq_true] at h ⊢
    exact ⟨Cc.cnt_of_lim c d.1 h.1, Rw.cnt_of_lim r d.2 h.2⟩
end
mutual
def Cc.decO : (c : Cc) → V → Option c.T
  | .int k, .s (.int k' n) => if k' = k then some n else none
  | .bool, .s (.bool b) => some b
  | .str, .s (.string b) => some b
  | .sl r, .l .own r' xs => if h : r' = r then some (h ▸ xs) else none
  | _, _ => none
def Rw.decO : (r : Rw) → List V → Option r.T
  | .one c, [v] => c.decO v
  | .cons c r, v :: vs => match c.decO v with
    | some d => match r.decO vs with
      | some e => some (d, e)
      | none => none
    | none => none
  | _, _ => none
end
theorem wrap_nat {i : Nat} (h : i ≤ 4611686018427387904) : IntKind.i64.wrap (((i : Nat) : Int) + 1) = (((i + 1 : Nat)) : Int) := by
  rw [wrap_id (by omega) (by omega)]; rfl
/-! ### From a function's law to its contract -/
section
variable {P : Program} {I : Nat → World → Prop}
variable {r : Rw} {G : Sm} {T : MText}
end

/-! ### Chains in the structs' helpers -/
section
variable {ρ : Type}
end
end Go.Ev
end
section
/- Contracts by signature: what comes in is read as data; what goes out is a function of it. -/
set_option linter.unusedVariables false
namespace Go.Ev
inductive Ak where
  | sc1 (k : Cc)
  | a (r : Rw)
  | l (r : Rw)
  | i
  | b
  | sh (s : Sh)
abbrev Ak.T : Ak → Type
  | .a r => r.T
  | .l r => List r.T
  | .i => Int
  | .b => Bool
  | .sc1 k => k.T
  | .sh s => s.T
def Ak.v : (k : Ak) → k.T → V
  | .a r, d => .a (r.cells .no d)
  | .l r, d => .l .no r d
  | .i, n => .s (.int .i64 n)
  | .b, c => .s (.bool c)
  | .sc1 k, d => k.cell .no d
  | .sh s, d => s.mk d
def Ak.dec : (k : Ak) → V → Option k.T
  | .a r, .a cs => r.dec cs
  | .l r, v => (Cc.sl r).dec v
  | .i, .s (.int .i64 n) => some n
  | .b, .s (.bool c) => some c
  | .sc1 k, v => k.dec v
  | .sh s, v => s.un v
  | _, _ => none
theorem Ak.dec_ok : (k : Ak) → {v : V} → {d : k.T} → k.dec v = some d → v = k.v d
  | .a r, v, d, h => by
    cases v with
    | a cs => simp only [Ak.dec] at h; rw [Rw.dec_ok r h]; rfl
    | _ => simp [Ak.dec] at h
  | .l r, v, d, h => by
    have h' : (Cc.sl r).dec v = some d := by
      cases v <;> simpa [Ak.dec] using h
    rw [Cc.dec_ok (.sl r) h']; rfl
  | .i, v, d, h => by
    cases v with
    | s u =>
      cases u with
      | int k n => cases k <;> simp [Ak.dec] at h <;> subst h <;> rfl
      | _ => simp [Ak.dec] at h
    | _ => simp [Ak.dec] at h
  | .sc1 k, v, d, h => by
    have h' : k.dec v = some d := by
      cases v <;> simpa [Ak.dec] using h
    exact Cc.dec_ok k h'
  | .sh s, v, d, h => by
    have h' : s.un v = some d := by
      cases v <;> simpa [Ak.dec] using h
    exact Sh.un_mk s h'
  | .b, v, d, h => by
    cases v with
    | s u =>
      cases u with
      | bool c => simp [Ak.dec] at h; subst h; rfl
      | _ => simp [Ak.dec] at h
    | _ => simp [Ak.dec] at h
abbrev SgT : List Ak → Type
  | [] => Unit
  | k :: ks => k.T × SgT ks
def sgV : (ks : List Ak) → SgT ks → List V
  | [], _ => []
  | k :: ks, d => k.v d.1 :: sgV ks d.2
mutual
theorem Cc.cnz_of_wf : (c : Cc) → (d : c.T) → c.wf d → c.cnz d = true
  | .int _, _, _ => rfl
  | .bool, _, _ => rfl
  | .str, _, _ => rfl
  | .sl r, xs, h => by
    simp only [Cc.cnz, Bool.and_eq_true, List.all_eq_true]
    exact ⟨Nat.ble_eq_true_of_le h.1, fun x hx => Rw.cnz_of_wf r x (h.2 x hx)⟩
theorem Rw.cnz_of_wf : (r : Rw) → (d : r.T) → r.wf d → r.cnz d = true
  | .one c, d, h => Cc.cnz_of_wf c d h
  | .cons c r, d, h => by
    simp only [Rw.cnz, Bool.and_eq_true]
    exact ⟨Cc.cnz_of_wf c d.1 h.1, Rw.cnz_of_wf r d.2 h.2⟩
end

/-! ### How many marks -/
mutual
def Cc.mx : Cc → Bool
  | .sl r => Nat.ble r.sc 32 && r.mx
  | _ => true
def Rw.mx : Rw → Bool
  | .one c => c.mx
  | .cons c r => c.mx && r.mx
def Cc.sc : Cc → Nat
  | .sl _ => 0
  | _ => 1
def Rw.sc : Rw → Nat
  | .one c => c.sc
  | .cons c r => c.sc + r.sc
end
mutual
theorem Cc.marks_le : (c : Cc) → c.mx = true → (d : c.T) → c.marks d ≤ c.sc + 32 * c.w d
  | .int _, _, _ => by simp [Cc.marks, Cc.sc, Cc.w]
  | .bool, _, _ => by simp [Cc.marks, Cc.sc, Cc.w]
  | .str, _, d => by simp only [Cc.marks, Cc.sc, Cc.w]; omega
  | .sl r, h, xs => by
    simp only [Cc.mx, Bool.and_eq_true] at h
    have h1 : r.sc ≤ 32 := Nat.le_of_ble_eq_true h.1
    have key : ∀ ys : List r.T, sumW r.marks ys ≤ 32 * (ys.length + sumW r.w ys) := by
      intro ys
      induction ys with
      | nil => simp [sumW]
      | cons y ys ih =>
        have := Rw.marks_le r h.2 y
        simp only [sumW, List.length_cons]
        omega
    simp only [Cc.marks, Cc.sc, Cc.w]
    have := key xs
    omega
theorem Rw.marks_le : (r : Rw) → r.mx = true → (d : r.T) → r.marks d ≤ r.sc + 32 * r.w d
  | .one c, h, d => Cc.marks_le c h d
  | .cons c r, h, d => by
    simp only [Rw.mx, Bool.and_eq_true] at h
    have h1 := Cc.marks_le c h.1 d.1
    have h2 := Rw.marks_le r h.2 d.2
    simp only [Rw.marks, Rw.sc, Rw.w]
    omega
end
mutual
theorem Cc.cnt_of_w : (c : Cc) → (d : c.T) → c.w d ≤ 4611686018427387904 → c.cnt d = true
  | .int _, _, _ => rfl
  | .bool, _, _ => rfl
  | .str, _, _ => rfl
  | .sl r, xs, h => by
    simp only [Cc.w] at h
    simp only [Cc.cnt, Bool.and_eq_true, List.all_eq_true]
    refine ⟨Nat.ble_eq_true_of_le (by omega), fun x hx => ?_⟩
    have := sumW_mem (f := r.w) hx
    exact Rw.cnt_of_w r x (by omega)
theorem Rw.cnt_of_w : (r : Rw) → (d : r.T) → r.w d ≤ 4611686018427387904 → r.cnt d = true
  | .one c, d, h => Cc.cnt_of_w c d h
  | .cons c r, d, h => by
    simp only [Rw.w] at h
    simp only [Rw.cnt, Bool.and_eq_true]
    exact ⟨Cc.cnt_of_w c d.1 (by omega), Rw.cnt_of_w r d.2 (by omega)⟩
end
mutual
theorem Cc.mark_w (T : MText) : (c : Cc) → (d : c.T) → (k : Int) → c.cnt (c.mark T d k).1 = c.cnt d
  | .int _, _, _ => rfl
  | .bool, _, _ => rfl
  | .str, _, _ => rfl
  | .sl r, xs, k => by
    simp only [Cc.cnt, Cc.mark, markList_len]
    have key : ∀ (xs : List r.T) (k : Int), (markList (r.mark T) xs k).1.all r.cnt = xs.all r.cnt := by
      intro xs
      induction xs with
      | nil => intro k; rfl
      | cons x xs ih =>
        intro k
        simp only [markList, List.all_cons]
        rw [ih, Rw.mark_w T r x k]
    rw [key]
theorem Rw.mark_w (T : MText) : (r : Rw) → (d : r.T) → (k : Int) → r.cnt (r.mark T d k).1 = r.cnt d
  | .one c, d, k => Cc.mark_w T c d k
  | .cons c r, d, k => by simp only [Rw.cnt, Rw.mark]; rw [Cc.mark_w T c, Rw.mark_w T r]
end
mutual
theorem Cc.mark_marks (T : MText) : (c : Cc) → (d : c.T) → (k : Int) → c.marks (c.mark T d k).1 = c.marks d
  | .int _, _, _ => rfl
  | .bool, _, _ => rfl
  | .str, _, _ => rfl
  | .sl r, xs, k => by
    have key : ∀ (xs : List r.T) (k : Int), sumW r.marks (markList (r.mark T) xs k).1 = sumW r.marks xs := by
      intro xs
      induction xs with
      | nil => intro k; rfl
      | cons x xs ih =>
        intro k
        simp only [markList, sumW]
        rw [ih, Rw.mark_marks T r x k]
    exact key xs k
theorem Rw.mark_marks (T : MText) : (r : Rw) → (d : r.T) → (k : Int) → r.marks (r.mark T d k).1 = r.marks d
  | .one c, d, k => Cc.mark_marks T c d k
  | .cons c r, d, k => by simp only [Rw.marks, Rw.mark]; rw [Cc.mark_marks T c, Rw.mark_marks T r]
end
/-! ### The exact laws, step by step -/
section
variable {ρ : Type}
end
end Go.Ev
end
section
/- A result that is owned may be taken as one that is only read. -/
set_option linter.unusedVariables false
namespace Go.Ev
def noC : V → V
  | .l _ r xs => .l .no r xs
  | v => v
def noV : V → V
  | .a cs => .a (cs.map noC)
  | v => noC v
def noR : V → V
  | .t us => .t (us.map noV)
  | u => noV u
section
variable {w : World}
theorem vr_nO {r : Rw} {xs : List r.T} {c : Value} {F M : List Nat} {e e' : Bool} (h : SlT (RwR w e r) w e' r.n xs c F) (hM : ∀ b ∈ F, b ∈ M) : VR (Cx.ext (· ∈ M)) w (.l .no r xs) c :=
  ⟨F, h.loose, hM⟩
theorem CellR.no {v : V} {c : Value} {O M H : List Nat} (h : CellR w v c O M H) : ∃ M', CellR w (noC v) c [] M' [] ∧ ∀ x ∈ M', x ∈ M ∨ x ∈ O := by
  unfold CellR at h
  split at h
  · rename_i r xs
    obtain ⟨h1, _, _⟩ := h
    exact ⟨O, CellR.plain (vr_nO h1 (fun _ h => h)) (by simp [noC]) (by simp [noC]) (by simp [noC]), fun x hx => .inr hx⟩
  · rename_i r xs
    obtain ⟨F, h1, rfl, rfl, _⟩ := h
    refine ⟨F, CellR.plain (vr_nO h1 (fun _ h => h)) (by simp [noC]) (by simp [noC]) (by simp [noC]), fun x hx => ?_⟩
    cases F with
    | nil => cases hx
    | cons b F =>
      rcases List.mem_cons.1 hx with rfl | hx
      · exact .inr (by simp)
      · exact .inl (by simpa using hx)
  · rename_i r xs
    obtain ⟨h1, _, _⟩ := h
    exact ⟨O, CellR.plain (vr_nO h1 (fun _ h => h)) (by simp [noC]) (by simp [noC]) (by simp [noC]), fun x hx => .inr hx⟩
  · rename_i n1 n2 n3
    obtain ⟨h1, _, _⟩ := h
    cases v with
    | l o r xs =>
      cases o with
      | no => exact ⟨M, CellR.plain h1 (by simp [noC]) (by simp [noC]) (by simp [noC]), fun x hx => .inl hx⟩
      | deep => exact absurd rfl (n1 _ _)
      | top => exact absurd rfl (n2 _ _)
      | own => exact absurd rfl (n3 _ _)
    | _ => exact ⟨M, CellR.plain h1 (by simp [noC]) (by simp [noC]) (by simp [noC]), fun x hx => .inl hx⟩
theorem CellsR.no : ∀ {cs : List V} {vs : List Value} {O M H : List Nat}, CellsR w cs vs O M H → ∃ M', CellsR w (cs.map noC) vs [] M' [] ∧ ∀ x ∈ M', x ∈ M ∨ x ∈ O
  | [], _, _, _, _, ⟨h1, h2, h3, h4⟩ => ⟨[], ⟨h1, rfl, rfl, rfl⟩, fun _ h => (nomatch h)⟩
  | c :: cs, _, _, _, _, ⟨v, vs', O1, O2, M1, M2, H1, H2, h1, h2, h3, h4, h5, h6⟩ => by
    obtain ⟨A, a1, a2⟩ := h5.no
    obtain ⟨B, b1, b2⟩ := CellsR.no h6
    refine ⟨A ++ B, ⟨v, vs', [], [], A, B, [], [], h1, rfl, rfl, rfl, a1, b1⟩, fun x hx => ?_⟩
    rw [h2, h3]
    rcases List.mem_append.1 hx with hx | hx
    · rcases a2 x hx with h | h
      · exact .inl (List.mem_append.2 (.inl h))
      · exact .inr (List.mem_append.2 (.inl h))
    · rcases b2 x hx with h | h
      · exact .inl (List.mem_append.2 (.inr h))
      · exact .inr (List.mem_append.2 (.inr h))
def V.isIo : V → Bool
  | .io _ => true
  | _ => false
theorem ArgR.no {v : V} {c : Value} {O M H : List Nat} (h : ArgR w v c O M H) (hv : v.isIo = false) : ∃ M', ArgR w (noV v) c [] M' [] ∧ ∀ x ∈ M', x ∈ M ∨ x ∈ O := by
  unfold ArgR at h
  split at h
  · cases hv
  · rename_i cs
    obtain ⟨vs, rfl, h2⟩ := h
    obtain ⟨M', a1, a2⟩ := h2.no
    exact ⟨M', ⟨vs, rfl, a1⟩, a2⟩
  · rename_i n1 n2
    obtain ⟨M', a1, a2⟩ := h.no
    refine ⟨M', ?_, a2⟩
    cases v with
    | a cs => exact absurd rfl (n2 _)
    | io cs => exact absurd rfl (n1 _)
    | _ => exact a1
theorem ArgsR.no : ∀ {us : List V} {vs : List Value} {O M H : List Nat}, ArgsR w us vs O M H → us.all (fun u => !u.isIo) = true → ∃ M', ArgsR w (us.map noV) vs [] M' [] ∧ ∀ x ∈ M', x ∈ M ∨ x ∈ O
  | [], _, _, _, _, ⟨h1, h2, h3, h4⟩, _ => ⟨[], ⟨h1, rfl, rfl, rfl⟩, fun _ h => (nomatch h)⟩
  | c :: cs, _, _, _, _, ⟨v, vs', O1, O2, M1, M2, H1, H2, h1, h2, h3, h4, h5, h6⟩, hi => by
    simp only [List.all_cons, Bool.and_eq_true, Bool.not_eq_true'] at hi
    obtain ⟨A, a1, a2⟩ := h5.no hi.1
    obtain ⟨B, b1, b2⟩ := ArgsR.no h6 hi.2
    refine ⟨A ++ B, ⟨v, vs', [], [], A, B, [], [], h1, rfl, rfl, rfl, a1, b1⟩, fun x hx => ?_⟩
    rw [h2, h3]
    rcases List.mem_append.1 hx with hx | hx
    · rcases a2 x hx with h | h
      · exact .inl (List.mem_append.2 (.inl h))
      · exact .inr (List.mem_append.2 (.inl h))
    · rcases b2 x hx with h | h
      · exact .inl (List.mem_append.2 (.inr h))
      · exact .inr (List.mem_append.2 (.inr h))
def V.okNo : V → Bool
  | .t us => us.all (fun u => !u.isIo)
  | u => !u.isIo
theorem RetR.no {u : V} {c : Value} {O M H : List Nat} (h : RetR w u c O M H) (hu : u.okNo = true) : ∃ M', RetR w (noR u) c [] M' [] ∧ ∀ x ∈ M', x ∈ M ∨ x ∈ O := by
  unfold RetR at h
  split at h
  · obtain ⟨vs, rfl, h2⟩ := h
    obtain ⟨M', a1, a2⟩ := h2.no hu
    exact ⟨M', ⟨vs, rfl, a1⟩, a2⟩
  · rename_i n1
    cases u with
    | t us => exact absurd rfl (n1 _)
    | io cs => simp [V.okNo, V.isIo] at hu
    | a cs =>
      obtain ⟨M', a1, a2⟩ := ArgR.no h rfl
      exact ⟨M', a1, a2⟩
    | l o r xs =>
      obtain ⟨M', a1, a2⟩ := ArgR.no h rfl
      exact ⟨M', a1, a2⟩
    | _ =>
      obtain ⟨M', a1, a2⟩ := ArgR.no h rfl
      exact ⟨M', a1, a2⟩
end
theorem ArgsR.hsub' {w : World} {us : List V} {vs : List Value} {O M H : List Nat} (h : ArgsR w us vs O M H) : ∀ x ∈ H, x ∈ O := h.hsub
/-- The contract whose results are only read. -/
def S_no (G : Sm) : Sm := fun ws K => G ws fun q => bif q.1.okNo then K (noR q.1, q.2) else none
theorem OkFn.no {P : Program} {I : Nat → World → Prop} {g : FuncId} {f : Bool} {G : Sm} (h : OkFn P I g f G) : OkFn P I g false (S_no G) := by
  refine ⟨h.1, fun ws K r hr B0 w0 w N vs O M H hI hb hB hA hnd hO hM hH hN => ?_⟩
  refine Calls.mono (h.2 ws _ r hr B0 w0 w N vs O M H hI hb hB hA hnd hO hM hH hN) (fun e w' he => ?_)
  cases e with
  | returned c =>
    obtain ⟨q, hq, hk⟩ := he
    cases ho : q.1.okNo with
    | false => simp only [ho, cond_false] at hq; cases hq
    | true =>
      simp only [ho, cond_true] at hq
      refine ⟨_, hq, ?_⟩
      obtain ⟨⟨O1, M1, H1, O2, M2, H2, e1, e2, e3, e4, e5, e6⟩, k2, k3, k4⟩ := hk
      obtain ⟨M', a1, a2⟩ := e1.no ho
      refine ⟨⟨[], M', [], O2, M2, H2, a1, e2, ?_, fun x hx => e4 x (List.mem_append.2 (.inr (by simpa using hx))), fun x hx => ?_, fun x hx => ?_⟩, k2, k3, k4⟩
      · exact (List.nodup_append.1 e3).2.1
      · rcases List.mem_append.1 hx with hx | hx
        · rcases a2 x hx with hx | hx
          · obtain ⟨g1, g2, _⟩ := e5 x (List.mem_append.2 (.inl hx))
            exact ⟨g1, g2, fun h => by cases h⟩
          · obtain ⟨g1, g2⟩ := e4 x (List.mem_append.2 (.inl hx))
            exact ⟨.inr g1, g2, fun h => by cases h⟩
        · obtain ⟨g1, g2, _⟩ := e5 x (List.mem_append.2 (.inr hx))
          exact ⟨g1, g2, fun h => by cases h⟩
      · have hx' : x ∈ H2 := by simpa using hx
        obtain ⟨g1, g2⟩ := e6 x (List.mem_append.2 (.inr hx'))
        refine ⟨fun hm => ?_, g2⟩
        rcases List.mem_append.1 hm with hm | hm
        · rcases a2 x hm with hm | hm
          · exact g1 (List.mem_append.2 (.inl hm))
          · exact (List.nodup_append.1 e3).2.2 x hm x (e2.hsub' x hx') rfl
        · exact g1 (List.mem_append.2 (.inr hm))
  | _ => exact he
end Go.Ev
end
section
/- Contracts by signature, where a nil slice may stand for an empty one; results with what is handed back. -/
set_option linter.unusedVariables false
namespace Go.Ev
def Cc.decN : (c : Cc) → V → Option c.T
  | .sl _, .nl => some []
  | c, v => c.dec v
def Rw.decN : (r : Rw) → List V → Option r.T
  | .one c, [v] => c.decN v
  | .cons c r, v :: vs => match c.decN v with
    | some d => match r.decN vs with
      | some e => some (d, e)
      | none => none
    | none => none
  | _, _ => none
def Ak.decN : (k : Ak) → V → Option k.T
  | .a r, .a cs => r.decN cs
  | .l r, v => (Cc.sl r).decN v
  | k, v => k.dec v
def sgN : (ks : List Ak) → List V → Option (SgT ks)
  | [], [] => some ()
  | k :: ks, v :: vs => match k.decN v with
    | some d => match sgN ks vs with
      | some e => some (d, e)
      | none => none
    | none => none
  | _, _ => none
section
variable {w : World}
theorem CellR.nlN {r : Rw} {c : Value} {O M H : List Nat} (h : CellR w .nl c O M H) : CellR w (.l .no r []) c O M H := by
  obtain ⟨h1, h2, h3⟩ := h
  have h1' : c = .slice none 0 0 := h1
  exact ⟨⟨[], .inl ⟨rfl, rfl, none, 0, h1', fun _ => ⟨rfl, rfl⟩⟩, fun _ h => nomatch h⟩, h2, h3⟩
theorem Cc.decN_ok : (c : Cc) → {v : V} → {d : c.T} → c.decN v = some d → (v = .nl ∧ ∃ r, c.cell .no d = .l .no r []) ∨ v = c.cell .no d
  | .sl r, v, d, h => by
    cases v with
    | nl =>
      have h' : (some [] : Option (List r.T)) = some d := h
      cases h'
      exact .inl ⟨rfl, r, rfl⟩
    | _ => exact .inr (Cc.dec_ok (.sl r) h)
  | .int k, v, d, h => .inr (Cc.dec_ok (.int k) (by cases v <;> simpa [Cc.decN] using h))
  | .bool, v, d, h => .inr (Cc.dec_ok .bool (by cases v <;> simpa [Cc.decN] using h))
  | .str, v, d, h => .inr (Cc.dec_ok .str (by cases v <;> simpa [Cc.decN] using h))
theorem Cc.decN_R {c : Cc} {v : V} {d : c.T} (h : c.decN v = some d) {x : Value} {O M H : List Nat} (hc : CellR w v x O M H) : CellR w (c.cell .no d) x O M H := by
  rcases Cc.decN_ok c h with ⟨rfl, r, e⟩ | e
  · rw [e]; exact hc.nlN
  · rw [← e]; exact hc
theorem Rw.decN_R : (r : Rw) → {cs : List V} → {d : r.T} → r.decN cs = some d → ∀ {vs : List Value} {O M H : List Nat}, CellsR w cs vs O M H → CellsR w (r.cells .no d) vs O M H
  | .one c, cs, d, h, vs, O, M, H, hc => by
    match cs, h, hc with
    | [v], h, ⟨v1, vs', O1, O2, M1, M2, H1, H2, a1, a2, a3, a4, a5, a6⟩ =>
      exact ⟨v1, vs', O1, O2, M1, M2, H1, H2, a1, a2, a3, a4, Cc.decN_R (c := c) h a5, a6⟩
    | [], h, _ => simp [Rw.decN] at h
    | _ :: _ :: _, h, _ => simp [Rw.decN] at h
  | .cons c r, cs, d, h, vs, O, M, H, hc => by
    match cs, h, hc with
    | v :: us, h, ⟨v1, vs', O1, O2, M1, M2, H1, H2, a1, a2, a3, a4, a5, a6⟩ =>
      simp only [Rw.decN] at h
      split at h
      · rename_i d1 e1
        split at h
        · rename_i d2 e2
          cases h
          exact ⟨v1, vs', O1, O2, M1, M2, H1, H2, a1, a2, a3, a4, Cc.decN_R (c := c) e1 a5, Rw.decN_R r e2 a6⟩
        · cases h
      · cases h
    | [], h, _ => simp [Rw.decN] at h
theorem cell_argR {v : V} (h : ∀ cs, v ≠ .a cs) (h2 : ∀ cs, v ≠ .io cs) {x : Value} {O M H : List Nat} : ArgR w v x O M H ↔ CellR w v x O M H := by
  cases v with
  | a cs => exact absurd rfl (h cs)
  | io cs => exact absurd rfl (h2 cs)
  | _ => exact Iff.rfl
theorem Ak.decN_R : (k : Ak) → {v : V} → {d : k.T} → k.decN v = some d → ∀ {x : Value} {O M H : List Nat}, ArgR w v x O M H → ArgR w (k.v d) x O M H
  | .a r, v, d, h, x, O, M, H, ha => by
    cases v with
    | a cs =>
      obtain ⟨vs, h1, h2⟩ := ha
      exact ⟨vs, h1, Rw.decN_R r h h2⟩
    | _ => simp [Ak.decN, Ak.dec] at h
  | .l r, v, d, h, x, O, M, H, ha => by
    have h' : (Cc.sl r).decN v = some d := by cases v <;> simpa [Ak.decN] using h
    have hv : (∀ cs, v ≠ .a cs) ∧ (∀ cs, v ≠ .io cs) := by
      cases v with
      | a cs => simp [Cc.decN, Cc.dec] at h'
      | io cs => simp [Cc.decN, Cc.dec] at h'
      | _ => exact ⟨fun _ h => (nomatch h), fun _ h => (nomatch h)⟩
    exact (cell_argR (v := V.l .no r d) (fun _ h => nomatch h) (fun _ h => nomatch h)).2 (Cc.decN_R (c := .sl r) h' ((cell_argR hv.1 hv.2).1 ha))
  | .i, v, d, h, x, O, M, H, ha => by
    have h' : Ak.dec .i v = some d := by cases v <;> simpa [Ak.decN] using h
    rw [Ak.dec_ok .i h'] at ha; exact ha
  | .b, v, d, h, x, O, M, H, ha => by
    have h' : Ak.dec .b v = some d := by cases v <;> simpa [Ak.decN] using h
    rw [Ak.dec_ok .b h'] at ha; exact ha
  | .sc1 k, v, d, h, x, O, M, H, ha => by
    have h' : Ak.dec (.sc1 k) v = some d := by cases v <;> simpa [Ak.decN] using h
    rw [Ak.dec_ok (.sc1 k) h'] at ha; exact ha
  | .sh s, v, d, h, x, O, M, H, ha => by
    have h' : Ak.dec (.sh s) v = some d := by cases v <;> simpa [Ak.decN] using h
    rw [Ak.dec_ok (.sh s) h'] at ha; exact ha
theorem cell_noOwn (c : Cc) (d : c.T) : (c.cell .no d).isOwn = false := by cases c <;> rfl
theorem cells_noOwn : (r : Rw) → (d : r.T) → (r.cells .no d).any V.isOwn = false
  | .one c, d => by simp [Rw.cells, cell_noOwn]
  | .cons c r, d => by simp only [Rw.cells, List.any_cons, cell_noOwn, cells_noOwn r, Bool.or_self]
theorem Cc.decN_own {c : Cc} {v : V} {d : c.T} (h : c.decN v = some d) : v.isOwn = false := by
  rcases Cc.decN_ok c h with ⟨rfl, _⟩ | e
  · rfl
  · rw [e]; exact cell_noOwn c d
theorem Rw.decN_own : (r : Rw) → {cs : List V} → {d : r.T} → r.decN cs = some d → cs.any V.isOwn = false
  | .one c, cs, d, h => by
    match cs, h with
    | [v], h => simp only [List.any_cons, List.any_nil, Bool.or_false]; exact Cc.decN_own (c := c) h
    | [], h => simp [Rw.decN] at h
    | _ :: _ :: _, h => simp [Rw.decN] at h
  | .cons c r, cs, d, h => by
    match cs, h with
    | v :: us, h =>
      simp only [Rw.decN] at h
      split at h
      · rename_i d1 e1
        split at h
        · rename_i d2 e2
          simp only [List.any_cons, Cc.decN_own (c := c) e1, Rw.decN_own r e2, Bool.or_self]
        · cases h
      · cases h
    | [], h => simp [Rw.decN] at h
theorem Ak.decN_back (k : Ak) {v : V} {d : k.T} (h : k.decN v = some d) : v.back = (k.v d).back := by
  cases k with
  | a r =>
    cases v with
    | a cs =>
      have h' : r.decN cs = some d := h
      show cs.any V.isOwn = (r.cells .no d).any V.isOwn
      rw [Rw.decN_own r h', cells_noOwn]
    | _ => simp [Ak.decN, Ak.dec] at h
  | l r =>
    have h' : (Cc.sl r).decN v = some d := by cases v <;> simpa [Ak.decN] using h
    rcases Cc.decN_ok (.sl r) h' with ⟨rfl, _⟩ | e
    · rfl
    · rw [e]; rfl
  | i =>
    have h' : Ak.dec .i v = some d := by cases v <;> simpa [Ak.decN] using h
    rw [Ak.dec_ok .i h']
  | b =>
    have h' : Ak.dec .b v = some d := by cases v <;> simpa [Ak.decN] using h
    rw [Ak.dec_ok .b h']
  | sc1 k =>
    have h' : Ak.dec (.sc1 k) v = some d := by cases v <;> simpa [Ak.decN] using h
    rw [Ak.dec_ok (.sc1 k) h']
  | sh s =>
    have h' : Ak.dec (.sh s) v = some d := by cases v <;> simpa [Ak.decN] using h
    rw [Ak.dec_ok (.sh s) h']
end
/-- What holds of the one holds of the other, and the same comes back. -/
def NilLe (ws ws' : List V) : Prop := (∀ (w : World) (vs : List Value) (O M H : List Nat), ArgsR w ws vs O M H → ArgsR w ws' vs O M H) ∧ ∀ (vs : List Value), ptrs ws vs = ptrs ws' vs
theorem NilLe.rfl' (ws : List V) : NilLe ws ws := ⟨fun _ _ _ _ _ h => h, fun _ => rfl⟩
theorem sgN_le : (ks : List Ak) → {ws : List V} → {d : SgT ks} → sgN ks ws = some d → NilLe ws (sgV ks d)
  | [], [], d, h => NilLe.rfl' _
  | [], _ :: _, d, h => by simp [sgN] at h
  | k :: ks, [], d, h => by simp [sgN] at h
  | k :: ks, v :: ws, d, h => by
    simp only [sgN] at h
    split at h
    · rename_i d1 e1
      split at h
      · rename_i d2 e2
        cases h
        have ih := sgN_le ks e2
        refine ⟨fun w vs O M H ⟨x, xs, O1, O2, M1, M2, H1, H2, a1, a2, a3, a4, a5, a6⟩ => ⟨x, xs, O1, O2, M1, M2, H1, H2, a1, a2, a3, a4, Ak.decN_R k e1 a5, ih.1 w xs O2 M2 H2 a6⟩, fun vs => ?_⟩
        show ptrs (v :: ws) vs = ptrs (k.v d1 :: sgV ks d2) vs
        cases vs with
        | nil => rfl
        | cons x xs => simp only [ptrs, Ak.decN_back k e1, ih.2 xs]
      · cases h
    · cases h
theorem okN {P : Program} {I : Nat → World → Prop} {g : FuncId} {f : Bool} {S G : Sm} (hG : OkFn P I g f G) (h : ∀ ws K q, S ws K = some q → ∃ ws', NilLe ws ws' ∧ G ws' K = some q) : OkFn P I g f S :=
  ⟨hG.1, fun ws K r hr B0 w0 w N vs O M H hI hb hB hA => by
    obtain ⟨ws', hn, h3⟩ := h ws K r hr
    have := hG.2 ws' K r h3 B0 w0 w N vs O M H hI hb hB (hn.1 w vs O M H hA)
    rw [hn.2 vs]
    exact this⟩
def S_fnR (ks : List Ak) (pre : SgT ks → Bool) (f : SgT ks → Ret) : Sm := fun vs K => match sgN ks vs with
  | some d => bif pre d then K (f d) else none
  | none => none
theorem S_fnR_of {ks : List Ak} {pre : SgT ks → Bool} {f : SgT ks → Ret} {G : Sm} (h : ∀ d K, pre d = true → G (sgV ks d) K = K (f d)) : ∀ ws K q, S_fnR ks pre f ws K = some q → ∃ ws', NilLe ws ws' ∧ G ws' K = some q := by
  intro ws K q hr
  unfold S_fnR at hr
  split at hr
  · rename_i d hd
    cases hp : pre d with
    | false => rw [hp] at hr; cases hr
    | true => rw [hp] at hr; exact ⟨_, sgN_le ks hd, (h d K hp).trans hr⟩
  · cases hr
/-- A contract that hands its result on. -/
def S_B (ks : List Ak) (F : SgT ks → (Ret → Option Ret) → Option Ret) : Sm := fun vs K => match sgN ks vs with
  | some d => F d K
  | none => none
theorem S_B_of {ks : List Ak} {F : SgT ks → (Ret → Option Ret) → Option Ret} {G : Sm} (h : ∀ d K q, F d K = some q → G (sgV ks d) K = some q) : ∀ ws K q, S_B ks F ws K = some q → ∃ ws', NilLe ws ws' ∧ G ws' K = some q := by
  intro ws K q hr
  unfold S_B at hr
  split at hr
  · rename_i d hd
    exact ⟨_, sgN_le ks hd, h d K q hr⟩
  · cases hr
end Go.Ev
end
section
/- The rows of the structs. Printed by fam.py. -/
namespace Go.Ev.Seat
open Go.RowKit
abbrev editR : Rw := .cons (.int .i64) (.cons (.int .i64) (.one (.sl bytesR)))
abbrev leaseR : Rw := .cons (.int .i64) (.cons (.int .i64) (.cons (.int .i64) (.one (.int .i64))))
abbrev T_Edit : Type := Int × Int × List Int
abbrev T_Lease : Type := Int × Int × Int × Int
end Go.Ev.Seat
end
section
/- The tables of unicode/utf8. -/
namespace Go.Ev
end Go.Ev
end
section
/- UTF-8, as lists of numbers. -/
set_option linter.unusedVariables false
namespace Go.Ev
open Go.RowKit
def isB (x : Int) : Bool := decide (0 ≤ x) && decide (x ≤ 255)
def fitB (xs : List Int) : Bool := Nat.ble xs.length 1048576 && xs.all isB
theorem fitB_len {xs : List Int} (h : fitB xs = true) : xs.length ≤ 1048576 := by
  unfold fitB at h; rw [Bool.and_eq_true] at h; exact Nat.le_of_ble_eq_true h.1
theorem fitB_mem {xs : List Int} (h : fitB xs = true) {x : Int} (hx : x ∈ xs) : 0 ≤ x ∧ x ≤ 255 := by
  unfold fitB at h; rw [Bool.and_eq_true, List.all_eq_true] at h
  have := h.2 x hx
  simpa [isB] using this
theorem fitB_get {xs : List Int} (h : fitB xs = true) (i : Nat) : 0 ≤ xs.getD i 0 ∧ xs.getD i 0 ≤ 255 := by
  rw [List.getD_eq_getElem?_getD]
  rcases Nat.lt_or_ge i xs.length with hi | hi
  · rw [List.getElem?_eq_getElem hi]; exact fitB_mem h (List.getElem_mem hi)
  · rw [List.getElem?_eq_none hi]; simp
theorem fitB_of {xs : List Int} (h1 : xs.length ≤ 1048576) (h2 : ∀ x ∈ xs, 0 ≤ x ∧ x ≤ 255) : fitB xs = true := by
  unfold fitB; rw [Bool.and_eq_true, List.all_eq_true]
  exact ⟨Nat.ble_eq_true_of_le h1, fun x hx => by simpa [isB] using h2 x hx⟩
/-! ### Bits -/
/-! ### Runes -/
def lo3 (b : Int) : Int := if b = 224 then 160 else 128
def hi3 (b : Int) : Int := if b = 237 then 159 else 191
def lo4 (b : Int) : Int := if b = 240 then 144 else 128
def hi4 (b : Int) : Int := if b = 244 then 143 else 191
/-- The size of the rune in front; 0 where there is none. -/
def runeSz (xs : List Int) : Nat :=
  if xs.length = 0 then 0
  else if xs.getD 0 0 < 128 then 1
  else if xs.getD 0 0 < 194 then 0
  else if xs.getD 0 0 < 224 then (if 2 ≤ xs.length ∧ 128 ≤ xs.getD 1 0 ∧ xs.getD 1 0 ≤ 191 then 2 else 0)
  else if xs.getD 0 0 < 240 then (if 3 ≤ xs.length ∧ lo3 (xs.getD 0 0) ≤ xs.getD 1 0 ∧ xs.getD 1 0 ≤ hi3 (xs.getD 0 0) ∧ 128 ≤ xs.getD 2 0 ∧ xs.getD 2 0 ≤ 191 then 3 else 0)
  else if xs.getD 0 0 < 245 then (if 4 ≤ xs.length ∧ lo4 (xs.getD 0 0) ≤ xs.getD 1 0 ∧ xs.getD 1 0 ≤ hi4 (xs.getD 0 0) ∧ 128 ≤ xs.getD 2 0 ∧ xs.getD 2 0 ≤ 191 ∧ 128 ≤ xs.getD 3 0 ∧ xs.getD 3 0 ≤ 191 then 4 else 0)
  else 0
theorem runeSz_le (xs : List Int) : runeSz xs ≤ xs.length := by
  unfold runeSz; repeat' split
  all_goals omega
def valid (xs : List Int) : Bool := if h : runeSz xs = 0 then xs.isEmpty else valid (xs.drop (runeSz xs))
termination_by xs.length
decreasing_by
  have := runeSz_le xs
  simp; omega
def textOk (xs : List Int) : Bool := Nat.ble xs.length 400 && valid xs
theorem wrap8 {n : Int} (h0 : 0 ≤ n) (h1 : n ≤ 255) : IntKind.u8.wrap n = n := by
  have e : IntKind.u8.wrap n = n % 256 := by
    simp only [IntKind.wrap, IntKind.bits, IntKind.signed]; simp
  rw [e]; omega
/-- The bytes of a rune. -/
def encD (r : Int) : List Int :=
  if r < 0 ∨ 1114111 < r ∨ (55296 ≤ r ∧ r ≤ 57343) then []
  else if r < 128 then [r]
  else if r < 2048 then [192 + r / 64, 128 + r % 64]
  else if r < 65536 then [224 + r / 4096, 128 + r / 64 % 64, 128 + r % 64]
  else [240 + r / 262144, 128 + r / 4096 % 64, 128 + r / 64 % 64, 128 + r % 64]
def contB (b : Int) : Bool := decide (128 ≤ b) && decide (b ≤ 191)
/-- Is it a boundary of a text? -/
def isCutD (t : List Int) (k : Int) : Bool := k == ((t.length : Nat) : Int) || (decide (0 ≤ k) && decide (k < ((t.length : Nat) : Int)) && !contB (t.getD k.toNat 0))
theorem encD_byte (r : Int) : ∀ x ∈ encD r, 0 ≤ x ∧ x ≤ 255 := by
  intro x hx
  unfold encD at hx
  split at hx
  · cases hx
  split at hx
  · simp at hx; omega
  split at hx
  · simp at hx; rcases hx with rfl | rfl <;> omega
  split at hx
  · simp at hx; rcases hx with rfl | rfl | rfl <;> omega
  · simp at hx; rcases hx with rfl | rfl | rfl | rfl <;> omega
end Go.Ev
end
section
/- Edits of texts, as lists of numbers. -/
set_option linter.unusedVariables false
namespace Go.Ev
open Go.RowKit
abbrev E3 : Type := Int × Int × List Int
structure EditOk (t : List Int) (e : E3) : Prop where
  tx : textOk t = true
  a : isCutD t e.1 = true
  c0 : 0 ≤ e.2.1
  c1 : e.2.1 ≤ ((t.length : Nat) : Int) - e.1
  b : isCutD t (e.1 + e.2.1) = true
  p : textOk e.2.2 = true
  l : ((t.length : Nat) : Int) - e.2.1 + ((e.2.2.length : Nat) : Int) ≤ 400
end Go.Ev
end
section
/- Requests and replies, as numbers and lists. -/
set_option linter.unusedVariables false
namespace Go.Ev
open Go.RowKit
end Go.Ev
end
section
/- Loops over lists, by index. -/
set_option linter.unusedVariables false
namespace Go.Ev
section
variable {α β ρ : Type}
theorem getD_lt {xs : List α} {i : Nat} (z : α) (h : i < xs.length) : xs.getD i z = xs[i] := by
  rw [List.getD_eq_getElem?_getD, List.getElem?_eq_getElem h]; rfl
theorem idx_find {R : Nat → Int → ρ} {p : α → Bool} {kt : ρ} {kf : Int → ρ} {xs : List α} {z : α}
    (hs : ∀ m (i : Nat), i < xs.length → R (m + 1) i = bif p (xs.getD i z) then kf i else R m ((i + 1 : Nat) : Int))
    (he : ∀ m, R (m + 1) (xs.length : Nat) = kt) : ∀ (m i : Nat), i ≤ xs.length → xs.length - i < m → R m i = (match (xs.drop i).findIdx? p with
      | some j => kf ((i + j : Nat) : Int)
      | none => kt)
  | 0, i, _, h => absurd h (by omega)
  | m + 1, i, hi, hm => by
    by_cases h : i < xs.length
    · rw [hs m i h, getD_lt z h, List.drop_eq_getElem_cons h, List.findIdx?_cons]
      cases hp : p xs[i] with
      | true => simp
      | false =>
        rw [cond_false, idx_find hs he m (i + 1) (by omega) (by omega)]
        simp only [Bool.false_eq_true, if_false]
        cases (xs.drop (i + 1)).findIdx? p with
        | none => rfl
        | some k => show kf ((i + 1 + k : Nat) : Int) = kf ((i + (k + 1) : Nat) : Int); congr 2; omega
    · have : i = xs.length := by omega
      subst this
      rw [he m, List.drop_length]; rfl
theorem idx_all {R : Nat → Int → ρ} {p : α → Bool} {kt kf : ρ} {xs : List α} {z : α}
    (hs : ∀ m (i : Nat), i < xs.length → R (m + 1) i = bif p (xs.getD i z) then R m ((i + 1 : Nat) : Int) else kf)
    (he : ∀ m, R (m + 1) (xs.length : Nat) = kt) : ∀ (m i : Nat), i ≤ xs.length → xs.length - i < m → R m i = bif (xs.drop i).all p then kt else kf
  | 0, i, _, h => absurd h (by omega)
  | m + 1, i, hi, hm => by
    by_cases h : i < xs.length
    · rw [hs m i h, getD_lt z h, List.drop_eq_getElem_cons h, List.all_cons]
      cases hp : p xs[i] with
      | true => rw [cond_true, idx_all hs he m (i + 1) (by omega) (by omega)]; rfl
      | false => rfl
    · have : i = xs.length := by omega
      subst this
      rw [he m, List.drop_length]; rfl
theorem idx_fold {R : Nat → Int → β → ρ} {f : β → α → β} {I : Nat → β → Prop} {kt : β → ρ} {xs : List α} {z : α}
    (hs : ∀ m (i : Nat) a, i < xs.length → I i a → R (m + 1) i a = R m ((i + 1 : Nat) : Int) (f a (xs.getD i z)))
    (hI : ∀ (i : Nat) a, i < xs.length → I i a → I (i + 1) (f a (xs.getD i z)))
    (he : ∀ m a, I xs.length a → R (m + 1) (xs.length : Nat) a = kt a) : ∀ (m i : Nat) (a : β), I i a → i ≤ xs.length → xs.length - i < m → R m i a = kt ((xs.drop i).foldl f a)
  | 0, i, _, _, _, h => absurd h (by omega)
  | m + 1, i, a, ha, hi, hm => by
    by_cases h : i < xs.length
    · rw [hs m i a h ha, idx_fold hs hI he m (i + 1) _ (hI i a h ha) (by omega) (by omega), List.drop_eq_getElem_cons h, List.foldl_cons, getD_lt z h]
    · have : i = xs.length := by omega
      subst this
      rw [he m a ha, List.drop_length]; rfl
theorem take_one {l : List α} {i : Nat} (z : α) (h : i < l.length) : l.take i ++ [l.getD i z] = l.take (i + 1) := by
  rw [List.take_add_one, List.getElem?_eq_getElem h, getD_lt z h]; rfl
/-- Some elements written over, in place. -/
theorem idx_set {R : Nat → Int → List α → ρ} {kt : List α → ρ} {z y : α} {p : α → Bool} {n : Nat}
    (hs : ∀ m (i : Nat) (o : List α), o.length = n → i < n → R (m + 1) i o = R m ((i + 1 : Nat) : Int) (bif p (o.getD i z) then o.set i y else o))
    (he : ∀ m o, o.length = n → R (m + 1) (n : Nat) o = kt o) : ∀ (m i : Nat) (o : List α), o.length = n → i ≤ n → n - i < m → R m i o = kt (o.take i ++ (o.drop i).map (fun e => bif p e then y else e))
  | 0, i, o, _, _, h => absurd h (by omega)
  | m + 1, i, o, ho, hi, hm => by
    by_cases h : i < n
    · rw [hs m i o ho h, idx_set hs he m (i + 1) _ (by cases p (o.getD i z) <;> simp [ho]) (by omega) (by omega)]
      congr 1
      have h' : i < o.length := by omega
      rw [List.drop_eq_getElem_cons h', List.map_cons, getD_lt z h']
      cases hp : p o[i] with
      | true =>
        simp only [cond_true]
        rw [List.drop_set_of_lt (by omega), List.take_add_one, List.take_set_of_le (Nat.le_refl _)]
        simp [h']
      | false =>
        simp only [cond_false]
        rw [← take_one z h', getD_lt z h', List.append_assoc]; rfl
    · obtain rfl : i = n := by omega
      rw [he m o ho, List.take_of_length_le (by omega), List.drop_eq_nil_of_le (by omega)]
      simp
def idxF {α : Type} (p : α → Bool) (l : List α) : Int := match l.findIdx? p with
  | some i => (i : Nat)
  | none => -1
theorem idxF_any {α : Type} (p : α → Bool) (l : List α) : decide (idxF p l ≥ 0) = l.any p := by
  unfold idxF
  cases h : l.findIdx? p with
  | none =>
    rw [List.findIdx?_eq_none_iff] at h
    rw [show l.any p = false from List.any_eq_false.2 (fun x hx => by rw [h x hx]; simp)]; rfl
  | some i =>
    rw [List.findIdx?_eq_some_iff_getElem] at h
    obtain ⟨h1, h2, _⟩ := h
    rw [show l.any p = true from List.any_eq_true.2 ⟨l[i], List.getElem_mem h1, h2⟩]
    exact decide_eq_true (show ((i : Nat) : Int) ≥ 0 by omega)
end
end Go.Ev
end
section
/- Events and outputs, as numbers and lists. -/
set_option linter.unusedVariables false
namespace Go.Ev
open Go.RowKit
theorem idx_allN {ρ : Type} {R : Nat → Int → ρ} {p : Nat → Bool} {kt kf : ρ} {n : Nat}
    (hs : ∀ m (i : Nat), i < n → R (m + 1) i = bif p i then R m ((i + 1 : Nat) : Int) else kf)
    (he : ∀ m, R (m + 1) (n : Nat) = kt) : ∀ (m i : Nat), i ≤ n → n - i < m → R m i = bif (List.range' i (n - i)).all p then kt else kf
  | 0, i, _, h => absurd h (by omega)
  | m + 1, i, hi, hm => by
    by_cases h : i < n
    · rw [hs m i h, show n - i = (n - (i + 1)) + 1 by omega, List.range'_succ, List.all_cons]
      cases hp : p i with
      | true => rw [cond_true, idx_allN hs he m (i + 1) (by omega) (by omega)]; rfl
      | false => rfl
    · have : i = n := by omega
      subst this
      rw [he m, Nat.sub_self]; rfl
/-- For all numbers below n. -/
def allN (n : Nat) (p : Nat → Bool) : Bool := (List.range' 0 n).all p
theorem allN_iff {n : Nat} {p : Nat → Bool} : allN n p = true ↔ ∀ i, i < n → p i = true := by
  unfold allN
  rw [List.all_eq_true]
  constructor
  · intro h i hi; exact h i (by simpa using hi)
  · intro h i hi; exact h i (by simpa using hi)
def sessD (s : Int) : Bool := decide (1 ≤ s) && decide (s ≤ 8)
def tickD (n : Int) : Bool := decide (1 ≤ n) && decide (n ≤ 1000)
end Go.Ev
end
section
/- Positions, spans and edits after an edit; stacks. -/
set_option linter.unusedVariables false
namespace Go.Ev
open Go.RowKit
def in400 (n : Int) : Bool := decide (0 ≤ n) && decide (n ≤ 400)
def smallE (e : E3) : Bool := in400 e.1 && in400 e.2.1 && decide (((e.2.2.length : Nat) : Int) ≤ 400)
def placeB (p : Int) : Bool := decide (0 ≤ p) && decide (p ≤ 800)
theorem in400_iff {n : Int} : in400 n = true ↔ 0 ≤ n ∧ n ≤ 400 := by unfold in400; rw [Bool.and_eq_true, decide_eq_true_iff, decide_eq_true_iff]
theorem placeB_iff {n : Int} : placeB n = true ↔ 0 ≤ n ∧ n ≤ 800 := by unfold placeB; rw [Bool.and_eq_true, decide_eq_true_iff, decide_eq_true_iff]
theorem smallE_iff {e : E3} : smallE e = true ↔ (0 ≤ e.1 ∧ e.1 ≤ 400) ∧ (0 ≤ e.2.1 ∧ e.2.1 ≤ 400) ∧ e.2.2.length ≤ 400 := by
  unfold smallE
  rw [Bool.and_eq_true, Bool.and_eq_true, in400_iff, in400_iff, decide_eq_true_iff]
  constructor
  · rintro ⟨⟨h1, h2⟩, h3⟩; exact ⟨h1, h2, by omega⟩
  · rintro ⟨h1, h2, h3⟩; exact ⟨⟨h1, h2⟩, by omega⟩
/-! ### Stacks -/
end Go.Ev
end
section
/- What is known of an argument: bytes are bytes, and it is small. -/
set_option linter.unusedVariables false
namespace Go.Ev.Seat
open Go.RowKit
mutual
def fitC : (c : Cc) → c.T → Bool
  | .int .u8, n => isB n
  | .int _, _ => true
  | .bool, _ => true
  | .str, _ => true
  | .sl r, xs => Nat.ble xs.length 1048576 && xs.all (fitR r)
def fitR : (r : Rw) → r.T → Bool
  | .one c, d => fitC c d
  | .cons c r, d => fitC c d.1 && fitR r d.2
end
mutual
theorem fitC_of : (c : Cc) → (d : c.T) → c.wf d → c.lim d = true → fitC c d = true
  | .int k, n, h, _ => by
    cases k <;> simp only [fitC]
    have h' : (Lit.int .u8 n).wf = true := h
    simp only [Lit.wf, Bool.and_eq_true, decide_eq_true_eq] at h'
    have a : IntKind.u8.min = 0 := rfl
    have b : IntKind.u8.max = 255 := rfl
    rw [a, b] at h'
    simp only [isB, Bool.and_eq_true, decide_eq_true_eq]
    exact h'
  | .bool, _, _, _ => rfl
  | .str, _, _, _ => rfl
  | .sl r, xs, h, g => by
    simp only [Cc.lim, Bool.and_eq_true, List.all_eq_true] at g
    simp only [fitC, Bool.and_eq_true, List.all_eq_true]
    exact ⟨g.1, fun x hx => fitR_of r x (h.2 x hx) (g.2 x hx)⟩
theorem fitR_of : (r : Rw) → (d : r.T) → r.wf d → r.lim d = true → fitR r d = true
  | .one c, d, h, g => fitC_of c d h g
  | .cons c r, d, h, g => by
    simp only [Rw.lim, Bool.and_eq_true] at g
    simp only [fitR, Bool.and_eq_true]
    exact ⟨fitC_of c d.1 h.1 g.1, fitR_of r d.2 h.2 g.2⟩
end
end Go.Ev.Seat
end
section
/- Stacks keep the form of their data. -/
set_option linter.unusedVariables false
namespace Go.Ev.Seat
open Go.RowKit
end Go.Ev.Seat
end
section
/- l_big: its contract. -/
namespace Go.Ev.Seat
open Go.RowKit
set_option maxRecDepth 100000
set_option linter.unusedVariables false
set_option linter.unusedSimpArgs false
noncomputable abbrev E_l_big : Env := En [] [] [] [] false 0 []
noncomputable def T_l_big (code : List Int) (K : Ret → Option Ret) : Option Ret := K ((.s (.bool (decide ((((List.length code) : Nat) : Int) > (1048576 : Int))))), [])
theorem e_l_big (code : List Int) (K : Ret → Option Ret) : evF E_l_big true F.l_big [.l .no bytesR code] K = T_l_big code K := by kernel_rfl
def S_l_big : Sm := S_fnR [.l bytesR] (fun d => true) (fun d => (bl (decide (((d.1.length : Nat) : Int) > 1048576)), []))
theorem v_l_big (code : List Int) (K : Ret → Option Ret) : T_l_big code K = K (bl (decide (((code.length : Nat) : Int) > 1048576)), []) := rfl
theorem okS_l_big : OkFn prog I N.l_big true S_l_big := okN (ok_fn mem0 (l := []) (p := []) (ls := []) (lend := []) (focus := false) (fuel := 0) (give := []) (fn := F.l_big) (by kernel_rfl) (by kernel_rfl) (by kernel_rfl) (by kernel_rfl) (cs := []) (by kernel_rfl) loops0) (S_fnR_of fun d K h => (e_l_big d.1 K).trans (v_l_big d.1 K))
end Go.Ev.Seat
end
section
/- What a drawing function answers: some result of which something holds. -/
set_option linter.unusedVariables false
namespace Go.Ev
section
variable {ρ σ : Type}
/-- Whatever goes on, it goes on with one result, of which P holds. -/
def Dr (P : ρ → Prop) (T : (ρ → σ) → σ) : Prop := ∃ r, P r ∧ ∀ K, T K = K r
variable {P : ρ → Prop}
theorem Dr.leaf {r : ρ} (h : P r) : Dr P (fun K : ρ → σ => K r) := ⟨r, h, fun _ => rfl⟩
theorem Dr.bif {c : Bool} {A B : (ρ → σ) → σ} (h1 : c = true → Dr P A) (h2 : c = false → Dr P B) : Dr P (fun K => bif c then A K else B K) := by
  cases c
  · exact h2 rfl
  · exact h1 rfl
theorem Dr.must {c : Bool} {A B : (ρ → σ) → σ} (h : c = true) (h1 : Dr P A) : Dr P (fun K => bif c then A K else B K) := Dr.bif (fun _ => h1) (fun e => by rw [h] at e; cases e)
theorem Dr.mono {Q : ρ → Prop} {A : (ρ → σ) → σ} (h : Dr P A) (hq : ∀ r, P r → Q r) : Dr Q A := by
  obtain ⟨r, h1, h2⟩ := h
  exact ⟨r, hq r h1, h2⟩
theorem Dr.eq {A B : (ρ → σ) → σ} (h : Dr P B) (e : ∀ K, A K = B K) : Dr P A := by
  obtain ⟨r, h1, h2⟩ := h
  exact ⟨r, h1, fun K => (e K).trans (h2 K)⟩
theorem Dr.b3 {α β γ : Type} {p : α → β → γ → Prop} {B : (α → β → γ → σ) → σ} (h : ∃ a b c, p a b c ∧ ∀ k, B k = k a b c) {F : α → β → γ → (ρ → σ) → σ} (hF : ∀ a b c, p a b c → Dr P (F a b c)) : Dr P (fun K => B (fun a b c => F a b c K)) := by
  obtain ⟨a, b, c, h1, h2⟩ := h
  exact (hF a b c h1).eq (fun K => h2 _)
theorem Dr.b6 {α β γ δ ε ζ : Type} {p : α → β → γ → δ → ε → ζ → Prop} {B : (α → β → γ → δ → ε → ζ → σ) → σ} (h : ∃ a b c d e f, p a b c d e f ∧ ∀ k, B k = k a b c d e f) {F : α → β → γ → δ → ε → ζ → (ρ → σ) → σ} (hF : ∀ a b c d e f, p a b c d e f → Dr P (F a b c d e f)) : Dr P (fun K => B (fun a b c d e f => F a b c d e f K)) := by
  obtain ⟨a, b, c, d, e, f, h1, h2⟩ := h
  exact (hF a b c d e f h1).eq (fun K => h2 _)
end
theorem Dr.meet {ρ : Type} {P : ρ → Prop} {A : (ρ → Option Ret) → Option Ret} (h : Dr P A) : Dr P (fun K => meet (A K) (A K)) := h.eq (fun K => by classical unfold Go.Ev.meet; rw [if_pos rfl])
/-- A code, a place in it and a seed, of which numbers are drawn; n: how many more may be. -/
def curB (n : Int) (cc : List Int) (ca cs : Int) : Bool := fitB cc && decide (0 ≤ ca) && decide (ca ≤ n) && decide (0 ≤ cs) && decide (cs < 65536)
theorem curB_iff {n : Int} {cc : List Int} {ca cs : Int} : curB n cc ca cs = true ↔ fitB cc = true ∧ 0 ≤ ca ∧ ca ≤ n ∧ 0 ≤ cs ∧ cs < 65536 := by
  unfold curB; simp only [Bool.and_eq_true, decide_eq_true_eq]
  exact ⟨fun ⟨⟨⟨⟨a, b⟩, c⟩, d⟩, e⟩ => ⟨a, b, c, d, e⟩, fun ⟨a, b, c, d, e⟩ => ⟨⟨⟨⟨a, b⟩, c⟩, d⟩, e⟩⟩
/-- Bytes alone. -/
def byteL (xs : List Int) : Prop := ∀ x ∈ xs, 0 ≤ x ∧ x ≤ 255
theorem byteL_nil : byteL [] := fun _ h => nomatch h
theorem byteL_app {xs ys : List Int} (h1 : byteL xs) (h2 : byteL ys) : byteL (xs ++ ys) := fun x hx => (List.mem_append.1 hx).elim (h1 x) (h2 x)
theorem byteL_fit {xs : List Int} (h : byteL xs) (hl : xs.length ≤ 1048576) : fitB xs = true := fitB_of hl h
theorem encD_len4 (r : Int) : (encD r).length ≤ 4 := by
  unfold encD; repeat' split
  all_goals simp
theorem fitB_rep {n : Nat} (h : n ≤ 1048576) : fitB (List.replicate n 0) = true := fitB_of (by rw [List.length_replicate]; exact h) (fun x hx => by rw [(List.mem_replicate.1 hx).2]; omega)
def seedD (c : List Int) : Int := 97 + ((c.length : Nat) : Int) % 1000
end Go.Ev
end
section
/- s_l01Open: its contract. -/
namespace Go.Ev.Seat
open Go.RowKit
set_option maxRecDepth 100000
set_option linter.unusedVariables false
set_option linter.unusedSimpArgs false
noncomputable abbrev E_s_l01Open : Env := En [] [] [] [] false 0 []
noncomputable def T_s_l01Open (c : List Int) (K : Ret → Option Ret) : Option Ret := K ((.io [(.l .no bytesR c), (.s (.int .i64 (0 : Int))), (.s (.int .i64 (IntKind.wrap .i64 ((97 : Int) + (Int.tmod (((List.length c) : Nat) : Int) (1000 : Int))))))]), [])
theorem e_s_l01Open (c : List Int) (K : Ret → Option Ret) : evF E_s_l01Open false F.s_l01Open [.l .no bytesR c] K = T_s_l01Open c K := by kernel_rfl
def S_s_l01Open : Sm := S_fnR [.l bytesR] (fun d => fitB d.1) (fun d => (.io [.l .no bytesR d.1, .s (.int .i64 0), .s (.int .i64 (seedD d.1))], []))
theorem v_s_l01Open (c : List Int) (h : (fitB c) = true) (K : Ret → Option Ret) : T_s_l01Open c K = K (.io [.l .no bytesR c, .s (.int .i64 0), .s (.int .i64 (seedD c))], []) := by
  have hl := fitB_len h
  unfold T_s_l01Open seedD
  rw [Int.tmod_eq_emod_of_nonneg (by omega), wrap_in (n := 97 + ((c.length : Nat) : Int) % 1000) (by omega) (by omega)]
theorem okS_s_l01Open : OkFn prog I N.s_l01Open false S_s_l01Open := okN (ok_fn mem0 (l := []) (p := []) (ls := []) (lend := []) (focus := false) (fuel := 0) (give := []) (fn := F.s_l01Open) (by kernel_rfl) (by kernel_rfl) (by kernel_rfl) (by kernel_rfl) (cs := []) (by kernel_rfl) loops0) (S_fnR_of fun d K h => (e_s_l01Open d.1 K).trans (v_s_l01Open d.1 h K))
end Go.Ev.Seat
end
