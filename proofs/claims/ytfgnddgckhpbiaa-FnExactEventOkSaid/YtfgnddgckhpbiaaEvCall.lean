/- Calls by contract: the machine does what the evaluator says. -/
import Derived.Test.YtfgnddgckhpbiaaEvTake
set_option linter.unusedVariables false
namespace Go.Ev
open Go.RowKit

/-- What a call leaves. -/
structure Back (B0 : Nat) (w0 w : World) (N : Nat → Prop) (O : List Nat) (ps : List Value) (fresh : Bool) (q : Ret) (c : Value) (w' : World) : Prop where
  ex : ∃ O1 M1 H1 O2 M2 H2, RetR w' q.1 c O1 M1 H1 ∧ ArgsR w' (q.2.map .io) ps O2 M2 H2 ∧ (O1 ++ O2).Nodup ∧ (∀ x ∈ O1 ++ O2, (x ∈ O ∨ w.heap.size ≤ x) ∧ x < w'.heap.size) ∧
    (∀ x ∈ M1 ++ M2, (N x ∨ x ∈ O ∨ w.heap.size ≤ x) ∧ x < w'.heap.size ∧ (fresh = true → x ∈ O1 ++ O2)) ∧ ∀ x ∈ H1 ++ H2, x ∉ M1 ++ M2 ∧ ¬ N x
  below : Below B0 w0 w'
  sz : w.heap.size ≤ w'.heap.size
  fr : ∀ x, x < w.heap.size → (x ∉ O ∨ N x) → w'.heap[x]? = w.heap[x]?

/-- A function keeps its contract. -/
def OkFn (P : Program) (g : FuncId) (fresh : Bool) (G : Sm) : Prop :=
  (∀ (args : Array Value) (w : World), (callFunc g args).run P w = .ok (.enter g args) w) ∧
  ∀ (ws : List V) (K : Ret → Option Ret) (r : Ret), G ws K = some r → ∀ (B0 : Nat) (w0 w : World) (N : Nat → Prop) (vs : List Value) (O M H : List Nat), Below B0 w0 w → B0 ≤ w.heap.size → ArgsR w ws vs O M H → O.Nodup →
    (∀ x ∈ O, B0 ≤ x ∧ x < w.heap.size) → (∀ x ∈ M, N x) → (∀ x ∈ H, ¬ N x) → (∀ x, N x → x < w.heap.size) →
    Calls P g ⟨vs⟩ w fun e w' => match e with
      | .returned c => ∃ q, K q = some r ∧ Back B0 w0 w N O (ptrs ws vs) fresh q c w'
      | _ => False

/-- What may be written is owned. -/
theorem CellR.hsub {w : World} {v : V} {c : Value} {O M H : List Nat} (h : CellR w v c O M H) : ∀ x ∈ H, x ∈ O := by
  unfold CellR at h
  split at h
  · obtain ⟨_, _, rfl⟩ := h; exact fun x hx => List.mem_of_mem_take hx
  · obtain ⟨F, _, rfl, _, rfl⟩ := h; exact fun x hx => hx
  · obtain ⟨_, _, rfl⟩ := h; exact fun _ h => (nomatch h)
theorem CellsR.hsub {w : World} : ∀ {cs : List V} {vs : List Value} {O M H : List Nat}, CellsR w cs vs O M H → ∀ x ∈ H, x ∈ O
  | [], _, _, _, _, ⟨_, _, _, h⟩, x, hx => by rw [h] at hx; cases hx
  | c :: cs, _, _, _, _, ⟨v, vs', O1, O2, M1, M2, H1, H2, h1, h2, h3, h4, h5, h6⟩, x, hx => by
    rw [h4] at hx; rw [h2]
    rcases List.mem_append.1 hx with hx | hx
    · exact List.mem_append.2 (.inl (h5.hsub x hx))
    · exact List.mem_append.2 (.inr (CellsR.hsub h6 x hx))
theorem ArgR.hsub {w : World} {v : V} {c : Value} {O M H : List Nat} (h : ArgR w v c O M H) : ∀ x ∈ H, x ∈ O := by
  unfold ArgR at h
  split at h
  · obtain ⟨b, vs, ty, O', H', _, _, h1, rfl, rfl⟩ := h
    intro x hx
    rcases List.mem_cons.1 hx with rfl | hx
    · simp
    · exact List.mem_cons_of_mem _ (h1.hsub x hx)
  · obtain ⟨vs, _, h1⟩ := h; exact h1.hsub
  · exact h.hsub
theorem ArgsR.hsub {w : World} : ∀ {cs : List V} {vs : List Value} {O M H : List Nat}, ArgsR w cs vs O M H → ∀ x ∈ H, x ∈ O
  | [], _, _, _, _, ⟨_, _, _, h⟩, x, hx => by rw [h] at hx; cases hx
  | c :: cs, _, _, _, _, ⟨v, vs', O1, O2, M1, M2, H1, H2, h1, h2, h3, h4, h5, h6⟩, x, hx => by
    rw [h4] at hx; rw [h2]
    rcases List.mem_append.1 hx with hx | hx
    · exact List.mem_append.2 (.inl (h5.hsub x hx))
    · exact List.mem_append.2 (.inr (ArgsR.hsub h6 x hx))
theorem RetR.hsub {w : World} {v : V} {c : Value} {O M H : List Nat} (h : RetR w v c O M H) : ∀ x ∈ H, x ∈ O := by
  unfold RetR at h
  split at h
  · obtain ⟨vs, _, h1⟩ := h; exact h1.hsub
  · exact h.hsub

section
variable {P : Program} {Γ : Env} {B0 : Nat} {w0 : World} {σ : St} {a : Act} {w : World} {C : Cx} {L : Nat → List Nat}

/-- The world has changed, but not where it is looked at. -/
theorem Rel.world (h : Rel B0 w0 σ a w C L) {w' : World} (hbel : Below B0 w0 w') (hsz : w.heap.size ≤ w'.heap.size) (h1 : ∀ x, C.N x → w'.heap[x]? = w.heap[x]?) (h2 : ∀ k, ∀ x ∈ L k, w'.heap[x]? = w.heap[x]?)
    {M : List Nat} (hM : ∀ x ∈ M, x < w'.heap.size) (hH : ∀ k x, (σ.obj k).mu = true → (L k).head? = some x → x ∉ M) :
    Rel B0 w0 σ a w' { C with N := fun x => C.N x ∨ x ∈ M } L ∧ C.Le w { C with N := fun x => C.N x ∨ x ∈ M } w' := by
  have hle : C.Le w { C with N := fun x => C.N x ∨ x ∈ M } w' := ⟨fun _ _ _ h => h, fun _ h => h, fun _ h => .inl h, h1⟩
  refine ⟨?_, hle⟩
  refine { below := hbel, hB0 := Nat.le_trans h.hB0 hsz, defers := h.defers, len := h.len, tm := fun i v hv => ?_, ob := fun j => (h.ob j).le hle rfl (h2 j), us := h.us, nd := h.nd, dj := h.dj, own := fun j x hx => ⟨(h.own j x hx).1, Nat.lt_of_lt_of_le (h.own j x hx).2 hsz⟩, nm := fun j x hm hx hn => ?_, nsz := fun x hx => ?_ }
  · obtain ⟨c, h3, h4⟩ := h.tm i v hv
    exact ⟨c, h3, h4.le hle⟩
  · rcases hn with hn | hn
    · exact h.nm j x hm hx hn
    · exact hH j x hm hx hn
  · rcases hx with hx | hx
    · exact Nat.lt_of_lt_of_le (h.nsz x hx) hsz
    · exact hM x hx

theorem takeBoxes_ok : ∀ (ks : List Nat) (css : List (List V)) {σ : St} {C : Cx} {L : Nat → List Nat} (h : Rel B0 w0 σ a w C L) {b : Nat} (hb : ∀ k, b ≤ k → k < b + 8 * css.length → ¬ C.U k) (hs : css.all (fun cs => Nat.blt cs.length 9) = true) {ps : List Value} (hps : PsR C ks ps) (hnd : ks.Nodup)
    (hno : ∀ k ∈ ks, σ.obj k = .no) {O M H : List Nat} (hc : ArgsR w (css.map .io) ps O M H) (hf : Fit B0 w C L O M H),
    ∃ C' L', Rel B0 w0 { σ with ob := takeBoxes b ks css σ.ob } a w C' L' ∧ C.Le w C' w ∧ (∀ k, C'.U k → C.U k ∨ (b ≤ k ∧ k < b + 8 * css.length)) ∧ C'.N = C.N ∧ (∀ k x, x ∈ L' k → x ∈ L k ∨ x ∈ O) ∧ (∀ k x, (L' k).head? = some x → (L k).head? = some x ∨ x ∈ H)
  | [], css, σ, C, L, h, b, hb, hs, ps, hps, hnd, hno, O, M, H, hc, hf => by
    cases css with
    | nil =>
      obtain ⟨_, rfl, _, rfl⟩ := hc
      exact ⟨C, L, h, Cx.Le.refl C w, fun _ h => .inl h, rfl, fun _ _ h => .inl h, fun _ _ h => .inl h⟩
    | cons cs css =>
      obtain ⟨v, vs', _, _, _, _, _, _, h1, _⟩ := hc
      rw [show ps = [] from hps] at h1; cases h1
  | k :: ks, css, σ, C, L, h, b, hb, hs, ps, hps, hnd, hno, O, M, H, hc, hf => by
    obtain ⟨blk, ps', rfl, hφ, hU, hps'⟩ := hps
    cases css with
    | nil => obtain ⟨h1, _⟩ := hc; cases h1
    | cons cs css =>
      obtain ⟨v, vs', O1, O2, M1, M2, H1, H2, e1, rfl, rfl, rfl, h1, h2⟩ := hc
      injection e1 with e1 e2
      subst e1; subst e2
      obtain ⟨blk', vs, ty, O', H', e3, h3, h4, rfl, rfl⟩ := h1
      injection e3 with e3; injection e3 with e3; injection e3 with e3 _
      subst e3
      simp only [List.all_cons, Bool.and_eq_true] at hs
      have hlen : cs.length < 9 := Nat.le_of_ble_eq_true hs.1
      simp only [List.length_cons] at hb ⊢
      cases e4 : takeCells b cs σ.ob with
      | mk ds ob1 =>
        have hf0 := hf.left
        have hf1 : Fit B0 w C L O' M1 H' := ⟨hf0.hM, fun x hx => hf0.hH x (by simp [hx]), (List.nodup_cons.1 hf0.nd).2, fun x hx => hf0.own x (by simp [hx]), fun x hx => hf0.off x (by simp [hx])⟩
        obtain ⟨C1, L1, g1, g2⟩ := takeCells_ok cs h (b := b) (fun k h1 h2 => hb k h1 (by omega)) h4 hf1 e4
        have hoff : ∀ j, blk ∉ L1 j := fun j hj => by
          rcases g1.ow j blk hj with h | h
          · exact hf0.off blk (by simp) j h
          · exact (List.nodup_cons.1 hf0.nd).1 h
        have hN : ¬ C1.N blk := by rw [g1.N]; exact hf0.hH blk (by simp)
        have g3 := g1.rel.readd (k := k) ((g1.no k hU).trans (hno k (by simp))) ((g1.φ k hU).trans hφ) h3 g2 hN (hf0.own blk (by simp)) hoff
        have hnk : ∀ j ∈ ks, j ≠ k := fun j hj e => by subst e; exact (List.nodup_cons.1 hnd).1 hj
        have hps2 : ∀ {ks : List Nat} {ps : List Value}, PsR C ks ps → ∀ j ∈ ks, C.U j := by
          intro ks
          induction ks with
          | nil => intro _ _ j hj; cases hj
          | cons i ks ih =>
            intro ps hps j hj
            obtain ⟨_, _, _, _, hU, hr⟩ := hps
            rcases List.mem_cons.1 hj with rfl | hj
            · exact hU
            · exact ih hr j hj
        have hf2 : Fit B0 w C1 (fun j => if j = k then [blk] else L1 j) O2 M2 H2 := by
          refine ⟨fun x hx => by rw [g1.N]; exact hf.hM x (by simp [hx]), fun x hx => by rw [g1.N]; exact hf.hH x (by simp [hx]), (List.nodup_append.1 hf.nd).2.1, fun x hx => hf.own x (by simp [hx]), fun x hx j hj => ?_⟩
          have hd := (List.nodup_append.1 hf.nd).2.2
          split at hj
          · simp at hj; subst hj; exact hd x (by simp) x hx rfl
          · rcases g1.ow j x hj with h1 | h1
            · exact hf.off x (by simp [hx]) j h1
            · exact hd x (by simp [h1]) x hx rfl
        obtain ⟨C2, L2, q1, q2, q3, q4, q5, q6⟩ := takeBoxes_ok ks css g3 (b := b + 8) (fun j h1 h2 hj => by
            rcases g1.U j hj with h | h
            · exact hb j (by omega) (by omega) h
            · omega) hs.2 (PsR.imp (fun j hj => g1.φ j hj) (fun j hj => g1.le.U j hj) hps') (List.nodup_cons.1 hnd).2 (fun j hj => by
            show (ob1.put k (.box ds)).get j = _
            rw [Obs.get_put, if_neg (hnk j hj)]
            exact (g1.no j (hps2 hps' j hj)).trans (hno j (by simp [hj]))) h2 hf2
        refine ⟨C2, L2, ?_, g1.le.trans q2, fun j hj => ?_, q4.trans g1.N, fun j x hx => ?_, fun j x hx => ?_⟩
        · simp only [takeBoxes, e4]; exact q1
        · rcases q3 j hj with h | h
          · rcases g1.U j h with h | h
            · exact .inl h
            · exact .inr (by omega)
          · exact .inr (by omega)
        · rcases q5 j x hx with h | h
          · split at h
            · simp at h; subst h; exact .inr (by simp)
            · rcases g1.ow j x h with h | h
              · exact .inl h
              · exact .inr (by simp [h])
          · exact .inr (by simp [h])
        · rcases q6 j x hx with h | h
          · split at h
            · simp at h; subst h; exact .inr (by simp)
            · rcases g1.hd j x h with h | h
              · exact .inl h
              · exact .inr (by simp [h])
          · exact .inr (by simp [h])

theorem ptrs_cons {α : Type} {u : V} {us : List V} {v : α} {vs : List α} (h : ∀ cs, u ≠ .io cs) : ptrs (u :: us) (v :: vs) = ptrs us vs := by
  cases u <;> first | rfl | exact absurd rfl (h _)
theorem ptrs_res (ob : Obs) : ∀ (us : List V) {hs : List (Option (List V))} {vs : List Value} {w : World} {O M H : List Nat}, HandsR w us hs vs O M H → ptrs (resAll ob us hs) vs = ptrsH hs vs
  | [], _, _, _, _, _, _, ⟨h1, h2, _⟩ => by subst h1; subst h2; rfl
  | u :: us, _, _, _, _, _, _, ⟨v, vs', h1, h2⟩ => by
    subst h1
    rcases h2 with ⟨hs', rfl, h4⟩ | ⟨ds, hs', O1, O2, M1, M2, H1, H2, rfl, rfl, rfl, rfl, h4, h5⟩
    · have := ptrs_res ob us h4
      have hio : ∀ cs, resArg ob u ≠ .io cs := by
        intro cs
        cases u <;> simp only [resArg] <;> first | exact (res1_io ob _ cs).1 | simp
      simp only [resAll, ptrsH]
      rw [ptrs_cons hio, this]
    · simp only [resAll, ptrsH, ptrs]
      rw [ptrs_res ob us h5]


theorem args_add (xs ys : List Value) : (⟨xs⟩ : Array Value) ++ ⟨ys⟩ = ⟨xs ++ ys⟩ := by simp

theorem eff_call (hΓ : ∀ g fresh G, Γ.fn g = some (fresh, G) → OkFn P g fresh G) (h : Rel B0 w0 σ a w C L) {o : Oper} {c : Call} (ho : o.op = .call c) {gx : Operand} (hc : c.callee = .value gx) {b : Nat} (hb : ∀ k, b ≤ k → k < b + 64 → ¬ C.U k) {K : St → Option Ret} {r : Ret} (hp : effect Γ b o σ K = some r) {Q : Exit → Act → World → Prop} :
    o.wp P a w (Nxt B0 w0 o σ w C L b K r) Q := by
  simp only [effect, ho, hc] at hp
  split at hp
  · rename_i g caps eg
    have hg := h.ev gx
    rw [eg] at hg
    obtain ⟨cvs, e1, e2⟩ := hg
    unfold callFn at hp
    split at hp
    · cases hp
    · rename_i fresh G hG
      obtain ⟨hent, hok⟩ := hΓ g fresh G hG
      -- the arguments
      obtain ⟨us, hus⟩ : ∃ us, us = c.args.toList.map σ.ev ++ caps := ⟨_, rfl⟩
      obtain ⟨vs, hvs⟩ : ∃ vs, vs = c.args.toList.map a.eval ++ cvs := ⟨_, rfl⟩
      have hv : VsR C w us vs := by rw [hus, hvs]; exact (evs_ok h _).append e2
      rw [← hus] at hp
      have hexec : (execOp a.eval o).run P w = .ok (.enter g ⟨vs⟩) w := by
        have ha : c.args.map a.eval ++ (⟨cvs⟩ : Array Value) = ⟨vs⟩ := by
          apply Array.toList_inj.1
          simp [hvs]
        have := hent (⟨vs⟩ : Array Value) w
        simp only [execOp, ho, resolve, hc, Deferred.ofValue, e1]
        simp only [Sem.run_bind, Sem.run_pure, Result.andThen_ok, invoke]
        rw [show (#[] ++ c.args.map a.eval ++ (⟨cvs⟩ : Array Value)) = ⟨vs⟩ by rw [Array.empty_append]; exact ha]
        exact this
      have htouch : ∀ k cs, V.pb k 0 ∈ us → σ.obj k = .box cs → k ∈ touched o σ ∧ ∀ d ∈ cs, ∀ j, (d = .w j ∨ ∃ off len, d = .r j off len) → j ∈ touched o σ := by
        intro k cs hk hb
        have ht : touched o σ = us.flatMap (touch1 σ) := by
          simp only [touched, ho, hc, eg, hus]
        have h1 : touch1 σ (.pb k 0) = k :: cs.flatMap touchC := by simp only [touch1, hb]
        rw [ht]
        refine ⟨List.mem_flatMap.2 ⟨_, hk, by rw [h1]; simp⟩, fun d hd j hj => List.mem_flatMap.2 ⟨_, hk, ?_⟩⟩
        rw [h1]
        refine List.mem_cons_of_mem _ (List.mem_flatMap.2 ⟨d, hd, ?_⟩)
        rcases hj with rfl | ⟨_, _, rfl⟩ <;> simp [touchC]
      -- freezing
      obtain ⟨ob0, hob0⟩ : ∃ ob0, ob0 = bif fresh then σ.ob else freezeAll us σ.ob := ⟨_, rfl⟩
      rw [← hob0] at hp
      obtain ⟨C0, L0, f1, f2⟩ : ∃ C0 L0, Handed B0 w0 σ a w C L ob0 [] [] [] [] C0 L0 ∧ (fresh = false → ∀ u ∈ us, ∀ c ∈ u.cells, ∀ k, (c = .w k ∨ (∃ off len, c = .r k off len) ∨ ∃ i j, c = .pa k i j) → St.lent { σ with ob := ob0 } k) := by
        cases fresh with
        | true => rw [hob0]; exact ⟨C, L, Handed.refl h (M := []) (fun _ h => (nomatch h)), fun h => (nomatch h)⟩
        | false =>
          rw [hob0]
          obtain ⟨C0, L0, g1, g2, _⟩ := freezeAll_ok us h
          exact ⟨C0, L0, g1, fun _ => g2⟩
      split at hp
      · cases hp
      · rename_i hs ks ob1 ehand
        obtain ⟨O, M, H, C1, L1, q1, q2, q3, q4, q5⟩ := hand_ok us f1.rel (hv.le f1.le) ehand (Ks := touched o σ) (fun k cs hk hb => by
          have e3 := f1.mus k (by rw [hb]; rfl)
          exact htouch k cs hk (by rw [e3.1]; exact hb))
        have hh := f1.trans q2
        simp only [List.nil_append] at hh
        obtain ⟨M', r1, r2, r3⟩ := resAll_ok q2.rel us (hv.le hh.le) q1
        -- what is not written during the call
        let N : Nat → Prop := fun x => C1.N x ∨ (fresh = true ∧ ∃ k, x ∈ L1 k)
        have hN : ∀ x ∈ M', N x := by
          intro x hx
          cases hfr : fresh with
          | true =>
            rcases r2 x hx with h1 | h1 | h1
            · exact .inl (hh.hM x h1)
            · exact .inl h1
            · exact .inr ⟨hfr, h1⟩
          | false =>
            rcases r3 (fun u hu v hv k hk d r' xs' e => by
              have hl := f2 hfr u hu v hv k hk d r' xs'
              have e3 := q2.mus k (by rw [show St.obj { σ with ob := ob1 } k = _ from e]; rfl)
              exact hl (by rw [e3.1]; exact e)) x hx with h1 | h1
            · exact .inl (hh.hM x h1)
            · exact .inl h1
        have hHN : ∀ x ∈ H, ¬ N x := by
          intro x hx hn
          obtain ⟨_, h2, h3⟩ := hh.hH x hx
          rcases hn with hn | ⟨_, k, hk⟩
          · exact h3 hn
          · exact hh.off x h2 k hk
        have hNs : ∀ x, N x → x < w.heap.size := by
          rintro x (hn | ⟨_, k, hk⟩)
          · exact hh.rel.nsz x hn
          · exact (hh.rel.own k x hk).2
        have hOwn : ∀ x ∈ O, B0 ≤ x ∧ x < w.heap.size := by
          intro x hx
          obtain ⟨k, hk⟩ := hh.from_ x hx
          exact h.own k x hk
        have hcall := hok (resAll ob1 us hs) _ r hp B0 w0 w N vs O M' H h.below h.hB0 r1 hh.nd hOwn hN hHN hNs
        unfold Oper.wp
        rw [hexec]
        simp only [Oper.upon]
        refine Calls.mono hcall (fun e w' he => ?_)
        cases e with
        | panicked _ => exact he.elim
        | outgrown => exact he.elim
        | returned cv =>
          obtain ⟨⟨qv, css⟩, hK, hB⟩ := he
          simp only at hK
          cases hslim : (slimRet qv && slimBoxes css) with
          | false => rw [hslim] at hK; cases hK
          | true =>
            rw [hslim] at hK
            simp only [Bool.and_eq_true] at hslim
            obtain ⟨O1, M1, H1, O2, M2, H2, b1, b2, b3, b4, b5, b6⟩ := hB.ex
            rw [ptrs_res ob1 us q1] at b2
            have hOun : ∀ k, ∀ x ∈ L1 k, x ∉ O := fun k x hx hO => hh.off x hO k hx
            obtain ⟨g1, g2⟩ := hh.rel.world (w' := w') hB.below hB.sz (fun x hx => hB.fr x (hh.rel.nsz x hx) (.inr (.inl hx))) (fun k x hx => hB.fr x (hh.rel.own k x hx).2 (.inl (hOun k x hx)))
              (M := M1 ++ M2) (fun x hx => (b5 x hx).2.1) (fun k x hm hx hM => by
                have hxL := List.mem_of_mem_head? hx
                obtain ⟨h1, _, h3⟩ := b5 x hM
                have hlt := (hh.rel.own k x hxL).2
                rcases h1 with (h1 | ⟨hfr, _⟩) | h1 | h1
                · exact hh.rel.nm k x hm hx h1
                · rcases (b4 x (h3 hfr)).1 with h4 | h4
                  · exact hOun k x hxL h4
                  · omega
                · exact hOun k x hxL h1
                · omega)
            have hU1 : ∀ k, b ≤ k → k < b + 64 → ¬ C1.U k := fun k h1 h2 => by rw [hh.U]; exact hb k h1 h2
            have hfit : Fit B0 w' { C1 with N := fun x => C1.N x ∨ x ∈ M1 ++ M2 } L1 (O1 ++ O2) (M1 ++ M2) (H1 ++ H2) := by
              refine ⟨fun x hx => .inr hx, fun x hx => ?_, b3, fun x hx => ?_, fun x hx k hk => ?_⟩
              · rintro (h1 | h1)
                · exact (b6 x hx).2 (.inl h1)
                · exact (b6 x hx).1 h1
              · refine ⟨?_, (b4 x hx).2⟩
                rcases (b4 x hx).1 with h1 | h1
                · exact (hOwn x h1).1
                · exact Nat.le_trans h.hB0 h1
              · have hlt := (hh.rel.own k x hk).2
                rcases (b4 x hx).1 with h1 | h1
                · exact hOun k x hk h1
                · omega
            cases etr : takeRet b qv ob1 with
            | mk d ob2 =>
              rw [etr] at hK
              obtain ⟨C2, L2, t1, t2⟩ := takeRet_ok g1 (b := b) (fun k h1 h2 => hU1 k h1 (by omega)) hslim.1 b1 hfit.left etr
              have hsl := hslim.2
              simp only [slimBoxes, Bool.and_eq_true] at hsl
              have hlen : css.length < 5 := Nat.le_of_ble_eq_true hsl.1
              have hksU : ∀ {ks : List Nat} {ps : List Value}, PsR C0 ks ps → ∀ j ∈ ks, C0.U j := by
                intro ks
                induction ks with
                | nil => intro _ _ j hj; cases hj
                | cons i ks ih =>
                  intro ps hps j hj
                  obtain ⟨_, _, _, _, hU, hr⟩ := hps
                  rcases List.mem_cons.1 hj with rfl | hj
                  · exact hU
                  · exact ih hr j hj
              have hU01 : ∀ k, C0.U k → C1.U k := fun k hk => by rw [q2.U]; exact hk
              obtain ⟨C3, L3, s1, s2, s3, s4, s5, s6⟩ := takeBoxes_ok ks css t1.rel (b := b + 32) (fun k h1 h2 hk => by
                  rcases t1.U k hk with h3 | h3
                  · exact hU1 k (by omega) (by omega) h3
                  · omega) hsl.2 (PsR.imp (C := C0) (fun k hk => by rw [t1.φ k (hU01 k hk)]; show C1.φ k = _; rw [q2.φ]) (fun k hk => t1.le.U k (hU01 k hk)) q3) q4 (fun k hk => (t1.no k (hU01 k (hksU q3 k hk))).trans (q5 k hk).2) b2 (hfit.right t1)
              have hback : ∀ k x, x ∈ L3 k → x ∈ L1 k ∨ x ∈ O1 ++ O2 := by
                intro k x hx
                rcases s5 k x hx with h1 | h1
                · rcases t1.ow k x h1 with h2 | h2
                  · exact .inl h2
                  · exact .inr (by simp [h2])
                · exact .inr (by simp [h1])
              have hbackH : ∀ k x, (L3 k).head? = some x → (L1 k).head? = some x ∨ x ∈ H1 ++ H2 := by
                intro k x hx
                rcases s6 k x hx with h1 | h1
                · rcases t1.hd k x h1 with h2 | h2
                  · exact .inl h2
                  · exact .inr (by simp [h2])
                · exact .inr (by simp [h1])
              have hHO : ∀ x ∈ H1 ++ H2, x ∈ O1 ++ O2 := by
                intro x hx
                rcases List.mem_append.1 hx with hx | hx
                · exact List.mem_append.2 (.inl (b1.hsub x hx))
                · exact List.mem_append.2 (.inr (b2.hsub x hx))
              have hHead : ∀ x ∈ H, ∃ k ∈ touched o σ, (L k).head? = some x := fun x hx => (hh.hH x hx).1
              refine ⟨⟨_, C3, L3, hK, s1.put o.dst (t2.le s2), (hh.le.trans g2).trans (t1.le.trans s2), fun k hk => ?_, put_nx .., put_len .., put_io .., ⟨fun k x hx => ?_, fun k x hx => ?_, fun x hx => ?_⟩⟩, fun x hx ht => ?_, hB.sz⟩
              · rcases s3 k hk with h1 | h1
                · rcases t1.U k h1 with h2 | h2
                  · have h3 : C1.U k := h2
                    rw [hh.U] at h3; exact .inl h3
                  · exact .inr (by omega)
                · exact .inr (by omega)
              · rcases hbackH k x hx with h1 | h1
                · exact .inl (hh.head k x h1)
                · rcases (b4 x (hHO x h1)).1 with h2 | h2
                  · rcases hh.OH x h2 with h3 | h3
                    · exact .inr (.inr (hHead x h3))
                    · exact absurd (.inl (hh.hM x h3)) (b6 x h1).2
                  · exact .inr (.inl h2)
              · rcases hback k x hx with h1 | h1
                · exact .inl ⟨k, hh.sub k x h1⟩
                · rcases (b4 x h1).1 with h2 | h2
                  · exact .inl (hh.from_ x h2)
                  · exact .inr h2
              · rw [s4, t1.N] at hx
                have hC1 : C1.N x → C.N x ∨ (∃ j, x ∈ L j) ∨ w.heap.size ≤ x := fun h1 => (hh.nn x h1).imp id .inl
                rcases hx with hx | hx
                · exact hC1 hx
                · rcases (b5 x hx).1 with (h1 | ⟨_, k, h1⟩) | h1 | h1
                  · exact hC1 h1
                  · exact .inr (.inl ⟨k, hh.sub k x h1⟩)
                  · exact .inr (.inl (hh.from_ x h1))
                  · exact .inr (.inr h1)
              · refine hB.fr x hx ?_
                by_cases hxO : x ∈ O
                · rcases hh.OH x hxO with h1 | h1
                  · obtain ⟨k, hk, hk'⟩ := hHead x h1
                    exact absurd hk' (ht k hk)
                  · exact .inr (.inl (hh.hM x h1))
                · exact .inl hxO
  · cases hp
end
end Go.Ev
