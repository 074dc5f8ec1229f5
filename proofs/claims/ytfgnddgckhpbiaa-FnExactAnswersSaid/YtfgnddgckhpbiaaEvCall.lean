/- Calls by contract: the machine does what the evaluator says. -/
import Derived.Test.YtfgnddgckhpbiaaEvTake
set_option linter.unusedVariables false
namespace Go.Ev
open Go.RowKit

/-- What a call leaves. -/
structure Back (B0 : Nat) (w0 w : World) (N : Nat → Prop) (O : List Nat) (ps : List Value) (fresh : Bool) (q : Ret) (c : Value) (w' : World) : Prop where
  ex : ∃ O1 M1 H1 O2 M2 H2, RetR w' q.1 c O1 M1 H1 ∧ ArgsR w' q.2 ps O2 M2 H2 ∧ (O1 ++ O2).Nodup ∧ (∀ x ∈ O1 ++ O2, (x ∈ O ∨ w.heap.size ≤ x) ∧ x < w'.heap.size) ∧
    (∀ x ∈ M1 ++ M2, (N x ∨ x ∈ O ∨ w.heap.size ≤ x) ∧ x < w'.heap.size ∧ (fresh = true → x ∈ O1 ++ O2)) ∧ ∀ x ∈ H1 ++ H2, x ∉ M1 ++ M2 ∧ ¬ N x
  below : Below B0 w0 w'
  sz : w.heap.size ≤ w'.heap.size
  fr : ∀ x, x < w.heap.size → (x ∉ O ∨ N x) → w'.heap[x]? = w.heap[x]?

/-- A function keeps its contract. -/
def OkFn (P : Program) (I : Nat → World → Prop) (g : FuncId) (fresh : Bool) (G : Sm) : Prop :=
  (∀ (args : Array Value) (w : World), (callFunc g args).run P w = .ok (.enter g args) w) ∧
  ∀ (ws : List V) (K : Ret → Option Ret) (r : Ret), G ws K = some r → ∀ (B0 : Nat) (w0 w : World) (N : Nat → Prop) (vs : List Value) (O M H : List Nat), I B0 w0 → Below B0 w0 w → B0 ≤ w.heap.size → ArgsR w ws vs O M H → O.Nodup →
    (∀ x ∈ O, B0 ≤ x ∧ x < w.heap.size) → (∀ x ∈ M, N x) → (∀ x ∈ H, ¬ N x) → (∀ x, N x → x < w.heap.size) →
    Calls P g ⟨vs⟩ w fun e w' => match e with
      | .returned c => ∃ q, K q = some r ∧ Back B0 w0 w N O (ptrs ws vs) fresh q c w'
      | _ => False

/-- What may be written is owned. -/
theorem CellR.hsub {w : World} {v : V} {c : Value} {O M H : List Nat} (h : CellR w v c O M H) : ∀ x ∈ H, x ∈ O := by
  unfold CellR at h
  split at h
  · obtain ⟨_, _, rfl⟩ := h; exact fun x hx => List.mem_of_mem_take hx
  · obtain ⟨F, _, rfl, _, rfl⟩ := h; exact fun x hx => hx
  · obtain ⟨_, _, rfl⟩ := h; exact fun x hx => hx
  · obtain ⟨_, _, rfl⟩ := h; exact fun _ h => (nomatch h)
theorem CellsR.hsub {w : World} : ∀ {cs : List V} {vs : List Value} {O M H : List Nat}, CellsR w cs vs O M H → ∀ x ∈ H, x ∈ O
  | [], _, _, _, _, ⟨_, _, _, h⟩, x, hx => by rw [h] at hx; cases hx
  | c :: cs, _, _, _, _, ⟨v, vs', O1, O2, M1, M2, H1, H2, h1, h2, h3, h4, h5, h6⟩, x, hx => by
    rw [h4] at hx; rw [h2]
    rcases List.mem_append.1 hx with hx | hx
    · exact List.mem_append.2 (.inl (h5.hsub x hx))
    · exact List.mem_append.2 (.inr (CellsR.hsub h6 x hx))
theorem ArgR.hsub {w : World} {v : V} {c : Value} {O M H : List Nat} (h : ArgR w v c O M H) : ∀ x ∈ H, x ∈ O := by
  unfold ArgR at h
  split at h
  · obtain ⟨b, vs, ty, O', H', _, _, h1, rfl, rfl⟩ := h
    intro x hx
    rcases List.mem_cons.1 hx with rfl | hx
    · simp
    · exact List.mem_cons_of_mem _ (h1.hsub x hx)
  · obtain ⟨vs, _, h1⟩ := h; exact h1.hsub
  · exact h.hsub
theorem ArgsR.hsub {w : World} : ∀ {cs : List V} {vs : List Value} {O M H : List Nat}, ArgsR w cs vs O M H → ∀ x ∈ H, x ∈ O
  | [], _, _, _, _, ⟨_, _, _, h⟩, x, hx => by rw [h] at hx; cases hx
  | c :: cs, _, _, _, _, ⟨v, vs', O1, O2, M1, M2, H1, H2, h1, h2, h3, h4, h5, h6⟩, x, hx => by
    rw [h4] at hx; rw [h2]
    rcases List.mem_append.1 hx with hx | hx
    · exact List.mem_append.2 (.inl (h5.hsub x hx))
    · exact List.mem_append.2 (.inr (ArgsR.hsub h6 x hx))
theorem RetR.hsub {w : World} {v : V} {c : Value} {O M H : List Nat} (h : RetR w v c O M H) : ∀ x ∈ H, x ∈ O := by
  unfold RetR at h
  split at h
  · obtain ⟨vs, _, h1⟩ := h; exact h1.hsub
  · exact h.hsub

section
variable {P : Program} {Γ : Env} {B0 : Nat} {w0 : World} {σ : St} {a : Act} {w : World} {C : Cx} {L : Nat → List Nat}

/-- The world has changed, but not where it is looked at. -/
theorem Rel.world (h : Rel B0 w0 σ a w C L) {w' : World} (hbel : Below B0 w0 w') (hsz : w.heap.size ≤ w'.heap.size) (h1 : ∀ x, C.N x → w'.heap[x]? = w.heap[x]?) (h2 : ∀ k, ∀ x ∈ L k, w'.heap[x]? = w.heap[x]?)
    {M : List Nat} (hM : ∀ x ∈ M, x < w'.heap.size) (hH : ∀ k x, wr (σ.obj k) (L k) x → x ∉ M) :
    Rel B0 w0 σ a w' { C with N := fun x => C.N x ∨ x ∈ M } L ∧ C.Le w { C with N := fun x => C.N x ∨ x ∈ M } w' := by
  have hle : C.Le w { C with N := fun x => C.N x ∨ x ∈ M } w' := ⟨fun _ _ _ h => h, fun _ h => h, fun _ h => .inl h, h1, fun _ _ _ h => h⟩
  refine ⟨?_, hle⟩
  refine { below := hbel, hB0 := Nat.le_trans h.hB0 hsz, defers := h.defers, len := h.len, tm := fun i v hv => ?_, ob := fun j => (h.ob j).le hle rfl rfl (h2 j), us := h.us, nd := h.nd, dj := h.dj, own := fun j x hx => ⟨(h.own j x hx).1, Nat.lt_of_lt_of_le (h.own j x hx).2 hsz⟩, nw := fun j x hx hn => ?_, nsz := fun x hx => ?_ }
  · obtain ⟨c, h3, h4⟩ := h.tm i v hv
    exact ⟨c, h3, h4.le hle⟩
  · rcases hn with hn | hn
    · exact h.nw j x hx hn
    · exact hH j x hx hn
  · rcases hx with hx | hx
    · exact Nat.lt_of_lt_of_le (h.nsz x hx) hsz
    · exact hM x hx

theorem takeBoxes_ok : ∀ (ks : List Nat) (css : List (List V)) {σ : St} {C : Cx} {L : Nat → List Nat} (h : Rel B0 w0 σ a w C L) {b : Nat} (hb : ∀ k, b ≤ k → k < b + 24 * css.length → ¬ C.U k) (hs : css.all (fun cs => Nat.blt cs.length 20) = true) {ps : List Value} (hps : PsR C ks ps) (hnd : ks.Nodup)
    (hno : ∀ k ∈ ks, σ.obj k = .no) {O M H : List Nat} (hc : ArgsR w (css.map .io) ps O M H) (hf : Fit B0 w C L O M H),
    ∃ C' L', Rel B0 w0 { σ with ob := takeBoxes b ks css σ.ob } a w C' L' ∧ C.Le w C' w ∧ (∀ k, C'.U k → C.U k ∨ (b ≤ k ∧ k < b + 24 * css.length)) ∧ C'.N = C.N ∧ (∀ k x, x ∈ L' k → x ∈ L k ∨ x ∈ O) ∧ (∀ k x, x ∈ L' k → ¬ C'.N x → x ∈ L k ∨ x ∈ H)
  | [], css, σ, C, L, h, b, hb, hs, ps, hps, hnd, hno, O, M, H, hc, hf => by
    cases css with
    | nil =>
      obtain ⟨_, rfl, _, rfl⟩ := hc
      exact ⟨C, L, h, Cx.Le.refl C w, fun _ h => .inl h, rfl, fun _ _ h => .inl h, fun _ _ h _ => .inl h⟩
    | cons cs css =>
      obtain ⟨v, vs', _, _, _, _, _, _, h1, _⟩ := hc
      rw [show ps = [] from hps] at h1; cases h1
  | k :: ks, css, σ, C, L, h, b, hb, hs, ps, hps, hnd, hno, O, M, H, hc, hf => by
    obtain ⟨blk, ps', rfl, hφ, hU, hps'⟩ := hps
    cases css with
    | nil => obtain ⟨h1, _⟩ := hc; cases h1
    | cons cs css =>
      obtain ⟨v, vs', O1, O2, M1, M2, H1, H2, e1, rfl, rfl, rfl, h1, h2⟩ := hc
      injection e1 with e1 e2
      subst e1; subst e2
      obtain ⟨blk', vs, ty, O', H', e3, h3, h4, rfl, rfl⟩ := h1
      injection e3 with e3; injection e3 with e3; injection e3 with e3 _
      subst e3
      simp only [List.all_cons, Bool.and_eq_true] at hs
      have hlen : cs.length < 20 := Nat.le_of_ble_eq_true hs.1
      simp only [List.length_cons] at hb ⊢
      cases e4 : takeCells b cs σ.ob with
      | mk ds ob1 =>
        have hf0 := hf.left
        have hf1 : Fit B0 w C L O' M1 H' := ⟨hf0.hM, fun x hx => hf0.hH x (by simp [hx]), (List.nodup_cons.1 hf0.nd).2, fun x hx => hf0.own x (by simp [hx]), fun x hx => hf0.off x (by simp [hx])⟩
        obtain ⟨C1, L1, g1, g2⟩ := takeCells_ok cs h (b := b) (fun k h1 h2 => hb k h1 (by omega)) h4 hf1 e4
        have hoff : ∀ j, blk ∉ L1 j := fun j hj => by
          rcases g1.ow j blk hj with h | h
          · exact hf0.off blk (by simp) j h
          · exact (List.nodup_cons.1 hf0.nd).1 h
        have hN : ¬ C1.N blk := by rw [g1.N]; exact hf0.hH blk (by simp)
        have g3 := g1.rel.readd (k := k) ((g1.no k hU).trans (hno k (by simp))) ((g1.φ k hU).trans hφ) h3 g2 hN (hf0.own blk (by simp)) hoff
        have hnk : ∀ j ∈ ks, j ≠ k := fun j hj e => by subst e; exact (List.nodup_cons.1 hnd).1 hj
        have hps2 : ∀ {ks : List Nat} {ps : List Value}, PsR C ks ps → ∀ j ∈ ks, C.U j := by
          intro ks
          induction ks with
          | nil => intro _ _ j hj; cases hj
          | cons i ks ih =>
            intro ps hps j hj
            obtain ⟨_, _, _, _, hU, hr⟩ := hps
            rcases List.mem_cons.1 hj with rfl | hj
            · exact hU
            · exact ih hr j hj
        have hf2 : Fit B0 w C1 (fun j => if j = k then [blk] else L1 j) O2 M2 H2 := by
          refine ⟨fun x hx => by rw [g1.N]; exact hf.hM x (by simp [hx]), fun x hx => by rw [g1.N]; exact hf.hH x (by simp [hx]), (List.nodup_append.1 hf.nd).2.1, fun x hx => hf.own x (by simp [hx]), fun x hx j hj => ?_⟩
          have hd := (List.nodup_append.1 hf.nd).2.2
          split at hj
          · simp at hj; subst hj; exact hd x (by simp) x hx rfl
          · rcases g1.ow j x hj with h1 | h1
            · exact hf.off x (by simp [hx]) j h1
            · exact hd x (by simp [h1]) x hx rfl
        obtain ⟨C2, L2, q1, q2, q3, q4, q5, q6⟩ := takeBoxes_ok ks css g3 (b := b + 24) (fun j h1 h2 hj => by
            rcases g1.U j hj with h | h
            · exact hb j (by omega) (by omega) h
            · omega) hs.2 (PsR.imp (fun j hj => g1.φ j hj) (fun j hj => g1.le.U j hj) hps') (List.nodup_cons.1 hnd).2 (fun j hj => by
            show (ob1.put k (.box ds)).get j = _
            rw [Obs.get_put, if_neg (hnk j hj)]
            exact (g1.no j (hps2 hps' j hj)).trans (hno j (by simp [hj]))) h2 hf2
        refine ⟨C2, L2, ?_, g1.le.trans q2, fun j hj => ?_, q4.trans g1.N, fun j x hx => ?_, fun j x hx hn => ?_⟩
        · simp only [takeBoxes, e4]; exact q1
        · rcases q3 j hj with h | h
          · rcases g1.U j h with h | h
            · exact .inl h
            · exact .inr (by omega)
          · exact .inr (by omega)
        · rcases q5 j x hx with h | h
          · split at h
            · simp at h; subst h; exact .inr (by simp)
            · rcases g1.ow j x h with h | h
              · exact .inl h
              · exact .inr (by simp [h])
          · exact .inr (by simp [h])
        · rcases q6 j x hx hn with h | h
          · split at h
            · simp at h; subst h; exact .inr (by simp)
            · rcases g1.hd j x h (by rw [← q4]; exact hn) with h | h
              · exact .inl h
              · exact .inr (by simp [h])
          · exact .inr (by simp [h])

theorem ptrs_cons {α : Type} {u : V} {us : List V} {v : α} {vs : List α} (h : u.back = false) : ptrs (u :: us) (v :: vs) = ptrs us vs := by
  simp [ptrs, h]
theorem res1_own (ob : Obs) (u : V) : (res1 ob u).isOwn = false := by
  have := (res1_no ob u).2.2
  cases e : res1 ob u with
  | l o r xs => cases o <;> first | rfl | exact absurd e (this r xs)
  | _ => rfl
theorem resArg_back (ob : Obs) (u : V) : (resArg ob u).back = false := by
  have one : ∀ v : V, (res1 ob v).back = false := fun v => by
    have h1 := res1_own ob v
    have h2 := fun cs => (res1_io ob v cs)
    cases e : res1 ob v with
    | io cs => exact absurd e (h2 cs).1
    | a cs => exact absurd e (h2 cs).2
    | _ => rw [e] at h1; exact h1
  by_cases ha : ∃ cs, u = .a cs
  · obtain ⟨cs, rfl⟩ := ha
    simp only [resArg, V.back]
    induction cs with
    | nil => rfl
    | cons c cs ih => simp only [List.map_cons, List.any_cons, res1_own, Bool.false_or]; exact ih
  · have e : resArg ob u = res1 ob u := by
      cases u <;> first | rfl | exact absurd ⟨_, rfl⟩ ha
    rw [e]; exact one u
theorem ptrs_res (ob : Obs) : ∀ (us : List V) {hs : List (Option (List V))} {vs : List Value} {w : World} {O M H : List Nat}, HandsR w us hs vs O M H → ptrs (resAll ob us hs) vs = ptrsH hs vs
  | [], _, _, _, _, _, _, ⟨h1, h2, _⟩ => by subst h1; subst h2; rfl
  | u :: us, _, _, _, _, _, _, ⟨v, vs', h1, h2⟩ => by
    subst h1
    rcases h2 with ⟨hs', rfl, h4⟩ | ⟨ds, hs', O1, O2, M1, M2, H1, H2, rfl, rfl, rfl, rfl, h4, h5⟩
    · have := ptrs_res ob us h4
      simp only [resAll, ptrsH]
      rw [ptrs_cons (resArg_back ob u), this]
    · simp only [resAll, ptrsH, ptrs, V.back, cond_true]
      rw [ptrs_res ob us h5]
theorem hands_none : ∀ {us : List V} {hs : List (Option (List V))} {vs : List Value} {O M H : List Nat}, HandsR w us hs vs O M H → ptrsH hs vs = [] → O = []
  | [], _, _, _, _, _, ⟨_, _, h3, _, _⟩, _ => h3
  | u :: us, _, _, _, _, _, ⟨v, vs', h1, h2⟩, hp => by
    subst h1
    rcases h2 with ⟨hs', rfl, h4⟩ | ⟨ds, hs', O1, O2, M1, M2, H1, H2, rfl, rfl, rfl, rfl, h4, h5⟩
    · exact hands_none h4 hp
    · simp [ptrsH] at hp
theorem ios_some : ∀ {vs : List V} {css : List (List V)}, ios vs = some css → vs = css.map .io
  | [], css, h => by simp only [ios, Option.some.injEq] at h; subst h; rfl
  | v :: vs, css, h => by
    cases v with
    | io cs =>
      simp only [ios] at h
      split at h
      · rename_i css' e
        cases h
        rw [ios_some e]; rfl
      · cases h
    | _ => simp [ios] at h

/-! ### Results that are owned alone -/
theorem Cell.own {v : V} {c : Value} {O M H : List Nat} (h : CellR w v c O M H) (hf : v.frsh1 = true) : CellR w (own1 v) c O [] O := by
  cases v with
  | s u => obtain ⟨h1, rfl, h3⟩ := h; exact ⟨h1, rfl, rfl⟩
  | nl => obtain ⟨h1, rfl, h3⟩ := h; exact ⟨h1, rfl, rfl⟩
  | l o r xs =>
    cases o with
    | no => simp [V.frsh1] at hf
    | deep => exact ⟨h.1, rfl, rfl⟩
    | own => exact ⟨h.1, rfl, rfl⟩
    | top =>
      obtain ⟨F, h1, rfl, rfl, rfl⟩ := h
      have hr : r.flat = true := hf
      have hF : F.take 1 = F := by
        rcases h1 with ⟨_, h2, _⟩ | ⟨b, o, cap, F', _, _, h3, _, _, h4⟩
        · rw [h2]; rfl
        · rw [h3, (RowsR.flat (e' := true) hr h4).1]; rfl
      rw [hF]
      refine ⟨?_, rfl, rfl⟩
      rcases h1 with h1 | ⟨b, o, cap, F', h2, h3, h4, h5, h6, h7⟩
      · exact .inl h1
      · refine .inr ⟨b, o, cap, F', h2, h3, h4, h5, h6, ?_⟩
        have := RowsR.flat (e' := false) hr h7
        have e := this.1
        subst e
        exact this.2
  | _ => simp [V.frsh1] at hf
theorem Cells.own : ∀ {cs : List V} {vs : List Value} {O M H : List Nat} (h : CellsR w cs vs O M H) (hf : cs.all V.frsh1 = true), CellsR w (cs.map own1) vs O [] O
  | [], _, _, _, _, ⟨h1, h2, h3, h4⟩, _ => ⟨h1, h2, rfl, h2⟩
  | c :: cs, _, _, _, _, ⟨v, vs', O1, O2, M1, M2, H1, H2, e1, e2, e3, e4, h1, h2⟩, hf => by
    simp only [List.all_cons, Bool.and_eq_true] at hf
    exact ⟨v, vs', O1, O2, [], [], O1, O2, e1, e2, rfl, e2, Cell.own h1 hf.1, Cells.own h2 hf.2⟩
theorem Arg.own {v : V} {c : Value} {O M H : List Nat} (h : ArgR w v c O M H) (hf : v.frsh = true) (hn : ∀ cs, v ≠ .io cs) : ArgR w (ownV v) c O [] O := by
  cases v with
  | io cs => exact absurd rfl (hn cs)
  | a cs =>
    obtain ⟨vs, h1, h2⟩ := h
    exact ⟨vs, h1, Cells.own h2 hf⟩
  | s u => exact Cell.own (v := .s u) h hf
  | nl => exact Cell.own (v := .nl) h hf
  | l o r xs => 
    have := Cell.own (v := .l o r xs) h hf
    cases o <;> exact this
  | _ => simp [V.frsh, V.frsh1] at hf
theorem Args.own : ∀ {cs : List V} {vs : List Value} {O M H : List Nat} (h : ArgsR w cs vs O M H) (hf : cs.all V.frsh = true) (hn : ∀ v ∈ cs, ∀ ds, v ≠ .io ds), ArgsR w (cs.map ownV) vs O [] O
  | [], _, _, _, _, ⟨h1, h2, h3, h4⟩, _, _ => ⟨h1, h2, rfl, h2⟩
  | c :: cs, _, _, _, _, ⟨v, vs', O1, O2, M1, M2, H1, H2, e1, e2, e3, e4, h1, h2⟩, hf, hn => by
    simp only [List.all_cons, Bool.and_eq_true] at hf
    exact ⟨v, vs', O1, O2, [], [], O1, O2, e1, e2, rfl, e2, Arg.own h1 hf.1 (hn c (by simp)), Args.own h2 hf.2 (fun v hv => hn v (by simp [hv]))⟩
theorem Ret.own {v : V} {c : Value} {O M H : List Nat} (h : RetR w v c O M H) (hf : frshRet v = true) (hn : v.noIo = true) : RetR w (ownRet v) c O [] O := by
  cases v with
  | t us =>
    obtain ⟨vs, h1, h2⟩ := h
    refine ⟨vs, h1, Args.own h2 hf (fun v hv ds e => ?_)⟩
    subst e
    simp only [V.noIo, List.all_eq_true] at hn
    exact absurd (hn _ hv) (by simp)
  | io cs => simp [V.noIo] at hn
  | a cs => exact Arg.own (v := .a cs) h hf (by simp)
  | s u => exact Arg.own (v := .s u) h hf (by simp)
  | nl => exact Arg.own (v := .nl) h hf (by simp)
  | l o r xs =>
    have := Arg.own (v := .l o r xs) h hf (by simp)
    cases o <;> exact this
  | _ => simp [frshRet, V.frsh, V.frsh1] at hf
theorem slim_own {v : V} (h : slimRet v = true) : slimRet (ownRet v) = true := by
  have h1 : ∀ v : V, v.slim = true → (ownV v).slim = true := by
    intro v hv
    cases v with
    | a cs => simpa [ownV, V.slim] using hv
    | l o r xs => cases o <;> rfl
    | _ => exact hv
  cases v with
  | t us =>
    simp only [slimRet, Bool.and_eq_true] at h
    simp only [ownRet, slimRet, Bool.and_eq_true, List.length_map]
    refine ⟨h.1, ?_⟩
    have h2 := h.2
    rw [List.all_eq_true] at h2 ⊢
    intro z hz
    obtain ⟨y, hy, rfl⟩ := List.mem_map.1 hz
    exact h1 y (h2 y hy)
  | a cs => exact h1 (.a cs) h
  | l o r xs => cases o <;> rfl
  | _ => exact h

theorem args_add (xs ys : List Value) : (⟨xs⟩ : Array Value) ++ ⟨ys⟩ = ⟨xs ++ ys⟩ := by simp

/-! ### Lending -/
def wks : List V → List Nat
  | [] => []
  | .w k :: cs => k :: wks cs
  | _ :: cs => wks cs
/-- An array that was lent comes back. -/
theorem Rel.readdO (h : Rel B0 w0 σ a w C L) {k : Nat} (hno : σ.obj k = .no) {st : Bool} {r : Rw} {xs : List r.T} {O : List Nat} (hO : ObR C w k (.own st r xs) O) (hnd : O.Nodup) (hN : ∀ x ∈ O, ¬ C.N x) (hown : ∀ x ∈ O, B0 ≤ x ∧ x < w.heap.size) (hoff : ∀ x ∈ O, ∀ j, x ∉ L j) :
    Rel B0 w0 { σ with ob := σ.ob.put k (.own st r xs) } a w C (fun j => if j = k then O else L j) := by
  have hob : ∀ j, St.obj { σ with ob := σ.ob.put k (.own st r xs) } j = if j = k then .own st r xs else σ.obj j := fun j => by
    show (σ.ob.put k _).get j = _
    rw [Obs.get_put]; rfl
  refine { below := h.below, hB0 := h.hB0, defers := h.defers, len := h.len, tm := h.tm, ob := fun j => ?_, us := h.us, nd := fun j => ?_, dj := fun j j' hj x hx => ?_, own := fun j x hx => ?_, nw := fun j x hwr => ?_, nsz := h.nsz }
  · rw [hob]
    by_cases hk : j = k
    · subst hk
      rw [if_pos rfl, if_pos rfl]
      exact hO
    · rw [if_neg hk, if_neg hk]
      exact h.ob j
  · show (if j = k then O else L j).Nodup
    split
    · exact hnd
    · exact h.nd j
  · split at hx
    · rename_i e1
      rw [if_neg (fun e2 => hj (e1.trans e2.symm))]
      exact hoff x hx j'
    · split
      · exact fun hx' => hoff x hx' j hx
      · exact h.dj j j' hj x hx
  · split at hx
    · exact hown x hx
    · exact h.own j x hx
  · rw [hob] at hwr
    by_cases h3 : j = k
    · rw [if_pos h3, if_pos h3] at hwr
      exact hN x hwr
    · rw [if_neg h3, if_neg h3] at hwr
      exact h.nw j x hwr

/-- The objects are what can be found. -/
theorem Rel.obs {ob : Obs} (h : Rel B0 w0 { σ with ob := ob } a w C L) {ob' : Obs} (he : ∀ j, ob'.get j = ob.get j) : Rel B0 w0 { σ with ob := ob' } a w C L :=
  { below := h.below, hB0 := h.hB0, defers := h.defers, len := h.len, tm := h.tm, ob := fun j => by
      have := h.ob j
      show ObR C w j (ob'.get j) (L j)
      rw [he]; exact this, us := h.us, nd := h.nd, dj := h.dj, own := h.own, nw := fun j x hwr => by
      have hwr' : wr (ob'.get j) (L j) x := hwr
      rw [he] at hwr'
      exact h.nw j x hwr', nsz := h.nsz }
/-- What was lent and what it stands for. -/
def LentR (C : Cx) : List V → List V → Prop
  | [], [] => True
  | .w k :: cs, .l .own r _ :: ds => (∃ cv, C.φ k = some (.arr cv r.n)) ∧ LentR C cs ds
  | .w _ :: _, _ => False
  | _ :: cs, _ :: ds => LentR C cs ds
  | _, _ => False

theorem sameR_tail {d e : V} {ds es : List V} (h : sameR (d :: ds) (e :: es) = true) : sameR ds es = true := by
  unfold sameR at h
  split at h <;> simp_all
theorem lendL_ok : ∀ (cs : List V) {σ : St} {L : Nat → List Nat} (h : Rel B0 w0 σ a w C L) {vs : List Value} (hv : VsR C w cs vs) {ds : List V} {ob' : Obs} (hh : lendL σ.ob cs = some (ds, ob')) {Ks : List Nat} (hK : ∀ k ∈ wks cs, k ∈ Ks),
    ∃ O L', CellsR w ds vs O [] O ∧ Handed B0 w0 σ a w C L ob' Ks O [] O C L' ∧ LentR C cs ds ∧ (wks cs).Nodup ∧ ∀ k ∈ wks cs, St.obj { σ with ob := ob' } k = .no ∧ C.U k ∧ ∃ st r xs, σ.obj k = .own st r xs
  | [], σ, L, h, vs, hv, ds, ob', hh, Ks, hK => by
    simp only [lendL, Option.some.injEq, Prod.mk.injEq] at hh
    obtain ⟨rfl, rfl⟩ := hh
    simp only [VsR] at hv
    exact ⟨[], L, ⟨hv, rfl, rfl, rfl⟩, (Handed.refl h (M := []) (fun _ h => (nomatch h))).mono (fun _ h => (nomatch h)), trivial, List.nodup_nil, fun _ h => (nomatch h)⟩
  | c :: cs, σ, L, h, vs, hv, ds, ob', hh, Ks, hK => by
    obtain ⟨v, vs', rfl, h2, h3⟩ := hv
    simp only [lendL] at hh
    split at hh
    · cases hh
    · rename_i d ob1 e1
      split at hh
      · cases hh
      · rename_i ds2 ob2 e2
        cases hh
        cases c with
        | s u =>
          simp only [lend1, Option.some.injEq, Prod.mk.injEq] at e1
          obtain ⟨rfl, rfl⟩ := e1
          obtain ⟨O, L', g1, g2, g3, g4, g5⟩ := lendL_ok cs h h3 e2 (Ks := Ks) hK
          exact ⟨O, L', ⟨v, vs', [], O, [], [], [], O, rfl, rfl, rfl, rfl, ⟨h2, rfl, rfl⟩, g1⟩, g2, g3, g4, g5⟩
        | nl =>
          simp only [lend1, Option.some.injEq, Prod.mk.injEq] at e1
          obtain ⟨rfl, rfl⟩ := e1
          obtain ⟨O, L', g1, g2, g3, g4, g5⟩ := lendL_ok cs h h3 e2 (Ks := Ks) hK
          exact ⟨O, L', ⟨v, vs', [], O, [], [], [], O, rfl, rfl, rfl, rfl, ⟨h2, rfl, rfl⟩, g1⟩, g2, g3, g4, g5⟩
        | w k =>
          simp only [lend1] at e1
          split at e1
          · rename_i st r xs eo
            cases e1
            have eo' : σ.obj k = .own st r xs := eo
            obtain ⟨cv, hφ, hF, _⟩ := h.ownd eo'
            have hv' := h2.2.2 cv _ hφ
            subst hv'
            have hd := (Handed.del h (k := k) (O := L k) rfl (M := []) (H := L k) (fun _ h => (nomatch h)) (fun x hx => ⟨hx, h.nw k x (by rw [eo']; exact hx)⟩) (fun x hx => .inl hx)).mono (Ks' := Ks) (fun j hj => by simp at hj; subst hj; exact hK j (by simp [wks]))
            obtain ⟨O, L', g1, g2, g3, g4, g5⟩ := lendL_ok cs hd.rel h3 e2 (Ks := Ks) (fun j hj => hK j (by simp [wks, hj]))
            have hob : ∀ j, St.obj { σ with ob := σ.ob.del k } j = if j = k then .no else σ.obj j := fun j => by
              show (σ.ob.del k).get j = _
              rw [Obs.get_del]; rfl
            have hne : ∀ j ∈ wks cs, j ≠ k := fun j hj e => by
              obtain ⟨_, _, st', r', xs', h6⟩ := g5 j hj
              rw [e, hob, if_pos rfl] at h6; cases h6
            refine ⟨L k ++ O, L', ⟨v, vs', L k, O, [], [], L k, O, rfl, rfl, rfl, rfl, ⟨hF, rfl, rfl⟩, g1⟩, (hd.trans g2).mono (fun j hj => by simpa using hj), ⟨⟨v, hφ⟩, g3⟩, List.nodup_cons.2 ⟨fun hk => hne k hk rfl, g4⟩, fun j hj => ?_⟩
            rcases List.mem_cons.1 hj with rfl | hj
            · refine ⟨g2.nos j (by rw [hob, if_pos rfl]), h2.1, st, r, xs, eo'⟩
            · obtain ⟨h5, h6, st', r', xs', h7⟩ := g5 j hj
              rw [hob, if_neg (hne j hj)] at h7
              exact ⟨h5, h6, st', r', xs', h7⟩
          · cases e1
        | _ => simp [lend1] at e1

theorem unlendL_ok : ∀ (cs : List V) {σ : St} {L : Nat → List Nat} (h : Rel B0 w0 σ a w C L) {vs : List Value} (hv : VsR C w cs vs) {ds es : List V} (hl : LentR C cs ds) (hs : sameR ds es = true) {O M H : List Nat} (hc : CellsR w es vs O M H) (hnd : O.Nodup) (hN : ∀ x ∈ O, ¬ C.N x) (hown : ∀ x ∈ O, B0 ≤ x ∧ x < w.heap.size) (hoff : ∀ x ∈ O, ∀ j, x ∉ L j)
    (hwk : (wks cs).Nodup) (hno : ∀ k ∈ wks cs, σ.obj k = .no) {ob1 : Obs} (hu : unlendL cs es σ.ob = some ob1),
    ∃ L', Rel B0 w0 { σ with ob := ob1 } a w C L' ∧ ∀ j x, x ∈ L' j → x ∈ L j ∨ x ∈ O
  | [], σ, L, h, vs, hv, ds, es, hl, hs, O, M, H, hc, hnd, hN, hown, hoff, hwk, hno, ob1, hu => by
    cases es with
    | nil => simp only [unlendL, Option.some.injEq] at hu; subst hu; exact ⟨L, h, fun _ _ h => .inl h⟩
    | cons e es => simp [unlendL] at hu
  | c :: cs, σ, L, h, vs, hv, ds, es, hl, hs, O, M, H, hc, hnd, hN, hown, hoff, hwk, hno, ob1, hu => by
    cases es with
    | nil => simp [unlendL] at hu
    | cons e es =>
      obtain ⟨v, vs', e0, h2, h3⟩ := hv
      subst e0
      obtain ⟨v1, vs1, O1, O2, M1, M2, H1, H2, e3, rfl, rfl, rfl, hc1, hc2⟩ := hc
      injection e3 with e3 e4
      subst e3; subst e4
      simp only [unlendL] at hu
      split at hu
      · cases hu
      · rename_i ob2 eu
        have hnd2 := (List.nodup_append.1 hnd).2.1
        -- one that holds nothing
        have skip : ob2 = σ.ob → wks (c :: cs) = wks cs → (∃ ds', LentR C cs ds' ∧ sameR ds' es = true) → ∃ L', Rel B0 w0 { σ with ob := ob1 } a w C L' ∧ ∀ j x, x ∈ L' j → x ∈ L j ∨ x ∈ O1 ++ O2 := by
          rintro rfl hw ⟨ds', hl', hs'⟩
          rw [hw] at hwk hno
          obtain ⟨L', g1, g2⟩ := unlendL_ok cs h h3 hl' hs' hc2 hnd2 (fun x hx => hN x (by simp [hx])) (fun x hx => hown x (by simp [hx])) (fun x hx => hoff x (by simp [hx])) hwk hno hu
          exact ⟨L', g1, fun j x hx => (g2 j x hx).imp id (fun h => by simp [h])⟩
        cases c with
        | s u =>
          simp only [unlend1, Option.some.injEq] at eu
          cases ds with
          | nil => exact hl.elim
          | cons d ds => exact skip eu.symm rfl ⟨ds, hl, sameR_tail hs⟩
        | nl =>
          simp only [unlend1, Option.some.injEq] at eu
          cases ds with
          | nil => exact hl.elim
          | cons d ds => exact skip eu.symm rfl ⟨ds, hl, sameR_tail hs⟩
        | w k =>
          simp only [unlend1] at eu
          split at eu
          · rename_i r xs
            cases eu
            obtain ⟨g1, rfl, rfl⟩ := hc1
            cases ds with
            | nil => exact hl.elim
            | cons d ds =>
              cases d with
              | l o' r' xs' =>
                cases o' with
                | own =>
                  obtain ⟨⟨cv, hφ⟩, hl2⟩ := hl
                  simp only [sameR, Bool.and_eq_true, decide_eq_true_eq] at hs
                  obtain ⟨hr, hs2⟩ := hs
                  have hv' := h2.2.2 cv _ hφ
                  subst hv'
                  have hk0 : σ.obj k = .no := hno k (by simp [wks])
                  simp only [wks] at hwk hno
                  have hwk' := List.nodup_cons.1 hwk
                  have hrr : r = r' := hr
                  have hnd1 := (List.nodup_append.1 hnd)
                  have hrel := h.readdO hk0 (st := false) (r := r) (xs := xs) (O := H1) ⟨v, by rw [hrr]; exact hφ, g1, fun h => (nomatch h)⟩ hnd1.1 (fun x hx => hN x (by simp [hx])) (fun x hx => hown x (by simp [hx])) (fun x hx => hoff x (by simp [hx]))
                  obtain ⟨L', q1, q2⟩ := unlendL_ok cs hrel h3 hl2 hs2 hc2 hnd2 (fun x hx => hN x (by simp [hx])) (fun x hx => hown x (by simp [hx])) (fun x hx j hj => by
                    split at hj
                    · exact hnd1.2.2 x hj x hx rfl
                    · exact hoff x (by simp [hx]) j hj) hwk'.2 (fun j hj => by
                    show (σ.ob.put k _).get j = _
                    have hjk : j ≠ k := fun e => hwk'.1 (by rw [← e]; exact hj)
                    rw [Obs.get_put, if_neg hjk]
                    exact hno j (by simp [hj])) hu
                  refine ⟨L', q1, fun j x hx => ?_⟩
                  rcases q2 j x hx with h5 | h5
                  · split at h5
                    · exact .inr (by simp [h5])
                    · exact .inl h5
                  · exact .inr (by simp [h5])
                | _ => exact hl.elim
              | _ => exact hl.elim
          · cases eu
        | _ => simp [unlend1] at eu

/-- Behind a call that was lent. -/
theorem lend_back (h : Rel B0 w0 σ a w C L) {o : Oper} {ld : Nat → Bool} {cs : List V} {vs : List Value} (hv : VsR C w cs vs) {ds : List V} {ob' : Obs} {O : List Nat} {L1 : Nat → List Nat} (hh : Handed B0 w0 σ a w C L ob' (touched ld o σ) O [] O C L1) (hl : LentR C cs ds) (hwk : (wks cs).Nodup) (hno : ∀ k ∈ wks cs, St.obj { σ with ob := ob' } k = .no)
    {ps : List Value} {fresh : Bool} {q : Ret} {z c : Value} {w' : World} (hB : Back B0 w0 w C.N O ps fresh q c w') (hq : q.1 = .s z) {es : List V} (hes : ∀ O2 M2 H2, ArgsR w' q.2 ps O2 M2 H2 → ∃ M3 H3, CellsR w' es vs O2 M3 H3) (hs : sameR ds es = true) {ob1 : Obs} (hu : unlendL cs es ob' = some ob1)
    {b : Nat} {K : St → Option Ret} {r : Ret} (hK : K (St.put { σ with ob := ob1 } o.dst (.s z)) = some r) : Nxt ld B0 w0 o σ w C L b K r (a.put o.dst c) w' := by
  obtain ⟨O1, M1, H1, O2, M2, H2, b1, b2, b3, b4, b5, b6⟩ := hB.ex
  rw [hq] at b1
  obtain ⟨bz, rfl, rfl⟩ : VR (Cx.ext (· ∈ M1)) w' (.s z) c ∧ O1 = [] ∧ H1 = [] := b1
  obtain ⟨M3, H3, c1⟩ := hes _ _ _ b2
  have c2 := (List.nodup_append.1 b3).2.1
  have hOun : ∀ k, ∀ x ∈ L1 k, x ∉ O := fun k x hx hO => hh.off x hO k hx
  obtain ⟨g1, g2⟩ := hh.rel.world (w' := w') hB.below hB.sz (fun x hx => hB.fr x (hh.rel.nsz x hx) (.inr hx)) (fun k x hx => hB.fr x (hh.rel.own k x hx).2 (.inl (hOun k x hx))) (M := []) (fun _ h => (nomatch h)) (fun _ _ _ h => (nomatch h))
  have hin : ∀ x ∈ O2, (x ∈ O ∨ w.heap.size ≤ x) ∧ x < w'.heap.size := fun x hx => b4 x (by simp [hx])
  have hNN : ∀ x, (C.N x ∨ x ∈ ([] : List Nat)) ↔ C.N x := fun x => by simp
  have hl' : LentR { C with N := fun x => C.N x ∨ x ∈ ([] : List Nat) } cs ds := by
    clear hv hwk hno hu hs
    induction cs generalizing ds with
    | nil => cases ds <;> exact hl
    | cons c cs ih =>
      cases c with
      | w k =>
        cases ds with
        | nil => exact hl.elim
        | cons d ds =>
          cases d with
          | l o r xs =>
            cases o with
            | own => exact ⟨hl.1, ih hl.2⟩
            | _ => exact hl.elim
          | _ => exact hl.elim
      | _ =>
        cases ds with
        | nil => exact hl.elim
        | cons d ds => exact ih hl
  obtain ⟨L', q1, q2⟩ := unlendL_ok cs g1 (VsR.le (hh.le.trans g2) cs hv) hl' hs c1 c2 (fun x hx hn => by
      rcases (hNN x).1 hn with hn
      rcases (hin x hx).1 with h1 | h1
      · exact (hh.hH x h1).2.2 hn
      · exact absurd (h.nsz x hn) (by omega)) (fun x hx => by
      refine ⟨?_, (hin x hx).2⟩
      rcases (hin x hx).1 with h1 | h1
      · obtain ⟨k, hk⟩ := hh.from_ x h1
        exact (h.own k x hk).1
      · exact Nat.le_trans h.hB0 h1) (fun x hx j hj => by
      have hlt := (hh.rel.own j x hj).2
      rcases (hin x hx).1 with h1 | h1
      · exact hOun j x hj h1
      · omega) hwk hno hu
  have hfrom : ∀ j x, x ∈ L' j → (∃ k, x ∈ L k) ∨ w.heap.size ≤ x := fun j x hx => by
    rcases q2 j x hx with h1 | h1
    · exact .inl ⟨j, hh.sub j x h1⟩
    · rcases (hin x h1).1 with h2 | h2
      · exact .inl (hh.from_ x h2)
      · exact .inr h2
  refine ⟨⟨_, _, L', hK, q1.put o.dst (v := .s z) (c := c) ⟨bz.1, bz.2⟩, hh.le.trans g2, fun k hk => .inl hk, put_nx .., put_len .., put_io .., ⟨fun k x hx hn => ?_, hfrom, fun x hx => .inl ((hNN x).1 hx)⟩⟩, fun x hx ht => ?_, hB.sz⟩
  · rcases q2 k x hx with h1 | h1
    · exact .inl (hh.sub k x h1)
    · rcases (hin x h1).1 with h2 | h2
      · exact .inr (.inr (hh.hH x h2).1)
      · exact .inr (.inl h2)
  · refine hB.fr x hx ?_
    by_cases hxO : x ∈ O
    · rcases ht with ht | ht
      · exact .inr ht
      · obtain ⟨⟨k, hk, hk'⟩, _⟩ := hh.hH x hxO
        exact absurd hk' (ht k hk)
    · exact .inl hxO

/-- A slice cell of a row, taken out and put back. -/
theorem RwR.splitc {w : World} {e : Bool} : (r : Rw) → {d : r.T} → {vs : List Value} → {F : List Nat} → RwR w e r d vs F → ∀ {c : Nat} {r' : Rw} {ys : List r'.T}, (r.cells .no d)[c]? = some (.l .no r' ys) →
    ∃ F1 Fc F2 v, vs[c]? = some v ∧ F = F1 ++ Fc ++ F2 ∧ SlT (RwR w e r') w e r'.n ys v Fc ∧ ∀ (w' : World) (zs : List r'.T) (Fc' : List Nat) (d' : r.T) (p : Bool) (ob ob' : Obs), (∀ b ∈ F1 ++ F2, w'.heap[b]? = w.heap[b]?) → SlT (RwR w' e r') w' e r'.n zs v Fc' → r.upd d c [.l .own r' zs] ob = some (d', p, ob') → RwR w' e r d' vs (F1 ++ Fc' ++ F2)
  | .one cc, d, vs, F, ⟨u, h1, h2⟩, c, r', ys, hc => by
    cases c with
    | zero =>
      simp only [Rw.cells, List.getElem?_cons_zero, Option.some.injEq] at hc
      cases cc with
      | sl r0 =>
        simp only [Cc.cell] at hc
        injection hc with _ hr hx
        subst hr
        have hx := eq_of_heq hx
        subst hx
        subst h1
        refine ⟨[], F, [], u, rfl, by simp, h2, fun w' zs Fc' d' p ob ob' hw hs hu => ?_⟩
        simp only [Rw.upd, Cc.give, dite_true, Option.some.injEq, Prod.mk.injEq] at hu
        obtain ⟨rfl, _, _⟩ := hu
        refine ⟨u, rfl, ?_⟩
        rw [List.nil_append, List.append_nil]
        exact hs
      | _ => simp [Cc.cell] at hc
    | succ c => simp [Rw.cells] at hc
  | .cons cc r, d, vs, F, ⟨u, vs', F1, F2, h1, h2, h3, h4⟩, c, r', ys, hc => by
    subst h1; subst h2
    cases c with
    | zero =>
      simp only [Rw.cells, List.getElem?_cons_zero, Option.some.injEq] at hc
      cases cc with
      | sl r0 =>
        simp only [Cc.cell] at hc
        injection hc with _ hr hx
        subst hr
        have hx := eq_of_heq hx
        subst hx
        refine ⟨[], F1, F2, u, rfl, by simp, h3, fun w' zs Fc' d' p ob ob' hw hs hu => ?_⟩
        simp only [Rw.upd, Cc.give, dite_true, Option.some.injEq, Prod.mk.injEq] at hu
        obtain ⟨rfl, _, _⟩ := hu
        exact ⟨u, vs', Fc', F2, rfl, by simp, hs, RwR.imp (fun h => h) r h4 (fun b hb => hw b (by simp [hb]))⟩
      | _ => simp [Cc.cell] at hc
    | succ c =>
      simp only [Rw.cells, List.getElem?_cons_succ] at hc
      obtain ⟨A, Fc, B, v, g1, rfl, g3, g4⟩ := RwR.splitc r h4 hc
      refine ⟨F1 ++ A, Fc, B, v, by simpa using g1, by simp, g3, fun w' zs Fc' d' p ob ob' hw hs hu => ?_⟩
      simp only [Rw.upd] at hu
      split at hu
      · rename_i es p1 ob1 e1
        cases hu
        exact ⟨u, vs', F1, A ++ Fc' ++ B, rfl, by simp, CcR.imp (fun h => h) cc h3 (fun b hb => hw b (by simp [hb])), g4 w' zs Fc' es _ ob _ (fun b hb => hw b (by
          rcases List.mem_append.1 hb with hb | hb <;> simp [hb])) hs e1⟩
      · cases hu
/-- The same, of an array that is owned. -/
theorem own_split {r : Rw} {xs : List r.T} {cv : Value} {F : List Nat} (h : SlT (RwR w false r) w false r.n xs cv F) {i c : Nat} (hi : i < xs.length) {r' : Rw} {ys : List r'.T} (hc : (r.cells .no xs[i])[c]? = some (.l .no r' ys)) (hnd : F.Nodup) :
    ∃ g A Fc B v L cap o, cv = .slice (some ⟨g, o, none⟩) L cap ∧ F = g :: (A ++ Fc ++ B) ∧ w.cell? ⟨g, o + i * r.n + c, none⟩ = some v ∧ SlT (RwR w false r') w false r'.n ys v Fc ∧
      ∀ (w' : World) (zs : List r'.T) (Fc' : List Nat) (d' : r.T) (p : Bool) (ob ob' : Obs), w.heap.size ≤ w'.heap.size → (∀ b ∈ g :: (A ++ B), w'.heap[b]? = w.heap[b]?) → SlT (RwR w' false r') w' false r'.n zs v Fc' → r.upd xs[i] c [.l .own r' zs] ob = some (d', p, ob') → SlT (RwR w' false r) w' false r.n (xs.set i d') cv (g :: (A ++ Fc' ++ B)) := by
  rcases h with ⟨h5, _⟩ | ⟨g, o, cap, F', h5, h6, rfl, h7, h8, h9⟩
  · subst h5; exact absurd hi (Nat.not_lt_zero _)
  · obtain ⟨A, Fi, B, vs, s1, s2, s3, s4, s5⟩ := h9.set (List.getElem?_eq_getElem hi)
    obtain ⟨F1, Fc, F2, v, q1, q2, q3, q4⟩ := RwR.splitc r s4 hc
    subst q2; subst s1
    refine ⟨g, A ++ F1, Fc, F2 ++ B, v, xs.length, cap, o, h5, by simp, s3 c v q1, q3, fun w' zs Fc' d' p ob ob' hsz hw hs hu => ?_⟩
    have hg := hw g (by simp)
    refine .inr ⟨g, o, cap, A ++ (F1 ++ Fc' ++ F2) ++ B, by simpa using h5, by simpa using h6, by simp, Nat.lt_of_lt_of_le h7 hsz, fun _ => ?_, ?_⟩
    · obtain ⟨cc, ty, e1, e2⟩ := h8 rfl
      exact ⟨cc, ty, by rw [hg]; exact e1, e2⟩
    · exact s5 w' (RwR w' false r) d' vs (F1 ++ Fc' ++ F2) (fun x us F'' hk hR => RwR.imp (fun h => h) r hR (fun b hb => hw b (by rcases hk b hb with h | h <;> simp [h]))) s2
        (q4 w' zs Fc' d' p ob ob' (fun b hb => hw b (by rcases List.mem_append.1 hb with h | h <;> simp [h])) hs hu)
        (fun j u hj => (World.cell?_of_block (w := w) (a := ⟨g, o + i * r.n + j, none⟩) hg).trans (s3 j u hj)) (fun q _ => World.cell?_of_block (w := w) (a := ⟨g, q, none⟩) hg)

/-- The call of a function that is lent something: the machine's side. -/
theorem lend_wp {I : Nat → World → Prop} (hI : I B0 w0) {g : FuncId} {fresh : Bool} {G : Sm} (hok : OkFn P I g fresh G) (h : Rel B0 w0 σ a w C L) {o : Oper} {vs : List Value} (hexec : (execOp a.eval o).run P w = .ok (.enter g ⟨vs⟩) w) {ws : List V} {K' : Ret → Option Ret} {r : Ret} (hp : G ws K' = some r) {O : List Nat} (hA : ArgsR w ws vs O [] O) (hnd : O.Nodup) (hO : ∀ x ∈ O, B0 ≤ x ∧ x < w.heap.size) (hN : ∀ x ∈ O, ¬ C.N x) {next : Act → World → Prop} {Q : Exit → Act → World → Prop}
    (hn : ∀ q c w', K' q = some r → Back B0 w0 w C.N O (ptrs ws vs) fresh q c w' → next (a.put o.dst c) w') : o.wp P a w next Q := by
  have hcall := hok.2 _ _ r hp B0 w0 w C.N vs O [] O hI h.below h.hB0 hA hnd hO (fun _ hx => (nomatch hx)) hN h.nsz
  unfold Oper.wp
  rw [hexec]
  simp only [Oper.upon]
  refine Calls.mono hcall (fun e w' he => ?_)
  cases e with
  | panicked _ => exact he.elim
  | outgrown => exact he.elim
  | returned cv =>
    obtain ⟨q, hK, hB⟩ := he
    exact hn q cv w' hK hB

theorem calls_lend {I : Nat → World → Prop} (hI : I B0 w0) {g : FuncId} {fresh : Bool} {G : Sm} (hok : OkFn P I g fresh G) (h : Rel B0 w0 σ a w C L) {o : Oper} {c : Call} (ho : o.op = .call c) {gx : Operand} (hc : c.callee = .value gx) {caps : List V} {cvs : List Value} (eg : σ.ev gx = .f g caps) (e1 : a.eval gx = .func (.func g) #[] ⟨cvs⟩) (e2 : VsR C w caps cvs) (hld : Γ.lend g = true) {b : Nat} {K : St → Option Ret} {r : Ret}
    (hp : callLend G o.dst (c.args.toList.map σ.ev ++ caps) σ K = some r) {Q : Exit → Act → World → Prop} :
    o.wp P a w (Nxt Γ.lend B0 w0 o σ w C L b K r) Q := by
  obtain ⟨us, hus⟩ : ∃ us, us = c.args.toList.map σ.ev ++ caps := ⟨_, rfl⟩
  obtain ⟨vs, hvs⟩ : ∃ vs, vs = c.args.toList.map a.eval ++ cvs := ⟨_, rfl⟩
  have hv : VsR C w us vs := by rw [hus, hvs]; exact (evs_ok h _).append e2
  rw [← hus] at hp
  have hexec : (execOp a.eval o).run P w = .ok (.enter g ⟨vs⟩) w := by
    have ha : c.args.map a.eval ++ (⟨cvs⟩ : Array Value) = ⟨vs⟩ := by
      apply Array.toList_inj.1
      simp [hvs]
    have := hok.1 (⟨vs⟩ : Array Value) w
    simp only [execOp, ho, resolve, hc, Deferred.ofValue, e1]
    simp only [Sem.run_bind, Sem.run_pure, Result.andThen_ok, invoke]
    rw [show (#[] ++ c.args.map a.eval ++ (⟨cvs⟩ : Array Value)) = ⟨vs⟩ by rw [Array.empty_append]; exact ha]
    exact this
  have ht : touched Γ.lend o σ = us.flatMap touchL := by
    simp only [touched, ho, hc, eg, hus, hld, cond_true]
  clear hus hvs
  unfold callLend at hp
  split at hp
  · -- one array
    rename_i k u
    obtain ⟨v, vs1, rfl, hv1, hv2⟩ := hv
    obtain ⟨v2, vs2, rfl, hv3, hv4⟩ := hv2
    simp only [VsR] at hv4
    subst hv4
    split at hp
    · cases hp
    · rename_i ds ob' el
      obtain ⟨O, L1, g1, g2, g3, g4, g5⟩ := lendL_ok [.w k] h (vs := [v]) ⟨v, [], rfl, hv1, rfl⟩ el (Ks := touched Γ.lend o σ) (fun j hj => by rw [ht]; simpa [wks, touchL] using hj)
      obtain ⟨r1, xs1, rfl⟩ : ∃ r1 xs1, ds = [.l .own r1 xs1] := by
        simp only [lendL, lend1] at el
        split at el
        · cases el
        · rename_i d' ob1 ed
          split at ed <;> cases ed
          cases el
          exact ⟨_, _, rfl⟩
      have hO : CellR w (.l .own r1 xs1) v O [] O := by
        obtain ⟨_, _, O1, O2, M1, M2, H1, H2, q1, q2, q3, q4, q5, q6⟩ := g1
        obtain ⟨q7, q8, q9, q10⟩ := q6
        subst q8; subst q10
        simp only [List.append_nil] at q2 q4
        injection q1 with q1 _
        subst q1; subst q2
        have : M1 = [] := q5.2.1
        subst this
        exact ⟨q5.1, rfl, rfl⟩
      have hA : ArgsR w [.l .own r1 xs1, .s u] [v, v2] O [] O :=
        ⟨v, [v2], O, [], [], [], O, [], rfl, by simp, rfl, by simp, hO, v2, [], [], [], [], [], [], [], rfl, rfl, rfl, rfl, ⟨hv3, rfl, rfl⟩, rfl, rfl, rfl, rfl⟩
      refine lend_wp hI hok h hexec hp hA g2.nd (fun x hx => by
        obtain ⟨k', hk'⟩ := g2.from_ x hx
        exact h.own k' x hk') (fun x hx => (g2.hH x hx).2.2) (fun q cv w' hK hB => ?_)
      split at hK
      · rename_i z _ hz
        cases hsr : sameR [.l .own r1 xs1] q.2 with
        | false => rw [hsr] at hK; cases hK
        | true =>
          rw [hsr] at hK
          simp only [cond_true] at hK
          split at hK
          · cases hK
          · rename_i ob1 eu
            have hB : Back B0 w0 w C.N O [v] fresh q cv w' := hB
            refine lend_back h (cs := [.w k]) (vs := [v]) ⟨v, [], rfl, hv1, rfl⟩ g2 g3 g4 (fun j hj => (g5 j hj).1) hB hz (es := q.2) (fun O2 M2 H2 hA2 => ?_) hsr eu hK
            obtain ⟨qv, es⟩ := q
            simp only at hsr hA2 ⊢
            cases es with
            | nil => simp [sameR] at hsr
            | cons e es =>
              cases e with
              | l o2 r2 xs2 =>
                cases o2 with
                | own => 
                  have hes := sameR_tail hsr
                  cases es with
                  | nil => exact ⟨M2, H2, hA2⟩
                  | cons e2 es2 => simp [sameR] at hes
                | _ => simp [sameR] at hsr
              | _ => simp [sameR] at hsr
      · cases hK
  · -- a struct
    rename_i cs u
    obtain ⟨v, vs1, rfl, hv1, hv2⟩ := hv
    obtain ⟨v2, vs2, rfl, hv3, hv4⟩ := hv2
    simp only [VsR] at hv4
    subst hv4
    obtain ⟨cvs', rfl, hv1⟩ := hv1
    split at hp
    · cases hp
    · rename_i ds ob' el
      have hsub : ∀ cs : List V, ∀ j ∈ wks cs, j ∈ cs.flatMap touchC := by
        intro cs
        induction cs with
        | nil => intro j hj; cases hj
        | cons c cs ih =>
          intro j hj
          cases c with
          | w k =>
            simp only [wks] at hj
            rcases List.mem_cons.1 hj with rfl | hj
            · simp [touchC]
            · simp [ih j hj]
          | _ => simp only [wks] at hj; rw [List.flatMap_cons]; exact List.mem_append.2 (.inr (ih j hj))
      obtain ⟨O, L1, g1, g2, g3, g4, g5⟩ := lendL_ok cs h hv1 el (Ks := touched Γ.lend o σ) (fun j hj => by rw [ht]; simpa [touchL] using hsub cs j hj)
      have hA : ArgsR w [.a ds, .s u] [.agg ⟨cvs'⟩, v2] O [] O :=
        ⟨.agg ⟨cvs'⟩, [v2], O, [], [], [], O, [], rfl, by simp, rfl, by simp, ⟨cvs', rfl, g1⟩, v2, [], [], [], [], [], [], [], rfl, rfl, rfl, rfl, ⟨hv3, rfl, rfl⟩, rfl, rfl, rfl, rfl⟩
      refine lend_wp hI hok h hexec hp hA g2.nd (fun x hx => by
        obtain ⟨k', hk'⟩ := g2.from_ x hx
        exact h.own k' x hk') (fun x hx => (g2.hH x hx).2.2) (fun q cv w' hK hB => ?_)
      split at hK
      · rename_i z es hz hes
        cases hsr : sameR ds es with
        | false => rw [hsr] at hK; cases hK
        | true =>
          rw [hsr] at hK
          simp only [cond_true] at hK
          split at hK
          · cases hK
          · rename_i ob1 eu
            refine lend_back h (cs := cs) hv1 g2 g3 g4 (fun j hj => (g5 j hj).1) hB hz (es := es) (fun O2 M2 H2 hA2 => ?_) hsr eu hK
            rw [hes] at hA2
            cases hb : (V.a ds).back with
            | false =>
              have hps : ptrs [V.a ds, .s u] [Value.agg ⟨cvs'⟩, v2] = [] := by simp only [ptrs, hb, cond_false]; rfl
              rw [hps] at hA2
              obtain ⟨_, _, _, _, _, _, _, _, q1, _⟩ := hA2
              cases q1
            | true =>
              have hps : ptrs [V.a ds, .s u] [Value.agg ⟨cvs'⟩, v2] = [Value.agg ⟨cvs'⟩] := by simp only [ptrs, hb, cond_true]; rfl
              rw [hps] at hA2
              obtain ⟨_, _, O3, O4, M3, M4, H3, H4, q1, q2, q3, q4, q5, q6⟩ := hA2
              obtain ⟨q7, q8, q9, q10⟩ := q6
              injection q1 with q1 _
              subst q1
              obtain ⟨vs3, q11, q12⟩ := q5
              injection q11 with q11
              injection q11 with q11
              subst q11
              subst q8
              rw [List.append_nil] at q2
              subst q2
              exact ⟨M3, H3, q12⟩
      · cases hK
  · -- a slice in a row
    rename_i k i j u
    obtain ⟨v, vs1, rfl, hv1, hv2⟩ := hv
    obtain ⟨v2, vs2, rfl, hv3, hv4⟩ := hv2
    simp only [VsR] at hv4
    subst hv4
    split at hp
    · rename_i r0 xs eo
      split at hp
      · rename_i r' ys hcell
        cases hlt : decide (i < xs.length) with
        | false => rw [hlt] at hp; cases hp
        | true =>
          rw [hlt] at hp
          simp only [cond_true] at hp
          have hlt' := of_decide_eq_true hlt
          have hd : xs.getD i r0.dflt = xs[i] := by rw [List.getD_eq_getElem?_getD, List.getElem?_eq_getElem hlt']; rfl
          rw [hd] at hcell
          obtain ⟨cv0, hφ, hF, hHs⟩ := h.ownd eo
          obtain ⟨f, hf1, hf2⟩ := hHs rfl
          obtain ⟨gb, A, Fc, B, hv0, L0, cap0, o0, s1, s2, s3, s4, s5⟩ := own_split hF hlt' hcell (h.nd k)
          have hhd := hf2 gb o0 L0 cap0 s1 i j hlt' ((Rw.cell_at r0 hcell).1 _ _ _ rfl)
          rw [s3] at hhd
          injection hhd with hhd
          have hvv : v = hv0 := by rw [hv1.2.2 f hf1, hhd]
          subst hvv
          have hsubF : ∀ x ∈ Fc, x ∈ L k := fun x hx => by rw [s2]; simp [hx]
          have hA : ArgsR w [.l .own r' ys, .s u] [v, v2] Fc [] Fc :=
            ⟨v, [v2], Fc, [], [], [], Fc, [], rfl, by simp, rfl, by simp, ⟨s4, rfl, rfl⟩, v2, [], [], [], [], [], [], [], rfl, rfl, rfl, rfl, ⟨hv3, rfl, rfl⟩, rfl, rfl, rfl, rfl⟩
          have hndk := h.nd k
          rw [s2] at hndk
          have hndk1 := List.nodup_cons.1 hndk
          have hnd3 : (A ++ Fc ++ B).Nodup := hndk1.2
          rw [List.append_assoc] at hnd3
          have hndA := List.nodup_append.1 hnd3
          have hndB := List.nodup_append.1 hndA.2.1
          refine lend_wp hI hok h hexec hp hA hndB.1 (fun x hx => h.own k x (hsubF x hx)) (fun x hx => h.nw k x (by rw [eo]; exact hsubF x hx)) (fun q cv w' hK hB => ?_)
          split at hK
          · rename_i z r2 zs hz hes
            cases hr2 : decide (r2 = r') with
            | false => rw [hr2] at hK; cases hK
            | true =>
              rw [hr2] at hK
              simp only [cond_true] at hK
              have hr2' := of_decide_eq_true hr2
              subst hr2'
              split at hK
              · rename_i e pp ob2 hu
                rw [hd] at hu
                obtain ⟨O1, M1, H1, O2, M2, H2, b1, b2, b3, b4, b5, b6⟩ := hB.ex
                rw [hz] at b1
                obtain ⟨bz, hO1, hH1⟩ : VR (Cx.ext (· ∈ M1)) w' (.s z) cv ∧ O1 = [] ∧ H1 = [] := b1
                subst hO1
                have hps : ptrs [.l .own r2 ys, .s u] [v, v2] = [v] := rfl
                rw [hps, hes] at b2
                obtain ⟨_, _, O3, O4, M3, M4, H3, H4, q1, q2, q3, q4, q5, q6⟩ := b2
                obtain ⟨q7, q8, q9, q10⟩ := q6
                injection q1 with q1 _
                subst q1
                subst q8
                rw [List.append_nil] at q2
                subst q2
                have q5' : SlT (RwR w' false r2) w' false r2.n zs v O2 := q5.1
                simp only [List.nil_append] at b3 b4
                have hfr : ∀ x, x < w.heap.size → x ∉ Fc → w'.heap[x]? = w.heap[x]? := fun x hx hn => hB.fr x hx (.inl hn)
                have hAB : ∀ x ∈ gb :: (A ++ B), x ∈ L k ∧ x ∉ Fc := by
                  intro x hx
                  rw [s2]
                  rcases List.mem_cons.1 hx with rfl | hx
                  · exact ⟨by simp, fun h => hndk1.1 (by simp [h])⟩
                  · rcases List.mem_append.1 hx with hx | hx
                    · exact ⟨by simp [hx], fun h => hndA.2.2 x hx x (by simp [h]) rfl⟩
                    · exact ⟨by simp [hx], fun h => hndB.2.2 x h x hx rfl⟩
                have hnew := s5 w' zs O2 e pp [] ob2 hB.sz (fun x hx => hfr x (h.own k x (hAB x hx).1).2 (hAB x hx).2) q5' hu
                have hdel := h.del k
                have hL0 : ∀ j x, x ∈ (if j = k then [] else L j) → x ∈ L j ∧ j ≠ k := fun j x hx => by
                  split at hx
                  · cases hx
                  · exact ⟨hx, ‹_›⟩
                obtain ⟨g1, g2⟩ := hdel.world (w' := w') hB.below hB.sz (fun x hx => hfr x (h.nsz x hx) (fun hc => h.nw k x (by rw [eo]; exact hsubF x hc) hx)) (fun j x hx => by
                  obtain ⟨h1, h2⟩ := hL0 j x hx
                  exact hfr x (h.own j x h1).2 (fun hc => h.dj j k h2 x h1 (hsubF x hc))) (M := []) (fun _ h => (nomatch h)) (fun _ _ _ h => (nomatch h))
                have hO2 : ∀ x ∈ O2, (x ∈ Fc ∨ w.heap.size ≤ x) ∧ x < w'.heap.size := fun x hx => b4 x hx
                have hmem : ∀ x ∈ gb :: (A ++ O2 ++ B), x ∈ L k ∨ w.heap.size ≤ x := by
                  intro x hx
                  rcases List.mem_cons.1 hx with rfl | hx
                  · exact .inl (hAB x (by simp)).1
                  · simp only [List.mem_append] at hx
                    rcases hx with (hx | hx) | hx
                    · exact .inl (hAB x (by simp [hx])).1
                    · exact (hO2 x hx).1.imp (hsubF x) id
                    · exact .inl (hAB x (by simp [hx])).1
                have hndN : (gb :: (A ++ O2 ++ B)).Nodup := by
                  have hno : ∀ x ∈ gb :: (A ++ B), x ∉ O2 := fun x hx h2 => by
                    rcases (hO2 x h2).1 with h3 | h3
                    · exact (hAB x hx).2 h3
                    · have := (h.own k x (hAB x hx).1).2; omega
                  refine List.nodup_cons.2 ⟨fun hx => ?_, ?_⟩
                  · simp only [List.mem_append] at hx
                    rcases hx with (hx | hx) | hx
                    · exact hndk1.1 (by simp [hx])
                    · exact hno gb (by simp) hx
                    · exact hndk1.1 (by simp [hx])
                  · rw [List.append_assoc, List.nodup_append]
                    refine ⟨hndA.1, ?_, fun x hx y hy e => ?_⟩
                    · rw [List.nodup_append]
                      refine ⟨b3, hndB.2.1, fun x hx y hy e => ?_⟩
                      subst e
                      exact hno x (by simp [hy]) hx
                    · subst e
                      rcases List.mem_append.1 hy with hy | hy
                      · exact hno x (by simp [hx]) hy
                      · exact hndA.2.2 x hx x (by simp [hy]) rfl
                have hrel := g1.readdO (k := k) (by
                  show (σ.ob.del k).get k = _
                  rw [Obs.get_del, if_pos rfl]) (st := true) (r := r0) (xs := xs.set i e) (O := gb :: (A ++ O2 ++ B)) ⟨cv0, hφ, hnew, fun _ => ⟨f, hf1, fun b' o' L' cap' e' i' j' hi' hj' => by
                    have e0 := e'
                    rw [s1] at e0
                    injection e0 with e0
                    injection e0 with e0
                    injection e0 with e0 e01
                    have hx := hf2 b' o' L' cap' e' i' j' (by simpa using hi') hj'
                    rw [← hx]
                    refine World.cell?_of_block (w := w) (a := ⟨b', o' + i' * r0.n + j', none⟩) ?_
                    rw [← e0]
                    exact hfr gb (h.own k gb (hAB gb (by simp)).1).2 (hAB gb (by simp)).2⟩⟩ hndN (fun x hx hn => by
                    have hn' : C.N x := by rcases hn with hn | hn; exact hn; cases hn
                    rcases hmem x hx with h1 | h1
                    · exact h.nw k x (by rw [eo]; exact h1) hn'
                    · exact absurd (h.nsz x hn') (by omega)) (fun x hx => by
                    rcases List.mem_cons.1 hx with rfl | hx'
                    · have := h.own k x (hAB x (by simp)).1
                      exact ⟨this.1, Nat.lt_of_lt_of_le this.2 hB.sz⟩
                    · simp only [List.mem_append] at hx'
                      rcases hx' with (hx' | hx') | hx'
                      · have := h.own k x (hAB x (by simp [hx'])).1
                        exact ⟨this.1, Nat.lt_of_lt_of_le this.2 hB.sz⟩
                      · refine ⟨?_, (hO2 x hx').2⟩
                        rcases (hO2 x hx').1 with h1 | h1
                        · exact (h.own k x (hsubF x h1)).1
                        · exact Nat.le_trans h.hB0 h1
                      · have := h.own k x (hAB x (by simp [hx'])).1
                        exact ⟨this.1, Nat.lt_of_lt_of_le this.2 hB.sz⟩) (fun x hx j' hj' => by
                    obtain ⟨h1, h2⟩ := hL0 j' x hj'
                    rcases hmem x hx with h3 | h3
                    · exact h.dj j' k h2 x h1 h3
                    · have := (h.own j' x h1).2; omega)
                have hput : (σ.ob.del k).put k (.own true r0 (xs.set i e)) = (σ.ob.del k).put k (.own true r0 (xs.set i e)) := rfl
                have htk : k ∈ touched Γ.lend o σ := by rw [ht]; simp [touchL]
                refine ⟨⟨_, _, _, hK, (Rel.obs hrel (ob' := σ.ob.put k (.own true r0 (xs.set i e))) (fun j' => by
                    rw [Obs.get_put, Obs.get_put, Obs.get_del]
                    split <;> rfl)).put o.dst (v := .s z) (c := cv) ⟨bz.1, bz.2⟩, g2, fun k hk => .inl hk, put_nx .., put_len .., put_io .., ⟨fun k' x hx hn => ?_, fun k' x hx => ?_, fun x hx => ?_⟩⟩, fun x hx htd => ?_, hB.sz⟩
                · split at hx
                  · rename_i e5
                    rcases hmem x hx with h1 | h1
                    · exact .inl (by rw [e5]; exact h1)
                    · exact .inr (.inl h1)
                  · first | exact .inl hx | exact .inl (hL0 k' x hx).1
                · split at hx
                  · rcases hmem x hx with h1 | h1
                    · exact .inl ⟨k, h1⟩
                    · exact .inr h1
                  · first | exact .inl ⟨k', hx⟩ | exact .inl ⟨k', (hL0 k' x hx).1⟩
                · rcases hx with hx | hx
                  · exact .inl hx
                  · cases hx
                · refine hfr x hx (fun hc => ?_)
                  rcases htd with h1 | h1
                  · exact h.nw k x (by rw [eo]; exact hsubF x hc) h1
                  · exact h1 k htk (hsubF x hc)
              · cases hK
          · cases hK
      · cases hp
    · cases hp
  · cases hp

theorem eff_call {I : Nat → World → Prop} (hI : I B0 w0) (hΓ : ∀ g fresh G, Γ.fn g = some (fresh, G) → OkFn P I g fresh G) (h : Rel B0 w0 σ a w C L) {o : Oper} {c : Call} (ho : o.op = .call c) {gx : Operand} (hc : c.callee = .value gx) {b : Nat} (hb : ∀ k, b ≤ k → k < b + 256 → ¬ C.U k) {K : St → Option Ret} {r : Ret} (hp : effect Γ b o σ K = some r) {Q : Exit → Act → World → Prop} :
    o.wp P a w (Nxt Γ.lend B0 w0 o σ w C L b K r) Q := by
  simp only [effect, ho, hc] at hp
  split at hp
  · rename_i g caps eg
    have hg := h.ev gx
    rw [eg] at hg
    obtain ⟨cvs, e1, e2⟩ := hg
    unfold callFn at hp
    split at hp
    · cases hp
    · rename_i fresh G hG
      obtain ⟨hent, hok⟩ := hΓ g fresh G hG
      cases hld : Γ.lend g with
      | true =>
        rw [hld] at hp
        exact calls_lend hI ⟨hent, hok⟩ h ho hc eg e1 e2 hld hp
      | false =>
      rw [hld] at hp
      simp only [cond_false] at hp
      -- the arguments
      obtain ⟨us, hus⟩ : ∃ us, us = c.args.toList.map σ.ev ++ caps := ⟨_, rfl⟩
      obtain ⟨vs, hvs⟩ : ∃ vs, vs = c.args.toList.map a.eval ++ cvs := ⟨_, rfl⟩
      have hv : VsR C w us vs := by rw [hus, hvs]; exact (evs_ok h _).append e2
      rw [← hus] at hp
      have hexec : (execOp a.eval o).run P w = .ok (.enter g ⟨vs⟩) w := by
        have ha : c.args.map a.eval ++ (⟨cvs⟩ : Array Value) = ⟨vs⟩ := by
          apply Array.toList_inj.1
          simp [hvs]
        have := hent (⟨vs⟩ : Array Value) w
        simp only [execOp, ho, resolve, hc, Deferred.ofValue, e1]
        simp only [Sem.run_bind, Sem.run_pure, Result.andThen_ok, invoke]
        rw [show (#[] ++ c.args.map a.eval ++ (⟨cvs⟩ : Array Value)) = ⟨vs⟩ by rw [Array.empty_append]; exact ha]
        exact this
      have htouch : ∀ k cs, V.pb k 0 ∈ us → σ.obj k = .box cs → k ∈ touched Γ.lend o σ ∧ ∀ d ∈ cs, ∀ j, (d = .w j ∨ ∃ off len, d = .r j off len) → j ∈ touched Γ.lend o σ := by
        intro k cs hk hb
        have ht : touched Γ.lend o σ = us.flatMap (touch1 σ) := by
          simp only [touched, ho, hc, eg, hus, hld, cond_false]
        have h1 : touch1 σ (.pb k 0) = k :: cs.flatMap touchC := by simp only [touch1, hb]
        rw [ht]
        refine ⟨List.mem_flatMap.2 ⟨_, hk, by rw [h1]; simp⟩, fun d hd j hj => List.mem_flatMap.2 ⟨_, hk, ?_⟩⟩
        rw [h1]
        refine List.mem_cons_of_mem _ (List.mem_flatMap.2 ⟨d, hd, ?_⟩)
        rcases hj with rfl | ⟨_, _, rfl⟩ <;> simp [touchC]
      -- freezing
      obtain ⟨ob0, hob0⟩ : ∃ ob0, ob0 = bif fresh then σ.ob else freezeAll us σ.ob := ⟨_, rfl⟩
      rw [← hob0] at hp
      cases hnc : (fresh || us.all V.noCap) with
      | false => rw [hnc] at hp; simp only [cond_false] at hp; cases hp
      | true =>
      rw [hnc] at hp
      simp only [cond_true] at hp
      obtain ⟨C0, L0, f1, f2⟩ : ∃ C0 L0, Handed B0 w0 σ a w C L ob0 [] [] [] [] C0 L0 ∧ (fresh = false → ∀ u ∈ us, ∀ c ∈ u.cells, ∀ k, (c = .w k ∨ (∃ off len, c = .r k off len) ∨ ∃ i j, c = .pa k i j) → St.lent { σ with ob := ob0 } k) := by
        cases fresh with
        | true => rw [hob0]; exact ⟨C, L, Handed.refl h (M := []) (fun _ h => (nomatch h)), fun h => (nomatch h)⟩
        | false =>
          rw [hob0]
          obtain ⟨C0, L0, g1, g2, _⟩ := freezeAll_ok us h
          exact ⟨C0, L0, g1, fun _ => g2⟩
      split at hp
      · cases hp
      · rename_i hs ks ob1 ehand
        obtain ⟨O, M, H, C1, L1, q1, q2, q3, q4, q5⟩ := hand_ok us f1.rel (hv.le f1.le) ehand (Ks := touched Γ.lend o σ) (fun k cs hk hb => by
          have e3 := f1.mus k (by rw [hb]; rfl)
          exact htouch k cs hk (by rw [e3.1]; exact hb))
        have hh := f1.trans q2
        simp only [List.nil_append] at hh
        obtain ⟨M', r1, r2, r3⟩ := resAll_ok q2.rel us (hv.le hh.le) q1
        -- what is not written during the call
        let N : Nat → Prop := fun x => C1.N x ∨ (fresh = true ∧ ∃ k, x ∈ L1 k)
        have hN : ∀ x ∈ M', N x := by
          intro x hx
          cases hfr : fresh with
          | true =>
            rcases r2 x hx with h1 | h1 | h1
            · exact .inl (hh.hM x h1)
            · exact .inl h1
            · exact .inr ⟨hfr, h1⟩
          | false =>
            rcases r3 (fun u hu v hv k hk => ⟨fun d r' xs' e => by
              have hl := (f2 hfr u hu v hv k hk).1 d r' xs'
              have e3 := q2.mus k (by rw [show St.obj { σ with ob := ob1 } k = _ from e]; rfl)
              exact hl (by rw [e3.1]; exact e), fun d r' xs' e => by
              have hl := (f2 hfr u hu v hv k hk).2 d r' xs'
              have e3 := q2.mus k (by rw [show St.obj { σ with ob := ob1 } k = _ from e]; rfl)
              exact hl (by rw [e3.1]; exact e)⟩) (by rw [hfr] at hnc; simpa using hnc) x hx with h1 | h1
            · exact .inl (hh.hM x h1)
            · exact .inl h1
        have hHN : ∀ x ∈ H, ¬ N x := by
          intro x hx hn
          obtain ⟨_, h2, h3⟩ := hh.hH x hx
          rcases hn with hn | ⟨_, k, hk⟩
          · exact h3 hn
          · exact hh.off x h2 k hk
        have hNs : ∀ x, N x → x < w.heap.size := by
          rintro x (hn | ⟨_, k, hk⟩)
          · exact hh.rel.nsz x hn
          · exact (hh.rel.own k x hk).2
        have hOwn : ∀ x ∈ O, B0 ≤ x ∧ x < w.heap.size := by
          intro x hx
          obtain ⟨k, hk⟩ := hh.from_ x hx
          exact h.own k x hk
        have hcall := hok (resAll ob1 us hs) _ r hp B0 w0 w N vs O M' H hI h.below h.hB0 r1 hh.nd hOwn hN hHN hNs
        unfold Oper.wp
        rw [hexec]
        simp only [Oper.upon]
        refine Calls.mono hcall (fun e w' he => ?_)
        cases e with
        | panicked _ => exact he.elim
        | outgrown => exact he.elim
        | returned cv =>
          obtain ⟨⟨qv0, es⟩, hK, hB⟩ := he
          simp only at hK
          cases hios : ios es with
          | none => rw [hios] at hK; cases hK
          | some css =>
          rw [hios] at hK
          simp only at hK
          cases hslim0 : (slimRet qv0 && slimBoxes css) with
          | false => rw [hslim0] at hK; cases hK
          | true =>
            rw [hslim0] at hK
            simp only [Bool.and_eq_true] at hslim0
            obtain ⟨O1, M10, H10, O2, M2, H2, b10, b2, b3, b4, b50, b60⟩ := hB.ex
            rw [ptrs_res ob1 us q1, ios_some hios] at b2
            obtain ⟨qv, hqv⟩ : ∃ qv, qv = bif Γ.focus && fresh && ks.isEmpty && frshRet qv0 && qv0.noIo then ownRet qv0 else qv0 := ⟨_, rfl⟩
            simp only [← hqv, cond_true] at hK
            -- a result that is owned alone
            obtain ⟨M1, H1, b1, b5, b6, hslim⟩ : ∃ M1 H1, RetR w' qv cv O1 M1 H1 ∧ (∀ x ∈ M1 ++ M2, (N x ∨ x ∈ O ∨ w.heap.size ≤ x) ∧ x < w'.heap.size ∧ (fresh = true → x ∈ O1 ++ O2)) ∧ (∀ x ∈ H1 ++ H2, x ∉ M1 ++ M2 ∧ ¬ N x) ∧ (slimRet qv = true ∧ slimBoxes css = true) := by
              cases hcd : (Γ.focus && fresh && ks.isEmpty && frshRet qv0 && qv0.noIo) with
              | false => rw [hcd] at hqv; simp only [cond_false] at hqv; rw [hqv]; exact ⟨M10, H10, b10, b50, b60, hslim0⟩
              | true =>
                rw [hcd] at hqv
                simp only [cond_true] at hqv
                simp only [Bool.and_eq_true] at hcd
                obtain ⟨⟨⟨⟨_, hfr⟩, hks⟩, hfs⟩, hni⟩ := hcd
                have hks' : ks = [] := by cases ks <;> simp_all
                have hps : ptrsH hs vs = [] := by rw [hks'] at q3; exact q3
                have hO0 : O = [] := hands_none q1 hps
                rw [hps] at b2
                have hcs0 : css = [] := by
                  cases css with
                  | nil => rfl
                  | cons cs css => obtain ⟨v, vs', _, _, _, _, _, _, h1, _⟩ := b2; cases h1
                rw [hcs0] at b2
                obtain ⟨_, hO2, hM2, hH2⟩ := b2
                subst hO2; subst hM2; subst hH2
                rw [hqv]
                refine ⟨[], O1, Ret.own b10 hfs hni, fun x hx => (nomatch hx), fun x hx => ⟨by simp, fun hn => ?_⟩, slim_own hslim0.1, hslim0.2⟩
                have hx1 : x ∈ O1 := by simpa using hx
                have := (b4 x (by simpa using hx1)).1
                rw [hO0] at this
                rcases this with h1 | h1
                · cases h1
                · exact absurd (hNs x hn) (by omega)
            have hOun : ∀ k, ∀ x ∈ L1 k, x ∉ O := fun k x hx hO => hh.off x hO k hx
            obtain ⟨g1, g2⟩ := hh.rel.world (w' := w') hB.below hB.sz (fun x hx => hB.fr x (hh.rel.nsz x hx) (.inr (.inl hx))) (fun k x hx => hB.fr x (hh.rel.own k x hx).2 (.inl (hOun k x hx)))
              (M := M1 ++ M2) (fun x hx => (b5 x hx).2.1) (fun k x hx hM => by
                have hxL := hx.mem
                obtain ⟨h1, _, h3⟩ := b5 x hM
                have hlt := (hh.rel.own k x hxL).2
                rcases h1 with (h1 | ⟨hfr, _⟩) | h1 | h1
                · exact hh.rel.nw k x hx h1
                · rcases (b4 x (h3 hfr)).1 with h4 | h4
                  · exact hOun k x hxL h4
                  · omega
                · exact hOun k x hxL h1
                · omega)
            have hU1 : ∀ k, b ≤ k → k < b + 256 → ¬ C1.U k := fun k h1 h2 => by rw [hh.U]; exact hb k h1 h2
            have hfit : Fit B0 w' { C1 with N := fun x => C1.N x ∨ x ∈ M1 ++ M2 } L1 (O1 ++ O2) (M1 ++ M2) (H1 ++ H2) := by
              refine ⟨fun x hx => .inr hx, fun x hx => ?_, b3, fun x hx => ?_, fun x hx k hk => ?_⟩
              · rintro (h1 | h1)
                · exact (b6 x hx).2 (.inl h1)
                · exact (b6 x hx).1 h1
              · refine ⟨?_, (b4 x hx).2⟩
                rcases (b4 x hx).1 with h1 | h1
                · exact (hOwn x h1).1
                · exact Nat.le_trans h.hB0 h1
              · have hlt := (hh.rel.own k x hk).2
                rcases (b4 x hx).1 with h1 | h1
                · exact hOun k x hk h1
                · omega
            cases etr : takeRet b qv ob1 with
            | mk d ob2 =>
              rw [etr] at hK
              obtain ⟨C2, L2, t1, t2⟩ := takeRet_ok g1 (b := b) (fun k h1 h2 => hU1 k h1 (by omega)) hslim.1 b1 hfit.left etr
              have hsl := hslim.2
              simp only [slimBoxes, Bool.and_eq_true] at hsl
              have hlen : css.length < 5 := Nat.le_of_ble_eq_true hsl.1
              have hksU : ∀ {ks : List Nat} {ps : List Value}, PsR C0 ks ps → ∀ j ∈ ks, C0.U j := by
                intro ks
                induction ks with
                | nil => intro _ _ j hj; cases hj
                | cons i ks ih =>
                  intro ps hps j hj
                  obtain ⟨_, _, _, _, hU, hr⟩ := hps
                  rcases List.mem_cons.1 hj with rfl | hj
                  · exact hU
                  · exact ih hr j hj
              have hU01 : ∀ k, C0.U k → C1.U k := fun k hk => by rw [q2.U]; exact hk
              obtain ⟨C3, L3, s1, s2, s3, s4, s5, s6⟩ := takeBoxes_ok ks css t1.rel (b := b + 96) (fun k h1 h2 hk => by
                  rcases t1.U k hk with h3 | h3
                  · exact hU1 k (by omega) (by omega) h3
                  · omega) hsl.2 (PsR.imp (C := C0) (fun k hk => by rw [t1.φ k (hU01 k hk)]; show C1.φ k = _; rw [q2.φ]) (fun k hk => t1.le.U k (hU01 k hk)) q3) q4 (fun k hk => (t1.no k (hU01 k (hksU q3 k hk))).trans (q5 k hk).2) b2 (hfit.right t1)
              have hback : ∀ k x, x ∈ L3 k → x ∈ L1 k ∨ x ∈ O1 ++ O2 := by
                intro k x hx
                rcases s5 k x hx with h1 | h1
                · rcases t1.ow k x h1 with h2 | h2
                  · exact .inl h2
                  · exact .inr (by simp [h2])
                · exact .inr (by simp [h1])
              have hbackH : ∀ k x, x ∈ L3 k → ¬ C3.N x → x ∈ L1 k ∨ x ∈ H1 ++ H2 := by
                intro k x hx hn
                rcases s6 k x hx hn with h1 | h1
                · rcases t1.hd k x h1 (by rw [← s4]; exact hn) with h2 | h2
                  · exact .inl h2
                  · exact .inr (by simp [h2])
                · exact .inr (by simp [h1])
              have hHO : ∀ x ∈ H1 ++ H2, x ∈ O1 ++ O2 := by
                intro x hx
                rcases List.mem_append.1 hx with hx | hx
                · exact List.mem_append.2 (.inl (b1.hsub x hx))
                · exact List.mem_append.2 (.inr (b2.hsub x hx))
              have hHead : ∀ x ∈ H, ∃ k ∈ touched Γ.lend o σ, x ∈ L k := fun x hx => (hh.hH x hx).1
              refine ⟨⟨_, C3, L3, hK, s1.put o.dst (t2.le s2), (hh.le.trans g2).trans (t1.le.trans s2), fun k hk => ?_, put_nx .., put_len .., put_io .., ⟨fun k x hx hn => ?_, fun k x hx => ?_, fun x hx => ?_⟩⟩, fun x hx ht => ?_, hB.sz⟩
              · rcases s3 k hk with h1 | h1
                · rcases t1.U k h1 with h2 | h2
                  · have h3 : C1.U k := h2
                    rw [hh.U] at h3; exact .inl h3
                  · exact .inr (by omega)
                · exact .inr (by omega)
              · rcases hbackH k x hx hn with h1 | h1
                · exact .inl (hh.sub k x h1)
                · rcases (b4 x (hHO x h1)).1 with h2 | h2
                  · rcases hh.OH x h2 with h3 | h3
                    · exact .inr (.inr (hHead x h3))
                    · exact absurd (.inl (hh.hM x h3)) (b6 x h1).2
                  · exact .inr (.inl h2)
              · rcases hback k x hx with h1 | h1
                · exact .inl ⟨k, hh.sub k x h1⟩
                · rcases (b4 x h1).1 with h2 | h2
                  · exact .inl (hh.from_ x h2)
                  · exact .inr h2
              · rw [s4, t1.N] at hx
                have hC1 : C1.N x → C.N x ∨ (∃ j, x ∈ L j) ∨ w.heap.size ≤ x := fun h1 => (hh.nn x h1).imp id .inl
                rcases hx with hx | hx
                · exact hC1 hx
                · rcases (b5 x hx).1 with (h1 | ⟨_, k, h1⟩) | h1 | h1
                  · exact hC1 h1
                  · exact .inr (.inl ⟨k, hh.sub k x h1⟩)
                  · exact .inr (.inl (hh.from_ x h1))
                  · exact .inr (.inr h1)
              · refine hB.fr x hx ?_
                by_cases hxO : x ∈ O
                · rcases hh.OH x hxO with h1 | h1
                  · rcases ht with ht | ht
                    · exact .inr (.inl (hh.le.N x ht))
                    · obtain ⟨k, hk, hk'⟩ := hHead x h1
                      exact absurd hk' (ht k hk)
                  · exact .inr (.inl (hh.hM x h1))
                · exact .inl hxO
  · cases hp
end
end Go.Ev
