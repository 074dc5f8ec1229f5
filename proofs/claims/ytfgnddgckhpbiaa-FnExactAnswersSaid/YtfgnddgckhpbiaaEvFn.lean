/- A function: it keeps the contract that the evaluator reckons. -/
import Derived.Test.YtfgnddgckhpbiaaEvCode
set_option linter.unusedVariables false
namespace Go.Ev
open Go.RowKit

theorem CcR.nil0 {w : World} : (cc : Cc) → {d : V} → {v : Value} → {O M H : List Nat} → CellR w d v O M H → ∃ M', CellR w (cc.nil0 d) v O M' H ∧ ∀ x ∈ M', x ∈ M := by
  intro cc d v O M H h
  unfold Cc.nil0
  split
  · obtain ⟨h1, rfl, rfl⟩ := h
    exact ⟨[], ⟨.inl ⟨rfl, rfl, none, 0, h1, fun _ => ⟨rfl, rfl⟩⟩, rfl, rfl⟩, fun _ h => (nomatch h)⟩
  · exact ⟨M, h, fun _ h => h⟩
theorem nil0_ok {w : World} : (r : Rw) → {ds : List V} → {vs : List Value} → {O M H : List Nat} → CellsR w ds vs O M H → ∃ M', CellsR w (r.nil0 ds) vs O M' H ∧ ∀ x ∈ M', x ∈ M
  | .one c, [], vs, O, M, H, h => ⟨M, h, fun _ h => h⟩
  | .one c, [d], vs, O, M, H, h => by
    obtain ⟨v, vs', O1, O2, M1, M2, H1, H2, rfl, rfl, rfl, rfl, h1, h2⟩ := h
    obtain ⟨M', g1, g2⟩ := CcR.nil0 c h1
    exact ⟨M' ++ M2, ⟨v, vs', O1, O2, M', M2, H1, H2, rfl, rfl, rfl, rfl, g1, h2⟩, fun x hx => by
      rcases List.mem_append.1 hx with hx | hx
      · simp [g2 x hx]
      · simp [hx]⟩
  | .one c, _ :: _ :: _, vs, O, M, H, h => ⟨M, h, fun _ h => h⟩
  | .cons c r, [], vs, O, M, H, h => ⟨M, h, fun _ h => h⟩
  | .cons c r, d :: ds, vs, O, M, H, h => by
    obtain ⟨v, vs', O1, O2, M1, M2, H1, H2, rfl, rfl, rfl, rfl, h1, h2⟩ := h
    obtain ⟨M', g1, g2⟩ := CcR.nil0 c h1
    obtain ⟨M3, g3, g4⟩ := nil0_ok r h2
    exact ⟨M' ++ M3, ⟨v, vs', O1, O2, M', M3, H1, H2, rfl, rfl, rfl, rfl, g1, g3⟩, fun x hx => by
      rcases List.mem_append.1 hx with hx | hx
      · simp [g2 x hx]
      · simp [g4 x hx]⟩

section
variable {P : Program} {Γ : Env} {I : Nat → World → Prop} {B0 : Nat} {w0 : World} {σ : St} {a : Act} {w : World} {C : Cx} {L : Nat → List Nat}

theorem Handed.less {ob' : Obs} {Ks O M H : List Nat} {C' : Cx} {L' : Nat → List Nat} (h : Handed B0 w0 σ a w C L ob' Ks O M H C' L') {M' : List Nat} (hM : ∀ x ∈ M', C'.N x) (hO : ∀ x ∈ O, x ∈ H ∨ x ∈ M → x ∈ H ∨ x ∈ M') : Handed B0 w0 σ a w C L ob' Ks O M' H C' L' :=
  { h with hM := hM, OH := fun x hx => hO x hx (h.OH x hx) }

/-- What goes out, without regard to which of it may be written on. -/
structure Gone (B0 : Nat) (w0 : World) (σ : St) (a : Act) (w : World) (C : Cx) (L : Nat → List Nat) (ob' : Obs) (O M H : List Nat) (C' : Cx) (L' : Nat → List Nat) : Prop where
  rel : Rel B0 w0 { σ with ob := ob' } a w C' L'
  le : C.Le w C' w
  eqn : ∀ k, L' k = L k ∨ L' k = []
  nn : ∀ x, C'.N x → C.N x ∨ ∃ j, x ∈ L j
  nd : O.Nodup
  from_ : ∀ x ∈ O, ∃ k, x ∈ L k
  off : ∀ x ∈ O, ∀ k, x ∉ L' k
  hM : ∀ x ∈ M, C'.N x
  hH : ∀ x ∈ H, x ∈ O ∧ ¬ C'.N x
theorem Handed.gone {ob' : Obs} {Ks O M H : List Nat} {C' : Cx} {L' : Nat → List Nat} (h : Handed B0 w0 σ a w C L ob' Ks O M H C' L') {M' : List Nat} (hM : ∀ x ∈ M', x ∈ M) : Gone B0 w0 σ a w C L ob' O M' H C' L' :=
  ⟨h.rel, h.le, h.eqn, h.nn, h.nd, h.from_, h.off, fun x hx => h.hM x (hM x hx), fun x hx => (h.hH x hx).2⟩
theorem Gone.sub {ob' : Obs} {O M H : List Nat} {C' : Cx} {L' : Nat → List Nat} (h : Gone B0 w0 σ a w C L ob' O M H C' L') : ∀ k x, x ∈ L' k → x ∈ L k := fun k x hx => by
  rcases h.eqn k with h | h
  · rw [h] at hx; exact hx
  · rw [h] at hx; cases hx
theorem Gone.refl (h : Rel B0 w0 σ a w C L) : Gone B0 w0 σ a w C L σ.ob [] [] [] C L :=
  (Handed.refl h (M := []) (fun _ h => (nomatch h))).gone (fun _ h => h)
theorem Gone.trans {ob1 ob2 : Obs} {O1 O2 M1 M2 H1 H2 : List Nat} {C1 C2 : Cx} {L1 L2 : Nat → List Nat} (h1 : Gone B0 w0 σ a w C L ob1 O1 M1 H1 C1 L1) (h2 : Gone B0 w0 { σ with ob := ob1 } a w C1 L1 ob2 O2 M2 H2 C2 L2) :
    Gone B0 w0 σ a w C L ob2 (O1 ++ O2) (M1 ++ M2) (H1 ++ H2) C2 L2 := by
  refine ⟨h2.rel, h1.le.trans h2.le, fun k => ?_, fun x hx => ?_, ?_, fun x hx => ?_, fun x hx k hk => ?_, fun x hx => ?_, fun x hx => ?_⟩
  · rcases h2.eqn k with h | h
    · rw [h]; exact h1.eqn k
    · exact .inr h
  · rcases h2.nn x hx with h | ⟨j, h⟩
    · exact h1.nn x h
    · exact .inr ⟨j, h1.sub j x h⟩
  · rw [List.nodup_append]
    refine ⟨h1.nd, h2.nd, fun x hx y hy e => ?_⟩
    subst e
    obtain ⟨k, hk⟩ := h2.from_ x hy
    exact h1.off x hx k hk
  · rcases List.mem_append.1 hx with hx | hx
    · exact h1.from_ x hx
    · obtain ⟨k, hk⟩ := h2.from_ x hx
      exact ⟨k, h1.sub k x hk⟩
  · rcases List.mem_append.1 hx with hx | hx
    · exact h1.off x hx k (h2.sub k x hk)
    · exact h2.off x hx k hk
  · rcases List.mem_append.1 hx with hx | hx
    · exact h2.le.N x (h1.hM x hx)
    · exact h2.hM x hx
  · rcases List.mem_append.1 hx with hx | hx
    · obtain ⟨g2, g3⟩ := h1.hH x hx
      refine ⟨by simp [g2], fun hN => ?_⟩
      rcases h2.nn x hN with h | ⟨j, h⟩
      · exact g3 h
      · exact h1.off x g2 j h
    · obtain ⟨g2, g3⟩ := h2.hH x hx
      exact ⟨by simp [g2], g3⟩

theorem handV_ok (h : Rel B0 w0 σ a w C L) {ty : Ty} {v : V} {cv : Value} (hv : VR C w v cv) {d : V} {ob' : Obs} (hh : handV ty v σ.ob = some (d, ob')) : ∃ O M H C' L', ArgR w d cv O M H ∧ Gone B0 w0 σ a w C L ob' O M H C' L' := by
  have cell : (∀ cs, d ≠ .io cs) → (∀ cs, d ≠ .a cs) → handCell v σ.ob = some (d, ob') → ∃ O M H C' L', ArgR w d cv O M H ∧ Gone B0 w0 σ a w C L ob' O M H C' L' := by
    intro h1 h2 hh
    obtain ⟨O, M, H, C', L', g1, g2⟩ := handCell_ok h hv hh (Ks := touchC v) (fun k hk => by rcases hk with rfl | ⟨_, _, rfl⟩ <;> simp [touchC])
    refine ⟨O, M, H, C', L', ?_, g2.gone (fun _ h => h)⟩
    unfold ArgR
    split
    · exact absurd rfl (h1 _)
    · exact absurd rfl (h2 _)
    · exact g1
  have noio : ∀ {v d : V} {ob ob' : Obs}, handCell v ob = some (d, ob') → (∀ cs, d ≠ .io cs) ∧ ∀ cs, d ≠ .a cs := by
    intro v d ob ob' hh
    unfold handCell at hh
    split at hh
    · cases hh; exact ⟨by simp, by simp⟩
    · cases hh; exact ⟨by simp, by simp⟩
    · cases hh; exact ⟨by simp, by simp⟩
    · split at hh <;> cases hh <;> exact ⟨by simp, by simp⟩
    · split at hh <;> cases hh <;> exact ⟨by simp, by simp⟩
    · cases hh
  unfold handV at hh
  split at hh
  · rename_i cs
    split at hh
    · rename_i ds ob1 e1
      cases hh
      obtain ⟨vs, rfl, h2⟩ := hv
      obtain ⟨O, M, H, C', L', g1, g2⟩ := handCells_ok cs h h2 e1 (Ks := cs.flatMap touchC) (fun c hc k hk => List.mem_flatMap.2 ⟨c, hc, by rcases hk with rfl | ⟨_, _, rfl⟩ <;> simp [touchC]⟩)
      obtain ⟨M', g3, g4⟩ := nil0_ok ty.row g1
      exact ⟨O, M', H, C', L', ⟨vs, rfl, g3⟩, g2.gone g4⟩
    · cases hh
  · cases hh
    exact ⟨[], [], [], C, L, ⟨.inl ⟨rfl, rfl, none, 0, hv, fun _ => ⟨rfl, rfl⟩⟩, rfl, rfl⟩, Gone.refl h⟩
  · rename_i k
    split at hh
    · rename_i cs eo
      split at hh
      · rename_i ds ob1 e1
        cases hh
        have eo' : σ.obj k = .box cs := eo
        obtain ⟨b, bvs, ty', q1, q2, q3, q4⟩ := h.box eo'
        have hd := Handed.del h (k := k) (O := [b]) (M := []) (H := [b]) q2.symm (fun _ h => (nomatch h)) (fun x hx => by simp at hx; subst hx; exact ⟨by rw [q2]; simp, h.nm k _ (by rw [eo']; rfl) (by rw [q2]; rfl)⟩) (fun x hx => .inl hx)
        obtain ⟨O1, M1, H1, C1, L1, g1, g2⟩ := handCells_ok cs hd.rel (q4.le hd.le) e1 (Ks := cs.flatMap touchC) (fun c hc k hk => List.mem_flatMap.2 ⟨c, hc, by rcases hk with rfl | ⟨_, _, rfl⟩ <;> simp [touchC]⟩)
        exact ⟨[b] ++ O1, [] ++ M1, [b] ++ H1, C1, L1, ⟨b, bvs, ty', O1, H1, hv.2.2 b q1, q3, g1, rfl, rfl⟩, (hd.trans g2).gone (fun _ h => h)⟩
      · cases hh
    · cases hh
  · exact cell (noio hh).1 (noio hh).2 hh

theorem handB_ok (h : Rel B0 w0 σ a w C L) {v : V} {cv : Value} (hv : VR C w v cv) {d : V} {ob' : Obs} (hh : handB v σ.ob = some (d, ob')) : ∃ O M H C' L', ArgR w d cv O M H ∧ Gone B0 w0 σ a w C L ob' O M H C' L' := by
  unfold handB at hh
  split at hh
  · rename_i cs
    split at hh
    · rename_i ds ob1 e1
      cases hh
      obtain ⟨vs, rfl, h2⟩ := hv
      obtain ⟨O, M, H, C', L', g1, g2⟩ := handCells_ok cs h h2 e1 (Ks := cs.flatMap touchC) (fun c hc k hk => List.mem_flatMap.2 ⟨c, hc, by rcases hk with rfl | ⟨_, _, rfl⟩ <;> simp [touchC]⟩)
      exact ⟨O, M, H, C', L', ⟨vs, rfl, g1⟩, g2.gone (fun _ h => h)⟩
    · cases hh
  · rename_i k
    split at hh
    · rename_i cs eo
      split at hh
      · rename_i ds ob1 e1
        cases hh
        have eo' : σ.obj k = .box cs := eo
        obtain ⟨b, bvs, ty', q1, q2, q3, q4⟩ := h.box eo'
        have hd := Handed.del h (k := k) (O := [b]) (M := []) (H := [b]) q2.symm (fun _ h => (nomatch h)) (fun x hx => by simp at hx; subst hx; exact ⟨by rw [q2]; simp, h.nm k _ (by rw [eo']; rfl) (by rw [q2]; rfl)⟩) (fun x hx => .inl hx)
        obtain ⟨O1, M1, H1, C1, L1, g1, g2⟩ := handCells_ok cs hd.rel (q4.le hd.le) e1 (Ks := cs.flatMap touchC) (fun c hc k hk => List.mem_flatMap.2 ⟨c, hc, by rcases hk with rfl | ⟨_, _, rfl⟩ <;> simp [touchC]⟩)
        exact ⟨[b] ++ O1, [] ++ M1, [b] ++ H1, C1, L1, ⟨b, bvs, ty', O1, H1, hv.2.2 b q1, q3, g1, rfl, rfl⟩, (hd.trans g2).gone (fun _ h => h)⟩
      · cases hh
    · cases hh
  · rename_i k
    obtain ⟨O, M, H, C', L', g1, g2⟩ := handCell_ok h hv hh (Ks := [k]) (fun j hj => by rcases hj with hj | ⟨_, _, hj⟩ <;> cases hj; simp)
    have hno : (∀ cs, d ≠ .io cs) ∧ ∀ cs, d ≠ .a cs := by
      simp only [handCell] at hh
      split at hh <;> cases hh <;> exact ⟨by simp, by simp⟩
    refine ⟨O, M, H, C', L', ?_, g2.gone (fun _ h => h)⟩
    unfold ArgR
    split
    · exact absurd rfl (hno.1 _)
    · exact absurd rfl (hno.2 _)
    · exact g1
  · cases hh
theorem handBs_ok : ∀ (us : List V) {σ : St} {C : Cx} {L : Nat → List Nat} (h : Rel B0 w0 σ a w C L) {vs : List Value} (hv : VsR C w us vs) {ds : List V} {ob' : Obs} (hh : handBs us σ.ob = some (ds, ob')), ∃ O M H C' L', ArgsR w ds vs O M H ∧ Gone B0 w0 σ a w C L ob' O M H C' L'
  | [], σ, C, L, h, vs, hv, ds, ob', hh => by
    simp only [handBs, Option.some.injEq, Prod.mk.injEq] at hh
    obtain ⟨rfl, rfl⟩ := hh
    simp only [VsR] at hv
    exact ⟨[], [], [], C, L, ⟨hv, rfl, rfl, rfl⟩, Gone.refl h⟩
  | u :: us, σ, C, L, h, vs, hv, ds, ob', hh => by
    obtain ⟨v, vs', rfl, h2, h3⟩ := hv
    simp only [handBs] at hh
    split at hh
    · cases hh
    · rename_i d ob1 e1
      split at hh
      · cases hh
      · rename_i ds2 ob2 e2
        cases hh
        obtain ⟨O1, M1, H1, C1, L1, g1, g2⟩ := handB_ok h h2 e1
        obtain ⟨O2, M2, H2, C2, L2, g3, g4⟩ := handBs_ok us g2.rel (h3.le g2.le) e2
        exact ⟨O1 ++ O2, M1 ++ M2, H1 ++ H2, C2, L2, ⟨v, vs', O1, O2, M1, M2, H1, H2, rfl, rfl, rfl, rfl, g1, g3⟩, g2.trans g4⟩

def resOne (tmps : Array Value) : ResultVar → Sem Value
  | .tmp t => pure (tmps.getD t undef)
  | .cell a t => do loadVar t (← asAddr (tmps.getD a undef))
theorem outV_ok (hT : TysOk P Γ.ty) (h : Rel B0 w0 σ a w C L) {x : ResultVar} {v : V} (hp : outV Γ σ x = some v) : ∃ cv, (resOne a.tmps x).run P w = .ok cv w ∧ VR C w v cv := by
  cases x with
  | tmp t =>
    simp only [outV, Option.some.injEq] at hp
    subst hp
    exact ⟨_, rfl, h.ev (.tmp t)⟩
  | cell ad t =>
    simp only [outV] at hp
    obtain ⟨cv, b, h1, _, h3⟩ := ld hT h hp
    refine ⟨cv, ?_, h1⟩
    have h4 := h3 w rfl
    simp only [execOp, resultOper] at h4
    simp only [resOne]
    have e : a.eval (.tmp ad) = a.tmps.getD ad undef := rfl
    rw [e] at h4
    generalize a.tmps.getD ad undef = pv at h4 ⊢
    cases pv with
    | pointer q =>
      cases q with
      | some q =>
        simp only [Instr.loadAt, Instr.sureAddr, Sem.run_bind, Sem.run_pure, Result.andThen_ok, asAddr] at h4 ⊢
        cases hr : (loadVar t q).run P w with
        | ok c w2 =>
          rw [hr] at h4
          simp only [Result.andThen_ok, Result.ok.injEq, Next.value.injEq] at h4
          rw [h4.1, h4.2]
        | halt _ _ => rw [hr] at h4; simp [Result.andThen] at h4
      | none => simp [Instr.loadAt, Instr.sureAddr] at h4
    | _ => simp [Instr.loadAt, Instr.sureAddr] at h4
theorem outs_ok (hT : TysOk P Γ.ty) (h0 : Rel B0 w0 σ a w C L) : ∀ (rs : List ResultVar) (ts : List TypeId) {ob : Obs} {C1 : Cx} {L1 : Nat → List Nat} (h : Rel B0 w0 { σ with ob := ob } a w C1 L1) (hle : C.Le w C1 w) {ds : List V} {ob' : Obs} (hp : outs Γ σ rs ts ob = some (ds, ob')),
    ∃ cvs O M H C' L', (rs.mapM (resOne a.tmps)).run P w = .ok cvs w ∧ ArgsR w ds cvs O M H ∧ Gone B0 w0 { σ with ob := ob } a w C1 L1 ob' O M H C' L'
  | [], ts, ob, C1, L1, h, hle, ds, ob', hp => by
    simp only [outs, Option.some.injEq, Prod.mk.injEq] at hp
    obtain ⟨rfl, rfl⟩ := hp
    exact ⟨[], [], [], [], C1, L1, rfl, ⟨rfl, rfl, rfl, rfl⟩, Gone.refl h⟩
  | x :: rs, [], ob, C1, L1, h, hle, ds, ob', hp => by simp [outs] at hp
  | x :: rs, ti :: ts, ob, C1, L1, h, hle, ds, ob', hp => by
    simp only [outs] at hp
    split at hp
    · rename_i ty _
      split at hp
      · rename_i v ev
        split at hp
        · cases hp
        · rename_i d ob1 e1
          split at hp
          · cases hp
          · rename_i ds2 ob2 e2
            cases hp
            obtain ⟨cv, q1, q2⟩ := outV_ok hT h0 ev
            obtain ⟨O1, M1, H1, C2, L2, g1, g2⟩ := handV_ok h (q2.le hle) e1
            obtain ⟨cvs, O2, M2, H2, C3, L3, r1, r2, r3⟩ := outs_ok hT h0 rs ts g2.rel (hle.trans g2.le) e2
            refine ⟨cv :: cvs, O1 ++ O2, M1 ++ M2, H1 ++ H2, C3, L3, ?_, ⟨cv, cvs, O1, O2, M1, M2, H1, H2, rfl, rfl, rfl, rfl, g1, r2⟩, g2.trans r3⟩
            simp [List.mapM_cons, q1, r1]
      · cases hp
    · cases hp

def retOf : List Value → Value
  | [c] => c
  | cs => .tuple ⟨cs⟩
theorem results_eq (fn : Func) (tmps : Array Value) {cvs : List Value} (h : (fn.results.toList.mapM (resOne tmps)).run P w = .ok cvs w) : (results fn tmps).run P w = .ok (retOf cvs) w := by
  have e : results fn tmps = (do
      let vs ← fn.results.mapM (resOne tmps)
      pure (if h : vs.size = 1 then vs[0] else .tuple vs)) := by
    unfold results
    congr 1
  rw [e, Array.mapM_eq_mapM_toList]
  simp only [Sem.run_bind, map_eq_pure_bind, h, Result.andThen_ok, Sem.run_pure]
  match cvs with
  | [] => rfl
  | [c] => rfl
  | _ :: _ :: _ => rfl

/-! ### What a result shows -/
theorem Cell.fresh {v : V} {c : Value} {O M H : List Nat} (h : CellR w v c O M H) (hf : v.frsh1 = true) : ∃ M', CellR w v c O M' H ∧ ∀ x ∈ M', x ∈ M ∧ x ∈ O := by
  cases v with
  | s u => exact ⟨[], ⟨h.1, h.2⟩, fun _ h => (nomatch h)⟩
  | nl => exact ⟨[], ⟨h.1, h.2⟩, fun _ h => (nomatch h)⟩
  | l o r xs =>
    cases o with
    | no => simp [V.frsh1] at hf
    | deep =>
      obtain ⟨h1, rfl, rfl⟩ := h
      exact ⟨O.drop 1, ⟨h1, rfl, rfl⟩, fun x hx => ⟨hx, List.mem_of_mem_drop hx⟩⟩
    | own => exact ⟨[], ⟨h.1, rfl, h.2.2⟩, fun _ h => (nomatch h)⟩
    | top =>
      obtain ⟨F, h1, rfl, rfl, rfl⟩ := h
      have hr : r.flat = true := hf
      refine ⟨F.drop 1, ⟨F, h1, rfl, rfl, rfl⟩, fun x hx => ?_⟩
      exfalso
      rcases h1 with ⟨_, h2, _⟩ | ⟨b, o, cap, F', _, _, h3, _, _, h4⟩
      · rw [h2] at hx; cases hx
      · have := (RowsR.flat (e' := true) hr h4).1
        rw [h3, this] at hx; cases hx
  | _ => simp [V.frsh1] at hf
theorem Cells.fresh : ∀ {cs : List V} {vs : List Value} {O M H : List Nat} (h : CellsR w cs vs O M H) (hf : cs.all V.frsh1 = true), ∃ M', CellsR w cs vs O M' H ∧ ∀ x ∈ M', x ∈ M ∧ x ∈ O
  | [], _, _, _, _, h, _ => ⟨_, h, fun x hx => by rw [h.2.2.1] at hx; cases hx⟩
  | c :: cs, _, _, _, _, ⟨v, vs', O1, O2, M1, M2, H1, H2, e1, e2, e3, e4, h1, h2⟩, hf => by
    simp only [List.all_cons, Bool.and_eq_true] at hf
    obtain ⟨M3, g1, g2⟩ := Cell.fresh h1 hf.1
    obtain ⟨M4, g3, g4⟩ := Cells.fresh h2 hf.2
    refine ⟨M3 ++ M4, ⟨v, vs', O1, O2, M3, M4, H1, H2, e1, e2, rfl, e4, g1, g3⟩, fun x hx => ?_⟩
    rw [e2, e3]
    rcases List.mem_append.1 hx with hx | hx
    · simp [g2 x hx]
    · simp [g4 x hx]
theorem Arg.fresh {v : V} {c : Value} {O M H : List Nat} (h : ArgR w v c O M H) (hf : v.frsh = true) : ∃ M', ArgR w v c O M' H ∧ ∀ x ∈ M', x ∈ M ∧ x ∈ O := by
  unfold ArgR at h
  split at h
  · obtain ⟨b, vs, ty, O', H', h1, h2, h3, rfl, rfl⟩ := h
    obtain ⟨M', g1, g2⟩ := Cells.fresh h3 hf
    exact ⟨M', ⟨b, vs, ty, O', H', h1, h2, g1, rfl, rfl⟩, fun x hx => ⟨(g2 x hx).1, by simp [(g2 x hx).2]⟩⟩
  · obtain ⟨vs, h1, h2⟩ := h
    obtain ⟨M', g1, g2⟩ := Cells.fresh h2 hf
    exact ⟨M', ⟨vs, h1, g1⟩, g2⟩
  · rename_i hn1 hn2
    have hf' : v.frsh1 = true := by
      unfold V.frsh at hf
      split at hf
      · exact absurd rfl (hn2 _)
      · exact absurd rfl (hn1 _)
      · exact hf
    obtain ⟨M', g1, g2⟩ := Cell.fresh h hf'
    refine ⟨M', ?_, g2⟩
    unfold ArgR
    split
    · exact absurd rfl (hn1 _)
    · exact absurd rfl (hn2 _)
    · exact g1
theorem Args.fresh : ∀ {cs : List V} {vs : List Value} {O M H : List Nat} (h : ArgsR w cs vs O M H) (hf : cs.all V.frsh = true), ∃ M', ArgsR w cs vs O M' H ∧ ∀ x ∈ M', x ∈ M ∧ x ∈ O
  | [], _, _, _, _, h, _ => ⟨_, h, fun x hx => by rw [h.2.2.1] at hx; cases hx⟩
  | c :: cs, _, _, _, _, ⟨v, vs', O1, O2, M1, M2, H1, H2, e1, e2, e3, e4, h1, h2⟩, hf => by
    simp only [List.all_cons, Bool.and_eq_true] at hf
    obtain ⟨M3, g1, g2⟩ := Arg.fresh h1 hf.1
    obtain ⟨M4, g3, g4⟩ := Args.fresh h2 hf.2
    refine ⟨M3 ++ M4, ⟨v, vs', O1, O2, M3, M4, H1, H2, e1, e2, rfl, e4, g1, g3⟩, fun x hx => ?_⟩
    rw [e2, e3]
    rcases List.mem_append.1 hx with hx | hx
    · simp [g2 x hx]
    · simp [g4 x hx]
theorem Ret.fresh {v : V} {c : Value} {O M H : List Nat} (h : RetR w v c O M H) (hf : frshRet v = true) : ∃ M', RetR w v c O M' H ∧ ∀ x ∈ M', x ∈ M ∧ x ∈ O := by
  unfold RetR at h
  split at h
  · obtain ⟨vs, h1, h2⟩ := h
    obtain ⟨M', g1, g2⟩ := Args.fresh h2 hf
    exact ⟨M', ⟨vs, h1, g1⟩, g2⟩
  · rename_i hn
    have hf' : v.frsh = true := by
      unfold frshRet at hf
      split at hf
      · exact absurd rfl (hn _)
      · exact hf
    obtain ⟨M', g1, g2⟩ := Arg.fresh h hf'
    refine ⟨M', ?_, g2⟩
    unfold RetR
    split
    · exact absurd rfl (hn _)
    · exact g1

theorem ret_of {ds : List V} {cvs : List Value} {O M H : List Nat} (h : ArgsR w ds cvs O M H) : RetR w (oneOf ds) (retOf cvs) O M H := by
  match ds, h with
  | [], h => 
    obtain ⟨rfl, h2⟩ := h
    exact ⟨[], rfl, rfl, h2⟩
  | [d], h =>
    obtain ⟨v, vs', O1, O2, M1, M2, H1, H2, rfl, rfl, rfl, rfl, h1, rfl, rfl, rfl, rfl⟩ := h
    simp only [List.append_nil]
    have nt : (∀ us, d ≠ .t us) → RetR w (oneOf [d]) v O1 M1 H1 := by
      intro hn
      have e : oneOf [d] = d := by cases d <;> first | rfl | exact absurd rfl (hn _)
      rw [e]
      unfold RetR
      split
      · exact absurd rfl (hn _)
      · exact h1
    cases d with
    | t us =>
      obtain ⟨_, rfl, rfl⟩ := h1
      exact ⟨trivial, rfl, rfl⟩
    | _ => exact nt (by simp)
  | d :: d2 :: ds, h =>
    obtain ⟨v, vs', O1, O2, M1, M2, H1, H2, rfl, e2, e3, e4, h1, h2⟩ := h
    obtain ⟨v2, vs2, O3, O4, M3, M4, H3, H4, rfl, e5, e6, e7, h3, h4⟩ := h2
    have e : oneOf (d :: d2 :: ds) = .t (d :: d2 :: ds) := by cases d <;> rfl
    rw [e]
    exact ⟨v :: v2 :: vs2, rfl, v, _, O1, O2, M1, M2, H1, H2, rfl, e2, e3, e4, h1, v2, _, O3, O4, M3, M4, H3, H4, rfl, e5, e6, e7, h3, h4⟩

theorem ptrs_vs {C : Cx} : ∀ (ws : List V) {ds : List V} {vs : List Value}, VsR C w ds vs → VsR C w (ptrs ws ds) (ptrs ws vs)
  | [], ds, vs, h => by cases ds <;> simp [ptrs, VsR]
  | u :: ws, [], vs, h => by simp only [VsR] at h; subst h; simp [ptrs, VsR]
  | u :: ws, d :: ds, _, ⟨v, vs', h1, h2, h3⟩ => by
    subst h1
    have ih := ptrs_vs ws h3
    simp only [ptrs]
    cases u.back with
    | false => exact ih
    | true => exact ⟨v, _, rfl, h2, ih⟩

/-- A frame with nothing of its own. -/
theorem Rel.init {N : Nat → Prop} {tmps : Array Value} {n nx : Nat} (hb : Below B0 w0 w) (hB : B0 ≤ w.heap.size) (hn : ∀ x, N x → x < w.heap.size) (hl : tmps.size = n) : Rel B0 w0 { tm := List.replicate n .x, ob := [], nx := nx } { tmps := tmps, defers := [] } w ⟨fun _ => none, fun _ => False, N, fun _ => none⟩ (fun _ => []) := by
  refine { below := hb, hB0 := hB, defers := rfl, len := by simp [hl], tm := fun i v hv => ?_, ob := fun k => rfl, us := fun k h => absurd rfl h, nd := fun _ => List.nodup_nil, dj := fun _ _ _ _ h => (nomatch h), own := fun _ _ h => (nomatch h), nw := fun k b hm => ?_, nsz := hn }
  · rw [List.getElem?_replicate] at hv
    split at hv
    · rename_i hi
      cases hv
      have hi' : i < tmps.size := by omega
      exact ⟨_, Array.getElem?_eq_getElem hi', trivial⟩
    · cases hv
  · exact absurd hm.mem (by simp)

theorem evF_ok (hm : P.follows .mixedOrders = true) (hT : TysOk P Γ.ty) (hΓ : FnsOk P I Γ) {g : FuncId} {fn : Func} (hg : P.funcs[g]? = some fn) (hname : (fn.name == "runtime.NumGoroutine") = false) {c : Code} (hc : fn.body = some c) (hpl : plansOk Γ.plan c = true) (hlo : LoopsOk Γ c) {fresh : Bool} : OkFn P I g fresh (evF Γ fresh fn) := by
  refine ⟨fun args w => ?_, ?_⟩
  · have hname' : ¬ fn.name = "runtime.NumGoroutine" := by simpa using hname
    simp [callFunc, hg, hname', hc]
  intro ws K r hev B0 w0 w N vs O M H hI hbel hB0 hA hnd hown hM hH hNs
  unfold evF at hev
  rw [hc] at hev
  simp only at hev
  cases hs : (ws.all V.slim && Nat.ble ws.length fn.ntmps) with
  | false => rw [hs] at hev; cases hev
  | true =>
    rw [hs] at hev
    simp only [Bool.and_eq_true] at hs
    have hlen : ws.length ≤ fn.ntmps := Nat.le_of_ble_eq_true hs.2
    have hvl : ∀ {cs : List V} {vs : List Value} {O M H : List Nat}, ArgsR w cs vs O M H → cs.length = vs.length := by
      intro cs
      induction cs with
      | nil => intro vs O M H h; rw [h.1]; rfl
      | cons c cs ih =>
        intro vs O M H h
        obtain ⟨v, vs', _, _, _, _, _, _, rfl, _, _, _, _, h2⟩ := h
        simp [ih h2]
    have hvl := hvl hA
    refine calls_of_wp hg hc ?_
    have hsz : ((⟨vs⟩ : Array Value) ++ Array.replicate (fn.ntmps - (⟨vs⟩ : Array Value).size) undef).size = fn.ntmps := by
      simp; omega
    have h0 := Rel.init (nx := 24 * ws.length) hbel hB0 hNs hsz
    cases et : takeAll 0 ws [] with
    | mk ds ob =>
      rw [et] at hev
      simp only [cond_true] at hev
      obtain ⟨C1, L1, t1, t2⟩ := takeAll_ok ws h0 (b := 0) (fun k _ _ h => h) hs.1 hA ⟨hM, hH, hnd, hown, fun x _ k hk => (nomatch hk)⟩ et
      have hdl := t2.length
      -- the frame at the start
      have hR : Rel B0 w0 { tm := ds ++ List.replicate (fn.ntmps - ws.length) .x, ob := ob, nx := 24 * ws.length, io := ptrs ws ds } { tmps := (⟨vs⟩ : Array Value) ++ Array.replicate (fn.ntmps - (⟨vs⟩ : Array Value).size) undef, defers := [] } w C1 L1 := by
        have hr := t1.rel
        refine { below := hr.below, hB0 := hr.hB0, defers := rfl, len := by rw [hsz]; simp; omega, tm := fun i v hv => ?_, ob := hr.ob, us := hr.us, nd := hr.nd, dj := hr.dj, own := hr.own, nw := hr.nw, nsz := hr.nsz }
        rw [List.getElem?_append] at hv
        split at hv
        · rename_i hi
          obtain ⟨cv, g1, g2⟩ := t2.get hv
          refine ⟨cv, ?_, g2⟩
          have hlt : i < vs.length := by omega
          rw [Array.getElem?_append_left (by simpa using hlt)]
          simpa using g1
        · rename_i hi
          rw [List.getElem?_replicate] at hv
          split at hv
          · rename_i hi2
            cases hv
            exact ⟨_, Array.getElem?_eq_getElem (by rw [hsz]; omega), trivial⟩
          · cases hv
      let e : En := ⟨w, (· ∈ O), (· ∈ H), N, ptrs ws vs⟩
      have hF : Fr e { tm := ds ++ List.replicate (fn.ntmps - ws.length) .x, ob := ob, nx := 24 * ws.length, io := ptrs ws ds } w C1 L1 := by
        refine ⟨ptrs_vs ws t2, fun x hx => t1.le.N x hx, fun x _ _ => rfl, fun k x hx hn => ?_, fun k x hx => ?_, fun x hx => ?_, Nat.le_refl _⟩
        · rcases t1.hd k x hx hn with h | h
          · cases h
          · exact .inl h
        · rcases t1.ow k x hx with h | h
          · cases h
          · exact .inl h
        · rw [t1.N] at hx; exact .inl hx
      refine wp_mono (run_ok (e := e) (len := fn.ntmps) hm hT hI hΓ c hpl hlo hev ⟨C1, L1, hR, hF, fun k hk => ?_⟩ (by simp; omega)) (fun ex a' w' hpost => ?_)
      · rcases t1.U k hk with h | h
        · exact h.elim
        · exact .inl (by simp at h ⊢; omega)
      obtain ⟨x, σ', hx, hK, ⟨C2, L2, p1, p2, _⟩, _⟩ := hpost
      have key : (match finish Γ fn σ' with
            | some q => bif !fresh || (frshRet q.1 && q.2.all V.frsh) then K q else none
            | none => none) = some r → a'.defers = [] ∧ ∃ v, (results fn a'.tmps).run P w' = .ok v w' ∧ ∃ q, K q = some r ∧ Back B0 w0 w N O (ptrs ws vs) fresh q v w' := by
        intro hK
        refine ⟨p1.defers, ?_⟩
        split at hK
        · rename_i q hq
          unfold finish at hq
          split at hq
          · cases hq
          · rename_i ds2 ob2 eo
            split at hq
            · cases hq
            · rename_i es ob3 eh
              cases hq
              obtain ⟨cvs, O1, M1, H1, C3, L3, r1, r2, r3⟩ := outs_ok hT p1 fn.results.toList fn.resultTypes.toList p1 (Cx.Le.refl C2 w') eo
              obtain ⟨O2, M2, H2, C4, L4, s1, s2⟩ := handBs_ok σ'.io r3.rel (p2.io.le r3.le) eh
              have hg := r3.trans s2
              have hb : ArgsR w' es (ptrs ws vs) O2 M2 H2 := s1
              · skip
                have hret := ret_of r2
                have base : ∀ M1' M2' : List Nat, (∀ x ∈ M1', x ∈ M1) → (∀ x ∈ M2', x ∈ M2) → RetR w' (oneOf ds2) (retOf cvs) O1 M1' H1 → ArgsR w' es (ptrs ws vs) O2 M2' H2 → (fresh = true → ∀ x ∈ M1' ++ M2', x ∈ O1 ++ O2) →
                    Back B0 w0 w N O (ptrs ws vs) fresh (oneOf ds2, es) (retOf cvs) w' := by
                  intro M1' M2' hM1 hM2 b1 b2 b3
                  have hMN : ∀ x ∈ M1' ++ M2', C4.N x := fun x hx => hg.hM x (by
                    rcases List.mem_append.1 hx with hx | hx
                    · simp [hM1 x hx]
                    · simp [hM2 x hx])
                  have how : ∀ k x, x ∈ L2 k → x ∈ O ∨ w.heap.size ≤ x := fun k x hx => p2.ow k x hx
                  refine ⟨⟨O1, M1', H1, O2, M2', H2, b1, b2, hg.nd, fun x hx => ?_, fun x hx => ?_, fun x hx => ?_⟩, p1.below, p2.sz, fun x hx hxO => p2.fr x hx (fun hxH => ?_)⟩
                  · obtain ⟨k, hk⟩ := hg.from_ x hx
                    exact ⟨how k x hk, (p1.own k x hk).2⟩
                  · refine ⟨?_, hg.rel.nsz x (hMN x hx), fun hfr => b3 hfr x hx⟩
                    rcases hg.nn x (hMN x hx) with h1 | ⟨j, h1⟩
                    · exact p2.nn x h1
                    · exact .inr (how j x h1)
                  · obtain ⟨_, h2⟩ := hg.hH x hx
                    exact ⟨fun hm' => h2 (hMN x hm'), fun hn => h2 (hg.le.N x (p2.nm x hn))⟩
                  · have hxH' : x ∈ H := hxH
                    rcases hxO with h1 | h1
                    · exact h1 (hA.hsub x hxH')
                    · exact hH x hxH' h1
                refine ⟨_, results_eq fn a'.tmps r1, (oneOf ds2, es), ?_, ?_⟩
                · cases hfc : (!fresh || (frshRet (oneOf ds2) && es.all V.frsh)) with
                  | false => rw [hfc] at hK; cases hK
                  | true => rw [hfc] at hK; exact hK
                · cases hfr : fresh with
                  | false => rw [← hfr]; exact base M1 M2 (fun _ h => h) (fun _ h => h) hret hb (fun h => by rw [hfr] at h; cases h)
                  | true =>
                    cases hfc : (!fresh || (frshRet (oneOf ds2) && es.all V.frsh)) with
                    | false => rw [hfc] at hK; cases hK
                    | true =>
                      rw [hfr] at hfc
                      simp only [Bool.not_true, Bool.false_or, Bool.and_eq_true] at hfc
                      obtain ⟨M1', g1, g2⟩ := Ret.fresh hret hfc.1
                      obtain ⟨M2', g3, g4⟩ := Args.fresh hb hfc.2
                      rw [← hfr]
                      exact base M1' M2' (fun x hx => (g2 x hx).1) (fun x hx => (g4 x hx).1) g1 g3 (fun _ x hx => by
                        rcases List.mem_append.1 hx with hx | hx
                        · exact List.mem_append.2 (.inl (g2 x hx).2)
                        · exact List.mem_append.2 (.inr (g4 x hx).2))
        · cases hK
      cases x with
      | nrm =>
        cases ex <;> first | exact hx.elim | skip
        exact key hK
      | ext i => cases hK
      | ret =>
        cases ex <;> first | exact hx.elim | skip
        exact key hK
end

/-- A table of contracts. -/
def tab : List (Nat × Bool × Sm) → Nat → Option (Bool × Sm)
  | [], _ => none
  | (k, b, G) :: l, g => bif Nat.beq g k then some (b, G) else tab l g
theorem tab_ok {P : Program} {I : Nat → World → Prop} : ∀ {l : List (Nat × Bool × Sm)}, (∀ p ∈ l, OkFn P I p.1 p.2.1 p.2.2) → ∀ g fresh G, tab l g = some (fresh, G) → OkFn P I g fresh G
  | [], _, g, fresh, G, h => by simp [tab] at h
  | (k, b, G') :: l, hl, g, fresh, G, h => by
    simp only [tab] at h
    cases e : Nat.beq g k with
    | true =>
      rw [e] at h
      cases h
      rw [Nat.eq_of_beq_eq_true e]
      exact hl (k, b, G') (by simp)
    | false =>
      rw [e] at h
      exact tab_ok (fun p hp => hl p (by simp [hp])) g fresh G h
end Go.Ev
