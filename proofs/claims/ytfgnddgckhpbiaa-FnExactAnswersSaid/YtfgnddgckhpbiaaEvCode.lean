/- Code: the machine does what the evaluator says. -/
import Derived.Test.YtfgnddgckhpbiaaEvDraw
set_option linter.unusedVariables false
namespace Go.Ev
open Go.RowKit

/-! ### Numbers given anew -/
theorem reach_nodup (ob : Obs) : ∀ (n : Nat) (acc ks : List Nat), acc.Nodup → (reach ob n acc ks).Nodup
  | 0, acc, ks, h => by cases ks <;> simpa [reach] using h
  | n + 1, acc, [], h => by simpa [reach] using h
  | n + 1, acc, k :: ks, h => by
    simp only [reach]
    split
    · exact reach_nodup ob n acc ks h
    · rename_i hk
      refine reach_nodup ob n _ _ ?_
      rw [List.nodup_append]
      refine ⟨h, by simp, fun x hx y hy e => ?_⟩
      simp at hy
      subst hy; subst e
      exact hk (by simpa using hx)

theorem zip_get (g : Nat → E) : ∀ (m : List Nat) (n i : Nat), Obs.get ((m.zipIdx n).map (fun p => (p.2, g p.1))) i = if n ≤ i then (match m[i - n]? with | some k => g k | none => .no) else .no
  | [], n, i => by simp [Obs.get]
  | k :: m, n, i => by
    simp only [List.zipIdx_cons, List.map_cons, Obs.get]
    by_cases h : n = i
    · subst h; simp [Nat.beq_refl]
    · have hb : n.beq i = false := by rw [Bool.eq_false_iff]; intro h'; exact h (Nat.eq_of_beq_eq_true h')
      rw [hb, zip_get g m (n + 1) i]
      simp only [cond_false]
      by_cases h1 : n + 1 ≤ i
      · rw [if_pos h1, if_pos (by omega), show i - n = (i - (n + 1)) + 1 by omega]
        simp
      · rw [if_neg h1, if_neg (by omega)]

theorem renL_map (m : List Nat) : ∀ (vs : List V), renL m vs = vs.map (V.ren m)
  | [] => rfl
  | v :: vs => by simp [renL, renL_map m vs]
theorem keep_len (live : List Nat) : ∀ (i : Nat) (vs : List V), (keep live i vs).length = vs.length
  | _, [] => rfl
  | i, v :: vs => by simp [keep, keep_len live (i + 1) vs]
theorem keep_get (live : List Nat) : ∀ (i : Nat) (vs : List V) (j : Nat) (v : V), (keep live i vs)[j]? = some v → v = .x ∨ vs[j]? = some v
  | _, [], j, v, h => by simp [keep] at h
  | i, u :: vs, 0, v, h => by
    simp [keep] at h
    split at h
    · exact .inr (by simp [h])
    · exact .inl h.symm
  | i, u :: vs, j + 1, v, h => by
    simp [keep] at h
    simpa using keep_get live (i + 1) vs j v h

theorem idx_get {m : List Nat} {k : Nat} (h : k ∈ m) : m[m.idxOf k]? = some k := by
  have hlt := List.idxOf_lt_length_of_mem h
  rw [List.getElem?_eq_getElem hlt]
  congr 1
  exact List.getElem_idxOf hlt
def Cx.ren (C : Cx) (m : List Nat) : Cx := { φ := fun i => match m[i]? with | some k => C.φ k | none => none, U := fun i => i < m.length, N := C.N, hs := fun i => match m[i]? with | some k => C.hs k | none => none }
mutual
theorem VR.ren {C : Cx} {w : World} (m : List Nat) : (u : V) → {c : Value} → VR C w u c → VR (C.ren m) w (u.ren m) c
  | .s _, _, h => h
  | .a cs, _, ⟨vs, h1, h2⟩ => ⟨vs, h1, VsR.ren m cs h2⟩
  | .t cs, _, ⟨vs, h1, h2⟩ => ⟨vs, h1, VsR.ren m cs h2⟩
  | .nl, _, h => h
  | .l _ r xs, _, h => h
  | .w k, c, h => by
    simp only [V.ren]
    split
    · rename_i hk
      have hk' : k ∈ m := by simpa using hk
      exact ⟨List.idxOf_lt_length_of_mem hk', h.2.1, fun cv n hφ => h.2.2 cv n (by simpa [Cx.ren, idx_get hk'] using hφ)⟩
    · trivial
  | .r k off len, c, h => by
    simp only [V.ren]
    split
    · rename_i hk
      have hk' : k ∈ m := by simpa using hk
      exact ⟨List.idxOf_lt_length_of_mem hk', h.2.1, fun cv n hφ => h.2.2 cv n (by simpa [Cx.ren, idx_get hk'] using hφ)⟩
    · trivial
  | .pb k j, c, h => by
    simp only [V.ren]
    split
    · rename_i hk
      have hk' : k ∈ m := by simpa using hk
      exact ⟨List.idxOf_lt_length_of_mem hk', h.2.1, fun b hφ => h.2.2 b (by simpa [Cx.ren, idx_get hk'] using hφ)⟩
    · trivial
  | .pa k i j, c, h => by
    simp only [V.ren]
    split
    · rename_i hk
      have hk' : k ∈ m := by simpa using hk
      exact ⟨List.idxOf_lt_length_of_mem hk', h.2.1, fun cv n hφ => h.2.2 cv n (by simpa [Cx.ren, idx_get hk'] using hφ)⟩
    · trivial
  | .sb k i j, c, h => by
    simp only [V.ren]
    split
    · rename_i hk
      have hk' : k ∈ m := by simpa using hk
      exact ⟨List.idxOf_lt_length_of_mem hk', h.2.1, fun f hf => h.2.2 f (by simpa [Cx.ren, idx_get hk'] using hf)⟩
    · trivial
  | .qb cs j, _, ⟨b, vs, ty, h1, h2, h3, h4⟩ => ⟨b, vs, ty, h1, h2, h3, VsR.ren m cs h4⟩
  | .q r d j, _, h => h
  | .f g caps, _, ⟨vs, h1, h2⟩ => ⟨vs, h1, VsR.ren m caps h2⟩
  | .io _, _, h => h.elim
  | .x, _, _ => trivial
theorem VsR.ren {C : Cx} {w : World} (m : List Nat) : (us : List V) → {vs : List Value} → VsR C w us vs → VsR (C.ren m) w (renL m us) vs
  | [], _, h => h
  | u :: us, _, ⟨v, vs', h1, h2, h3⟩ => ⟨v, vs', h1, VR.ren m u h2, VsR.ren m us h3⟩
end

section
variable {P : Program} {Γ : Env} {I : Nat → World → Prop} {B0 : Nat} {w0 : World} {σ : St} {a : Act} {w : World}

theorem canon_ok {e : En} {b : Nat} {done : List Nat} (live : List Nat) (h : AtR B0 w0 e b done σ a w) : AtR B0 w0 e (canon live σ).nx [] (canon live σ) a w ∧ (canon live σ).tm.length = σ.tm.length := by
  obtain ⟨C, L, h1, h2, h3⟩ := h
  obtain ⟨m, hm⟩ : ∃ m, m = reach σ.ob 1000 [] (refsL (keep live 0 σ.tm) ++ refsL σ.io) := ⟨_, rfl⟩
  have hnd : m.Nodup := by rw [hm]; exact reach_nodup _ _ _ _ List.nodup_nil
  have hc : canon live σ = { tm := renL m (keep live 0 σ.tm), ob := m.zipIdx.map (fun p => (p.2, (σ.ob.get p.1).ren m)), nx := m.length, io := renL m σ.io } := by
    rw [hm]; rfl
  have hlen : (renL m (keep live 0 σ.tm)).length = σ.tm.length := by rw [renL_map, List.length_map, keep_len]
  rw [hc]
  have hob : ∀ i, St.obj { tm := renL m (keep live 0 σ.tm), ob := m.zipIdx.map (fun p => (p.2, (σ.ob.get p.1).ren m)), nx := m.length, io := renL m σ.io } i = match m[i]? with | some k => (σ.obj k).ren m | none => .no := by
    intro i
    have := zip_get (fun k => (σ.ob.get k).ren m) m 0 i
    simpa [St.obj] using this
  refine ⟨⟨C.ren m, fun i => match m[i]? with | some k => L k | none => [], ?_, ⟨VsR.ren m _ h2.io, h2.nm, h2.fr, fun i x hx hn => ?_, fun i x hx => ?_, h2.nn, h2.sz⟩, fun k hk => .inl hk⟩, hlen⟩
  · refine { below := h1.below, hB0 := h1.hB0, defers := h1.defers, len := by rw [hlen]; exact h1.len, tm := fun i v hv => ?_, ob := fun i => ?_, us := fun i hi => ?_, nd := fun i => ?_, dj := fun i j hij x hx => ?_, own := fun i x hx => ?_, nw := fun i x hwr => ?_, nsz := h1.nsz }
    · simp only [renL_map, List.getElem?_map, Option.map_eq_some_iff] at hv
      obtain ⟨u, hu, rfl⟩ := hv
      have hlt : i < σ.tm.length := by
        have := (List.getElem?_eq_some_iff.1 hu).1
        rwa [keep_len] at this
      rcases keep_get live 0 σ.tm i u hu with rfl | hu
      · have : i < a.tmps.size := by rw [h1.len]; exact hlt
        exact ⟨a.tmps[i], Array.getElem?_eq_getElem this, trivial⟩
      · obtain ⟨c, g1, g2⟩ := h1.tm i u hu
        exact ⟨c, g1, g2.ren m⟩
    · rw [hob]
      cases hmi : m[i]? with
      | none => exact rfl
      | some k =>
        have := h1.ob k
        simp only
        cases he : σ.obj k with
        | no => rw [he] at this; exact this
        | box cs =>
          rw [he] at this
          obtain ⟨blk, vs, ty, g1, g2, g3, g4⟩ := this
          exact ⟨blk, vs, ty, by simp [Cx.ren, hmi, g1], g2, g3, VsR.ren m cs g4⟩
        | arr mu deep r xs =>
          rw [he] at this
          obtain ⟨cv, F, g1, g2⟩ := this
          exact ⟨cv, F, by simp [Cx.ren, hmi, g1], g2⟩
        | own st r xs =>
          rw [he] at this
          obtain ⟨cv, g1, g2, g3⟩ := this
          refine ⟨cv, by simp [Cx.ren, hmi, g1], g2, fun hst => ?_⟩
          obtain ⟨f, g4, g5⟩ := g3 hst
          exact ⟨f, by simp [Cx.ren, hmi, g4], g5⟩
    · show i < m.length
      rcases Nat.lt_or_ge i m.length with h | h
      · exact h
      · exact absurd (by simp [Cx.ren, List.getElem?_eq_none h]) hi
    · cases hmi : m[i]? with
      | none => simp
      | some k => simpa using h1.nd k
    · cases hmi : m[i]? with
      | none => rw [hmi] at hx; cases hx
      | some k =>
        rw [hmi] at hx
        cases hmj : m[j]? with
        | none => simp
        | some k' =>
          refine h1.dj k k' (fun e => ?_) x hx
          subst e
          have hi := (List.getElem?_eq_some_iff.1 hmi).1
          exact hij ((List.getElem?_inj hi hnd).1 (hmi.trans hmj.symm))
    · cases hmi : m[i]? with
      | none => rw [hmi] at hx; cases hx
      | some k => rw [hmi] at hx; exact h1.own k x hx
    · rw [hob] at hwr
      cases hmi : m[i]? with
      | none => rw [hmi] at hwr; exact absurd hwr.mem (by simp)
      | some k =>
        rw [hmi] at hwr
        refine h1.nw k x ?_
        simp only at hwr
        cases he : σ.obj k <;> rw [he] at hwr <;> exact hwr
  · cases hmi : m[i]? with
    | none => rw [hmi] at hx; cases hx
    | some k => rw [hmi] at hx; exact h2.hd k x hx hn
  · cases hmi : m[i]? with
    | none => rw [hmi] at hx; cases hx
    | some k => rw [hmi] at hx; exact h2.ow k x hx

/-! ### Code -/
def ExR : Exit → Ex → Prop
  | .normal, .nrm => True
  | .exit i, .ext j => i = j
  | .ret, .ret => True
  | _, _ => False
def PostC (B0 : Nat) (w0 : World) (e : En) (len : Nat) (K : Ex → St → Option Ret) (r : Ret) : Exit → Act → World → Prop := fun ex a w => ∃ x σ', ExR ex x ∧ K x σ' = some r ∧ AtR B0 w0 e σ'.nx [] σ' a w ∧ σ'.tm.length = len

theorem AtN.post {e : En} {n len : Nat} {K : St → Option Ret} {r : Ret} {b : Nat} (h : AtN B0 w0 e b (List.range n) (b + 256 * n) len K r a w) : ∃ σ', K σ' = some r ∧ AtR B0 w0 e σ'.nx [] σ' a w ∧ σ'.tm.length = len := by
  obtain ⟨σ', h1, ⟨C, L, h2, h3, h4⟩, h5, h6⟩ := h
  refine ⟨σ', h1, ⟨C, L, h2, h3, fun k hk => .inl ?_⟩, h6⟩
  rw [h5]
  rcases h4 k hk with h | ⟨j, hj, h7, h8⟩
  · omega
  · rw [List.mem_range] at hj; omega

theorem AtR.nx {e : En} {b nx : Nat} {done : List Nat} (h : AtR B0 w0 e b done σ a w) : AtR B0 w0 e b done { σ with nx := nx } a w := by
  obtain ⟨C, L, h1, h2, h3⟩ := h
  exact ⟨C, L, { below := h1.below, hB0 := h1.hB0, defers := h1.defers, len := h1.len, tm := h1.tm, ob := h1.ob, us := h1.us, nd := h1.nd, dj := h1.dj, own := h1.own, nw := h1.nw, nsz := h1.nsz }, { h2 with io := h2.io }, h3⟩

theorem rounds_ok {e : En} {len : Nat} {c : Code} {live out : List Nat} {r : Ret}
    (IH : ∀ {σ : St} {a : Act} {w : World} {K : Ex → St → Option Ret}, run Γ c σ K = some r → AtR B0 w0 e σ.nx [] σ a w → σ.tm.length = len → c.wp P (PostC B0 w0 e len K r) a w) :
    ∀ (n : Nat) {σ : St} {a : Act} {w : World} {K : Ex → St → Option Ret}, rounds (run Γ c) live out n σ K = some r → AtR B0 w0 e σ.nx [] σ a w → σ.tm.length = len → Code.rounds P c (PostC B0 w0 e len K r) n a w
  | 0, σ, a, w, K, hp, h, hl => by simp [rounds] at hp
  | n + 1, σ, a, w, K, hp, h, hl => by
    rw [rounds_succ]
    simp only [rounds] at hp
    refine wp_mono (IH hp h hl) (fun ex a' w' hpost => ?_)
    obtain ⟨x, σ', hx, hK, h1, h2⟩ := hpost
    have exit : ∀ x', ex ≠ .normal → ExR ex x' → K x' (canon out σ') = some r → Exit.then (Code.rounds P c (PostC B0 w0 e len K r) n) (PostC B0 w0 e len K r) ex a' w' := by
      intro x' hne hx' hK'
      have hq : PostC B0 w0 e len K r ex a' w' := ⟨x', canon out σ', hx', hK', (canon_ok out h1).1, (canon_ok out h1).2.trans h2⟩
      cases ex <;> first | exact absurd rfl hne | exact hq
    cases x with
    | nrm =>
      cases ex <;> first | exact hx.elim | skip
      exact rounds_ok IH n hK (canon_ok live h1).1 ((canon_ok live h1).2.trans h2)
    | ext i => exact exit (.ext i) (fun e => by subst e; exact hx.elim) hx hK
    | ret => exact exit .ret (fun e => by subst e; exact hx.elim) hx hK

theorem run_ok (hm : P.follows .mixedOrders = true) (hT : TysOk P Γ.ty) (hI : I B0 w0) (hΓ : FnsOk P I Γ) {e : En} {len : Nat} {r : Ret} : (c : Code) → plansOk Γ.plan c = true → LoopsOk Γ c → ∀ {σ : St} {a : Act} {w : World} {K : Ex → St → Option Ret}, run Γ c σ K = some r → AtR B0 w0 e σ.nx [] σ a w → σ.tm.length = len → c.wp P (PostC B0 w0 e len K r) a w
  | .skip, _, _, σ, a, w, K, hp, h, hl => wp_skip ⟨.nrm, σ, trivial, hp, h, hl⟩
  | .region id ops false, _, _, σ, a, w, K, hp, h, hl => by
    simp only [run] at hp
    refine wp_region (runOps_ok hT hI hΓ (b := σ.nx) (nx := σ.nx + 256 * ops.size) (len := len) (K := fun σ' => K .nrm σ') (all := List.range ops.size) (fun a' w' hn => ?_) (List.range ops.size) (done := []) h.nx List.nodup_range (fun _ _ h => (nomatch h)) (fun j hj => by simpa using hj) rfl hl hp)
    obtain ⟨σ', g1, g2, g3⟩ := hn.post
    exact ⟨.nrm, σ', trivial, g1, g2, g3⟩
  | .region id ops true, hpl, _, σ, a, w, K, hp, h, hl => by
    simp only [run] at hp
    split at hp
    · rename_i p ts ep
      simp only [plansOk, ep] at hpl
      refine draw_ok hm hT hI hΓ hpl (nx := σ.nx + 256 * ops.size) (K := fun σ' => K .nrm σ') h (fun a' w' hn => ?_) (fun c a w hq => ?_) hp
      · obtain ⟨σ', g1, g2, g3⟩ := hn.post
        exact ⟨.nrm, σ', trivial, g1, g2, g3.trans hl⟩
      · obtain ⟨x, _, hx, _⟩ := hq
        exact hx.elim
    · cases hp
  | .seq x y, hpl, hlo, σ, a, w, K, hp, h, hl => by
    simp only [plansOk, Bool.and_eq_true] at hpl
    simp only [run] at hp
    refine wp_seq (wp_mono (run_ok hm hT hI hΓ x hpl.1 hlo.1 hp h hl) (fun ex a' w' hpost => ?_))
    obtain ⟨z, σ', hx, hK, h1, h2⟩ := hpost
    cases z with
    | nrm =>
      cases ex <;> first | exact hx.elim | skip
      exact run_ok hm hT hI hΓ y hpl.2 hlo.2 hK h1 h2
    | ext i =>
      cases ex <;> first | exact hx.elim | skip
      exact ⟨.ext i, σ', hx, hK, h1, h2⟩
    | ret =>
      cases ex <;> first | exact hx.elim | skip
      exact ⟨.ret, σ', hx, hK, h1, h2⟩
  | .cond c x y, hpl, hlo, σ, a, w, K, hp, h, hl => by
    simp only [plansOk, Bool.and_eq_true] at hpl
    simp only [run] at hp
    split at hp
    · rename_i t ec
      obtain ⟨C, L, h1, h2, h3⟩ := h
      have hc := h1.ev c
      rw [ec] at hc
      refine wp_cond (t := t) hc.1 ?_
      cases t with
      | true => exact run_ok hm hT hI hΓ x hpl.1 hlo.1 hp ⟨C, L, h1, h2, h3⟩ hl
      | false => exact run_ok hm hT hI hΓ y hpl.2 hlo.2 hp ⟨C, L, h1, h2, h3⟩ hl
    · cases hp
  | .block id c, hpl, hlo, σ, a, w, K, hp, h, hl => by
    simp only [plansOk] at hpl
    simp only [run] at hp
    refine wp_block (wp_mono (run_ok hm hT hI hΓ c hpl hlo hp h hl) (fun ex a' w' hpost => ?_))
    obtain ⟨z, σ', hx, hK, h1, h2⟩ := hpost
    cases z with
    | nrm =>
      cases ex <;> first | exact hx.elim | skip
      exact ⟨.nrm, σ', hx, hK, h1, h2⟩
    | ext i =>
      cases ex <;> first | exact hx.elim | skip
      have hxi : _ = i := hx
      subst hxi
      simp only at hK
      simp only [Exit.inBlock]
      split at hK
      · rename_i hid
        rw [if_pos hid]
        exact ⟨.nrm, σ', trivial, hK, h1, h2⟩
      · rename_i hid
        rw [if_neg hid]
        exact ⟨.ext _, σ', rfl, hK, h1, h2⟩
    | ret =>
      cases ex <;> first | exact hx.elim | skip
      exact ⟨.ret, σ', hx, hK, h1, h2⟩
  | .loop c, hpl, hlo, σ, a, w, K, hp, h, hl => by
    simp only [plansOk] at hpl
    simp only [run] at hp
    split at hp
    · rename_i n en
      have body : ∀ m, rounds (run Γ c) (Γ.hint n).1 (Γ.hint n).2 m (canon (Γ.hint n).1 σ) K = some r → (Code.loop c).wp P (PostC B0 w0 e len K r) a w := fun m hm' =>
        wp_loop_rounds m (rounds_ok (fun hp' h' hl' => run_ok hm hT hI hΓ c hpl hlo.2 hp' h' hl') m hm' (canon_ok _ h).1 ((canon_ok _ h).2.trans hl))
      split at hp
      · rename_i F eF
        obtain ⟨m, hm'⟩ := hlo.1 n F en eF _ K r hp
        exact body m hm'
      · exact body Γ.fuel hp
    · cases hp
  | .exit id, _, _, σ, a, w, K, hp, h, hl => wp_exit ⟨.ext id, σ, rfl, hp, h, hl⟩
  | .ret, _, _, σ, a, w, K, hp, h, hl => wp_ret ⟨.ret, σ, trivial, hp, h, hl⟩
  | .goto _, _, _, σ, a, w, K, hp, h, hl => by simp [run] at hp
  | .label _, _, _, σ, a, w, K, hp, h, hl => by simp [run] at hp
  | .scope _, _, _, σ, a, w, K, hp, h, hl => by simp [run] at hp
end
end Go.Ev
