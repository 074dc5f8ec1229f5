/- What comes in at the top: data in memory, as the evaluator has them. -/
import Derived.Test.YtfgnddgckhpbiaaEvFn
import GoSem.ClaimChange
set_option linter.unusedVariables false
namespace Go.Ev
open Go.RowKit

def Rw.list : Rw → List Cc
  | .one c => [c]
  | .cons c r => c :: r.list
mutual
inductive CcOk (P : Program) : Cc → TypeId → Prop
  | int {k : IntKind} {t : TypeId} : P.underlying t = some (.int k) → CcOk P (.int k) t
  | bool {t : TypeId} : P.underlying t = some .bool → CcOk P .bool t
  | str {t : TypeId} : P.underlying t = some .string → CcOk P .str t
  | sl {r : Rw} {t e : TypeId} : P.underlying t = some (.slice e) → P.cellsOf e = r.n → LayOk P r.list e → CcOk P (.sl r) t
/-- How the cells of a type lie. -/
inductive LayOk (P : Program) : List Cc → TypeId → Prop
  | one {c : Cc} {t : TypeId} : CcOk P c t → LayOk P [c] t
  | st {cs : List Cc} {t : TypeId} {fs : Array Field} : P.underlying t = some (.struct fs) → LayFs P cs 0 fs.toList → LayOk P cs t
inductive LayFs (P : Program) : List Cc → Nat → List Field → Prop
  | nil {i : Nat} : LayFs P [] i []
  | cons {cs ds : List Cc} {i : Nat} {f : Field} {rest : List Field} : f.offset = i → P.cellsOf f.type = cs.length → LayOk P cs f.type → LayFs P ds (i + cs.length) rest → LayFs P (cs ++ ds) i (f :: rest)
end
abbrev RwOk (P : Program) (r : Rw) (t : TypeId) : Prop := LayOk P r.list t
mutual
def Cc.wf : (c : Cc) → c.T → Prop
  | .int k, n => (Lit.int k n).wf = true
  | .bool, _ => True
  | .str, s => s.size ≤ maxLen
  | .sl r, xs => xs.length ≤ maxLen ∧ ∀ x ∈ xs, r.wf x
def Rw.wf : (r : Rw) → r.T → Prop
  | .one c, d => c.wf d
  | .cons c r, d => c.wf d.1 ∧ r.wf d.2
end

section
variable {P : Program} {w : World} {H : Type} {enc : TypeId × Value → H} {spare : Nat → Bool}

def InC (P : Program) (w : World) (c : Cc) (cs : List Value) : Prop := ∃ v x F, cs = [v] ∧ CcR w true c x v F ∧ c.wf x ∧ ∀ b ∈ F, b < w.heap.size
def InR (P : Program) (w : World) (r : Rw) (cs : List Value) : Prop := ∃ x F, RwR w true r x cs F ∧ r.wf x ∧ ∀ b ∈ F, b < w.heap.size

theorem mapM_get {α β : Type} {f : α → Option β} : ∀ {l : List α} {ys : List β}, l.mapM f = some ys → ys.length = l.length ∧ ∀ (i : Nat) (a : α), l[i]? = some a → ∃ y, f a = some y
  | [], ys, h => by simp at h; subst h; exact ⟨rfl, fun i a h => by simp at h⟩
  | x :: l, ys, h => by
    rw [List.mapM_cons] at h
    cases e : f x with
    | none => simp [e] at h
    | some y =>
      cases e2 : l.mapM f with
      | none => simp [e, e2] at h
      | some zs =>
        simp [e, e2] at h
        subst h
        obtain ⟨h1, h2⟩ := mapM_get e2
        refine ⟨by simp [h1], fun i a hi => ?_⟩
        cases i with
        | zero => simp at hi; subst hi; exact ⟨y, e⟩
        | succ i => simp at hi; exact h2 i a hi

theorem rows_in {r : Rw} {b : Nat} : ∀ (n o : Nat), (∀ i, i < n → ∃ cs, cs.length = r.n ∧ (∀ j v, cs[j]? = some v → w.cell? ⟨b, o + i * r.n + j, none⟩ = some v) ∧ InR P w r cs) →
    ∃ xs F, xs.length = n ∧ RowsR (RwR w true r) w r.n b xs o F ∧ (∀ x ∈ xs, r.wf x) ∧ ∀ b ∈ F, b < w.heap.size
  | 0, o, _ => ⟨[], [], rfl, rfl, fun _ h => (nomatch h), fun _ h => (nomatch h)⟩
  | n + 1, o, h => by
    obtain ⟨cs, h1, h2, x, F1, h3, h4, h5⟩ := h 0 (by omega)
    obtain ⟨xs, F2, g1, g2, g3, g4⟩ := rows_in n (o + r.n) (fun i hi => by
      obtain ⟨cs, k1, k2, k3⟩ := h (i + 1) (by omega)
      refine ⟨cs, k1, fun j v hj => ?_, k3⟩
      rw [show o + r.n + i * r.n + j = o + (i + 1) * r.n + j by rw [Nat.add_mul]; omega]
      exact k2 j v hj)
    refine ⟨x :: xs, F1 ++ F2, by simp [g1], ⟨cs, F1, F2, rfl, h1, fun j v hj => by simpa using h2 j v hj, h3, g2⟩, fun y hy => ?_, fun y hy => ?_⟩
    · rcases List.mem_cons.1 hy with rfl | hy
      · exact h4
      · exact g3 y hy
    · rcases List.mem_append.1 hy with hy | hy
      · exact h5 y hy
      · exact g4 y hy

theorem cells_in {base : Nat} {a : Addr} {n : Nat} {cs : List Value} (h : w.cells? base a n = some cs) (hn : n ≠ 0) : a.spot = none ∧ cs.length = n ∧ ∀ j v, cs[j]? = some v → w.cell? ⟨a.block, a.off + j, none⟩ = some v := by
  unfold World.cells? at h
  split at h
  · have key : ∀ (m s : Nat) (ys : List Value), ((List.range' s m).mapM fun i => w.cell? (a.add i)) = some ys → ys.length = m ∧ ∀ j v, ys[j]? = some v → w.cell? (a.add (s + j)) = some v := by
      intro m
      induction m with
      | zero => intro s ys h; simp at h; subst h; exact ⟨rfl, fun j v h => by simp at h⟩
      | succ m ih =>
        intro s ys h
        rw [List.range'_succ, List.mapM_cons] at h
        cases e : w.cell? (a.add s) with
        | none => simp [e] at h
        | some y =>
          cases e2 : (List.range' (s + 1) m).mapM (fun i => w.cell? (a.add i)) with
          | none => simp [e, e2] at h
          | some zs =>
            simp [e, e2] at h
            subst h
            obtain ⟨h1, h2⟩ := ih (s + 1) zs e2
            refine ⟨by simp [h1], fun j v hj => ?_⟩
            cases j with
            | zero => simp at hj; subst hj; exact e
            | succ j =>
              simp at hj
              have := h2 j v hj
              rwa [show s + 1 + j = s + (j + 1) by omega] at this
    rw [List.range_eq_range'] at h
    obtain ⟨h1, h2⟩ := key n 0 cs h
    have hs : a.spot = none := by
      cases n with
      | zero => exact absurd rfl hn
      | succ n =>
        cases cs with
        | nil => simp at h1
        | cons y ys =>
          have := h2 0 y rfl
          simp only [World.cell?, Nat.add_zero] at this
          split at this
          · split at this
            · cases this
            · rename_i hsp
              have h0 : (a.add 0).spot = a.spot := by unfold Addr.add; rw [if_pos rfl]
              rw [h0] at hsp
              simpa using hsp
          · cases this
    refine ⟨hs, h1, fun j v hj => ?_⟩
    have := h2 j v hj
    obtain ⟨blk, off, spot⟩ := a
    simp only at hs
    subst hs
    rwa [add_at, Nat.zero_add] at this
  · cases h

theorem Rw.n_ne (r : Rw) : r.n ≠ 0 := by cases r <;> simp [Rw.n]

theorem one_cell {c : Cc} {cs : List Value} (h : InC P w c cs) : InR P w (.one c) cs := by
  obtain ⟨v, x, F, h1, h2, h3, h4⟩ := h
  exact ⟨x, F, ⟨v, h1, h2⟩, h3, h4⟩
def InL (P : Program) (w : World) : List Cc → List Value → Prop
  | [], vs => vs = []
  | c :: cs, vs => ∃ v vs', vs = v :: vs' ∧ InC P w c [v] ∧ InL P w cs vs'
theorem InL.append : ∀ {cs ds : List Cc} {us vs : List Value}, InL P w cs us → InL P w ds vs → InL P w (cs ++ ds) (us ++ vs)
  | [], ds, us, vs, h, g => by
    have : us = [] := h
    subst this; exact g
  | c :: cs, ds, us, vs, ⟨v, vs', h1, h2, h3⟩, g => by
    subst h1
    exact ⟨v, vs' ++ vs, rfl, h2, InL.append h3 g⟩
theorem InL.row : ∀ (r : Rw) {vs : List Value}, InL P w r.list vs → InR P w r vs
  | .one c, vs, ⟨v, vs', h1, h2, h3⟩ => by
    have : vs' = [] := h3
    subst this; subst h1
    exact one_cell h2
  | .cons c r, vs, ⟨v, vs', h1, h2, h3⟩ => by
    subst h1
    obtain ⟨v', x, F, g1, g2, g3, g4⟩ := h2
    cases g1
    obtain ⟨y, F2, g5, g6, g7⟩ := InL.row r h3
    refine ⟨(x, y), F ++ F2, ⟨v, vs', F, F2, rfl, rfl, g2, g5⟩, ⟨g3, g6⟩, fun b hb => ?_⟩
    rcases List.mem_append.1 hb with hb | hb
    · exact g4 b hb
    · exact g7 b hb
theorem Rw.list_len : (r : Rw) → r.list.length = r.n
  | .one c => rfl
  | .cons c r => by simp [Rw.list, Rw.n, Rw.list_len r]
theorem fs_in {vs : List Value} {good : TypeId → List Value → Prop} (hg : ∀ cs t us, good t us → LayOk P cs t → P.cellsOf t = cs.length → us.length = cs.length → InL P w cs us) : ∀ (fs : List Field) {cs : List Cc} {i : Nat}, LayFs P cs i fs → (∀ f ∈ fs, good f.type ((vs.drop f.offset).take (P.cellsOf f.type))) → vs.length = i + cs.length → InL P w cs (vs.drop i)
  | [], _, i, h, hy, hl => by
    cases h
    exact List.drop_eq_nil_of_le (by simp at hl; omega)
  | f :: rest, _, i, h, hy, hl => by
    cases h with
    | cons h1 h2 h3 h4 =>
      rename_i cs ds
      simp only [List.length_append] at hl
      have hf := hy f (by simp)
      rw [h1, h2] at hf
      have a1 := hg cs _ _ hf h3 h2 (by simp; omega)
      have a2 := fs_in hg rest h4 (fun g hg' => hy g (by simp [hg'])) (by omega)
      have := InL.append a1 a2
      rwa [← List.drop_drop, List.take_append_drop] at this

theorem trod_in {base : Nat} {held : Bool} : ∀ (fuel : Nat) {t : TypeId} {cs : List Value} {d : DataW H} {ps : List MemPlace}, DataW.trod enc P w base spare held fuel t cs = some (d, ps) → (∀ c, CcOk P c t → InC P w c cs) ∧ ∀ ks, LayOk P ks t → P.cellsOf t = ks.length → cs.length = ks.length → InL P w ks cs
  | 0, t, cs, d, ps, h => by simp [DataW.trod] at h
  | fuel + 1, t, cs, d, ps, h => by
    have cell : ∀ c, CcOk P c t → InC P w c cs := by
      intro c hc
      cases c with
      | int k =>
        cases hc with | int hc =>
        simp only [DataW.trod, hc] at h
        split at h <;> simp_all
        rename_i k' n _
        exact ⟨_, n, [], rfl, ⟨rfl, rfl⟩, by simp [Cc.wf]; exact h.1.2, fun _ h => (nomatch h)⟩
      | bool =>
        cases hc with | bool hc =>
        simp only [DataW.trod, hc] at h
        split at h <;> simp_all
        exact ⟨_, _, [], rfl, ⟨rfl, rfl⟩, trivial, fun _ h => (nomatch h)⟩
      | str =>
        cases hc with | str hc =>
        simp only [DataW.trod, hc] at h
        split at h <;> simp_all
        exact ⟨_, _, [], rfl, ⟨rfl, rfl⟩, h.1, fun _ h => (nomatch h)⟩
      | sl r =>
        cases hc with | sl hu hn hr =>
        rename_i e
        simp only [DataW.trod, hu] at h
        have hnil : cs = [.slice none 0 0] → InC P w (.sl r) cs := fun hcs => ⟨_, [], [], hcs, .inl ⟨rfl, rfl, none, 0, rfl, fun h => (nomatch h)⟩, ⟨Nat.zero_le _, fun _ h => (nomatch h)⟩, fun _ h => (nomatch h)⟩
        have hsome : ∀ (ad : Addr) (len cap : Nat), cs = [.slice (some ad) len cap] → len ≤ cap → cap ≤ maxLen → (∃ ys, (List.range len).mapM (fun i => (w.cells? base (ad.add (i * P.cellsOf e)) (P.cellsOf e)).bind (DataW.trod enc P w base spare held fuel e)) = some ys) → InC P w (.sl r) cs := by
          intro ad len cap hcs h1 h2 ⟨ys, h3⟩
          rw [hn] at h3
          have hel : ∀ i, i < len → ∃ us d' ps', w.cells? base (ad.add (i * r.n)) r.n = some us ∧ DataW.trod enc P w base spare held fuel e us = some (d', ps') := by
            intro i hi
            obtain ⟨y, hy⟩ := (mapM_get h3).2 i i (by simp [hi])
            obtain ⟨us, h4, h5⟩ := Option.bind_eq_some_iff.1 hy
            exact ⟨us, y.1, y.2, h4, h5⟩
          by_cases hz : len = 0
          · subst hz
            exact ⟨_, [], [], hcs, .inl ⟨rfl, rfl, some ad, cap, rfl, fun h => (nomatch h)⟩, ⟨Nat.zero_le _, fun _ h => (nomatch h)⟩, fun _ h => (nomatch h)⟩
          · obtain ⟨us0, _, _, g1, _⟩ := hel 0 (by omega)
            obtain ⟨g2, g3, g4⟩ := cells_in g1 r.n_ne
            have h00 : ad.add (0 * r.n) = ad := by rw [Nat.zero_mul]; unfold Addr.add; rw [if_pos rfl]
            rw [h00] at g2 g4
            obtain ⟨blk, off, spot⟩ := ad
            simp only at g2 g4
            subst g2
            obtain ⟨xs, F, k1, k2, k3, k4⟩ := rows_in (P := P) (w := w) (r := r) (b := blk) len off (fun i hi => by
              obtain ⟨us, d', ps', q1, q2⟩ := hel i hi
              obtain ⟨_, q3, q4⟩ := cells_in q1 r.n_ne
              refine ⟨us, q3, fun j v hj => ?_, InL.row r ((trod_in fuel q2).2 r.list hr (hn.trans r.list_len.symm) (q3.trans r.list_len.symm))⟩
              have := q4 j v hj
              rwa [add_at] at this)
            have hb : blk < w.heap.size := by
              have hne : us0 ≠ [] := fun e => by rw [e] at g3; exact r.n_ne g3.symm
              obtain ⟨u, us', rfl⟩ := List.exists_cons_of_ne_nil hne
              have := g4 0 u rfl
              simp only [World.cell?] at this
              split at this
              · rename_i hh
                exact (Array.getElem?_eq_some_iff.1 hh).1
              · cases this
            refine ⟨_, xs, blk :: F, hcs, .inr ⟨blk, off, cap, F, by rw [k1], by omega, rfl, hb, fun h => (nomatch h), k2⟩, ⟨by omega, k3⟩, fun b hb' => ?_⟩
            rcases List.mem_cons.1 hb' with rfl | hb'
            · exact hb
            · exact k4 b hb'
        split at h
        all_goals first
          | (exfalso; simp_all; done)
          | skip
        · exact hnil rfl
        · rename_i e' ad len cap heq
          cases heq
          split at h
          · rename_i hb
            refine hsome ad len cap rfl hb.2.1 hb.2.2 ?_
            obtain ⟨ys, h4, _⟩ := Option.bind_eq_some_iff.1 h
            exact ⟨ys, h4⟩
          · cases h
    refine ⟨cell, fun ks hr hn hl => ?_⟩
    cases hr with
    | one hc =>
      obtain ⟨v, x, F, h0, h1⟩ := cell _ hc
      exact ⟨v, [], h0, ⟨v, x, F, rfl, h1⟩, rfl⟩
    | st hu hfs =>
      rename_i fs
      have hd : (if cs.length = P.cellsOf t then (fs.toList.mapM fun f => DataW.trod enc P w base spare held fuel f.type ((cs.drop f.offset).take (P.cellsOf f.type))).map fun xs => ((.agg (xs.map (·.1)), xs.flatMap (·.2)) : DataW H × List MemPlace) else none) = some (d, ps) := by
        simpa only [DataW.trod, hu] using h
      rw [if_pos (by rw [hl, hn])] at hd
      cases em : (fs.toList.mapM fun f => DataW.trod enc P w base spare held fuel f.type ((cs.drop f.offset).take (P.cellsOf f.type))) with
      | none => rw [em] at hd; cases hd
      | some ys =>
        have hy : ∀ g ∈ fs.toList, ∃ y, DataW.trod enc P w base spare held fuel g.type ((cs.drop g.offset).take (P.cellsOf g.type)) = some y := by
          intro g hg
          obtain ⟨i, hi⟩ := List.getElem?_of_mem hg
          exact (mapM_get em).2 i g hi
        have := fs_in (vs := cs) (good := fun t us => ∃ y, DataW.trod enc P w base spare held fuel t us = some y) (fun ks' t us hgd hk h1 h2 => by
          obtain ⟨⟨d', ps'⟩, hy⟩ := hgd
          exact (trod_in fuel hy).2 ks' hk h1 h2) fs.toList hfs hy (by omega)
        simpa using this

/-! ### Arguments at the top -/
def V.bare : V → Bool
  | .l .no _ _ => true
  | .l _ _ _ => false
  | _ => true
theorem cells_bare : (r : Rw) → (d : r.T) → ∀ c ∈ r.cells .no d, c.bare = true
  | .one c, d, u, hu => by
    simp only [Rw.cells, List.mem_singleton] at hu
    subst hu
    cases c <;> rfl
  | .cons c r, d, u, hu => by
    simp only [Rw.cells] at hu
    rcases List.mem_cons.1 hu with rfl | hu
    · cases c <;> rfl
    · exact cells_bare r d.2 u hu
theorem cells_of_vs {M : List Nat} : ∀ {cs : List V} {vs : List Value}, VsR (Cx.ext (· ∈ M)) w cs vs → (∀ c ∈ cs, c.bare = true) → ∃ M', CellsR w cs vs [] M' [] ∧ ∀ x ∈ M', x ∈ M
  | [], vs, h, _ => ⟨[], ⟨h, rfl, rfl, rfl⟩, fun _ h => (nomatch h)⟩
  | c :: cs, _, ⟨v, vs', h1, h2, h3⟩, hb => by
    subst h1
    obtain ⟨M2, g1, g2⟩ := cells_of_vs h3 (fun c hc => hb c (by simp [hc]))
    have hc := hb c (by simp)
    refine ⟨M ++ M2, ⟨v, vs', [], [], M, M2, [], [], rfl, rfl, rfl, rfl, CellR.plain h2 (fun r xs e => ?_) (fun r xs e => ?_) (fun r xs e => ?_), g1⟩, fun x hx => ?_⟩
    · subst e; simp [V.bare] at hc
    · subst e; simp [V.bare] at hc
    · subst e; simp [V.bare] at hc
    · rcases List.mem_append.1 hx with hx | hx
      · exact hx
      · exact g2 x hx
/-- A struct that comes in. -/
theorem arg_st {r : Rw} {cs : List Value} (h : InR P w r cs) : ∃ x M, ArgR w (.a (r.cells .no x)) (.agg ⟨cs⟩) [] M [] ∧ r.wf x ∧ ∀ b ∈ M, b < w.heap.size := by
  obtain ⟨x, F, h1, h2, h3⟩ := h
  obtain ⟨M, g1, g2⟩ := cells_of_vs (RwR.vs (C := Cx.ext (· ∈ F)) r h1 (fun _ h => h)) (cells_bare r x)
  exact ⟨x, M, ⟨cs, rfl, g1⟩, h2, fun b hb => h3 b (g2 b hb)⟩
/-- A value of one cell that comes in. -/
theorem arg_one {c : Cc} {v : Value} (h : InC P w c [v]) : ∃ x M, ArgR w (c.cell .no x) v [] M [] ∧ c.wf x ∧ ∀ b ∈ M, b < w.heap.size := by
  obtain ⟨v', x, F, h0, h1, h2, h3⟩ := h
  cases h0
  have hv := CcR.vr (C := Cx.ext (· ∈ F)) c h1 (fun _ h => h)
  refine ⟨x, F, ?_, h2, h3⟩
  cases c <;> exact CellR.plain hv (by simp [Cc.cell]) (by simp [Cc.cell]) (by simp [Cc.cell])
theorem args_nil : ArgsR w [] [] [] [] [] := ⟨rfl, rfl, rfl, rfl⟩
theorem args_cons {u : V} {us : List V} {v : Value} {vs : List Value} {M1 M2 : List Nat} (h1 : ArgR w u v [] M1 []) (h2 : ArgsR w us vs [] M2 []) : ArgsR w (u :: us) (v :: vs) [] (M1 ++ M2) [] :=
  ⟨v, vs, [], [], M1, M2, [], [], rfl, rfl, rfl, rfl, h1, h2⟩

/-- A law that answers true. -/
theorem law_true {I : Nat → World → Prop} {g : FuncId} {fresh : Bool} {G : Sm} (hok : OkFn P I g fresh G) (hI : I w.heap.size w) {ws : List V} {vs : List Value} {M : List Nat} (hA : ArgsR w ws vs [] M []) (hM : ∀ b ∈ M, b < w.heap.size)
    (hG : ∃ css, ∀ K, G ws K = K (.s (.bool true), css)) : Calls P g ⟨vs⟩ w fun e w' => e = .returned (.bool true) ∧ Below w.heap.size w w' := by
  obtain ⟨css, hG⟩ := hG
  have := hok.2 ws (fun q => some q) (.s (.bool true), css) (hG _) w.heap.size w w (fun x => x < w.heap.size) vs [] M [] hI (Below.refl _ _) (Nat.le_refl _) hA List.nodup_nil (fun _ h => (nomatch h)) hM (fun _ h => (nomatch h)) (fun _ h => h)
  refine Calls.mono this (fun e w' he => ?_)
  cases e with
  | returned c =>
    obtain ⟨q, hq, hb⟩ := he
    cases hq
    obtain ⟨O1, M1, H1, O2, M2, H2, h1, _⟩ := hb.ex
    have hc : c = .bool true := h1.1.1
    exact ⟨by rw [hc], hb.below⟩
  | _ => exact he.elim
/-- A weaker summary of a function that keeps its contract. -/
theorem OkFn.weak {I : Nat → World → Prop} {g : FuncId} {fresh : Bool} {G : Sm} (h : ∀ ws K r, G ws K = some r → ∃ G', OkFn P I g fresh G' ∧ G' ws K = some r) (hent : ∀ (args : Array Value) (w : World), (callFunc g args).run P w = .ok (.enter g args) w) : OkFn P I g fresh G :=
  ⟨hent, fun ws K r hr => by
    obtain ⟨G', h1, h2⟩ := h ws K r hr
    exact h1.2 ws K r h2⟩
end
end Go.Ev
