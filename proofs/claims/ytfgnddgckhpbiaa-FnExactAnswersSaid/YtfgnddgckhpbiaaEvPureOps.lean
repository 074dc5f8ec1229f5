/- Each operation that looks at no memory yields what the machine yields. -/
import Derived.Test.YtfgnddgckhpbiaaEvPure
import Derived.Laws.Slices
import Derived.Laws.Tables
import Derived.DataShut
set_option linter.unusedVariables false
namespace Go.Ev
open Go.RowKit

theorem bin_ok {P : Program} {op : BinOp} {v u x : Value} {c : Bool} (hb : bin op v u = some (c, x)) (hc : c = true) (t : TypeId) (y z : Operand) (w : World) :
    (do eqGuard op t y z v u; binOp op t v u : Sem Value).run P w = .ok x w ∧ x.oneCell' = true := by
  subst hc
  unfold bin at hb
  split at hb
  all_goals first
    | (split at hb
       · rename_i hk
         subst hk
         simp only [Option.some.injEq, Prod.mk.injEq, Bool.not_eq_true', beq_eq_false_iff_ne, ne_eq] at hb
         obtain ⟨hb1, rfl⟩ := hb
         refine ⟨?_, rfl⟩
         simp [eqGuard, binOp, Op.intArith, Op.intDiv, Op.intBits, Op.intCmp, hb1]
       · cases hb)
    | (simp only [Option.some.injEq, Prod.mk.injEq, decide_eq_true_eq] at hb
       obtain ⟨hb1, rfl⟩ := hb
       refine ⟨?_, rfl⟩
       first
        | (simp [eqGuard, binOp, Op.shift, Int.not_lt.2 hb1]; done)
        | (simp [eqGuard, binOp, Op.stringOp]; done)
        | (rename_i a b; have h9 : ¬ (((a.size + b.size : Nat) : Int) > IntKind.i64.max) := (by simp [IntKind.max, IntKind.signed, IntKind.bits]; omega); simp only [eqGuard, binOp, Op.stringOp]; rw [if_neg h9]; rfl))
    | cases hb

theorem unop_ok {P : Program} {op : UnOp} {v x : Value} (hb : unop op v = some x) (w : World) : (Op.unary op v).run P w = .ok x w ∧ x.oneCell' = true := by
  unfold unop at hb
  split at hb
  · obtain rfl := Option.some.inj hb; exact ⟨by simp [Op.unary, Op.intArith], rfl⟩
  · obtain rfl := Option.some.inj hb; exact ⟨by simp [Op.unary], rfl⟩
  · cases hb

theorem RowsR.get {δ : Type} {R : δ → List Value → List Nat → Prop} {w : World} {n b : Nat} : ∀ {xs : List δ} {o : Nat} {F : List Nat}, RowsR R w n b xs o F → ∀ {i : Nat} {x : δ}, xs[i]? = some x →
    ∃ vs F', (∀ k ∈ F', k ∈ F) ∧ vs.length = n ∧ (∀ j v, vs[j]? = some v → w.cell? ⟨b, o + i * n + j, none⟩ = some v) ∧ R x vs F'
  | [], _, _, _, i, x, e => by simp at e
  | y :: xs, o, F, ⟨vs, F1, F2, hF, hn, hc, hR, hr⟩, i, x, e => by
    cases i with
    | zero =>
      simp at e; subst e
      exact ⟨vs, F1, fun k hk => by rw [hF]; simp [hk], hn, fun j v hj => by simpa using hc j v hj, hR⟩
    | succ i =>
      simp at e
      obtain ⟨vs', F', h1, h2, h3, h4⟩ := RowsR.get hr e
      refine ⟨vs', F', fun k hk => by rw [hF]; simp [h1 k hk], h2, fun j v hj => ?_, h4⟩
      rw [show o + (i + 1) * n + j = o + n + i * n + j by rw [Nat.add_mul]; omega]
      exact h3 j v hj
theorem RowsR.drop {δ : Type} {R : δ → List Value → List Nat → Prop} {w : World} {n b : Nat} : ∀ {xs : List δ} {o : Nat} {F : List Nat}, RowsR R w n b xs o F → ∀ (i : Nat), i ≤ xs.length →
    ∃ F', (∀ k ∈ F', k ∈ F) ∧ RowsR R w n b (xs.drop i) (o + i * n) F'
  | xs, o, F, h, 0, _ => ⟨F, fun _ h => h, by simpa using h⟩
  | [], _, _, _, i + 1, hi => by simp at hi
  | y :: xs, o, F, ⟨vs, F1, F2, hF, hn, hc, hR, hr⟩, i + 1, hi => by
    obtain ⟨F', h1, h2⟩ := RowsR.drop hr i (by simpa using hi)
    refine ⟨F', fun k hk => by rw [hF]; simp [h1 k hk], ?_⟩
    rw [show o + (i + 1) * n = o + n + i * n by rw [Nat.add_mul]; omega]
    exact h2
theorem RowsR.take {δ : Type} {R : δ → List Value → List Nat → Prop} {w : World} {n b : Nat} : ∀ {xs : List δ} {o : Nat} {F : List Nat}, RowsR R w n b xs o F → ∀ (i : Nat),
    ∃ F', (∀ k ∈ F', k ∈ F) ∧ RowsR R w n b (xs.take i) o F'
  | xs, o, F, h, 0 => ⟨[], fun _ h => (nomatch h), by simp [RowsR]⟩
  | [], _, _, _, i + 1 => ⟨[], fun _ h => (nomatch h), by simp [RowsR]⟩
  | y :: xs, o, F, ⟨vs, F1, F2, hF, hn, hc, hR, hr⟩, i + 1 => by
    obtain ⟨F', h1, h2⟩ := RowsR.take hr i
    exact ⟨F1 ++ F', fun k hk => by rw [hF]; rcases List.mem_append.1 hk with h | h <;> simp [h]; exact .inr (h1 k h), vs, F1, F', rfl, hn, hc, hR, h2⟩

/-- A part of a slice that is read alone. -/
theorem SlT.part {δ : Type} {R : δ → List Value → List Nat → Prop} {w : World} {e : Bool} {n : Nat} {xs : List δ} {a : Option Addr} {len cap : Nat} {F : List Nat}
    (h : SlT R w e n xs (.slice a len cap) F) {lo hi : Nat} (h1 : lo ≤ hi) (h2 : hi ≤ xs.length) :
    len = xs.length ∧ len ≤ cap ∧ ∃ F', (∀ k ∈ F', k ∈ F) ∧ SlT R w true n ((xs.take hi).drop lo) (.slice (if cap = lo then a else a.map (·.add (lo * n))) (hi - lo) (cap - lo)) F' := by
  rcases h with ⟨rfl, rfl, a', cap', h3, h4⟩ | ⟨b, o, cap', F', h3, h4, rfl, h6, h7, h8⟩
  · injection h3 with e1 e2 e3
    subst e2
    have : lo = 0 := by simp at h2; omega
    have : hi = 0 := by simp at h2; omega
    subst lo; subst hi
    refine ⟨rfl, Nat.zero_le _, [], fun _ h => (nomatch h), .inl ⟨by simp, rfl, _, _, rfl, fun h => (nomatch h)⟩⟩
  · injection h3 with e1 e2 e3
    subst e1; subst e2; subst e3
    refine ⟨rfl, h4, ?_⟩
    by_cases he : lo = hi
    · subst he
      exact ⟨[], fun _ h => (nomatch h), .inl ⟨by simp, rfl, _, _, by rw [Nat.sub_self], fun h => (nomatch h)⟩⟩
    · obtain ⟨F1, g1, g2⟩ := h8.take hi
      obtain ⟨F2, g3, g4⟩ := g2.drop lo (by simp; omega)
      rw [if_neg (by omega)]
      refine ⟨b :: F2, fun k hk => ?_, .inr ⟨b, o + lo * n, cap - lo, F2, ?_, ?_, rfl, h6, fun h => (nomatch h), g4⟩⟩
      · rcases List.mem_cons.1 hk with rfl | hk
        · simp
        · exact List.mem_cons_of_mem _ (g1 k (g3 k hk))
      · have : ((xs.take hi).drop lo).length = hi - lo := by simp; omega
        rw [this]
        congr 1
        simp only [Option.map, Addr.add]
        by_cases hz : lo * n = 0
        · simp [hz]
        · simp [hz]
      · simp; omega

theorem fill_list (off : Nat) : ∀ (vs : List Value) (i : Nat) (cells : Array Value), off + i + vs.length ≤ cells.size →
    ((vs.zipIdx i).foldl (fun (cs : Array Value) (x : Value × Nat) => cs.setIfInBounds (off + x.2) x.1) cells).toList = cells.toList.take (off + i) ++ vs ++ cells.toList.drop (off + i + vs.length)
  | [], i, cells, h => by simp
  | v :: vs, i, cells, h => by
    simp only [List.zipIdx_cons, List.foldl_cons]
    rw [fill_list off vs (i + 1) (cells.setIfInBounds (off + i) v) (by simp at h ⊢; omega)]
    simp only [List.length_cons] at h
    have hlt : off + i < cells.toList.length := by simp; omega
    rw [Array.toList_setIfInBounds]
    rw [show off + (i + 1) = off + i + 1 by omega, List.take_set, List.take_succ_eq_append_getElem hlt]
    rw [List.set_append_right _ _ (by simp; omega)]
    simp only [List.length_take, Nat.min_eq_left (Nat.le_of_lt hlt), Nat.sub_self, List.set_cons_zero]
    rw [List.drop_set_of_lt (by omega)]
    simp only [List.append_assoc, List.cons_append, List.nil_append, List.length_cons]
    rw [show off + i + 1 + vs.length = off + i + (vs.length + 1) by omega]
theorem fill_eq (off : Nat) (v : Value) (cells : Array Value) (h : off + v.cells.size ≤ cells.size) :
    (v.cells.zipIdx.foldl (fun (cs : Array Value) (x : Value × Nat) => cs.setIfInBounds (off + x.2) x.1) cells).toList = cells.toList.take off ++ v.cells.toList ++ cells.toList.drop (off + v.cells.size) := by
  rw [← Array.foldl_toList, Array.toList_zipIdx]
  have := fill_list off v.cells.toList 0 cells (by simpa using h)
  simpa using this

theorem fillFs_ok {P : Program} {ty : Ty} {fields : Array Field} (hf : FsOk P ty.n ty.fs fields) {B0 : Nat} {w0 : World} {σ : St} {a : Act} {w : World} {C : Cx} {L : Nat → List Nat} (h : Rel B0 w0 σ a w C L)
    (place : Nat → Option (Nat × Nat)) (hp : ∀ (i off n : Nat) (g : Bool), ty.fs[i]? = some (off, n, g) → place i = some (off, n)) (hb : ∀ (i off n : Nat) (g : Bool), ty.fs[i]? = some (off, n, g) → off + n ≤ ty.n) :
    ∀ (parts : List (Nat × Operand)) (cs us : List V) (cells : Array Value), fillFs ty.fs σ parts cs = some us → VsR C w cs cells.toList → cells.size = ty.n →
      ∃ out, Instr.fill place cells (parts.map fun (i, x) => (i, a.eval x)) = some out ∧ VsR C w us out.toList
  | [], cs, us, cells, hf', hc, _ => by
    simp only [fillFs, Option.some.injEq] at hf'
    subst hf'
    exact ⟨cells, rfl, hc⟩
  | (i, x) :: rest, cs, us, cells, hf', hc, hn => by
    simp only [fillFs] at hf'
    split at hf'
    · cases hf'
    · rename_i off size g hi
      split at hf'
      · cases hf'
      · rename_i vs hvs
        split at hf'
        · rename_i hl
          obtain ⟨k1, k2⟩ := (h.ev x).cellsO hvs
          have hlen := k1.length
          have hb' := hb i off size g hi
          have hsz : (a.eval x).cells.size = size := by rw [← hl, hlen]; simp
          simp only [List.map_cons, Instr.fill, hp i off size g hi]
          rw [if_neg (by simp [hsz]; omega)]
          refine fillFs_ok hf h place hp hb rest _ us _ hf' ?_ ?_
          · rw [fill_eq off (a.eval x) cells (by omega), hsz]
            exact ((hc.take off).append k1).append (hc.drop (off + size))
          · have : (((a.eval x).cells.zipIdx.foldl (fun (cs : Array Value) (x : Value × Nat) => cs.setIfInBounds (off + x.2) x.1) cells).toList).length = ty.n := by
              rw [fill_eq off (a.eval x) cells (by omega)]
              simp
              omega
            simpa using this
        · cases hf'

section
variable {P : Program} {Γ : Env} {B0 : Nat} {w0 : World} {σ : St} {a : Act} {w : World} {C : Cx} {L : Nat → List Nat}

theorem FsOk.places {N : Nat} {fs : List (Nat × Nat × Bool)} {fields : Array Field} (h : FsOk P N fs fields) :
    fields.toList.mapM (fun f => (P.info? f.type).map fun i => (f.offset, i.size)) = some (fs.map fun x => (x.1, x.2.1)) := by
  refine mapM_some_of_get _ _ (by simp [h.1]) ?_
  intro i f hf
  have hi : i < fs.length := by
    have : i < fields.toList.length := by
      rcases Nat.lt_or_ge i fields.toList.length with h' | h'
      · exact h'
      · rw [List.getElem?_eq_none h'] at hf; cases hf
    rw [← h.1]; simpa using this
  obtain ⟨f', j, d, h1, h2, h3, h4, _⟩ := h.2 i _ _ _ (List.getElem?_eq_getElem hi)
  have : f = f' := by
    have : fields[i]? = some f := by simpa using hf
    rw [h1] at this
    exact (Option.some.inj this).symm
  subst this
  rw [h3, List.getElem?_map, List.getElem?_eq_getElem hi]
  simp [h2, h4]

/-- What an operation yields in every world. -/
def Yl (P : Program) (C : Cx) (w : World) (o : Oper) (a : Act) (v : V) : Prop := ∃ cv, (∀ w', (execOp a.eval o).run P w' = .ok (.value cv) w') ∧ VR C w v cv

theorem yl_build (hT : TysOk P Γ.ty) (h : Rel B0 w0 σ a w C L) {o : Oper} {t : TypeId} {parts : Array (Nat × Operand)} (ho : o.op = .build t parts) {ty : Ty} (ht : Γ.ty t = some ty) (hs : ty.st = true)
    {cs : List V} (hf : fillFs ty.fs σ parts.toList ty.zero = some cs) : Yl P C w o a (.a cs) := by
  have hk := hT t ty ht
  obtain ⟨fields, h1, h2⟩ := hk.st hs
  obtain ⟨i, z, h3, h4, h5, h6, hz⟩ := hk.info
  obtain ⟨out, g1, g2⟩ := fillFs_ok h2 h (fun i => ((ty.fs.map fun x => (x.1, x.2.1))[i]?)) (fun i off n g e => by simp [e])
    (fun i off n g e => by obtain ⟨_, _, _, _, _, _, _, _, h8, _⟩ := h2.2 i off n g e; exact h8) parts.toList ty.zero cs z.cells hf (h6 C w) hz
  refine ⟨.agg out, fun w' => ?_, ⟨out.toList, by simp, g2⟩⟩
  have hb : P.built t (parts.map fun (i, x) => (i, a.eval x)).toList = some out := by
    simp only [Program.built, h3, h1, h5, h2.places]
    simpa using g1
  simp [execOp, ho, run_build w' t _ out hb]

theorem Rel.box (h : Rel B0 w0 σ a w C L) {k : Nat} {cs : List V} (e : σ.obj k = .box cs) : ∃ b vs ty, C.φ k = some (.box b) ∧ L k = [b] ∧ w.heap[b]? = some (.cells ⟨vs⟩ ty (0, 0)) ∧ VsR C w cs vs := by
  have := h.ob k; rw [e] at this; exact this
theorem Rel.arr (h : Rel B0 w0 σ a w C L) {k : Nat} {mu deep : Bool} {r : Rw} {xs : List r.T} (e : σ.obj k = .arr mu deep r xs) : ∃ cv F, C.φ k = some (.arr cv r.n) ∧ SlT (RwR w (!(mu && deep)) r) w (!mu) r.n xs cv F ∧ (∀ b ∈ F.drop 1, C.N b) ∧
      (if mu then (if deep then L k = F else L k = F.take 1) else L k = [] ∧ ∀ b ∈ F, C.N b) := by
  have := h.ob k; rw [e] at this; exact this
theorem isBox_spec {σ : St} {k : Nat} (h : σ.isBox k = true) : ∃ cs, σ.obj k = .box cs := by
  unfold St.isBox at h; split at h
  · rename_i cs e; exact ⟨cs, e⟩
  · cases h
theorem Rel.ownd (h : Rel B0 w0 σ a w C L) {k : Nat} {st : Bool} {r : Rw} {xs : List r.T} (e : σ.obj k = .own st r xs) : ∃ cv, C.φ k = some (.arr cv r.n) ∧ SlT (RwR w false r) w false r.n xs cv (L k) ∧ (st = true → ∃ f, C.hs k = some f ∧ HsR w r xs cv f) := by
  have := h.ob k; rw [e] at this; exact this
theorem Rel.isArr (h : Rel B0 w0 σ a w C L) {k : Nat} (hk : σ.isArr k = true) : ∃ cv n, C.φ k = some (.arr cv n) := by
  unfold St.isArr at hk; split at hk
  · rename_i mu deep r xs e
    obtain ⟨cv, F, h1, _⟩ := h.arr e; exact ⟨cv, _, h1⟩
  · rename_i st r xs e
    obtain ⟨cv, h1, _⟩ := h.ownd e; exact ⟨cv, _, h1⟩
  · cases hk
theorem Rel.pb (h : Rel B0 w0 σ a w C L) {k j : Nat} {c : Value} (hc : VR C w (.pb k j) c) (hb : σ.isBox k = true) : ∃ b, C.φ k = some (.box b) ∧ c = .pointer (some ⟨b, j, none⟩) := by
  obtain ⟨cs, e⟩ := isBox_spec hb
  obtain ⟨b, vs, ty, h1, _⟩ := h.box e
  exact ⟨b, h1, hc.2.2 b h1⟩
theorem Rel.pa (h : Rel B0 w0 σ a w C L) {k i j : Nat} {c : Value} (hc : VR C w (.pa k i j) c) (hb : σ.isArr k = true) : ∃ cv n b o l cap, C.φ k = some (.arr cv n) ∧ cv = .slice (some ⟨b, o, none⟩) l cap ∧ i < l ∧ c = .pointer (some ⟨b, o + i * n + j, none⟩) := by
  obtain ⟨cv, n, h1⟩ := h.isArr hb
  obtain ⟨b, o, l, cap, h2, h3, h4⟩ := hc.2.2 cv n h1
  exact ⟨cv, n, b, o, l, cap, h1, h2, h3, h4⟩

theorem idx_ok {u : V} {n : Int} (h : idx u = some n) {c : Value} (hc : VR C w u c) : ∃ k, c = .int k n := by
  unfold idx at h
  split at h
  · rename_i k n'
    obtain rfl := Option.some.inj h
    exact ⟨k, hc.1⟩
  · cases h
theorem optIdx_ok (h : Rel B0 w0 σ a w C L) {x : Option Operand} {n : Option Int} (hn : optIdx σ x = some n) : (x = none ∧ n = none) ∨ ∃ y m k, x = some y ∧ n = some m ∧ a.eval y = .int k m := by
  cases x with
  | none => simp [optIdx] at hn; exact .inl ⟨rfl, hn.symm⟩
  | some y =>
    simp only [optIdx] at hn
    cases e : idx (σ.ev y) with
    | none => rw [e] at hn; cases hn
    | some m =>
      rw [e] at hn
      obtain ⟨k, hk⟩ := idx_ok e (h.ev y)
      simp at hn
      exact .inr ⟨y, m, k, rfl, hn.symm, hk⟩

theorem run_bound {k : IntKind} {m : Int} {y : Nat} {code : BoundsCode} (h0 : 0 ≤ m) (h1 : m ≤ y) (w : World) : (Instr.sliceBound (.int k m) y code).run P w = .ok m.toNat w := by
  simp [Instr.sliceBound, asIntOf, h0, h1]

/-- The bounds of a slice expression: what they come to, and the machine's value of them. -/
theorem run_bounds (h : Rel B0 w0 σ a w C L) {lo hi : Option Operand} {l m : Option Int} (hl : optIdx σ lo = some l) (hm : optIdx σ hi = some m) (isSlice : Bool) {len cap : Nat}
    (h0 : 0 ≤ l.getD 0) (h1 : l.getD 0 ≤ m.getD len) (h2 : m.getD len ≤ len) (h3 : len ≤ cap) (w' : World) :
    (Instr.sliceBounds isSlice len cap (lo.map a.eval) (hi.map a.eval) none).run P w' = .ok ((l.getD 0).toNat, (m.getD len).toNat, cap) w' := by
  unfold Instr.sliceBounds
  rcases optIdx_ok h hm with ⟨rfl, rfl⟩ | ⟨y, q, k, rfl, rfl, e⟩ <;> rcases optIdx_ok h hl with ⟨rfl, rfl⟩ | ⟨y', q', k', rfl, rfl, e'⟩
  · simp
  · simp only [Option.getD_some, Option.getD_none] at h0 h1 h2
    simp [e', run_bound h0 h1]
  · simp only [Option.getD_some, Option.getD_none] at h0 h1 h2
    have hq : q ≤ (cap : Int) := by omega
    simp [e, run_bound h1 hq]
  · simp only [Option.getD_some] at h0 h1 h2
    have hq : q ≤ (cap : Int) := by omega
    have hq' : q' ≤ (q.toNat : Int) := by omega
    simp [e, e', run_bound (show 0 ≤ q by omega) hq, run_bound h0 hq']

theorem run_sliceAt_slice {t e : TypeId} (hu : P.underlying t = some (.slice e)) {i : TypeInfo} (hi : P.info? e = some i) {ad : Option Addr} {len cap : Nat} {lo hi' : Option Value} {l m : Nat} {w' : World}
    (hb : (Instr.sliceBounds true len cap lo hi' none).run P w' = .ok (l, m, cap) w') :
    (Instr.sliceAt t (.slice ad len cap) lo hi' none).run P w' = .ok (.slice (if cap = l then ad else ad.map (·.add (l * i.size))) (m - l) (cap - l)) w' := by
  simp [Instr.sliceAt, run_underlying hu, Instr.slice, hb, rt_size hi]
theorem run_sliceAt_str {t : TypeId} (hu : P.underlying t = some .string) {s : ByteArray} {lo hi' : Option Value} {l m : Nat} {w' : World}
    (hb : (Instr.sliceBounds false s.size s.size lo hi' none).run P w' = .ok (l, m, s.size) w') :
    (Instr.sliceAt t (.string s) lo hi' none).run P w' = .ok (.string (s.extract l m)) w' := by
  simp [Instr.sliceAt, run_underlying hu, Instr.slice, hb]

theorem equalIn_bool {t : TypeId} (hu : P.underlying t = some .bool) (b1 b2 : Bool) (d : Nat) (w' : World) : (Op.equalIn (d + 1) t (.bool b1) (.bool b2)).run P w' = .ok (b1 == b2) w' := by
  simp [Op.equalIn, run_underlying hu]
theorem equal_bool {t : TypeId} (hu : P.underlying t = some .bool) (b1 b2 : Bool) (w' : World) : (Op.equal t (.bool b1) (.bool b2)).run P w' = .ok (b1 == b2) w' := equalIn_bool hu b1 b2 9999 w'
theorem bin_bool (b1 b2 : Bool) (t : TypeId) (y z : Operand) {op : BinOp} {f : Bool → Bool} (ho : op = .eql ∧ f = id ∨ op = .neq ∧ f = (!·)) (hu : P.underlying t = some .bool) (w' : World) :
    (do eqGuard op t y z (.bool b1) (.bool b2); binOp op t (.bool b1) (.bool b2) : Sem Value).run P w' = .ok (.bool (f (b1 == b2))) w' := by
  rcases ho with ⟨rfl, rfl⟩ | ⟨rfl, rfl⟩
  · have e : (do eqGuard .eql t y z (.bool b1) (.bool b2); binOp .eql t (.bool b1) (.bool b2) : Sem Value) = (do pure (.bool (← Op.equal t (.bool b1) (.bool b2)))) := rfl
    rw [e, Sem.run_bind, equal_bool hu]; rfl
  · have e : (do eqGuard .neq t y z (.bool b1) (.bool b2); binOp .neq t (.bool b1) (.bool b2) : Sem Value) = (do pure (.bool (!(← Op.equal t (.bool b1) (.bool b2))))) := rfl
    rw [e, Sem.run_bind, equal_bool hu]; rfl
theorem run_v (s : Sem Value) {x : Value} {w' : World} (h : s.run P w' = .ok x w') : (do let r ← s; pure (.value r) : Sem Next).run P w' = .ok (.value x) w' := by
  rw [Sem.run_bind, h]; rfl

theorem yl_binOp (hT : TysOk P Γ.ty) (h : Rel B0 w0 σ a w C L) {o : Oper} {op : BinOp} {t u : TypeId} {y z : Operand} (ho : o.op = .binOp op t y z u) {v : V}
    (hp : pureV Γ o σ = some (true, v)) : Yl P C w o a v := by
  have hy := h.ev y
  have hz := h.ev z
  simp only [pureV, ho] at hp
  split at hp
  · rename_i b1 b2 e1 e2
    rw [e1] at hy; rw [e2] at hz
    have ey : a.eval y = .bool b1 := hy.1
    have ez : a.eval z = .bool b2 := hz.1
    split at hp
    · rename_i ty ht
      split at hp
      · rename_i hb
        have hu := (hT t ty ht).bool hb
        split at hp
        · cases hp
          refine ⟨.bool (b1 == b2), fun w' => ?_, rfl, rfl⟩
          simp only [execOp, ho, ey, ez]
          exact run_v _ (bin_bool b1 b2 t y z (f := id) (.inl ⟨rfl, rfl⟩) hu w')
        · cases hp
          refine ⟨.bool (!(b1 == b2)), fun w' => ?_, rfl, rfl⟩
          simp only [execOp, ho, ey, ez]
          exact run_v _ (bin_bool b1 b2 t y z (f := (!·)) (.inr ⟨rfl, rfl⟩) hu w')
        · cases hp
      · cases hp
    · cases hp
  · rename_i v1 v2 hns e1 e2
    rw [e1] at hy; rw [e2] at hz
    have ey : a.eval y = v1 := hy.1
    have ez : a.eval z = v2 := hz.1
    split at hp
    · rename_i c x hb
      simp only [Option.some.injEq, Prod.mk.injEq] at hp
      obtain ⟨hc, rfl⟩ := hp
      obtain ⟨_, h2⟩ := bin_ok (P := P) hb hc t y z w
      refine ⟨x, fun w' => ?_, rfl, h2⟩
      have h1 := (bin_ok (P := P) hb hc t y z w').1
      simp only [execOp, ho, ey, ez]
      exact run_v _ h1
    · cases hp
  · cases hp

theorem yl_slice (hT : TysOk P Γ.ty) (h : Rel B0 w0 σ a w C L) {o : Oper} {t : TypeId} {y : Operand} {lo hi : Option Operand} (ho : o.op = .slice t y lo hi none) {v : V}
    (hp : pureV Γ o σ = some (true, v)) : Yl P C w o a v := by
  have hy := h.ev y
  simp only [pureV, ho] at hp
  split at hp
  · rename_i l m s hl hm es
    rw [es] at hy
    have ey : a.eval y = .string s := hy.1
    split at hp
    · cases hp
    · rename_i ty ht
      split at hp
      · rename_i hst
        simp only [Option.some.injEq, Prod.mk.injEq, Bool.and_eq_true, decide_eq_true_eq] at hp
        obtain ⟨⟨⟨h0, h1⟩, h2⟩, rfl⟩ := hp
        have hu := (hT t ty ht).str hst
        refine ⟨_, fun w' => ?_, rfl, rfl⟩
        have := run_sliceAt_str hu (run_bounds (P := P) h hl hm false h0 h1 h2 (Nat.le_refl _) w')
        simp [execOp, ho, ey, this]
      · cases hp
  · rename_i l m hl hm hns
    split at hp
    · cases hp
    · rename_i ty ht
      split at hp
      · rename_i hst
        obtain ⟨e, hu, i, z, hi, hn, _⟩ := (hT t ty ht).sl hst
        split at hp
        · rename_i es
          rw [es] at hy
          have ey : a.eval y = .slice none 0 0 := hy
          simp only [Option.some.injEq, Prod.mk.injEq, Bool.and_eq_true, beq_iff_eq] at hp
          obtain ⟨⟨h0, h1⟩, rfl⟩ := hp
          refine ⟨.slice none 0 0, fun w' => ?_, rfl⟩
          have := run_sliceAt_slice hu hi (ad := none) (run_bounds (P := P) h hl hm true (len := 0) (cap := 0) (by omega) (by simp; omega) (by simp; omega) (Nat.le_refl _) w')
          simp only [Int.natCast_zero] at this
          rw [h0, h1] at this
          simp [execOp, ho, ey, this]
        · rename_i o' r xs es
          rw [es] at hy
          obtain ⟨F, hF, hN⟩ := hy
          split at hp
          · rename_i hr
            simp only [Option.some.injEq, Prod.mk.injEq, Bool.and_eq_true, decide_eq_true_eq] at hp
            obtain ⟨⟨⟨h0, h1⟩, h2⟩, rfl⟩ := hp
            obtain ⟨ad, len, cap, ec⟩ : ∃ ad len cap, a.eval y = .slice ad len cap := by
              rcases hF with ⟨_, _, ad, cap, h3, _⟩ | ⟨b, o, cap, F', h3, _⟩ <;> exact ⟨_, _, _, h3⟩
            rw [ec] at hF
            obtain ⟨g1, g2, F', g3, g4⟩ := SlT.part hF (lo := (l.getD 0).toNat) (hi := (m.getD xs.length).toNat) (by omega) (by omega)
            refine ⟨_, fun w' => ?_, F', g4, fun b hb => hN b (g3 b hb)⟩
            have := run_sliceAt_slice hu hi (ad := ad) (run_bounds (P := P) h hl hm true (len := len) (cap := cap) h0 (by rw [g1]; exact h1) (by rw [g1]; exact h2) g2 w')
            rw [g1] at this
            rw [hn, ← hr] at this
            simp [execOp, ho, ec, g1, this]
          · cases hp
        · rename_i k es
          rw [es] at hy
          split at hp
          · rename_i mu deep r xs eo
            split at hp
            · rename_i hr
              simp only [Option.some.injEq, Prod.mk.injEq, Bool.and_eq_true, decide_eq_true_eq] at hp
              obtain ⟨⟨⟨h0, h1⟩, h2⟩, rfl⟩ := hp
              obtain ⟨cv, F, hφ, hF, _⟩ := h.arr eo
              obtain ⟨ad, len, cap, ec⟩ : ∃ ad len cap, cv = .slice ad len cap := by
                rcases hF with ⟨_, _, ad, cap, h3, _⟩ | ⟨b, o, cap, F', h3, _⟩ <;> exact ⟨_, _, _, h3⟩
              have ey : a.eval y = .slice ad len cap := by rw [hy.2.2 cv r.n hφ, ec]
              rw [ec] at hF
              obtain ⟨g1, g2, F', g3, g4⟩ := SlT.part hF (lo := (l.getD 0).toNat) (hi := (m.getD xs.length).toNat) (by omega) (by omega)
              refine ⟨.slice (if cap = (l.getD 0).toNat then ad else ad.map (·.add ((l.getD 0).toNat * r.n))) ((m.getD xs.length).toNat - (l.getD 0).toNat) (cap - (l.getD 0).toNat), fun w' => ?_, hy.1, rfl, fun cv' n' hφ' => ?_⟩
              · have := run_sliceAt_slice hu hi (ad := ad) (run_bounds (P := P) h hl hm true (len := len) (cap := cap) h0 (by rw [g1]; exact h1) (by rw [g1]; exact h2) g2 w')
                rw [g1] at this
                rw [hn, ← hr] at this
                simp [execOp, ho, ey, g1, this]
              · rw [hφ] at hφ'
                injection hφ' with e1
                injection e1 with e1 e2
                subst e1; subst e2
                refine ⟨ad, len, cap, _, ec, by omega, _, rfl, fun hne => ?_⟩
                rcases hF with ⟨h5, _⟩ | ⟨b, o, cap', F', h5, h6, _⟩
                · have hx : xs.length = 0 := by rw [h5]; rfl
                  exact absurd hne (by omega)
                · injection h5 with e3 e4 e5
                  subst e3; subst e5
                  refine ⟨b, o, rfl, ?_, rfl⟩
                  rw [if_neg (by omega)]
                  simp only [Option.map, Addr.add]
                  by_cases hz : (l.getD 0).toNat * r.n = 0
                  · simp [hz]
                  · simp [hz]
            · cases hp
          · cases hp
        · rename_i k off len0 es
          rw [es] at hy
          split at hp
          · rename_i mu deep r xs eo
            split at hp
            · rename_i hr
              simp only [Option.some.injEq, Prod.mk.injEq, Bool.and_eq_true, decide_eq_true_eq] at hp
              obtain ⟨⟨⟨h0, h1⟩, h2⟩, rfl⟩ := hp
              obtain ⟨cv, F, hφ, hF, _⟩ := h.arr eo
              obtain ⟨ad, Ln, cap, cap', ec, hle, a', ey, hne⟩ := hy.2.2 cv r.n hφ
              have hcap : len0 ≤ cap' ∧ (len0 ≠ 0 → off + len0 ≤ cap) := by
                by_cases hz : len0 = 0
                · exact ⟨by omega, fun h => absurd hz h⟩
                · obtain ⟨b, o, e3, e4, e5⟩ := hne hz
                  have : Ln ≤ cap := by
                    rw [ec] at hF
                    rcases hF with ⟨h5, _, _, _, h6, _⟩ | ⟨b, o, cap', F', h5, h6, _⟩
                    · injection h6 with _ e6 _; omega
                    · injection h5 with _ e6 e7; omega
                  exact ⟨by omega, fun _ => by omega⟩
              refine ⟨.slice (if cap' = (l.getD 0).toNat then a' else a'.map (·.add ((l.getD 0).toNat * r.n))) ((m.getD len0).toNat - (l.getD 0).toNat) (cap' - (l.getD 0).toNat), fun w' => ?_, hy.1, rfl, fun cv' n' hφ' => ?_⟩
              · have := run_sliceAt_slice hu hi (ad := a') (run_bounds (P := P) h hl hm true (len := len0) (cap := cap') h0 h1 h2 hcap.1 w')
                rw [hn, ← hr] at this
                simp [execOp, ho, ey, this]
              · rw [hφ] at hφ'
                injection hφ' with e1
                injection e1 with e1 e2
                subst e1; subst e2
                refine ⟨ad, Ln, cap, _, ec, by omega, _, rfl, fun hne' => ?_⟩
                obtain ⟨b, o, e3, e4, e5⟩ := hne (by omega)
                refine ⟨b, o, e3, ?_, by omega⟩
                have := hcap.2 (by omega)
                rw [if_neg (by omega), e4]
                simp only [Option.map, Addr.add]
                rw [Nat.add_mul]
                by_cases hz : (l.getD 0).toNat * r.n = 0
                · simp [hz]
                · simp [hz, Nat.add_assoc]
            · cases hp
          · cases hp
        · cases hp
      · cases hp
  · cases hp

theorem getElem?_agg {vs : List Value} {i : Nat} {v : Value} (h : vs[i]? = some v) : (⟨vs⟩ : Array Value)[i]? = some v := by simpa using h

theorem part_ok {t : TypeId} {d : TypeDesc} {j : TypeInfo} (hu : P.underlying t = some d) (hi : P.info? t = some j) {cs : List V} {vs : List Value} (hc : VsR C w cs vs) {off n : Nat} (hn : j.size = n) {v : V}
    (hm : mk (isAggD d) ((cs.drop off).take n) = some v) (hn0 : n ≠ 0) (hlen : off + n ≤ cs.length) : ∃ cv, (∀ w', (part t ⟨vs⟩ off).run P w' = .ok cv w') ∧ VR C w v cv := by
  have hl := hc.length
  have hd := (hc.drop off).take n
  unfold mk at hm
  cases hg : isAggD d with
  | true =>
    rw [hg, if_pos rfl] at hm
    obtain rfl := Option.some.inj hm
    refine ⟨.agg ((⟨vs⟩ : Array Value).extract off (off + n)), fun w' => by simp [part, rt_agg hu, hg, rt_size hi, hn], _, ?_, hd⟩
    congr 1
    apply Array.ext'
    simp [List.take_drop]
  | false =>
    rw [hg, if_neg (by simp)] at hm
    split at hm
    · rename_i u e
      obtain rfl := Option.some.inj hm
      rw [e] at hd
      obtain ⟨cv, vs', e1, h2, h3⟩ := hd
      have e2 : vs[off]? = some cv := by
        have : ((vs.drop off).take n)[0]? = some cv := by rw [e1]; rfl
        rw [List.getElem?_take] at this
        split at this
        · simpa using this
        · cases this
      exact ⟨cv, fun w' => by simp [part, rt_agg hu, hg, e2], h2⟩
    · cases hm

theorem yl_field (hT : TysOk P Γ.ty) (h : Rel B0 w0 σ a w C L) {o : Oper} {t : TypeId} {y : Operand} {i : Nat} (ho : o.op = .field t y i) {v : V} (hp : pureV Γ o σ = some (true, v)) : Yl P C w o a v := by
  have hy := h.ev y
  simp only [pureV, ho] at hp
  split at hp
  · cases hp
  · rename_i ty ht
    split at hp
    · rename_i hs
      obtain ⟨fields, hu, hf⟩ := (hT t ty ht).st hs
      split at hp
      · rename_i off n g cs e1 e2
        rw [e2] at hy
        obtain ⟨vs, ey, hc⟩ := hy
        obtain ⟨f, j, d, k1, k2, k3, k4, k5, k6, k7, k8⟩ := hf.2 i off n g e1
        split at hp
        · rename_i hlen
          split at hp
          · rename_i u hm
            cases hp
            obtain ⟨cv, g1, g2⟩ := part_ok k7 k3 hc k4 (k8 ▸ hm) k5 hlen
            refine ⟨cv, fun w' => ?_, g2⟩
            have g1' := g1 w'
            simp [execOp, ho, ey, Instr.field, run_underlying hu, k1, asAgg, k2, g1']
          · cases hp
        · cases hp
      · cases hp
    · cases hp

theorem yl_fieldAddr (hT : TysOk P Γ.ty) (h : Rel B0 w0 σ a w C L) {o : Oper} {t : TypeId} {y : Operand} {i : Nat} (ho : o.op = .fieldAddr t y i) {v : V} (hp : pureV Γ o σ = some (true, v)) : Yl P C w o a v := by
  have hy := h.ev y
  simp only [pureV, ho] at hp
  split at hp
  · cases hp
  · rename_i ty ht
    split at hp
    · rename_i hs
      obtain ⟨fields, hu, hf⟩ := (hT t ty ht).st hs
      have key : ∀ (off n : Nat) (g : Bool), ty.fs[i]? = some (off, n, g) → ∀ b x w', a.eval y = .pointer (some ⟨b, x, none⟩) → (execOp a.eval o).run P w' = .ok (.value (.pointer (some ⟨b, x + off, none⟩))) w' := by
        intro off n g e b x w' ey
        obtain ⟨f, j, d, k1, k2, k3, k4, k5, k6, k7, k8⟩ := hf.2 i off n g e
        have ha : (⟨b, x, none⟩ : Addr).add f.offset = ⟨b, x + off, none⟩ := by
          rw [k2]; unfold Addr.add; split <;> simp_all
        simp [execOp, ho, ey, Instr.fieldAt, run_underlying hu, k1, Instr.sureAddr, fieldPlace, rt_size k3, k4, k5, ha]
      split at hp
      · rename_i off n g k c e1 e2
        rw [e2] at hy
        split at hp
        · rename_i hb
          cases hp
          obtain ⟨b, g1, g2⟩ := h.pb hy hb
          exact ⟨_, fun w' => key off n g e1 b c w' g2, hy.1, rfl, fun b' hb' => by rw [g1] at hb'; cases hb'; rfl⟩
        · cases hp
      · rename_i off n g k j c e1 e2
        rw [e2] at hy
        split at hp
        · rename_i hb
          cases hp
          obtain ⟨cv, n', b, x, l, cap, g1, g2, g3, g4⟩ := h.pa hy hb
          refine ⟨_, fun w' => key off n g e1 b _ w' g4, hy.1, rfl, fun cv' n'' hb' => ?_⟩
          rw [g1] at hb'; cases hb'
          exact ⟨b, x, l, cap, g2, g3, by rw [Nat.add_assoc]⟩
        · cases hp
      · rename_i off n g r d c e1 e2
        rw [e2] at hy
        cases hp
        obtain ⟨b, x, vs, F, g1, g2⟩ := hy
        exact ⟨_, fun w' => key off n g e1 b _ w' g1, b, x, vs, F, by rw [Nat.add_assoc], g2⟩
      · rename_i off n g cs c e1 e2
        rw [e2] at hy
        cases hp
        obtain ⟨b, vs, ty', g1, g2⟩ := hy
        exact ⟨_, fun w' => key off n g e1 b _ w' g1, b, vs, ty', rfl, g2⟩
      · cases hp
    · cases hp

theorem slice_of {δ : Type} {R : δ → List Value → List Nat → Prop} {w : World} {e : Bool} {n : Nat} {xs : List δ} {v : Value} {F : List Nat} (h : SlT R w e n xs v F) : ∃ ad cap, v = .slice ad xs.length cap := by
  rcases h with ⟨rfl, _, ad, cap, h3, _⟩ | ⟨b, o, cap, F', h3, _⟩
  · exact ⟨ad, cap, h3⟩
  · exact ⟨_, cap, h3⟩
theorem run_indexAt {t e : TypeId} (hu : P.underlying t = some (.slice e)) {i : TypeInfo} (hi : P.info? e = some i) {ad : Addr} {len cap : Nat} {k : IntKind} {n : Int} (h0 : 0 ≤ n) (h1 : n < len) (w' : World) :
    (Instr.indexAt t (.slice (some ad) len cap) (.int k n)).run P w' = .ok (.pointer (some (ad.add (n.toNat * i.size)))) w' := by
  simp [Instr.indexAt, asIntOf, run_underlying hu, h0, h1, rt_size hi]
theorem add_at (b o m : Nat) : (⟨b, o, none⟩ : Addr).add m = ⟨b, o + m, none⟩ := by
  unfold Addr.add; split <;> simp_all

theorem yl_indexAddr (hT : TysOk P Γ.ty) (h : Rel B0 w0 σ a w C L) {o : Oper} {t : TypeId} {y i : Operand} (ho : o.op = .indexAddr t y i) {v : V} (hp : pureV Γ o σ = some (true, v)) : Yl P C w o a v := by
  have hy := h.ev y
  simp only [pureV, ho] at hp
  split at hp
  · rename_i ty n ht hn
    obtain ⟨kk, ei⟩ := idx_ok hn (h.ev i)
    split at hp
    · rename_i hst
      obtain ⟨e, hu, ie, z, hi, hsz, _⟩ := (hT t ty ht).sl hst
      split at hp
      · rename_i o' r xs es
        rw [es] at hy
        obtain ⟨F, hF, hN⟩ := hy
        split at hp
        · rename_i hr
          simp only [Option.some.injEq, Prod.mk.injEq, Bool.and_eq_true, decide_eq_true_eq] at hp
          obtain ⟨⟨h0, h1⟩, rfl⟩ := hp
          rcases hF with ⟨h5, _⟩ | ⟨b, x, cap, F', h5, h6, rfl, h7, h8, h9⟩
          · subst h5; simp at h1; omega
          · have hlt : n.toNat < xs.length := by omega
            obtain ⟨vs, F1, g1, g2, g3, g4⟩ := h9.get (List.getElem?_eq_getElem hlt)
            refine ⟨_, fun w' => ?_, b, x + n.toNat * r.n, vs, F1, rfl, hN b (by simp), g2, g3, ?_, fun k hk => hN k (by simp [g1 k hk])⟩
            · have := run_indexAt hu hi (ad := ⟨b, x, none⟩) (cap := cap) (k := kk) h0 h1 w'
              rw [hsz, ← hr, add_at] at this
              simp [execOp, ho, ei, h5, this]
            · rw [List.getD_eq_getElem?_getD, List.getElem?_eq_getElem hlt]; exact g4
        · cases hp
      · rename_i k es
        rw [es] at hy
        split at hp
        · rename_i mu deep r xs eo
          split at hp
          · rename_i hr
            simp only [Option.some.injEq, Prod.mk.injEq, Bool.and_eq_true, decide_eq_true_eq] at hp
            obtain ⟨⟨h0, h1⟩, rfl⟩ := hp
            obtain ⟨cv, F, hφ, hF, _⟩ := h.arr eo
            rcases hF with ⟨h5, _⟩ | ⟨b, x, cap, F', h5, h6, _⟩
            · subst h5; simp at h1; omega
            · have ey := hy.2.2 cv r.n hφ
              rw [h5] at ey
              refine ⟨.pointer (some ⟨b, x + n.toNat * r.n, none⟩), fun w' => ?_, hy.1, rfl, fun cv' n' hφ' => ?_⟩
              · have := run_indexAt hu hi (ad := ⟨b, x, none⟩) (cap := cap) (k := kk) h0 h1 w'
                rw [hsz, ← hr, add_at] at this
                simp [execOp, ho, ei, ey, this]
              · rw [hφ] at hφ'; cases hφ'
                exact ⟨b, x, xs.length, cap, h5, by omega, by simp⟩
          · cases hp
        · rename_i st r xs eo
          split at hp
          · rename_i hr
            simp only [Option.some.injEq, Prod.mk.injEq, Bool.and_eq_true, decide_eq_true_eq] at hp
            obtain ⟨⟨h0, h1⟩, rfl⟩ := hp
            obtain ⟨cv, hφ, hF, _⟩ := h.ownd eo
            rcases hF with ⟨h5, _⟩ | ⟨b, x, cap, F', h5, h6, _⟩
            · subst h5; simp at h1; omega
            · have ey := hy.2.2 cv r.n hφ
              rw [h5] at ey
              refine ⟨.pointer (some ⟨b, x + n.toNat * r.n, none⟩), fun w' => ?_, hy.1, rfl, fun cv' n' hφ' => ?_⟩
              · have := run_indexAt hu hi (ad := ⟨b, x, none⟩) (cap := cap) (k := kk) h0 h1 w'
                rw [hsz, ← hr, add_at] at this
                simp [execOp, ho, ei, ey, this]
              · rw [hφ] at hφ'; cases hφ'
                exact ⟨b, x, xs.length, cap, h5, by omega, by simp⟩
          · cases hp
        · cases hp
      · rename_i k off len es
        rw [es] at hy
        split at hp
        · rename_i mu deep r xs eo
          split at hp
          · rename_i hr
            simp only [Option.some.injEq, Prod.mk.injEq, Bool.and_eq_true, decide_eq_true_eq] at hp
            obtain ⟨⟨h0, h1⟩, rfl⟩ := hp
            obtain ⟨cv, F, hφ, hF, _⟩ := h.arr eo
            obtain ⟨ad, l, cap, cap', e1, e2, a', e3, e4⟩ := hy.2.2 cv r.n hφ
            obtain ⟨b, x, g1, g2, g3⟩ := e4 (by omega)
            subst g1; subst g2
            refine ⟨.pointer (some ⟨b, x + (off + n.toNat) * r.n, none⟩), fun w' => ?_, hy.1, rfl, fun cv' n' hφ' => ?_⟩
            · have := run_indexAt hu hi (ad := ⟨b, x + off * r.n, none⟩) (cap := cap') (k := kk) h0 h1 w'
              rw [hsz, ← hr, add_at] at this
              simp [execOp, ho, ei, e3, this, Nat.add_mul, Nat.add_assoc]
            · rw [hφ] at hφ'; cases hφ'
              exact ⟨b, x, l, cap, e1, by omega, by simp⟩
          · cases hp
        · cases hp
      · cases hp
    · cases hp
  · cases hp

theorem yl_index (hT : TysOk P Γ.ty) (h : Rel B0 w0 σ a w C L) {o : Oper} {t : TypeId} {y i : Operand} (ho : o.op = .index t y i) {v : V} (hp : pureV Γ o σ = some (true, v)) : Yl P C w o a v := by
  have hy := h.ev y
  simp only [pureV, ho] at hp
  split at hp
  · rename_i ty n s ht hn es
    obtain ⟨kk, ei⟩ := idx_ok hn (h.ev i)
    rw [es] at hy
    have ey : a.eval y = .string s := hy.1
    split at hp
    · rename_i hst
      have hu := (hT t ty ht).str hst
      simp only [Option.some.injEq, Prod.mk.injEq, Bool.and_eq_true, decide_eq_true_eq] at hp
      obtain ⟨⟨h0, h1⟩, rfl⟩ := hp
      have hlt : n.toNat < s.size := by omega
      refine ⟨.int .u8 (s.data.toList.getD n.toNat 0).toNat, fun w' => ?_, rfl, rfl⟩
      have e1 : s[n.toNat]? = some s[n.toNat] := by simp [hlt]
      have e2 : s.data.toList.getD n.toNat 0 = s[n.toNat] := by
        rw [List.getD_eq_getElem?_getD, Array.getElem?_toList, Array.getElem?_eq_getElem (by exact hlt)]; rfl
      simp only [execOp, ho, ei, ey]
      refine run_v _ ?_
      rw [e2]
      simp [Instr.index, asIntOf, run_underlying hu, h0, e1]
    · cases hp
  · cases hp

theorem slen_ok (h : Rel B0 w0 σ a w C L) {u : V} {n : Nat} (hs : slen σ u = some n) {c : Value} (hc : VR C w u c) : ∃ ad cap, c = .slice ad n cap := by
  unfold slen at hs
  split at hs
  · cases hs; exact ⟨_, _, hc⟩
  · cases hs; obtain ⟨F, hF, _⟩ := hc; exact slice_of hF
  · rename_i k
    split at hs
    · rename_i mu deep r xs e
      cases hs
      obtain ⟨cv, F, hφ, hF, _⟩ := h.arr e
      rw [hc.2.2 cv r.n hφ]; exact slice_of hF
    · rename_i st r xs e
      cases hs
      obtain ⟨cv, hφ, hF, _⟩ := h.ownd e
      rw [hc.2.2 cv r.n hφ]; exact slice_of hF
    · cases hs
  · rename_i k off len
    split at hs
    · rename_i hb
      cases hs
      obtain ⟨cv, n', hφ⟩ := h.isArr hb
      obtain ⟨_, _, _, cap', _, _, a', e3, _⟩ := hc.2.2 cv n' hφ
      exact ⟨a', cap', e3⟩
    · cases hs
  · cases hs

theorem evs_ok (h : Rel B0 w0 σ a w C L) : ∀ (xs : List Operand), VsR C w (xs.map σ.ev) (xs.map a.eval)
  | [] => rfl
  | x :: xs => ⟨_, _, rfl, h.ev x, evs_ok h xs⟩

theorem yl_call (hT : TysOk P Γ.ty) (h : Rel B0 w0 σ a w C L) {o : Oper} {c : Call} (ho : o.op = .call c) {v : V} (hp : pureV Γ o σ = some (true, v)) : Yl P C w o a v := by
  simp only [pureV, ho] at hp
  split at hp
  · rename_i hcal
    split at hp
    · rename_i y t e1 e2
      have hy := h.ev y
      have a1 : c.args = #[y] := by rw [← Array.toList_inj, e1]
      have a2 : c.argTypes = #[t] := by rw [← Array.toList_inj, e2]
      split at hp
      · rename_i ty s ht es
        rw [es] at hy
        have ey : a.eval y = .string s := hy.1
        split at hp
        · rename_i hst
          have hu := (hT t ty ht).str hst
          cases hp
          exact ⟨.int .i64 s.size, fun w' => by simp [execOp, ho, resolve, hcal, a1, a2, invoke, builtin, Builtin.len_, run_underlying hu, ey, goInt], rfl, rfl⟩
        · cases hp
      · rename_i ty ht hns
        split at hp
        · rename_i hst
          obtain ⟨e, hu, _⟩ := (hT t ty ht).sl hst
          split at hp
          · rename_i n hs
            cases hp
            obtain ⟨ad, cap, ey⟩ := slen_ok h hs hy
            exact ⟨.int .i64 n, fun w' => by simp [execOp, ho, resolve, hcal, a1, a2, invoke, builtin, Builtin.len_, run_underlying hu, ey, goInt], rfl, rfl⟩
          · cases hp
        · cases hp
      · cases hp
    · cases hp
  · rename_i hcal
    split at hp
    · rename_i k p k' q e1
      have hv := evs_ok h c.args.toList
      rw [e1] at hv
      obtain ⟨v1, vs1, g1, ⟨g2, _⟩, v2, vs2, g3, ⟨g4, _⟩, g5⟩ := hv
      simp only [VsR] at g5
      subst g2; subst g4; subst g5; subst g3
      cases hp
      have e2 : (Array.map a.eval c.args).toList = [.int k p, .int k' q] := by rw [Array.toList_map]; exact g1
      refine ⟨.int k (if q < p then q else p), fun w' => ?_, rfl, rfl⟩
      simp [execOp, ho, resolve, hcal, invoke, builtin, Builtin.min_]
      rw [← Array.toList_map, e2]
      simp [Builtin.min2]
    · cases hp
  · rename_i hcal
    split at hp
    · rename_i k p k' q e1
      have hv := evs_ok h c.args.toList
      rw [e1] at hv
      obtain ⟨v1, vs1, g1, ⟨g2, _⟩, v2, vs2, g3, ⟨g4, _⟩, g5⟩ := hv
      simp only [VsR] at g5
      subst g2; subst g4; subst g5; subst g3
      cases hp
      have e2 : (Array.map a.eval c.args).toList = [.int k p, .int k' q] := by rw [Array.toList_map]; exact g1
      refine ⟨.int k (if q > p then q else p), fun w' => ?_, rfl, rfl⟩
      simp [execOp, ho, resolve, hcal, invoke, builtin, Builtin.max_]
      rw [← Array.toList_map, e2]
      simp [Builtin.max2]
    · cases hp
  · cases hp

/-- WHAT LOOKS AT NO MEMORY YIELDS IN EVERY WORLD WHAT THE EVALUATOR SAYS. -/
theorem yl (hT : TysOk P Γ.ty) (h : Rel B0 w0 σ a w C L) {o : Oper} {v : V} (hp : pureV Γ o σ = some (true, v)) : Yl P C w o a v := by
  cases ho : o.op with
  | move y => simp only [pureV, ho] at hp; cases hp; exact ⟨_, fun w' => by simp only [execOp, ho]; rfl, h.ev y⟩
  | assign y => simp only [pureV, ho] at hp; cases hp; exact ⟨_, fun w' => by simp only [execOp, ho]; rfl, h.ev y⟩
  | build t parts =>
    simp only [pureV, ho] at hp
    split at hp
    · rename_i ty ht
      split at hp
      · rename_i hs
        split at hp
        · rename_i cs hf
          cases hp
          exact yl_build hT h ho ht hs hf
        · cases hp
      · cases hp
    · cases hp
  | nilCheck y =>
    have hy := h.ev y
    simp only [pureV, ho] at hp
    split at hp
    · rename_i k c e
      rw [e] at hy
      split at hp
      · rename_i hb
        cases hp
        obtain ⟨b, g1, g2⟩ := h.pb hy hb
        exact ⟨_, fun w' => by simp only [execOp, ho, g2]; rfl, g2 ▸ hy⟩
      · cases hp
    · rename_i k i c e
      rw [e] at hy
      split at hp
      · rename_i hb
        cases hp
        obtain ⟨cv, n', b, x, l, cap, g1, g2, g3, g4⟩ := h.pa hy hb
        exact ⟨_, fun w' => by simp only [execOp, ho, g4]; rfl, g4 ▸ hy⟩
      · cases hp
    · rename_i r d c e
      rw [e] at hy
      cases hp
      have hy' := hy
      obtain ⟨b, x, vs, F, g1, g2⟩ := hy
      exact ⟨_, fun w' => by simp only [execOp, ho, g1]; rfl, g1 ▸ hy'⟩
    · rename_i cs c e
      rw [e] at hy
      cases hp
      have hy' := hy
      obtain ⟨b, vs, ty, g1, g2⟩ := hy
      exact ⟨_, fun w' => by simp only [execOp, ho, g1]; rfl, g1 ▸ hy'⟩
    · cases hp
  | binOp op t y z u => exact yl_binOp hT h ho hp
  | unOp op t y =>
    have hy := h.ev y
    simp only [pureV, ho] at hp
    split at hp
    · rename_i v1 e
      rw [e] at hy
      have ey : a.eval y = v1 := hy.1
      split at hp
      · rename_i x hb
        cases hp
        refine ⟨x, fun w' => ?_, rfl, (unop_ok (P := P) hb default).2⟩
        simp only [execOp, ho, ey]
        exact run_v _ (unop_ok hb w').1
      · cases hp
    · cases hp
  | convert u t y =>
    have hy := h.ev y
    simp only [pureV, ho] at hp
    split at hp
    · rename_i tu ty k n h1 h2 e
      rw [e] at hy
      have ey : a.eval y = .int k n := hy.1
      split at hp
      · rename_i k' hk
        cases hp
        have hu := (hT t ty h2).int hk
        obtain ⟨d, hd, _⟩ := (hT u tu h1).und
        refine ⟨.int k' (k'.wrap n), fun w' => ?_, rfl, rfl⟩
        simp only [execOp, ho, ey]
        refine run_v _ ?_
        simp [convert, run_underlying hd, run_underlying hu, Conv.intToInt]
      · cases hp
    · cases hp
  | makeFunc f first caps =>
    cases f with
    | func g =>
      simp only [pureV, ho] at hp
      split at hp
      · rename_i hf
        cases hp
        have : first = #[] := by simpa using hf
        subst this
        refine ⟨.func (.func g) #[] (caps.map a.eval), fun w' => by simp [execOp, ho, Instr.makeFunc], (caps.toList.map a.eval), ?_, evs_ok h _⟩
        congr 1
        apply Array.ext'
        simp
      · cases hp
    | _ => simp [pureV, ho] at hp
  | slice t y lo hi mx =>
    cases mx with
    | none => exact yl_slice hT h ho hp
    | some _ => simp [pureV, ho] at hp
  | fieldAddr t y i => exact yl_fieldAddr hT h ho hp
  | field t y i => exact yl_field hT h ho hp
  | indexAddr t y i => exact yl_indexAddr hT h ho hp
  | index t y i => exact yl_index hT h ho hp
  | extract y i =>
    have hy := h.ev y
    simp only [pureV, ho] at hp
    split at hp
    · rename_i vs e
      rw [e] at hy
      obtain ⟨cs, ey, hc⟩ := hy
      split at hp
      · rename_i u hu
        cases hp
        obtain ⟨cv, g1, g2⟩ := hc.get hu
        exact ⟨cv, fun w' => by simp [execOp, ho, ey, Instr.extract, g1], g2⟩
      · cases hp
    · cases hp
  | call c => exact yl_call hT h ho hp
  | _ => simp [pureV, ho] at hp

end
end Go.Ev
