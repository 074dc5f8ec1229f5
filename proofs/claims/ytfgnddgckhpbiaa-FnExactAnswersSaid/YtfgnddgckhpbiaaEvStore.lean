/- Slices made and written: the machine does what the evaluator says. -/
import Derived.Test.YtfgnddgckhpbiaaEvNew
import Derived.Deep.AppendSrc
set_option linter.unusedVariables false
namespace Go.Ev
open Go.RowKit

def RowsD {δ : Type} (R : δ → List Value → List Nat → Prop) (n : Nat) : List δ → List Value → List Nat → Prop
  | [], vs, F => vs = [] ∧ F = []
  | x :: xs, vs, F => ∃ v1 v2 F1 F2, vs = v1 ++ v2 ∧ F = F1 ++ F2 ∧ v1.length = n ∧ R x v1 F1 ∧ RowsD R n xs v2 F2
theorem RowsD.len {δ : Type} {R : δ → List Value → List Nat → Prop} {n : Nat} : {xs : List δ} → {vs : List Value} → {F : List Nat} → RowsD R n xs vs F → vs.length = xs.length * n
  | [], _, _, h => by rw [h.1]; simp
  | x :: xs, _, _, ⟨v1, v2, F1, F2, h1, h2, h3, h4, h5⟩ => by rw [h1, List.length_append, h3, RowsD.len h5, List.length_cons, Nat.add_mul]; omega
theorem RowsD.append {δ : Type} {R : δ → List Value → List Nat → Prop} {n : Nat} : {xs : List δ} → {vs : List Value} → {F : List Nat} → RowsD R n xs vs F → {ys : List δ} → {us : List Value} → {G : List Nat} → RowsD R n ys us G → RowsD R n (xs ++ ys) (vs ++ us) (F ++ G)
  | [], _, _, h, ys, us, G, h' => by rw [h.1, h.2]; exact h'
  | x :: xs, _, _, ⟨v1, v2, F1, F2, h1, h2, h3, h4, h5⟩, ys, us, G, h' => ⟨v1, v2 ++ us, F1, F2 ++ G, by rw [h1, List.append_assoc], by rw [h2, List.append_assoc], h3, h4, RowsD.append h5 h'⟩
theorem RowsD.imp {δ : Type} {R R' : δ → List Value → List Nat → Prop} {n : Nat} : {xs : List δ} → {vs : List Value} → {F : List Nat} → RowsD R n xs vs F → (∀ x vs F', (∀ k ∈ F', k ∈ F) → R x vs F' → R' x vs F') → RowsD R' n xs vs F
  | [], _, _, h, _ => h
  | x :: xs, _, _, ⟨v1, v2, F1, F2, h1, h2, h3, h4, h5⟩, hi => ⟨v1, v2, F1, F2, h1, h2, h3, hi _ _ _ (fun k hk => by rw [h2]; simp [hk]) h4, RowsD.imp h5 (fun x vs F' hk => hi x vs F' (fun k h => by rw [h2]; simp [hk k h]))⟩
theorem RowsD.rows {δ : Type} {R : δ → List Value → List Nat → Prop} {w : World} {n b : Nat} : {xs : List δ} → {vs : List Value} → {F : List Nat} → RowsD R n xs vs F → ∀ {o : Nat}, (∀ q v, vs[q]? = some v → w.cell? ⟨b, o + q, none⟩ = some v) → RowsR R w n b xs o F
  | [], _, _, h, _, _ => h.2
  | x :: xs, _, _, ⟨v1, v2, F1, F2, h1, h2, h3, h4, h5⟩, o, hc => ⟨v1, F1, F2, h2, h3, fun j v hj => hc j v (by
      have hlt : j < v1.length := by
        rcases Nat.lt_or_ge j v1.length with h | h
        · exact h
        · rw [List.getElem?_eq_none h] at hj; cases hj
      rw [h1, List.getElem?_append_left hlt]; exact hj), h4, RowsD.rows h5 (fun q v hq => by
      have := hc (n + q) v (by rw [h1, List.getElem?_append_right (by omega), h3, Nat.add_sub_cancel_left]; exact hq)
      rwa [← Nat.add_assoc] at this)⟩
theorem RowsR.data {δ : Type} {R : δ → List Value → List Nat → Prop} {w : World} {n b : Nat} : {xs : List δ} → {o : Nat} → {F : List Nat} → RowsR R w n b xs o F → ∃ vs, RowsD R n xs vs F ∧ ∀ q v, vs[q]? = some v → w.cell? ⟨b, o + q, none⟩ = some v
  | [], _, _, h => ⟨[], ⟨rfl, h⟩, fun q v hq => by simp at hq⟩
  | x :: xs, o, _, ⟨vs, F1, F2, hF, hn, hc, hR, hr⟩ => by
    obtain ⟨us, h1, h2⟩ := RowsR.data hr
    refine ⟨vs ++ us, ⟨vs, us, F1, F2, rfl, hF, hn, hR, h1⟩, fun q v hq => ?_⟩
    by_cases hlt : q < vs.length
    · rw [List.getElem?_append_left hlt] at hq; exact hc q v hq
    · rw [List.getElem?_append_right (by omega)] at hq
      have := h2 _ _ hq
      rwa [show o + n + (q - vs.length) = o + q by omega] at this
theorem RowsD.rep {δ : Type} {R : δ → List Value → List Nat → Prop} {d : δ} {zs : List Value} (h : R d zs []) : ∀ k, RowsD R zs.length (List.replicate k d) (List.replicate k zs).flatten []
  | 0 => ⟨rfl, rfl⟩
  | k + 1 => ⟨zs, (List.replicate k zs).flatten, [], [], by simp [List.replicate_succ], rfl, rfl, h, RowsD.rep h k⟩

theorem zeros_list (zs : Array Value) : ∀ k, ((Array.range (k * zs.size)).map (zs[· % zs.size]!)).toList = (List.replicate k zs.toList).flatten := by
  intro k
  apply List.ext_getElem?
  intro q
  by_cases hz : zs.size = 0
  · have : zs = #[] := Array.eq_empty_of_size_eq_zero hz
    subst this
    simp
  induction k generalizing q with
  | zero => simp
  | succ k ih =>
    rw [List.replicate_succ, List.flatten_cons]
    by_cases hq : q < zs.size
    · rw [List.getElem?_append_left (by simpa using hq)]
      have : q < (k + 1) * zs.size := by rw [Nat.add_mul]; omega
      simp [this, Nat.mod_eq_of_lt hq, hq, getElem!_pos]
    · rw [List.getElem?_append_right (by simp; omega)]
      have := ih (q - zs.toList.length)
      rw [← this]
      simp only [Array.toList_map, Array.toList_range, List.getElem?_map, Array.length_toList]
      by_cases hq2 : q < (k + 1) * zs.size
      · have h3 : q - zs.size < k * zs.size := by rw [Nat.add_mul] at hq2; omega
        rw [List.getElem?_range hq2, List.getElem?_range h3]
        simp only [Option.map_some]
        congr 2
        rw [← Nat.mod_eq_sub_mod (by omega)]
      · rw [List.getElem?_eq_none (by simpa using hq2), List.getElem?_eq_none (by simp; rw [Nat.add_mul] at hq2; omega)]

section
variable {P : Program} {Γ : Env} {B0 : Nat} {w0 : World} {σ : St} {a : Act} {w : World} {C : Cx} {L : Nat → List Nat}

theorem run_v2 (s : Sem Value) {x : Value} {w' w2 : World} (h : s.run P w' = .ok x w2) : (do let r ← s; pure (.value r) : Sem Next).run P w' = .ok (.value x) w2 := by
  rw [Sem.run_bind, h]; rfl

theorem eff_makeSlice (hT : TysOk P Γ.ty) (h : Rel B0 w0 σ a w C L) {o : Oper} {t : TypeId} {l c : Operand} (ho : o.op = .makeSlice t l c) {b : Nat} (hb : ∀ k, b ≤ k → k < b + 256 → ¬ C.U k) {K : St → Option Ret} {r : Ret} (hp : effect Γ b o σ K = some r) {Q : Exit → Act → World → Prop} :
    o.wp P a w (Nxt Γ.lend B0 w0 o σ w C L b K r) Q := by
  have hl := h.ev l
  have hc := h.ev c
  simp only [effect, ho] at hp
  split at hp
  · rename_i ty n m ht e1 e2
    rw [e1] at hl; rw [e2] at hc
    have el : a.eval l = .int .i64 n := hl.1
    have ec : a.eval c = .int .i64 m := hc.1
    split at hp
    · rename_i hst
      obtain ⟨e, hu, i, z, hi, hn, hby, hz, hzs, hzR⟩ := (hT t ty ht).sl hst
      cases hcnd : (n == m && decide (0 ≤ n) && decide (n.toNat * ty.bytes ≤ boundBytes) && decide (n ≤ 4611686018427387904)) with
      | false => rw [hcnd] at hp; cases hp
      | true =>
        rw [hcnd] at hp
        simp only [Bool.and_eq_true, beq_iff_eq, decide_eq_true_eq, boundBytes] at hcnd
        obtain ⟨⟨⟨rfl, h0⟩, h1⟩, h2⟩ := hcnd
        have hw : IntKind.i64.wrap n = n := by
          have : IntKind.i64.wrap n = Go.RowKit.wrap64 n := by
            simp only [IntKind.wrap, IntKind.bits, IntKind.signed, Go.RowKit.wrap64, Bool.true_and]
            split <;> simp_all <;> omega
          rw [this]; unfold Go.RowKit.wrap64; omega
        have hbig : ¬ ((i.bytes : Int) * n > 281474976710656) := by
          rw [hby]
          have h1' : n.toNat * ty.bytes ≤ 140737488355328 := of_decide_eq_true h1
          have : ((n.toNat * ty.bytes : Nat) : Int) ≤ ((140737488355328 : Nat) : Int) := Int.ofNat_le.2 h1'
          rw [Int.natCast_mul, Int.toNat_of_nonneg h0, Int.mul_comm] at this
          omega
        have hcells : ((Array.range (n.toNat * i.size)).map (((if n.toNat * i.size = 0 then #[] else z.cells) : Array Value)[· % ((if n.toNat * i.size = 0 then #[] else z.cells) : Array Value).size]!)).toList = (List.replicate n.toNat z.cells.toList).flatten := by
          by_cases hz0 : n.toNat * i.size = 0
          · rw [hz0]
            simp only [if_true]
            rcases Nat.mul_eq_zero.1 hz0 with hz1 | hz1
            · rw [hz1]; simp
            · have : z.cells.toList = [] := List.eq_nil_of_length_eq_zero (by rw [Array.length_toList, hzs, ← hn, hz1])
              rw [this]; simp
          · rw [if_neg hz0, hn, ← hzs]
            exact zeros_list z.cells n.toNat
        obtain ⟨C', L', g1, g2, g3, g4, g5, g6⟩ := h.newArr (hb b (Nat.le_refl _) (by omega)) (w1 := w.alloc (.cells ((Array.range (n.toNat * i.size)).map (((if n.toNat * i.size = 0 then #[] else z.cells) : Array Value)[· % ((if n.toNat * i.size = 0 then #[] else z.cells) : Array Value).size]!)) e (0, 0)))
          (c := (Array.range (n.toNat * i.size)).map (((if n.toNat * i.size = 0 then #[] else z.cells) : Array Value)[· % ((if n.toNat * i.size = 0 then #[] else z.cells) : Array Value).size]!)) (e := e) rfl (h.below.alloc h.hB0 _)
          (deep := true) (r := ty.row) (xs := List.replicate n.toNat ty.row.dflt) (n := n.toNat) (cap := n.toNat) (F := []) (by simp) (Nat.le_refl _) (by simp [hn])
          (fun w2 hnew hold => by
            have hD := RowsD.rep (R := RwR w2 (!true) ty.row) (d := ty.row.dflt) (zs := z.cells.toList) (hzR w2 _) n.toNat
            rw [show z.cells.toList.length = ty.row.n by simp [hzs]] at hD
            refine hD.rows (fun q v hq => ?_)
            rw [← hcells] at hq
            simp only [World.cell?, hnew, Nat.zero_add]
            rw [Array.getElem?_toList] at hq
            exact hq)
          (fun _ h => (nomatch h)) (fun _ => ⟨List.nodup_nil, fun _ h => (nomatch h), fun _ _ h => (nomatch h)⟩)
        refine wp_val (c := .slice (some ⟨w.heap.size, 0, none⟩) n.toNat n.toNat) (w' := w.alloc (.cells ((Array.range (n.toNat * i.size)).map (((if n.toNat * i.size = 0 then #[] else z.cells) : Array Value)[· % ((if n.toNat * i.size = 0 then #[] else z.cells) : Array Value).size]!)) e (0, 0))) ?_ ⟨⟨_, C', L', hp, g1.put o.dst ?_, g2, fun k hk => ?_, put_nx .., put_len .., put_io .., (g6 rfl (Org.refl w C L []) (fun _ h => (nomatch h))).wid⟩, fun x hx _ => alloc_old w _ x hx, by rw [alloc_size]; exact Nat.le_succ _⟩
        · have h3 : ¬ (n < 0) := by omega
          simp only [execOp, ho, el, ec]
          refine run_v2 _ ?_
          unfold Instr.makeSlice
          by_cases hz0 : n.toNat * i.size = 0
          · simp [run_underlying hu, asInt, asIntOf, rt_info hi, hw, hbig, h3, rt_size hi, hz0, newRow]
          · simp [run_underlying hu, asInt, asIntOf, rt_info hi, hw, hbig, h3, rt_size hi, hz0, rt_zero hi hz, newRow]
        · exact ⟨g5, rfl, fun cv n' hb' => by rw [g4] at hb'; cases hb'; rfl⟩
        · rcases g3 k hk with h | rfl
          · exact .inl h
          · exact .inr ⟨Nat.le_refl _, by omega⟩
    · cases hp
  · cases hp
theorem fillSl_ok {ty : Ty} : ∀ (parts : List (Nat × Operand)) (i : Nat) {σ1 : St} {C1 : Cx} {L1 : Nat → List Nat} (h : Rel B0 w0 σ1 a w C1 L1) {xs : List ty.row.T} {p : Bool} {ob' : Obs} (cells : Array Value),
    fillSl ty.row σ1 i parts σ1.ob = some (xs, p, ob') → (i + parts.length) * ty.row.n ≤ cells.size →
    ∃ out F C' L' vs, Instr.fill (fun j => some (j * ty.row.n, ty.row.n)) cells (parts.map fun (j, x) => (j, a.eval x)) = some out ∧ out.toList = cells.toList.take (i * ty.row.n) ++ vs ++ cells.toList.drop ((i + parts.length) * ty.row.n) ∧
      RowsD (RwR w (!p) ty.row) ty.row.n xs vs F ∧ xs.length = parts.length ∧ Gave B0 w0 σ1 a w C1 L1 ob' p F C' L'
  | [], i, σ1, C1, L1, h, xs, p, ob', cells, hf, hs => by
    simp only [fillSl, Option.some.injEq, Prod.mk.injEq] at hf
    obtain ⟨rfl, rfl, rfl⟩ := hf
    exact ⟨cells, [], C1, L1, [], rfl, by simp, ⟨rfl, rfl⟩, rfl, Gave.refl h _⟩
  | (j, x) :: rest, i, σ1, C1, L1, h, xs, p, ob', cells, hf, hs => by
    simp only [fillSl] at hf
    split at hf
    · rename_i hij
      subst hij
      split at hf
      · cases hf
      · rename_i d p1 ob1 hg
        split at hf
        · cases hf
        · rename_i ds p2 ob2 hr
          cases hf
          obtain ⟨us, hus, hg⟩ := Option.bind_eq_some_iff.1 hg
          obtain ⟨k1, k2⟩ := (h.ev x).cellsO hus
          obtain ⟨F1, C2, L2, g1, g2⟩ := Rw.give_ok ty.row h k1 hg
          have hlen := RwR.len ty.row g1
          have hsz : (a.eval x).cells.size = ty.row.n := by rw [← hlen]; simp
          simp only [List.length_cons] at hs
          have hs1 : i * ty.row.n + ty.row.n ≤ cells.size := Nat.le_trans (by rw [← Nat.succ_mul]; exact Nat.mul_le_mul_right _ (by omega)) hs
          have hfe := fill_eq (i * ty.row.n) (a.eval x) cells (by omega)
          rw [hsz] at hfe
          have hr' : fillSl ty.row { σ1 with ob := ob1 } (i + 1) rest ob1 = some (ds, p2, ob') := by
            have key : ∀ (ps : List (Nat × Operand)) (q : Nat) (ob : Obs), fillSl ty.row { σ1 with ob := ob1 } q ps ob = fillSl ty.row σ1 q ps ob := by
              intro ps
              induction ps with
              | nil => intro q ob; rfl
              | cons y ps ih =>
                intro q ob
                obtain ⟨y1, y2⟩ := y
                simp only [fillSl, ih]
                rfl
            rw [key]; exact hr
          have hsz2 : ((a.eval x).cells.zipIdx.foldl (fun (cs : Array Value) (x : Value × Nat) => cs.setIfInBounds (i * ty.row.n + x.2) x.1) cells).size = cells.size := by
            rw [← Array.length_toList, hfe]; simp; omega
          obtain ⟨out, F2, C3, L3, vs, q1, q2, q3, q4, q5⟩ := fillSl_ok rest (i + 1) g2.rel (xs := ds) (p := p2) (ob' := ob') ((a.eval x).cells.zipIdx.foldl (fun (cs : Array Value) (x : Value × Nat) => cs.setIfInBounds (i * ty.row.n + x.2) x.1) cells) hr' (by rw [hsz2]; exact Nat.le_trans (by rw [show i + 1 + rest.length = i + (rest.length + 1) by omega]; exact Nat.le_refl _) hs)
          refine ⟨out, F1 ++ F2, C3, L3, (a.eval x).cells.toList ++ vs, ?_, ?_, ?_, by simp [q4], g2.trans q5⟩
          · simp only [List.map_cons, Instr.fill]
            rw [if_neg (by simp [hsz]; omega)]
            exact q1
          · rw [q2, hfe]
            have hA : (cells.toList.take (i * ty.row.n) ++ (a.eval x).cells.toList).length = (i + 1) * ty.row.n := by
              simp [hsz, Nat.succ_mul]; omega
            rw [List.take_append_of_le_length (by rw [hA]; exact Nat.le_refl _), ← hA, List.take_length]
            rw [List.drop_append, hA, List.drop_eq_nil_of_le (by rw [hA]; exact Nat.mul_le_mul_right _ (by omega))]
            simp only [List.nil_append, List.append_assoc, List.drop_drop]
            congr 4
            simp only [List.length_cons]
            rw [show i + 1 + rest.length = i + (rest.length + 1) by omega, show i * ty.row.n + ty.row.n = (i + 1) * ty.row.n by rw [Nat.succ_mul]]
            have : (i + 1) * ty.row.n ≤ (i + (rest.length + 1)) * ty.row.n := Nat.mul_le_mul_right _ (by omega)
            omega
          · refine ⟨_, _, F1, F2, rfl, rfl, by simpa using hsz, RwR.imp (by cases p1 <;> cases p2 <;> simp) ty.row g1 (fun _ _ => rfl), q3.imp (fun x vs F' hk hR => RwR.imp (by cases p1 <;> cases p2 <;> simp) ty.row hR (fun _ _ => rfl))⟩
    · cases hf

theorem eff_buildSlice (hT : TysOk P Γ.ty) (h : Rel B0 w0 σ a w C L) {o : Oper} {t : TypeId} {len : Nat} {parts : Array (Nat × Operand)} (ho : o.op = .buildSlice t len parts) {b : Nat} (hb : ∀ k, b ≤ k → k < b + 256 → ¬ C.U k) {K : St → Option Ret} {r : Ret} (hp : effect Γ b o σ K = some r) {Q : Exit → Act → World → Prop} :
    o.wp P a w (Nxt Γ.lend B0 w0 o σ w C L b K r) Q := by
  simp only [effect, ho] at hp
  split at hp
  · rename_i ty ht
    split at hp
    · rename_i hst
      obtain ⟨e, hu, i, z, hi, hn, hby, hz, hzs, hzR⟩ := (hT t ty ht).sl hst
      split at hp
      · rename_i xs deep ob' hf
        split at hp
        · rename_i hlen
          split at hp
          · rename_i hbig
            have hlen' : parts.toList.length = len := by simpa using hlen
            have hcs0 : ((Array.range (len * i.size)).map (((if len * i.size = 0 then #[] else z.cells) : Array Value)[· % ((if len * i.size = 0 then #[] else z.cells) : Array Value).size]!)).size = len * ty.row.n := by simp [hn]
            obtain ⟨out, F, C1, L1, vs, q1, q2, q3, q4, q5⟩ := fillSl_ok parts.toList 0 h ((Array.range (len * i.size)).map (((if len * i.size = 0 then #[] else z.cells) : Array Value)[· % ((if len * i.size = 0 then #[] else z.cells) : Array Value).size]!)) hf (by rw [hcs0, hlen']; simp)
            have hout : out.toList = vs := by
              rw [q2, hlen']
              have hl0 : (((Array.range (len * i.size)).map (((if len * i.size = 0 then #[] else z.cells) : Array Value)[· % ((if len * i.size = 0 then #[] else z.cells) : Array Value).size]!)).toList).length = len * ty.row.n := by rw [Array.length_toList, hcs0]
              rw [List.drop_eq_nil_of_le (by rw [hl0]; simp)]
              simp
            have hvl := q3.len
            rw [q4, hlen'] at hvl
            have hb1 : ∀ k, b ≤ k → k < b + 256 → ¬ C1.U k := by rw [q5.U]; exact hb
            obtain ⟨C', L', g1, g2, g3, g4, g5, g6⟩ := q5.rel.newArr (hb1 b (Nat.le_refl _) (by omega)) (w1 := w.alloc (.cells out e (0, 0))) (c := out) (e := e) rfl (q5.rel.below.alloc h.hB0 _)
              (deep := deep) (r := ty.row) (xs := xs) (n := len) (cap := len) (F := F) (by rw [q4, hlen']) (Nat.le_refl _) (by rw [← Array.length_toList, hout, hvl]; exact Nat.le_refl _)
              (fun w2 hnew hold => by
                refine (q3.imp (R' := RwR w2 (!deep) ty.row) (fun x vs F' hk hR => RwR.imp (fun h => h) ty.row hR (fun k hk' => hold k (q5.rel.nsz k (q5.N k (hk k hk')))))).rows (fun q v hq => ?_)
                rw [← hout] at hq
                simp only [World.cell?, hnew, Nat.zero_add]
                rw [Array.getElem?_toList] at hq
                exact hq)
              q5.N (fun hd => ⟨q5.nd hd, fun x hx => by obtain ⟨k, hk⟩ := q5.from_ hd x hx; exact (h.own k x hk).1, fun k x hx => q5.off hd x hx k⟩)
            refine wp_val (c := .slice (some ⟨w.heap.size, 0, none⟩) len len) (w' := w.alloc (.cells out e (0, 0))) ?_ ⟨⟨_, C', L', hp, g1.put o.dst ?_, q5.le.trans g2, fun k hk => ?_, put_nx .., put_len .., put_io .., (g6 rfl (q5.org []) (fun x hx hd => q5.from_ hd x hx)).wid⟩, fun x hx _ => alloc_old w _ x hx, by rw [alloc_size]; exact Nat.le_succ _⟩
            · simp only [execOp, ho]
              refine run_v2 _ ?_
              unfold Instr.buildSlice
              have hbig' : ¬ (16777216 < len * i.size) := by rw [hn]; omega
              have q1' : Instr.fill (fun j => some (j * i.size, i.size)) ((Array.range (len * i.size)).map (((if len * i.size = 0 then #[] else z.cells) : Array Value)[· % ((if len * i.size = 0 then #[] else z.cells) : Array Value).size]!)) (parts.map fun (j, x) => (j, a.eval x)).toList = some out := by
                rw [Array.toList_map, hn]
                rw [hn] at q1
                exact q1
              by_cases hz0 : len * i.size = 0
              · simp only [hz0, if_true] at q1'
                simp at q1'
                simp [run_underlying hu, rt_size hi, hz0, newRow, q1']
              · simp only [if_neg hz0] at q1'
                simp at q1'
                simp [run_underlying hu, rt_size hi, hz0, hbig', rt_zero hi hz, newRow, q1']
            · exact ⟨g5, rfl, fun cv n' hb' => by rw [g4] at hb'; cases hb'; rfl⟩
            · rcases g3 k hk with h | rfl
              · rw [q5.U] at h; exact .inl h
              · exact .inr ⟨Nat.le_refl _, by omega⟩
          · cases hp
        · cases hp
      · cases hp
    · cases hp
  · cases hp

end
end Go.Ev
