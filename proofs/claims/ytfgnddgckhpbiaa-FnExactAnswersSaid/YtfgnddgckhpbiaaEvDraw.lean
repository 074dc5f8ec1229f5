/- Regions whose operations may come in any order: the machine does what the evaluator says. -/
import Derived.Test.YtfgnddgckhpbiaaEvRun
import Derived.OrdersHeld
set_option linter.unusedVariables false
namespace Go.Ev
open Go.RowKit

theorem meet_self (x : Option Ret) : meet x x = x := by
  classical
  unfold meet
  rw [if_pos rfl]

theorem clean_iff {ops : Array Oper} {listed : Array Bool} : clean ops listed = true ↔ ∀ j o, ops[j]? = some o → isStore o = true → listed.getD j false = false := by
  unfold clean
  rw [List.all_eq_true]
  constructor
  · intro h j o ho hs
    have := h j (List.mem_range.2 (Array.getElem?_eq_some_iff.1 ho).1)
    simpa [ho, hs] using this
  · intro h j hj
    rw [List.mem_range] at hj
    have ho : ops[j]? = some ops[j] := Array.getElem?_eq_getElem hj
    cases hs : isStore ops[j] with
    | false => simp [ho, hs]
    | true => simpa [ho, hs] using h j _ ho hs
theorem clean_back {ops : Array Oper} {listed : Array Bool} {i : Nat} (h : clean ops (listed.setIfInBounds i true) = true) : clean ops listed = true := by
  rw [clean_iff] at *
  intro j o ho hs
  have h1 := h j o ho hs
  cases h2 : listed.getD j false with
  | false => rfl
  | true => rw [getD_set_true h2] at h1; exact h1
theorem clean_set {ops : Array Oper} {listed : Array Bool} {i : Nat} (h : clean ops listed = true) (hi : ∀ o, ops[i]? = some o → isStore o = false) : clean ops (listed.setIfInBounds i true) = true := by
  rw [clean_iff] at *
  intro j o ho hs
  have : i ≠ j := fun e => by subst e; rw [hi o ho] at hs; cases hs
  rw [getD_set_ne false this]
  exact h j o ho hs

section
variable {P : Program} {ops : Array Oper} {Q : Exit → Act → World → Prop} {S : World → Prop}

/-- Whatever order comes; and S holds behind every operation, until a store has come up. -/
def wpAnyM (P : Program) (ops : Array Oper) (Q : Exit → Act → World → Prop) (S : World → Prop) : Nat → Array Bool → Act → World → Prop
  | 0, listed, a, w => Region.ready .any ops listed = [] ∧ Q .normal a w
  | fuel + 1, listed, a, w =>
    (Region.ready .any ops listed = [] → Q .normal a w) ∧
    ∀ i ∈ Region.ready .any ops listed, wpOp P ops Q i (fun a' w' => (clean ops (listed.setIfInBounds i true) = true → S w') ∧ wpAnyM P ops Q S fuel (listed.setIfInBounds i true) a' w') a w
theorem wpAny_of_M : ∀ (fuel : Nat) (listed : Array Bool) (a : Act) (w : World), wpAnyM P ops Q S fuel listed a w → wpAny P .any ops Q fuel listed a w
  | 0, _, _, _, h => h
  | fuel + 1, _, _, _, h => ⟨h.1, fun i hi => wpOp_mono (fun a' w' h' => wpAny_of_M fuel _ a' w' h'.2) (h.2 i hi)⟩
theorem wpAnyM.imp {S' : World → Prop} (hS : ∀ w, S' w → S w) : ∀ {fuel : Nat} {listed : Array Bool} {a : Act} {w : World}, wpAnyM P ops Q S' fuel listed a w → wpAnyM P ops Q S fuel listed a w
  | 0, _, _, _, h => h
  | fuel + 1, _, _, _, h => ⟨h.1, fun i hi => wpOp_mono (fun a' w' h' => ⟨fun hc => hS w' (h'.1 hc), wpAnyM.imp hS h'.2⟩) (h.2 i hi)⟩

theorem wpAnyM_first {i : Nat} {oi : Oper} {v : Value} {SY : World → Prop} {I : Array Bool → Prop} (hi : ops[i]? = some oi) (hst : isStore oi = false) (hsel : ∀ (j : Nat) (o : Oper) cs b, ops[j]? = some o → o.op ≠ .select cs b)
    (hQ : ∀ c a w, ¬ Q (.panic c) a w)
    (hI : ∀ listed j w', I listed → i ∈ Region.ready .any ops listed → j ∈ Region.ready .any ops listed → j ≠ i → (clean ops ((listed.setIfInBounds i true).setIfInBounds j true) = true → S w') → SY w' ∧ I (listed.setIfInBounds j true)) :
    ∀ (fuel : Nat) (listed : Array Bool) (a : Act) (w : World), I listed →
      (∀ j oj, ops[j]? = some oj → j ≠ i → listed.getD j true = false → (∀ e ∈ oj.after, Region.binds .any e = true → e.on ≠ i) → oi.apart ops oj = true) →
      i ∈ Region.ready .any ops listed → YieldsIf P ops SY oi v a → SY w → (clean ops (listed.setIfInBounds i true) = true → S w) →
      wpAnyM P ops Q S fuel (listed.setIfInBounds i true) (a.put oi.dst v) w → wpAnyM P ops Q S (fuel + 1) listed a w := by
  intro fuel
  induction fuel with
  | zero =>
    intro listed a w _ _ hr hy hSY hS H
    refine ⟨fun h => (by rw [h] at hr; cases hr), fun j hj => ?_⟩
    by_cases hji : j = i
    · subst hji; exact hy.wpOp hi hSY ⟨hS, H⟩
    · have := ready_mono hj hji
      rw [H.1] at this
      cases this
  | succ fuel ih =>
    intro listed a w hIl hfree hr hy hSY hS H
    refine ⟨fun h => (by rw [h] at hr; cases hr), fun j hj => ?_⟩
    by_cases hji : j = i
    · subst hji; exact hy.wpOp hi hSY ⟨hS, H⟩
    · have h1 := H.2 j (ready_mono hj hji)
      obtain ⟨hjun, oj, hoj, hall⟩ := mem_ready.1 hj
      have hnot : ∀ e ∈ oj.after, Region.binds .any e = true → e.on ≠ i := fun e he hb heq => by
        have h1 := hall e he hb
        have h0 := (mem_ready.1 hr).1
        rw [heq] at h1
        rcases Nat.lt_or_ge i listed.size with h' | h'
        · simp [h'] at h0 h1; rw [h0] at h1; cases h1
        · simp [Array.getElem?_eq_none h'] at h1
      have h2 := wpOp_putIf hoj (hfree j oj hoj hji hjun hnot) (fun cs b => hsel i oi cs b hi) (fun cs b => hsel j oj cs b hoj) (fun c a w h => absurd h (hQ c _ w)) hy h1
      have hfree' : ∀ k ok, ops[k]? = some ok → k ≠ i → (listed.setIfInBounds j true).getD k true = false →
          (∀ e ∈ ok.after, Region.binds .any e = true → e.on ≠ i) → oi.apart ops ok = true := fun k ok hk hki hun hno => by
        refine hfree k ok hk hki ?_ hno
        by_cases hjk : j = k
        · subst hjk; exact hjun
        · rw [getD_set_ne true hjk] at hun; exact hun
      refine wpOp_mono (fun a' w' h3 => ?_) h2
      obtain ⟨h4, h5, h6⟩ := h3
      obtain ⟨g1, g2⟩ := hI listed j w' hIl hr hj hji h5
      have h7 : clean ops (listed.setIfInBounds j true) = true → S w' := fun hc => h5 (by
        rw [Array.setIfInBounds_comm _ _ (Ne.symm hji)]
        exact clean_set hc (fun o ho => by rw [hi] at ho; cases ho; exact hst))
      refine ⟨h7, ih (listed.setIfInBounds j true) a' w' g2 hfree' (ready_mono hr (Ne.symm hji)) h4 g1 (fun hc => h7 (clean_back hc)) ?_⟩
      rw [Array.setIfInBounds_comm _ _ hji]
      exact h6

theorem storesWait_spec {i : Nat} (h : storesWait ops i = true) {j : Nat} {o : Oper} (ho : ops[j]? = some o) (hs : isStore o = true) : ∃ e ∈ o.after, Region.binds .any e = true ∧ e.on = i := by
  unfold storesWait at h
  rw [List.all_eq_true] at h
  have := h j (List.mem_range.2 (Array.getElem?_eq_some_iff.1 ho).1)
  simp only [ho, hs, Bool.not_true, Bool.false_or] at this
  obtain ⟨e, he, hb⟩ := Array.any_eq_true'.1 this
  simp only [Bool.and_eq_true, beq_iff_eq] at hb
  exact ⟨e, he, hb.1, hb.2⟩
end

section
variable {P : Program} {Γ : Env} {I : Nat → World → Prop} {B0 : Nat} {w0 : World}

/-- Blocks that nobody of the region writes. -/
def Prot (X T : List Nat) (b : Nat) (w : World) (C : Cx) (L : Nat → List Nat) : Prop := ∀ x ∈ X, x < w.heap.size ∧ (C.N x ∨ ∀ k, x ∈ L k → k ∉ T ∧ k < b)
def SX (X : List Nat) (wr w : World) : Prop := ∀ x ∈ X, w.heap[x]? = wr.heap[x]?

theorem Prot.next {X T : List Nat} {b : Nat} {w w' : World} {C C' : Cx} {L L' : Nat → List Nat} {Ts : List Nat} (h : Prot X T b w C L) (hT : ∀ k ∈ Ts, b ≤ k ∨ k ∈ T) (hle : C.Le w C' w') (ho : Org w C L Ts C' L') (hf : ∀ x, x < w.heap.size → (C.N x ∨ ∀ k ∈ Ts, x ∉ L k) → w'.heap[x]? = w.heap[x]?) (hs : w.heap.size ≤ w'.heap.size) :
    Prot X T b w' C' L' ∧ SX X w w' := by
  have key : ∀ x, (∀ k, x ∈ L k → k ∉ T ∧ k < b) → ∀ k ∈ Ts, x ∉ L k := by
    intro x hx k hk hh
    obtain ⟨h1, h2⟩ := hx k hh
    rcases hT k hk with h3 | h3
    · omega
    · exact h1 h3
  refine ⟨fun x hx => ?_, fun x hx => ?_⟩
  · obtain ⟨h1, h2⟩ := h x hx
    refine ⟨by omega, ?_⟩
    rcases h2 with h2 | h2
    · exact .inl (hle.N x h2)
    · by_cases hN : C'.N x
      · exact .inl hN
      · refine .inr (fun k hk => ?_)
        rcases ho.hd k x hk hN with h3 | h3 | ⟨j, hj, h3⟩
        · exact h2 k h3
        · omega
        · exact absurd h3 (key x h2 j hj)
  · obtain ⟨h1, h2⟩ := h x hx
    rcases h2 with h2 | h2
    · exact hle.w x h2
    · exact hf x h1 (.inr (key x h2))

theorem quiet_ok (hT : TysOk P Γ.ty) {T : List Nat} {b : Nat} {σ : St} {a : Act} {w : World} {C : Cx} {L : Nat → List Nat} (h : Rel B0 w0 σ a w C L) {ops : Array Oper} {o : Oper} (hg : o.guard = none) {K : St → Option Ret} {r : Ret} (hp : quiet Γ T b o σ K = some r) :
    ∃ v cv, VR C w v cv ∧ K (σ.put o.dst v) = some r ∧ isStore o = false ∧
      ((isLoad o = false ∧ ∀ w', (execOp a.eval o).run P w' = .ok (.value cv) w') ∨
      (isLoad o = true ∧ ∃ blk, blk < w.heap.size ∧ (C.N blk ∨ ∀ k, blk ∈ L k → k ∉ T ∧ k < b) ∧ ∀ w', w'.heap[blk]? = w.heap[blk]? → (execOp a.eval o).run P w' = .ok (.value cv) w')) := by
  unfold quiet at hp
  split at hp
  · rename_i c y z ho
    split at hp
    · rename_i c' ec
      have hc := h.ev c
      rw [ec] at hc
      have ec' : a.eval c = .bool c' := hc.1
      have hst : isStore o = false := by simp [isStore, ho]
      have hld : isLoad o = false := by simp [isLoad, ho]
      cases c' with
      | true => exact ⟨_, _, h.ev y, hp, hst, .inl ⟨hld, fun w' => by simp [execOp, ho, ec', asBool]⟩⟩
      | false => exact ⟨_, _, h.ev z, hp, hst, .inl ⟨hld, fun w' => by simp [execOp, ho, ec', asBool]⟩⟩
    · cases hp
  · split at hp
    · rename_i c v ep
      cases c with
      | true =>
        obtain ⟨cv, h1, h2⟩ := yl hT h ep
        refine ⟨v, cv, h2, hp, ?_, .inl ⟨?_, h1⟩⟩
        · cases ho : o.op <;> simp [isStore, ho] <;> simp [pureV, ho] at ep
        · cases ho : o.op <;> simp [isLoad, ho] <;> simp [pureV, ho] at ep
      | false => cases hp
    · split at hp
      · rename_i v el
        cases hl : loadable T b o σ with
        | false => rw [hl] at hp; cases hp
        | true =>
          rw [hl] at hp
          obtain ⟨cv, blk, h1, h2, h3⟩ := ld hT h el
          have hlo : isLoad o = true ∧ isStore o = false := by
            unfold loadV at el
            split at el
            · rename_i ho; simp [isLoad, isStore, ho]
            · cases el
          refine ⟨v, cv, h1, hp, hlo.2, .inr ⟨hlo.1, blk, ?_, ?_, h3⟩⟩
          · rcases h2 with h2 | ⟨k, _, h2, _⟩
            · exact h.nsz blk h2
            · exact (h.own k blk (List.mem_of_mem_head? h2)).2
          · rcases h2 with h2 | ⟨k, hm, h2, t, p, ho, ha⟩
            · exact .inl h2
            · refine .inr (fun j hj => ?_)
              have hjk : j = k := by
                by_cases e : j = k
                · exact e
                · exact absurd (List.mem_of_mem_head? h2) (h.dj j k e blk hj)
              subst hjk
              unfold loadable at hl
              rw [ho] at hl
              simp only at hl
              rcases ha with ⟨c, e⟩ | ⟨i, c, e⟩ <;> rw [e] at hl <;> simp only [Bool.and_eq_true, Bool.not_eq_true'] at hl
              · refine ⟨fun hm => ?_, Nat.le_of_ble_eq_true hl.1⟩
                have := hl.2
                simp at this
                exact this hm
              · refine ⟨fun hm => ?_, Nat.le_of_ble_eq_true hl.1⟩
                have := hl.2
                simp at this
                exact this hm
      · cases hp

theorem wpAnyM_done {P : Program} {ops : Array Oper} {Q : Exit → Act → World → Prop} {S : World → Prop} {listed : Array Bool} {a : Act} {w : World} (hr : Region.ready .any ops listed = []) (h : Q .normal a w) : ∀ fuel, wpAnyM P ops Q S fuel listed a w
  | 0 => ⟨hr, h⟩
  | _ + 1 => ⟨fun _ => h, by rw [hr]; simp⟩

def PlanGood (P : Program) (Γ : Env) (B0 : Nat) (w0 : World) (e : En) (ops : Array Oper) (T : List Nat) (b nx len : Nat) (K : St → Option Ret) (r : Ret) (Q : Exit → Act → World → Prop) (p : Plan) : Prop :=
  ∀ {n : Nat} {listed : Array Bool}, planOk ops p n listed = true → ∀ {X : List Nat} {wr : World} {σ : St} {a : Act} {w : World} {C : Cx} {L : Nat → List Nat} {done : List Nat}, Rel B0 w0 σ a w C L → Fr e σ w C L → Ux b done C → (∀ j ∈ done, listed.getD j false = true) → (∀ j ∈ done, j < ops.size) →
      (clean ops listed = true → Prot X T b w C L ∧ SX X wr w) → σ.nx = nx → σ.tm.length = len → runPlan Γ ops T b p σ K = some r → wpAnyM P ops Q (SX X wr) n listed a w
def ForksGood (P : Program) (Γ : Env) (B0 : Nat) (w0 : World) (e : En) (ops : Array Oper) (T : List Nat) (b nx len : Nat) (K : St → Option Ret) (r : Ret) (Q : Exit → Act → World → Prop) (f : Forks) : Prop :=
  ∀ {n : Nat} {listed : Array Bool}, forksOk ops f n listed = true → ∀ {X : List Nat} {wr : World}, (∀ i ∈ forksOf f, i ∈ Region.ready .any ops listed) → ∀ {σ : St} {a : Act} {w : World} {C : Cx} {L : Nat → List Nat} {done : List Nat}, Rel B0 w0 σ a w C L → Fr e σ w C L → Ux b done C → (∀ j ∈ done, listed.getD j false = true) → (∀ j ∈ done, j < ops.size) →
      (clean ops listed = true → Prot X T b w C L ∧ SX X wr w) → σ.nx = nx → σ.tm.length = len → runForks Γ ops T b f σ K = some r →
      ∀ i ∈ forksOf f, wpOp P ops Q i (fun a' w' => (clean ops (listed.setIfInBounds i true) = true → SX X wr w') ∧ wpAnyM P ops Q (SX X wr) n (listed.setIfInBounds i true) a' w') a w

theorem loud_ok {e : En} (hT : TysOk P Γ.ty) (hI : I B0 w0) (hΓ : FnsOk P I Γ) {ops : Array Oper} (hsel : Region.noSelect ops = true) {T : List Nat} {b nx len : Nat} {K : St → Option Ret} {r : Ret} {Q : Exit → Act → World → Prop} (hQ : ∀ a w, AtN B0 w0 e b (List.range ops.size) nx len K r a w → Q .normal a w) (hQp : ∀ c a w, ¬ Q (.panic c) a w)
    {p : Plan} (IH : PlanGood P Γ B0 w0 e ops T b nx len K r Q p) {n : Nat} {listed : Array Bool} {i : Nat} (hok : planOk ops p n (listed.setIfInBounds i true) = true) {X : List Nat} {wr : World} {o : Oper} (ho : ops[i]? = some o) (hg : o.guard = none) (hready : i ∈ Region.ready .any ops listed) {σ : St} {a : Act} {w : World} {C : Cx} {L : Nat → List Nat} {done : List Nat} (hR : Rel B0 w0 σ a w C L) (hF : Fr e σ w C L) (hU : Ux b done C) (hd : ∀ j ∈ done, listed.getD j false = true) (hds : ∀ j ∈ done, j < ops.size)
      (hX : clean ops listed = true → Prot X T b w C L ∧ SX X wr w) (h1 : σ.nx = nx) (h2 : σ.tm.length = len) (hp : loud Γ T b i o σ (fun σ' => runPlan Γ ops T b p σ' K) = some r) :
      wpOp P ops Q i (fun a' w' => (clean ops (listed.setIfInBounds i true) = true → SX X wr w') ∧ wpAnyM P ops Q (SX X wr) n (listed.setIfInBounds i true) a' w') a w := by
    unfold loud at hp
    cases hc : (isStore o || (touched Γ.lend o σ).all (fun k => Nat.ble b k || T.contains k)) with
    | false => rw [hc] at hp; cases hp
    | true =>
      rw [hc] at hp
      simp only [cond_true] at hp
      have hlt : i < ops.size := (Array.getElem?_eq_some_iff.1 ho).1
      have h0 := (mem_ready.1 hready).1
      have hls : i < listed.size := by
        rcases Nat.lt_or_ge i listed.size with h | h
        · exact h
        · simp [Array.getElem?_eq_none h] at h0
      have hid : i ∉ done := fun hi => by
        have := hd i hi
        simp [hls] at this h0
        rw [this] at h0; cases h0
      have hd' : ∀ j ∈ i :: done, (listed.setIfInBounds i true).getD j false = true := by
        intro j hj
        rcases List.mem_cons.1 hj with rfl | hj
        · simp [hls]
        · exact getD_set_true (hd j hj)
      have hds' : ∀ j ∈ i :: done, j < ops.size := by
        intro j hj
        rcases List.mem_cons.1 hj with rfl | hj
        · exact hlt
        · exact hds j hj
      unfold wpOp
      rw [ho]
      simp only
      rw [if_pos (by simp [Region.wanted, hg])]
      refine .inl (Oper.wp_mono (fun a' w' hn => ?_) (step_ok hT hI hΓ hR (hU.free hid) hp))
      obtain ⟨σ', C', L', g1, g2, g3, g4, g5, g6, g8, g7⟩ := hn.ex
      have hX' : clean ops (listed.setIfInBounds i true) = true → Prot X T b w' C' L' ∧ SX X wr w' := by
        intro hcl
        have hst : isStore o = false := by
          cases hs : isStore o with
          | false => rfl
          | true =>
            have := clean_iff.1 hcl i o ho hs
            simp [hls] at this
        obtain ⟨hP, hS⟩ := hX (clean_back hcl)
        rw [hst, Bool.false_or, List.all_eq_true] at hc
        obtain ⟨r1, r2⟩ := hP.next (fun k hk => by
          have := hc k hk
          simp only [Bool.or_eq_true] at this
          rcases this with h | h
          · exact .inl (Nat.le_of_ble_eq_true h)
          · exact .inr (by simpa using h)) g3 g7 hn.fr hn.sz
        exact ⟨r1, fun x hx => (r2 x hx).trans (hS x hx)⟩
      exact ⟨fun hcl => (hX' hcl).2, IH hok g2 (hF.next g8 g3 g7 hn.fr hn.sz) (hU.next g4) hd' hds' hX' (g5.trans h1) (g6.trans h2) g1⟩

theorem plan_done {e : En} (hT : TysOk P Γ.ty) (hI : I B0 w0) (hΓ : FnsOk P I Γ) {ops : Array Oper} (hsel : Region.noSelect ops = true) {T : List Nat} {b nx len : Nat} {K : St → Option Ret} {r : Ret} {Q : Exit → Act → World → Prop} (hQ : ∀ a w, AtN B0 w0 e b (List.range ops.size) nx len K r a w → Q .normal a w) (hQp : ∀ c a w, ¬ Q (.panic c) a w) : PlanGood P Γ B0 w0 e ops T b nx len K r Q .done := by
  intro n listed hok X wr σ a w C L done hR hF hU hd hds hX h1 h2 hp
  simp only [planOk, List.isEmpty_iff] at hok
  refine wpAnyM_done hok (hQ a w ⟨σ, hp, ⟨C, L, hR, hF, fun k hk => (hU k hk).imp id (fun ⟨j, hj, h⟩ => ⟨j, List.mem_range.2 (hds j hj), h⟩)⟩, h1, h2⟩) n

theorem plan_take {e : En} (hT : TysOk P Γ.ty) (hI : I B0 w0) (hΓ : FnsOk P I Γ) {ops : Array Oper} (hsel : Region.noSelect ops = true) {T : List Nat} {b nx len : Nat} {K : St → Option Ret} {r : Ret} {Q : Exit → Act → World → Prop} (hQ : ∀ a w, AtN B0 w0 e b (List.range ops.size) nx len K r a w → Q .normal a w) (hQp : ∀ c a w, ¬ Q (.panic c) a w) {i : Nat} {p : Plan} (IH0 : PlanGood P Γ B0 w0 e ops T b nx len K r Q p) : PlanGood P Γ B0 w0 e ops T b nx len K r Q (.take i p) := by
  intro n
  cases n with
  | zero => intro listed hok; simp [planOk] at hok
  | succ n =>
    intro listed hok X wr σ a w C L done hR hF hU hd hds hX h1 h2 hp
    simp only [planOk, Bool.and_eq_true] at hok
    obtain ⟨⟨⟨k1, k2⟩, k3⟩, k4⟩ := hok
    simp only [runPlan] at hp
    split at hp
    · rename_i o ho
      simp only [ho, Bool.and_eq_true, Option.isNone_iff_eq_none] at k3
      have hready : i ∈ Region.ready .any ops listed := by simpa using k1
      have hlt : i < ops.size := (Array.getElem?_eq_some_iff.1 ho).1
      obtain ⟨v, cv, g1, g2, g3, g4⟩ := quiet_ok hT hR (ops := ops) k3.1 hp
      have hwant : Region.wanted o (yielded ops a.tmps) = true := by simp [Region.wanted, k3.1]
      have hd' : ∀ j ∈ i :: done, (listed.setIfInBounds i true).getD j false = true := by
        intro j hj
        rcases List.mem_cons.1 hj with rfl | hj
        · have h0 := (mem_ready.1 hready).1
          have hls : j < listed.size := by
            rcases Nat.lt_or_ge j listed.size with h | h
            · exact h
            · simp [Array.getElem?_eq_none h] at h0
          simp [hls]
        · exact getD_set_true (hd j hj)
      have hds' : ∀ j ∈ i :: done, j < ops.size := by
        intro j hj
        rcases List.mem_cons.1 hj with rfl | hj
        · exact hlt
        · exact hds j hj
      have hU' : Ux b (i :: done) C := fun k hk => (hU k hk).imp id (fun ⟨j, hj, h⟩ => ⟨j, by simp [hj], h⟩)
      rcases g4 with ⟨hl, g4⟩ | ⟨hl, blk, q1, q2, q3⟩
      · have IH := IH0 k4 (X := X) (wr := wr) (hR.put o.dst g1) { hF with io := by rw [put_io]; exact hF.io } hU' hd' hds' (fun hc => hX (clean_back hc)) (by rw [put_nx]; exact h1) (by rw [put_len]; exact h2) g2
        exact wpAnyM_first (SY := fun _ => True) (I := fun _ => True) ho g3 (Region.noSelect_spec hsel) hQp (fun _ _ _ _ _ _ _ _ => ⟨trivial, trivial⟩) n listed a w trivial (Region.free_spec ho k2) hready (.inl ⟨hwant, fun w' _ => g4 w'⟩) trivial (fun hc => (hX (clean_back hc)).2) IH
      · have hcl : clean ops listed = true ∧ storesWait ops i = true := by simpa [hl] using k3.2
        obtain ⟨hP, hS⟩ := hX hcl.1
        have IH := IH0 k4 (X := blk :: X) (wr := w) (hR.put o.dst g1) { hF with io := by rw [put_io]; exact hF.io } hU' hd' hds' (fun hc => ⟨fun x hx => by
            rcases List.mem_cons.1 hx with rfl | hx
            · exact ⟨q1, q2⟩
            · exact hP x hx, fun x hx => rfl⟩) (by rw [put_nx]; exact h1) (by rw [put_len]; exact h2) g2
        have hfirst := wpAnyM_first (SY := SX (blk :: X) w) (S := SX (blk :: X) w) (I := fun l => clean ops l = true) ho g3 (Region.noSelect_spec hsel) hQp (fun l j w' hIl hri hrj hji hS' => by
            obtain ⟨hjun, oj, hoj, hall⟩ := mem_ready.1 hrj
            have hjs : isStore oj = false := by
              cases hs : isStore oj with
              | false => rfl
              | true =>
                obtain ⟨ed, he, hb, hon⟩ := storesWait_spec hcl.2 hoj hs
                have h1 := hall ed he hb
                have h0 := (mem_ready.1 hri).1
                rw [hon] at h1
                rcases Nat.lt_or_ge i l.size with h' | h'
                · simp [h'] at h0 h1; rw [h0] at h1; cases h1
                · simp [Array.getElem?_eq_none h'] at h1
            have hc1 : clean ops (l.setIfInBounds j true) = true := clean_set hIl (fun o' ho' => by rw [hoj] at ho'; cases ho'; exact hjs)
            refine ⟨hS' ?_, hc1⟩
            rw [Array.setIfInBounds_comm _ _ (Ne.symm hji)]
            exact clean_set hc1 (fun o' ho' => by rw [ho] at ho'; cases ho'; exact g3)) n listed a w hcl.1 (Region.free_spec ho k2) hready (.inl ⟨hwant, fun w' hw' => q3 w' (hw' blk (by simp))⟩) (fun x hx => rfl) (fun _ => fun x hx => rfl) IH
        exact hfirst.imp (fun w' hw' x hx => (hw' x (by simp [hx])).trans (hS x hx))
    · cases hp

theorem plan_fork {e : En} (hT : TysOk P Γ.ty) (hI : I B0 w0) (hΓ : FnsOk P I Γ) {ops : Array Oper} (hsel : Region.noSelect ops = true) {T : List Nat} {b nx len : Nat} {K : St → Option Ret} {r : Ret} {Q : Exit → Act → World → Prop} (hQ : ∀ a w, AtN B0 w0 e b (List.range ops.size) nx len K r a w → Q .normal a w) (hQp : ∀ c a w, ¬ Q (.panic c) a w) {f : Forks} (IHf : ForksGood P Γ B0 w0 e ops T b nx len K r Q f) : PlanGood P Γ B0 w0 e ops T b nx len K r Q (.fork f) := by
  intro n
  cases n with
  | zero => intro listed hok; simp [planOk] at hok
  | succ n =>
    intro listed hok X wr σ a w C L done hR hF hU hd hds hX h1 h2 hp
    simp only [planOk, Bool.and_eq_true, beq_iff_eq] at hok
    simp only [runPlan] at hp
    have key := IHf hok.2 (X := X) (wr := wr) (fun i hi => by rw [hok.1]; exact hi) hR hF hU hd hds hX h1 h2 hp
    refine ⟨fun h0 => ?_, fun i hi => key i (by rw [← hok.1]; exact hi)⟩
    rw [h0] at hok
    exfalso
    cases f <;> simp [forksOf] at hok

theorem forks_one {e : En} (hT : TysOk P Γ.ty) (hI : I B0 w0) (hΓ : FnsOk P I Γ) {ops : Array Oper} (hsel : Region.noSelect ops = true) {T : List Nat} {b nx len : Nat} {K : St → Option Ret} {r : Ret} {Q : Exit → Act → World → Prop} (hQ : ∀ a w, AtN B0 w0 e b (List.range ops.size) nx len K r a w → Q .normal a w) (hQp : ∀ c a w, ¬ Q (.panic c) a w) {i : Nat} {p : Plan} (IH0 : PlanGood P Γ B0 w0 e ops T b nx len K r Q p) : ForksGood P Γ B0 w0 e ops T b nx len K r Q (.one i p) := by
  intro n listed hok X wr hr σ a w C L done hR hF hU hd hds hX h1 h2 hp j hj
  simp only [forksOf, List.mem_singleton] at hj
  subst hj
  simp only [forksOk, Bool.and_eq_true] at hok
  simp only [runForks] at hp
  split at hp
  · rename_i o ho
    rw [ho] at hok
    simp only [Option.isNone_iff_eq_none] at hok
    exact loud_ok hT hI hΓ hsel hQ hQp IH0 hok.2 ho hok.1 (hr _ (by simp [forksOf])) hR hF hU hd hds hX h1 h2 hp
  · cases hp

theorem forks_more {e : En} (hT : TysOk P Γ.ty) (hI : I B0 w0) (hΓ : FnsOk P I Γ) {ops : Array Oper} (hsel : Region.noSelect ops = true) {T : List Nat} {b nx len : Nat} {K : St → Option Ret} {r : Ret} {Q : Exit → Act → World → Prop} (hQ : ∀ a w, AtN B0 w0 e b (List.range ops.size) nx len K r a w → Q .normal a w) (hQp : ∀ c a w, ¬ Q (.panic c) a w) {i : Nat} {p : Plan} {f : Forks} (IH0 : PlanGood P Γ B0 w0 e ops T b nx len K r Q p) (IHf : ForksGood P Γ B0 w0 e ops T b nx len K r Q f) : ForksGood P Γ B0 w0 e ops T b nx len K r Q (.more i p f) := by
  intro n listed hok X wr hr σ a w C L done hR hF hU hd hds hX h1 h2 hp j hj
  simp only [forksOk, Bool.and_eq_true] at hok
  simp only [runForks] at hp
  split at hp
  · rename_i o ho
    obtain ⟨hp1, hp2⟩ := meet_some hp
    simp only [forksOf, List.mem_cons] at hj
    rcases hj with rfl | hj
    · rw [ho] at hok
      simp only [Option.isNone_iff_eq_none] at hok
      exact loud_ok hT hI hΓ hsel hQ hQp IH0 hok.1.2 ho hok.1.1 (hr _ (by simp [forksOf])) hR hF hU hd hds hX h1 h2 hp1
    · exact IHf hok.2 (fun i hi => hr i (by simp [forksOf, hi])) hR hF hU hd hds hX h1 h2 hp2 j hj
  · cases hp

mutual
theorem planGood {e : En} (hT : TysOk P Γ.ty) (hI : I B0 w0) (hΓ : FnsOk P I Γ) {ops : Array Oper} (hsel : Region.noSelect ops = true) {T : List Nat} {b nx len : Nat} {K : St → Option Ret} {r : Ret} {Q : Exit → Act → World → Prop} (hQ : ∀ a w, AtN B0 w0 e b (List.range ops.size) nx len K r a w → Q .normal a w) (hQp : ∀ c a w, ¬ Q (.panic c) a w) : (p : Plan) → PlanGood P Γ B0 w0 e ops T b nx len K r Q p
  | .done => plan_done hT hI hΓ hsel hQ hQp
  | .take i p => plan_take hT hI hΓ hsel hQ hQp (planGood hT hI hΓ hsel hQ hQp p)
  | .fork f => plan_fork hT hI hΓ hsel hQ hQp (forksGood hT hI hΓ hsel hQ hQp f)
theorem forksGood {e : En} (hT : TysOk P Γ.ty) (hI : I B0 w0) (hΓ : FnsOk P I Γ) {ops : Array Oper} (hsel : Region.noSelect ops = true) {T : List Nat} {b nx len : Nat} {K : St → Option Ret} {r : Ret} {Q : Exit → Act → World → Prop} (hQ : ∀ a w, AtN B0 w0 e b (List.range ops.size) nx len K r a w → Q .normal a w) (hQp : ∀ c a w, ¬ Q (.panic c) a w) : (f : Forks) → ForksGood P Γ B0 w0 e ops T b nx len K r Q f
  | .one i p => forks_one hT hI hΓ hsel hQ hQp (planGood hT hI hΓ hsel hQ hQp p)
  | .more i p f => forks_more hT hI hΓ hsel hQ hQp (planGood hT hI hΓ hsel hQ hQp p) (forksGood hT hI hΓ hsel hQ hQp f)
end

/-- A region whose operations may come in any order. -/
theorem draw_ok {e : En} (hm : P.follows .mixedOrders = true) (hT : TysOk P Γ.ty) (hI : I B0 w0) (hΓ : FnsOk P I Γ) {ops : Array Oper} {id : Nat} {p : Plan} (hok : (Region.noSelect ops && planOk ops p ops.size (Array.replicate ops.size false)) = true) {T : List Nat} {nx : Nat} {K : St → Option Ret} {r : Ret} {Q : Exit → Act → World → Prop} {σ : St} {a : Act} {w : World}
    (h : AtR B0 w0 e σ.nx [] σ a w) (hQ : ∀ a w, AtN B0 w0 e σ.nx (List.range ops.size) nx σ.tm.length K r a w → Q .normal a w) (hQp : ∀ c a w, ¬ Q (.panic c) a w) (hp : runPlan Γ ops T σ.nx p { σ with nx := nx } K = some r) : (Code.region id ops true).wp P Q a w := by
  simp only [Bool.and_eq_true] at hok
  obtain ⟨C, L, h1, h2, h3⟩ := h
  refine wp_region_any hm (wpAny_of_M (S := SX [] w) _ _ _ _ ?_)
  have hle : C.Le w C { w with drawn := w.drawn + 1 } := ⟨fun _ _ _ h => h, fun _ h => h, fun _ h => h, fun _ _ => rfl, fun _ _ _ h => h⟩
  have hR : Rel B0 w0 { σ with nx := nx } a { w with drawn := w.drawn + 1 } C L :=
    { below := ⟨h1.below.os, h1.below.tape, h1.below.output, h1.below.size, h1.below.block⟩, hB0 := h1.hB0, defers := h1.defers, len := h1.len, tm := fun i v hv => by
        obtain ⟨c, g1, g2⟩ := h1.tm i v hv
        exact ⟨c, g1, g2.le hle⟩, ob := fun k => (h1.ob k).le hle rfl rfl (fun _ _ => rfl), us := h1.us, nd := h1.nd, dj := h1.dj, own := h1.own, nw := h1.nw, nsz := h1.nsz }
  exact planGood hT hI hΓ hok.1 hQ hQp p hok.2 hR ⟨h2.io.le hle, h2.nm, h2.fr, h2.hd, h2.ow, h2.nn, h2.sz⟩ h3 (fun _ h => (nomatch h)) (fun _ h => (nomatch h)) (fun _ => ⟨fun _ h => (nomatch h), fun _ h => (nomatch h)⟩) rfl rfl hp
end
end Go.Ev
