/- Contracts by signature: what comes in is read as data; what goes out is a function of it. -/
import Derived.Test.YtfgnddgckhpbiaaEvSum
set_option linter.unusedVariables false
namespace Go.Ev
inductive Ak where
  | a (r : Rw)
  | l (r : Rw)
  | i
  | b
abbrev Ak.T : Ak → Type
  | .a r => r.T
  | .l r => List r.T
  | .i => Int
  | .b => Bool
def Ak.v : (k : Ak) → k.T → V
  | .a r, d => .a (r.cells .no d)
  | .l r, d => .l .no r d
  | .i, n => .s (.int .i64 n)
  | .b, c => .s (.bool c)
def Ak.dec : (k : Ak) → V → Option k.T
  | .a r, .a cs => r.dec cs
  | .l r, v => (Cc.sl r).dec v
  | .i, .s (.int .i64 n) => some n
  | .b, .s (.bool c) => some c
  | _, _ => none
theorem Ak.dec_ok : (k : Ak) → {v : V} → {d : k.T} → k.dec v = some d → v = k.v d
  | .a r, v, d, h => by
    cases v with
    | a cs => simp only [Ak.dec] at h; rw [Rw.dec_ok r h]; rfl
    | _ => simp [Ak.dec] at h
  | .l r, v, d, h => by
    have h' : (Cc.sl r).dec v = some d := by
      cases v <;> simpa [Ak.dec] using h
    rw [Cc.dec_ok (.sl r) h']; rfl
  | .i, v, d, h => by
    cases v with
    | s u =>
      cases u with
      | int k n => cases k <;> simp [Ak.dec] at h <;> subst h <;> rfl
      | _ => simp [Ak.dec] at h
    | _ => simp [Ak.dec] at h
  | .b, v, d, h => by
    cases v with
    | s u =>
      cases u with
      | bool c => simp [Ak.dec] at h; subst h; rfl
      | _ => simp [Ak.dec] at h
    | _ => simp [Ak.dec] at h
abbrev SgT : List Ak → Type
  | [] => Unit
  | k :: ks => k.T × SgT ks
def sgV : (ks : List Ak) → SgT ks → List V
  | [], _ => []
  | k :: ks, d => k.v d.1 :: sgV ks d.2
def sgD : (ks : List Ak) → List V → Option (SgT ks)
  | [], [] => some ()
  | k :: ks, v :: vs => match k.dec v with
    | some d => match sgD ks vs with
      | some e => some (d, e)
      | none => none
    | none => none
  | _, _ => none
theorem sgD_ok : (ks : List Ak) → {vs : List V} → {d : SgT ks} → sgD ks vs = some d → vs = sgV ks d
  | [], [], d, h => rfl
  | [], _ :: _, d, h => by simp [sgD] at h
  | k :: ks, [], d, h => by simp [sgD] at h
  | k :: ks, v :: vs, d, h => by
    simp only [sgD] at h
    split at h
    · rename_i d1 e1
      split at h
      · rename_i d2 e2
        cases h
        rw [Ak.dec_ok k e1, sgD_ok ks e2]; rfl
      · cases h
    · cases h
def S_fn (ks : List Ak) (pre : SgT ks → Bool) (f : SgT ks → V) : Sm := fun vs K => match sgD ks vs with
  | some d => bif pre d then K (f d, []) else none
  | none => none
theorem S_fn_of {ks : List Ak} {pre : SgT ks → Bool} {f : SgT ks → V} {G : Sm} (h : ∀ d K, pre d = true → G (sgV ks d) K = K (f d, [])) : ∀ ws K q, S_fn ks pre f ws K = some q → G ws K = some q := by
  intro ws K q hr
  unfold S_fn at hr
  split at hr
  · rename_i d hd
    rw [sgD_ok ks hd]
    cases hp : pre d with
    | false => rw [hp] at hr; cases hr
    | true => rw [hp] at hr; exact (h d K hp).trans hr
  · cases hr
mutual
theorem Cc.cnz_of_wf : (c : Cc) → (d : c.T) → c.wf d → c.cnz d = true
  | .int _, _, _ => rfl
  | .bool, _, _ => rfl
  | .str, _, _ => rfl
  | .sl r, xs, h => by
    simp only [Cc.cnz, Bool.and_eq_true, List.all_eq_true]
    exact ⟨Nat.ble_eq_true_of_le h.1, fun x hx => Rw.cnz_of_wf r x (h.2 x hx)⟩
theorem Rw.cnz_of_wf : (r : Rw) → (d : r.T) → r.wf d → r.cnz d = true
  | .one c, d, h => Cc.cnz_of_wf c d h
  | .cons c r, d, h => by
    simp only [Rw.cnz, Bool.and_eq_true]
    exact ⟨Cc.cnz_of_wf c d.1 h.1, Rw.cnz_of_wf r d.2 h.2⟩
end

/-! ### How many marks -/
mutual
def Cc.mx : Cc → Bool
  | .sl r => Nat.ble r.sc 32 && r.mx
  | _ => true
def Rw.mx : Rw → Bool
  | .one c => c.mx
  | .cons c r => c.mx && r.mx
def Cc.sc : Cc → Nat
  | .sl _ => 0
  | _ => 1
def Rw.sc : Rw → Nat
  | .one c => c.sc
  | .cons c r => c.sc + r.sc
end
mutual
theorem Cc.marks_le : (c : Cc) → c.mx = true → (d : c.T) → c.marks d ≤ c.sc + 32 * c.w d
  | .int _, _, _ => by simp [Cc.marks, Cc.sc, Cc.w]
  | .bool, _, _ => by simp [Cc.marks, Cc.sc, Cc.w]
  | .str, _, d => by simp only [Cc.marks, Cc.sc, Cc.w]; omega
  | .sl r, h, xs => by
    simp only [Cc.mx, Bool.and_eq_true] at h
    have h1 : r.sc ≤ 32 := Nat.le_of_ble_eq_true h.1
    have key : ∀ ys : List r.T, sumW r.marks ys ≤ 32 * (ys.length + sumW r.w ys) := by
      intro ys
      induction ys with
      | nil => simp [sumW]
      | cons y ys ih =>
        have := Rw.marks_le r h.2 y
        simp only [sumW, List.length_cons]
        omega
    simp only [Cc.marks, Cc.sc, Cc.w]
    have := key xs
    omega
theorem Rw.marks_le : (r : Rw) → r.mx = true → (d : r.T) → r.marks d ≤ r.sc + 32 * r.w d
  | .one c, h, d => Cc.marks_le c h d
  | .cons c r, h, d => by
    simp only [Rw.mx, Bool.and_eq_true] at h
    have h1 := Cc.marks_le c h.1 d.1
    have h2 := Rw.marks_le r h.2 d.2
    simp only [Rw.marks, Rw.sc, Rw.w]
    omega
end
theorem Cc.marksA_le : (c : Cc) → c.mx = true → (d : c.T) → c.marksA d ≤ 32 * c.w d
  | .int _, _, _ => by simp [Cc.marksA]
  | .bool, _, _ => by simp [Cc.marksA]
  | .str, _, d => by simp [Cc.marksA]
  | .sl r, h, xs => by
    have := Cc.marks_le (.sl r) h xs
    simp only [Cc.sc, Nat.zero_add] at this
    exact this
theorem Rw.marksA_le : (r : Rw) → r.mx = true → (d : r.T) → r.marksA d ≤ 32 * r.w d
  | .one c, h, d => Cc.marksA_le c h d
  | .cons c r, h, d => by
    simp only [Rw.mx, Bool.and_eq_true] at h
    have h1 := Cc.marksA_le c h.1 d.1
    have h2 := Rw.marksA_le r h.2 d.2
    simp only [Rw.marksA, Rw.w]
    omega
mutual
theorem Cc.cnt_of_w : (c : Cc) → (d : c.T) → c.w d ≤ 4611686018427387904 → c.cnt d = true
  | .int _, _, _ => rfl
  | .bool, _, _ => rfl
  | .str, _, _ => rfl
  | .sl r, xs, h => by
    simp only [Cc.w] at h
    simp only [Cc.cnt, Bool.and_eq_true, List.all_eq_true]
    refine ⟨Nat.ble_eq_true_of_le (by omega), fun x hx => ?_⟩
    have := sumW_mem (f := r.w) hx
    exact Rw.cnt_of_w r x (by omega)
theorem Rw.cnt_of_w : (r : Rw) → (d : r.T) → r.w d ≤ 4611686018427387904 → r.cnt d = true
  | .one c, d, h => Cc.cnt_of_w c d h
  | .cons c r, d, h => by
    simp only [Rw.w] at h
    simp only [Rw.cnt, Bool.and_eq_true]
    exact ⟨Cc.cnt_of_w c d.1 (by omega), Rw.cnt_of_w r d.2 (by omega)⟩
end
mutual
theorem Cc.mark_w (T : MText) : (c : Cc) → (d : c.T) → (k : Int) → c.cnt (c.mark T d k).1 = c.cnt d
  | .int _, _, _ => rfl
  | .bool, _, _ => rfl
  | .str, _, _ => rfl
  | .sl r, xs, k => by
    simp only [Cc.cnt, Cc.mark, markList_len]
    have key : ∀ (xs : List r.T) (k : Int), (markList (r.mark T) xs k).1.all r.cnt = xs.all r.cnt := by
      intro xs
      induction xs with
      | nil => intro k; rfl
      | cons x xs ih =>
        intro k
        simp only [markList, List.all_cons]
        rw [ih, Rw.mark_w T r x k]
    rw [key]
theorem Rw.mark_w (T : MText) : (r : Rw) → (d : r.T) → (k : Int) → r.cnt (r.mark T d k).1 = r.cnt d
  | .one c, d, k => Cc.mark_w T c d k
  | .cons c r, d, k => by simp only [Rw.cnt, Rw.mark]; rw [Cc.mark_w T c, Rw.mark_w T r]
end
theorem Cc.markA_w (T : MText) : (c : Cc) → (d : c.T) → (k : Int) → c.cnt (c.markA T d k).1 = c.cnt d
  | .int _, _, _ => rfl
  | .bool, _, _ => rfl
  | .str, _, _ => rfl
  | .sl r, xs, k => Cc.mark_w T (.sl r) xs k
theorem Rw.markA_w (T : MText) : (r : Rw) → (d : r.T) → (k : Int) → r.cnt (r.markA T d k).1 = r.cnt d
  | .one c, d, k => Cc.markA_w T c d k
  | .cons c r, d, k => by simp only [Rw.cnt, Rw.markA]; rw [Cc.markA_w T c, Rw.markA_w T r]
mutual
theorem Cc.mark_marks (T : MText) : (c : Cc) → (d : c.T) → (k : Int) → c.marks (c.mark T d k).1 = c.marks d
  | .int _, _, _ => rfl
  | .bool, _, _ => rfl
  | .str, _, _ => rfl
  | .sl r, xs, k => by
    have key : ∀ (xs : List r.T) (k : Int), sumW r.marks (markList (r.mark T) xs k).1 = sumW r.marks xs := by
      intro xs
      induction xs with
      | nil => intro k; rfl
      | cons x xs ih =>
        intro k
        simp only [markList, sumW]
        rw [ih, Rw.mark_marks T r x k]
    exact key xs k
theorem Rw.mark_marks (T : MText) : (r : Rw) → (d : r.T) → (k : Int) → r.marks (r.mark T d k).1 = r.marks d
  | .one c, d, k => Cc.mark_marks T c d k
  | .cons c r, d, k => by simp only [Rw.marks, Rw.mark]; rw [Cc.mark_marks T c, Rw.mark_marks T r]
end
theorem Cc.markA_marks (T : MText) : (c : Cc) → (d : c.T) → (k : Int) → c.marksA (c.markA T d k).1 = c.marksA d
  | .int _, _, _ => rfl
  | .bool, _, _ => rfl
  | .str, _, _ => rfl
  | .sl r, xs, k => Cc.mark_marks T (.sl r) xs k
theorem Rw.markA_marks (T : MText) : (r : Rw) → (d : r.T) → (k : Int) → r.marksA (r.markA T d k).1 = r.marksA d
  | .one c, d, k => Cc.markA_marks T c d k
  | .cons c r, d, k => by simp only [Rw.marksA, Rw.markA]; rw [Cc.markA_marks T c, Rw.markA_marks T r]

/-! ### The exact laws, step by step -/
section
variable {ρ : Type}
theorem lw_sz {b : Bool} {w : Nat} {l : Int} {Z A : Option ρ} (hl : szOk l = true) (hb : b = true) (h : ¬ l - w < 0 → szN w l = l - w → szOk (szN w l) = true → A = Z) : (bif szOk l && b then (bif decide (szN w l < 0) then Z else A) else none) = Z := by
  rw [hl, hb]
  simp only [szOk, Bool.and_eq_true, decide_eq_true_eq] at hl
  by_cases e : l - w < 0
  · rw [szN, if_pos e]; rfl
  · have e2 : szN w l = l - w := if_neg e
    rw [e2] at h ⊢
    rw [decide_eq_false e]
    refine h e rfl ?_
    unfold szOk
    rw [decide_eq_true (show 0 ≤ l - (w : Int) by omega), decide_eq_true (show l - (w : Int) ≤ 4611686018427387904 by omega)]; rfl
theorem lw_meet {x y Z : Option Ret} (hx : x = Z) (hy : y = Z) : meet x y = Z := by
  rw [hx, hy]; unfold meet; rw [if_pos rfl]
theorem lw_eq {α : Type} {x : α} {c : Bool} {F A Z : Option ρ} (hc : c = true) (h : A = Z) : (bif c then (bif !(eqD x x) then F else A) else none) = Z := by
  rw [hc, eqD_self]; exact h
theorem lw_bool {x : Bool} {F A Z : Option ρ} (h : A = Z) : (bif !(x == x) then F else A) = Z := by
  rw [beq_self_eq_true]; exact h
theorem lw_int {x : Int} {F A Z : Option ρ} (h : A = Z) : (bif x != x then F else A) = Z := by
  rw [bne_self_eq_false]; exact h
theorem lw_int2 {x y : Int} {F A Z : Option ρ} (hxy : x = y) (h : A = Z) : (bif x != y then F else A) = Z := by
  rw [hxy, bne_self_eq_false]; exact h
theorem lw_lt {k : Int} {F A Z : Option ρ} (hk : 0 ≤ k) (h : A = Z) : (bif decide (k < 0) then F else A) = Z := by
  rw [decide_eq_false (show ¬ k < 0 by omega)]; exact h
theorem lw_held {a b : Bool} {k : Int} {n : Nat} {A Z : Option ρ} (h1 : a = true) (h2 : b = true) (h3 : 0 ≤ k) (h4 : k + (n : Nat) ≤ 4611686018427387904) (h : A = Z) : (bif a && (b && decide ((0 : Int) ≤ k) && decide (k + ((n : Nat) : Int) ≤ 4611686018427387904)) then A else none) = Z := by
  rw [h1, h2, decide_eq_true h3, decide_eq_true h4]
  exact h
end
end Go.Ev
