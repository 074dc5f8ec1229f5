/- The laws' helpers, for all kinds of rows at once: how much lies there, equal, copied, marked, held. -/
import Derived.Test.YtfgnddgckhpbiaaEvLib
set_option linter.unusedVariables false
namespace Go.Ev

/-! ### Marks -/
def markList {α : Type} (f : α → Int → α × Int) : List α → Int → List α × Int
  | [], k => ([], k)
  | x :: xs, k => ((f x k).1 :: (markList f xs (f x k).2).1, (markList f xs (f x k).2).2)
/-- The text of a mark; what it is does not matter here. -/
structure MText where
  t : Int → ByteArray
def markInt : IntKind → Int → Int
  | .i64, n => n
  | k, n => k.wrap n
mutual
def Cc.mark (T : MText) : (c : Cc) → c.T → Int → c.T × Int
  | .int k, _, n => (markInt k n, IntKind.i64.wrap (n + 1))
  | .bool, b, n => (b, n)
  | .str, _, n => (T.t n, IntKind.i64.wrap (n + 1))
  | .sl r, xs, n => markList (r.mark T) xs n
def Rw.mark (T : MText) : (r : Rw) → r.T → Int → r.T × Int
  | .one c, d, n => c.mark T d n
  | .cons c r, d, n => ((( c.mark T d.1 n).1, (r.mark T d.2 (c.mark T d.1 n).2).1), (r.mark T d.2 (c.mark T d.1 n).2).2)
end
/-- Of a struct that goes by value only the slices are marked. -/
def Cc.markA (T : MText) : (c : Cc) → c.T → Int → c.T × Int
  | .sl r, xs, n => markList (r.mark T) xs n
  | _, d, n => (d, n)
def Rw.markA (T : MText) : (r : Rw) → r.T → Int → r.T × Int
  | .one c, d, n => c.markA T d n
  | .cons c r, d, n => (((c.markA T d.1 n).1, (r.markA T d.2 (c.markA T d.1 n).2).1), (r.markA T d.2 (c.markA T d.1 n).2).2)

theorem markList_len {α : Type} (f : α → Int → α × Int) : ∀ (xs : List α) (k : Int), (markList f xs k).1.length = xs.length
  | [], _ => rfl
  | x :: xs, k => by simp [markList, markList_len f xs]
theorem markList_idem {α : Type} {f : α → Int → α × Int} (h : ∀ x k, f (f x k).1 k = f x k) : ∀ (xs : List α) (k : Int), markList f (markList f xs k).1 k = markList f xs k
  | [], _ => rfl
  | x :: xs, k => by simp only [markList, h, markList_idem h xs]
mutual
theorem Cc.mark_idem (T : MText) : (c : Cc) → (d : c.T) → (k : Int) → c.mark T (c.mark T d k).1 k = c.mark T d k
  | .int _, _, _ => rfl
  | .bool, _, _ => rfl
  | .str, _, _ => rfl
  | .sl r, xs, k => by simp only [Cc.mark]; exact markList_idem (fun x k => Rw.mark_idem T r x k) xs k
theorem Rw.mark_idem (T : MText) : (r : Rw) → (d : r.T) → (k : Int) → r.mark T (r.mark T d k).1 k = r.mark T d k
  | .one c, d, k => Cc.mark_idem T c d k
  | .cons c r, d, k => by simp only [Rw.mark, Cc.mark_idem T c, Rw.mark_idem T r]
end
theorem Cc.markA_idem (T : MText) : (c : Cc) → (d : c.T) → (k : Int) → c.markA T (c.markA T d k).1 k = c.markA T d k
  | .int _, _, _ => rfl
  | .bool, _, _ => rfl
  | .str, _, _ => rfl
  | .sl r, xs, k => by simp only [Cc.markA]; exact markList_idem (fun x k => Rw.mark_idem T r x k) xs k
theorem Rw.markA_idem (T : MText) : (r : Rw) → (d : r.T) → (k : Int) → r.markA T (r.markA T d k).1 k = r.markA T d k
  | .one c, d, k => Cc.markA_idem T c d k
  | .cons c r, d, k => by simp only [Rw.markA, Cc.markA_idem T c, Rw.markA_idem T r]

/-! ### How much -/
def sumW {α : Type} (f : α → Nat) : List α → Nat
  | [] => 0
  | x :: xs => f x + sumW f xs
mutual
def Cc.w : (c : Cc) → c.T → Nat
  | .int _, _ => 0
  | .bool, _ => 0
  | .str, s => s.size
  | .sl r, xs => xs.length + sumW r.w xs
def Rw.w : (r : Rw) → r.T → Nat
  | .one c, d => c.w d
  | .cons c r, d => c.w d.1 + r.w d.2
end
/-- How many numbers a mark takes, at most. -/
def sumL {α : Type} (f : α → Nat) : List α → Nat
  | [] => 0
  | x :: xs => f x + sumL f xs
mutual
def Cc.marks : (c : Cc) → c.T → Nat
  | .int _, _ => 1
  | .bool, _ => 0
  | .str, _ => 1
  | .sl r, xs => sumW r.marks xs
def Rw.marks : (r : Rw) → r.T → Nat
  | .one c, d => c.marks d
  | .cons c r, d => c.marks d.1 + r.marks d.2
end
def Cc.marksA : (c : Cc) → c.T → Nat
  | .sl r, xs => sumW r.marks xs
  | _, _ => 0
def Rw.marksA : (r : Rw) → r.T → Nat
  | .one c, d => c.marksA d
  | .cons c r, d => c.marksA d.1 + r.marksA d.2
theorem markList_cnt {α : Type} {f : α → Int → α × Int} {m : α → Nat} (h : ∀ x (k : Int), 0 ≤ k → k + m x ≤ 4611686018427387904 → (f x k).2 = k + m x) : ∀ (xs : List α) (k : Int), 0 ≤ k → k + sumW m xs ≤ 4611686018427387904 → (markList f xs k).2 = k + sumW m xs
  | [], k, _, _ => by simp [markList, sumW]
  | x :: xs, k, h0, h1 => by
    simp only [markList, sumW] at h1 ⊢
    have e := h x k h0 (by omega)
    rw [markList_cnt h xs _ (by rw [e]; omega) (by rw [e]; omega), e]
    omega
mutual
theorem Cc.mark_cnt (T : MText) : (c : Cc) → (d : c.T) → (k : Int) → 0 ≤ k → k + c.marks d ≤ 4611686018427387904 → (c.mark T d k).2 = k + c.marks d
  | .int _, d, k, h0, h1 => by simp only [Cc.mark, Cc.marks] at h1 ⊢; rw [wrap_id (by omega) (by omega)]; rfl
  | .bool, d, k, h0, h1 => by simp [Cc.mark, Cc.marks]
  | .str, d, k, h0, h1 => by simp only [Cc.mark, Cc.marks] at h1 ⊢; rw [wrap_id (by omega) (by omega)]; rfl
  | .sl r, xs, k, h0, h1 => by simp only [Cc.mark, Cc.marks] at h1 ⊢; exact markList_cnt (fun x k => Rw.mark_cnt T r x k) xs k h0 h1
theorem Rw.mark_cnt (T : MText) : (r : Rw) → (d : r.T) → (k : Int) → 0 ≤ k → k + r.marks d ≤ 4611686018427387904 → (r.mark T d k).2 = k + r.marks d
  | .one c, d, k, h0, h1 => Cc.mark_cnt T c d k h0 h1
  | .cons c r, d, k, h0, h1 => by
    simp only [Rw.mark, Rw.marks] at h1 ⊢
    have e := Cc.mark_cnt T c d.1 k h0 (by omega)
    rw [Rw.mark_cnt T r d.2 _ (by rw [e]; omega) (by rw [e]; omega), e]
    omega
end
theorem Cc.markA_cnt (T : MText) : (c : Cc) → (d : c.T) → (k : Int) → 0 ≤ k → k + c.marksA d ≤ 4611686018427387904 → (c.markA T d k).2 = k + c.marksA d
  | .int _, d, k, h0, h1 => by simp [Cc.markA, Cc.marksA]
  | .bool, d, k, h0, h1 => by simp [Cc.markA, Cc.marksA]
  | .str, d, k, h0, h1 => by simp [Cc.markA, Cc.marksA]
  | .sl r, xs, k, h0, h1 => by simp only [Cc.markA, Cc.marksA] at h1 ⊢; exact markList_cnt (fun x k => Rw.mark_cnt T r x k) xs k h0 h1
theorem Rw.markA_cnt (T : MText) : (r : Rw) → (d : r.T) → (k : Int) → 0 ≤ k → k + r.marksA d ≤ 4611686018427387904 → (r.markA T d k).2 = k + r.marksA d
  | .one c, d, k, h0, h1 => Cc.markA_cnt T c d k h0 h1
  | .cons c r, d, k, h0, h1 => by
    simp only [Rw.markA, Rw.marksA] at h1 ⊢
    have e := Cc.markA_cnt T c d.1 k h0 (by omega)
    rw [Rw.markA_cnt T r d.2 _ (by rw [e]; omega) (by rw [e]; omega), e]
    omega

/-! ### Small enough to be copied -/
mutual
def Cc.lim : (c : Cc) → c.T → Bool
  | .int _, _ => true
  | .bool, _ => true
  | .str, _ => true
  | .sl r, xs => Nat.ble xs.length 1048576 && xs.all r.lim
def Rw.lim : (r : Rw) → r.T → Bool
  | .one c, d => c.lim d
  | .cons c r, d => c.lim d.1 && r.lim d.2
end
theorem sumW_mem {α : Type} {f : α → Nat} : ∀ {xs : List α} {x : α}, x ∈ xs → f x ≤ sumW f xs
  | y :: xs, x, h => by
    simp only [sumW]
    rcases List.mem_cons.1 h with rfl | h
    · omega
    · have := sumW_mem (f := f) h; omega
mutual
theorem Cc.lim_ok : (c : Cc) → (d : c.T) → c.w d ≤ 1048576 → c.lim d = true
  | .int _, _, _ => rfl
  | .bool, _, _ => rfl
  | .str, _, _ => rfl
  | .sl r, xs, h => by
    simp only [Cc.w] at h
    simp only [Cc.lim, Bool.and_eq_true, List.all_eq_true]
    refine ⟨Nat.ble_eq_true_of_le (by omega), fun x hx => ?_⟩
    have := sumW_mem (f := r.w) hx
    exact Rw.lim_ok r x (by omega)
theorem Rw.lim_ok : (r : Rw) → (d : r.T) → r.w d ≤ 1048576 → r.lim d = true
  | .one c, d, h => Cc.lim_ok c d h
  | .cons c r, d, h => by
    simp only [Rw.w] at h
    simp only [Rw.lim, Bool.and_eq_true]
    exact ⟨Cc.lim_ok c d.1 (by omega), Rw.lim_ok r d.2 (by omega)⟩
end
/-- How many numbers are marked, at most, by how much there is. -/
def Rw.scal : Rw → Nat
  | .one _ => 1
  | .cons _ r => r.scal + 1

/-! ### Equality -/
noncomputable def eqD {α : Type} (x y : α) : Bool := by classical exact decide (x = y)
theorem eqD_self {α : Type} (x : α) : eqD x x = true := by simp [eqD]
theorem eqD_iff {α : Type} {x y : α} : eqD x y = true ↔ x = y := by simp [eqD]
theorem eqD_false {α : Type} {x y : α} (h : x ≠ y) : eqD x y = false := by simp [eqD, h]

/-! ### Rounds of loops over a list -/
section
variable {α β : Type} {ρ : Type}
theorem loop_to {R : Nat → Int → List α → ρ} {Kf : List α → ρ} {xs : List α} {z : α}
    (hs : ∀ n (i : Nat) ys, i < xs.length → ys.length = xs.length → R (n + 1) i ys = R n ((i + 1 : Nat) : Int) (ys.set i (xs.getD i z)))
    (he : ∀ n ys, ys.length = xs.length → R (n + 1) (xs.length : Nat) ys = Kf ys) (ys : List α) (hy : ys.length = xs.length) : R (xs.length + 1) 0 ys = Kf xs := by
  have key : ∀ (k i : Nat) (ys : List α), ys.length = xs.length → i + k = xs.length → R (k + 1) i ys = Kf (ys.take i ++ xs.drop i) := by
    intro k
    induction k with
    | zero =>
      intro i ys hy hi
      have : i = xs.length := by omega
      subst this
      rw [he 0 ys hy, List.drop_length, List.append_nil, ← hy, List.take_length]
    | succ k ih =>
      intro i ys hy hi
      rw [hs _ i ys (by omega) hy, ih (i + 1) _ (by simpa using hy) (by omega)]
      congr 1
      have hlt : i < xs.length := by omega
      have hly : i < ys.length := by omega
      rw [List.drop_eq_getElem_cons hlt, List.take_add_one, List.take_set, List.getElem?_set, if_pos rfl, if_pos hly, List.set_eq_of_length_le (by simp; exact Nat.min_le_left _ _)]
      rw [List.getD_eq_getElem?_getD, List.getElem?_eq_getElem hlt]
      simp
  have := key xs.length 0 ys hy (by omega)
  simpa using this
theorem loop_eq {R : Nat → Int → ρ} {kt kf : ρ} {xs ys : List α} {z : α} {e : α → α → Bool} (hE : ∀ a b, e a b = true ↔ a = b) (hl : ys.length = xs.length)
    (hs : ∀ n (i : Nat), i < xs.length → R (n + 1) i = bif e (xs.getD i z) (ys.getD i z) then R n ((i + 1 : Nat) : Int) else kf)
    (he : ∀ n, R (n + 1) (xs.length : Nat) = kt) : R (xs.length + 1) 0 = bif eqD xs ys then kt else kf := by
  have key : ∀ (k i : Nat), i + k = xs.length → R (k + 1) i = bif eqD (xs.drop i) (ys.drop i) then kt else kf := by
    intro k
    induction k with
    | zero =>
      intro i hi
      have : i = xs.length := by omega
      subst this
      rw [he 0, List.drop_length, ← hl, List.drop_length, eqD_self]; rfl
    | succ k ih =>
      intro i hi
      have hlt : i < xs.length := by omega
      have hly : i < ys.length := by omega
      rw [hs _ i hlt, ih (i + 1) (by omega), List.drop_eq_getElem_cons hlt, List.drop_eq_getElem_cons hly]
      have hx : xs.getD i z = xs[i] := by rw [List.getD_eq_getElem?_getD, List.getElem?_eq_getElem hlt]; rfl
      have hy : ys.getD i z = ys[i] := by rw [List.getD_eq_getElem?_getD, List.getElem?_eq_getElem hly]; rfl
      rw [hx, hy]
      by_cases h : xs[i] = ys[i]
      · rw [(hE _ _).2 h, h]
        simp only [cond_true]
        by_cases h2 : xs.drop (i + 1) = ys.drop (i + 1)
        · rw [h2, eqD_self, eqD_self]
        · rw [eqD_false h2, eqD_false (fun h3 => h2 (List.cons.inj h3).2)]
      · have : e xs[i] ys[i] = false := by
          rw [Bool.eq_false_iff]; exact fun h' => h ((hE _ _).1 h')
        rw [this, eqD_false (fun h3 => h (List.cons.inj h3).1)]
        rfl
  have := key xs.length 0 (by omega)
  simpa using this
theorem loop_mark {R : Nat → Int → Int → List α → ρ} {Kf : Int → List α → ρ} {f : α → Int → α × Int} {z : α} (n : Nat)
    (hs : ∀ m (i : Nat) k (ys : List α), i < n → ys.length = n → R (m + 1) i k ys = R m ((i + 1 : Nat) : Int) (f (ys.getD i z) k).2 (ys.set i (f (ys.getD i z) k).1))
    (he : ∀ m k (ys : List α), ys.length = n → R (m + 1) (n : Nat) k ys = Kf k ys) (xs : List α) (hx : xs.length = n) (k : Int) : R (n + 1) 0 k xs = Kf (markList f xs k).2 (markList f xs k).1 := by
  have key : ∀ (j i : Nat) (k : Int) (pre suf : List α), pre.length = i → (pre ++ suf).length = n → i + j = n → R (j + 1) i k (pre ++ suf) = Kf (markList f suf k).2 (pre ++ (markList f suf k).1) := by
    intro j
    induction j with
    | zero =>
      intro i k pre suf hp hn hi
      have hs0 : suf = [] := by
        cases suf with
        | nil => rfl
        | cons x xs => simp at hn; omega
      subst hs0
      have : i = n := by omega
      subst this
      rw [he 0 k _ hn]; rfl
    | succ j ih =>
      intro i k pre suf hp hn hi
      cases suf with
      | nil => simp at hn; omega
      | cons x suf =>
        rw [hs _ i k _ (by omega) hn]
        have hg : (pre ++ x :: suf).getD i z = x := by
          rw [List.getD_eq_getElem?_getD, List.getElem?_append_right (by omega), hp, Nat.sub_self]; rfl
        have hset : (pre ++ x :: suf).set i (f x k).1 = (pre ++ [(f x k).1]) ++ suf := by
          rw [List.set_append_right _ _ (by omega), hp, Nat.sub_self]; simp
        rw [hg, hset, ih (i + 1) (f x k).2 (pre ++ [(f x k).1]) suf (by simp [hp]) (by simpa using hn) (by omega)]
        simp [markList]
  have := key n 0 k [] xs rfl (by simpa using hx) (by omega)
  simpa using this
/-- Held: what was marked. -/
theorem loop_held {R : Nat → Int → Int → ρ} {Kf : Int → ρ} {f : α → Int → α × Int} {xs : List α} {z : α}
    (hs : ∀ m (i : Nat) k, i < xs.length → (f (xs.getD i z) k).1 = xs.getD i z → R (m + 1) i k = R m ((i + 1 : Nat) : Int) (f (xs.getD i z) k).2)
    (he : ∀ m k, R (m + 1) (xs.length : Nat) k = Kf k) (k : Int) (hm : (markList f xs k).1 = xs) : R (xs.length + 1) 0 k = Kf (markList f xs k).2 := by
  have key : ∀ (j i : Nat) (k : Int), i + j = xs.length → (markList f (xs.drop i) k).1 = xs.drop i → R (j + 1) i k = Kf (markList f (xs.drop i) k).2 := by
    intro j
    induction j with
    | zero =>
      intro i k hi hm
      have : i = xs.length := by omega
      subst this
      rw [he 0 k, List.drop_length]; rfl
    | succ j ih =>
      intro i k hi hm
      have hlt : i < xs.length := by omega
      rw [List.drop_eq_getElem_cons hlt] at hm ⊢
      simp only [markList] at hm ⊢
      have h1 := (List.cons.inj hm).1
      have h2 := (List.cons.inj hm).2
      have hx : xs.getD i z = xs[i] := by rw [List.getD_eq_getElem?_getD, List.getElem?_eq_getElem hlt]; rfl
      rw [hs _ i k hlt (by rw [hx]; exact h1), hx, ih (i + 1) _ (by omega) h2]
  have := key xs.length 0 k (by omega) (by simpa using hm)
  simpa using this
theorem loop_sz {R : Nat → Int → Int → ρ} {Kt : Int → ρ} {Kf : ρ} {xs : List α} {z : α} {g : α → Nat}
    (hs : ∀ m (i : Nat) (l : Int), i < xs.length → 0 ≤ l → l ≤ 4611686018427387904 → R (m + 1) i l = bif decide (l - g (xs.getD i z) < 0) then Kf else R m ((i + 1 : Nat) : Int) (l - g (xs.getD i z)))
    (he : ∀ m (l : Int), 0 ≤ l → R (m + 1) (xs.length : Nat) l = Kt l) (l : Int) (h0 : 0 ≤ l) (h1 : l ≤ 4611686018427387904) : R (xs.length + 1) 0 l = bif decide (l - sumW g xs < 0) then Kf else Kt (l - sumW g xs) := by
  have key : ∀ (j i : Nat) (l : Int), i + j = xs.length → 0 ≤ l → l ≤ 4611686018427387904 → R (j + 1) i l = bif decide (l - sumW g (xs.drop i) < 0) then Kf else Kt (l - sumW g (xs.drop i)) := by
    intro j
    induction j with
    | zero =>
      intro i l hi h0 h1
      have : i = xs.length := by omega
      subst this
      rw [he 0 l h0, List.drop_length]
      rw [show sumW g [] = 0 from rfl]
      have : decide (l - ((0 : Nat) : Int) < 0) = false := decide_eq_false (by omega)
      rw [this]; simp
    | succ j ih =>
      intro i l hi h0 h1
      have hlt : i < xs.length := by omega
      have hx : xs.getD i z = xs[i] := by rw [List.getD_eq_getElem?_getD, List.getElem?_eq_getElem hlt]; rfl
      rw [hs _ i l hlt h0 h1, List.drop_eq_getElem_cons hlt, hx, show sumW g (xs[i] :: xs.drop (i + 1)) = g xs[i] + sumW g (xs.drop (i + 1)) from rfl]
      by_cases h : l - (g xs[i] : Int) < 0
      · rw [decide_eq_true h, decide_eq_true (show l - ((g xs[i] + sumW g (xs.drop (i + 1)) : Nat) : Int) < 0 by omega)]; rfl
      · rw [decide_eq_false h, ih (i + 1) _ (by omega) (by omega) (by omega)]
        simp only [cond_false]
        have : l - (g xs[i] : Int) - (sumW g (xs.drop (i + 1)) : Int) = l - ((g xs[i] + sumW g (xs.drop (i + 1)) : Nat) : Int) := by omega
        rw [this]
  have := key xs.length 0 l (by omega) h0 h1
  simpa using this
theorem loop_idx {ρ σ : Type} {R : Nat → Int → σ → ρ} {k : ρ} {f : Nat → σ} (n : Nat) (hs : ∀ m (i : Nat), i < n → R (m + 1) i (f i) = R m ((i + 1 : Nat) : Int) (f (i + 1))) (he : ∀ m, R (m + 1) (n : Nat) (f n) = k) : R (n + 1) 0 (f 0) = k := by
  have key : ∀ (j i : Nat), i + j = n → R (j + 1) i (f i) = k := by
    intro j
    induction j with
    | zero => intro i hi; have : i = n := by omega
              subst this; exact he 0
    | succ j ih => intro i hi; rw [hs _ i (by omega), ih (i + 1) (by omega)]
  exact key n 0 (by omega)
theorem sumW_take {α : Type} {g : α → Nat} {xs : List α} {i : Nat} {z : α} (h : i < xs.length) : sumW g (xs.take (i + 1)) = sumW g (xs.take i) + g (xs.getD i z) := by
  have app : ∀ (ys zs : List α), sumW g (ys ++ zs) = sumW g ys + sumW g zs := fun ys zs => by
    induction ys with
    | nil => simp [sumW]
    | cons y ys ih => simp only [List.cons_append, sumW, ih]; omega
  rw [List.take_add_one, app, List.getD_eq_getElem?_getD, List.getElem?_eq_getElem h]
  simp [sumW]
theorem sumW_take_le {α : Type} {g : α → Nat} {xs : List α} {i : Nat} : sumW g (xs.take i) ≤ sumW g xs := by
  have app : ∀ (ys zs : List α), sumW g (ys ++ zs) = sumW g ys + sumW g zs := fun ys zs => by
    induction ys with
    | nil => simp [sumW]
    | cons y ys ih => simp only [List.cons_append, sumW, ih]; omega
  have := app (xs.take i) (xs.drop i)
  rw [List.take_append_drop] at this
  omega
theorem flatten_take {α : Type} {xs : List (List α)} {i : Nat} {z : List α} (h : i < xs.length) : (xs.take (i + 1)).flatten = (xs.take i).flatten ++ xs.getD i z := by
  rw [List.take_add_one, List.flatten_append, List.getD_eq_getElem?_getD, List.getElem?_eq_getElem h]
  simp
theorem sumW_flatten {α : Type} (xs : List (List α)) : xs.flatten.length = sumW List.length xs := by
  induction xs with
  | nil => rfl
  | cons x xs ih => simp [sumW, ih]
end
end Go.Ev
