/- The laws' helpers: their contracts, for all kinds of rows at once. -/
import Derived.Test.YtfgnddgckhpbiaaEvGen
set_option linter.unusedVariables false
namespace Go.Ev

/-! ### What comes in, read as data -/
def Cc.dec : (c : Cc) → V → Option c.T
  | .int k, .s (.int k' n) => if k' = k then some n else none
  | .bool, .s (.bool b) => some b
  | .str, .s (.string b) => some b
  | .sl r, .l .no r' xs => if h : r' = r then some (h ▸ xs) else none
  | _, _ => none
def Rw.dec : (r : Rw) → List V → Option r.T
  | .one c, [v] => c.dec v
  | .cons c r, v :: vs => match c.dec v with
    | some d => match r.dec vs with
      | some e => some (d, e)
      | none => none
    | none => none
  | _, _ => none
theorem Cc.dec_ok : (c : Cc) → {v : V} → {d : c.T} → c.dec v = some d → v = c.cell .no d
  | .int k, v, d, h => by
    cases v with
    | s u =>
      cases u with
      | int k' n =>
        simp only [Cc.dec] at h
        split at h
        · rename_i hk; subst hk; cases h; rfl
        · cases h
      | _ => simp [Cc.dec] at h
    | _ => simp [Cc.dec] at h
  | .bool, v, d, h => by
    cases v with
    | s u => cases u <;> simp only [Cc.dec, reduceCtorEq, Option.some.injEq] at h; subst h; rfl
    | _ => simp [Cc.dec] at h
  | .str, v, d, h => by
    cases v with
    | s u => cases u <;> simp only [Cc.dec, reduceCtorEq, Option.some.injEq] at h; subst h; rfl
    | _ => simp [Cc.dec] at h
  | .sl r, v, d, h => by
    cases v with
    | l o r' xs =>
      cases o <;> simp only [Cc.dec, reduceCtorEq] at h
      split at h
      · rename_i hr; subst hr; cases h; rfl
      · cases h
    | _ => simp [Cc.dec] at h
theorem Rw.dec_ok : (r : Rw) → {vs : List V} → {d : r.T} → r.dec vs = some d → vs = r.cells .no d
  | .one c, [], d, h => by simp [Rw.dec] at h
  | .one c, [v], d, h => by
    simp only [Rw.dec] at h
    rw [Cc.dec_ok c h]; rfl
  | .one c, _ :: _ :: _, d, h => by simp [Rw.dec] at h
  | .cons c r, [], d, h => by simp [Rw.dec] at h
  | .cons c r, v :: vs, d, h => by
    simp only [Rw.dec] at h
    split at h
    · rename_i d1 e1
      split at h
      · rename_i d2 e2
        cases h
        rw [Cc.dec_ok c e1, Rw.dec_ok r e2]; rfl
      · cases h
    · cases h

def sc (n : Int) : V := .s (.int .i64 n)
def bl (b : Bool) : V := .s (.bool b)
def szN (w : Nat) (l : Int) : Int := if l - w < 0 then -1 else l - w
def szOk (l : Int) : Bool := decide (0 ≤ l) && decide (l ≤ 4611686018427387904)

/-! ### Contracts: of slices (L) and of structs (A) -/
def S_toL (r : Rw) : Sm := fun vs K => match vs with
  | [v] => match (Cc.sl r).dec v with
    | some xs => bif (Cc.sl r).lim xs then K (.l .deep r xs, []) else none
    | none => none
  | _ => none
def S_toA (r : Rw) : Sm := fun vs K => match vs with
  | [.a cs] => match r.dec cs with
    | some d => bif r.lim d then K (.a (r.cells .deep d), []) else none
    | none => none
  | _ => none
noncomputable def S_eqL (r : Rw) : Sm := fun vs K => match vs with
  | [v, u] => match (Cc.sl r).dec v, (Cc.sl r).dec u with
    | some xs, some ys => bif Nat.ble xs.length 4611686018427387904 then K (bl (eqD xs ys), []) else none
    | _, _ => none
  | _ => none
mutual
/-- All lists short enough for a counter. -/
def Cc.cnt : (c : Cc) → c.T → Bool
  | .sl r, xs => Nat.ble xs.length 4611686018427387904 && xs.all r.cnt
  | _, _ => true
def Rw.cnt : (r : Rw) → r.T → Bool
  | .one c, d => c.cnt d
  | .cons c r, d => c.cnt d.1 && r.cnt d.2
end
mutual
/-- All lists as short as Go has them. -/
def Cc.cnz : (c : Cc) → c.T → Bool
  | .sl r, xs => Nat.ble xs.length 9223372036854775807 && xs.all r.cnz
  | _, _ => true
def Rw.cnz : (r : Rw) → r.T → Bool
  | .one c, d => c.cnz d
  | .cons c r, d => c.cnz d.1 && r.cnz d.2
end
mutual
theorem Cc.cnt_of_lim : (c : Cc) → (d : c.T) → c.lim d = true → c.cnt d = true
  | .int _, _, _ => rfl
  | .bool, _, _ => rfl
  | .str, _, _ => rfl
  | .sl r, xs, h => by
    simp only [Cc.lim, Cc.cnt, Bool.and_eq_true, List.all_eq_true] at h ⊢
    exact ⟨Nat.ble_eq_true_of_le (by have := Nat.le_of_ble_eq_true h.1; omega), fun x hx => Rw.cnt_of_lim r x (h.2 x hx)⟩
theorem Rw.cnt_of_lim : (r : Rw) → (d : r.T) → r.lim d = true → r.cnt d = true
  | .one c, d, h => Cc.cnt_of_lim c d h
  | .cons c r, d, h => by
    simp only [Rw.lim, Rw.cnt, Bool.and_eq_true] at h ⊢
    exact ⟨Cc.cnt_of_lim c d.1 h.1, Rw.cnt_of_lim r d.2 h.2⟩
end
noncomputable def S_eq (r : Rw) : Sm := fun vs K => match vs with
  | [v, u] => match (Cc.sl r).dec v, (Cc.sl r).dec u with
    | some xs, some ys => bif (Cc.sl r).cnt xs then K (bl (eqD xs ys), []) else none
    | _, _ => none
  | _ => none
noncomputable def S_eqA (r : Rw) : Sm := fun vs K => match vs with
  | [.a cs, .a ds] => match r.dec cs, r.dec ds with
    | some d, some e => bif r.cnt d then K (bl (eqD d e), []) else none
    | _, _ => none
  | _ => none
def S_szL (r : Rw) : Sm := fun vs K => match vs with
  | [v, .s (.int .i64 l)] => match (Cc.sl r).dec v with
    | some xs => bif szOk l && (Cc.sl r).cnz xs then K (sc (szN ((Cc.sl r).w xs) l), []) else none
    | none => none
  | _ => none
def S_szA (r : Rw) : Sm := fun vs K => match vs with
  | [.a cs, .s (.int .i64 l)] => match r.dec cs with
    | some d => bif szOk l && r.cnz d then K (sc (szN (r.w d) l), []) else none
    | none => none
  | _ => none
mutual
def Cc.decO : (c : Cc) → V → Option c.T
  | .int k, .s (.int k' n) => if k' = k then some n else none
  | .bool, .s (.bool b) => some b
  | .str, .s (.string b) => some b
  | .sl r, .l .own r' xs => if h : r' = r then some (h ▸ xs) else none
  | _, _ => none
def Rw.decO : (r : Rw) → List V → Option r.T
  | .one c, [v] => c.decO v
  | .cons c r, v :: vs => match c.decO v with
    | some d => match r.decO vs with
      | some e => some (d, e)
      | none => none
    | none => none
  | _, _ => none
end
theorem Cc.decO_ok : (c : Cc) → {v : V} → {d : c.T} → c.decO v = some d → v = c.cell .own d
  | .int k, v, d, h => by
    cases v with
    | s u =>
      cases u with
      | int k' n =>
        simp only [Cc.decO] at h
        split at h
        · rename_i hk; subst hk; cases h; rfl
        · cases h
      | _ => simp [Cc.decO] at h
    | _ => simp [Cc.decO] at h
  | .bool, v, d, h => by
    cases v with
    | s u => cases u <;> simp only [Cc.decO, reduceCtorEq, Option.some.injEq] at h; subst h; rfl
    | _ => simp [Cc.decO] at h
  | .str, v, d, h => by
    cases v with
    | s u => cases u <;> simp only [Cc.decO, reduceCtorEq, Option.some.injEq] at h; subst h; rfl
    | _ => simp [Cc.decO] at h
  | .sl r, v, d, h => by
    cases v with
    | l o r' xs =>
      cases o <;> simp only [Cc.decO, reduceCtorEq] at h
      split at h
      · rename_i hr; subst hr; cases h; rfl
      · cases h
    | _ => simp [Cc.decO] at h
theorem Rw.decO_ok : (r : Rw) → {vs : List V} → {d : r.T} → r.decO vs = some d → vs = r.cells .own d
  | .one c, [], d, h => by simp [Rw.decO] at h
  | .one c, [v], d, h => by
    simp only [Rw.decO] at h
    rw [Cc.decO_ok c h]; rfl
  | .one c, _ :: _ :: _, d, h => by simp [Rw.decO] at h
  | .cons c r, [], d, h => by simp [Rw.decO] at h
  | .cons c r, v :: vs, d, h => by
    simp only [Rw.decO] at h
    split at h
    · rename_i d1 e1
      split at h
      · rename_i d2 e2
        cases h
        rw [Cc.decO_ok c e1, Rw.decO_ok r e2]; rfl
      · cases h
    · cases h
def S_markL (T : MText) (r : Rw) : Sm := fun vs K => match vs with
  | [v, .s (.int .i64 k)] => match (Cc.sl r).decO v with
    | some xs => bif (Cc.sl r).cnt xs then K (sc ((Cc.sl r).mark T xs k).2, [.l .own r ((Cc.sl r).mark T xs k).1]) else none
    | none => none
  | _ => none
def S_markA (T : MText) (r : Rw) : Sm := fun vs K => match vs with
  | [.a cs, .s (.int .i64 k)] => match r.decO cs with
    | some d => bif r.cnt d then K (sc (r.markA T d k).2, [.a (r.cells .own (r.markA T d k).1)]) else none
    | none => none
  | _ => none
noncomputable def S_heldL (T : MText) (r : Rw) : Sm := fun vs K => match vs with
  | [v, .s (.int .i64 k)] => match (Cc.sl r).dec v with
    | some xs => bif eqD ((Cc.sl r).mark T xs k).1 xs && ((Cc.sl r).cnt xs && decide (0 ≤ k) && decide (k + (Cc.sl r).marks xs ≤ 4611686018427387904)) then K (sc ((Cc.sl r).mark T xs k).2, []) else none
    | none => none
  | _ => none
noncomputable def S_heldA (T : MText) (r : Rw) : Sm := fun vs K => match vs with
  | [.a cs, .s (.int .i64 k)] => match r.dec cs with
    | some d => bif eqD (r.markA T d k).1 d && (r.cnt d && decide (0 ≤ k) && decide (k + r.marksA d ≤ 4611686018427387904)) then K (sc (r.markA T d k).2, []) else none
    | none => none
  | _ => none
theorem wrap_nat {i : Nat} (h : i ≤ 4611686018427387904) : IntKind.i64.wrap (((i : Nat) : Int) + 1) = (((i + 1 : Nat)) : Int) := by
  rw [wrap_id (by omega) (by omega)]; rfl
theorem eqD_pair {α β : Type} (x y : α × β) : eqD x y = (eqD x.1 y.1 && eqD x.2 y.2) := by
  rw [Bool.eq_iff_iff, Bool.and_eq_true, eqD_iff, eqD_iff, eqD_iff]
  exact Prod.ext_iff
theorem eqD_int (x y : Int) : eqD x y = (x == y) := by
  rw [Bool.eq_iff_iff, eqD_iff]; simp
theorem szN_step {w v : Nat} {l : Int} (h : 0 ≤ l) : szN (w + v) l = if szN w l < 0 then -1 else szN v (szN w l) := by
  simp only [szN]
  split <;> split <;> (try split) <;> (try split) <;> omega
/-! ### From a function's law to its contract -/
section
variable {P : Program} {I : Nat → World → Prop}
theorem okW {g : FuncId} {f : Bool} {S G : Sm} (hG : OkFn P I g f G) (h : ∀ ws K q, S ws K = some q → G ws K = some q) : OkFn P I g f S := OkFn.weak (fun ws K r hr => ⟨_, hG, h ws K r hr⟩) hG.1
variable {r : Rw} {G : Sm} {T : MText}
theorem S_toL_of (h : ∀ xs K, (Cc.sl r).lim xs = true → G [.l .no r xs] K = K (.l .deep r xs, [])) : ∀ ws K q, S_toL r ws K = some q → G ws K = some q := by
  intro ws K q hr
  unfold S_toL at hr
  split at hr
  · split at hr
    · rename_i xs hx
      rw [Cc.dec_ok _ hx]
      cases hl : (Cc.sl r).lim xs with
      | false => rw [hl] at hr; cases hr
      | true => rw [hl] at hr; exact (h xs K hl).trans hr
    · cases hr
  · cases hr
theorem S_toA_of (h : ∀ d K, r.lim d = true → G [.a (r.cells .no d)] K = K (.a (r.cells .deep d), [])) : ∀ ws K q, S_toA r ws K = some q → G ws K = some q := by
  intro ws K q hr
  unfold S_toA at hr
  split at hr
  · split at hr
    · rename_i d hx
      rw [Rw.dec_ok _ hx]
      cases hl : r.lim d with
      | false => rw [hl] at hr; cases hr
      | true => rw [hl] at hr; exact (h d K hl).trans hr
    · cases hr
  · cases hr
theorem S_eq_of (h : ∀ xs ys K, (Cc.sl r).cnt xs = true → G [.l .no r xs, .l .no r ys] K = K (bl (eqD xs ys), [])) : ∀ ws K q, S_eq r ws K = some q → G ws K = some q := by
  intro ws K q hr
  unfold S_eq at hr
  split at hr
  · split at hr
    · rename_i xs ys hx hy
      rw [Cc.dec_ok _ hx, Cc.dec_ok _ hy]
      cases hl : (Cc.sl r).cnt xs with
      | false => rw [hl] at hr; cases hr
      | true => rw [hl] at hr; exact (h xs ys K hl).trans hr
    · cases hr
  · cases hr
theorem S_eqA_of (h : ∀ xs ys K, r.cnt xs = true → G [.a (r.cells .no xs), .a (r.cells .no ys)] K = K (bl (eqD xs ys), [])) : ∀ ws K q, S_eqA r ws K = some q → G ws K = some q := by
  intro ws K q hr
  unfold S_eqA at hr
  split at hr
  · split at hr
    · rename_i xs ys hx hy
      rw [Rw.dec_ok _ hx, Rw.dec_ok _ hy]
      cases hl : r.cnt xs with
      | false => rw [hl] at hr; cases hr
      | true => rw [hl] at hr; exact (h xs ys K hl).trans hr
    · cases hr
  · cases hr
theorem S_szL_of (h : ∀ xs l K, szOk l = true → (Cc.sl r).cnz xs = true → G [.l .no r xs, .s (.int .i64 l)] K = K (sc (szN ((Cc.sl r).w xs) l), [])) : ∀ ws K q, S_szL r ws K = some q → G ws K = some q := by
  intro ws K q hr
  unfold S_szL at hr
  split at hr
  · split at hr
    · rename_i l _ xs hx
      rw [Cc.dec_ok _ hx]
      cases hl : (szOk l && (Cc.sl r).cnz xs) with
      | false => rw [hl] at hr; cases hr
      | true => rw [hl] at hr; rw [Bool.and_eq_true] at hl; exact (h xs l K hl.1 hl.2).trans hr
    · cases hr
  · cases hr
theorem S_szA_of (h : ∀ d l K, szOk l = true → r.cnz d = true → G [.a (r.cells .no d), .s (.int .i64 l)] K = K (sc (szN (r.w d) l), [])) : ∀ ws K q, S_szA r ws K = some q → G ws K = some q := by
  intro ws K q hr
  unfold S_szA at hr
  split at hr
  · split at hr
    · rename_i l _ xs hx
      rw [Rw.dec_ok _ hx]
      cases hl : (szOk l && r.cnz xs) with
      | false => rw [hl] at hr; cases hr
      | true => rw [hl] at hr; rw [Bool.and_eq_true] at hl; exact (h xs l K hl.1 hl.2).trans hr
    · cases hr
  · cases hr
theorem S_markL_of (h : ∀ xs k K, (Cc.sl r).cnt xs = true → G [.l .own r xs, .s (.int .i64 k)] K = K (sc ((Cc.sl r).mark T xs k).2, [.l .own r ((Cc.sl r).mark T xs k).1])) : ∀ ws K q, S_markL T r ws K = some q → G ws K = some q := by
  intro ws K q hr
  unfold S_markL at hr
  split at hr
  · split at hr
    · rename_i k _ xs hx
      rw [Cc.decO_ok _ hx]
      cases hl : (Cc.sl r).cnt xs with
      | false => rw [hl] at hr; cases hr
      | true => rw [hl] at hr; exact (h xs k K hl).trans hr
    · cases hr
  · cases hr
theorem S_markA_of (h : ∀ d k K, r.cnt d = true → G [.a (r.cells .own d), .s (.int .i64 k)] K = K (sc (r.markA T d k).2, [.a (r.cells .own (r.markA T d k).1)])) : ∀ ws K q, S_markA T r ws K = some q → G ws K = some q := by
  intro ws K q hr
  unfold S_markA at hr
  split at hr
  · split at hr
    · rename_i k _ xs hx
      rw [Rw.decO_ok _ hx]
      cases hl : r.cnt xs with
      | false => rw [hl] at hr; cases hr
      | true => rw [hl] at hr; exact (h xs k K hl).trans hr
    · cases hr
  · cases hr
theorem S_heldL_of (h : ∀ xs k K, ((Cc.sl r).mark T xs k).1 = xs → (Cc.sl r).cnt xs = true → 0 ≤ k → k + (Cc.sl r).marks xs ≤ 4611686018427387904 → G [.l .no r xs, .s (.int .i64 k)] K = K (sc ((Cc.sl r).mark T xs k).2, [])) : ∀ ws K q, S_heldL T r ws K = some q → G ws K = some q := by
  intro ws K q hr
  unfold S_heldL at hr
  split at hr
  · split at hr
    · rename_i k _ xs hx
      rw [Cc.dec_ok _ hx]
      cases hl : (eqD ((Cc.sl r).mark T xs k).1 xs && ((Cc.sl r).cnt xs && decide (0 ≤ k) && decide (k + (Cc.sl r).marks xs ≤ 4611686018427387904))) with
      | false => rw [hl] at hr; cases hr
      | true =>
        rw [hl] at hr
        simp only [Bool.and_eq_true, decide_eq_true_eq] at hl
        exact (h xs k K (eqD_iff.1 hl.1) hl.2.1.1 hl.2.1.2 hl.2.2).trans hr
    · cases hr
  · cases hr
theorem S_heldA_of (h : ∀ d k K, (r.markA T d k).1 = d → r.cnt d = true → 0 ≤ k → k + r.marksA d ≤ 4611686018427387904 → G [.a (r.cells .no d), .s (.int .i64 k)] K = K (sc (r.markA T d k).2, [])) : ∀ ws K q, S_heldA T r ws K = some q → G ws K = some q := by
  intro ws K q hr
  unfold S_heldA at hr
  split at hr
  · split at hr
    · rename_i k _ xs hx
      rw [Rw.dec_ok _ hx]
      cases hl : (eqD (r.markA T xs k).1 xs && (r.cnt xs && decide (0 ≤ k) && decide (k + r.marksA xs ≤ 4611686018427387904))) with
      | false => rw [hl] at hr; cases hr
      | true =>
        rw [hl] at hr
        simp only [Bool.and_eq_true, decide_eq_true_eq] at hl
        exact (h xs k K (eqD_iff.1 hl.1) hl.2.1.1 hl.2.1.2 hl.2.2).trans hr
    · cases hr
  · cases hr
end

/-! ### Chains in the structs' helpers -/
section
variable {ρ : Type}
theorem to_step {b : Bool} {A B : Option ρ} (h : b = true) (hA : A = B) : (bif b then A else none) = B := by rw [h]; exact hA
theorem eq_ne {α β : Type} [BEq α] [LawfulBEq α] {x y : α} {xs ys : β} {K : Ret → Option Ret} {A : Option Ret} (h : A = K (bl (eqD xs ys), [])) : (bif x != y then K (bl false, []) else A) = K (bl (eqD (x, xs) (y, ys)), []) := by
  by_cases e : x = y
  · rw [show (x != y) = false by simp [e]]
    show A = _
    rw [h]
    by_cases e2 : xs = ys
    · rw [e, e2, eqD_self, eqD_self]
    · rw [eqD_false e2, eqD_false (fun h => e2 (Prod.mk.inj h).2)]
  · rw [show (x != y) = true by simp [e], eqD_false (fun h => e (Prod.mk.inj h).1)]; rfl
theorem eq_ne1 {α : Type} [BEq α] [LawfulBEq α] {x y : α} {K : Ret → Option Ret} : (bif x != y then K (bl false, []) else K (bl true, [])) = K (bl (eqD x y), []) := by
  by_cases e : x = y
  · rw [show (x != y) = false by simp [e], e, eqD_self]; rfl
  · rw [show (x != y) = true by simp [e], eqD_false e]; rfl
theorem eq_sub {α β γ : Type} {x y : α} {xs ys : β} {u v : γ} {b : Bool} {K : Ret → Option Ret} {A : Option Ret} (hb : b = true) (he : u = v ↔ x = y ∧ xs = ys) (h : A = K (bl (eqD xs ys), [])) : (bif b then (bif !(eqD x y) then K (bl false, []) else A) else none) = K (bl (eqD u v), []) := by
  rw [hb]
  by_cases e : x = y
  · rw [e, eqD_self]
    show A = _
    rw [h]
    by_cases e2 : xs = ys
    · rw [he.2 ⟨e, e2⟩, e2, eqD_self, eqD_self]
    · rw [eqD_false e2, eqD_false (fun h => e2 (he.1 h).2)]
  · rw [eqD_false e, eqD_false (fun h => e (he.1 h).1)]; rfl
theorem eq_sl {α β : Type} {x y : α} {xs ys : β} {b : Bool} {K : Ret → Option Ret} {A : Option Ret} (hb : b = true) (h : A = K (bl (eqD xs ys), [])) : (bif b then (bif !(eqD x y) then K (bl false, []) else A) else none) = K (bl (eqD (x, xs) (y, ys)), []) := eq_sub hb (by simp) h
theorem eq_sub1 {α : Type} {x y : α} {b : Bool} {K : Ret → Option Ret} (hb : b = true) : (bif b then (bif !(eqD x y) then K (bl false, []) else K (bl true, [])) else none) = K (bl (eqD x y), []) := by
  rw [hb]; cases eqD x y <;> rfl
theorem sz_step {b : Bool} {w w2 wt : Nat} {l : Int} {K : Int → Option ρ} {A : Option ρ} (hl : szOk l = true) (hb : b = true) (hw : wt = w + w2) (h : szOk (szN w l) = true → A = K (szN w2 (szN w l))) : (bif szOk l && b then (bif decide (szN w l < 0) then K (-1) else A) else none) = K (szN wt l) := by
  rw [hl, hb, hw]
  simp only [szOk, Bool.and_eq_true, decide_eq_true_eq] at hl
  rw [szN_step hl.1]
  by_cases e : szN w l < 0
  · rw [decide_eq_true e, if_pos e]; rfl
  · rw [decide_eq_false e, if_neg e]
    refine h ?_
    have e2 : szN w l = l - w := by
      unfold szN at e ⊢
      split
      · rename_i h2; rw [if_pos h2] at e; omega
      · rfl
    rw [e2] at e ⊢
    unfold szOk
    rw [decide_eq_true (show 0 ≤ l - (w : Int) by omega), decide_eq_true (show l - (w : Int) ≤ 4611686018427387904 by omega)]; rfl
theorem sz_end {l : Int} {K : Int → Option ρ} (hl : szOk l = true) : K l = K (szN 0 l) := by
  simp only [szOk, Bool.and_eq_true, decide_eq_true_eq] at hl
  unfold szN
  rw [if_neg (by omega)]; simp
theorem held_step {a b : Bool} {k m : Int} {n : Nat} {A B : Option ρ} {Z : Option ρ} (h1 : a = true) (h2 : b = true) (h3 : 0 ≤ k) (h4 : k + (n : Nat) ≤ 4611686018427387904) (hm : m = k + (n : Nat)) (h : A = B) : (bif a && (b && decide ((0 : Int) ≤ k) && decide (k + ((n : Nat) : Int) ≤ 4611686018427387904)) then (bif decide (m < 0) then Z else A) else none) = B := by
  rw [h1, h2, decide_eq_true h3, decide_eq_true h4, decide_eq_false (show ¬ m < 0 by omega)]
  exact h
end
end Go.Ev
