/- The laws' helpers on slices: their loops, for all kinds of rows at once. -/
import Derived.Test.YtfgnddgckhpbiaaEvSum
set_option linter.unusedVariables false
namespace Go.Ev
noncomputable abbrev CtL (Γ : Env) (c : Code) (li lo : List Nat) (n : Nat) (σ : St) (K : Ex → St → Option Ret) : Option Ret := rounds (run Γ c) li lo n σ K
section
variable {Γ : Env} {c : Code} {r : Rw} {n : Nat} {T : MText}
theorem getD_mem {α : Type} {xs : List α} {i : Nat} {z : α} (h : i < xs.length) : xs.getD i z ∈ xs := by
  rw [List.getD_eq_getElem?_getD, List.getElem?_eq_getElem h]; exact List.getElem_mem h
theorem all_getD {α : Type} {xs : List α} {p : α → Bool} {i : Nat} {z : α} (h : xs.all p = true) (hi : i < xs.length) : p (xs.getD i z) = true := (List.all_eq_true.1 h) _ (getD_mem hi)

/-! ### to -/
def shTo (r : Rw) (n : Nat) : Ss := { tm := (.cons (.l .no r) (.cons .x (.cons .x (.cons (.w 0) (.cons (.int .i64) (xsh n)))))), ob := (.arr true true r .nil), nx := 1, io := .nil }
def dTo (r : Rw) (n : Nat) (x0 : List r.T) (x4 : Int) (o0 : List r.T) : (shTo r n).T := ((x0, ((), ((), ((), (x4, xd n))))), (o0, ()), ())
def zTo (r : Rw) (n : Nat) (o0 : List r.T) : St := { tm := ([.x, .x, .x, (.w 0)] ++ List.replicate (n + 1) .x), ob := [(0, (.arr true true r o0))], nx := 1, io := [] }
def RTo (r : Rw) (n : Nat) (d : (shTo r n).T) (K : Ex → St → Option Ret) : Option Ret := match d with
  | ((x0, (_, (_, (_, (x4, _))))), (o0, _), _) => bif (x4 == 0) && Nat.beq o0.length x0.length && (Cc.sl r).lim x0 then K (.ext 0) (zTo r n x0) else none
def StepTo (Γ : Env) (c : Code) (r : Rw) (n : Nat) : Prop := ∀ (m : Nat) (x0 : List r.T) (x4 : Int) (o0 : List r.T) (K : Ex → St → Option Ret), CtL Γ c [0,3,4] [3] (m + 1) ((shTo r n).mk' (dTo r n x0 x4 o0)) K =
  (bif decide (x4 < (((List.length x0) : Nat) : Int)) then
   (bif (decide ((0 : Int) ≤ x4) && decide (x4 < (((List.length x0) : Nat) : Int))) then
    (bif (r.lim (List.getD x0 (Int.toNat x4) r.dflt)) then
     (bif (decide ((0 : Int) ≤ x4) && decide (x4 < (((List.length o0) : Nat) : Int))) then
      CtL Γ c [0,3,4] [3] m ((shTo r n).mk' (dTo r n x0 (IntKind.wrap .i64 (x4 + (1 : Int))) (List.set o0 (Int.toNat x4) (List.getD x0 (Int.toNat x4) r.dflt)))) K
      else none)
     else none)
    else none)
   else K (.ext 0) (zTo r n o0))
theorem goTo (hs : StepTo Γ c r n) (x0 o0 : List r.T) (K : Ex → St → Option Ret) (h2 : o0.length = x0.length) (h3 : x0.length ≤ 1048576) (h4 : x0.all r.lim = true) : CtL Γ c [0,3,4] [3] (x0.length + 1) ((shTo r n).mk' (dTo r n x0 0 o0)) K = K (.ext 0) (zTo r n x0) :=
  loop_to (R := fun m i ys => CtL Γ c [0,3,4] [3] m ((shTo r n).mk' (dTo r n x0 i ys)) K) (Kf := fun ys => K (.ext 0) (zTo r n ys)) (z := r.dflt) (fun m i ys hi hy => by
    have := hs m x0 i ys K
    refine this.trans ?_
    rw [decide_eq_true (show ((i : Nat) : Int) < ((x0.length : Nat) : Int) by omega), decide_eq_true (show (0 : Int) ≤ ((i : Nat) : Int) by omega), decide_eq_true (show ((i : Nat) : Int) < ((ys.length : Nat) : Int) by omega), wrap_nat (show i ≤ 4611686018427387904 by omega), Int.toNat_natCast, all_getD h4 hi]
    rfl) (fun m ys hy => by
    refine (hs m x0 _ ys K).trans ?_
    rw [decide_eq_false (show ¬ ((x0.length : Nat) : Int) < ((x0.length : Nat) : Int) by omega)]; rfl) o0 h2
theorem loopTo (hn : firstRegion c = some 3) (hF : Γ.sum 3 = some (loopF (shTo r n) (RTo r n))) (hh : Γ.hint 3 = ([0,3,4], [3])) (hs : StepTo Γ c r n) : LoopOk Γ c := by
  refine loopF_ok (n := 3) hn hF hh (fun d K q hr => ?_)
  obtain ⟨⟨x0, u1, u2, u3, x4, u4⟩, ⟨o0, u5⟩, u6⟩ := d
  unfold RTo at hr
  simp only at hr
  cases hc : ((x4 == 0) && Nat.beq o0.length x0.length && (Cc.sl r).lim x0) with
  | false => rw [hc] at hr; cases hr
  | true =>
    rw [hc] at hr
    simp only [Bool.and_eq_true, beq_iff_eq, Cc.lim] at hc
    obtain ⟨⟨rfl, h2⟩, h3, h4⟩ := hc
    refine ⟨x0.length + 1, Eq.trans ?_ hr⟩
    have he : u4 = xd n := xd_eq u4
    subst he
    exact goTo hs x0 o0 K (Nat.eq_of_beq_eq_true h2) (Nat.le_of_ble_eq_true h3) h4
where xd_eq : {n : Nat} → (u : (xsh n).T) → u = xd n
  | 0, _ => rfl
  | n + 1, (_, u) => congrArg (Prod.mk ()) (xd_eq u)
def TreeTo (r : Rw) (n sz : Nat) (G : Sm) : Prop := ∀ (a : List r.T) (K : Ret → Option Ret), G [.l .no r a] K =
   (bif ((((((((List.length a) : Nat) : Int) == (((List.length a) : Nat) : Int)) && decide ((0 : Int) ≤ (((List.length a) : Nat) : Int))) && decide (((Int.toNat (((List.length a) : Nat) : Int)) * sz) ≤ 140737488355328)) && decide ((((List.length a) : Nat) : Int) ≤ (4611686018427387904 : Int)))) then
    (bif ((0 : Int) == 0) && Nat.beq (List.replicate (Int.toNat (((List.length a) : Nat) : Int)) r.dflt).length a.length && (Cc.sl r).lim a then K (.l .deep r a, []) else none) else none)
theorem evTo {G : Sm} {sz : Nat} (h : TreeTo r n sz G) (hz : Nat.ble sz 1024 = true) : ∀ ws K q, S_toL r ws K = some q → G ws K = some q := S_toL_of (fun a K hl => by
  rw [h, hl]
  simp only [Cc.lim, Bool.and_eq_true] at hl
  have h3 : a.length ≤ 1048576 := Nat.le_of_ble_eq_true hl.1
  have h5 : sz ≤ 1024 := Nat.le_of_ble_eq_true hz
  have h6 : a.length * sz ≤ 1048576 * 1024 := Nat.mul_le_mul h3 h5
  rw [decide_eq_true (show ((a.length : Nat) : Int) ≤ 4611686018427387904 by omega), decide_eq_true (show (0 : Int) ≤ ((a.length : Nat) : Int) by omega), Int.toNat_natCast, decide_eq_true (show a.length * sz ≤ 140737488355328 by omega), List.length_replicate, beq_self_eq_true, beq_self_eq_true, Nat.beq_refl]
  rfl)

/-! ### eq -/
def shEq (r : Rw) (n : Nat) : Ss := { tm := (.cons (.l .no r) (.cons (.l .no r) (.cons (.x) (.cons (.x) (.cons (.x) (.cons (.int .i64) (xsh n))))))), ob := .nil, nx := 0, io := .nil }
def dEq (r : Rw) (n : Nat) (x0 x1 : List r.T) (x5 : Int) : (shEq r n).T := ((x0, (x1, ((), ((), ((), (x5, xd n)))))), (), ())
def zEq (n : Nat) : St := { tm := ([] ++ List.replicate (n + 6) .x), ob := [], nx := 0, io := [] }
def yEq (n : Nat) : St := { tm := ([.x, .x, .x, .x, (.s (.bool false))] ++ List.replicate (n + 1) .x), ob := [], nx := 0, io := [] }
noncomputable def REq (r : Rw) (n : Nat) (d : (shEq r n).T) (K : Ex → St → Option Ret) : Option Ret := match d with
  | ((x0, (x1, (_, (_, (_, (x5, _)))))), _, _) => bif (x5 == 0) && Nat.beq x1.length x0.length && (Cc.sl r).cnt x0 then (bif eqD x0 x1 then K (.ext 0) (zEq n) else K .ret (yEq n)) else none
def StepEq (Γ : Env) (c : Code) (r : Rw) (n : Nat) : Prop := ∀ (m : Nat) (x0 x1 : List r.T) (x5 : Int) (K : Ex → St → Option Ret), CtL Γ c [0,1,5] [4] (m + 1) ((shEq r n).mk' (dEq r n x0 x1 x5)) K =
 (bif decide (x5 < (((List.length x0) : Nat) : Int)) then
 (bif (decide ((0 : Int) ≤ x5) && decide (x5 < (((List.length x0) : Nat) : Int))) then
  (bif (decide ((0 : Int) ≤ x5) && decide (x5 < (((List.length x1) : Nat) : Int))) then
   (bif (r.cnt (List.getD x0 (Int.toNat x5) r.dflt)) then
    (bif (!(eqD (List.getD x0 (Int.toNat x5) r.dflt) (List.getD x1 (Int.toNat x5) r.dflt))) then
     K .ret (yEq n)
     else CtL Γ c [0,1,5] [4] m ((shEq r n).mk' (dEq r n x0 x1 (IntKind.wrap .i64 (x5 + (1 : Int))))) K)
    else none)
   else none)
  else none)
 else K (.ext 0) (zEq n))
theorem goEq (hs : StepEq Γ c r n) (x0 x1 : List r.T) (K : Ex → St → Option Ret) (h2 : x1.length = x0.length) (h3 : x0.length ≤ 4611686018427387904) (h4 : x0.all r.cnt = true) : CtL Γ c [0,1,5] [4] (x0.length + 1) ((shEq r n).mk' (dEq r n x0 x1 0)) K = bif eqD x0 x1 then K (.ext 0) (zEq n) else K .ret (yEq n) :=
  loop_eq (R := fun m i => CtL Γ c [0,1,5] [4] m ((shEq r n).mk' (dEq r n x0 x1 i)) K) (z := r.dflt) (e := eqD) (fun a b => eqD_iff) h2 (fun m i hi => by
    refine (hs m x0 x1 i K).trans ?_
    rw [decide_eq_true (show ((i : Nat) : Int) < ((x0.length : Nat) : Int) by omega), decide_eq_true (show (0 : Int) ≤ ((i : Nat) : Int) by omega), decide_eq_true (show ((i : Nat) : Int) < ((x1.length : Nat) : Int) by omega), wrap_nat (show i ≤ 4611686018427387904 by omega), Int.toNat_natCast, all_getD h4 hi]
    cases eqD (x0.getD i r.dflt) (x1.getD i r.dflt) <;> rfl) (fun m => by
    refine (hs m x0 x1 _ K).trans ?_
    rw [decide_eq_false (show ¬ ((x0.length : Nat) : Int) < ((x0.length : Nat) : Int) by omega)]; rfl)
theorem loopEq (hn : firstRegion c = some 4) (hF : Γ.sum 4 = some (loopF (shEq r n) (REq r n))) (hh : Γ.hint 4 = ([0,1,5], [4])) (hs : StepEq Γ c r n) : LoopOk Γ c := by
  refine loopF_ok (n := 4) hn hF hh (fun d K q hr => ?_)
  obtain ⟨⟨x0, x1, u1, u2, u3, x5, u4⟩, u5, u6⟩ := d
  unfold REq at hr
  simp only at hr
  cases hc : ((x5 == 0) && Nat.beq x1.length x0.length && (Cc.sl r).cnt x0) with
  | false => rw [hc] at hr; cases hr
  | true =>
    rw [hc] at hr
    simp only [Bool.and_eq_true, beq_iff_eq, Cc.cnt] at hc
    obtain ⟨⟨rfl, h2⟩, h3, h4⟩ := hc
    refine ⟨x0.length + 1, Eq.trans ?_ hr⟩
    have he : u4 = xd n := loopTo.xd_eq u4
    subst he
    exact goEq hs x0 x1 K (Nat.eq_of_beq_eq_true h2) (Nat.le_of_ble_eq_true h3) h4
def TreeEq (r : Rw) (G : Sm) : Prop := ∀ (a b : List r.T) (K : Ret → Option Ret), G [.l .no r a, .l .no r b] K =
   (bif ((((List.length a) : Nat) : Int) != (((List.length b) : Nat) : Int)) then K (bl false, [])
    else bif ((0 : Int) == 0) && Nat.beq b.length a.length && (Cc.sl r).cnt a then (bif eqD a b then K (bl true, []) else K (bl false, [])) else none)
theorem evEq {G : Sm} (h : TreeEq r G) : ∀ ws K q, S_eq r ws K = some q → G ws K = some q := S_eq_of (fun a b K hl => by
  rw [h, hl]
  by_cases hl : b.length = a.length
  · rw [hl, Nat.beq_refl]
    cases eqD a b <;> simp
  · have h1 : ((((List.length a) : Nat) : Int) != (((List.length b) : Nat) : Int)) = true := by simp; omega
    rw [h1, eqD_false (fun h' => hl (by rw [h']))]; rfl)

/-! ### sz -/
def shSz (r : Rw) (n : Nat) : Ss := { tm := (.cons (.l .no r) (.cons (.int .i64) (.cons (.x) (.cons (.x) (.cons (.x) (.cons (.int .i64) (xsh n))))))), ob := .nil, nx := 0, io := .nil }
def dSz (r : Rw) (n : Nat) (x0 : List r.T) (x1 : Int) (x5 : Int) : (shSz r n).T := ((x0, (x1, ((), ((), ((), (x5, xd n)))))), (), ())
def zSz (n : Nat) (x1 : Int) : St := { tm := ([.x, (.s (.int .i64 x1))] ++ List.replicate (n + 4) .x), ob := [], nx := 0, io := [] }
def ySz (n : Nat) (x1 : Int) : St := { tm := ([.x, (.s (.int .i64 x1)), .x, .x, (.s (.int .i64 (-(1 : Int))))] ++ List.replicate (n + 1) .x), ob := [], nx := 0, io := [] }
def RSz (r : Rw) (n : Nat) (d : (shSz r n).T) (K : Ex → St → Option Ret) : Option Ret := match d with
  | ((x0, (x1, (_, (_, (_, (x5, _)))))), _, _) => bif (x5 == 0) && szOk x1 && (Nat.ble x0.length 4611686018427387904 && x0.all r.cnz) then (bif decide (x1 - sumW r.w x0 < 0) then K .ret (ySz n (-1)) else K (.ext 0) (zSz n (x1 - sumW r.w x0))) else none
def StepSz (Γ : Env) (c : Code) (r : Rw) (n : Nat) : Prop := ∀ (m : Nat) (x0 : List r.T) (x1 : Int) (x5 : Int) (K : Ex → St → Option Ret), CtL Γ c [0,1,5] [1,4] (m + 1) ((shSz r n).mk' (dSz r n x0 x1 x5)) K =
 (bif decide (x5 < (((List.length x0) : Nat) : Int)) then
 (bif (decide ((0 : Int) ≤ x5) && decide (x5 < (((List.length x0) : Nat) : Int))) then
  (bif ((szOk x1) && (r.cnz (List.getD x0 (Int.toNat x5) r.dflt))) then
   (bif decide ((szN (r.w (List.getD x0 (Int.toNat x5) r.dflt)) x1) < (0 : Int)) then
    K .ret (ySz n (szN (r.w (List.getD x0 (Int.toNat x5) r.dflt)) x1))
    else CtL Γ c [0,1,5] [1,4] m ((shSz r n).mk' (dSz r n x0 (szN (r.w (List.getD x0 (Int.toNat x5) r.dflt)) x1) (IntKind.wrap .i64 (x5 + (1 : Int))))) K)
   else none)
  else none)
 else K (.ext 0) (zSz n x1))
theorem szN_neg {w : Nat} {l : Int} (h : l - w < 0) : szN w l = -1 := if_pos h
theorem szN_pos {w : Nat} {l : Int} (h : ¬ l - w < 0) : szN w l = l - w := if_neg h
theorem szOk_of {l : Int} (h0 : 0 ≤ l) (h1 : l ≤ 4611686018427387904) : szOk l = true := by
  unfold szOk; rw [decide_eq_true h0, decide_eq_true h1]; rfl
theorem goSz (hs : StepSz Γ c r n) (x0 : List r.T) (x1 : Int) (K : Ex → St → Option Ret) (h0 : 0 ≤ x1) (h1 : x1 ≤ 4611686018427387904) (h3 : x0.length ≤ 4611686018427387904) (h4 : x0.all r.cnz = true) : CtL Γ c [0,1,5] [1,4] (x0.length + 1) ((shSz r n).mk' (dSz r n x0 x1 0)) K = bif decide (x1 - sumW r.w x0 < 0) then K .ret (ySz n (-1)) else K (.ext 0) (zSz n (x1 - sumW r.w x0)) :=
  loop_sz (R := fun m i l => CtL Γ c [0,1,5] [1,4] m ((shSz r n).mk' (dSz r n x0 l i)) K) (Kt := fun l => K (.ext 0) (zSz n l)) (Kf := K .ret (ySz n (-1))) (g := r.w) (z := r.dflt) (fun m i l hi h0 h1 => by
    refine (hs m x0 l i K).trans ?_
    rw [decide_eq_true (show ((i : Nat) : Int) < ((x0.length : Nat) : Int) by omega), decide_eq_true (show (0 : Int) ≤ ((i : Nat) : Int) by omega), wrap_nat (show i ≤ 4611686018427387904 by omega), Int.toNat_natCast, all_getD h4 hi, szOk_of h0 h1]
    by_cases e : l - (r.w (x0.getD i r.dflt) : Int) < 0
    · rw [szN_neg e, decide_eq_true e]; rfl
    · rw [szN_pos e, decide_eq_false e]; rfl) (fun m l h0 => by
    refine (hs m x0 l _ K).trans ?_
    rw [decide_eq_false (show ¬ ((x0.length : Nat) : Int) < ((x0.length : Nat) : Int) by omega)]; rfl) x1 h0 h1
theorem loopSz (hn : firstRegion c = some 5) (hF : Γ.sum 5 = some (loopF (shSz r n) (RSz r n))) (hh : Γ.hint 5 = ([0,1,5], [1,4])) (hs : StepSz Γ c r n) : LoopOk Γ c := by
  refine loopF_ok (n := 5) hn hF hh (fun d K q hr => ?_)
  obtain ⟨⟨x0, x1, u1, u2, u3, x5, u4⟩, u5, u6⟩ := d
  unfold RSz at hr
  simp only at hr
  cases hc : ((x5 == 0) && szOk x1 && (Nat.ble x0.length 4611686018427387904 && x0.all r.cnz)) with
  | false => rw [hc] at hr; cases hr
  | true =>
    rw [hc] at hr
    simp only [Bool.and_eq_true, beq_iff_eq, szOk, decide_eq_true_eq] at hc
    obtain ⟨⟨rfl, h1, h2⟩, h3, h4⟩ := hc
    refine ⟨x0.length + 1, Eq.trans ?_ hr⟩
    have he : u4 = xd n := loopTo.xd_eq u4
    subst he
    exact goSz hs x0 x1 K h1 h2 (Nat.le_of_ble_eq_true h3) h4
def TreeSz (r : Rw) (G : Sm) : Prop := ∀ (a : List r.T) (k : Int) (K : Ret → Option Ret), G [.l .no r a, .s (.int .i64 k)] K =
   (bif decide ((IntKind.wrap .i64 (k - (((List.length a) : Nat) : Int))) < (0 : Int)) then K (sc (-1), [])
    else (bif ((0 : Int) == 0) && szOk (IntKind.wrap .i64 (k - (((List.length a) : Nat) : Int))) && (Nat.ble a.length 4611686018427387904 && a.all r.cnz) then (bif decide (IntKind.wrap .i64 (k - (((List.length a) : Nat) : Int)) - sumW r.w a < 0) then K (sc (-1), []) else K (sc (IntKind.wrap .i64 (k - (((List.length a) : Nat) : Int)) - sumW r.w a), [])) else none))
theorem evSz {G : Sm} (h : TreeSz r G) : ∀ ws K q, S_szL r ws K = some q → G ws K = some q := S_szL_of (fun a k K hk hl => by
  simp only [szOk, Bool.and_eq_true, decide_eq_true_eq] at hk
  have hl' := hl
  simp only [Cc.cnz, Bool.and_eq_true] at hl'
  have h3 : a.length ≤ 9223372036854775807 := Nat.le_of_ble_eq_true hl'.1
  rw [h, hl'.2, wrap_in (by omega) (by omega), show (Cc.sl r).w a = a.length + sumW r.w a from rfl, szN_step hk.1]
  by_cases e : k - ((a.length : Nat) : Int) < 0
  · rw [decide_eq_true e, szN_neg e]; rfl
  · rw [decide_eq_false e, szN_pos e, szOk_of (by omega) (by omega), Nat.ble_eq_true_of_le (show a.length ≤ 4611686018427387904 by omega), if_neg (by omega)]
    by_cases e2 : k - ((a.length : Nat) : Int) - sumW r.w a < 0
    · rw [decide_eq_true e2, szN_neg e2]; rfl
    · rw [decide_eq_false e2, szN_pos e2]; rfl)

/-! ### mark -/
def mkC {α ρ : Type} (T : MText) (z : α) (x5 : Int) : (c : Cc) → (get : α → c.T) → (put : α → c.T → α) → List α → Int → (List α → Int → Option ρ) → Option ρ
  | .sl r, get, put, o, k, n =>
    bif (decide ((0 : Int) ≤ x5) && decide (x5 < (((List.length o) : Nat) : Int))) then
     (bif decide (Int.toNat x5 < List.length o) then
      (bif (Cc.sl r).cnt (get (List.getD o (Int.toNat x5) z)) then
       n (List.set o (Int.toNat x5) (put (List.getD o (Int.toNat x5) z) ((Cc.sl r).mark T (get (List.getD o (Int.toNat x5) z)) k).1)) ((Cc.sl r).mark T (get (List.getD o (Int.toNat x5) z)) k).2
       else none)
      else none)
     else none
  | .int i, get, put, o, k, n =>
    bif (decide ((0 : Int) ≤ x5) && decide (x5 < (((List.length o) : Nat) : Int))) then
     n (List.set o (Int.toNat x5) (put (List.getD o (Int.toNat x5) z) (markInt i k))) (IntKind.i64.wrap (k + 1))
     else none
  | _, _, _, _, _, _ => none
def mkR {α ρ : Type} (T : MText) (z : α) (x5 : Int) : (r : Rw) → (get : α → r.T) → (put : α → r.T → α) → List α → Int → (List α → Int → Option ρ) → Option ρ
  | .one c, get, put, o, k, n => mkC T z x5 c get put o k n
  | .cons c r, get, put, o, k, n => mkC T z x5 c (fun p => (get p).1) (fun p v => put p (v, (get p).2)) o k (fun o k => mkR T z x5 r (fun p => (get p).2) (fun p v => put p ((get p).1, v)) o k n)
def Cc.mkOk : Cc → Bool
  | .int _ => true
  | .sl _ => true
  | _ => false
def Rw.mkOk : Rw → Bool
  | .one c => c.mkOk
  | .cons c r => c.mkOk && r.mkOk
theorem getD_set_self {α : Type} {os : List α} {i : Nat} {v z : α} (h : i < os.length) : (os.set i v).getD i z = v := by
  rw [List.getD_eq_getElem?_getD, List.getElem?_set_self h]; rfl
theorem mkC_ok {α ρ : Type} {z : α} {os : List α} {i : Nat} (hi : i < os.length) : (c : Cc) → (get : α → c.T) → (put : α → c.T → α) → (hgp : ∀ p v, get (put p v) = v) → (v : α) → (k : Int) → (n : List α → Int → Option ρ) → c.mkOk = true → c.cnt (get v) = true → mkC T z (i : Nat) c get put (os.set i v) k n = n (os.set i (put v (c.mark T (get v) k).1)) (c.mark T (get v) k).2
  | .sl r, get, put, hgp, v, k, n, hm, hc => by
    have hc' : (Cc.sl r).cnt (get ((os.set i v).getD i z)) = true := by rw [getD_set_self hi]; exact hc
    simp only [mkC]
    rw [Int.toNat_natCast, hc', List.length_set, decide_eq_true (show (0 : Int) ≤ ((i : Nat) : Int) by omega), decide_eq_true (show ((i : Nat) : Int) < ((os.length : Nat) : Int) by omega), decide_eq_true hi, getD_set_self hi, List.set_set]
    rfl
  | .int _, get, put, hgp, v, k, n, hm, hc => by
    simp only [mkC]
    rw [Int.toNat_natCast, List.length_set, decide_eq_true (show (0 : Int) ≤ ((i : Nat) : Int) by omega), decide_eq_true (show ((i : Nat) : Int) < ((os.length : Nat) : Int) by omega), getD_set_self hi, List.set_set]
    rfl
  | .bool, _, _, _, _, _, _, hm, _ => by cases hm
  | .str, _, _, _, _, _, _, hm, _ => by cases hm
theorem mkR_ok {α ρ : Type} {z : α} {os : List α} {i : Nat} (hi : i < os.length) : (r : Rw) → (get : α → r.T) → (put : α → r.T → α) → (hgp : ∀ p v, get (put p v) = v) → (hpp : ∀ p v w, put (put p v) w = put p w) → (v : α) → (k : Int) → (n : List α → Int → Option ρ) → r.mkOk = true → r.cnt (get v) = true → mkR T z (i : Nat) r get put (os.set i v) k n = n (os.set i (put v (r.mark T (get v) k).1)) (r.mark T (get v) k).2
  | .one c, get, put, hgp, hpp, v, k, n, hm, hc => mkC_ok hi c get put hgp v k n hm hc
  | .cons c r, get, put, hgp, hpp, v, k, n, hm, hc => by
    simp only [Rw.mkOk, Rw.cnt, Bool.and_eq_true] at hm hc
    simp only [mkR]
    rw [mkC_ok hi c _ _ (fun p v => by rw [hgp]) v k _ hm.1 hc.1]
    rw [mkR_ok hi r _ _ (fun p v => by rw [hgp]) (fun p v w => by rw [hgp, hpp]) _ _ n hm.2 (by rw [hgp]; exact hc.2)]
    simp only [hgp, hpp]
    rfl
def shMk (r : Rw) (n : Nat) : Ss := { tm := (.cons (.w 0) (.cons (.int .i64) (.cons (.x) (.cons (.x) (.cons (.x) (.cons (.int .i64) (xsh n))))))), ob := (.own true r .nil), nx := 1, io := (.cons (.w 0) .nil) }
def dMk (r : Rw) (n : Nat) (x1 : Int) (x5 : Int) (o0 : List r.T) : (shMk r n).T := (((), (x1, ((), ((), ((), (x5, xd n)))))), (o0, ()), ((), ()))
def zMk (r : Rw) (n : Nat) (x1 : Int) (o0 : List r.T) : St := { tm := ([.x, (.s (.int .i64 x1))] ++ List.replicate (n + 4) .x), ob := [(0, (.own true r o0))], nx := 1, io := [(.w 0)] }
def RMk (T : MText) (r : Rw) (n : Nat) (d : (shMk r n).T) (K : Ex → St → Option Ret) : Option Ret := match d with
  | ((_, (x1, (_, (_, (_, (x5, _)))))), (o0, _), _) => bif (x5 == 0) && (Cc.sl r).cnt o0 then K (.ext 0) (zMk r n ((Cc.sl r).mark T o0 x1).2 ((Cc.sl r).mark T o0 x1).1) else none
def StepMk (T : MText) (Γ : Env) (c : Code) (r : Rw) (n : Nat) : Prop := ∀ (m : Nat) (x1 : Int) (x5 : Int) (o0 : List r.T) (K : Ex → St → Option Ret), CtL Γ c [0,1,5] [1] (m + 1) ((shMk r n).mk' (dMk r n x1 x5 o0)) K =
 (bif decide (x5 < (((List.length o0) : Nat) : Int)) then
  mkR T r.dflt x5 r id (fun _ v => v) o0 x1 (fun o k => CtL Γ c [0,1,5] [1] m ((shMk r n).mk' (dMk r n k (IntKind.wrap .i64 (x5 + (1 : Int))) o)) K)
  else K (.ext 0) (zMk r n x1 o0))
theorem loop_markP {α ρ : Type} {R : Nat → Int → Int → List α → ρ} {Kf : Int → List α → ρ} {f : α → Int → α × Int} {z : α} {p : α → Bool} (n : Nat)
    (hs : ∀ m (i : Nat) k (ys : List α), i < n → ys.length = n → p (ys.getD i z) = true → R (m + 1) i k ys = R m ((i + 1 : Nat) : Int) (f (ys.getD i z) k).2 (ys.set i (f (ys.getD i z) k).1))
    (he : ∀ m k (ys : List α), ys.length = n → R (m + 1) (n : Nat) k ys = Kf k ys) (xs : List α) (hx : xs.length = n) (hp : xs.all p = true) (k : Int) : R (n + 1) 0 k xs = Kf (markList f xs k).2 (markList f xs k).1 := by
  have key : ∀ (j i : Nat) (k : Int) (pre suf : List α), pre.length = i → (pre ++ suf).length = n → i + j = n → suf.all p = true → R (j + 1) i k (pre ++ suf) = Kf (markList f suf k).2 (pre ++ (markList f suf k).1) := by
    intro j
    induction j with
    | zero =>
      intro i k pre suf hp hn hi _
      have hs0 : suf = [] := by
        cases suf with
        | nil => rfl
        | cons x xs => simp at hn; omega
      subst hs0
      have : i = n := by omega
      subst this
      rw [he 0 k _ hn]; rfl
    | succ j ih =>
      intro i k pre suf hp hn hi ha
      cases suf with
      | nil => simp at hn; omega
      | cons x suf =>
        simp only [List.all_cons, Bool.and_eq_true] at ha
        have hg : (pre ++ x :: suf).getD i z = x := by
          rw [List.getD_eq_getElem?_getD, List.getElem?_append_right (by omega), hp, Nat.sub_self]; rfl
        rw [hs _ i k _ (by omega) hn (by rw [hg]; exact ha.1)]
        have hset : (pre ++ x :: suf).set i (f x k).1 = (pre ++ [(f x k).1]) ++ suf := by
          rw [List.set_append_right _ _ (by omega), hp, Nat.sub_self]; simp
        rw [hg, hset, ih (i + 1) (f x k).2 (pre ++ [(f x k).1]) suf (by simp [hp]) (by simpa using hn) (by omega) ha.2]
        simp [markList]
  have := key n 0 k [] xs rfl (by simpa using hx) (by omega) hp
  simpa using this
theorem set_getD_self {α : Type} {xs : List α} {i : Nat} {z : α} (h : i < xs.length) : xs.set i (xs.getD i z) = xs := by
  rw [List.getD_eq_getElem?_getD, List.getElem?_eq_getElem h]; simp
theorem goMk (hm : r.mkOk = true) (hs : StepMk T Γ c r n) (x1 : Int) (o0 : List r.T) (K : Ex → St → Option Ret) (h3 : o0.length ≤ 4611686018427387904) (h4 : o0.all r.cnt = true) : CtL Γ c [0,1,5] [1] (o0.length + 1) ((shMk r n).mk' (dMk r n x1 0 o0)) K = K (.ext 0) (zMk r n ((Cc.sl r).mark T o0 x1).2 ((Cc.sl r).mark T o0 x1).1) :=
  loop_markP (R := fun m i k ys => CtL Γ c [0,1,5] [1] m ((shMk r n).mk' (dMk r n k i ys)) K) (Kf := fun k ys => K (.ext 0) (zMk r n k ys)) (f := r.mark T) (z := r.dflt) (p := r.cnt) o0.length (fun m i k ys hi hy hp => by
    refine (hs m k i ys K).trans ?_
    rw [decide_eq_true (show ((i : Nat) : Int) < ((ys.length : Nat) : Int) by omega), wrap_nat (show i ≤ 4611686018427387904 by omega)]
    have := mkR_ok (T := T) (z := r.dflt) (os := ys) (i := i) (by omega) r id (fun _ v => v) (fun _ _ => rfl) (fun _ _ _ => rfl) (ys.getD i r.dflt) k (fun o k => CtL Γ c [0,1,5] [1] m ((shMk r n).mk' (dMk r n k ((i + 1 : Nat) : Int) o)) K) hm hp
    rw [set_getD_self (by omega)] at this
    exact this) (fun m k ys hy => by
    refine (hs m k _ ys K).trans ?_
    rw [decide_eq_false (show ¬ ((o0.length : Nat) : Int) < ((ys.length : Nat) : Int) by omega)]; rfl) o0 rfl h4 x1
theorem loopMk (hn : firstRegion c = some 2) (hF : Γ.sum 2 = some (loopF (shMk r n) (RMk T r n))) (hh : Γ.hint 2 = ([0,1,5], [1])) (hm : r.mkOk = true) (hs : StepMk T Γ c r n) : LoopOk Γ c := by
  refine loopF_ok (n := 2) hn hF hh (fun d K q hr => ?_)
  obtain ⟨⟨u0, x1, u1, u2, u3, x5, u4⟩, ⟨o0, u5⟩, u6⟩ := d
  unfold RMk at hr
  simp only at hr
  cases hc : ((x5 == 0) && (Cc.sl r).cnt o0) with
  | false => rw [hc] at hr; cases hr
  | true =>
    rw [hc] at hr
    simp only [Bool.and_eq_true, beq_iff_eq, Cc.cnt] at hc
    obtain ⟨rfl, h3, h4⟩ := hc
    refine ⟨o0.length + 1, Eq.trans ?_ hr⟩
    have he : u4 = xd n := loopTo.xd_eq u4
    subst he
    exact goMk hm hs x1 o0 K (Nat.le_of_ble_eq_true h3) h4
def TreeMk (T : MText) (r : Rw) (G : Sm) : Prop := ∀ (a : List r.T) (k : Int) (K : Ret → Option Ret), G [.l .own r a, .s (.int .i64 k)] K =
   (bif ((0 : Int) == 0) && (Cc.sl r).cnt a then K (sc ((Cc.sl r).mark T a k).2, [.l .own r ((Cc.sl r).mark T a k).1]) else none)
theorem evMk {G : Sm} (h : TreeMk T r G) : ∀ ws K q, S_markL T r ws K = some q → G ws K = some q := S_markL_of (fun a k K hl => by
  rw [h, hl]; rfl)

/-! ### held -/
noncomputable def hdC {ρ : Type} (T : MText) (x5 : Int) (len : Nat) : (c : Cc) → c.T → Int → (Int → Option ρ) → (Int → Option ρ) → Option ρ
  | .sl r, d, k, Z, n =>
    bif (decide ((0 : Int) ≤ x5) && decide (x5 < ((len : Nat) : Int))) then
     (bif ((eqD ((Cc.sl r).mark T d k).1 d) && (((Cc.sl r).cnt d) && decide ((0 : Int) ≤ k) && decide (k + ((((Cc.sl r).marks d) : Nat) : Int) ≤ (4611686018427387904 : Int)))) then
      (bif decide (((Cc.sl r).mark T d k).2 < (0 : Int)) then Z ((Cc.sl r).mark T d k).2 else n ((Cc.sl r).mark T d k).2)
      else none)
     else none
  | .int i, d, k, Z, n =>
    bif (decide ((0 : Int) ≤ x5) && decide (x5 < ((len : Nat) : Int))) then
     (bif (d != markInt i k) then Z k else n (IntKind.i64.wrap (k + 1)))
     else none
  | _, _, _, _, _ => none
noncomputable def hdR {ρ : Type} (T : MText) (x5 : Int) (len : Nat) : (r : Rw) → r.T → Int → (Int → Option ρ) → (Int → Option ρ) → Option ρ
  | .one c, d, k, Z, n => hdC T x5 len c d k Z n
  | .cons c r, d, k, Z, n => hdC T x5 len c d.1 k Z (fun k => hdR T x5 len r d.2 k Z n)
theorem hdC_ok {ρ : Type} {len i : Nat} (hi : i < len) {Z n : Int → Option ρ} : (c : Cc) → (d : c.T) → (k : Int) → c.mkOk = true → (c.mark T d k).1 = d → c.cnt d = true → 0 ≤ k → k + c.marks d ≤ 4611686018427387904 → hdC T (i : Nat) len c d k Z n = n (c.mark T d k).2
  | .sl r, d, k, hm, h1, h2, h3, h4 => by
    have e := Cc.mark_cnt T (.sl r) d k h3 h4
    simp only [hdC]
    rw [h2, eqD_iff.2 h1, decide_eq_true h3, decide_eq_true h4, decide_eq_true (show (0 : Int) ≤ ((i : Nat) : Int) by omega), decide_eq_true (show ((i : Nat) : Int) < ((len : Nat) : Int) by omega), decide_eq_false (show ¬ ((Cc.sl r).mark T d k).2 < 0 by rw [e]; omega)]
    rfl
  | .int _, d, k, hm, h1, h2, h3, h4 => by
    have h1' : markInt _ k = d := h1
    simp only [hdC]
    rw [h1', bne_self_eq_false, decide_eq_true (show (0 : Int) ≤ ((i : Nat) : Int) by omega), decide_eq_true (show ((i : Nat) : Int) < ((len : Nat) : Int) by omega)]
    rfl
  | .bool, _, _, hm, _, _, _, _ => by cases hm
  | .str, _, _, hm, _, _, _, _ => by cases hm
theorem hdR_ok {ρ : Type} {len i : Nat} (hi : i < len) {Z n : Int → Option ρ} : (r : Rw) → (d : r.T) → (k : Int) → r.mkOk = true → (r.mark T d k).1 = d → r.cnt d = true → 0 ≤ k → k + r.marks d ≤ 4611686018427387904 → hdR T (i : Nat) len r d k Z n = n (r.mark T d k).2
  | .one c, d, k, hm, h1, h2, h3, h4 => hdC_ok hi c d k hm h1 h2 h3 h4
  | .cons c r, d, k, hm, h1, h2, h3, h4 => by
    simp only [Rw.mkOk, Rw.cnt, Bool.and_eq_true, Rw.mark, Rw.marks] at hm h1 h2 h4
    have e := Cc.mark_cnt T c d.1 k h3 (by omega)
    have h1a : (c.mark T d.1 k).1 = d.1 := congrArg Prod.fst h1
    have h1b : (r.mark T d.2 (c.mark T d.1 k).2).1 = d.2 := congrArg Prod.snd h1
    simp only [hdR]
    rw [hdC_ok hi c d.1 k hm.1 h1a h2.1 h3 (by omega)]
    rw [hdR_ok hi r d.2 _ hm.2 h1b h2.2 (by rw [e]; omega) (by rw [e]; omega)]
    rfl
def shHd (r : Rw) (n : Nat) : Ss := shSz r n
noncomputable def RHd (T : MText) (r : Rw) (n : Nat) (d : (shSz r n).T) (K : Ex → St → Option Ret) : Option Ret := match d with
  | ((x0, (x1, (_, (_, (_, (x5, _)))))), _, _) => bif (x5 == 0) && eqD ((Cc.sl r).mark T x0 x1).1 x0 && ((Cc.sl r).cnt x0 && decide (0 ≤ x1) && decide (x1 + ((Cc.sl r).marks x0 : Nat) ≤ 4611686018427387904)) then K (.ext 0) (zSz n ((Cc.sl r).mark T x0 x1).2) else none
def StepHd (T : MText) (Γ : Env) (c : Code) (r : Rw) (n : Nat) : Prop := ∀ (m : Nat) (x0 : List r.T) (x1 : Int) (x5 : Int) (K : Ex → St → Option Ret), CtL Γ c [0,1,5] [1,4] (m + 1) ((shSz r n).mk' (dSz r n x0 x1 x5)) K =
 (bif decide (x5 < (((List.length x0) : Nat) : Int)) then
  hdR T x5 (List.length x0) r (List.getD x0 (Int.toNat x5) r.dflt) x1 (fun k => K .ret (ySz n k)) (fun k => CtL Γ c [0,1,5] [1,4] m ((shSz r n).mk' (dSz r n x0 k (IntKind.wrap .i64 (x5 + (1 : Int))))) K)
  else K (.ext 0) (zSz n x1))
theorem loop_heldP {α ρ : Type} {R : Nat → Int → Int → ρ} {Kf : Int → ρ} {f : α → Int → α × Int} {m : α → Nat} {xs : List α} {z : α}
    (hf : ∀ x ∈ xs, ∀ (k : Int), 0 ≤ k → k + m x ≤ 4611686018427387904 → (f x k).2 = k + m x)
    (hs : ∀ j (i : Nat) k, i < xs.length → (f (xs.getD i z) k).1 = xs.getD i z → 0 ≤ k → k + m (xs.getD i z) ≤ 4611686018427387904 → R (j + 1) i k = R j ((i + 1 : Nat) : Int) (f (xs.getD i z) k).2)
    (he : ∀ m k, R (m + 1) (xs.length : Nat) k = Kf k) (k : Int) (hm : (markList f xs k).1 = xs) (h0 : 0 ≤ k) (h1 : k + sumW m xs ≤ 4611686018427387904) : R (xs.length + 1) 0 k = Kf (markList f xs k).2 := by
  have key : ∀ (j i : Nat) (k : Int), i + j = xs.length → (markList f (xs.drop i) k).1 = xs.drop i → 0 ≤ k → k + sumW m (xs.drop i) ≤ 4611686018427387904 → R (j + 1) i k = Kf (markList f (xs.drop i) k).2 := by
    intro j
    induction j with
    | zero =>
      intro i k hi hm _ _
      have : i = xs.length := by omega
      subst this
      rw [he 0 k, List.drop_length]; rfl
    | succ j ih =>
      intro i k hi hm h0 h1
      have hlt : i < xs.length := by omega
      rw [List.drop_eq_getElem_cons hlt] at hm h1 ⊢
      simp only [markList, sumW] at hm h1 ⊢
      have e1 := (List.cons.inj hm).1
      have e2 := (List.cons.inj hm).2
      have hx : xs.getD i z = xs[i] := by rw [List.getD_eq_getElem?_getD, List.getElem?_eq_getElem hlt]; rfl
      have e3 := hf xs[i] (List.getElem_mem hlt) k h0 (by omega)
      rw [hs _ i k hlt (by rw [hx]; exact e1) h0 (by rw [hx]; omega), hx, ih (i + 1) _ (by omega) e2 (by rw [e3]; omega) (by rw [e3]; omega)]
  have := key xs.length 0 k (by omega) (by simpa using hm) h0 (by simpa using h1)
  simpa using this
theorem goHd (hm : r.mkOk = true) (hs : StepHd T Γ c r n) (x0 : List r.T) (x1 : Int) (K : Ex → St → Option Ret) (h2 : ((Cc.sl r).mark T x0 x1).1 = x0) (h3 : x0.length ≤ 4611686018427387904) (h4 : x0.all r.cnt = true) (h5 : 0 ≤ x1) (h6 : x1 + (Cc.sl r).marks x0 ≤ 4611686018427387904) : CtL Γ c [0,1,5] [1,4] (x0.length + 1) ((shSz r n).mk' (dSz r n x0 x1 0)) K = K (.ext 0) (zSz n ((Cc.sl r).mark T x0 x1).2) :=
  loop_heldP (R := fun m i k => CtL Γ c [0,1,5] [1,4] m ((shSz r n).mk' (dSz r n x0 k i)) K) (Kf := fun k => K (.ext 0) (zSz n k)) (f := r.mark T) (m := r.marks) (z := r.dflt) (fun x _ k h0 h1 => Rw.mark_cnt T r x k h0 h1) (fun m i k hi hx h0 h1 => by
    refine (hs m x0 k i K).trans ?_
    rw [decide_eq_true (show ((i : Nat) : Int) < ((x0.length : Nat) : Int) by omega), wrap_nat (show i ≤ 4611686018427387904 by omega), Int.toNat_natCast]
    exact hdR_ok hi r (x0.getD i r.dflt) k hm hx (all_getD h4 hi) h0 h1) (fun m k => by
    refine (hs m x0 k _ K).trans ?_
    rw [decide_eq_false (show ¬ ((x0.length : Nat) : Int) < ((x0.length : Nat) : Int) by omega)]; rfl) x1 h2 h5 h6
theorem loopHd (hn : firstRegion c = some 2) (hF : Γ.sum 2 = some (loopF (shSz r n) (RHd T r n))) (hh : Γ.hint 2 = ([0,1,5], [1,4])) (hm : r.mkOk = true) (hs : StepHd T Γ c r n) : LoopOk Γ c := by
  refine loopF_ok (n := 2) hn hF hh (fun d K q hr => ?_)
  obtain ⟨⟨x0, x1, u1, u2, u3, x5, u4⟩, u5, u6⟩ := d
  unfold RHd at hr
  simp only at hr
  cases hc : ((x5 == 0) && eqD ((Cc.sl r).mark T x0 x1).1 x0 && ((Cc.sl r).cnt x0 && decide (0 ≤ x1) && decide (x1 + ((Cc.sl r).marks x0 : Nat) ≤ 4611686018427387904))) with
  | false => rw [hc] at hr; cases hr
  | true =>
    rw [hc] at hr
    simp only [Bool.and_eq_true, beq_iff_eq, decide_eq_true_eq] at hc
    obtain ⟨⟨rfl, h1⟩, ⟨h2, h5⟩, h6⟩ := hc
    have h2' := h2
    simp only [Cc.cnt, Bool.and_eq_true] at h2'
    refine ⟨x0.length + 1, Eq.trans ?_ hr⟩
    have he : u4 = xd n := loopTo.xd_eq u4
    subst he
    exact goHd hm hs x0 x1 K (eqD_iff.1 h1) (Nat.le_of_ble_eq_true h2'.1) h2'.2 h5 h6
def TreeHd (T : MText) (r : Rw) (G : Sm) : Prop := ∀ (a : List r.T) (k : Int) (K : Ret → Option Ret), G [.l .no r a, .s (.int .i64 k)] K =
   (bif ((0 : Int) == 0) && eqD ((Cc.sl r).mark T a k).1 a && ((Cc.sl r).cnt a && decide (0 ≤ k) && decide (k + ((Cc.sl r).marks a : Nat) ≤ 4611686018427387904)) then K (sc ((Cc.sl r).mark T a k).2, []) else none)
theorem evHd {G : Sm} (h : TreeHd T r G) : ∀ ws K q, S_heldL T r ws K = some q → G ws K = some q := S_heldL_of (fun a k K h1 h2 h3 h4 => by
  rw [h, eqD_iff.2 h1, h2, decide_eq_true h3, decide_eq_true h4]; rfl)
end
end Go.Ev
