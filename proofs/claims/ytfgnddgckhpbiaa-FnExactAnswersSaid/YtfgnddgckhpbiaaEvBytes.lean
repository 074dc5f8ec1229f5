/- The laws' helpers for bytes. -/
import Derived.Test.YtfgnddgckhpbiaaEvSum
namespace Go.Ev.Seat
open Go.RowKit
set_option maxRecDepth 100000
set_option linter.unusedVariables false
-- toByteS
def sh_toByteS : Ss := { tm := (.cons (.l .no bytesR) (.cons (.x) (.cons (.x) (.cons (.w 0) (.cons (.int .i64) (xsh 17)))))), ob := (.arr true true bytesR .nil), nx := 1, io := .nil }
def d_toByteS (x0 : List (Int)) (x4 : Int) (o0 : List (Int)) : sh_toByteS.T := ((x0, ((), ((), ((), (x4, xd 17))))), (o0, ()), ())
def z_toByteS (x0 : List Int) : St := { tm := ([.x, .x, .x, (.w 0)] ++ List.replicate 18 .x), ob := [(0, (.arr true true bytesR x0))], nx := 1, io := [] }
def R_toByteS (d : sh_toByteS.T) (K : Ex → St → Option Ret) : Option Ret := match d with
  | ((x0, (_, (_, (_, (x4, _))))), (o0, _), _) => bif (x4 == 0) && Nat.beq o0.length x0.length && (Cc.sl bytesR).lim x0 then K (.ext 0) (z_toByteS x0) else none
noncomputable def E_toByteS : Env := En [] [] [(3, [0,3,4], [3], loopF sh_toByteS R_toByteS)]
noncomputable abbrev L_toByteS (n : Nat) (x0 : List Int) (x4 : Int) (o0 : List Int) (K : Ex → St → Option Ret) : Option Ret := rounds (run E_toByteS (bodyOf F.l_toByteS 3)) [0,3,4] [3] n (sh_toByteS.mk' (d_toByteS x0 x4 o0)) K
theorem step_toByteS (n : Nat) (x0 : List (Int)) (x4 : Int) (o0 : List (Int)) (K : Ex → St → Option Ret) : L_toByteS (n + 1) x0 x4 o0 K =
 (bif decide (x4 < (((List.length x0) : Nat) : Int)) then
 (bif (decide ((0 : Int) ≤ x4) && decide (x4 < (((List.length x0) : Nat) : Int))) then
  (bif (decide ((0 : Int) ≤ x4) && decide (x4 < (((List.length o0) : Nat) : Int))) then
   L_toByteS n x0 (IntKind.wrap .i64 (x4 + (1 : Int))) (List.set o0 (Int.toNat x4) (List.getD x0 (Int.toNat x4) ((0 : Nat) : Int))) K
   else none)
  else none)
 else K (.ext 0) (z_toByteS o0)) := by kernel_rfl
theorem go_toByteS (x0 o0 : List Int) (K : Ex → St → Option Ret) (h2 : o0.length = x0.length) (h3 : x0.length ≤ 1048576) : L_toByteS (x0.length + 1) x0 0 o0 K = K (.ext 0) (z_toByteS x0) :=
  loop_to (R := fun n i ys => L_toByteS n x0 i ys K) (Kf := fun ys => K (.ext 0) (z_toByteS ys)) (z := (0 : Int)) (fun n i ys hi hy => by
    show L_toByteS (n + 1) x0 i ys K = _
    rw [step_toByteS, decide_eq_true (show ((i : Nat) : Int) < ((x0.length : Nat) : Int) by omega), decide_eq_true (show (0 : Int) ≤ ((i : Nat) : Int) by omega), decide_eq_true (show ((i : Nat) : Int) < ((ys.length : Nat) : Int) by omega), wrap_nat (show i ≤ 4611686018427387904 by omega)]
    rfl) (fun n ys hy => by
    show L_toByteS (n + 1) x0 _ ys K = _
    rw [step_toByteS, decide_eq_false (show ¬ ((x0.length : Nat) : Int) < ((x0.length : Nat) : Int) by omega)]; rfl) o0 h2
theorem loop_toByteS : LoopOk E_toByteS (bodyOf F.l_toByteS 3) := by
  refine loopF_ok (n := 3) (sh := sh_toByteS) (R := R_toByteS) (by kernel_rfl) rfl rfl (fun d K r hr => ?_)
  obtain ⟨⟨x0, u1, u2, u3, x4, u4⟩, ⟨o0, u5⟩, u6⟩ := d
  unfold R_toByteS at hr
  simp only at hr
  cases hc : ((x4 == 0) && Nat.beq o0.length x0.length && (Cc.sl bytesR).lim x0) with
  | false => rw [hc] at hr; cases hr
  | true =>
    rw [hc] at hr
    simp only [Bool.and_eq_true, beq_iff_eq, Cc.lim] at hc
    obtain ⟨⟨rfl, h2⟩, h3, _⟩ := hc
    exact ⟨x0.length + 1, (go_toByteS x0 o0 K (Nat.eq_of_beq_eq_true h2) (Nat.le_of_ble_eq_true h3)).trans hr⟩
noncomputable def G_toByteS := evF E_toByteS true F.l_toByteS
theorem ok_toByteS {I : Nat → World → Prop} : OkFn prog I N.l_toByteS true G_toByteS := ok_fn mem0 (by kernel_rfl) (by kernel_rfl) (by kernel_rfl) (by kernel_rfl) (cs := [bodyOf F.l_toByteS 3]) (by kernel_rfl) (loopsc loop_toByteS loops0)
theorem ev_toByteS (a : List Int) (K : Ret → Option Ret) (h : (Cc.sl bytesR).lim a = true) : G_toByteS [.l .no bytesR a] K = K (.l .deep bytesR a, []) := by
  have e : G_toByteS [.l .no bytesR a] K =
   (bif ((((((((List.length a) : Nat) : Int) == (((List.length a) : Nat) : Int)) && decide ((0 : Int) ≤ (((List.length a) : Nat) : Int))) && decide (((Int.toNat (((List.length a) : Nat) : Int)) * 1) ≤ 140737488355328)) && decide ((((List.length a) : Nat) : Int) ≤ (4611686018427387904 : Int)))) then
    (bif ((0 : Int) == 0) && Nat.beq (List.replicate (Int.toNat (((List.length a) : Nat) : Int)) (0 : Int)).length a.length && (Cc.sl bytesR).lim a then K (.l .deep bytesR a, []) else none) else none) := by kernel_rfl
  rw [e, h]
  simp only [Cc.lim, Bool.and_eq_true] at h
  have h3 : a.length ≤ 1048576 := Nat.le_of_ble_eq_true h.1
  rw [decide_eq_true (show ((a.length : Nat) : Int) ≤ 4611686018427387904 by omega), decide_eq_true (show (0 : Int) ≤ ((a.length : Nat) : Int) by omega), Int.toNat_natCast, decide_eq_true (show a.length * 1 ≤ 140737488355328 by omega), List.length_replicate, beq_self_eq_true, beq_self_eq_true, Nat.beq_refl]
  rfl
theorem okS_toByteS {I : Nat → World → Prop} : OkFn prog I N.l_toByteS true (S_toL bytesR) := okW ok_toByteS (S_toL_of fun xs K h => ev_toByteS xs K h)
-- eqByteS
def sh_eqByteS : Ss := { tm := (.cons (.l .no bytesR) (.cons (.l .no bytesR) (.cons (.x) (.cons (.x) (.cons (.x) (.cons (.int .i64) (xsh 20))))))), ob := .nil, nx := 0, io := .nil }
def d_eqByteS (x0 : List (Int)) (x1 : List (Int)) (x5 : Int) : sh_eqByteS.T := ((x0, (x1, ((), ((), ((), (x5, xd 20)))))), (), ())
def z_eqByteS : St := { tm := ([] ++ List.replicate 26 .x), ob := [], nx := 0, io := [] }
def y_eqByteS : St := { tm := ([.x, .x, .x, .x, (.s (.bool false))] ++ List.replicate 21 .x), ob := [], nx := 0, io := [] }
noncomputable def R_eqByteS (d : sh_eqByteS.T) (K : Ex → St → Option Ret) : Option Ret := match d with
  | ((x0, (x1, (_, (_, (_, (x5, _)))))), _, _) => bif (x5 == 0) && Nat.beq x1.length x0.length && Nat.ble x0.length 4611686018427387904 then (bif eqD x0 x1 then K (.ext 0) z_eqByteS else K .ret y_eqByteS) else none
noncomputable def E_eqByteS : Env := En [] [(6, takes [0, 1, 2, 3, 4, 5, 6, 7, 8], [])] [(4, [0,1,5], [4], loopF sh_eqByteS R_eqByteS)]
noncomputable abbrev L_eqByteS (n : Nat) (x0 x1 : List Int) (x5 : Int) (K : Ex → St → Option Ret) : Option Ret := rounds (run E_eqByteS (bodyOf F.l_eqByteS 4)) [0,1,5] [4] n (sh_eqByteS.mk' (d_eqByteS x0 x1 x5)) K
theorem step_eqByteS (n : Nat) (x0 : List (Int)) (x1 : List (Int)) (x5 : Int) (K : Ex → St → Option Ret) : L_eqByteS (n + 1) x0 x1 x5 K =
 (bif decide (x5 < (((List.length x0) : Nat) : Int)) then
 (bif (decide ((0 : Int) ≤ x5) && decide (x5 < (((List.length x0) : Nat) : Int))) then
  (bif (decide ((0 : Int) ≤ x5) && decide (x5 < (((List.length x1) : Nat) : Int))) then
   (bif ((List.getD x0 (Int.toNat x5) ((0 : Nat) : Int)) != (List.getD x1 (Int.toNat x5) ((0 : Nat) : Int))) then
    K .ret y_eqByteS
    else L_eqByteS n x0 x1 (IntKind.wrap .i64 (x5 + (1 : Int))) K)
   else none)
  else none)
 else K (.ext 0) z_eqByteS) := by kernel_rfl
theorem go_eqByteS (x0 x1 : List Int) (K : Ex → St → Option Ret) (h2 : x1.length = x0.length) (h3 : x0.length ≤ 4611686018427387904) : L_eqByteS (x0.length + 1) x0 x1 0 K = bif eqD x0 x1 then K (.ext 0) z_eqByteS else K .ret y_eqByteS :=
  loop_eq (R := fun n i => L_eqByteS n x0 x1 i K) (z := (0 : Int)) (e := fun a b => a == b) (fun a b => by simp) h2 (fun n i hi => by
    show L_eqByteS (n + 1) x0 x1 i K = _
    rw [step_eqByteS, decide_eq_true (show ((i : Nat) : Int) < ((x0.length : Nat) : Int) by omega), decide_eq_true (show (0 : Int) ≤ ((i : Nat) : Int) by omega), decide_eq_true (show ((i : Nat) : Int) < ((x1.length : Nat) : Int) by omega), wrap_nat (show i ≤ 4611686018427387904 by omega), Int.toNat_natCast, bne]
    show (bif !(x0.getD i 0 == x1.getD i 0) then _ else _) = bif (x0.getD i 0 == x1.getD i 0) then _ else _
    cases (x0.getD i 0 == x1.getD i 0) <;> rfl) (fun n => by
    show L_eqByteS (n + 1) x0 x1 _ K = _
    rw [step_eqByteS, decide_eq_false (show ¬ ((x0.length : Nat) : Int) < ((x0.length : Nat) : Int) by omega)]; rfl)
theorem loop_eqByteS : LoopOk E_eqByteS (bodyOf F.l_eqByteS 4) := by
  refine loopF_ok (n := 4) (sh := sh_eqByteS) (R := R_eqByteS) (by kernel_rfl) rfl rfl (fun d K r hr => ?_)
  obtain ⟨⟨x0, x1, u1, u2, u3, x5, u4⟩, u5, u6⟩ := d
  unfold R_eqByteS at hr
  simp only at hr
  cases hc : ((x5 == 0) && Nat.beq x1.length x0.length && Nat.ble x0.length 4611686018427387904) with
  | false => rw [hc] at hr; cases hr
  | true =>
    rw [hc] at hr
    simp only [Bool.and_eq_true, beq_iff_eq] at hc
    obtain ⟨⟨rfl, h2⟩, h3⟩ := hc
    exact ⟨x0.length + 1, (go_eqByteS x0 x1 K (Nat.eq_of_beq_eq_true h2) (Nat.le_of_ble_eq_true h3)).trans hr⟩
noncomputable def G_eqByteS := evF E_eqByteS true F.l_eqByteS
theorem ok_eqByteS {I : Nat → World → Prop} : OkFn prog I N.l_eqByteS true G_eqByteS := ok_fn mem0 (by kernel_rfl) (by kernel_rfl) (by kernel_rfl) (by kernel_rfl) (cs := [bodyOf F.l_eqByteS 4]) (by kernel_rfl) (loopsc loop_eqByteS loops0)
theorem ev_eqByteS (a b : List Int) (K : Ret → Option Ret) (h : Nat.ble a.length 4611686018427387904 = true) : G_eqByteS [.l .no bytesR a, .l .no bytesR b] K = K (bl (eqD a b), []) := by
  have e : G_eqByteS [.l .no bytesR a, .l .no bytesR b] K =
   (bif ((((List.length a) : Nat) : Int) != (((List.length b) : Nat) : Int)) then K (bl false, [])
    else bif ((0 : Int) == 0) && Nat.beq b.length a.length && Nat.ble a.length 4611686018427387904 then (bif eqD a b then K (bl true, []) else K (bl false, [])) else none) := by kernel_rfl
  rw [e]
  by_cases hl : b.length = a.length
  · rw [hl, h, Nat.beq_refl]
    cases eqD a b <;> simp
  · have h1 : ((((List.length a) : Nat) : Int) != (((List.length b) : Nat) : Int)) = true := by simp; omega
    rw [h1, eqD_false (fun h' => hl (by rw [h']))]; rfl
theorem okS_eqByteS {I : Nat → World → Prop} : OkFn prog I N.l_eqByteS true (S_eq bytesR) := okW ok_eqByteS (S_eq_of fun xs ys K h => by
  simp only [Cc.cnt, Bool.and_eq_true] at h
  exact ev_eqByteS xs ys K h.1)
-- szByteS
noncomputable def G_szByteS := evF (En []) true F.l_szByteS
theorem ok_szByteS {I : Nat → World → Prop} : OkFn prog I N.l_szByteS true G_szByteS := ok_fn mem0 (by kernel_rfl) (by kernel_rfl) (by kernel_rfl) (by kernel_rfl) (cs := []) (by kernel_rfl) loops0
theorem ev_szByteS (a : List Int) (k : Int) (K : Ret → Option Ret) (h0 : 0 ≤ k) (h1 : k ≤ 4611686018427387904) (h : a.length ≤ 9223372036854775807) : G_szByteS [.l .no bytesR a, .s (.int .i64 k)] K = K (sc (szN a.length k), []) := by
  have e : G_szByteS [.l .no bytesR a, .s (.int .i64 k)] K =
   (bif decide ((IntKind.wrap .i64 (k - (((List.length a) : Nat) : Int))) < (0 : Int)) then K (sc (-1), [])
    else K (sc (IntKind.wrap .i64 (k - (((List.length a) : Nat) : Int))), [])) := by kernel_rfl
  rw [e, wrap_in (by omega) (by omega)]
  unfold szN
  by_cases hc : k - ((a.length : Nat) : Int) < 0
  · rw [decide_eq_true hc, if_pos hc]; rfl
  · rw [decide_eq_false hc, if_neg hc]; rfl
theorem w_byte (xs : List Int) : (Cc.sl bytesR).w xs = xs.length := by
  have : ∀ ys : List Int, sumW bytesR.w ys = 0 := fun ys => by
    induction ys with
    | nil => rfl
    | cons y ys ih => simp only [sumW]; rw [ih]; rfl
  exact (congrArg (fun n => List.length xs + n) (this xs)).trans rfl
theorem okS_szByteS {I : Nat → World → Prop} : OkFn prog I N.l_szByteS true (S_szL bytesR) := okW ok_szByteS (S_szL_of fun xs l K h1 h2 => by
  simp only [szOk, Cc.cnz, Bool.and_eq_true, decide_eq_true_eq] at h1 h2
  exact (ev_szByteS xs l K h1.1 h1.2 (Nat.le_of_ble_eq_true h2.1)).trans (congrArg (fun n => K (sc (szN n l), [])) (w_byte xs).symm))
-- markByteS
def sh_markByteS : Ss := { tm := (.cons (.w 0) (.cons (.int .i64) (.cons (.x) (.cons (.x) (.cons (.x) (.cons (.int .i64) (xsh 14))))))), ob := (.own true bytesR .nil), nx := 1, io := (.cons (.w 0) .nil) }
def d_markByteS (x1 : Int) (x5 : Int) (o0 : List (Int)) : sh_markByteS.T := (((), (x1, ((), ((), ((), (x5, xd 14)))))), (o0, ()), ((), ()))
def z_markByteS (x1 : Int) (o0 : List Int) : St := { tm := ([.x, (.s (.int .i64 x1))] ++ List.replicate 18 .x), ob := [(0, (.own true bytesR o0))], nx := 1, io := [(.w 0)] }
def f_byte (x : Int) (k : Int) : Int × Int := (IntKind.u8.wrap k, IntKind.i64.wrap (k + 1))
def R_markByteS (d : sh_markByteS.T) (K : Ex → St → Option Ret) : Option Ret := match d with
  | ((_, (x1, (_, (_, (_, (x5, _)))))), (o0, _), _) => bif (x5 == 0) && Nat.ble o0.length 4611686018427387904 then K (.ext 0) (z_markByteS (markList f_byte o0 x1).2 (markList f_byte o0 x1).1) else none
noncomputable def E_markByteS : Env := En [] [] [(2, [0,1,5], [1], loopF sh_markByteS R_markByteS)] [] true
noncomputable abbrev L_markByteS (n : Nat) (x1 x5 : Int) (o0 : List Int) (K : Ex → St → Option Ret) : Option Ret := rounds (run E_markByteS (bodyOf F.l_markByteS 2)) [0,1,5] [1] n (sh_markByteS.mk' (d_markByteS x1 x5 o0)) K
theorem step_markByteS (n : Nat) (x1 : Int) (x5 : Int) (o0 : List (Int)) (K : Ex → St → Option Ret) : L_markByteS (n + 1) x1 x5 o0 K =
 (bif decide (x5 < (((List.length o0) : Nat) : Int)) then
 (bif (decide ((0 : Int) ≤ x5) && decide (x5 < (((List.length o0) : Nat) : Int))) then
  L_markByteS n (IntKind.wrap .i64 (x1 + (1 : Int))) (IntKind.wrap .i64 (x5 + (1 : Int))) (List.set o0 (Int.toNat x5) (IntKind.wrap .u8 x1)) K
  else none)
 else K (.ext 0) (z_markByteS x1 o0)) := by kernel_rfl
theorem go_markByteS (x1 : Int) (o0 : List Int) (K : Ex → St → Option Ret) (h3 : o0.length ≤ 4611686018427387904) : L_markByteS (o0.length + 1) x1 0 o0 K = K (.ext 0) (z_markByteS (markList f_byte o0 x1).2 (markList f_byte o0 x1).1) :=
  loop_mark (R := fun n i k ys => L_markByteS n k i ys K) (Kf := fun k ys => K (.ext 0) (z_markByteS k ys)) (f := f_byte) (z := (0 : Int)) o0.length (fun n i k ys hi hy => by
    show L_markByteS (n + 1) k i ys K = _
    rw [step_markByteS, decide_eq_true (show ((i : Nat) : Int) < ((ys.length : Nat) : Int) by omega), decide_eq_true (show (0 : Int) ≤ ((i : Nat) : Int) by omega), wrap_nat (show i ≤ 4611686018427387904 by omega)]
    rfl) (fun n k ys hy => by
    show L_markByteS (n + 1) k _ ys K = _
    rw [step_markByteS, decide_eq_false (show ¬ ((o0.length : Nat) : Int) < ((ys.length : Nat) : Int) by omega)]; rfl) o0 rfl x1
theorem loop_markByteS : LoopOk E_markByteS (bodyOf F.l_markByteS 2) := by
  refine loopF_ok (n := 2) (sh := sh_markByteS) (R := R_markByteS) (by kernel_rfl) rfl rfl (fun d K r hr => ?_)
  obtain ⟨⟨u0, x1, u1, u2, u3, x5, u4⟩, ⟨o0, u5⟩, u6⟩ := d
  unfold R_markByteS at hr
  simp only at hr
  cases hc : ((x5 == 0) && Nat.ble o0.length 4611686018427387904) with
  | false => rw [hc] at hr; cases hr
  | true =>
    rw [hc] at hr
    simp only [Bool.and_eq_true, beq_iff_eq] at hc
    obtain ⟨rfl, h3⟩ := hc
    exact ⟨o0.length + 1, (go_markByteS x1 o0 K (Nat.le_of_ble_eq_true h3)).trans hr⟩
noncomputable def G_markByteS := evF E_markByteS true F.l_markByteS
theorem ok_markByteS {I : Nat → World → Prop} : OkFn prog I N.l_markByteS true G_markByteS := ok_fn mem0 (by kernel_rfl) (by kernel_rfl) (by kernel_rfl) (by kernel_rfl) (cs := [bodyOf F.l_markByteS 2]) (by kernel_rfl) (loopsc loop_markByteS loops0)
theorem ev_markByteS (a : List Int) (k : Int) (K : Ret → Option Ret) (h : Nat.ble a.length 4611686018427387904 = true) : G_markByteS [.l .own bytesR a, .s (.int .i64 k)] K = K (sc (markList f_byte a k).2, [.l .own bytesR (markList f_byte a k).1]) := by
  have e : G_markByteS [.l .own bytesR a, .s (.int .i64 k)] K =
   (bif ((0 : Int) == 0) && Nat.ble a.length 4611686018427387904 then K (sc (markList f_byte a k).2, [.l .own bytesR (markList f_byte a k).1]) else none) := by kernel_rfl
  rw [e, h]; rfl
theorem mark_byte (T : MText) (a : List Int) (k : Int) : (Cc.sl bytesR).mark T a k = markList f_byte a k := rfl
theorem okS_markByteS {I : Nat → World → Prop} (T : MText) : OkFn prog I N.l_markByteS true (S_markL T bytesR) := okW ok_markByteS (S_markL_of fun xs k K h => by
  simp only [Cc.cnt, Bool.and_eq_true] at h
  exact ev_markByteS xs k K h.1)
-- heldByteS
def sh_heldByteS : Ss := { tm := (.cons (.l .no bytesR) (.cons (.int .i64) (.cons (.x) (.cons (.x) (.cons (.x) (.cons (.int .i64) (xsh 16))))))), ob := .nil, nx := 0, io := .nil }
def d_heldByteS (x0 : List (Int)) (x1 : Int) (x5 : Int) : sh_heldByteS.T := ((x0, (x1, ((), ((), ((), (x5, xd 16)))))), (), ())
def z_heldByteS (x1 : Int) : St := { tm := ([.x, (.s (.int .i64 x1))] ++ List.replicate 20 .x), ob := [], nx := 0, io := [] }
noncomputable def R_heldByteS (d : sh_heldByteS.T) (K : Ex → St → Option Ret) : Option Ret := match d with
  | ((x0, (x1, (_, (_, (_, (x5, _)))))), _, _) => bif (x5 == 0) && Nat.ble x0.length 4611686018427387904 && eqD (markList f_byte x0 x1).1 x0 then K (.ext 0) (z_heldByteS (markList f_byte x0 x1).2) else none
noncomputable def E_heldByteS : Env := En [] [] [(2, [0,1,5], [1,4], loopF sh_heldByteS R_heldByteS)]
noncomputable abbrev L_heldByteS (n : Nat) (x0 : List Int) (x1 x5 : Int) (K : Ex → St → Option Ret) : Option Ret := rounds (run E_heldByteS (bodyOf F.l_heldByteS 2)) [0,1,5] [1,4] n (sh_heldByteS.mk' (d_heldByteS x0 x1 x5)) K
theorem step_heldByteS (n : Nat) (x0 : List (Int)) (x1 : Int) (x5 : Int) (K : Ex → St → Option Ret) : L_heldByteS (n + 1) x0 x1 x5 K =
 (bif decide (x5 < (((List.length x0) : Nat) : Int)) then
 (bif (decide ((0 : Int) ≤ x5) && decide (x5 < (((List.length x0) : Nat) : Int))) then
  (bif ((List.getD x0 (Int.toNat x5) ((0 : Nat) : Int)) != (IntKind.wrap .u8 x1)) then
   K .ret { tm := ([.x, (.s (.int .i64 x1)), .x, .x, (.s (.int .i64 (-(1 : Int))))] ++ List.replicate 17 .x), ob := [], nx := 0, io := [] }
   else L_heldByteS n x0 (IntKind.wrap .i64 (x1 + (1 : Int))) (IntKind.wrap .i64 (x5 + (1 : Int))) K)
  else none)
 else K (.ext 0) (z_heldByteS x1)) := by kernel_rfl
theorem go_heldByteS (x0 : List Int) (x1 : Int) (K : Ex → St → Option Ret) (h3 : x0.length ≤ 4611686018427387904) (hm : (markList f_byte x0 x1).1 = x0) : L_heldByteS (x0.length + 1) x0 x1 0 K = K (.ext 0) (z_heldByteS (markList f_byte x0 x1).2) :=
  loop_held (R := fun n i k => L_heldByteS n x0 k i K) (Kf := fun k => K (.ext 0) (z_heldByteS k)) (f := f_byte) (z := (0 : Int)) (fun n i k hi hy => by
    show L_heldByteS (n + 1) x0 k i K = _
    have hy' : IntKind.u8.wrap k = x0.getD i 0 := hy
    rw [step_heldByteS, decide_eq_true (show ((i : Nat) : Int) < ((x0.length : Nat) : Int) by omega), decide_eq_true (show (0 : Int) ≤ ((i : Nat) : Int) by omega), wrap_nat (show i ≤ 4611686018427387904 by omega), Int.toNat_natCast, hy']
    show (bif (x0.getD i 0 != x0.getD i 0) then _ else _) = _
    rw [bne_self_eq_false]; rfl) (fun n k => by
    show L_heldByteS (n + 1) x0 k _ K = _
    rw [step_heldByteS, decide_eq_false (show ¬ ((x0.length : Nat) : Int) < ((x0.length : Nat) : Int) by omega)]; rfl) x1 hm
theorem loop_heldByteS : LoopOk E_heldByteS (bodyOf F.l_heldByteS 2) := by
  refine loopF_ok (n := 2) (sh := sh_heldByteS) (R := R_heldByteS) (by kernel_rfl) rfl rfl (fun d K r hr => ?_)
  obtain ⟨⟨x0, x1, u1, u2, u3, x5, u4⟩, u5, u6⟩ := d
  unfold R_heldByteS at hr
  simp only at hr
  cases hc : ((x5 == 0) && Nat.ble x0.length 4611686018427387904 && eqD (markList f_byte x0 x1).1 x0) with
  | false => rw [hc] at hr; cases hr
  | true =>
    rw [hc] at hr
    simp only [Bool.and_eq_true, beq_iff_eq] at hc
    obtain ⟨⟨rfl, h3⟩, h4⟩ := hc
    exact ⟨x0.length + 1, (go_heldByteS x0 x1 K (Nat.le_of_ble_eq_true h3) (eqD_iff.1 h4)).trans hr⟩
noncomputable def G_heldByteS := evF E_heldByteS true F.l_heldByteS
theorem ok_heldByteS {I : Nat → World → Prop} : OkFn prog I N.l_heldByteS true G_heldByteS := ok_fn mem0 (by kernel_rfl) (by kernel_rfl) (by kernel_rfl) (by kernel_rfl) (cs := [bodyOf F.l_heldByteS 2]) (by kernel_rfl) (loopsc loop_heldByteS loops0)
theorem ev_heldByteS (a : List Int) (k : Int) (K : Ret → Option Ret) (h : Nat.ble a.length 4611686018427387904 = true) (hm : eqD (markList f_byte a k).1 a = true) : G_heldByteS [.l .no bytesR a, .s (.int .i64 k)] K = K (sc (markList f_byte a k).2, []) := by
  have e : G_heldByteS [.l .no bytesR a, .s (.int .i64 k)] K =
   (bif ((0 : Int) == 0) && Nat.ble a.length 4611686018427387904 && eqD (markList f_byte a k).1 a then K (sc (markList f_byte a k).2, []) else none) := by kernel_rfl
  rw [e, h, hm]; rfl
theorem okS_heldByteS {I : Nat → World → Prop} (T : MText) : OkFn prog I N.l_heldByteS true (S_heldL T bytesR) := okW ok_heldByteS (S_heldL_of fun xs k K h0 h1 h2 h3 => by
  simp only [Cc.cnt, Bool.and_eq_true] at h1
  exact ev_heldByteS xs k K h1.1 (eqD_iff.2 h0))
end Go.Ev.Seat
