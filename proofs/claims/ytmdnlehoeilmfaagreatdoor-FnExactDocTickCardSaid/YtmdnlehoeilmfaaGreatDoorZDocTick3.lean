/- DocTick: parts EvBytes EvFam EvRows EvEditH EvSelH EvLeaseH EvStackH EvReqH EvCommitH EvMemberH EvDocH EvSig EvWeak EvSigN PUtf PEdit PReq PLoop PEvent PMove PDoc Fsl07Clock Fsl07Right Fsl07Less EvFit FsLeasesOk Fsl10Log FsRuneBytes, packed by squash.py. -/
import Derived.Lib.Strings
import Derived.Test.YtmdnlehoeilmfaaGreatDoorZDocTick0
import Derived.Test.YtmdnlehoeilmfaaGreatDoorZDocTick1
import Derived.Test.YtmdnlehoeilmfaaGreatDoorZDocTick2
set_option linter.unusedVariables false
set_option linter.unusedSimpArgs false
section
/- The laws' helpers for bytes. -/
namespace Go.Ev.Seat
open Go.RowKit
set_option maxRecDepth 100000
set_option linter.unusedVariables false
-- toByteS
def sh_toByteS : Ss := { tm := (.cons (.l .no bytesR) (.cons (.x) (.cons (.x) (.cons (.w 0) (.cons (.int .i64) (xsh 17)))))), ob := (.arr true true bytesR .nil), nx := 1, io := .nil }
def d_toByteS (x0 : List (Int)) (x4 : Int) (o0 : List (Int)) : sh_toByteS.T := ((x0, ((), ((), ((), (x4, xd 17))))), (o0, ()), ())
def z_toByteS (x0 : List Int) : St := { tm := ([.x, .x, .x, (.w 0)] ++ List.replicate 18 .x), ob := [(0, (.arr true true bytesR x0))], nx := 1, io := [] }
def R_toByteS (d : sh_toByteS.T) (K : Ex → St → Option Ret) : Option Ret := match d with
  | ((x0, (_, (_, (_, (x4, _))))), (o0, _), _) => bif (x4 == 0) && Nat.beq o0.length x0.length && (Cc.sl bytesR).lim x0 then K (.ext 0) (z_toByteS x0) else none
noncomputable def E_toByteS : Env := En [] [] [(3, [0,3,4], [3], loopF sh_toByteS R_toByteS)]
noncomputable abbrev L_toByteS (n : Nat) (x0 : List Int) (x4 : Int) (o0 : List Int) (K : Ex → St → Option Ret) : Option Ret := rounds (run E_toByteS (bodyOf F.l_toByteS 3)) [0,3,4] [3] n (sh_toByteS.mk' (d_toByteS x0 x4 o0)) K
theorem step_toByteS (n : Nat) (x0 : List (Int)) (x4 : Int) (o0 : List (Int)) (K : Ex → St → Option Ret) : L_toByteS (n + 1) x0 x4 o0 K =
 (bif decide (x4 < (((List.length x0) : Nat) : Int)) then
 (bif (decide ((0 : Int) ≤ x4) && decide (x4 < (((List.length x0) : Nat) : Int))) then
  (bif (decide ((0 : Int) ≤ x4) && decide (x4 < (((List.length o0) : Nat) : Int))) then
   L_toByteS n x0 (IntKind.wrap .i64 (x4 + (1 : Int))) (List.set o0 (Int.toNat x4) (List.getD x0 (Int.toNat x4) ((0 : Nat) : Int))) K
   else none)
  else none)
 else K (.ext 0) (z_toByteS o0)) := by kernel_rfl
theorem go_toByteS (x0 o0 : List Int) (K : Ex → St → Option Ret) (h2 : o0.length = x0.length) (h3 : x0.length ≤ 1048576) : L_toByteS (x0.length + 1) x0 0 o0 K = K (.ext 0) (z_toByteS x0) :=
  loop_to (R := fun n i ys => L_toByteS n x0 i ys K) (Kf := fun ys => K (.ext 0) (z_toByteS ys)) (z := (0 : Int)) (fun n i ys hi hy => by
    show L_toByteS (n + 1) x0 i ys K = _
    rw [step_toByteS, decide_eq_true (show ((i : Nat) : Int) < ((x0.length : Nat) : Int) by omega), decide_eq_true (show (0 : Int) ≤ ((i : Nat) : Int) by omega), decide_eq_true (show ((i : Nat) : Int) < ((ys.length : Nat) : Int) by omega), wrap_nat (show i ≤ 4611686018427387904 by omega)]
    rfl) (fun n ys hy => by
    show L_toByteS (n + 1) x0 _ ys K = _
    rw [step_toByteS, decide_eq_false (show ¬ ((x0.length : Nat) : Int) < ((x0.length : Nat) : Int) by omega)]; rfl) o0 h2
theorem loop_toByteS : LoopOk E_toByteS (bodyOf F.l_toByteS 3) := by
  refine loopF_ok (n := 3) (sh := sh_toByteS) (R := R_toByteS) (by kernel_rfl) rfl rfl (fun d K r hr => ?_)
  obtain ⟨⟨x0, u1, u2, u3, x4, u4⟩, ⟨o0, u5⟩, u6⟩ := d
  unfold R_toByteS at hr
  simp only at hr
  cases hc : ((x4 == 0) && Nat.beq o0.length x0.length && (Cc.sl bytesR).lim x0) with
  | false => rw [hc] at hr; cases hr
  | true =>
    rw [hc] at hr
    simp only [Bool.and_eq_true, beq_iff_eq, Cc.lim] at hc
    obtain ⟨⟨rfl, h2⟩, h3, _⟩ := hc
    exact ⟨x0.length + 1, (go_toByteS x0 o0 K (Nat.eq_of_beq_eq_true h2) (Nat.le_of_ble_eq_true h3)).trans hr⟩
noncomputable def G_toByteS := evF E_toByteS true F.l_toByteS
theorem ok_toByteS : OkFn prog I N.l_toByteS true G_toByteS := ok_fn mem0 (by kernel_rfl) (by kernel_rfl) (by kernel_rfl) (by kernel_rfl) (cs := [bodyOf F.l_toByteS 3]) (by kernel_rfl) (loopsc loop_toByteS loops0)
theorem ev_toByteS (a : List Int) (K : Ret → Option Ret) (h : (Cc.sl bytesR).lim a = true) : G_toByteS [.l .no bytesR a] K = K (.l .deep bytesR a, []) := by
  have e : G_toByteS [.l .no bytesR a] K =
   (bif ((((((((List.length a) : Nat) : Int) == (((List.length a) : Nat) : Int)) && decide ((0 : Int) ≤ (((List.length a) : Nat) : Int))) && decide (((Int.toNat (((List.length a) : Nat) : Int)) * 1) ≤ 140737488355328)) && decide ((((List.length a) : Nat) : Int) ≤ (4611686018427387904 : Int)))) then
    (bif ((0 : Int) == 0) && Nat.beq (List.replicate (Int.toNat (((List.length a) : Nat) : Int)) (0 : Int)).length a.length && (Cc.sl bytesR).lim a then K (.l .deep bytesR a, []) else none) else none) := by kernel_rfl
  rw [e, h]
  simp only [Cc.lim, Bool.and_eq_true] at h
  have h3 : a.length ≤ 1048576 := Nat.le_of_ble_eq_true h.1
  rw [decide_eq_true (show ((a.length : Nat) : Int) ≤ 4611686018427387904 by omega), decide_eq_true (show (0 : Int) ≤ ((a.length : Nat) : Int) by omega), Int.toNat_natCast, decide_eq_true (show a.length * 1 ≤ 140737488355328 by omega), List.length_replicate, beq_self_eq_true, beq_self_eq_true, Nat.beq_refl]
  rfl
theorem okS_toByteS : OkFn prog I N.l_toByteS true (S_toL bytesR) := okW ok_toByteS (S_toL_of fun xs K h => ev_toByteS xs K h)
-- eqByteS
def sh_eqByteS : Ss := { tm := (.cons (.l .no bytesR) (.cons (.l .no bytesR) (.cons (.x) (.cons (.x) (.cons (.x) (.cons (.int .i64) (xsh 20))))))), ob := .nil, nx := 0, io := .nil }
def d_eqByteS (x0 : List (Int)) (x1 : List (Int)) (x5 : Int) : sh_eqByteS.T := ((x0, (x1, ((), ((), ((), (x5, xd 20)))))), (), ())
def z_eqByteS : St := { tm := ([] ++ List.replicate 26 .x), ob := [], nx := 0, io := [] }
def y_eqByteS : St := { tm := ([.x, .x, .x, .x, (.s (.bool false))] ++ List.replicate 21 .x), ob := [], nx := 0, io := [] }
noncomputable def R_eqByteS (d : sh_eqByteS.T) (K : Ex → St → Option Ret) : Option Ret := match d with
  | ((x0, (x1, (_, (_, (_, (x5, _)))))), _, _) => bif (x5 == 0) && Nat.beq x1.length x0.length && Nat.ble x0.length 4611686018427387904 then (bif eqD x0 x1 then K (.ext 0) z_eqByteS else K .ret y_eqByteS) else none
noncomputable def E_eqByteS : Env := En [] [(6, takes [0, 1, 2, 3, 4, 5, 6, 7, 8], [])] [(4, [0,1,5], [4], loopF sh_eqByteS R_eqByteS)]
noncomputable abbrev L_eqByteS (n : Nat) (x0 x1 : List Int) (x5 : Int) (K : Ex → St → Option Ret) : Option Ret := rounds (run E_eqByteS (bodyOf F.l_eqByteS 4)) [0,1,5] [4] n (sh_eqByteS.mk' (d_eqByteS x0 x1 x5)) K
theorem step_eqByteS (n : Nat) (x0 : List (Int)) (x1 : List (Int)) (x5 : Int) (K : Ex → St → Option Ret) : L_eqByteS (n + 1) x0 x1 x5 K =
 (bif decide (x5 < (((List.length x0) : Nat) : Int)) then
 (bif (decide ((0 : Int) ≤ x5) && decide (x5 < (((List.length x0) : Nat) : Int))) then
  (bif (decide ((0 : Int) ≤ x5) && decide (x5 < (((List.length x1) : Nat) : Int))) then
   (bif ((List.getD x0 (Int.toNat x5) ((0 : Nat) : Int)) != (List.getD x1 (Int.toNat x5) ((0 : Nat) : Int))) then
    K .ret y_eqByteS
    else L_eqByteS n x0 x1 (IntKind.wrap .i64 (x5 + (1 : Int))) K)
   else none)
  else none)
 else K (.ext 0) z_eqByteS) := by kernel_rfl
theorem go_eqByteS (x0 x1 : List Int) (K : Ex → St → Option Ret) (h2 : x1.length = x0.length) (h3 : x0.length ≤ 4611686018427387904) : L_eqByteS (x0.length + 1) x0 x1 0 K = bif eqD x0 x1 then K (.ext 0) z_eqByteS else K .ret y_eqByteS :=
  loop_eq (R := fun n i => L_eqByteS n x0 x1 i K) (z := (0 : Int)) (e := fun a b => a == b) (fun a b => by simp) h2 (fun n i hi => by
    show L_eqByteS (n + 1) x0 x1 i K = _
    rw [step_eqByteS, decide_eq_true (show ((i : Nat) : Int) < ((x0.length : Nat) : Int) by omega), decide_eq_true (show (0 : Int) ≤ ((i : Nat) : Int) by omega), decide_eq_true (show ((i : Nat) : Int) < ((x1.length : Nat) : Int) by omega), wrap_nat (show i ≤ 4611686018427387904 by omega), Int.toNat_natCast, bne]
    show (bif !(x0.getD i 0 == x1.getD i 0) then _ else _) = bif (x0.getD i 0 == x1.getD i 0) then _ else _
    cases (x0.getD i 0 == x1.getD i 0) <;> rfl) (fun n => by
    show L_eqByteS (n + 1) x0 x1 _ K = _
    rw [step_eqByteS, decide_eq_false (show ¬ ((x0.length : Nat) : Int) < ((x0.length : Nat) : Int) by omega)]; rfl)
theorem loop_eqByteS : LoopOk E_eqByteS (bodyOf F.l_eqByteS 4) := by
  refine loopF_ok (n := 4) (sh := sh_eqByteS) (R := R_eqByteS) (by kernel_rfl) rfl rfl (fun d K r hr => ?_)
  obtain ⟨⟨x0, x1, u1, u2, u3, x5, u4⟩, u5, u6⟩ := d
  unfold R_eqByteS at hr
  simp only at hr
  cases hc : ((x5 == 0) && Nat.beq x1.length x0.length && Nat.ble x0.length 4611686018427387904) with
  | false => rw [hc] at hr; cases hr
  | true =>
    rw [hc] at hr
    simp only [Bool.and_eq_true, beq_iff_eq] at hc
    obtain ⟨⟨rfl, h2⟩, h3⟩ := hc
    exact ⟨x0.length + 1, (go_eqByteS x0 x1 K (Nat.eq_of_beq_eq_true h2) (Nat.le_of_ble_eq_true h3)).trans hr⟩
noncomputable def G_eqByteS := evF E_eqByteS true F.l_eqByteS
theorem ok_eqByteS : OkFn prog I N.l_eqByteS true G_eqByteS := ok_fn mem0 (by kernel_rfl) (by kernel_rfl) (by kernel_rfl) (by kernel_rfl) (cs := [bodyOf F.l_eqByteS 4]) (by kernel_rfl) (loopsc loop_eqByteS loops0)
theorem ev_eqByteS (a b : List Int) (K : Ret → Option Ret) (h : Nat.ble a.length 4611686018427387904 = true) : G_eqByteS [.l .no bytesR a, .l .no bytesR b] K = K (bl (eqD a b), []) := by
  have e : G_eqByteS [.l .no bytesR a, .l .no bytesR b] K =
   (bif ((((List.length a) : Nat) : Int) != (((List.length b) : Nat) : Int)) then K (bl false, [])
    else bif ((0 : Int) == 0) && Nat.beq b.length a.length && Nat.ble a.length 4611686018427387904 then (bif eqD a b then K (bl true, []) else K (bl false, [])) else none) := by kernel_rfl
  rw [e]
  by_cases hl : b.length = a.length
  · rw [hl, h, Nat.beq_refl]
    cases eqD a b <;> simp
  · have h1 : ((((List.length a) : Nat) : Int) != (((List.length b) : Nat) : Int)) = true := by simp; omega
    rw [h1, eqD_false (fun h' => hl (by rw [h']))]; rfl
theorem okS_eqByteS : OkFn prog I N.l_eqByteS true (S_eq bytesR) := okW ok_eqByteS (S_eq_of fun xs ys K h => by
  simp only [Cc.cnt, Bool.and_eq_true] at h
  exact ev_eqByteS xs ys K h.1)
-- szByteS
noncomputable def G_szByteS := evF (En []) true F.l_szByteS
theorem ok_szByteS : OkFn prog I N.l_szByteS true G_szByteS := ok_fn mem0 (by kernel_rfl) (by kernel_rfl) (by kernel_rfl) (by kernel_rfl) (cs := []) (by kernel_rfl) loops0
theorem ev_szByteS (a : List Int) (k : Int) (K : Ret → Option Ret) (h0 : 0 ≤ k) (h1 : k ≤ 4611686018427387904) (h : a.length ≤ 9223372036854775807) : G_szByteS [.l .no bytesR a, .s (.int .i64 k)] K = K (sc (szN a.length k), []) := by
  have e : G_szByteS [.l .no bytesR a, .s (.int .i64 k)] K =
   (bif decide ((IntKind.wrap .i64 (k - (((List.length a) : Nat) : Int))) < (0 : Int)) then K (sc (-1), [])
    else K (sc (IntKind.wrap .i64 (k - (((List.length a) : Nat) : Int))), [])) := by kernel_rfl
  rw [e, wrap_in (by omega) (by omega)]
  unfold szN
  by_cases hc : k - ((a.length : Nat) : Int) < 0
  · rw [decide_eq_true hc, if_pos hc]; rfl
  · rw [decide_eq_false hc, if_neg hc]; rfl
theorem w_byte (xs : List Int) : (Cc.sl bytesR).w xs = xs.length := by
  have : ∀ ys : List Int, sumW bytesR.w ys = 0 := fun ys => by
    induction ys with
    | nil => rfl
    | cons y ys ih => simp only [sumW]; rw [ih]; rfl
  exact (congrArg (fun n => List.length xs + n) (this xs)).trans rfl
theorem okS_szByteS : OkFn prog I N.l_szByteS true (S_szL bytesR) := okW ok_szByteS (S_szL_of fun xs l K h1 h2 => by
  simp only [szOk, Cc.cnz, Bool.and_eq_true, decide_eq_true_eq] at h1 h2
  exact (ev_szByteS xs l K h1.1 h1.2 (Nat.le_of_ble_eq_true h2.1)).trans (congrArg (fun n => K (sc (szN n l), [])) (w_byte xs).symm))
-- markByteS
def sh_markByteS : Ss := { tm := (.cons (.w 0) (.cons (.int .i64) (.cons (.x) (.cons (.x) (.cons (.x) (.cons (.int .i64) (xsh 14))))))), ob := (.own true bytesR .nil), nx := 1, io := (.cons (.w 0) .nil) }
def d_markByteS (x1 : Int) (x5 : Int) (o0 : List (Int)) : sh_markByteS.T := (((), (x1, ((), ((), ((), (x5, xd 14)))))), (o0, ()), ((), ()))
def z_markByteS (x1 : Int) (o0 : List Int) : St := { tm := ([.x, (.s (.int .i64 x1))] ++ List.replicate 18 .x), ob := [(0, (.own true bytesR o0))], nx := 1, io := [(.w 0)] }
def f_byte (x : Int) (k : Int) : Int × Int := (IntKind.u8.wrap k, IntKind.i64.wrap (k + 1))
def R_markByteS (d : sh_markByteS.T) (K : Ex → St → Option Ret) : Option Ret := match d with
  | ((_, (x1, (_, (_, (_, (x5, _)))))), (o0, _), _) => bif (x5 == 0) && Nat.ble o0.length 4611686018427387904 then K (.ext 0) (z_markByteS (markList f_byte o0 x1).2 (markList f_byte o0 x1).1) else none
noncomputable def E_markByteS : Env := En [] [] [(2, [0,1,5], [1], loopF sh_markByteS R_markByteS)] [] true
noncomputable abbrev L_markByteS (n : Nat) (x1 x5 : Int) (o0 : List Int) (K : Ex → St → Option Ret) : Option Ret := rounds (run E_markByteS (bodyOf F.l_markByteS 2)) [0,1,5] [1] n (sh_markByteS.mk' (d_markByteS x1 x5 o0)) K
theorem step_markByteS (n : Nat) (x1 : Int) (x5 : Int) (o0 : List (Int)) (K : Ex → St → Option Ret) : L_markByteS (n + 1) x1 x5 o0 K =
 (bif decide (x5 < (((List.length o0) : Nat) : Int)) then
 (bif (decide ((0 : Int) ≤ x5) && decide (x5 < (((List.length o0) : Nat) : Int))) then
  L_markByteS n (IntKind.wrap .i64 (x1 + (1 : Int))) (IntKind.wrap .i64 (x5 + (1 : Int))) (List.set o0 (Int.toNat x5) (IntKind.wrap .u8 x1)) K
  else none)
 else K (.ext 0) (z_markByteS x1 o0)) := by kernel_rfl
theorem go_markByteS (x1 : Int) (o0 : List Int) (K : Ex → St → Option Ret) (h3 : o0.length ≤ 4611686018427387904) : L_markByteS (o0.length + 1) x1 0 o0 K = K (.ext 0) (z_markByteS (markList f_byte o0 x1).2 (markList f_byte o0 x1).1) :=
  loop_mark (R := fun n i k ys => L_markByteS n k i ys K) (Kf := fun k ys => K (.ext 0) (z_markByteS k ys)) (f := f_byte) (z := (0 : Int)) o0.length (fun n i k ys hi hy => by
    show L_markByteS (n + 1) k i ys K = _
    rw [step_markByteS, decide_eq_true (show ((i : Nat) : Int) < ((ys.length : Nat) : Int) by omega), decide_eq_true (show (0 : Int) ≤ ((i : Nat) : Int) by omega), wrap_nat (show i ≤ 4611686018427387904 by omega)]
    rfl) (fun n k ys hy => by
    show L_markByteS (n + 1) k _ ys K = _
    rw [step_markByteS, decide_eq_false (show ¬ ((o0.length : Nat) : Int) < ((ys.length : Nat) : Int) by omega)]; rfl) o0 rfl x1
theorem loop_markByteS : LoopOk E_markByteS (bodyOf F.l_markByteS 2) := by
  refine loopF_ok (n := 2) (sh := sh_markByteS) (R := R_markByteS) (by kernel_rfl) rfl rfl (fun d K r hr => ?_)
  obtain ⟨⟨u0, x1, u1, u2, u3, x5, u4⟩, ⟨o0, u5⟩, u6⟩ := d
  unfold R_markByteS at hr
  simp only at hr
  cases hc : ((x5 == 0) && Nat.ble o0.length 4611686018427387904) with
  | false => rw [hc] at hr; cases hr
  | true =>
    rw [hc] at hr
    simp only [Bool.and_eq_true, beq_iff_eq] at hc
    obtain ⟨rfl, h3⟩ := hc
    exact ⟨o0.length + 1, (go_markByteS x1 o0 K (Nat.le_of_ble_eq_true h3)).trans hr⟩
noncomputable def G_markByteS := evF E_markByteS true F.l_markByteS
theorem ok_markByteS : OkFn prog I N.l_markByteS true G_markByteS := ok_fn mem0 (by kernel_rfl) (by kernel_rfl) (by kernel_rfl) (by kernel_rfl) (cs := [bodyOf F.l_markByteS 2]) (by kernel_rfl) (loopsc loop_markByteS loops0)
theorem ev_markByteS (a : List Int) (k : Int) (K : Ret → Option Ret) (h : Nat.ble a.length 4611686018427387904 = true) : G_markByteS [.l .own bytesR a, .s (.int .i64 k)] K = K (sc (markList f_byte a k).2, [.l .own bytesR (markList f_byte a k).1]) := by
  have e : G_markByteS [.l .own bytesR a, .s (.int .i64 k)] K =
   (bif ((0 : Int) == 0) && Nat.ble a.length 4611686018427387904 then K (sc (markList f_byte a k).2, [.l .own bytesR (markList f_byte a k).1]) else none) := by kernel_rfl
  rw [e, h]; rfl
theorem okS_markByteS (T : MText) : OkFn prog I N.l_markByteS true (S_markL T bytesR) := okW ok_markByteS (S_markL_of fun xs k K h => by
  simp only [Cc.cnt, Bool.and_eq_true] at h
  exact ev_markByteS xs k K h.1)
-- heldByteS
def sh_heldByteS : Ss := { tm := (.cons (.l .no bytesR) (.cons (.int .i64) (.cons (.x) (.cons (.x) (.cons (.x) (.cons (.int .i64) (xsh 16))))))), ob := .nil, nx := 0, io := .nil }
def d_heldByteS (x0 : List (Int)) (x1 : Int) (x5 : Int) : sh_heldByteS.T := ((x0, (x1, ((), ((), ((), (x5, xd 16)))))), (), ())
def z_heldByteS (x1 : Int) : St := { tm := ([.x, (.s (.int .i64 x1))] ++ List.replicate 20 .x), ob := [], nx := 0, io := [] }
noncomputable def R_heldByteS (d : sh_heldByteS.T) (K : Ex → St → Option Ret) : Option Ret := match d with
  | ((x0, (x1, (_, (_, (_, (x5, _)))))), _, _) => bif (x5 == 0) && Nat.ble x0.length 4611686018427387904 && eqD (markList f_byte x0 x1).1 x0 then K (.ext 0) (z_heldByteS (markList f_byte x0 x1).2) else none
noncomputable def E_heldByteS : Env := En [] [] [(2, [0,1,5], [1,4], loopF sh_heldByteS R_heldByteS)]
noncomputable abbrev L_heldByteS (n : Nat) (x0 : List Int) (x1 x5 : Int) (K : Ex → St → Option Ret) : Option Ret := rounds (run E_heldByteS (bodyOf F.l_heldByteS 2)) [0,1,5] [1,4] n (sh_heldByteS.mk' (d_heldByteS x0 x1 x5)) K
theorem step_heldByteS (n : Nat) (x0 : List (Int)) (x1 : Int) (x5 : Int) (K : Ex → St → Option Ret) : L_heldByteS (n + 1) x0 x1 x5 K =
 (bif decide (x5 < (((List.length x0) : Nat) : Int)) then
 (bif (decide ((0 : Int) ≤ x5) && decide (x5 < (((List.length x0) : Nat) : Int))) then
  (bif ((List.getD x0 (Int.toNat x5) ((0 : Nat) : Int)) != (IntKind.wrap .u8 x1)) then
   K .ret { tm := ([.x, (.s (.int .i64 x1)), .x, .x, (.s (.int .i64 (-(1 : Int))))] ++ List.replicate 17 .x), ob := [], nx := 0, io := [] }
   else L_heldByteS n x0 (IntKind.wrap .i64 (x1 + (1 : Int))) (IntKind.wrap .i64 (x5 + (1 : Int))) K)
  else none)
 else K (.ext 0) (z_heldByteS x1)) := by kernel_rfl
theorem go_heldByteS (x0 : List Int) (x1 : Int) (K : Ex → St → Option Ret) (h3 : x0.length ≤ 4611686018427387904) (hm : (markList f_byte x0 x1).1 = x0) : L_heldByteS (x0.length + 1) x0 x1 0 K = K (.ext 0) (z_heldByteS (markList f_byte x0 x1).2) :=
  loop_held (R := fun n i k => L_heldByteS n x0 k i K) (Kf := fun k => K (.ext 0) (z_heldByteS k)) (f := f_byte) (z := (0 : Int)) (fun n i k hi hy => by
    show L_heldByteS (n + 1) x0 k i K = _
    have hy' : IntKind.u8.wrap k = x0.getD i 0 := hy
    rw [step_heldByteS, decide_eq_true (show ((i : Nat) : Int) < ((x0.length : Nat) : Int) by omega), decide_eq_true (show (0 : Int) ≤ ((i : Nat) : Int) by omega), wrap_nat (show i ≤ 4611686018427387904 by omega), Int.toNat_natCast, hy']
    show (bif (x0.getD i 0 != x0.getD i 0) then _ else _) = _
    rw [bne_self_eq_false]; rfl) (fun n k => by
    show L_heldByteS (n + 1) x0 k _ K = _
    rw [step_heldByteS, decide_eq_false (show ¬ ((x0.length : Nat) : Int) < ((x0.length : Nat) : Int) by omega)]; rfl) x1 hm
theorem loop_heldByteS : LoopOk E_heldByteS (bodyOf F.l_heldByteS 2) := by
  refine loopF_ok (n := 2) (sh := sh_heldByteS) (R := R_heldByteS) (by kernel_rfl) rfl rfl (fun d K r hr => ?_)
  obtain ⟨⟨x0, x1, u1, u2, u3, x5, u4⟩, u5, u6⟩ := d
  unfold R_heldByteS at hr
  simp only at hr
  cases hc : ((x5 == 0) && Nat.ble x0.length 4611686018427387904 && eqD (markList f_byte x0 x1).1 x0) with
  | false => rw [hc] at hr; cases hr
  | true =>
    rw [hc] at hr
    simp only [Bool.and_eq_true, beq_iff_eq] at hc
    obtain ⟨⟨rfl, h3⟩, h4⟩ := hc
    exact ⟨x0.length + 1, (go_heldByteS x0 x1 K (Nat.le_of_ble_eq_true h3) (eqD_iff.1 h4)).trans hr⟩
noncomputable def G_heldByteS := evF E_heldByteS true F.l_heldByteS
theorem ok_heldByteS : OkFn prog I N.l_heldByteS true G_heldByteS := ok_fn mem0 (by kernel_rfl) (by kernel_rfl) (by kernel_rfl) (by kernel_rfl) (cs := [bodyOf F.l_heldByteS 2]) (by kernel_rfl) (loopsc loop_heldByteS loops0)
theorem ev_heldByteS (a : List Int) (k : Int) (K : Ret → Option Ret) (h : Nat.ble a.length 4611686018427387904 = true) (hm : eqD (markList f_byte a k).1 a = true) : G_heldByteS [.l .no bytesR a, .s (.int .i64 k)] K = K (sc (markList f_byte a k).2, []) := by
  have e : G_heldByteS [.l .no bytesR a, .s (.int .i64 k)] K =
   (bif ((0 : Int) == 0) && Nat.ble a.length 4611686018427387904 && eqD (markList f_byte a k).1 a then K (sc (markList f_byte a k).2, []) else none) := by kernel_rfl
  rw [e, h, hm]; rfl
theorem okS_heldByteS (T : MText) : OkFn prog I N.l_heldByteS true (S_heldL T bytesR) := okW ok_heldByteS (S_heldL_of fun xs k K h0 h1 h2 h3 => by
  simp only [Cc.cnt, Bool.and_eq_true] at h1
  exact ev_heldByteS xs k K h1.1 (eqD_iff.2 h0))
end Go.Ev.Seat
end
section
/- The laws' helpers on slices: their loops, for all kinds of rows at once. -/
set_option linter.unusedVariables false
namespace Go.Ev
noncomputable abbrev CtL (Γ : Env) (c : Code) (li lo : List Nat) (n : Nat) (σ : St) (K : Ex → St → Option Ret) : Option Ret := rounds (run Γ c) li lo n σ K
section
variable {Γ : Env} {c : Code} {r : Rw} {n : Nat} {T : MText}
theorem getD_mem {α : Type} {xs : List α} {i : Nat} {z : α} (h : i < xs.length) : xs.getD i z ∈ xs := by
  rw [List.getD_eq_getElem?_getD, List.getElem?_eq_getElem h]; exact List.getElem_mem h
theorem all_getD {α : Type} {xs : List α} {p : α → Bool} {i : Nat} {z : α} (h : xs.all p = true) (hi : i < xs.length) : p (xs.getD i z) = true := (List.all_eq_true.1 h) _ (getD_mem hi)

/-! ### to -/
def shTo (r : Rw) (n : Nat) : Ss := { tm := (.cons (.l .no r) (.cons .x (.cons .x (.cons (.w 0) (.cons (.int .i64) (xsh n)))))), ob := (.arr true true r .nil), nx := 1, io := .nil }
def dTo (r : Rw) (n : Nat) (x0 : List r.T) (x4 : Int) (o0 : List r.T) : (shTo r n).T := ((x0, ((), ((), ((), (x4, xd n))))), (o0, ()), ())
def zTo (r : Rw) (n : Nat) (o0 : List r.T) : St := { tm := ([.x, .x, .x, (.w 0)] ++ List.replicate (n + 1) .x), ob := [(0, (.arr true true r o0))], nx := 1, io := [] }
def RTo (r : Rw) (n : Nat) (d : (shTo r n).T) (K : Ex → St → Option Ret) : Option Ret := match d with
  | ((x0, (_, (_, (_, (x4, _))))), (o0, _), _) => bif (x4 == 0) && Nat.beq o0.length x0.length && (Cc.sl r).lim x0 then K (.ext 0) (zTo r n x0) else none
def StepTo (Γ : Env) (c : Code) (r : Rw) (n : Nat) : Prop := ∀ (m : Nat) (x0 : List r.T) (x4 : Int) (o0 : List r.T) (K : Ex → St → Option Ret), CtL Γ c [0,3,4] [3] (m + 1) ((shTo r n).mk' (dTo r n x0 x4 o0)) K =
  (bif decide (x4 < (((List.length x0) : Nat) : Int)) then
   (bif (decide ((0 : Int) ≤ x4) && decide (x4 < (((List.length x0) : Nat) : Int))) then
    (bif (r.lim (List.getD x0 (Int.toNat x4) r.dflt)) then
     (bif (decide ((0 : Int) ≤ x4) && decide (x4 < (((List.length o0) : Nat) : Int))) then
      CtL Γ c [0,3,4] [3] m ((shTo r n).mk' (dTo r n x0 (IntKind.wrap .i64 (x4 + (1 : Int))) (List.set o0 (Int.toNat x4) (List.getD x0 (Int.toNat x4) r.dflt)))) K
      else none)
     else none)
    else none)
   else K (.ext 0) (zTo r n o0))
theorem goTo (hs : StepTo Γ c r n) (x0 o0 : List r.T) (K : Ex → St → Option Ret) (h2 : o0.length = x0.length) (h3 : x0.length ≤ 1048576) (h4 : x0.all r.lim = true) : CtL Γ c [0,3,4] [3] (x0.length + 1) ((shTo r n).mk' (dTo r n x0 0 o0)) K = K (.ext 0) (zTo r n x0) :=
  loop_to (R := fun m i ys => CtL Γ c [0,3,4] [3] m ((shTo r n).mk' (dTo r n x0 i ys)) K) (Kf := fun ys => K (.ext 0) (zTo r n ys)) (z := r.dflt) (fun m i ys hi hy => by
    have := hs m x0 i ys K
    refine this.trans ?_
    rw [decide_eq_true (show ((i : Nat) : Int) < ((x0.length : Nat) : Int) by omega), decide_eq_true (show (0 : Int) ≤ ((i : Nat) : Int) by omega), decide_eq_true (show ((i : Nat) : Int) < ((ys.length : Nat) : Int) by omega), wrap_nat (show i ≤ 4611686018427387904 by omega), Int.toNat_natCast, all_getD h4 hi]
    rfl) (fun m ys hy => by
    refine (hs m x0 _ ys K).trans ?_
    rw [decide_eq_false (show ¬ ((x0.length : Nat) : Int) < ((x0.length : Nat) : Int) by omega)]; rfl) o0 h2
theorem loopTo (hn : firstRegion c = some 3) (hF : Γ.sum 3 = some (loopF (shTo r n) (RTo r n))) (hh : Γ.hint 3 = ([0,3,4], [3])) (hs : StepTo Γ c r n) : LoopOk Γ c := by
  refine loopF_ok (n := 3) hn hF hh (fun d K q hr => ?_)
  obtain ⟨⟨x0, u1, u2, u3, x4, u4⟩, ⟨o0, u5⟩, u6⟩ := d
  unfold RTo at hr
  simp only at hr
  cases hc : ((x4 == 0) && Nat.beq o0.length x0.length && (Cc.sl r).lim x0) with
  | false => rw [hc] at hr; cases hr
  | true =>
    rw [hc] at hr
    simp only [Bool.and_eq_true, beq_iff_eq, Cc.lim] at hc
    obtain ⟨⟨rfl, h2⟩, h3, h4⟩ := hc
    refine ⟨x0.length + 1, Eq.trans ?_ hr⟩
    have he : u4 = xd n := xd_eq u4
    subst he
    exact goTo hs x0 o0 K (Nat.eq_of_beq_eq_true h2) (Nat.le_of_ble_eq_true h3) h4
where xd_eq : {n : Nat} → (u : (xsh n).T) → u = xd n
  | 0, _ => rfl
  | n + 1, (_, u) => congrArg (Prod.mk ()) (xd_eq u)
def TreeTo (r : Rw) (n sz : Nat) (G : Sm) : Prop := ∀ (a : List r.T) (K : Ret → Option Ret), G [.l .no r a] K =
   (bif ((((((((List.length a) : Nat) : Int) == (((List.length a) : Nat) : Int)) && decide ((0 : Int) ≤ (((List.length a) : Nat) : Int))) && decide (((Int.toNat (((List.length a) : Nat) : Int)) * sz) ≤ 140737488355328)) && decide ((((List.length a) : Nat) : Int) ≤ (4611686018427387904 : Int)))) then
    (bif ((0 : Int) == 0) && Nat.beq (List.replicate (Int.toNat (((List.length a) : Nat) : Int)) r.dflt).length a.length && (Cc.sl r).lim a then K (.l .deep r a, []) else none) else none)
theorem evTo {G : Sm} {sz : Nat} (h : TreeTo r n sz G) (hz : Nat.ble sz 1024 = true) : ∀ ws K q, S_toL r ws K = some q → G ws K = some q := S_toL_of (fun a K hl => by
  rw [h, hl]
  simp only [Cc.lim, Bool.and_eq_true] at hl
  have h3 : a.length ≤ 1048576 := Nat.le_of_ble_eq_true hl.1
  have h5 : sz ≤ 1024 := Nat.le_of_ble_eq_true hz
  have h6 : a.length * sz ≤ 1048576 * 1024 := Nat.mul_le_mul h3 h5
  rw [decide_eq_true (show ((a.length : Nat) : Int) ≤ 4611686018427387904 by omega), decide_eq_true (show (0 : Int) ≤ ((a.length : Nat) : Int) by omega), Int.toNat_natCast, decide_eq_true (show a.length * sz ≤ 140737488355328 by omega), List.length_replicate, beq_self_eq_true, beq_self_eq_true, Nat.beq_refl]
  rfl)

/-! ### eq -/
def shEq (r : Rw) (n : Nat) : Ss := { tm := (.cons (.l .no r) (.cons (.l .no r) (.cons (.x) (.cons (.x) (.cons (.x) (.cons (.int .i64) (xsh n))))))), ob := .nil, nx := 0, io := .nil }
def dEq (r : Rw) (n : Nat) (x0 x1 : List r.T) (x5 : Int) : (shEq r n).T := ((x0, (x1, ((), ((), ((), (x5, xd n)))))), (), ())
def zEq (n : Nat) : St := { tm := ([] ++ List.replicate (n + 6) .x), ob := [], nx := 0, io := [] }
def yEq (n : Nat) : St := { tm := ([.x, .x, .x, .x, (.s (.bool false))] ++ List.replicate (n + 1) .x), ob := [], nx := 0, io := [] }
noncomputable def REq (r : Rw) (n : Nat) (d : (shEq r n).T) (K : Ex → St → Option Ret) : Option Ret := match d with
  | ((x0, (x1, (_, (_, (_, (x5, _)))))), _, _) => bif (x5 == 0) && Nat.beq x1.length x0.length && (Cc.sl r).cnt x0 then (bif eqD x0 x1 then K (.ext 0) (zEq n) else K .ret (yEq n)) else none
def StepEq (Γ : Env) (c : Code) (r : Rw) (n : Nat) : Prop := ∀ (m : Nat) (x0 x1 : List r.T) (x5 : Int) (K : Ex → St → Option Ret), CtL Γ c [0,1,5] [4] (m + 1) ((shEq r n).mk' (dEq r n x0 x1 x5)) K =
 (bif decide (x5 < (((List.length x0) : Nat) : Int)) then
 (bif (decide ((0 : Int) ≤ x5) && decide (x5 < (((List.length x0) : Nat) : Int))) then
  (bif (decide ((0 : Int) ≤ x5) && decide (x5 < (((List.length x1) : Nat) : Int))) then
   (bif (r.cnt (List.getD x0 (Int.toNat x5) r.dflt)) then
    (bif (!(eqD (List.getD x0 (Int.toNat x5) r.dflt) (List.getD x1 (Int.toNat x5) r.dflt))) then
     K .ret (yEq n)
     else CtL Γ c [0,1,5] [4] m ((shEq r n).mk' (dEq r n x0 x1 (IntKind.wrap .i64 (x5 + (1 : Int))))) K)
    else none)
   else none)
  else none)
 else K (.ext 0) (zEq n))
theorem goEq (hs : StepEq Γ c r n) (x0 x1 : List r.T) (K : Ex → St → Option Ret) (h2 : x1.length = x0.length) (h3 : x0.length ≤ 4611686018427387904) (h4 : x0.all r.cnt = true) : CtL Γ c [0,1,5] [4] (x0.length + 1) ((shEq r n).mk' (dEq r n x0 x1 0)) K = bif eqD x0 x1 then K (.ext 0) (zEq n) else K .ret (yEq n) :=
  loop_eq (R := fun m i => CtL Γ c [0,1,5] [4] m ((shEq r n).mk' (dEq r n x0 x1 i)) K) (z := r.dflt) (e := eqD) (fun a b => eqD_iff) h2 (fun m i hi => by
    refine (hs m x0 x1 i K).trans ?_
    rw [decide_eq_true (show ((i : Nat) : Int) < ((x0.length : Nat) : Int) by omega), decide_eq_true (show (0 : Int) ≤ ((i : Nat) : Int) by omega), decide_eq_true (show ((i : Nat) : Int) < ((x1.length : Nat) : Int) by omega), wrap_nat (show i ≤ 4611686018427387904 by omega), Int.toNat_natCast, all_getD h4 hi]
    cases eqD (x0.getD i r.dflt) (x1.getD i r.dflt) <;> rfl) (fun m => by
    refine (hs m x0 x1 _ K).trans ?_
    rw [decide_eq_false (show ¬ ((x0.length : Nat) : Int) < ((x0.length : Nat) : Int) by omega)]; rfl)
theorem loopEq (hn : firstRegion c = some 4) (hF : Γ.sum 4 = some (loopF (shEq r n) (REq r n))) (hh : Γ.hint 4 = ([0,1,5], [4])) (hs : StepEq Γ c r n) : LoopOk Γ c := by
  refine loopF_ok (n := 4) hn hF hh (fun d K q hr => ?_)
  obtain ⟨⟨x0, x1, u1, u2, u3, x5, u4⟩, u5, u6⟩ := d
  unfold REq at hr
  simp only at hr
  cases hc : ((x5 == 0) && Nat.beq x1.length x0.length && (Cc.sl r).cnt x0) with
  | false => rw [hc] at hr; cases hr
  | true =>
    rw [hc] at hr
    simp only [Bool.and_eq_true, beq_iff_eq, Cc.cnt] at hc
    obtain ⟨⟨rfl, h2⟩, h3, h4⟩ := hc
    refine ⟨x0.length + 1, Eq.trans ?_ hr⟩
    have he : u4 = xd n := loopTo.xd_eq u4
    subst he
    exact goEq hs x0 x1 K (Nat.eq_of_beq_eq_true h2) (Nat.le_of_ble_eq_true h3) h4
def TreeEq (r : Rw) (G : Sm) : Prop := ∀ (a b : List r.T) (K : Ret → Option Ret), G [.l .no r a, .l .no r b] K =
   (bif ((((List.length a) : Nat) : Int) != (((List.length b) : Nat) : Int)) then K (bl false, [])
    else bif ((0 : Int) == 0) && Nat.beq b.length a.length && (Cc.sl r).cnt a then (bif eqD a b then K (bl true, []) else K (bl false, [])) else none)
theorem evEq {G : Sm} (h : TreeEq r G) : ∀ ws K q, S_eq r ws K = some q → G ws K = some q := S_eq_of (fun a b K hl => by
  rw [h, hl]
  by_cases hl : b.length = a.length
  · rw [hl, Nat.beq_refl]
    cases eqD a b <;> simp
  · have h1 : ((((List.length a) : Nat) : Int) != (((List.length b) : Nat) : Int)) = true := by simp; omega
    rw [h1, eqD_false (fun h' => hl (by rw [h']))]; rfl)

/-! ### sz -/
def shSz (r : Rw) (n : Nat) : Ss := { tm := (.cons (.l .no r) (.cons (.int .i64) (.cons (.x) (.cons (.x) (.cons (.x) (.cons (.int .i64) (xsh n))))))), ob := .nil, nx := 0, io := .nil }
def dSz (r : Rw) (n : Nat) (x0 : List r.T) (x1 : Int) (x5 : Int) : (shSz r n).T := ((x0, (x1, ((), ((), ((), (x5, xd n)))))), (), ())
def zSz (n : Nat) (x1 : Int) : St := { tm := ([.x, (.s (.int .i64 x1))] ++ List.replicate (n + 4) .x), ob := [], nx := 0, io := [] }
def ySz (n : Nat) (x1 : Int) : St := { tm := ([.x, (.s (.int .i64 x1)), .x, .x, (.s (.int .i64 (-(1 : Int))))] ++ List.replicate (n + 1) .x), ob := [], nx := 0, io := [] }
def RSz (r : Rw) (n : Nat) (d : (shSz r n).T) (K : Ex → St → Option Ret) : Option Ret := match d with
  | ((x0, (x1, (_, (_, (_, (x5, _)))))), _, _) => bif (x5 == 0) && szOk x1 && (Nat.ble x0.length 4611686018427387904 && x0.all r.cnz) then (bif decide (x1 - sumW r.w x0 < 0) then K .ret (ySz n (-1)) else K (.ext 0) (zSz n (x1 - sumW r.w x0))) else none
def StepSz (Γ : Env) (c : Code) (r : Rw) (n : Nat) : Prop := ∀ (m : Nat) (x0 : List r.T) (x1 : Int) (x5 : Int) (K : Ex → St → Option Ret), CtL Γ c [0,1,5] [1,4] (m + 1) ((shSz r n).mk' (dSz r n x0 x1 x5)) K =
 (bif decide (x5 < (((List.length x0) : Nat) : Int)) then
 (bif (decide ((0 : Int) ≤ x5) && decide (x5 < (((List.length x0) : Nat) : Int))) then
  (bif ((szOk x1) && (r.cnz (List.getD x0 (Int.toNat x5) r.dflt))) then
   (bif decide ((szN (r.w (List.getD x0 (Int.toNat x5) r.dflt)) x1) < (0 : Int)) then
    K .ret (ySz n (szN (r.w (List.getD x0 (Int.toNat x5) r.dflt)) x1))
    else CtL Γ c [0,1,5] [1,4] m ((shSz r n).mk' (dSz r n x0 (szN (r.w (List.getD x0 (Int.toNat x5) r.dflt)) x1) (IntKind.wrap .i64 (x5 + (1 : Int))))) K)
   else none)
  else none)
 else K (.ext 0) (zSz n x1))
theorem szN_neg {w : Nat} {l : Int} (h : l - w < 0) : szN w l = -1 := if_pos h
theorem szN_pos {w : Nat} {l : Int} (h : ¬ l - w < 0) : szN w l = l - w := if_neg h
theorem szOk_of {l : Int} (h0 : 0 ≤ l) (h1 : l ≤ 4611686018427387904) : szOk l = true := by
  unfold szOk; rw [decide_eq_true h0, decide_eq_true h1]; rfl
theorem goSz (hs : StepSz Γ c r n) (x0 : List r.T) (x1 : Int) (K : Ex → St → Option Ret) (h0 : 0 ≤ x1) (h1 : x1 ≤ 4611686018427387904) (h3 : x0.length ≤ 4611686018427387904) (h4 : x0.all r.cnz = true) : CtL Γ c [0,1,5] [1,4] (x0.length + 1) ((shSz r n).mk' (dSz r n x0 x1 0)) K = bif decide (x1 - sumW r.w x0 < 0) then K .ret (ySz n (-1)) else K (.ext 0) (zSz n (x1 - sumW r.w x0)) :=
  loop_sz (R := fun m i l => CtL Γ c [0,1,5] [1,4] m ((shSz r n).mk' (dSz r n x0 l i)) K) (Kt := fun l => K (.ext 0) (zSz n l)) (Kf := K .ret (ySz n (-1))) (g := r.w) (z := r.dflt) (fun m i l hi h0 h1 => by
    refine (hs m x0 l i K).trans ?_
    rw [decide_eq_true (show ((i : Nat) : Int) < ((x0.length : Nat) : Int) by omega), decide_eq_true (show (0 : Int) ≤ ((i : Nat) : Int) by omega), wrap_nat (show i ≤ 4611686018427387904 by omega), Int.toNat_natCast, all_getD h4 hi, szOk_of h0 h1]
    by_cases e : l - (r.w (x0.getD i r.dflt) : Int) < 0
    · rw [szN_neg e, decide_eq_true e]; rfl
    · rw [szN_pos e, decide_eq_false e]; rfl) (fun m l h0 => by
    refine (hs m x0 l _ K).trans ?_
    rw [decide_eq_false (show ¬ ((x0.length : Nat) : Int) < ((x0.length : Nat) : Int) by omega)]; rfl) x1 h0 h1
theorem loopSz (hn : firstRegion c = some 5) (hF : Γ.sum 5 = some (loopF (shSz r n) (RSz r n))) (hh : Γ.hint 5 = ([0,1,5], [1,4])) (hs : StepSz Γ c r n) : LoopOk Γ c := by
  refine loopF_ok (n := 5) hn hF hh (fun d K q hr => ?_)
  obtain ⟨⟨x0, x1, u1, u2, u3, x5, u4⟩, u5, u6⟩ := d
  unfold RSz at hr
  simp only at hr
  cases hc : ((x5 == 0) && szOk x1 && (Nat.ble x0.length 4611686018427387904 && x0.all r.cnz)) with
  | false => rw [hc] at hr; cases hr
  | true =>
    rw [hc] at hr
    simp only [Bool.and_eq_true, beq_iff_eq, szOk, decide_eq_true_eq] at hc
    obtain ⟨⟨rfl, h1, h2⟩, h3, h4⟩ := hc
    refine ⟨x0.length + 1, Eq.trans ?_ hr⟩
    have he : u4 = xd n := loopTo.xd_eq u4
    subst he
    exact goSz hs x0 x1 K h1 h2 (Nat.le_of_ble_eq_true h3) h4
def TreeSz (r : Rw) (G : Sm) : Prop := ∀ (a : List r.T) (k : Int) (K : Ret → Option Ret), G [.l .no r a, .s (.int .i64 k)] K =
   (bif decide ((IntKind.wrap .i64 (k - (((List.length a) : Nat) : Int))) < (0 : Int)) then K (sc (-1), [])
    else (bif ((0 : Int) == 0) && szOk (IntKind.wrap .i64 (k - (((List.length a) : Nat) : Int))) && (Nat.ble a.length 4611686018427387904 && a.all r.cnz) then (bif decide (IntKind.wrap .i64 (k - (((List.length a) : Nat) : Int)) - sumW r.w a < 0) then K (sc (-1), []) else K (sc (IntKind.wrap .i64 (k - (((List.length a) : Nat) : Int)) - sumW r.w a), [])) else none))
theorem evSz {G : Sm} (h : TreeSz r G) : ∀ ws K q, S_szL r ws K = some q → G ws K = some q := S_szL_of (fun a k K hk hl => by
  simp only [szOk, Bool.and_eq_true, decide_eq_true_eq] at hk
  have hl' := hl
  simp only [Cc.cnz, Bool.and_eq_true] at hl'
  have h3 : a.length ≤ 9223372036854775807 := Nat.le_of_ble_eq_true hl'.1
  rw [h, hl'.2, wrap_in (by omega) (by omega), show (Cc.sl r).w a = a.length + sumW r.w a from rfl, szN_step hk.1]
  by_cases e : k - ((a.length : Nat) : Int) < 0
  · rw [decide_eq_true e, szN_neg e]; rfl
  · rw [decide_eq_false e, szN_pos e, szOk_of (by omega) (by omega), Nat.ble_eq_true_of_le (show a.length ≤ 4611686018427387904 by omega), if_neg (by omega)]
    by_cases e2 : k - ((a.length : Nat) : Int) - sumW r.w a < 0
    · rw [decide_eq_true e2, szN_neg e2]; rfl
    · rw [decide_eq_false e2, szN_pos e2]; rfl)

/-! ### mark -/
def mkC {α ρ : Type} (T : MText) (z : α) (x5 : Int) : (c : Cc) → (get : α → c.T) → (put : α → c.T → α) → List α → Int → (List α → Int → Option ρ) → Option ρ
  | .sl r, get, put, o, k, n =>
    bif (decide ((0 : Int) ≤ x5) && decide (x5 < (((List.length o) : Nat) : Int))) then
     (bif decide (Int.toNat x5 < List.length o) then
      (bif (Cc.sl r).cnt (get (List.getD o (Int.toNat x5) z)) then
       n (List.set o (Int.toNat x5) (put (List.getD o (Int.toNat x5) z) ((Cc.sl r).mark T (get (List.getD o (Int.toNat x5) z)) k).1)) ((Cc.sl r).mark T (get (List.getD o (Int.toNat x5) z)) k).2
       else none)
      else none)
     else none
  | .int i, get, put, o, k, n =>
    bif (decide ((0 : Int) ≤ x5) && decide (x5 < (((List.length o) : Nat) : Int))) then
     n (List.set o (Int.toNat x5) (put (List.getD o (Int.toNat x5) z) (markInt i k))) (IntKind.i64.wrap (k + 1))
     else none
  | _, _, _, _, _, _ => none
def mkR {α ρ : Type} (T : MText) (z : α) (x5 : Int) : (r : Rw) → (get : α → r.T) → (put : α → r.T → α) → List α → Int → (List α → Int → Option ρ) → Option ρ
  | .one c, get, put, o, k, n => mkC T z x5 c get put o k n
  | .cons c r, get, put, o, k, n => mkC T z x5 c (fun p => (get p).1) (fun p v => put p (v, (get p).2)) o k (fun o k => mkR T z x5 r (fun p => (get p).2) (fun p v => put p ((get p).1, v)) o k n)
def Cc.mkOk : Cc → Bool
  | .int _ => true
  | .sl _ => true
  | _ => false
def Rw.mkOk : Rw → Bool
  | .one c => c.mkOk
  | .cons c r => c.mkOk && r.mkOk
theorem getD_set_self {α : Type} {os : List α} {i : Nat} {v z : α} (h : i < os.length) : (os.set i v).getD i z = v := by
  rw [List.getD_eq_getElem?_getD, List.getElem?_set_self h]; rfl
theorem mkC_ok {α ρ : Type} {z : α} {os : List α} {i : Nat} (hi : i < os.length) : (c : Cc) → (get : α → c.T) → (put : α → c.T → α) → (hgp : ∀ p v, get (put p v) = v) → (v : α) → (k : Int) → (n : List α → Int → Option ρ) → c.mkOk = true → c.cnt (get v) = true → mkC T z (i : Nat) c get put (os.set i v) k n = n (os.set i (put v (c.mark T (get v) k).1)) (c.mark T (get v) k).2
  | .sl r, get, put, hgp, v, k, n, hm, hc => by
    have hc' : (Cc.sl r).cnt (get ((os.set i v).getD i z)) = true := by rw [getD_set_self hi]; exact hc
    simp only [mkC]
    rw [Int.toNat_natCast, hc', List.length_set, decide_eq_true (show (0 : Int) ≤ ((i : Nat) : Int) by omega), decide_eq_true (show ((i : Nat) : Int) < ((os.length : Nat) : Int) by omega), decide_eq_true hi, getD_set_self hi, List.set_set]
    rfl
  | .int _, get, put, hgp, v, k, n, hm, hc => by
    simp only [mkC]
    rw [Int.toNat_natCast, List.length_set, decide_eq_true (show (0 : Int) ≤ ((i : Nat) : Int) by omega), decide_eq_true (show ((i : Nat) : Int) < ((os.length : Nat) : Int) by omega), getD_set_self hi, List.set_set]
    rfl
  | .bool, _, _, _, _, _, _, hm, _ => by cases hm
  | .str, _, _, _, _, _, _, hm, _ => by cases hm
theorem mkR_ok {α ρ : Type} {z : α} {os : List α} {i : Nat} (hi : i < os.length) : (r : Rw) → (get : α → r.T) → (put : α → r.T → α) → (hgp : ∀ p v, get (put p v) = v) → (hpp : ∀ p v w, put (put p v) w = put p w) → (v : α) → (k : Int) → (n : List α → Int → Option ρ) → r.mkOk = true → r.cnt (get v) = true → mkR T z (i : Nat) r get put (os.set i v) k n = n (os.set i (put v (r.mark T (get v) k).1)) (r.mark T (get v) k).2
  | .one c, get, put, hgp, hpp, v, k, n, hm, hc => mkC_ok hi c get put hgp v k n hm hc
  | .cons c r, get, put, hgp, hpp, v, k, n, hm, hc => by
    simp only [Rw.mkOk, Rw.cnt, Bool.and_eq_true] at hm hc
    simp only [mkR]
    rw [mkC_ok hi c _ _ (fun p v => by rw [hgp]) v k _ hm.1 hc.1]
    rw [mkR_ok hi r _ _ (fun p v => by rw [hgp]) (fun p v w => by rw [hgp, hpp]) _ _ n hm.2 (by rw [hgp]; exact hc.2)]
    simp only [hgp, hpp]
    rfl
def shMk (r : Rw) (n : Nat) : Ss := { tm := (.cons (.w 0) (.cons (.int .i64) (.cons (.x) (.cons (.x) (.cons (.x) (.cons (.int .i64) (xsh n))))))), ob := (.own true r .nil), nx := 1, io := (.cons (.w 0) .nil) }
def dMk (r : Rw) (n : Nat) (x1 : Int) (x5 : Int) (o0 : List r.T) : (shMk r n).T := (((), (x1, ((), ((), ((), (x5, xd n)))))), (o0, ()), ((), ()))
def zMk (r : Rw) (n : Nat) (x1 : Int) (o0 : List r.T) : St := { tm := ([.x, (.s (.int .i64 x1))] ++ List.replicate (n + 4) .x), ob := [(0, (.own true r o0))], nx := 1, io := [(.w 0)] }
def RMk (T : MText) (r : Rw) (n : Nat) (d : (shMk r n).T) (K : Ex → St → Option Ret) : Option Ret := match d with
  | ((_, (x1, (_, (_, (_, (x5, _)))))), (o0, _), _) => bif (x5 == 0) && (Cc.sl r).cnt o0 then K (.ext 0) (zMk r n ((Cc.sl r).mark T o0 x1).2 ((Cc.sl r).mark T o0 x1).1) else none
def StepMk (T : MText) (Γ : Env) (c : Code) (r : Rw) (n : Nat) : Prop := ∀ (m : Nat) (x1 : Int) (x5 : Int) (o0 : List r.T) (K : Ex → St → Option Ret), CtL Γ c [0,1,5] [1] (m + 1) ((shMk r n).mk' (dMk r n x1 x5 o0)) K =
 (bif decide (x5 < (((List.length o0) : Nat) : Int)) then
  mkR T r.dflt x5 r id (fun _ v => v) o0 x1 (fun o k => CtL Γ c [0,1,5] [1] m ((shMk r n).mk' (dMk r n k (IntKind.wrap .i64 (x5 + (1 : Int))) o)) K)
  else K (.ext 0) (zMk r n x1 o0))
theorem loop_markP {α ρ : Type} {R : Nat → Int → Int → List α → ρ} {Kf : Int → List α → ρ} {f : α → Int → α × Int} {z : α} {p : α → Bool} (n : Nat)
    (hs : ∀ m (i : Nat) k (ys : List α), i < n → ys.length = n → p (ys.getD i z) = true → R (m + 1) i k ys = R m ((i + 1 : Nat) : Int) (f (ys.getD i z) k).2 (ys.set i (f (ys.getD i z) k).1))
    (he : ∀ m k (ys : List α), ys.length = n → R (m + 1) (n : Nat) k ys = Kf k ys) (xs : List α) (hx : xs.length = n) (hp : xs.all p = true) (k : Int) : R (n + 1) 0 k xs = Kf (markList f xs k).2 (markList f xs k).1 := by
  have key : ∀ (j i : Nat) (k : Int) (pre suf : List α), pre.length = i → (pre ++ suf).length = n → i + j = n → suf.all p = true → R (j + 1) i k (pre ++ suf) = Kf (markList f suf k).2 (pre ++ (markList f suf k).1) := by
    intro j
    induction j with
    | zero =>
      intro i k pre suf hp hn hi _
      have hs0 : suf = [] := by
        cases suf with
        | nil => rfl
        | cons x xs => simp at hn; omega
      subst hs0
      have : i = n := by omega
      subst this
      rw [he 0 k _ hn]; rfl
    | succ j ih =>
      intro i k pre suf hp hn hi ha
      cases suf with
      | nil => simp at hn; omega
      | cons x suf =>
        simp only [List.all_cons, Bool.and_eq_true] at ha
        have hg : (pre ++ x :: suf).getD i z = x := by
          rw [List.getD_eq_getElem?_getD, List.getElem?_append_right (by omega), hp, Nat.sub_self]; rfl
        rw [hs _ i k _ (by omega) hn (by rw [hg]; exact ha.1)]
        have hset : (pre ++ x :: suf).set i (f x k).1 = (pre ++ [(f x k).1]) ++ suf := by
          rw [List.set_append_right _ _ (by omega), hp, Nat.sub_self]; simp
        rw [hg, hset, ih (i + 1) (f x k).2 (pre ++ [(f x k).1]) suf (by simp [hp]) (by simpa using hn) (by omega) ha.2]
        simp [markList]
  have := key n 0 k [] xs rfl (by simpa using hx) (by omega) hp
  simpa using this
theorem set_getD_self {α : Type} {xs : List α} {i : Nat} {z : α} (h : i < xs.length) : xs.set i (xs.getD i z) = xs := by
  rw [List.getD_eq_getElem?_getD, List.getElem?_eq_getElem h]; simp
theorem goMk (hm : r.mkOk = true) (hs : StepMk T Γ c r n) (x1 : Int) (o0 : List r.T) (K : Ex → St → Option Ret) (h3 : o0.length ≤ 4611686018427387904) (h4 : o0.all r.cnt = true) : CtL Γ c [0,1,5] [1] (o0.length + 1) ((shMk r n).mk' (dMk r n x1 0 o0)) K = K (.ext 0) (zMk r n ((Cc.sl r).mark T o0 x1).2 ((Cc.sl r).mark T o0 x1).1) :=
  loop_markP (R := fun m i k ys => CtL Γ c [0,1,5] [1] m ((shMk r n).mk' (dMk r n k i ys)) K) (Kf := fun k ys => K (.ext 0) (zMk r n k ys)) (f := r.mark T) (z := r.dflt) (p := r.cnt) o0.length (fun m i k ys hi hy hp => by
    refine (hs m k i ys K).trans ?_
    rw [decide_eq_true (show ((i : Nat) : Int) < ((ys.length : Nat) : Int) by omega), wrap_nat (show i ≤ 4611686018427387904 by omega)]
    have := mkR_ok (T := T) (z := r.dflt) (os := ys) (i := i) (by omega) r id (fun _ v => v) (fun _ _ => rfl) (fun _ _ _ => rfl) (ys.getD i r.dflt) k (fun o k => CtL Γ c [0,1,5] [1] m ((shMk r n).mk' (dMk r n k ((i + 1 : Nat) : Int) o)) K) hm hp
    rw [set_getD_self (by omega)] at this
    exact this) (fun m k ys hy => by
    refine (hs m k _ ys K).trans ?_
    rw [decide_eq_false (show ¬ ((o0.length : Nat) : Int) < ((ys.length : Nat) : Int) by omega)]; rfl) o0 rfl h4 x1
theorem loopMk (hn : firstRegion c = some 2) (hF : Γ.sum 2 = some (loopF (shMk r n) (RMk T r n))) (hh : Γ.hint 2 = ([0,1,5], [1])) (hm : r.mkOk = true) (hs : StepMk T Γ c r n) : LoopOk Γ c := by
  refine loopF_ok (n := 2) hn hF hh (fun d K q hr => ?_)
  obtain ⟨⟨u0, x1, u1, u2, u3, x5, u4⟩, ⟨o0, u5⟩, u6⟩ := d
  unfold RMk at hr
  simp only at hr
  cases hc : ((x5 == 0) && (Cc.sl r).cnt o0) with
  | false => rw [hc] at hr; cases hr
  | true =>
    rw [hc] at hr
    simp only [Bool.and_eq_true, beq_iff_eq, Cc.cnt] at hc
    obtain ⟨rfl, h3, h4⟩ := hc
    refine ⟨o0.length + 1, Eq.trans ?_ hr⟩
    have he : u4 = xd n := loopTo.xd_eq u4
    subst he
    exact goMk hm hs x1 o0 K (Nat.le_of_ble_eq_true h3) h4
def TreeMk (T : MText) (r : Rw) (G : Sm) : Prop := ∀ (a : List r.T) (k : Int) (K : Ret → Option Ret), G [.l .own r a, .s (.int .i64 k)] K =
   (bif ((0 : Int) == 0) && (Cc.sl r).cnt a then K (sc ((Cc.sl r).mark T a k).2, [.l .own r ((Cc.sl r).mark T a k).1]) else none)
theorem evMk {G : Sm} (h : TreeMk T r G) : ∀ ws K q, S_markL T r ws K = some q → G ws K = some q := S_markL_of (fun a k K hl => by
  rw [h, hl]; rfl)

/-! ### held -/
noncomputable def hdC {ρ : Type} (T : MText) (x5 : Int) (len : Nat) : (c : Cc) → c.T → Int → (Int → Option ρ) → (Int → Option ρ) → Option ρ
  | .sl r, d, k, Z, n =>
    bif (decide ((0 : Int) ≤ x5) && decide (x5 < ((len : Nat) : Int))) then
     (bif ((eqD ((Cc.sl r).mark T d k).1 d) && (((Cc.sl r).cnt d) && decide ((0 : Int) ≤ k) && decide (k + ((((Cc.sl r).marks d) : Nat) : Int) ≤ (4611686018427387904 : Int)))) then
      (bif decide (((Cc.sl r).mark T d k).2 < (0 : Int)) then Z ((Cc.sl r).mark T d k).2 else n ((Cc.sl r).mark T d k).2)
      else none)
     else none
  | .int i, d, k, Z, n =>
    bif (decide ((0 : Int) ≤ x5) && decide (x5 < ((len : Nat) : Int))) then
     (bif (d != markInt i k) then Z k else n (IntKind.i64.wrap (k + 1)))
     else none
  | _, _, _, _, _ => none
noncomputable def hdR {ρ : Type} (T : MText) (x5 : Int) (len : Nat) : (r : Rw) → r.T → Int → (Int → Option ρ) → (Int → Option ρ) → Option ρ
  | .one c, d, k, Z, n => hdC T x5 len c d k Z n
  | .cons c r, d, k, Z, n => hdC T x5 len c d.1 k Z (fun k => hdR T x5 len r d.2 k Z n)
theorem hdC_ok {ρ : Type} {len i : Nat} (hi : i < len) {Z n : Int → Option ρ} : (c : Cc) → (d : c.T) → (k : Int) → c.mkOk = true → (c.mark T d k).1 = d → c.cnt d = true → 0 ≤ k → k + c.marks d ≤ 4611686018427387904 → hdC T (i : Nat) len c d k Z n = n (c.mark T d k).2
  | .sl r, d, k, hm, h1, h2, h3, h4 => by
    have e := Cc.mark_cnt T (.sl r) d k h3 h4
    simp only [hdC]
    rw [h2, eqD_iff.2 h1, decide_eq_true h3, decide_eq_true h4, decide_eq_true (show (0 : Int) ≤ ((i : Nat) : Int) by omega), decide_eq_true (show ((i : Nat) : Int) < ((len : Nat) : Int) by omega), decide_eq_false (show ¬ ((Cc.sl r).mark T d k).2 < 0 by rw [e]; omega)]
    rfl
  | .int _, d, k, hm, h1, h2, h3, h4 => by
    have h1' : markInt _ k = d := h1
    simp only [hdC]
    rw [h1', bne_self_eq_false, decide_eq_true (show (0 : Int) ≤ ((i : Nat) : Int) by omega), decide_eq_true (show ((i : Nat) : Int) < ((len : Nat) : Int) by omega)]
    rfl
  | .bool, _, _, hm, _, _, _, _ => by cases hm
  | .str, _, _, hm, _, _, _, _ => by cases hm
theorem hdR_ok {ρ : Type} {len i : Nat} (hi : i < len) {Z n : Int → Option ρ} : (r : Rw) → (d : r.T) → (k : Int) → r.mkOk = true → (r.mark T d k).1 = d → r.cnt d = true → 0 ≤ k → k + r.marks d ≤ 4611686018427387904 → hdR T (i : Nat) len r d k Z n = n (r.mark T d k).2
  | .one c, d, k, hm, h1, h2, h3, h4 => hdC_ok hi c d k hm h1 h2 h3 h4
  | .cons c r, d, k, hm, h1, h2, h3, h4 => by
    simp only [Rw.mkOk, Rw.cnt, Bool.and_eq_true, Rw.mark, Rw.marks] at hm h1 h2 h4
    have e := Cc.mark_cnt T c d.1 k h3 (by omega)
    have h1a : (c.mark T d.1 k).1 = d.1 := congrArg Prod.fst h1
    have h1b : (r.mark T d.2 (c.mark T d.1 k).2).1 = d.2 := congrArg Prod.snd h1
    simp only [hdR]
    rw [hdC_ok hi c d.1 k hm.1 h1a h2.1 h3 (by omega)]
    rw [hdR_ok hi r d.2 _ hm.2 h1b h2.2 (by rw [e]; omega) (by rw [e]; omega)]
    rfl
noncomputable def RHd (T : MText) (r : Rw) (n : Nat) (d : (shSz r n).T) (K : Ex → St → Option Ret) : Option Ret := match d with
  | ((x0, (x1, (_, (_, (_, (x5, _)))))), _, _) => bif (x5 == 0) && eqD ((Cc.sl r).mark T x0 x1).1 x0 && ((Cc.sl r).cnt x0 && decide (0 ≤ x1) && decide (x1 + ((Cc.sl r).marks x0 : Nat) ≤ 4611686018427387904)) then K (.ext 0) (zSz n ((Cc.sl r).mark T x0 x1).2) else none
def StepHd (T : MText) (Γ : Env) (c : Code) (r : Rw) (n : Nat) : Prop := ∀ (m : Nat) (x0 : List r.T) (x1 : Int) (x5 : Int) (K : Ex → St → Option Ret), CtL Γ c [0,1,5] [1,4] (m + 1) ((shSz r n).mk' (dSz r n x0 x1 x5)) K =
 (bif decide (x5 < (((List.length x0) : Nat) : Int)) then
  hdR T x5 (List.length x0) r (List.getD x0 (Int.toNat x5) r.dflt) x1 (fun k => K .ret (ySz n k)) (fun k => CtL Γ c [0,1,5] [1,4] m ((shSz r n).mk' (dSz r n x0 k (IntKind.wrap .i64 (x5 + (1 : Int))))) K)
  else K (.ext 0) (zSz n x1))
theorem loop_heldP {α ρ : Type} {R : Nat → Int → Int → ρ} {Kf : Int → ρ} {f : α → Int → α × Int} {m : α → Nat} {xs : List α} {z : α}
    (hf : ∀ x ∈ xs, ∀ (k : Int), 0 ≤ k → k + m x ≤ 4611686018427387904 → (f x k).2 = k + m x)
    (hs : ∀ j (i : Nat) k, i < xs.length → (f (xs.getD i z) k).1 = xs.getD i z → 0 ≤ k → k + m (xs.getD i z) ≤ 4611686018427387904 → R (j + 1) i k = R j ((i + 1 : Nat) : Int) (f (xs.getD i z) k).2)
    (he : ∀ m k, R (m + 1) (xs.length : Nat) k = Kf k) (k : Int) (hm : (markList f xs k).1 = xs) (h0 : 0 ≤ k) (h1 : k + sumW m xs ≤ 4611686018427387904) : R (xs.length + 1) 0 k = Kf (markList f xs k).2 := by
  have key : ∀ (j i : Nat) (k : Int), i + j = xs.length → (markList f (xs.drop i) k).1 = xs.drop i → 0 ≤ k → k + sumW m (xs.drop i) ≤ 4611686018427387904 → R (j + 1) i k = Kf (markList f (xs.drop i) k).2 := by
    intro j
    induction j with
    | zero =>
      intro i k hi hm _ _
      have : i = xs.length := by omega
      subst this
      rw [he 0 k, List.drop_length]; rfl
    | succ j ih =>
      intro i k hi hm h0 h1
      have hlt : i < xs.length := by omega
      rw [List.drop_eq_getElem_cons hlt] at hm h1 ⊢
      simp only [markList, sumW] at hm h1 ⊢
      have e1 := (List.cons.inj hm).1
      have e2 := (List.cons.inj hm).2
      have hx : xs.getD i z = xs[i] := by rw [List.getD_eq_getElem?_getD, List.getElem?_eq_getElem hlt]; rfl
      have e3 := hf xs[i] (List.getElem_mem hlt) k h0 (by omega)
      rw [hs _ i k hlt (by rw [hx]; exact e1) h0 (by rw [hx]; omega), hx, ih (i + 1) _ (by omega) e2 (by rw [e3]; omega) (by rw [e3]; omega)]
  have := key xs.length 0 k (by omega) (by simpa using hm) h0 (by simpa using h1)
  simpa using this
theorem goHd (hm : r.mkOk = true) (hs : StepHd T Γ c r n) (x0 : List r.T) (x1 : Int) (K : Ex → St → Option Ret) (h2 : ((Cc.sl r).mark T x0 x1).1 = x0) (h3 : x0.length ≤ 4611686018427387904) (h4 : x0.all r.cnt = true) (h5 : 0 ≤ x1) (h6 : x1 + (Cc.sl r).marks x0 ≤ 4611686018427387904) : CtL Γ c [0,1,5] [1,4] (x0.length + 1) ((shSz r n).mk' (dSz r n x0 x1 0)) K = K (.ext 0) (zSz n ((Cc.sl r).mark T x0 x1).2) :=
  loop_heldP (R := fun m i k => CtL Γ c [0,1,5] [1,4] m ((shSz r n).mk' (dSz r n x0 k i)) K) (Kf := fun k => K (.ext 0) (zSz n k)) (f := r.mark T) (m := r.marks) (z := r.dflt) (fun x _ k h0 h1 => Rw.mark_cnt T r x k h0 h1) (fun m i k hi hx h0 h1 => by
    refine (hs m x0 k i K).trans ?_
    rw [decide_eq_true (show ((i : Nat) : Int) < ((x0.length : Nat) : Int) by omega), wrap_nat (show i ≤ 4611686018427387904 by omega), Int.toNat_natCast]
    exact hdR_ok hi r (x0.getD i r.dflt) k hm hx (all_getD h4 hi) h0 h1) (fun m k => by
    refine (hs m x0 k _ K).trans ?_
    rw [decide_eq_false (show ¬ ((x0.length : Nat) : Int) < ((x0.length : Nat) : Int) by omega)]; rfl) x1 h2 h5 h6
theorem loopHd (hn : firstRegion c = some 2) (hF : Γ.sum 2 = some (loopF (shSz r n) (RHd T r n))) (hh : Γ.hint 2 = ([0,1,5], [1,4])) (hm : r.mkOk = true) (hs : StepHd T Γ c r n) : LoopOk Γ c := by
  refine loopF_ok (n := 2) hn hF hh (fun d K q hr => ?_)
  obtain ⟨⟨x0, x1, u1, u2, u3, x5, u4⟩, u5, u6⟩ := d
  unfold RHd at hr
  simp only at hr
  cases hc : ((x5 == 0) && eqD ((Cc.sl r).mark T x0 x1).1 x0 && ((Cc.sl r).cnt x0 && decide (0 ≤ x1) && decide (x1 + ((Cc.sl r).marks x0 : Nat) ≤ 4611686018427387904))) with
  | false => rw [hc] at hr; cases hr
  | true =>
    rw [hc] at hr
    simp only [Bool.and_eq_true, beq_iff_eq, decide_eq_true_eq] at hc
    obtain ⟨⟨rfl, h1⟩, ⟨h2, h5⟩, h6⟩ := hc
    have h2' := h2
    simp only [Cc.cnt, Bool.and_eq_true] at h2'
    refine ⟨x0.length + 1, Eq.trans ?_ hr⟩
    have he : u4 = xd n := loopTo.xd_eq u4
    subst he
    exact goHd hm hs x0 x1 K (eqD_iff.1 h1) (Nat.le_of_ble_eq_true h2'.1) h2'.2 h5 h6
def TreeHd (T : MText) (r : Rw) (G : Sm) : Prop := ∀ (a : List r.T) (k : Int) (K : Ret → Option Ret), G [.l .no r a, .s (.int .i64 k)] K =
   (bif ((0 : Int) == 0) && eqD ((Cc.sl r).mark T a k).1 a && ((Cc.sl r).cnt a && decide (0 ≤ k) && decide (k + ((Cc.sl r).marks a : Nat) ≤ 4611686018427387904)) then K (sc ((Cc.sl r).mark T a k).2, []) else none)
theorem evHd {G : Sm} (h : TreeHd T r G) : ∀ ws K q, S_heldL T r ws K = some q → G ws K = some q := S_heldL_of (fun a k K h1 h2 h3 h4 => by
  rw [h, eqD_iff.2 h1, h2, decide_eq_true h3, decide_eq_true h4]; rfl)
end
end Go.Ev
end
section
/- The rows of the structs. Printed by fam.py. -/
namespace Go.Ev.Seat
open Go.RowKit
abbrev pieceR : Rw := .one (.sl bytesR)
abbrev editR : Rw := .cons (.int .i64) (.cons (.int .i64) (.one (.sl bytesR)))
abbrev selR : Rw := .cons (.int .i64) (.one (.int .i64))
abbrev leaseR : Rw := .cons (.int .i64) (.cons (.int .i64) (.cons (.int .i64) (.one (.int .i64))))
abbrev stackR : Rw := .cons (.sl editR) (.one (.sl editR))
abbrev commitR : Rw := .cons (.int .i64) (.cons (.int .i64) (.cons (.int .i64) (.one (.sl bytesR))))
abbrev memberR : Rw := .cons (.int .i64) (.cons (.int .i64) (.cons (.int .i64) (.cons (.sl editR) (.one (.sl editR)))))
abbrev docR : Rw := .cons (.sl bytesR) (.cons (.sl bytesR) (.cons (.sl commitR) (.cons (.int .i64) (.cons (.sl memberR) (.one (.sl leaseR))))))
abbrev T_Edit : Type := Int × Int × List Int
abbrev T_Sel : Type := Int × Int
abbrev T_Lease : Type := Int × Int × Int × Int
abbrev T_Stack : Type := List T_Edit × List T_Edit
abbrev T_Commit : Type := Int × Int × Int × List Int
abbrev T_Member : Type := Int × Int × Int × List T_Edit × List T_Edit
abbrev T_Doc : Type := List Int × List Int × List T_Commit × Int × List T_Member × List T_Lease
end Go.Ev.Seat
end
section
/- The laws' helpers for Edit. Printed by fam.py. -/
namespace Go.Ev.Seat
open Go.RowKit
set_option maxRecDepth 100000
set_option linter.unusedVariables false
set_option linter.unusedSimpArgs false
noncomputable def G_toEdit := evF (En [(N.l_toByteS, true, S_toL bytesR)] []) true F.l_toEdit
theorem ok_toEdit : OkFn prog I N.l_toEdit true (G_toEdit) := ok_fn (memc okS_toByteS mem0) (by kernel_rfl) (by kernel_rfl) (by kernel_rfl) (by kernel_rfl) (cs := []) (by kernel_rfl) loops0

theorem okS_toEdit : OkFn prog I N.l_toEdit true (S_toA editR) := okW ok_toEdit (S_toA_of fun d K h => by
  obtain ⟨x0, x1, x2⟩ := d
  have h0 : (true && (true && (Cc.sl bytesR).lim x2)) = true := h
  try simp only [Bool.true_and, Bool.and_true, Bool.and_eq_true] at h0
  have c2 := h0
  have e : G_toEdit [.a (editR.cells .no (x0, x1, x2))] K = (bif (Cc.sl bytesR).lim x2 then K (.a (editR.cells .deep (x0, x1, x2)), []) else none) := by kernel_rfl
  exact e.trans (to_step c2 rfl))

noncomputable def G_eqEdit := evF (En [(N.l_eqByteS, true, S_eq bytesR)] []) true F.l_eqEdit
theorem ok_eqEdit : OkFn prog I N.l_eqEdit true (G_eqEdit) := ok_fn (memc okS_eqByteS mem0) (by kernel_rfl) (by kernel_rfl) (by kernel_rfl) (by kernel_rfl) (cs := []) (by kernel_rfl) loops0

theorem okS_eqEdit : OkFn prog I N.l_eqEdit true (S_eqA editR) := okW ok_eqEdit (S_eqA_of fun d e K h => by
  obtain ⟨x0, x1, x2⟩ := d
  obtain ⟨y0, y1, y2⟩ := e
  have h0 : (true && (true && (Cc.sl bytesR).cnt x2)) = true := h
  try simp only [Bool.true_and, Bool.and_true, Bool.and_eq_true] at h0
  have c2 := h0
  have e : G_eqEdit [.a (editR.cells .no (x0, x1, x2)), .a (editR.cells .no (y0, y1, y2))] K = (bif (x0 != y0) then K (bl false, []) else (bif (x1 != y1) then K (bl false, []) else (bif (Cc.sl bytesR).cnt x2 then (bif !(eqD x2 y2) then K (bl false, []) else K (bl true, [])) else none))) := by kernel_rfl
  exact e.trans (eq_ne (eq_ne (eq_sub1 c2))))

noncomputable def G_szEdit := evF (En [(N.l_szByteS, true, S_szL bytesR)] []) true F.l_szEdit
theorem ok_szEdit : OkFn prog I N.l_szEdit true (G_szEdit) := ok_fn (memc okS_szByteS mem0) (by kernel_rfl) (by kernel_rfl) (by kernel_rfl) (by kernel_rfl) (cs := []) (by kernel_rfl) loops0

theorem okS_szEdit : OkFn prog I N.l_szEdit true (S_szA editR) := okW ok_szEdit (S_szA_of fun d l K hl0 h => by
  obtain ⟨x0, x1, x2⟩ := d
  have h0 : (true && (true && (Cc.sl bytesR).cnz x2)) = true := h
  try simp only [Bool.true_and, Bool.and_true, Bool.and_eq_true] at h0
  have c2 := h0
  have e : G_szEdit [.a (editR.cells .no (x0, x1, x2)), .s (.int .i64 l)] K = (bif szOk l && (Cc.sl bytesR).cnz x2 then (bif decide (szN ((Cc.sl bytesR).w x2) l < 0) then K (sc (-1), []) else K (sc (szN ((Cc.sl bytesR).w x2) l), [])) else none) := by kernel_rfl
  have hw : ((Cc.sl bytesR).w x2 + 0) = editR.w (x0, x1, x2) := by
    show ((Cc.sl bytesR).w x2 + 0) = (0 + (0 + (Cc.sl bytesR).w x2))
    omega
  refine (e.trans (sz_step (K := fun n => K (sc n, [])) (w2 := 0) (wt := ((Cc.sl bytesR).w x2 + 0)) hl0 c2 rfl (fun hl1 => sz_end (K := fun n => K (sc n, [])) hl1))).trans ?_
  exact congrArg (fun n => K (sc (szN n l), [])) hw)

noncomputable def G_toEditS := evF (En [(N.l_toEdit, true, S_toA editR)] [] [(3, [0,3,4], [3], loopF (shTo editR 18) (RTo editR 18))]) true F.l_toEditS
theorem ok_toEditS : OkFn prog I N.l_toEditS true G_toEditS := ok_fn (memc okS_toEdit mem0) (by kernel_rfl) (by kernel_rfl) (by kernel_rfl) (by kernel_rfl) (cs := [bodyOf F.l_toEditS 3]) (by kernel_rfl) (loopsc (loopTo (r := editR) (n := 18) (by kernel_rfl) rfl rfl (fun m x0 x4 o0 K => by kernel_rfl)) loops0)
theorem okS_toEditS : OkFn prog I N.l_toEditS true (S_toL editR) := okW ok_toEditS (evTo (n := 18) (sz := 40) (fun a K => by kernel_rfl) rfl)

noncomputable def G_eqEditS := evF (En [(N.l_eqEdit, true, S_eqA editR)] [(6, takeB [0, 1, 2, 3, 4, 5, 6, 7] (.fork (.one 8 (takes [9]))), [])] [(4, [0,1,5], [4], loopF (shEq editR 21) (REq editR 21))]) true F.l_eqEditS
theorem ok_eqEditS : OkFn prog I N.l_eqEditS true G_eqEditS := ok_fn (memc okS_eqEdit mem0) (by kernel_rfl) (by kernel_rfl) (by kernel_rfl) (by kernel_rfl) (cs := [bodyOf F.l_eqEditS 4]) (by kernel_rfl) (loopsc (loopEq (r := editR) (n := 21) (by kernel_rfl) rfl rfl (fun m x0 x1 x5 K => by kernel_rfl)) loops0)
theorem okS_eqEditS : OkFn prog I N.l_eqEditS true (S_eq editR) := okW ok_eqEditS (evEq (fun a b K => by kernel_rfl))

noncomputable def G_szEditS := evF (En [(N.l_szEdit, true, S_szA editR)] [] [(5, [0,1,5], [1,4], loopF (shSz editR 21) (RSz editR 21))]) true F.l_szEditS
theorem ok_szEditS : OkFn prog I N.l_szEditS true G_szEditS := ok_fn (memc okS_szEdit mem0) (by kernel_rfl) (by kernel_rfl) (by kernel_rfl) (by kernel_rfl) (cs := [bodyOf F.l_szEditS 5]) (by kernel_rfl) (loopsc (loopSz (r := editR) (n := 21) (by kernel_rfl) rfl rfl (fun m x0 x1 x5 K => by kernel_rfl)) loops0)
theorem okS_szEditS : OkFn prog I N.l_szEditS true (S_szL editR) := okW ok_szEditS (evSz (fun a k K => by kernel_rfl))

noncomputable def G_markEditS (T : MText) := evF (En [(N.l_markByteS, true, S_markL T bytesR)] [] [(2, [0,1,5], [1], loopF (shMk editR 28) (RMk T editR 28))] [N.l_markByteS] true) true F.l_markEditS
theorem ok_markEditS (T : MText) : OkFn prog I N.l_markEditS true (G_markEditS T) := ok_fn (memc (okS_markByteS T) mem0) (by kernel_rfl) (by kernel_rfl) (by kernel_rfl) (by kernel_rfl) (cs := [bodyOf F.l_markEditS 2]) (by kernel_rfl) (loopsc (loopMk (T := T) (r := editR) (n := 28) (by kernel_rfl) rfl rfl rfl (fun m x1 x5 o0 K => by kernel_rfl)) loops0)
theorem okS_markEditS (T : MText) : OkFn prog I N.l_markEditS true (S_markL T editR) := okW (ok_markEditS T) (evMk (fun a k K => by kernel_rfl))

noncomputable def G_heldEditS (T : MText) := evF (En [(N.l_heldByteS, true, S_heldL T bytesR)] [] [(2, [0,1,5], [1,4], loopF (shSz editR 34) (RHd T editR 34))]) true F.l_heldEditS
theorem ok_heldEditS (T : MText) : OkFn prog I N.l_heldEditS true (G_heldEditS T) := ok_fn (memc (okS_heldByteS T) mem0) (by kernel_rfl) (by kernel_rfl) (by kernel_rfl) (by kernel_rfl) (cs := [bodyOf F.l_heldEditS 2]) (by kernel_rfl) (loopsc (loopHd (T := T) (r := editR) (n := 34) (by kernel_rfl) rfl rfl rfl (fun m x0 x1 x5 K => by kernel_rfl)) loops0)
theorem okS_heldEditS (T : MText) : OkFn prog I N.l_heldEditS true (S_heldL T editR) := okW (ok_heldEditS T) (evHd (fun a k K => by kernel_rfl))
end Go.Ev.Seat
end
section
/- The laws' helpers for Sel. Printed by fam.py. -/
namespace Go.Ev.Seat
open Go.RowKit
set_option maxRecDepth 100000
set_option linter.unusedVariables false
set_option linter.unusedSimpArgs false
noncomputable def G_toSel := evF (En [] []) true F.l_toSel
theorem ok_toSel : OkFn prog I N.l_toSel true (G_toSel) := ok_fn mem0 (by kernel_rfl) (by kernel_rfl) (by kernel_rfl) (by kernel_rfl) (cs := []) (by kernel_rfl) loops0

theorem okS_toSel : OkFn prog I N.l_toSel true (S_toA selR) := okW ok_toSel (S_toA_of fun d K h => by
  obtain ⟨x0, x1⟩ := d
  have h0 : (true && true) = true := h
  have e : G_toSel [.a (selR.cells .no (x0, x1))] K = K (.a (selR.cells .deep (x0, x1)), []) := by kernel_rfl
  exact e.trans rfl)

noncomputable def G_eqSel := evF (En [] []) true F.l_eqSel
theorem ok_eqSel : OkFn prog I N.l_eqSel true (G_eqSel) := ok_fn mem0 (by kernel_rfl) (by kernel_rfl) (by kernel_rfl) (by kernel_rfl) (cs := []) (by kernel_rfl) loops0

theorem okS_eqSel : OkFn prog I N.l_eqSel true (S_eqA selR) := okW ok_eqSel (S_eqA_of fun d e K h => by
  obtain ⟨x0, x1⟩ := d
  obtain ⟨y0, y1⟩ := e
  have h0 : (true && true) = true := h
  have e : G_eqSel [.a (selR.cells .no (x0, x1)), .a (selR.cells .no (y0, y1))] K = (bif (x0 != y0) then K (bl false, []) else (bif (x1 != y1) then K (bl false, []) else K (bl true, []))) := by kernel_rfl
  exact e.trans (eq_ne eq_ne1))
end Go.Ev.Seat
end
section
/- The laws' helpers for Lease. Printed by fam.py. -/
namespace Go.Ev.Seat
open Go.RowKit
set_option maxRecDepth 100000
set_option linter.unusedVariables false
set_option linter.unusedSimpArgs false
noncomputable def G_toLease := evF (En [] []) true F.l_toLease
theorem ok_toLease : OkFn prog I N.l_toLease true (G_toLease) := ok_fn mem0 (by kernel_rfl) (by kernel_rfl) (by kernel_rfl) (by kernel_rfl) (cs := []) (by kernel_rfl) loops0

theorem okS_toLease : OkFn prog I N.l_toLease true (S_toA leaseR) := okW ok_toLease (S_toA_of fun d K h => by
  obtain ⟨x0, x1, x2, x3⟩ := d
  have h0 : (true && (true && (true && true))) = true := h
  have e : G_toLease [.a (leaseR.cells .no (x0, x1, x2, x3))] K = K (.a (leaseR.cells .deep (x0, x1, x2, x3)), []) := by kernel_rfl
  exact e.trans rfl)

noncomputable def G_eqLease := evF (En [] []) true F.l_eqLease
theorem ok_eqLease : OkFn prog I N.l_eqLease true (G_eqLease) := ok_fn mem0 (by kernel_rfl) (by kernel_rfl) (by kernel_rfl) (by kernel_rfl) (cs := []) (by kernel_rfl) loops0

theorem okS_eqLease : OkFn prog I N.l_eqLease true (S_eqA leaseR) := okW ok_eqLease (S_eqA_of fun d e K h => by
  obtain ⟨x0, x1, x2, x3⟩ := d
  obtain ⟨y0, y1, y2, y3⟩ := e
  have h0 : (true && (true && (true && true))) = true := h
  have e : G_eqLease [.a (leaseR.cells .no (x0, x1, x2, x3)), .a (leaseR.cells .no (y0, y1, y2, y3))] K = (bif (x0 != y0) then K (bl false, []) else (bif (x1 != y1) then K (bl false, []) else (bif (x2 != y2) then K (bl false, []) else (bif (x3 != y3) then K (bl false, []) else K (bl true, []))))) := by kernel_rfl
  exact e.trans (eq_ne (eq_ne (eq_ne eq_ne1))))

noncomputable def G_toLeaseS := evF (En [(N.l_toLease, true, S_toA leaseR)] [] [(3, [0,3,4], [3], loopF (shTo leaseR 18) (RTo leaseR 18))]) true F.l_toLeaseS
theorem ok_toLeaseS : OkFn prog I N.l_toLeaseS true G_toLeaseS := ok_fn (memc okS_toLease mem0) (by kernel_rfl) (by kernel_rfl) (by kernel_rfl) (by kernel_rfl) (cs := [bodyOf F.l_toLeaseS 3]) (by kernel_rfl) (loopsc (loopTo (r := leaseR) (n := 18) (by kernel_rfl) rfl rfl (fun m x0 x4 o0 K => by kernel_rfl)) loops0)
theorem okS_toLeaseS : OkFn prog I N.l_toLeaseS true (S_toL leaseR) := okW ok_toLeaseS (evTo (n := 18) (sz := 32) (fun a K => by kernel_rfl) rfl)

noncomputable def G_eqLeaseS := evF (En [(N.l_eqLease, true, S_eqA leaseR)] [(6, takeB [0, 1, 2, 3, 4, 5, 6, 7] (.fork (.one 8 (takes [9]))), [])] [(4, [0,1,5], [4], loopF (shEq leaseR 21) (REq leaseR 21))]) true F.l_eqLeaseS
theorem ok_eqLeaseS : OkFn prog I N.l_eqLeaseS true G_eqLeaseS := ok_fn (memc okS_eqLease mem0) (by kernel_rfl) (by kernel_rfl) (by kernel_rfl) (by kernel_rfl) (cs := [bodyOf F.l_eqLeaseS 4]) (by kernel_rfl) (loopsc (loopEq (r := leaseR) (n := 21) (by kernel_rfl) rfl rfl (fun m x0 x1 x5 K => by kernel_rfl)) loops0)
theorem okS_eqLeaseS : OkFn prog I N.l_eqLeaseS true (S_eq leaseR) := okW ok_eqLeaseS (evEq (fun a b K => by kernel_rfl))

noncomputable def G_szLeaseS := evF (En []) true F.l_szLeaseS
theorem ok_szLeaseS : OkFn prog I N.l_szLeaseS true G_szLeaseS := ok_fn mem0 (by kernel_rfl) (by kernel_rfl) (by kernel_rfl) (by kernel_rfl) (cs := []) (by kernel_rfl) loops0
theorem w_Lease (xs : List leaseR.T) : (Cc.sl leaseR).w xs = xs.length := by
  have : ∀ ys : List leaseR.T, sumW leaseR.w ys = 0 := fun ys => by
    induction ys with
    | nil => rfl
    | cons y ys ih => simp only [sumW]; rw [ih]; rfl
  exact (congrArg (fun n => List.length xs + n) (this xs)).trans rfl
theorem okS_szLeaseS : OkFn prog I N.l_szLeaseS true (S_szL leaseR) := okW ok_szLeaseS (S_szL_of fun a k K h1 h2 => by
  simp only [szOk, Cc.cnz, Bool.and_eq_true, decide_eq_true_eq] at h1 h2
  have h3 := Nat.le_of_ble_eq_true h2.1
  have e : G_szLeaseS [.l .no leaseR a, .s (.int .i64 k)] K =
   (bif decide ((IntKind.wrap .i64 (k - (((List.length a) : Nat) : Int))) < (0 : Int)) then K (sc (-1), [])
    else K (sc (IntKind.wrap .i64 (k - (((List.length a) : Nat) : Int))), [])) := by kernel_rfl
  rw [e, wrap_in (by omega) (by omega), w_Lease a]
  unfold szN
  by_cases hc : k - ((a.length : Nat) : Int) < 0
  · rw [decide_eq_true hc, if_pos hc]; rfl
  · rw [decide_eq_false hc, if_neg hc]; rfl)

noncomputable def G_markLeaseS (T : MText) := evF (En [] [] [(2, [0,1,5], [1], loopF (shMk leaseR 35) (RMk T leaseR 35))] [] true) true F.l_markLeaseS
theorem ok_markLeaseS (T : MText) : OkFn prog I N.l_markLeaseS true (G_markLeaseS T) := ok_fn mem0 (by kernel_rfl) (by kernel_rfl) (by kernel_rfl) (by kernel_rfl) (cs := [bodyOf F.l_markLeaseS 2]) (by kernel_rfl) (loopsc (loopMk (T := T) (r := leaseR) (n := 35) (by kernel_rfl) rfl rfl rfl (fun m x1 x5 o0 K => by kernel_rfl)) loops0)
theorem okS_markLeaseS (T : MText) : OkFn prog I N.l_markLeaseS true (S_markL T leaseR) := okW (ok_markLeaseS T) (evMk (fun a k K => by kernel_rfl))

noncomputable def G_heldLeaseS (T : MText) := evF (En [] [] [(2, [0,1,5], [1,4], loopF (shSz leaseR 43) (RHd T leaseR 43))]) true F.l_heldLeaseS
theorem ok_heldLeaseS (T : MText) : OkFn prog I N.l_heldLeaseS true (G_heldLeaseS T) := ok_fn mem0 (by kernel_rfl) (by kernel_rfl) (by kernel_rfl) (by kernel_rfl) (cs := [bodyOf F.l_heldLeaseS 2]) (by kernel_rfl) (loopsc (loopHd (T := T) (r := leaseR) (n := 43) (by kernel_rfl) rfl rfl rfl (fun m x0 x1 x5 K => by kernel_rfl)) loops0)
theorem okS_heldLeaseS (T : MText) : OkFn prog I N.l_heldLeaseS true (S_heldL T leaseR) := okW (ok_heldLeaseS T) (evHd (fun a k K => by kernel_rfl))
end Go.Ev.Seat
end
section
/- The laws' helpers for Stack. Printed by fam.py. -/
namespace Go.Ev.Seat
open Go.RowKit
set_option maxRecDepth 100000
set_option linter.unusedVariables false
set_option linter.unusedSimpArgs false
noncomputable def G_toStack := evF (En [(N.l_toEditS, true, S_toL editR)] []) true F.l_toStack
theorem ok_toStack : OkFn prog I N.l_toStack true (G_toStack) := ok_fn (memc okS_toEditS mem0) (by kernel_rfl) (by kernel_rfl) (by kernel_rfl) (by kernel_rfl) (cs := []) (by kernel_rfl) loops0

theorem okS_toStack : OkFn prog I N.l_toStack true (S_toA stackR) := okW ok_toStack (S_toA_of fun d K h => by
  obtain ⟨x0, x1⟩ := d
  have h0 : ((Cc.sl editR).lim x0 && (Cc.sl editR).lim x1) = true := h
  try simp only [Bool.true_and, Bool.and_true, Bool.and_eq_true] at h0
  have c0 := h0.1
  have c1 := h0.2
  have e : G_toStack [.a (stackR.cells .no (x0, x1))] K = (bif (Cc.sl editR).lim x0 then (bif (Cc.sl editR).lim x1 then K (.a (stackR.cells .deep (x0, x1)), []) else none) else none) := by kernel_rfl
  exact e.trans (to_step c0 (to_step c1 rfl)))

noncomputable def G_eqStack := evF (En [(N.l_eqEditS, true, S_eq editR)] []) true F.l_eqStack
theorem ok_eqStack : OkFn prog I N.l_eqStack true (G_eqStack) := ok_fn (memc okS_eqEditS mem0) (by kernel_rfl) (by kernel_rfl) (by kernel_rfl) (by kernel_rfl) (cs := []) (by kernel_rfl) loops0

theorem okS_eqStack : OkFn prog I N.l_eqStack true (S_eqA stackR) := okW ok_eqStack (S_eqA_of fun d e K h => by
  obtain ⟨x0, x1⟩ := d
  obtain ⟨y0, y1⟩ := e
  have h0 : ((Cc.sl editR).cnt x0 && (Cc.sl editR).cnt x1) = true := h
  try simp only [Bool.true_and, Bool.and_true, Bool.and_eq_true] at h0
  have c0 := h0.1
  have c1 := h0.2
  have e : G_eqStack [.a (stackR.cells .no (x0, x1)), .a (stackR.cells .no (y0, y1))] K = (bif (Cc.sl editR).cnt x0 then (bif !(eqD x0 y0) then K (bl false, []) else (bif (Cc.sl editR).cnt x1 then (bif !(eqD x1 y1) then K (bl false, []) else K (bl true, [])) else none)) else none) := by kernel_rfl
  exact e.trans (eq_sl c0 (eq_sub1 c1)))

noncomputable def G_szStack := evF (En [(N.l_szEditS, true, S_szL editR)] []) true F.l_szStack
theorem ok_szStack : OkFn prog I N.l_szStack true (G_szStack) := ok_fn (memc okS_szEditS mem0) (by kernel_rfl) (by kernel_rfl) (by kernel_rfl) (by kernel_rfl) (cs := []) (by kernel_rfl) loops0

theorem okS_szStack : OkFn prog I N.l_szStack true (S_szA stackR) := okW ok_szStack (S_szA_of fun d l K hl0 h => by
  obtain ⟨x0, x1⟩ := d
  have h0 : ((Cc.sl editR).cnz x0 && (Cc.sl editR).cnz x1) = true := h
  try simp only [Bool.true_and, Bool.and_true, Bool.and_eq_true] at h0
  have c0 := h0.1
  have c1 := h0.2
  have e : G_szStack [.a (stackR.cells .no (x0, x1)), .s (.int .i64 l)] K = (bif szOk l && (Cc.sl editR).cnz x0 then (bif decide (szN ((Cc.sl editR).w x0) l < 0) then K (sc (-1), []) else (bif szOk (szN ((Cc.sl editR).w x0) l) && (Cc.sl editR).cnz x1 then (bif decide (szN ((Cc.sl editR).w x1) (szN ((Cc.sl editR).w x0) l) < 0) then K (sc (-1), []) else K (sc (szN ((Cc.sl editR).w x1) (szN ((Cc.sl editR).w x0) l)), [])) else none)) else none) := by kernel_rfl
  have hw : ((Cc.sl editR).w x0 + ((Cc.sl editR).w x1 + 0)) = stackR.w (x0, x1) := by
    show ((Cc.sl editR).w x0 + ((Cc.sl editR).w x1 + 0)) = ((Cc.sl editR).w x0 + (Cc.sl editR).w x1)
    omega
  refine (e.trans (sz_step (K := fun n => K (sc n, [])) (w2 := ((Cc.sl editR).w x1 + 0)) (wt := ((Cc.sl editR).w x0 + ((Cc.sl editR).w x1 + 0))) hl0 c0 rfl (fun hl1 => sz_step (K := fun n => K (sc n, [])) (w2 := 0) (wt := ((Cc.sl editR).w x1 + 0)) hl1 c1 rfl (fun hl2 => sz_end (K := fun n => K (sc n, [])) hl2)))).trans ?_
  exact congrArg (fun n => K (sc (szN n l), [])) hw)

end Go.Ev.Seat
end
section
/- The laws' helpers for Req. Printed by fam.py. -/
namespace Go.Ev.Seat
open Go.RowKit
set_option maxRecDepth 100000
set_option linter.unusedVariables false
set_option linter.unusedSimpArgs false
end Go.Ev.Seat
end
section
/- The laws' helpers for Commit. Printed by fam.py. -/
namespace Go.Ev.Seat
open Go.RowKit
set_option maxRecDepth 100000
set_option linter.unusedVariables false
set_option linter.unusedSimpArgs false
noncomputable def G_toCommit := evF (En [(N.l_toEdit, true, S_toA editR)] []) true F.l_toCommit
theorem ok_toCommit : OkFn prog I N.l_toCommit true (G_toCommit) := ok_fn (memc okS_toEdit mem0) (by kernel_rfl) (by kernel_rfl) (by kernel_rfl) (by kernel_rfl) (cs := []) (by kernel_rfl) loops0

theorem okS_toCommit : OkFn prog I N.l_toCommit true (S_toA commitR) := okW ok_toCommit (S_toA_of fun d K h => by
  obtain ⟨x0, x1, x2, x3⟩ := d
  have h0 : (true && (true && (true && (Cc.sl bytesR).lim x3))) = true := h
  try simp only [Bool.true_and, Bool.and_true, Bool.and_eq_true] at h0
  have c3 := h0
  have e : G_toCommit [.a (commitR.cells .no (x0, x1, x2, x3))] K = (bif editR.lim (x1, x2, x3) then K (.a (commitR.cells .deep (x0, x1, x2, x3)), []) else none) := by kernel_rfl
  exact e.trans (to_step (show (true && (true && (Cc.sl bytesR).lim x3)) = true by simp only [c3, Bool.and_self]) rfl))

noncomputable def G_eqCommit := evF (En [(N.l_eqEdit, true, S_eqA editR)] []) true F.l_eqCommit
theorem ok_eqCommit : OkFn prog I N.l_eqCommit true (G_eqCommit) := ok_fn (memc okS_eqEdit mem0) (by kernel_rfl) (by kernel_rfl) (by kernel_rfl) (by kernel_rfl) (cs := []) (by kernel_rfl) loops0

theorem okS_eqCommit : OkFn prog I N.l_eqCommit true (S_eqA commitR) := okW ok_eqCommit (S_eqA_of fun d e K h => by
  obtain ⟨x0, x1, x2, x3⟩ := d
  obtain ⟨y0, y1, y2, y3⟩ := e
  have h0 : (true && (true && (true && (Cc.sl bytesR).cnt x3))) = true := h
  try simp only [Bool.true_and, Bool.and_true, Bool.and_eq_true] at h0
  have c3 := h0
  have e : G_eqCommit [.a (commitR.cells .no (x0, x1, x2, x3)), .a (commitR.cells .no (y0, y1, y2, y3))] K = (bif (x0 != y0) then K (bl false, []) else (bif editR.cnt (x1, x2, x3) then (bif !(eqD ((x1, x2, x3) : editR.T) (y1, y2, y3)) then K (bl false, []) else K (bl true, [])) else none)) := by kernel_rfl
  exact e.trans (eq_ne (eq_sub1 (show (true && (true && (Cc.sl bytesR).cnt x3)) = true by simp only [c3, Bool.and_self]))))

noncomputable def G_szCommit := evF (En [(N.l_szEdit, true, S_szA editR)] []) true F.l_szCommit
theorem ok_szCommit : OkFn prog I N.l_szCommit true (G_szCommit) := ok_fn (memc okS_szEdit mem0) (by kernel_rfl) (by kernel_rfl) (by kernel_rfl) (by kernel_rfl) (cs := []) (by kernel_rfl) loops0

theorem okS_szCommit : OkFn prog I N.l_szCommit true (S_szA commitR) := okW ok_szCommit (S_szA_of fun d l K hl0 h => by
  obtain ⟨x0, x1, x2, x3⟩ := d
  have h0 : (true && (true && (true && (Cc.sl bytesR).cnz x3))) = true := h
  try simp only [Bool.true_and, Bool.and_true, Bool.and_eq_true] at h0
  have c3 := h0
  have w1 : editR.w (x1, x2, x3) = (0 + (0 + (Cc.sl bytesR).w x3)) := rfl
  have e : G_szCommit [.a (commitR.cells .no (x0, x1, x2, x3)), .s (.int .i64 l)] K = (bif szOk l && editR.cnz (x1, x2, x3) then (bif decide (szN (editR.w (x1, x2, x3)) l < 0) then K (sc (-1), []) else K (sc (szN (editR.w (x1, x2, x3)) l), [])) else none) := by kernel_rfl
  have hw : (editR.w (x1, x2, x3) + 0) = commitR.w (x0, x1, x2, x3) := by
    show (editR.w (x1, x2, x3) + 0) = (0 + (0 + (0 + (Cc.sl bytesR).w x3)))
    omega
  refine (e.trans (sz_step (K := fun n => K (sc n, [])) (w2 := 0) (wt := (editR.w (x1, x2, x3) + 0)) hl0 (show (true && (true && (Cc.sl bytesR).cnz x3)) = true by simp only [c3, Bool.and_self]) rfl (fun hl1 => sz_end (K := fun n => K (sc n, [])) hl1))).trans ?_
  exact congrArg (fun n => K (sc (szN n l), [])) hw)

noncomputable def G_toCommitS := evF (En [(N.l_toCommit, true, S_toA commitR)] [] [(3, [0,3,4], [3], loopF (shTo commitR 18) (RTo commitR 18))]) true F.l_toCommitS
theorem ok_toCommitS : OkFn prog I N.l_toCommitS true G_toCommitS := ok_fn (memc okS_toCommit mem0) (by kernel_rfl) (by kernel_rfl) (by kernel_rfl) (by kernel_rfl) (cs := [bodyOf F.l_toCommitS 3]) (by kernel_rfl) (loopsc (loopTo (r := commitR) (n := 18) (by kernel_rfl) rfl rfl (fun m x0 x4 o0 K => by kernel_rfl)) loops0)
theorem okS_toCommitS : OkFn prog I N.l_toCommitS true (S_toL commitR) := okW ok_toCommitS (evTo (n := 18) (sz := 48) (fun a K => by kernel_rfl) rfl)

noncomputable def G_eqCommitS := evF (En [(N.l_eqCommit, true, S_eqA commitR)] [(6, takeB [0, 1, 2, 3, 4, 5, 6, 7] (.fork (.one 8 (takes [9]))), [])] [(4, [0,1,5], [4], loopF (shEq commitR 21) (REq commitR 21))]) true F.l_eqCommitS
theorem ok_eqCommitS : OkFn prog I N.l_eqCommitS true G_eqCommitS := ok_fn (memc okS_eqCommit mem0) (by kernel_rfl) (by kernel_rfl) (by kernel_rfl) (by kernel_rfl) (cs := [bodyOf F.l_eqCommitS 4]) (by kernel_rfl) (loopsc (loopEq (r := commitR) (n := 21) (by kernel_rfl) rfl rfl (fun m x0 x1 x5 K => by kernel_rfl)) loops0)
theorem okS_eqCommitS : OkFn prog I N.l_eqCommitS true (S_eq commitR) := okW ok_eqCommitS (evEq (fun a b K => by kernel_rfl))

noncomputable def G_szCommitS := evF (En [(N.l_szCommit, true, S_szA commitR)] [] [(5, [0,1,5], [1,4], loopF (shSz commitR 21) (RSz commitR 21))]) true F.l_szCommitS
theorem ok_szCommitS : OkFn prog I N.l_szCommitS true G_szCommitS := ok_fn (memc okS_szCommit mem0) (by kernel_rfl) (by kernel_rfl) (by kernel_rfl) (by kernel_rfl) (cs := [bodyOf F.l_szCommitS 5]) (by kernel_rfl) (loopsc (loopSz (r := commitR) (n := 21) (by kernel_rfl) rfl rfl (fun m x0 x1 x5 K => by kernel_rfl)) loops0)
theorem okS_szCommitS : OkFn prog I N.l_szCommitS true (S_szL commitR) := okW ok_szCommitS (evSz (fun a k K => by kernel_rfl))

noncomputable def G_markCommitS (T : MText) := evF (En [(N.l_markByteS, true, S_markL T bytesR)] [] [(2, [0,1,5], [1], loopF (shMk commitR 38) (RMk T commitR 38))] [N.l_markByteS] true) true F.l_markCommitS
theorem ok_markCommitS (T : MText) : OkFn prog I N.l_markCommitS true (G_markCommitS T) := ok_fn (memc (okS_markByteS T) mem0) (by kernel_rfl) (by kernel_rfl) (by kernel_rfl) (by kernel_rfl) (cs := [bodyOf F.l_markCommitS 2]) (by kernel_rfl) (loopsc (loopMk (T := T) (r := commitR) (n := 38) (by kernel_rfl) rfl rfl rfl (fun m x1 x5 o0 K => by kernel_rfl)) loops0)
theorem okS_markCommitS (T : MText) : OkFn prog I N.l_markCommitS true (S_markL T commitR) := okW (ok_markCommitS T) (evMk (fun a k K => by kernel_rfl))

noncomputable def G_heldCommitS (T : MText) := evF (En [(N.l_heldByteS, true, S_heldL T bytesR)] [] [(2, [0,1,5], [1,4], loopF (shSz commitR 46) (RHd T commitR 46))]) true F.l_heldCommitS
theorem ok_heldCommitS (T : MText) : OkFn prog I N.l_heldCommitS true (G_heldCommitS T) := ok_fn (memc (okS_heldByteS T) mem0) (by kernel_rfl) (by kernel_rfl) (by kernel_rfl) (by kernel_rfl) (cs := [bodyOf F.l_heldCommitS 2]) (by kernel_rfl) (loopsc (loopHd (T := T) (r := commitR) (n := 46) (by kernel_rfl) rfl rfl rfl (fun m x0 x1 x5 K => by kernel_rfl)) loops0)
theorem okS_heldCommitS (T : MText) : OkFn prog I N.l_heldCommitS true (S_heldL T commitR) := okW (ok_heldCommitS T) (evHd (fun a k K => by kernel_rfl))
end Go.Ev.Seat
end
section
/- The laws' helpers for Member. Printed by fam.py. -/
namespace Go.Ev.Seat
open Go.RowKit
set_option maxRecDepth 100000
set_option linter.unusedVariables false
set_option linter.unusedSimpArgs false
noncomputable def G_toMember := evF (En [(N.l_toSel, true, S_toA selR), (N.l_toStack, true, S_toA stackR)] []) true F.l_toMember
theorem ok_toMember : OkFn prog I N.l_toMember true (G_toMember) := ok_fn (memc okS_toSel (memc okS_toStack mem0)) (by kernel_rfl) (by kernel_rfl) (by kernel_rfl) (by kernel_rfl) (cs := []) (by kernel_rfl) loops0

theorem okS_toMember : OkFn prog I N.l_toMember true (S_toA memberR) := okW ok_toMember (S_toA_of fun d K h => by
  obtain ⟨x0, x1, x2, x3, x4⟩ := d
  have h0 : (true && (true && (true && ((Cc.sl editR).lim x3 && (Cc.sl editR).lim x4)))) = true := h
  try simp only [Bool.true_and, Bool.and_true, Bool.and_eq_true] at h0
  have c3 := h0.1
  have c4 := h0.2
  have e : G_toMember [.a (memberR.cells .no (x0, x1, x2, x3, x4))] K = (bif selR.lim (x1, x2) then (bif stackR.lim (x3, x4) then K (.a (memberR.cells .deep (x0, x1, x2, x3, x4)), []) else none) else none) := by kernel_rfl
  exact e.trans (to_step (show (true && true) = true by simp only [Bool.and_self]) (to_step (show ((Cc.sl editR).lim x3 && (Cc.sl editR).lim x4) = true by simp only [c3, c4, Bool.and_self]) rfl)))

noncomputable def G_eqMember := evF (En [(N.l_eqSel, true, S_eqA selR), (N.l_eqStack, true, S_eqA stackR)] []) true F.l_eqMember
theorem ok_eqMember : OkFn prog I N.l_eqMember true (G_eqMember) := ok_fn (memc okS_eqSel (memc okS_eqStack mem0)) (by kernel_rfl) (by kernel_rfl) (by kernel_rfl) (by kernel_rfl) (cs := []) (by kernel_rfl) loops0

theorem okS_eqMember : OkFn prog I N.l_eqMember true (S_eqA memberR) := okW ok_eqMember (S_eqA_of fun d e K h => by
  obtain ⟨x0, x1, x2, x3, x4⟩ := d
  obtain ⟨y0, y1, y2, y3, y4⟩ := e
  have h0 : (true && (true && (true && ((Cc.sl editR).cnt x3 && (Cc.sl editR).cnt x4)))) = true := h
  try simp only [Bool.true_and, Bool.and_true, Bool.and_eq_true] at h0
  have c3 := h0.1
  have c4 := h0.2
  have e : G_eqMember [.a (memberR.cells .no (x0, x1, x2, x3, x4)), .a (memberR.cells .no (y0, y1, y2, y3, y4))] K = (bif (x0 != y0) then K (bl false, []) else (bif selR.cnt (x1, x2) then (bif !(eqD ((x1, x2) : selR.T) (y1, y2)) then K (bl false, []) else (bif stackR.cnt (x3, x4) then (bif !(eqD ((x3, x4) : stackR.T) (y3, y4)) then K (bl false, []) else K (bl true, [])) else none)) else none)) := by kernel_rfl
  exact e.trans (eq_ne (eq_sub (show (true && true) = true by simp only [Bool.and_self]) ⟨fun h => by cases h; exact ⟨rfl, rfl⟩, fun h => by obtain ⟨h1, h2⟩ := h; cases h1; cases h2; rfl⟩ (eq_sub1 (show ((Cc.sl editR).cnt x3 && (Cc.sl editR).cnt x4) = true by simp only [c3, c4, Bool.and_self])))))

noncomputable def G_szMember := evF (En [(N.l_szStack, true, S_szA stackR)] []) true F.l_szMember
theorem ok_szMember : OkFn prog I N.l_szMember true (G_szMember) := ok_fn (memc okS_szStack mem0) (by kernel_rfl) (by kernel_rfl) (by kernel_rfl) (by kernel_rfl) (cs := []) (by kernel_rfl) loops0

theorem okS_szMember : OkFn prog I N.l_szMember true (S_szA memberR) := okW ok_szMember (S_szA_of fun d l K hl0 h => by
  obtain ⟨x0, x1, x2, x3, x4⟩ := d
  have h0 : (true && (true && (true && ((Cc.sl editR).cnz x3 && (Cc.sl editR).cnz x4)))) = true := h
  try simp only [Bool.true_and, Bool.and_true, Bool.and_eq_true] at h0
  have c3 := h0.1
  have c4 := h0.2
  have w3 : stackR.w (x3, x4) = ((Cc.sl editR).w x3 + (Cc.sl editR).w x4) := rfl
  have e : G_szMember [.a (memberR.cells .no (x0, x1, x2, x3, x4)), .s (.int .i64 l)] K = (bif szOk l && stackR.cnz (x3, x4) then (bif decide (szN (stackR.w (x3, x4)) l < 0) then K (sc (-1), []) else K (sc (szN (stackR.w (x3, x4)) l), [])) else none) := by kernel_rfl
  have hw : (stackR.w (x3, x4) + 0) = memberR.w (x0, x1, x2, x3, x4) := by
    show (stackR.w (x3, x4) + 0) = (0 + (0 + (0 + ((Cc.sl editR).w x3 + (Cc.sl editR).w x4))))
    omega
  refine (e.trans (sz_step (K := fun n => K (sc n, [])) (w2 := 0) (wt := (stackR.w (x3, x4) + 0)) hl0 (show ((Cc.sl editR).cnz x3 && (Cc.sl editR).cnz x4) = true by simp only [c3, c4, Bool.and_self]) rfl (fun hl1 => sz_end (K := fun n => K (sc n, [])) hl1))).trans ?_
  exact congrArg (fun n => K (sc (szN n l), [])) hw)

noncomputable def G_toMemberS := evF (En [(N.l_toMember, true, S_toA memberR)] [] [(3, [0,3,4], [3], loopF (shTo memberR 18) (RTo memberR 18))]) true F.l_toMemberS
theorem ok_toMemberS : OkFn prog I N.l_toMemberS true G_toMemberS := ok_fn (memc okS_toMember mem0) (by kernel_rfl) (by kernel_rfl) (by kernel_rfl) (by kernel_rfl) (cs := [bodyOf F.l_toMemberS 3]) (by kernel_rfl) (loopsc (loopTo (r := memberR) (n := 18) (by kernel_rfl) rfl rfl (fun m x0 x4 o0 K => by kernel_rfl)) loops0)
theorem okS_toMemberS : OkFn prog I N.l_toMemberS true (S_toL memberR) := okW ok_toMemberS (evTo (n := 18) (sz := 72) (fun a K => by kernel_rfl) rfl)

noncomputable def G_eqMemberS := evF (En [(N.l_eqMember, true, S_eqA memberR)] [(6, takeB [0, 1, 2, 3, 4, 5, 6, 7] (.fork (.one 8 (takes [9]))), [])] [(4, [0,1,5], [4], loopF (shEq memberR 21) (REq memberR 21))]) true F.l_eqMemberS
theorem ok_eqMemberS : OkFn prog I N.l_eqMemberS true G_eqMemberS := ok_fn (memc okS_eqMember mem0) (by kernel_rfl) (by kernel_rfl) (by kernel_rfl) (by kernel_rfl) (cs := [bodyOf F.l_eqMemberS 4]) (by kernel_rfl) (loopsc (loopEq (r := memberR) (n := 21) (by kernel_rfl) rfl rfl (fun m x0 x1 x5 K => by kernel_rfl)) loops0)
theorem okS_eqMemberS : OkFn prog I N.l_eqMemberS true (S_eq memberR) := okW ok_eqMemberS (evEq (fun a b K => by kernel_rfl))

noncomputable def G_szMemberS := evF (En [(N.l_szMember, true, S_szA memberR)] [] [(5, [0,1,5], [1,4], loopF (shSz memberR 21) (RSz memberR 21))]) true F.l_szMemberS
theorem ok_szMemberS : OkFn prog I N.l_szMemberS true G_szMemberS := ok_fn (memc okS_szMember mem0) (by kernel_rfl) (by kernel_rfl) (by kernel_rfl) (by kernel_rfl) (cs := [bodyOf F.l_szMemberS 5]) (by kernel_rfl) (loopsc (loopSz (r := memberR) (n := 21) (by kernel_rfl) rfl rfl (fun m x0 x1 x5 K => by kernel_rfl)) loops0)
theorem okS_szMemberS : OkFn prog I N.l_szMemberS true (S_szL memberR) := okW ok_szMemberS (evSz (fun a k K => by kernel_rfl))

noncomputable def G_markMemberS (T : MText) := evF (En [(N.l_markEditS, true, S_markL T editR)] [] [(2, [0,1,5], [1], loopF (shMk memberR 46) (RMk T memberR 46))] [N.l_markEditS] true) true F.l_markMemberS
theorem ok_markMemberS (T : MText) : OkFn prog I N.l_markMemberS true (G_markMemberS T) := ok_fn (memc (okS_markEditS T) mem0) (by kernel_rfl) (by kernel_rfl) (by kernel_rfl) (by kernel_rfl) (cs := [bodyOf F.l_markMemberS 2]) (by kernel_rfl) (loopsc (loopMk (T := T) (r := memberR) (n := 46) (by kernel_rfl) rfl rfl rfl (fun m x1 x5 o0 K => by kernel_rfl)) loops0)
theorem okS_markMemberS (T : MText) : OkFn prog I N.l_markMemberS true (S_markL T memberR) := okW (ok_markMemberS T) (evMk (fun a k K => by kernel_rfl))

noncomputable def G_heldMemberS (T : MText) := evF (En [(N.l_heldEditS, true, S_heldL T editR)] [] [(2, [0,1,5], [1,4], loopF (shSz memberR 56) (RHd T memberR 56))]) true F.l_heldMemberS
theorem ok_heldMemberS (T : MText) : OkFn prog I N.l_heldMemberS true (G_heldMemberS T) := ok_fn (memc (okS_heldEditS T) mem0) (by kernel_rfl) (by kernel_rfl) (by kernel_rfl) (by kernel_rfl) (cs := [bodyOf F.l_heldMemberS 2]) (by kernel_rfl) (loopsc (loopHd (T := T) (r := memberR) (n := 56) (by kernel_rfl) rfl rfl rfl (fun m x0 x1 x5 K => by kernel_rfl)) loops0)
theorem okS_heldMemberS (T : MText) : OkFn prog I N.l_heldMemberS true (S_heldL T memberR) := okW (ok_heldMemberS T) (evHd (fun a k K => by kernel_rfl))
end Go.Ev.Seat
end
section
/- The laws' helpers for Doc. Printed by fam.py. -/
namespace Go.Ev.Seat
open Go.RowKit
set_option maxRecDepth 100000
set_option linter.unusedVariables false
set_option linter.unusedSimpArgs false
noncomputable def G_toDoc := evF (En [(N.l_toByteS, true, S_toL bytesR), (N.l_toCommitS, true, S_toL commitR), (N.l_toMemberS, true, S_toL memberR), (N.l_toLeaseS, true, S_toL leaseR)] []) true F.l_toDoc
theorem ok_toDoc : OkFn prog I N.l_toDoc true (G_toDoc) := ok_fn (memc okS_toByteS (memc okS_toCommitS (memc okS_toMemberS (memc okS_toLeaseS mem0)))) (by kernel_rfl) (by kernel_rfl) (by kernel_rfl) (by kernel_rfl) (cs := []) (by kernel_rfl) loops0

theorem okS_toDoc : OkFn prog I N.l_toDoc true (S_toA docR) := okW ok_toDoc (S_toA_of fun d K h => by
  obtain ⟨x0, x1, x2, x3, x4, x5⟩ := d
  have h0 : ((Cc.sl bytesR).lim x0 && ((Cc.sl bytesR).lim x1 && ((Cc.sl commitR).lim x2 && (true && ((Cc.sl memberR).lim x4 && (Cc.sl leaseR).lim x5))))) = true := h
  try simp only [Bool.true_and, Bool.and_true, Bool.and_eq_true] at h0
  have c0 := h0.1
  have c1 := h0.2.1
  have c2 := h0.2.2.1
  have c4 := h0.2.2.2.1
  have c5 := h0.2.2.2.2
  have e : G_toDoc [.a (docR.cells .no (x0, x1, x2, x3, x4, x5))] K = (bif (Cc.sl bytesR).lim x0 then (bif (Cc.sl bytesR).lim x1 then (bif (Cc.sl commitR).lim x2 then (bif (Cc.sl memberR).lim x4 then (bif (Cc.sl leaseR).lim x5 then K (.a (docR.cells .deep (x0, x1, x2, x3, x4, x5)), []) else none) else none) else none) else none) else none) := by kernel_rfl
  exact e.trans (to_step c0 (to_step c1 (to_step c2 (to_step c4 (to_step c5 rfl))))))

noncomputable def G_eqDoc := evF (En [(N.l_eqByteS, true, S_eq bytesR), (N.l_eqCommitS, true, S_eq commitR), (N.l_eqMemberS, true, S_eq memberR), (N.l_eqLeaseS, true, S_eq leaseR)] []) true F.l_eqDoc
theorem ok_eqDoc : OkFn prog I N.l_eqDoc true (G_eqDoc) := ok_fn (memc okS_eqByteS (memc okS_eqCommitS (memc okS_eqMemberS (memc okS_eqLeaseS mem0)))) (by kernel_rfl) (by kernel_rfl) (by kernel_rfl) (by kernel_rfl) (cs := []) (by kernel_rfl) loops0

theorem okS_eqDoc : OkFn prog I N.l_eqDoc true (S_eqA docR) := okW ok_eqDoc (S_eqA_of fun d e K h => by
  obtain ⟨x0, x1, x2, x3, x4, x5⟩ := d
  obtain ⟨y0, y1, y2, y3, y4, y5⟩ := e
  have h0 : ((Cc.sl bytesR).cnt x0 && ((Cc.sl bytesR).cnt x1 && ((Cc.sl commitR).cnt x2 && (true && ((Cc.sl memberR).cnt x4 && (Cc.sl leaseR).cnt x5))))) = true := h
  try simp only [Bool.true_and, Bool.and_true, Bool.and_eq_true] at h0
  have c0 := h0.1
  have c1 := h0.2.1
  have c2 := h0.2.2.1
  have c4 := h0.2.2.2.1
  have c5 := h0.2.2.2.2
  have e : G_eqDoc [.a (docR.cells .no (x0, x1, x2, x3, x4, x5)), .a (docR.cells .no (y0, y1, y2, y3, y4, y5))] K = (bif (Cc.sl bytesR).cnt x0 then (bif !(eqD x0 y0) then K (bl false, []) else (bif (Cc.sl bytesR).cnt x1 then (bif !(eqD x1 y1) then K (bl false, []) else (bif (Cc.sl commitR).cnt x2 then (bif !(eqD x2 y2) then K (bl false, []) else (bif (x3 != y3) then K (bl false, []) else (bif (Cc.sl memberR).cnt x4 then (bif !(eqD x4 y4) then K (bl false, []) else (bif (Cc.sl leaseR).cnt x5 then (bif !(eqD x5 y5) then K (bl false, []) else K (bl true, [])) else none)) else none))) else none)) else none)) else none) := by kernel_rfl
  exact e.trans (eq_sl c0 (eq_sl c1 (eq_sl c2 (eq_ne (eq_sl c4 (eq_sub1 c5)))))))

noncomputable def G_szDoc := evF (En [(N.l_szByteS, true, S_szL bytesR), (N.l_szCommitS, true, S_szL commitR), (N.l_szMemberS, true, S_szL memberR), (N.l_szLeaseS, true, S_szL leaseR)] []) true F.l_szDoc
theorem ok_szDoc : OkFn prog I N.l_szDoc true (G_szDoc) := ok_fn (memc okS_szByteS (memc okS_szCommitS (memc okS_szMemberS (memc okS_szLeaseS mem0)))) (by kernel_rfl) (by kernel_rfl) (by kernel_rfl) (by kernel_rfl) (cs := []) (by kernel_rfl) loops0

theorem okS_szDoc : OkFn prog I N.l_szDoc true (S_szA docR) := okW ok_szDoc (S_szA_of fun d l K hl0 h => by
  obtain ⟨x0, x1, x2, x3, x4, x5⟩ := d
  have h0 : ((Cc.sl bytesR).cnz x0 && ((Cc.sl bytesR).cnz x1 && ((Cc.sl commitR).cnz x2 && (true && ((Cc.sl memberR).cnz x4 && (Cc.sl leaseR).cnz x5))))) = true := h
  try simp only [Bool.true_and, Bool.and_true, Bool.and_eq_true] at h0
  have c0 := h0.1
  have c1 := h0.2.1
  have c2 := h0.2.2.1
  have c4 := h0.2.2.2.1
  have c5 := h0.2.2.2.2
  have e : G_szDoc [.a (docR.cells .no (x0, x1, x2, x3, x4, x5)), .s (.int .i64 l)] K = (bif szOk l && (Cc.sl bytesR).cnz x0 then (bif decide (szN ((Cc.sl bytesR).w x0) l < 0) then K (sc (-1), []) else (bif szOk (szN ((Cc.sl bytesR).w x0) l) && (Cc.sl bytesR).cnz x1 then (bif decide (szN ((Cc.sl bytesR).w x1) (szN ((Cc.sl bytesR).w x0) l) < 0) then K (sc (-1), []) else (bif szOk (szN ((Cc.sl bytesR).w x1) (szN ((Cc.sl bytesR).w x0) l)) && (Cc.sl commitR).cnz x2 then (bif decide (szN ((Cc.sl commitR).w x2) (szN ((Cc.sl bytesR).w x1) (szN ((Cc.sl bytesR).w x0) l)) < 0) then K (sc (-1), []) else (bif szOk (szN ((Cc.sl commitR).w x2) (szN ((Cc.sl bytesR).w x1) (szN ((Cc.sl bytesR).w x0) l))) && (Cc.sl memberR).cnz x4 then (bif decide (szN ((Cc.sl memberR).w x4) (szN ((Cc.sl commitR).w x2) (szN ((Cc.sl bytesR).w x1) (szN ((Cc.sl bytesR).w x0) l))) < 0) then K (sc (-1), []) else (bif szOk (szN ((Cc.sl memberR).w x4) (szN ((Cc.sl commitR).w x2) (szN ((Cc.sl bytesR).w x1) (szN ((Cc.sl bytesR).w x0) l)))) && (Cc.sl leaseR).cnz x5 then (bif decide (szN ((Cc.sl leaseR).w x5) (szN ((Cc.sl memberR).w x4) (szN ((Cc.sl commitR).w x2) (szN ((Cc.sl bytesR).w x1) (szN ((Cc.sl bytesR).w x0) l)))) < 0) then K (sc (-1), []) else K (sc (szN ((Cc.sl leaseR).w x5) (szN ((Cc.sl memberR).w x4) (szN ((Cc.sl commitR).w x2) (szN ((Cc.sl bytesR).w x1) (szN ((Cc.sl bytesR).w x0) l))))), [])) else none)) else none)) else none)) else none)) else none) := by kernel_rfl
  have hw : ((Cc.sl bytesR).w x0 + ((Cc.sl bytesR).w x1 + ((Cc.sl commitR).w x2 + ((Cc.sl memberR).w x4 + ((Cc.sl leaseR).w x5 + 0))))) = docR.w (x0, x1, x2, x3, x4, x5) := by
    show ((Cc.sl bytesR).w x0 + ((Cc.sl bytesR).w x1 + ((Cc.sl commitR).w x2 + ((Cc.sl memberR).w x4 + ((Cc.sl leaseR).w x5 + 0))))) = ((Cc.sl bytesR).w x0 + ((Cc.sl bytesR).w x1 + ((Cc.sl commitR).w x2 + (0 + ((Cc.sl memberR).w x4 + (Cc.sl leaseR).w x5)))))
    omega
  refine (e.trans (sz_step (K := fun n => K (sc n, [])) (w2 := ((Cc.sl bytesR).w x1 + ((Cc.sl commitR).w x2 + ((Cc.sl memberR).w x4 + ((Cc.sl leaseR).w x5 + 0))))) (wt := ((Cc.sl bytesR).w x0 + ((Cc.sl bytesR).w x1 + ((Cc.sl commitR).w x2 + ((Cc.sl memberR).w x4 + ((Cc.sl leaseR).w x5 + 0)))))) hl0 c0 rfl (fun hl1 => sz_step (K := fun n => K (sc n, [])) (w2 := ((Cc.sl commitR).w x2 + ((Cc.sl memberR).w x4 + ((Cc.sl leaseR).w x5 + 0)))) (wt := ((Cc.sl bytesR).w x1 + ((Cc.sl commitR).w x2 + ((Cc.sl memberR).w x4 + ((Cc.sl leaseR).w x5 + 0))))) hl1 c1 rfl (fun hl2 => sz_step (K := fun n => K (sc n, [])) (w2 := ((Cc.sl memberR).w x4 + ((Cc.sl leaseR).w x5 + 0))) (wt := ((Cc.sl commitR).w x2 + ((Cc.sl memberR).w x4 + ((Cc.sl leaseR).w x5 + 0)))) hl2 c2 rfl (fun hl3 => sz_step (K := fun n => K (sc n, [])) (w2 := ((Cc.sl leaseR).w x5 + 0)) (wt := ((Cc.sl memberR).w x4 + ((Cc.sl leaseR).w x5 + 0))) hl3 c4 rfl (fun hl4 => sz_step (K := fun n => K (sc n, [])) (w2 := 0) (wt := ((Cc.sl leaseR).w x5 + 0)) hl4 c5 rfl (fun hl5 => sz_end (K := fun n => K (sc n, [])) hl5))))))).trans ?_
  exact congrArg (fun n => K (sc (szN n l), [])) hw)

noncomputable def G_markDoc (T : MText) := evF (En [(N.l_markByteS, true, S_markL T bytesR), (N.l_markCommitS, true, S_markL T commitR), (N.l_markMemberS, true, S_markL T memberR), (N.l_markLeaseS, true, S_markL T leaseR)] [] [] [N.l_markByteS, N.l_markCommitS, N.l_markMemberS, N.l_markLeaseS] true) true F.l_markDoc
theorem ok_markDoc (T : MText) : OkFn prog I N.l_markDoc true (G_markDoc T) := ok_fn (memc (okS_markByteS T) (memc (okS_markCommitS T) (memc (okS_markMemberS T) (memc (okS_markLeaseS T) mem0)))) (by kernel_rfl) (by kernel_rfl) (by kernel_rfl) (by kernel_rfl) (cs := []) (by kernel_rfl) loops0

theorem okS_markDoc (T : MText) : OkFn prog I N.l_markDoc true (S_markA T docR) := okW (ok_markDoc T) (S_markA_of fun d k K h => by
  obtain ⟨x0, x1, x2, x3, x4, x5⟩ := d
  have h0 : ((Cc.sl bytesR).cnt x0 && ((Cc.sl bytesR).cnt x1 && ((Cc.sl commitR).cnt x2 && (true && ((Cc.sl memberR).cnt x4 && (Cc.sl leaseR).cnt x5))))) = true := h
  try simp only [Bool.true_and, Bool.and_true, Bool.and_eq_true] at h0
  have c0 := h0.1
  have c1 := h0.2.1
  have c2 := h0.2.2.1
  have c4 := h0.2.2.2.1
  have c5 := h0.2.2.2.2
  have e : G_markDoc T [.a (docR.cells .own (x0, x1, x2, x3, x4, x5)), .s (.int .i64 k)] K = (bif (Cc.sl bytesR).cnt x0 then (bif (Cc.sl bytesR).cnt x1 then (bif (Cc.sl commitR).cnt x2 then (bif (Cc.sl memberR).cnt x4 then (bif (Cc.sl leaseR).cnt x5 then K (sc (docR.markA T (x0, x1, x2, x3, x4, x5) k).2, [.a (docR.cells .own (docR.markA T (x0, x1, x2, x3, x4, x5) k).1)]) else none) else none) else none) else none) else none) := by kernel_rfl
  exact e.trans (to_step c0 (to_step c1 (to_step c2 (to_step c4 (to_step c5 rfl))))))

noncomputable def G_heldDoc (T : MText) := evF (En [(N.l_heldByteS, true, S_heldL T bytesR), (N.l_heldCommitS, true, S_heldL T commitR), (N.l_heldMemberS, true, S_heldL T memberR), (N.l_heldLeaseS, true, S_heldL T leaseR)] []) true F.l_heldDoc
theorem ok_heldDoc (T : MText) : OkFn prog I N.l_heldDoc true (G_heldDoc T) := ok_fn (memc (okS_heldByteS T) (memc (okS_heldCommitS T) (memc (okS_heldMemberS T) (memc (okS_heldLeaseS T) mem0)))) (by kernel_rfl) (by kernel_rfl) (by kernel_rfl) (by kernel_rfl) (cs := []) (by kernel_rfl) loops0

theorem okS_heldDoc (T : MText) : OkFn prog I N.l_heldDoc true (S_heldA T docR) := okW (ok_heldDoc T) (S_heldA_of fun d k K hm h hk hle => by
  obtain ⟨x0, x1, x2, x3, x4, x5⟩ := d
  have h0 : ((Cc.sl bytesR).cnt x0 && ((Cc.sl bytesR).cnt x1 && ((Cc.sl commitR).cnt x2 && (true && ((Cc.sl memberR).cnt x4 && (Cc.sl leaseR).cnt x5))))) = true := h
  try simp only [Bool.true_and, Bool.and_true, Bool.and_eq_true] at h0
  have c0 := h0.1
  have c1 := h0.2.1
  have c2 := h0.2.2.1
  have c4 := h0.2.2.2.1
  have c5 := h0.2.2.2.2
  have ht : k + ((((Cc.sl bytesR).marks x0 + ((Cc.sl bytesR).marks x1 + ((Cc.sl commitR).marks x2 + (0 + ((Cc.sl memberR).marks x4 + (Cc.sl leaseR).marks x5))))) : Nat) : Int) ≤ 4611686018427387904 := hle
  have p0 : 0 ≤ k := by omega
  have q0 : k + (((Cc.sl bytesR).marks x0 : Nat) : Int) ≤ 4611686018427387904 := by omega
  have m0 := Cc.mark_cnt T (.sl bytesR) x0 k p0 q0
  have e0 : ((Cc.sl bytesR).mark T x0 k).1 = x0 := congrArg (fun p : docR.T => p.1) hm
  have p1 : 0 ≤ ((Cc.sl bytesR).mark T x0 k).2 := by omega
  have q1 : ((Cc.sl bytesR).mark T x0 k).2 + (((Cc.sl bytesR).marks x1 : Nat) : Int) ≤ 4611686018427387904 := by omega
  have m1 := Cc.mark_cnt T (.sl bytesR) x1 ((Cc.sl bytesR).mark T x0 k).2 p1 q1
  have e1 : ((Cc.sl bytesR).mark T x1 ((Cc.sl bytesR).mark T x0 k).2).1 = x1 := congrArg (fun p : docR.T => p.2.1) hm
  have p2 : 0 ≤ ((Cc.sl bytesR).mark T x1 ((Cc.sl bytesR).mark T x0 k).2).2 := by omega
  have q2 : ((Cc.sl bytesR).mark T x1 ((Cc.sl bytesR).mark T x0 k).2).2 + (((Cc.sl commitR).marks x2 : Nat) : Int) ≤ 4611686018427387904 := by omega
  have m2 := Cc.mark_cnt T (.sl commitR) x2 ((Cc.sl bytesR).mark T x1 ((Cc.sl bytesR).mark T x0 k).2).2 p2 q2
  have e2 : ((Cc.sl commitR).mark T x2 ((Cc.sl bytesR).mark T x1 ((Cc.sl bytesR).mark T x0 k).2).2).1 = x2 := congrArg (fun p : docR.T => p.2.2.1) hm
  have p3 : 0 ≤ ((Cc.sl commitR).mark T x2 ((Cc.sl bytesR).mark T x1 ((Cc.sl bytesR).mark T x0 k).2).2).2 := by omega
  have q3 : ((Cc.sl commitR).mark T x2 ((Cc.sl bytesR).mark T x1 ((Cc.sl bytesR).mark T x0 k).2).2).2 + (((Cc.sl memberR).marks x4 : Nat) : Int) ≤ 4611686018427387904 := by omega
  have m3 := Cc.mark_cnt T (.sl memberR) x4 ((Cc.sl commitR).mark T x2 ((Cc.sl bytesR).mark T x1 ((Cc.sl bytesR).mark T x0 k).2).2).2 p3 q3
  have e3 : ((Cc.sl memberR).mark T x4 ((Cc.sl commitR).mark T x2 ((Cc.sl bytesR).mark T x1 ((Cc.sl bytesR).mark T x0 k).2).2).2).1 = x4 := congrArg (fun p : docR.T => p.2.2.2.2.1) hm
  have p4 : 0 ≤ ((Cc.sl memberR).mark T x4 ((Cc.sl commitR).mark T x2 ((Cc.sl bytesR).mark T x1 ((Cc.sl bytesR).mark T x0 k).2).2).2).2 := by omega
  have q4 : ((Cc.sl memberR).mark T x4 ((Cc.sl commitR).mark T x2 ((Cc.sl bytesR).mark T x1 ((Cc.sl bytesR).mark T x0 k).2).2).2).2 + (((Cc.sl leaseR).marks x5 : Nat) : Int) ≤ 4611686018427387904 := by omega
  have m4 := Cc.mark_cnt T (.sl leaseR) x5 ((Cc.sl memberR).mark T x4 ((Cc.sl commitR).mark T x2 ((Cc.sl bytesR).mark T x1 ((Cc.sl bytesR).mark T x0 k).2).2).2).2 p4 q4
  have e4 : ((Cc.sl leaseR).mark T x5 ((Cc.sl memberR).mark T x4 ((Cc.sl commitR).mark T x2 ((Cc.sl bytesR).mark T x1 ((Cc.sl bytesR).mark T x0 k).2).2).2).2).1 = x5 := congrArg (fun p : docR.T => p.2.2.2.2.2) hm
  have e : G_heldDoc T [.a (docR.cells .no (x0, x1, x2, x3, x4, x5)), .s (.int .i64 k)] K = (bif (eqD ((Cc.sl bytesR).mark T x0 k).1 x0) && ((Cc.sl bytesR).cnt x0 && decide ((0 : Int) ≤ k) && decide (k + (((Cc.sl bytesR).marks x0 : Nat) : Int) ≤ 4611686018427387904)) then (bif decide (((Cc.sl bytesR).mark T x0 k).2 < 0) then K (sc (-1), []) else (bif (eqD ((Cc.sl bytesR).mark T x1 ((Cc.sl bytesR).mark T x0 k).2).1 x1) && ((Cc.sl bytesR).cnt x1 && decide ((0 : Int) ≤ ((Cc.sl bytesR).mark T x0 k).2) && decide (((Cc.sl bytesR).mark T x0 k).2 + (((Cc.sl bytesR).marks x1 : Nat) : Int) ≤ 4611686018427387904)) then (bif decide (((Cc.sl bytesR).mark T x1 ((Cc.sl bytesR).mark T x0 k).2).2 < 0) then K (sc (-1), []) else (bif (eqD ((Cc.sl commitR).mark T x2 ((Cc.sl bytesR).mark T x1 ((Cc.sl bytesR).mark T x0 k).2).2).1 x2) && ((Cc.sl commitR).cnt x2 && decide ((0 : Int) ≤ ((Cc.sl bytesR).mark T x1 ((Cc.sl bytesR).mark T x0 k).2).2) && decide (((Cc.sl bytesR).mark T x1 ((Cc.sl bytesR).mark T x0 k).2).2 + (((Cc.sl commitR).marks x2 : Nat) : Int) ≤ 4611686018427387904)) then (bif decide (((Cc.sl commitR).mark T x2 ((Cc.sl bytesR).mark T x1 ((Cc.sl bytesR).mark T x0 k).2).2).2 < 0) then K (sc (-1), []) else (bif (eqD ((Cc.sl memberR).mark T x4 ((Cc.sl commitR).mark T x2 ((Cc.sl bytesR).mark T x1 ((Cc.sl bytesR).mark T x0 k).2).2).2).1 x4) && ((Cc.sl memberR).cnt x4 && decide ((0 : Int) ≤ ((Cc.sl commitR).mark T x2 ((Cc.sl bytesR).mark T x1 ((Cc.sl bytesR).mark T x0 k).2).2).2) && decide (((Cc.sl commitR).mark T x2 ((Cc.sl bytesR).mark T x1 ((Cc.sl bytesR).mark T x0 k).2).2).2 + (((Cc.sl memberR).marks x4 : Nat) : Int) ≤ 4611686018427387904)) then (bif decide (((Cc.sl memberR).mark T x4 ((Cc.sl commitR).mark T x2 ((Cc.sl bytesR).mark T x1 ((Cc.sl bytesR).mark T x0 k).2).2).2).2 < 0) then K (sc (-1), []) else (bif (eqD ((Cc.sl leaseR).mark T x5 ((Cc.sl memberR).mark T x4 ((Cc.sl commitR).mark T x2 ((Cc.sl bytesR).mark T x1 ((Cc.sl bytesR).mark T x0 k).2).2).2).2).1 x5) && ((Cc.sl leaseR).cnt x5 && decide ((0 : Int) ≤ ((Cc.sl memberR).mark T x4 ((Cc.sl commitR).mark T x2 ((Cc.sl bytesR).mark T x1 ((Cc.sl bytesR).mark T x0 k).2).2).2).2) && decide (((Cc.sl memberR).mark T x4 ((Cc.sl commitR).mark T x2 ((Cc.sl bytesR).mark T x1 ((Cc.sl bytesR).mark T x0 k).2).2).2).2 + (((Cc.sl leaseR).marks x5 : Nat) : Int) ≤ 4611686018427387904)) then (bif decide (((Cc.sl leaseR).mark T x5 ((Cc.sl memberR).mark T x4 ((Cc.sl commitR).mark T x2 ((Cc.sl bytesR).mark T x1 ((Cc.sl bytesR).mark T x0 k).2).2).2).2).2 < 0) then K (sc (-1), []) else K (sc ((Cc.sl leaseR).mark T x5 ((Cc.sl memberR).mark T x4 ((Cc.sl commitR).mark T x2 ((Cc.sl bytesR).mark T x1 ((Cc.sl bytesR).mark T x0 k).2).2).2).2).2, [])) else none)) else none)) else none)) else none)) else none) := by kernel_rfl
  exact e.trans (held_step (eqD_iff.2 e0) c0 p0 q0 m0 (held_step (eqD_iff.2 e1) c1 p1 q1 m1 (held_step (eqD_iff.2 e2) c2 p2 q2 m2 (held_step (eqD_iff.2 e3) c4 p3 q3 m3 (held_step (eqD_iff.2 e4) c5 p4 q4 m4 rfl))))))
end Go.Ev.Seat
end
section
/- Contracts by signature: what comes in is read as data; what goes out is a function of it. -/
set_option linter.unusedVariables false
namespace Go.Ev
inductive Ak where
  | sc1 (k : Cc)
  | a (r : Rw)
  | l (r : Rw)
  | i
  | b
  | sh (s : Sh)
abbrev Ak.T : Ak → Type
  | .a r => r.T
  | .l r => List r.T
  | .i => Int
  | .b => Bool
  | .sc1 k => k.T
  | .sh s => s.T
def Ak.v : (k : Ak) → k.T → V
  | .a r, d => .a (r.cells .no d)
  | .l r, d => .l .no r d
  | .i, n => .s (.int .i64 n)
  | .b, c => .s (.bool c)
  | .sc1 k, d => k.cell .no d
  | .sh s, d => s.mk d
def Ak.dec : (k : Ak) → V → Option k.T
  | .a r, .a cs => r.dec cs
  | .l r, v => (Cc.sl r).dec v
  | .i, .s (.int .i64 n) => some n
  | .b, .s (.bool c) => some c
  | .sc1 k, v => k.dec v
  | .sh s, v => s.un v
  | _, _ => none
theorem Ak.dec_ok : (k : Ak) → {v : V} → {d : k.T} → k.dec v = some d → v = k.v d
  | .a r, v, d, h => by
    cases v with
    | a cs => simp only [Ak.dec] at h; rw [Rw.dec_ok r h]; rfl
    | _ => simp [Ak.dec] at h
  | .l r, v, d, h => by
    have h' : (Cc.sl r).dec v = some d := by
      cases v <;> simpa [Ak.dec] using h
    rw [Cc.dec_ok (.sl r) h']; rfl
  | .i, v, d, h => by
    cases v with
    | s u =>
      cases u with
      | int k n => cases k <;> simp [Ak.dec] at h <;> subst h <;> rfl
      | _ => simp [Ak.dec] at h
    | _ => simp [Ak.dec] at h
  | .sc1 k, v, d, h => by
    have h' : k.dec v = some d := by
      cases v <;> simpa [Ak.dec] using h
    exact Cc.dec_ok k h'
  | .sh s, v, d, h => by
    have h' : s.un v = some d := by
      cases v <;> simpa [Ak.dec] using h
    exact Sh.un_mk s h'
  | .b, v, d, h => by
    cases v with
    | s u =>
      cases u with
      | bool c => simp [Ak.dec] at h; subst h; rfl
      | _ => simp [Ak.dec] at h
    | _ => simp [Ak.dec] at h
abbrev SgT : List Ak → Type
  | [] => Unit
  | k :: ks => k.T × SgT ks
def sgV : (ks : List Ak) → SgT ks → List V
  | [], _ => []
  | k :: ks, d => k.v d.1 :: sgV ks d.2
mutual
theorem Cc.cnz_of_wf : (c : Cc) → (d : c.T) → c.wf d → c.cnz d = true
  | .int _, _, _ => rfl
  | .bool, _, _ => rfl
  | .str, _, _ => rfl
  | .sl r, xs, h => by
    simp only [Cc.cnz, Bool.and_eq_true, List.all_eq_true]
    exact ⟨Nat.ble_eq_true_of_le h.1, fun x hx => Rw.cnz_of_wf r x (h.2 x hx)⟩
theorem Rw.cnz_of_wf : (r : Rw) → (d : r.T) → r.wf d → r.cnz d = true
  | .one c, d, h => Cc.cnz_of_wf c d h
  | .cons c r, d, h => by
    simp only [Rw.cnz, Bool.and_eq_true]
    exact ⟨Cc.cnz_of_wf c d.1 h.1, Rw.cnz_of_wf r d.2 h.2⟩
end

/-! ### How many marks -/
mutual
def Cc.mx : Cc → Bool
  | .sl r => Nat.ble r.sc 32 && r.mx
  | _ => true
def Rw.mx : Rw → Bool
  | .one c => c.mx
  | .cons c r => c.mx && r.mx
def Cc.sc : Cc → Nat
  | .sl _ => 0
  | _ => 1
def Rw.sc : Rw → Nat
  | .one c => c.sc
  | .cons c r => c.sc + r.sc
end
mutual
theorem Cc.marks_le : (c : Cc) → c.mx = true → (d : c.T) → c.marks d ≤ c.sc + 32 * c.w d
  | .int _, _, _ => by simp [Cc.marks, Cc.sc, Cc.w]
  | .bool, _, _ => by simp [Cc.marks, Cc.sc, Cc.w]
  | .str, _, d => by simp only [Cc.marks, Cc.sc, Cc.w]; omega
  | .sl r, h, xs => by
    simp only [Cc.mx, Bool.and_eq_true] at h
    have h1 : r.sc ≤ 32 := Nat.le_of_ble_eq_true h.1
    have key : ∀ ys : List r.T, sumW r.marks ys ≤ 32 * (ys.length + sumW r.w ys) := by
      intro ys
      induction ys with
      | nil => simp [sumW]
      | cons y ys ih =>
        have := Rw.marks_le r h.2 y
        simp only [sumW, List.length_cons]
        omega
    simp only [Cc.marks, Cc.sc, Cc.w]
    have := key xs
    omega
theorem Rw.marks_le : (r : Rw) → r.mx = true → (d : r.T) → r.marks d ≤ r.sc + 32 * r.w d
  | .one c, h, d => Cc.marks_le c h d
  | .cons c r, h, d => by
    simp only [Rw.mx, Bool.and_eq_true] at h
    have h1 := Cc.marks_le c h.1 d.1
    have h2 := Rw.marks_le r h.2 d.2
    simp only [Rw.marks, Rw.sc, Rw.w]
    omega
end
theorem Cc.marksA_le : (c : Cc) → c.mx = true → (d : c.T) → c.marksA d ≤ 32 * c.w d
  | .int _, _, _ => by simp [Cc.marksA]
  | .bool, _, _ => by simp [Cc.marksA]
  | .str, _, d => by simp [Cc.marksA]
  | .sl r, h, xs => by
    have := Cc.marks_le (.sl r) h xs
    simp only [Cc.sc, Nat.zero_add] at this
    exact this
theorem Rw.marksA_le : (r : Rw) → r.mx = true → (d : r.T) → r.marksA d ≤ 32 * r.w d
  | .one c, h, d => Cc.marksA_le c h d
  | .cons c r, h, d => by
    simp only [Rw.mx, Bool.and_eq_true] at h
    have h1 := Cc.marksA_le c h.1 d.1
    have h2 := Rw.marksA_le r h.2 d.2
    simp only [Rw.marksA, Rw.w]
    omega
mutual
theorem Cc.cnt_of_w : (c : Cc) → (d : c.T) → c.w d ≤ 4611686018427387904 → c.cnt d = true
  | .int _, _, _ => rfl
  | .bool, _, _ => rfl
  | .str, _, _ => rfl
  | .sl r, xs, h => by
    simp only [Cc.w] at h
    simp only [Cc.cnt, Bool.and_eq_true, List.all_eq_true]
    refine ⟨Nat.ble_eq_true_of_le (by omega), fun x hx => ?_⟩
    have := sumW_mem (f := r.w) hx
    exact Rw.cnt_of_w r x (by omega)
theorem Rw.cnt_of_w : (r : Rw) → (d : r.T) → r.w d ≤ 4611686018427387904 → r.cnt d = true
  | .one c, d, h => Cc.cnt_of_w c d h
  | .cons c r, d, h => by
    simp only [Rw.w] at h
    simp only [Rw.cnt, Bool.and_eq_true]
    exact ⟨Cc.cnt_of_w c d.1 (by omega), Rw.cnt_of_w r d.2 (by omega)⟩
end
mutual
theorem Cc.mark_w (T : MText) : (c : Cc) → (d : c.T) → (k : Int) → c.cnt (c.mark T d k).1 = c.cnt d
  | .int _, _, _ => rfl
  | .bool, _, _ => rfl
  | .str, _, _ => rfl
  | .sl r, xs, k => by
    simp only [Cc.cnt, Cc.mark, markList_len]
    have key : ∀ (xs : List r.T) (k : Int), (markList (r.mark T) xs k).1.all r.cnt = xs.all r.cnt := by
      intro xs
      induction xs with
      | nil => intro k; rfl
      | cons x xs ih =>
        intro k
        simp only [markList, List.all_cons]
        rw [ih, Rw.mark_w T r x k]
    rw [key]
theorem Rw.mark_w (T : MText) : (r : Rw) → (d : r.T) → (k : Int) → r.cnt (r.mark T d k).1 = r.cnt d
  | .one c, d, k => Cc.mark_w T c d k
  | .cons c r, d, k => by simp only [Rw.cnt, Rw.mark]; rw [Cc.mark_w T c, Rw.mark_w T r]
end
theorem Cc.markA_w (T : MText) : (c : Cc) → (d : c.T) → (k : Int) → c.cnt (c.markA T d k).1 = c.cnt d
  | .int _, _, _ => rfl
  | .bool, _, _ => rfl
  | .str, _, _ => rfl
  | .sl r, xs, k => Cc.mark_w T (.sl r) xs k
theorem Rw.markA_w (T : MText) : (r : Rw) → (d : r.T) → (k : Int) → r.cnt (r.markA T d k).1 = r.cnt d
  | .one c, d, k => Cc.markA_w T c d k
  | .cons c r, d, k => by simp only [Rw.cnt, Rw.markA]; rw [Cc.markA_w T c, Rw.markA_w T r]
mutual
theorem Cc.mark_marks (T : MText) : (c : Cc) → (d : c.T) → (k : Int) → c.marks (c.mark T d k).1 = c.marks d
  | .int _, _, _ => rfl
  | .bool, _, _ => rfl
  | .str, _, _ => rfl
  | .sl r, xs, k => by
    have key : ∀ (xs : List r.T) (k : Int), sumW r.marks (markList (r.mark T) xs k).1 = sumW r.marks xs := by
      intro xs
      induction xs with
      | nil => intro k; rfl
      | cons x xs ih =>
        intro k
        simp only [markList, sumW]
        rw [ih, Rw.mark_marks T r x k]
    exact key xs k
theorem Rw.mark_marks (T : MText) : (r : Rw) → (d : r.T) → (k : Int) → r.marks (r.mark T d k).1 = r.marks d
  | .one c, d, k => Cc.mark_marks T c d k
  | .cons c r, d, k => by simp only [Rw.marks, Rw.mark]; rw [Cc.mark_marks T c, Rw.mark_marks T r]
end
theorem Cc.markA_marks (T : MText) : (c : Cc) → (d : c.T) → (k : Int) → c.marksA (c.markA T d k).1 = c.marksA d
  | .int _, _, _ => rfl
  | .bool, _, _ => rfl
  | .str, _, _ => rfl
  | .sl r, xs, k => Cc.mark_marks T (.sl r) xs k
theorem Rw.markA_marks (T : MText) : (r : Rw) → (d : r.T) → (k : Int) → r.marksA (r.markA T d k).1 = r.marksA d
  | .one c, d, k => Cc.markA_marks T c d k
  | .cons c r, d, k => by simp only [Rw.marksA, Rw.markA]; rw [Cc.markA_marks T c, Rw.markA_marks T r]

/-! ### The exact laws, step by step -/
section
variable {ρ : Type}
theorem lw_sz {b : Bool} {w : Nat} {l : Int} {Z A : Option ρ} (hl : szOk l = true) (hb : b = true) (h : ¬ l - w < 0 → szN w l = l - w → szOk (szN w l) = true → A = Z) : (bif szOk l && b then (bif decide (szN w l < 0) then Z else A) else none) = Z := by
  rw [hl, hb]
  simp only [szOk, Bool.and_eq_true, decide_eq_true_eq] at hl
  by_cases e : l - w < 0
  · rw [szN, if_pos e]; rfl
  · have e2 : szN w l = l - w := if_neg e
    rw [e2] at h ⊢
    rw [decide_eq_false e]
    refine h e rfl ?_
    unfold szOk
    rw [decide_eq_true (show 0 ≤ l - (w : Int) by omega), decide_eq_true (show l - (w : Int) ≤ 4611686018427387904 by omega)]; rfl
theorem lw_eq {α : Type} {x : α} {c : Bool} {F A Z : Option ρ} (hc : c = true) (h : A = Z) : (bif c then (bif !(eqD x x) then F else A) else none) = Z := by
  rw [hc, eqD_self]; exact h
theorem lw_bool {x : Bool} {F A Z : Option ρ} (h : A = Z) : (bif !(x == x) then F else A) = Z := by
  rw [beq_self_eq_true]; exact h
theorem lw_int2 {x y : Int} {F A Z : Option ρ} (hxy : x = y) (h : A = Z) : (bif x != y then F else A) = Z := by
  rw [hxy, bne_self_eq_false]; exact h
theorem lw_lt {k : Int} {F A Z : Option ρ} (hk : 0 ≤ k) (h : A = Z) : (bif decide (k < 0) then F else A) = Z := by
  rw [decide_eq_false (show ¬ k < 0 by omega)]; exact h
theorem lw_held {a b : Bool} {k : Int} {n : Nat} {A Z : Option ρ} (h1 : a = true) (h2 : b = true) (h3 : 0 ≤ k) (h4 : k + (n : Nat) ≤ 4611686018427387904) (h : A = Z) : (bif a && (b && decide ((0 : Int) ≤ k) && decide (k + ((n : Nat) : Int) ≤ 4611686018427387904)) then A else none) = Z := by
  rw [h1, h2, decide_eq_true h3, decide_eq_true h4]
  exact h
end
end Go.Ev
end
section
/- A result that is owned may be taken as one that is only read. -/
set_option linter.unusedVariables false
namespace Go.Ev
def noC : V → V
  | .l _ r xs => .l .no r xs
  | v => v
def noV : V → V
  | .a cs => .a (cs.map noC)
  | v => noC v
def noR : V → V
  | .t us => .t (us.map noV)
  | u => noV u
section
variable {w : World}
theorem vr_nO {r : Rw} {xs : List r.T} {c : Value} {F M : List Nat} {e e' : Bool} (h : SlT (RwR w e r) w e' r.n xs c F) (hM : ∀ b ∈ F, b ∈ M) : VR (Cx.ext (· ∈ M)) w (.l .no r xs) c :=
  ⟨F, h.loose, hM⟩
theorem CellR.no {v : V} {c : Value} {O M H : List Nat} (h : CellR w v c O M H) : ∃ M', CellR w (noC v) c [] M' [] ∧ ∀ x ∈ M', x ∈ M ∨ x ∈ O := by
  unfold CellR at h
  split at h
  · rename_i r xs
    obtain ⟨h1, _, _⟩ := h
    exact ⟨O, CellR.plain (vr_nO h1 (fun _ h => h)) (by simp [noC]) (by simp [noC]) (by simp [noC]), fun x hx => .inr hx⟩
  · rename_i r xs
    obtain ⟨F, h1, rfl, rfl, _⟩ := h
    refine ⟨F, CellR.plain (vr_nO h1 (fun _ h => h)) (by simp [noC]) (by simp [noC]) (by simp [noC]), fun x hx => ?_⟩
    cases F with
    | nil => cases hx
    | cons b F =>
      rcases List.mem_cons.1 hx with rfl | hx
      · exact .inr (by simp)
      · exact .inl (by simpa using hx)
  · rename_i r xs
    obtain ⟨h1, _, _⟩ := h
    exact ⟨O, CellR.plain (vr_nO h1 (fun _ h => h)) (by simp [noC]) (by simp [noC]) (by simp [noC]), fun x hx => .inr hx⟩
  · rename_i n1 n2 n3
    obtain ⟨h1, _, _⟩ := h
    cases v with
    | l o r xs =>
      cases o with
      | no => exact ⟨M, CellR.plain h1 (by simp [noC]) (by simp [noC]) (by simp [noC]), fun x hx => .inl hx⟩
      | deep => exact absurd rfl (n1 _ _)
      | top => exact absurd rfl (n2 _ _)
      | own => exact absurd rfl (n3 _ _)
    | _ => exact ⟨M, CellR.plain h1 (by simp [noC]) (by simp [noC]) (by simp [noC]), fun x hx => .inl hx⟩
theorem CellsR.no : ∀ {cs : List V} {vs : List Value} {O M H : List Nat}, CellsR w cs vs O M H → ∃ M', CellsR w (cs.map noC) vs [] M' [] ∧ ∀ x ∈ M', x ∈ M ∨ x ∈ O
  | [], _, _, _, _, ⟨h1, h2, h3, h4⟩ => ⟨[], ⟨h1, rfl, rfl, rfl⟩, fun _ h => (nomatch h)⟩
  | c :: cs, _, _, _, _, ⟨v, vs', O1, O2, M1, M2, H1, H2, h1, h2, h3, h4, h5, h6⟩ => by
    obtain ⟨A, a1, a2⟩ := h5.no
    obtain ⟨B, b1, b2⟩ := CellsR.no h6
    refine ⟨A ++ B, ⟨v, vs', [], [], A, B, [], [], h1, rfl, rfl, rfl, a1, b1⟩, fun x hx => ?_⟩
    rw [h2, h3]
    rcases List.mem_append.1 hx with hx | hx
    · rcases a2 x hx with h | h
      · exact .inl (List.mem_append.2 (.inl h))
      · exact .inr (List.mem_append.2 (.inl h))
    · rcases b2 x hx with h | h
      · exact .inl (List.mem_append.2 (.inr h))
      · exact .inr (List.mem_append.2 (.inr h))
def V.isIo : V → Bool
  | .io _ => true
  | _ => false
theorem ArgR.no {v : V} {c : Value} {O M H : List Nat} (h : ArgR w v c O M H) (hv : v.isIo = false) : ∃ M', ArgR w (noV v) c [] M' [] ∧ ∀ x ∈ M', x ∈ M ∨ x ∈ O := by
  unfold ArgR at h
  split at h
  · cases hv
  · rename_i cs
    obtain ⟨vs, rfl, h2⟩ := h
    obtain ⟨M', a1, a2⟩ := h2.no
    exact ⟨M', ⟨vs, rfl, a1⟩, a2⟩
  · rename_i n1 n2
    obtain ⟨M', a1, a2⟩ := h.no
    refine ⟨M', ?_, a2⟩
    cases v with
    | a cs => exact absurd rfl (n2 _)
    | io cs => exact absurd rfl (n1 _)
    | _ => exact a1
theorem ArgsR.no : ∀ {us : List V} {vs : List Value} {O M H : List Nat}, ArgsR w us vs O M H → us.all (fun u => !u.isIo) = true → ∃ M', ArgsR w (us.map noV) vs [] M' [] ∧ ∀ x ∈ M', x ∈ M ∨ x ∈ O
  | [], _, _, _, _, ⟨h1, h2, h3, h4⟩, _ => ⟨[], ⟨h1, rfl, rfl, rfl⟩, fun _ h => (nomatch h)⟩
  | c :: cs, _, _, _, _, ⟨v, vs', O1, O2, M1, M2, H1, H2, h1, h2, h3, h4, h5, h6⟩, hi => by
    simp only [List.all_cons, Bool.and_eq_true, Bool.not_eq_true'] at hi
    obtain ⟨A, a1, a2⟩ := h5.no hi.1
    obtain ⟨B, b1, b2⟩ := ArgsR.no h6 hi.2
    refine ⟨A ++ B, ⟨v, vs', [], [], A, B, [], [], h1, rfl, rfl, rfl, a1, b1⟩, fun x hx => ?_⟩
    rw [h2, h3]
    rcases List.mem_append.1 hx with hx | hx
    · rcases a2 x hx with h | h
      · exact .inl (List.mem_append.2 (.inl h))
      · exact .inr (List.mem_append.2 (.inl h))
    · rcases b2 x hx with h | h
      · exact .inl (List.mem_append.2 (.inr h))
      · exact .inr (List.mem_append.2 (.inr h))
def V.okNo : V → Bool
  | .t us => us.all (fun u => !u.isIo)
  | u => !u.isIo
theorem RetR.no {u : V} {c : Value} {O M H : List Nat} (h : RetR w u c O M H) (hu : u.okNo = true) : ∃ M', RetR w (noR u) c [] M' [] ∧ ∀ x ∈ M', x ∈ M ∨ x ∈ O := by
  unfold RetR at h
  split at h
  · obtain ⟨vs, rfl, h2⟩ := h
    obtain ⟨M', a1, a2⟩ := h2.no hu
    exact ⟨M', ⟨vs, rfl, a1⟩, a2⟩
  · rename_i n1
    cases u with
    | t us => exact absurd rfl (n1 _)
    | io cs => simp [V.okNo, V.isIo] at hu
    | a cs =>
      obtain ⟨M', a1, a2⟩ := ArgR.no h rfl
      exact ⟨M', a1, a2⟩
    | l o r xs =>
      obtain ⟨M', a1, a2⟩ := ArgR.no h rfl
      exact ⟨M', a1, a2⟩
    | _ =>
      obtain ⟨M', a1, a2⟩ := ArgR.no h rfl
      exact ⟨M', a1, a2⟩
end
theorem ArgsR.hsub' {w : World} {us : List V} {vs : List Value} {O M H : List Nat} (h : ArgsR w us vs O M H) : ∀ x ∈ H, x ∈ O := h.hsub
/-- The contract whose results are only read. -/
def S_no (G : Sm) : Sm := fun ws K => G ws fun q => bif q.1.okNo then K (noR q.1, q.2) else none
theorem OkFn.no {P : Program} {I : Nat → World → Prop} {g : FuncId} {f : Bool} {G : Sm} (h : OkFn P I g f G) : OkFn P I g false (S_no G) := by
  refine ⟨h.1, fun ws K r hr B0 w0 w N vs O M H hI hb hB hA hnd hO hM hH hN => ?_⟩
  refine Calls.mono (h.2 ws _ r hr B0 w0 w N vs O M H hI hb hB hA hnd hO hM hH hN) (fun e w' he => ?_)
  cases e with
  | returned c =>
    obtain ⟨q, hq, hk⟩ := he
    cases ho : q.1.okNo with
    | false => simp only [ho, cond_false] at hq; cases hq
    | true =>
      simp only [ho, cond_true] at hq
      refine ⟨_, hq, ?_⟩
      obtain ⟨⟨O1, M1, H1, O2, M2, H2, e1, e2, e3, e4, e5, e6⟩, k2, k3, k4⟩ := hk
      obtain ⟨M', a1, a2⟩ := e1.no ho
      refine ⟨⟨[], M', [], O2, M2, H2, a1, e2, ?_, fun x hx => e4 x (List.mem_append.2 (.inr (by simpa using hx))), fun x hx => ?_, fun x hx => ?_⟩, k2, k3, k4⟩
      · exact (List.nodup_append.1 e3).2.1
      · rcases List.mem_append.1 hx with hx | hx
        · rcases a2 x hx with hx | hx
          · obtain ⟨g1, g2, _⟩ := e5 x (List.mem_append.2 (.inl hx))
            exact ⟨g1, g2, fun h => by cases h⟩
          · obtain ⟨g1, g2⟩ := e4 x (List.mem_append.2 (.inl hx))
            exact ⟨.inr g1, g2, fun h => by cases h⟩
        · obtain ⟨g1, g2, _⟩ := e5 x (List.mem_append.2 (.inr hx))
          exact ⟨g1, g2, fun h => by cases h⟩
      · have hx' : x ∈ H2 := by simpa using hx
        obtain ⟨g1, g2⟩ := e6 x (List.mem_append.2 (.inr hx'))
        refine ⟨fun hm => ?_, g2⟩
        rcases List.mem_append.1 hm with hm | hm
        · rcases a2 x hm with hm | hm
          · exact g1 (List.mem_append.2 (.inl hm))
          · exact (List.nodup_append.1 e3).2.2 x hm x (e2.hsub' x hx') rfl
        · exact g1 (List.mem_append.2 (.inr hm))
  | _ => exact he
end Go.Ev
end
section
/- Contracts by signature, where a nil slice may stand for an empty one; results with what is handed back. -/
set_option linter.unusedVariables false
namespace Go.Ev
def Cc.decN : (c : Cc) → V → Option c.T
  | .sl _, .nl => some []
  | c, v => c.dec v
def Rw.decN : (r : Rw) → List V → Option r.T
  | .one c, [v] => c.decN v
  | .cons c r, v :: vs => match c.decN v with
    | some d => match r.decN vs with
      | some e => some (d, e)
      | none => none
    | none => none
  | _, _ => none
def Ak.decN : (k : Ak) → V → Option k.T
  | .a r, .a cs => r.decN cs
  | .l r, v => (Cc.sl r).decN v
  | k, v => k.dec v
def sgN : (ks : List Ak) → List V → Option (SgT ks)
  | [], [] => some ()
  | k :: ks, v :: vs => match k.decN v with
    | some d => match sgN ks vs with
      | some e => some (d, e)
      | none => none
    | none => none
  | _, _ => none
section
variable {w : World}
theorem CellR.nlN {r : Rw} {c : Value} {O M H : List Nat} (h : CellR w .nl c O M H) : CellR w (.l .no r []) c O M H := by
  obtain ⟨h1, h2, h3⟩ := h
  have h1' : c = .slice none 0 0 := h1
  exact ⟨⟨[], .inl ⟨rfl, rfl, none, 0, h1', fun _ => ⟨rfl, rfl⟩⟩, fun _ h => nomatch h⟩, h2, h3⟩
theorem Cc.decN_ok : (c : Cc) → {v : V} → {d : c.T} → c.decN v = some d → (v = .nl ∧ ∃ r, c.cell .no d = .l .no r []) ∨ v = c.cell .no d
  | .sl r, v, d, h => by
    cases v with
    | nl =>
      have h' : (some [] : Option (List r.T)) = some d := h
      cases h'
      exact .inl ⟨rfl, r, rfl⟩
    | _ => exact .inr (Cc.dec_ok (.sl r) h)
  | .int k, v, d, h => .inr (Cc.dec_ok (.int k) (by cases v <;> simpa [Cc.decN] using h))
  | .bool, v, d, h => .inr (Cc.dec_ok .bool (by cases v <;> simpa [Cc.decN] using h))
  | .str, v, d, h => .inr (Cc.dec_ok .str (by cases v <;> simpa [Cc.decN] using h))
theorem Cc.decN_R {c : Cc} {v : V} {d : c.T} (h : c.decN v = some d) {x : Value} {O M H : List Nat} (hc : CellR w v x O M H) : CellR w (c.cell .no d) x O M H := by
  rcases Cc.decN_ok c h with ⟨rfl, r, e⟩ | e
  · rw [e]; exact hc.nlN
  · rw [← e]; exact hc
theorem Rw.decN_R : (r : Rw) → {cs : List V} → {d : r.T} → r.decN cs = some d → ∀ {vs : List Value} {O M H : List Nat}, CellsR w cs vs O M H → CellsR w (r.cells .no d) vs O M H
  | .one c, cs, d, h, vs, O, M, H, hc => by
    match cs, h, hc with
    | [v], h, ⟨v1, vs', O1, O2, M1, M2, H1, H2, a1, a2, a3, a4, a5, a6⟩ =>
      exact ⟨v1, vs', O1, O2, M1, M2, H1, H2, a1, a2, a3, a4, Cc.decN_R (c := c) h a5, a6⟩
    | [], h, _ => simp [Rw.decN] at h
    | _ :: _ :: _, h, _ => simp [Rw.decN] at h
  | .cons c r, cs, d, h, vs, O, M, H, hc => by
    match cs, h, hc with
    | v :: us, h, ⟨v1, vs', O1, O2, M1, M2, H1, H2, a1, a2, a3, a4, a5, a6⟩ =>
      simp only [Rw.decN] at h
      split at h
      · rename_i d1 e1
        split at h
        · rename_i d2 e2
          cases h
          exact ⟨v1, vs', O1, O2, M1, M2, H1, H2, a1, a2, a3, a4, Cc.decN_R (c := c) e1 a5, Rw.decN_R r e2 a6⟩
        · cases h
      · cases h
    | [], h, _ => simp [Rw.decN] at h
theorem cell_argR {v : V} (h : ∀ cs, v ≠ .a cs) (h2 : ∀ cs, v ≠ .io cs) {x : Value} {O M H : List Nat} : ArgR w v x O M H ↔ CellR w v x O M H := by
  cases v with
  | a cs => exact absurd rfl (h cs)
  | io cs => exact absurd rfl (h2 cs)
  | _ => exact Iff.rfl
theorem Ak.decN_R : (k : Ak) → {v : V} → {d : k.T} → k.decN v = some d → ∀ {x : Value} {O M H : List Nat}, ArgR w v x O M H → ArgR w (k.v d) x O M H
  | .a r, v, d, h, x, O, M, H, ha => by
    cases v with
    | a cs =>
      obtain ⟨vs, h1, h2⟩ := ha
      exact ⟨vs, h1, Rw.decN_R r h h2⟩
    | _ => simp [Ak.decN, Ak.dec] at h
  | .l r, v, d, h, x, O, M, H, ha => by
    have h' : (Cc.sl r).decN v = some d := by cases v <;> simpa [Ak.decN] using h
    have hv : (∀ cs, v ≠ .a cs) ∧ (∀ cs, v ≠ .io cs) := by
      cases v with
      | a cs => simp [Cc.decN, Cc.dec] at h'
      | io cs => simp [Cc.decN, Cc.dec] at h'
      | _ => exact ⟨fun _ h => (nomatch h), fun _ h => (nomatch h)⟩
    exact (cell_argR (v := V.l .no r d) (fun _ h => nomatch h) (fun _ h => nomatch h)).2 (Cc.decN_R (c := .sl r) h' ((cell_argR hv.1 hv.2).1 ha))
  | .i, v, d, h, x, O, M, H, ha => by
    have h' : Ak.dec .i v = some d := by cases v <;> simpa [Ak.decN] using h
    rw [Ak.dec_ok .i h'] at ha; exact ha
  | .b, v, d, h, x, O, M, H, ha => by
    have h' : Ak.dec .b v = some d := by cases v <;> simpa [Ak.decN] using h
    rw [Ak.dec_ok .b h'] at ha; exact ha
  | .sc1 k, v, d, h, x, O, M, H, ha => by
    have h' : Ak.dec (.sc1 k) v = some d := by cases v <;> simpa [Ak.decN] using h
    rw [Ak.dec_ok (.sc1 k) h'] at ha; exact ha
  | .sh s, v, d, h, x, O, M, H, ha => by
    have h' : Ak.dec (.sh s) v = some d := by cases v <;> simpa [Ak.decN] using h
    rw [Ak.dec_ok (.sh s) h'] at ha; exact ha
theorem cell_noOwn (c : Cc) (d : c.T) : (c.cell .no d).isOwn = false := by cases c <;> rfl
theorem cells_noOwn : (r : Rw) → (d : r.T) → (r.cells .no d).any V.isOwn = false
  | .one c, d => by simp [Rw.cells, cell_noOwn]
  | .cons c r, d => by simp only [Rw.cells, List.any_cons, cell_noOwn, cells_noOwn r, Bool.or_self]
theorem Cc.decN_own {c : Cc} {v : V} {d : c.T} (h : c.decN v = some d) : v.isOwn = false := by
  rcases Cc.decN_ok c h with ⟨rfl, _⟩ | e
  · rfl
  · rw [e]; exact cell_noOwn c d
theorem Rw.decN_own : (r : Rw) → {cs : List V} → {d : r.T} → r.decN cs = some d → cs.any V.isOwn = false
  | .one c, cs, d, h => by
    match cs, h with
    | [v], h => simp only [List.any_cons, List.any_nil, Bool.or_false]; exact Cc.decN_own (c := c) h
    | [], h => simp [Rw.decN] at h
    | _ :: _ :: _, h => simp [Rw.decN] at h
  | .cons c r, cs, d, h => by
    match cs, h with
    | v :: us, h =>
      simp only [Rw.decN] at h
      split at h
      · rename_i d1 e1
        split at h
        · rename_i d2 e2
          simp only [List.any_cons, Cc.decN_own (c := c) e1, Rw.decN_own r e2, Bool.or_self]
        · cases h
      · cases h
    | [], h => simp [Rw.decN] at h
theorem Ak.decN_back (k : Ak) {v : V} {d : k.T} (h : k.decN v = some d) : v.back = (k.v d).back := by
  cases k with
  | a r =>
    cases v with
    | a cs =>
      have h' : r.decN cs = some d := h
      show cs.any V.isOwn = (r.cells .no d).any V.isOwn
      rw [Rw.decN_own r h', cells_noOwn]
    | _ => simp [Ak.decN, Ak.dec] at h
  | l r =>
    have h' : (Cc.sl r).decN v = some d := by cases v <;> simpa [Ak.decN] using h
    rcases Cc.decN_ok (.sl r) h' with ⟨rfl, _⟩ | e
    · rfl
    · rw [e]; rfl
  | i =>
    have h' : Ak.dec .i v = some d := by cases v <;> simpa [Ak.decN] using h
    rw [Ak.dec_ok .i h']
  | b =>
    have h' : Ak.dec .b v = some d := by cases v <;> simpa [Ak.decN] using h
    rw [Ak.dec_ok .b h']
  | sc1 k =>
    have h' : Ak.dec (.sc1 k) v = some d := by cases v <;> simpa [Ak.decN] using h
    rw [Ak.dec_ok (.sc1 k) h']
  | sh s =>
    have h' : Ak.dec (.sh s) v = some d := by cases v <;> simpa [Ak.decN] using h
    rw [Ak.dec_ok (.sh s) h']
end
/-- What holds of the one holds of the other, and the same comes back. -/
def NilLe (ws ws' : List V) : Prop := (∀ (w : World) (vs : List Value) (O M H : List Nat), ArgsR w ws vs O M H → ArgsR w ws' vs O M H) ∧ ∀ (vs : List Value), ptrs ws vs = ptrs ws' vs
theorem NilLe.rfl' (ws : List V) : NilLe ws ws := ⟨fun _ _ _ _ _ h => h, fun _ => rfl⟩
theorem sgN_le : (ks : List Ak) → {ws : List V} → {d : SgT ks} → sgN ks ws = some d → NilLe ws (sgV ks d)
  | [], [], d, h => NilLe.rfl' _
  | [], _ :: _, d, h => by simp [sgN] at h
  | k :: ks, [], d, h => by simp [sgN] at h
  | k :: ks, v :: ws, d, h => by
    simp only [sgN] at h
    split at h
    · rename_i d1 e1
      split at h
      · rename_i d2 e2
        cases h
        have ih := sgN_le ks e2
        refine ⟨fun w vs O M H ⟨x, xs, O1, O2, M1, M2, H1, H2, a1, a2, a3, a4, a5, a6⟩ => ⟨x, xs, O1, O2, M1, M2, H1, H2, a1, a2, a3, a4, Ak.decN_R k e1 a5, ih.1 w xs O2 M2 H2 a6⟩, fun vs => ?_⟩
        show ptrs (v :: ws) vs = ptrs (k.v d1 :: sgV ks d2) vs
        cases vs with
        | nil => rfl
        | cons x xs => simp only [ptrs, Ak.decN_back k e1, ih.2 xs]
      · cases h
    · cases h
theorem okN {P : Program} {I : Nat → World → Prop} {g : FuncId} {f : Bool} {S G : Sm} (hG : OkFn P I g f G) (h : ∀ ws K q, S ws K = some q → ∃ ws', NilLe ws ws' ∧ G ws' K = some q) : OkFn P I g f S :=
  ⟨hG.1, fun ws K r hr B0 w0 w N vs O M H hI hb hB hA => by
    obtain ⟨ws', hn, h3⟩ := h ws K r hr
    have := hG.2 ws' K r h3 B0 w0 w N vs O M H hI hb hB (hn.1 w vs O M H hA)
    rw [hn.2 vs]
    exact this⟩
/-- What goes on with a result that is only read. -/
def noK (K : Ret → Option Ret) : Ret → Option Ret := fun q => bif q.1.okNo then K (noR q.1, q.2) else none
def S_fnR (ks : List Ak) (pre : SgT ks → Bool) (f : SgT ks → Ret) : Sm := fun vs K => match sgN ks vs with
  | some d => bif pre d then K (f d) else none
  | none => none
theorem S_fnR_of {ks : List Ak} {pre : SgT ks → Bool} {f : SgT ks → Ret} {G : Sm} (h : ∀ d K, pre d = true → G (sgV ks d) K = K (f d)) : ∀ ws K q, S_fnR ks pre f ws K = some q → ∃ ws', NilLe ws ws' ∧ G ws' K = some q := by
  intro ws K q hr
  unfold S_fnR at hr
  split at hr
  · rename_i d hd
    cases hp : pre d with
    | false => rw [hp] at hr; cases hr
    | true => rw [hp] at hr; exact ⟨_, sgN_le ks hd, (h d K hp).trans hr⟩
  · cases hr
end Go.Ev
end
section
/- UTF-8, as lists of numbers. -/
set_option linter.unusedVariables false
namespace Go.Ev
open Go.RowKit
def isB (x : Int) : Bool := decide (0 ≤ x) && decide (x ≤ 255)
def fitB (xs : List Int) : Bool := Nat.ble xs.length 1048576 && xs.all isB
theorem fitB_len {xs : List Int} (h : fitB xs = true) : xs.length ≤ 1048576 := by
  unfold fitB at h; rw [Bool.and_eq_true] at h; exact Nat.le_of_ble_eq_true h.1
theorem fitB_mem {xs : List Int} (h : fitB xs = true) {x : Int} (hx : x ∈ xs) : 0 ≤ x ∧ x ≤ 255 := by
  unfold fitB at h; rw [Bool.and_eq_true, List.all_eq_true] at h
  have := h.2 x hx
  simpa [isB] using this
theorem fitB_get {xs : List Int} (h : fitB xs = true) (i : Nat) : 0 ≤ xs.getD i 0 ∧ xs.getD i 0 ≤ 255 := by
  rw [List.getD_eq_getElem?_getD]
  rcases Nat.lt_or_ge i xs.length with hi | hi
  · rw [List.getElem?_eq_getElem hi]; exact fitB_mem h (List.getElem_mem hi)
  · rw [List.getElem?_eq_none hi]; simp
theorem fitB_of {xs : List Int} (h1 : xs.length ≤ 1048576) (h2 : ∀ x ∈ xs, 0 ≤ x ∧ x ≤ 255) : fitB xs = true := by
  unfold fitB; rw [Bool.and_eq_true, List.all_eq_true]
  exact ⟨Nat.ble_eq_true_of_le h1, fun x hx => by simpa [isB] using h2 x hx⟩
theorem fitB_sub {xs ys : List Int} (h : fitB xs = true) (hl : ys.length ≤ xs.length) (hs : ∀ y ∈ ys, y ∈ xs) : fitB ys = true :=
  fitB_of (Nat.le_trans hl (fitB_len h)) (fun y hy => fitB_mem h (hs y hy))
theorem fitB_drop {xs : List Int} (h : fitB xs = true) (n : Nat) : fitB (xs.drop n) = true := fitB_sub h (by simp) (fun y hy => List.mem_of_mem_drop hy)
/-! ### Bits -/
theorem wrap64 {n : Nat} (h : n < 18446744073709551616) : IntKind.u64.wrap (n : Int) = n := by
  have e : IntKind.u64.wrap (n : Int) = (n : Int) % 18446744073709551616 := by
    simp only [IntKind.wrap, IntKind.bits, IntKind.signed]; simp
  rw [e]; omega
theorem ofInt_nat (k n : Nat) : BitVec.ofInt k (n : Int) = BitVec.ofNat k n := by
  apply BitVec.eq_of_toNat_eq
  simp [BitVec.toNat_ofInt, BitVec.toNat_ofNat]
theorem bor64 {a b : Nat} (ha : a < 18446744073709551616) (hb : b < 18446744073709551616) : bor .u64 a b = ((a ||| b : Nat) : Int) := by
  unfold bor
  have e : (BitVec.ofInt IntKind.u64.bits (a : Int) ||| BitVec.ofInt IntKind.u64.bits (b : Int)).toNat = a ||| b := by
    show (BitVec.ofInt 64 (a : Int) ||| BitVec.ofInt 64 (b : Int)).toNat = _
    rw [ofInt_nat, ofInt_nat, BitVec.toNat_or, BitVec.toNat_ofNat, BitVec.toNat_ofNat, Nat.mod_eq_of_lt (by omega), Nat.mod_eq_of_lt (by omega)]
  rw [e]; exact wrap64 (Nat.or_lt_two_pow (n := 64) ha hb)
theorem band64 {a b : Nat} (ha : a < 18446744073709551616) (hb : b < 18446744073709551616) : band .u64 a b = ((a &&& b : Nat) : Int) := by
  unfold band
  have e : (BitVec.ofInt IntKind.u64.bits (a : Int) &&& BitVec.ofInt IntKind.u64.bits (b : Int)).toNat = a &&& b := by
    show (BitVec.ofInt 64 (a : Int) &&& BitVec.ofInt 64 (b : Int)).toNat = _
    rw [ofInt_nat, ofInt_nat, BitVec.toNat_and, BitVec.toNat_ofNat, BitVec.toNat_ofNat, Nat.mod_eq_of_lt (by omega), Nat.mod_eq_of_lt (by omega)]
  rw [e]; exact wrap64 (Nat.and_lt_two_pow (n := 64) a hb)
def M8 : Nat := 9259542123273814144
def hiTab : Bool := (List.range 256).all fun b => (List.range 8).all fun i => ((b * 2 ^ (8 * i)) &&& M8 == 0) == decide (b < 128)
theorem hiTab_ok : hiTab = true := by kernel_rfl
theorem hi_ok {b i : Nat} (hb : b < 256) (hi : i < 8) : (b * 2 ^ (8 * i)) &&& M8 = 0 ↔ b < 128 := by
  have h := hiTab_ok
  unfold hiTab at h
  rw [List.all_eq_true] at h
  have h1 := h b (List.mem_range.2 hb)
  rw [List.all_eq_true] at h1
  have h2 := h1 i (List.mem_range.2 hi)
  simp only [beq_iff_eq] at h2
  rw [Bool.eq_iff_iff] at h2
  simpa using h2
theorem or_mask (a b m : Nat) : (a ||| b) &&& m = 0 ↔ a &&& m = 0 ∧ b &&& m = 0 := by
  rw [Nat.and_or_distrib_right, Nat.or_eq_zero_iff]
theorem shl64 {b : Nat} {i : Nat} (hb : b < 256) (hi : i < 8) : shlI .u64 (IntKind.wrap .u64 (b : Int)) ((8 * i : Nat) : Int) = ((b * 2 ^ (8 * i) : Nat) : Int) := by
  unfold shlI
  rw [wrap64 (by omega)]
  have e : ((b : Int) * 2 ^ (min ((8 * i : Nat) : Int).toNat IntKind.u64.bits)) = ((b * 2 ^ (8 * i) : Nat) : Int) := by
    have : min ((8 * i : Nat) : Int).toNat IntKind.u64.bits = 8 * i := by
      show min _ 64 = _
      rw [Int.toNat_natCast]; omega
    rw [this]; push_cast; rfl
  rw [e]
  refine wrap64 ?_
  have : 2 ^ (8 * i) ≤ 2 ^ 56 := Nat.pow_le_pow_right (by omega) (by omega)
  have h2 : b * 2 ^ (8 * i) ≤ 255 * 2 ^ 56 := Nat.mul_le_mul (by omega) this
  have : (255 * 2 ^ 56 : Nat) < 18446744073709551616 := by decide
  omega
theorem shl_lt {b i : Nat} (hb : b < 256) (hi : i < 8) : b * 2 ^ (8 * i) < 18446744073709551616 := by
  have : 2 ^ (8 * i) ≤ 2 ^ 56 := Nat.pow_le_pow_right (by omega) (by omega)
  have h2 : b * 2 ^ (8 * i) ≤ 255 * 2 ^ 56 := Nat.mul_le_mul (by omega) this
  have : (255 * 2 ^ 56 : Nat) < 18446744073709551616 := by decide
  omega

/-! ### Runes -/
def lo3 (b : Int) : Int := if b = 224 then 160 else 128
def hi3 (b : Int) : Int := if b = 237 then 159 else 191
def lo4 (b : Int) : Int := if b = 240 then 144 else 128
def hi4 (b : Int) : Int := if b = 244 then 143 else 191
/-- The size of the rune in front; 0 where there is none. -/
def runeSz (xs : List Int) : Nat :=
  if xs.length = 0 then 0
  else if xs.getD 0 0 < 128 then 1
  else if xs.getD 0 0 < 194 then 0
  else if xs.getD 0 0 < 224 then (if 2 ≤ xs.length ∧ 128 ≤ xs.getD 1 0 ∧ xs.getD 1 0 ≤ 191 then 2 else 0)
  else if xs.getD 0 0 < 240 then (if 3 ≤ xs.length ∧ lo3 (xs.getD 0 0) ≤ xs.getD 1 0 ∧ xs.getD 1 0 ≤ hi3 (xs.getD 0 0) ∧ 128 ≤ xs.getD 2 0 ∧ xs.getD 2 0 ≤ 191 then 3 else 0)
  else if xs.getD 0 0 < 245 then (if 4 ≤ xs.length ∧ lo4 (xs.getD 0 0) ≤ xs.getD 1 0 ∧ xs.getD 1 0 ≤ hi4 (xs.getD 0 0) ∧ 128 ≤ xs.getD 2 0 ∧ xs.getD 2 0 ≤ 191 ∧ 128 ≤ xs.getD 3 0 ∧ xs.getD 3 0 ≤ 191 then 4 else 0)
  else 0
theorem runeSz_le (xs : List Int) : runeSz xs ≤ xs.length := by
  unfold runeSz; repeat' split
  all_goals omega
theorem runeSz_le4 (xs : List Int) : runeSz xs ≤ 4 := by
  unfold runeSz; repeat' split
  all_goals omega
def valid (xs : List Int) : Bool := if h : runeSz xs = 0 then xs.isEmpty else valid (xs.drop (runeSz xs))
termination_by xs.length
decreasing_by
  have := runeSz_le xs
  simp; omega
theorem valid_nil : valid [] = true := by unfold valid; rfl
theorem valid_stop {xs : List Int} (h : runeSz xs = 0) (hl : 0 < xs.length) : valid xs = false := by
  unfold valid; rw [dif_pos h]; cases xs with
  | nil => simp at hl
  | cons _ _ => rfl
theorem valid_step {xs : List Int} (h : runeSz xs ≠ 0) : valid xs = valid (xs.drop (runeSz xs)) := by
  conv => lhs; unfold valid
  rw [dif_neg h]
theorem runeSz_ascii {xs : List Int} (hl : 0 < xs.length) (h : xs.getD 0 0 < 128) : runeSz xs = 1 := by
  unfold runeSz; rw [if_neg (by omega), if_pos h]
theorem getD_drop (xs : List Int) (n i : Nat) : (xs.drop n).getD i 0 = xs.getD (n + i) 0 := by
  simp [List.getD_eq_getElem?_getD, List.getElem?_drop]
theorem valid_drop {xs : List Int} : ∀ (n : Nat), n ≤ xs.length → (∀ i, i < n → xs.getD i 0 < 128) → valid (xs.drop n) = valid xs
  | 0, _, _ => rfl
  | n + 1, hl, h => by
    have ih := valid_drop n (by omega) (fun i hi => h i (by omega))
    rw [← ih]
    have e : runeSz (xs.drop n) = 1 := runeSz_ascii (by simp; omega) (by rw [getD_drop]; exact h _ (by omega))
    rw [valid_step (xs := xs.drop n) (by rw [e]; omega), e, List.drop_drop]
def fsz (b : Int) : Int := IntKind.wrap .i64 (band .u8 (List.getD utfFirst (Int.toNat b) 0) 7)
def fsh (b : Int) : Int := shrI .u8 (List.getD utfFirst (Int.toNat b) 0) 4
def fac (b : Int) : Int × Int := List.getD utfAccept (Int.toNat (fsh b)) (0, 0)
def firstChk (b : Int) : Bool := decide (0 ≤ fsh b) && decide (fsh b < 16) &&
  (if b < 128 then true else if b < 194 ∨ 245 ≤ b then fsz b == 1 else if b < 224 then fsz b == 2 && fac b == (128, 191) else if b < 240 then fsz b == 3 && fac b == (lo3 b, hi3 b) else fsz b == 4 && fac b == (lo4 b, hi4 b))
theorem firstTab_ok : ((List.range 256).all fun n => firstChk n) = true := by kernel_rfl
theorem first_at {b : Int} (h0 : 0 ≤ b) (h1 : b ≤ 255) : firstChk b = true := by
  obtain ⟨n, rfl⟩ : ∃ n : Nat, b = n := ⟨b.toNat, by omega⟩
  have h := firstTab_ok
  rw [List.all_eq_true] at h
  exact h n (List.mem_range.2 (by omega))
theorem first_sh {b : Int} (h0 : 0 ≤ b) (h1 : b ≤ 255) : 0 ≤ fsh b ∧ fsh b < 16 := by
  have h := first_at h0 h1
  unfold firstChk at h
  simp only [Bool.and_eq_true, decide_eq_true_eq] at h
  exact h.1
theorem first_1 {b : Int} (h0 : 128 ≤ b) (h1 : b ≤ 255) (h2 : b < 194 ∨ 245 ≤ b) : fsz b = 1 := by
  have h := first_at (by omega) h1
  unfold firstChk at h
  rw [if_neg (by omega), if_pos h2] at h
  simp only [Bool.and_eq_true, beq_iff_eq] at h
  exact h.2
theorem first_2 {b : Int} (h0 : 194 ≤ b) (h1 : b < 224) : fsz b = 2 ∧ fac b = (128, 191) := by
  have h := first_at (b := b) (by omega) (by omega)
  unfold firstChk at h
  rw [if_neg (by omega), if_neg (by omega), if_pos h1] at h
  simp only [Bool.and_eq_true, beq_iff_eq] at h
  exact h.2
theorem first_3 {b : Int} (h0 : 224 ≤ b) (h1 : b < 240) : fsz b = 3 ∧ fac b = (lo3 b, hi3 b) := by
  have h := first_at (b := b) (by omega) (by omega)
  unfold firstChk at h
  rw [if_neg (by omega), if_neg (by omega), if_neg (by omega), if_pos h1] at h
  simp only [Bool.and_eq_true, beq_iff_eq] at h
  exact h.2
theorem first_4 {b : Int} (h0 : 240 ≤ b) (h1 : b < 245) : fsz b = 4 ∧ fac b = (lo4 b, hi4 b) := by
  have h := first_at (b := b) (by omega) (by omega)
  unfold firstChk at h
  rw [if_neg (by omega), if_neg (by omega), if_neg (by omega), if_neg (by omega)] at h
  simp only [Bool.and_eq_true, beq_iff_eq] at h
  exact h.2
theorem first_len : utfFirst.length = 256 := by kernel_rfl
theorem accept_len : utfAccept.length = 16 := by kernel_rfl
def textOk (xs : List Int) : Bool := Nat.ble xs.length 400 && valid xs
theorem wrap8 {n : Int} (h0 : 0 ≤ n) (h1 : n ≤ 255) : IntKind.u8.wrap n = n := by
  have e : IntKind.u8.wrap n = n % 256 := by
    simp only [IntKind.wrap, IntKind.bits, IntKind.signed]; simp
  rw [e]; omega
/-- The bytes of a rune. -/
def encD (r : Int) : List Int :=
  if r < 0 ∨ 1114111 < r ∨ (55296 ≤ r ∧ r ≤ 57343) then []
  else if r < 128 then [r]
  else if r < 2048 then [192 + r / 64, 128 + r % 64]
  else if r < 65536 then [224 + r / 4096, 128 + r / 64 % 64, 128 + r % 64]
  else [240 + r / 262144, 128 + r / 4096 % 64, 128 + r / 64 % 64, 128 + r % 64]
def contB (b : Int) : Bool := decide (128 ≤ b) && decide (b ≤ 191)
def contChk (b : Int) : Bool := (band .u8 b 192 != 128) == !contB b
theorem contTab_ok : ((List.range 256).all fun n => contChk n) = true := by kernel_rfl
theorem cont_at {b : Int} (h0 : 0 ≤ b) (h1 : b ≤ 255) : (band .u8 b 192 != 128) = !contB b := by
  obtain ⟨n, rfl⟩ : ∃ n : Nat, b = n := ⟨b.toNat, by omega⟩
  have h := contTab_ok
  rw [List.all_eq_true] at h
  have := h n (List.mem_range.2 (by omega))
  simpa [contChk] using this
/-- Is it a boundary of a text? -/
def isCutD (t : List Int) (k : Int) : Bool := k == ((t.length : Nat) : Int) || (decide (0 ≤ k) && decide (k < ((t.length : Nat) : Int)) && !contB (t.getD k.toNat 0))
/-- All boundaries, from here on. -/
def bounds (xs : List Int) (k : Int) : List Int := if h : runeSz xs = 0 then [k] else k :: bounds (xs.drop (runeSz xs)) (k + (runeSz xs : Nat))
termination_by xs.length
decreasing_by
  have := runeSz_le xs
  simp; omega
theorem bounds_stop {xs : List Int} (h : runeSz xs = 0) (k : Int) : bounds xs k = [k] := by unfold bounds; rw [dif_pos h]
theorem bounds_step {xs : List Int} (h : runeSz xs ≠ 0) (k : Int) : bounds xs k = k :: bounds (xs.drop (runeSz xs)) (k + (runeSz xs : Nat)) := by
  conv => lhs; unfold bounds
  rw [dif_neg h]
theorem rune_cont {xs : List Int} (h : runeSz xs ≠ 0) : contB (xs.getD 0 0) = false ∧ ∀ j, 0 < j → j < runeSz xs → contB (xs.getD j 0) = true := by
  have key : (xs.getD 0 0 < 128 ∨ 191 < xs.getD 0 0) ∧ (1 < runeSz xs → 128 ≤ xs.getD 1 0 ∧ xs.getD 1 0 ≤ 191) ∧ (2 < runeSz xs → 128 ≤ xs.getD 2 0 ∧ xs.getD 2 0 ≤ 191) ∧ (3 < runeSz xs → 128 ≤ xs.getD 3 0 ∧ xs.getD 3 0 ≤ 191) := by
    revert h
    unfold runeSz lo3 hi3 lo4 hi4
    repeat' split
    all_goals (intro h; first | omega | (refine ⟨?_, ?_, ?_, ?_⟩ <;> omega))
  obtain ⟨h0, h1, h2, h3⟩ := key
  refine ⟨?_, fun j hj0 hj => ?_⟩
  · unfold contB
    rcases h0 with h0 | h0
    · rw [decide_eq_false (show ¬ 128 ≤ xs.getD 0 0 by omega)]; rfl
    · rw [decide_eq_false (show ¬ xs.getD 0 0 ≤ 191 by omega), Bool.and_false]
  · have h4 := runeSz_le4 xs
    have hc : j = 1 ∨ j = 2 ∨ j = 3 := by omega
    unfold contB
    rcases hc with rfl | rfl | rfl
    · obtain ⟨a, b⟩ := h1 hj; rw [decide_eq_true a, decide_eq_true b]; rfl
    · obtain ⟨a, b⟩ := h2 hj; rw [decide_eq_true a, decide_eq_true b]; rfl
    · obtain ⟨a, b⟩ := h3 hj; rw [decide_eq_true a, decide_eq_true b]; rfl
theorem bounds_has (k : Int) : ∀ (n : Nat) (xs : List Int) (k0 : Int), xs.length ≤ n → valid xs = true → ((bounds xs k0).any (fun c => c == k)) = isCutD xs (k - k0)
  | n, xs, k0, hn, hv => by
    by_cases h : runeSz xs = 0
    · have hx : xs = [] := by
        cases xs with
        | nil => rfl
        | cons a l => rw [valid_stop h (by simp)] at hv; cases hv
      subst hx
      rw [bounds_stop h]
      unfold isCutD
      simp only [List.any_cons, List.any_nil, Bool.or_false, List.length_nil, Int.natCast_zero]
      by_cases e : k0 = k
      · subst e; simp
      · have e2 : ¬ k - k0 = 0 := by omega
        have e3 : ¬ (0 ≤ k - k0 ∧ k - k0 < 0) := by omega
        rw [beq_eq_false_iff_ne.2 e, beq_eq_false_iff_ne.2 e2]
        by_cases e4 : 0 ≤ k - k0
        · rw [decide_eq_false (show ¬ k - k0 < 0 by omega)]; simp
        · rw [decide_eq_false e4]; simp
    · have hle := runeSz_le xs
      obtain ⟨c0, cj⟩ := rune_cont h
      rw [valid_step h] at hv
      cases n with
      | zero => omega
      | succ n =>
      rw [bounds_step h, List.any_cons, bounds_has k n (xs.drop (runeSz xs)) (k0 + (runeSz xs : Nat)) (by simp; omega) hv]
      unfold isCutD
      rw [List.length_drop, getD_drop]
      by_cases e : k0 = k
      · subst e
        rw [Int.sub_self, decide_eq_true (show (0 : Int) ≤ 0 by omega), decide_eq_true (show (0 : Int) < ((xs.length : Nat) : Int) by omega), show (0 : Int).toNat = 0 from rfl, c0]
        simp
      · rw [beq_eq_false_iff_ne.2 e, Bool.false_or]
        by_cases e1 : k - k0 < 0
        · rw [decide_eq_false (show ¬ 0 ≤ k - k0 by omega), decide_eq_false (show ¬ 0 ≤ k - (k0 + (runeSz xs : Nat)) by omega), beq_eq_false_iff_ne.2 (show ¬ k - k0 = ((xs.length : Nat) : Int) by omega), beq_eq_false_iff_ne.2 (show ¬ k - (k0 + (runeSz xs : Nat)) = ((xs.length - runeSz xs : Nat) : Int) by omega)]; rfl
        by_cases e2 : k - k0 < (runeSz xs : Nat)
        · have hc := cj (k - k0).toNat (by omega) (by omega)
          rw [decide_eq_false (show ¬ 0 ≤ k - (k0 + (runeSz xs : Nat)) by omega), hc, beq_eq_false_iff_ne.2 (show ¬ k - k0 = ((xs.length : Nat) : Int) by omega), beq_eq_false_iff_ne.2 (show ¬ k - (k0 + (runeSz xs : Nat)) = ((xs.length - runeSz xs : Nat) : Int) by omega)]
          simp
        · have ei : runeSz xs + (k - (k0 + (runeSz xs : Nat))).toNat = (k - k0).toNat := by omega
          rw [ei, decide_eq_true (show 0 ≤ k - (k0 + (runeSz xs : Nat)) by omega), decide_eq_true (show 0 ≤ k - k0 by omega)]
          have e5 : (k - (k0 + (runeSz xs : Nat)) == ((xs.length - runeSz xs : Nat) : Int)) = (k - k0 == ((xs.length : Nat) : Int)) := by
            rw [Bool.eq_iff_iff, beq_iff_eq, beq_iff_eq]; omega
          have e6 : decide (k - (k0 + (runeSz xs : Nat)) < ((xs.length - runeSz xs : Nat) : Int)) = decide (k - k0 < ((xs.length : Nat) : Int)) := by
            rw [Bool.eq_iff_iff, decide_eq_true_iff, decide_eq_true_iff]; omega
          rw [e5, e6]
  termination_by n => n
def cutsD (xs : List Int) : List Int := bif textOk xs then bounds xs 0 else []
def cutOk (xs : List Int) (k : Int) : Bool := textOk xs && isCutD xs k
theorem cutsD_has (xs : List Int) (k : Int) : (cutsD xs).any (fun c => c == k) = cutOk xs k := by
  unfold cutsD cutOk
  cases h : textOk xs with
  | false => rfl
  | true =>
    unfold textOk at h
    rw [Bool.and_eq_true] at h
    have := bounds_has k _ xs 0 (Nat.le_refl _) h.2
    rw [Int.sub_zero] at this
    exact this
theorem bounds_ne (xs : List Int) (k : Int) : 0 < (bounds xs k).length := by
  by_cases h : runeSz xs = 0
  · rw [bounds_stop h]; simp
  · rw [bounds_step h]; simp
def runeVal (xs : List Int) : Int :=
  if runeSz xs = 0 then -1
  else if runeSz xs = 1 then xs.getD 0 0
  else if runeSz xs = 2 then 64 * (xs.getD 0 0 - 192) + xs.getD 1 0 - 128
  else if runeSz xs = 3 then 64 * (64 * (xs.getD 0 0 - 224) + xs.getD 1 0 - 128) + xs.getD 2 0 - 128
  else 64 * (64 * (64 * (xs.getD 0 0 - 240) + xs.getD 1 0 - 128) + xs.getD 2 0 - 128) + xs.getD 3 0 - 128
theorem bstr_toList (xs : List Int) : (bstr xs).toList = xs.map (fun n => UInt8.ofNat n.toNat) := by
  rw [Lib.toList_data]; rfl
theorem u8_inj {a b : Int} (ha : 0 ≤ a ∧ a ≤ 255) (hb : 0 ≤ b ∧ b ≤ 255) (h : UInt8.ofNat a.toNat = UInt8.ofNat b.toNat) : a = b := by
  have h1 := congrArg UInt8.toNat h
  rw [UInt8.toNat_ofNat', UInt8.toNat_ofNat'] at h1
  omega
theorem map_u8_inj : ∀ {xs ys : List Int}, (∀ x ∈ xs, 0 ≤ x ∧ x ≤ 255) → (∀ y ∈ ys, 0 ≤ y ∧ y ≤ 255) → xs.map (fun n => UInt8.ofNat n.toNat) = ys.map (fun n => UInt8.ofNat n.toNat) → xs = ys
  | [], [], _, _, _ => rfl
  | [], _ :: _, _, _, h => by simp at h
  | _ :: _, [], _, _, h => by simp at h
  | x :: xs, y :: ys, hx, hy, h => by
    simp only [List.map_cons, List.cons.injEq] at h
    rw [u8_inj (hx x (by simp)) (hy y (by simp)) h.1, map_u8_inj (fun a ha => hx a (by simp [ha])) (fun a ha => hy a (by simp [ha])) h.2]
/-- Two strings of bytes are equal if the bytes are. -/
theorem bstr_eq {xs ys : List Int} (hx : ∀ x ∈ xs, 0 ≤ x ∧ x ≤ 255) (hy : ∀ y ∈ ys, 0 ≤ y ∧ y ≤ 255) : ((bstr xs).toList == (bstr ys).toList) = decide (xs = ys) := by
  rw [Bool.eq_iff_iff, beq_iff_eq, decide_eq_true_iff, bstr_toList, bstr_toList]
  exact ⟨map_u8_inj hx hy, fun h => by rw [h]⟩
theorem encD_byte (r : Int) : ∀ x ∈ encD r, 0 ≤ x ∧ x ≤ 255 := by
  intro x hx
  unfold encD at hx
  split at hx
  · cases hx
  split at hx
  · simp at hx; omega
  split at hx
  · simp at hx; rcases hx with rfl | rfl <;> omega
  split at hx
  · simp at hx; rcases hx with rfl | rfl | rfl <;> omega
  · simp at hx; rcases hx with rfl | rfl | rfl | rfl <;> omega
theorem runeSz0 {xs : List Int} (h : runeSz xs = 0) : ((runeVal xs, ((runeSz xs : Nat) : Int)) : Int × Int) = (-1, 0) := by
  unfold runeVal; rw [h]; rfl
theorem runeVal1 {xs : List Int} (h : runeSz xs = 1) : runeVal xs = xs.getD 0 0 := by
  unfold runeVal; rw [h, if_neg (by omega), if_pos rfl]
theorem runeVal2 {xs : List Int} (h : runeSz xs = 2) : runeVal xs = 64 * (xs.getD 0 0 - 192) + xs.getD 1 0 - 128 := by
  unfold runeVal; rw [h, if_neg (by omega), if_neg (by omega), if_pos rfl]
theorem runeVal3 {xs : List Int} (h : runeSz xs = 3) : runeVal xs = 64 * (64 * (xs.getD 0 0 - 224) + xs.getD 1 0 - 128) + xs.getD 2 0 - 128 := by
  unfold runeVal; rw [h, if_neg (by omega), if_neg (by omega), if_neg (by omega), if_pos rfl]
theorem runeVal4 {xs : List Int} (h : runeSz xs = 4) : runeVal xs = 64 * (64 * (64 * (xs.getD 0 0 - 240) + xs.getD 1 0 - 128) + xs.getD 2 0 - 128) + xs.getD 3 0 - 128 := by
  unfold runeVal; rw [h, if_neg (by omega), if_neg (by omega), if_neg (by omega), if_neg (by omega)]
theorem dec1 {b : Int} {t : List Int} (h0 : 0 ≤ b) (h : b < 192) : (if encD b = [b] then (b, (1 : Int)) else (-1, 0)) = (runeVal (b :: t), ((runeSz (b :: t) : Nat) : Int)) := by
  have e : runeSz (b :: t) = if b < 128 then 1 else 0 := by
    unfold runeSz
    rw [if_neg (by simp)]
    show (if b < 128 then 1 else if b < 194 then 0 else _) = _
    by_cases c : b < 128
    · rw [if_pos c, if_pos c]
    · rw [if_neg c, if_neg c, if_pos (by omega)]
  by_cases c : b < 128
  · rw [if_pos c] at e
    rw [runeVal1 e, e, if_pos (by unfold encD; rw [if_neg (by omega), if_pos c])]; rfl
  · rw [if_neg c] at e
    rw [runeSz0 e, if_neg]
    unfold encD
    rw [if_neg (by omega), if_neg c, if_pos (by omega)]
    simp
theorem dec2 {a b : Int} {t : List Int} (h0 : 192 ≤ a) (h : a < 224) (hb : 0 ≤ b ∧ b ≤ 255) : (if encD (64 * (a - 192) + b - 128) = [a, b] then (64 * (a - 192) + b - 128, (2 : Int)) else (-1, 0)) = (runeVal (a :: b :: t), ((runeSz (a :: b :: t) : Nat) : Int)) := by
  have e : runeSz (a :: b :: t) = if 194 ≤ a ∧ 128 ≤ b ∧ b ≤ 191 then 2 else 0 := by
    unfold runeSz
    rw [if_neg (by simp)]
    show (if a < 128 then 1 else if a < 194 then 0 else if a < 224 then (if 2 ≤ (a :: b :: t).length ∧ 128 ≤ b ∧ b ≤ 191 then 2 else 0) else _) = _
    rw [if_neg (by omega)]
    by_cases c : a < 194
    · rw [if_pos c, if_neg (by omega)]
    · rw [if_neg c, if_pos h]
      by_cases c2 : 128 ≤ b ∧ b ≤ 191
      · rw [if_pos ⟨by simp, c2⟩, if_pos ⟨by omega, c2⟩]
      · rw [if_neg (fun h => c2 h.2), if_neg (fun h => c2 h.2)]
  by_cases c : 194 ≤ a ∧ 128 ≤ b ∧ b ≤ 191
  · rw [if_pos c] at e
    rw [runeVal2 e, e, if_pos]; rfl
    unfold encD
    rw [if_neg (by omega), if_neg (by omega), if_pos (by omega)]
    congr 1
    · omega
    · congr 1; omega
  · rw [if_neg c] at e
    rw [runeSz0 e, if_neg]
    intro he
    unfold encD at he
    split at he
    · cases he
    split at he
    · simp at he
    split at he
    · simp only [List.cons.injEq, and_true] at he; omega
    split at he
    · simp at he
    · simp at he
theorem dec3 {a b d : Int} {t : List Int} (h0 : 224 ≤ a) (h : a < 240) (hb : 0 ≤ b ∧ b ≤ 255) (hd : 0 ≤ d ∧ d ≤ 255) : (if encD (64 * (64 * (a - 224) + b - 128) + d - 128) = [a, b, d] then (64 * (64 * (a - 224) + b - 128) + d - 128, (3 : Int)) else (-1, 0)) = (runeVal (a :: b :: d :: t), ((runeSz (a :: b :: d :: t) : Nat) : Int)) := by
  have e : runeSz (a :: b :: d :: t) = if lo3 a ≤ b ∧ b ≤ hi3 a ∧ 128 ≤ d ∧ d ≤ 191 then 3 else 0 := by
    unfold runeSz
    rw [if_neg (by simp)]
    show (if a < 128 then 1 else if a < 194 then 0 else if a < 224 then _ else if a < 240 then (if 3 ≤ (a :: b :: d :: t).length ∧ lo3 a ≤ b ∧ b ≤ hi3 a ∧ 128 ≤ d ∧ d ≤ 191 then 3 else 0) else _) = _
    rw [if_neg (by omega), if_neg (by omega), if_neg (by omega), if_pos h]
    by_cases c2 : lo3 a ≤ b ∧ b ≤ hi3 a ∧ 128 ≤ d ∧ d ≤ 191
    · rw [if_pos ⟨by simp, c2⟩, if_pos c2]
    · rw [if_neg (fun h => c2 h.2), if_neg c2]
  by_cases c : lo3 a ≤ b ∧ b ≤ hi3 a ∧ 128 ≤ d ∧ d ≤ 191
  · rw [if_pos c] at e
    have hlh : 128 ≤ b ∧ b ≤ 191 ∧ (a = 224 → 160 ≤ b) ∧ (a = 237 → b ≤ 159) := by
      unfold lo3 hi3 at c
      split at c <;> split at c <;> omega
    rw [runeVal3 e, e, if_pos]; rfl
    unfold encD
    rw [if_neg (by omega), if_neg (by omega), if_neg (by omega), if_pos (by omega)]
    congr 1
    · omega
    · congr 1
      · omega
      · congr 1; omega
  · rw [if_neg c] at e
    rw [runeSz0 e, if_neg]
    intro he
    unfold encD at he
    split at he
    · cases he
    split at he
    · simp at he
    split at he
    · simp at he
    split at he
    · simp only [List.cons.injEq, and_true] at he
      apply c
      unfold lo3 hi3
      split <;> split <;> omega
    · simp at he
theorem dec4 {a b d f : Int} {t : List Int} (h0 : 240 ≤ a) (h : a ≤ 255) (hb : 0 ≤ b ∧ b ≤ 255) (hd : 0 ≤ d ∧ d ≤ 255) (hf : 0 ≤ f ∧ f ≤ 255) : (if encD (64 * (64 * (64 * (a - 240) + b - 128) + d - 128) + f - 128) = [a, b, d, f] then (64 * (64 * (64 * (a - 240) + b - 128) + d - 128) + f - 128, (4 : Int)) else (-1, 0)) = (runeVal (a :: b :: d :: f :: t), ((runeSz (a :: b :: d :: f :: t) : Nat) : Int)) := by
  have e : runeSz (a :: b :: d :: f :: t) = if a < 245 ∧ lo4 a ≤ b ∧ b ≤ hi4 a ∧ 128 ≤ d ∧ d ≤ 191 ∧ 128 ≤ f ∧ f ≤ 191 then 4 else 0 := by
    unfold runeSz
    rw [if_neg (by simp)]
    show (if a < 128 then 1 else if a < 194 then 0 else if a < 224 then _ else if a < 240 then _ else if a < 245 then (if 4 ≤ (a :: b :: d :: f :: t).length ∧ lo4 a ≤ b ∧ b ≤ hi4 a ∧ 128 ≤ d ∧ d ≤ 191 ∧ 128 ≤ f ∧ f ≤ 191 then 4 else 0) else 0) = _
    rw [if_neg (by omega), if_neg (by omega), if_neg (by omega), if_neg (by omega)]
    by_cases c1 : a < 245
    · rw [if_pos c1]
      by_cases c2 : lo4 a ≤ b ∧ b ≤ hi4 a ∧ 128 ≤ d ∧ d ≤ 191 ∧ 128 ≤ f ∧ f ≤ 191
      · rw [if_pos ⟨by simp, c2⟩, if_pos ⟨c1, c2⟩]
      · rw [if_neg (fun h => c2 h.2), if_neg (fun h => c2 h.2)]
    · rw [if_neg c1, if_neg (fun h => c1 h.1)]
  by_cases c : a < 245 ∧ lo4 a ≤ b ∧ b ≤ hi4 a ∧ 128 ≤ d ∧ d ≤ 191 ∧ 128 ≤ f ∧ f ≤ 191
  · rw [if_pos c] at e
    have hlh : 128 ≤ b ∧ b ≤ 191 ∧ (a = 240 → 144 ≤ b) ∧ (a = 244 → b ≤ 143) := by
      unfold lo4 hi4 at c
      split at c <;> split at c <;> omega
    rw [runeVal4 e, e, if_pos]; rfl
    unfold encD
    rw [if_neg (by omega), if_neg (by omega), if_neg (by omega), if_neg (by omega)]
    congr 1
    · omega
    · congr 1
      · omega
      · congr 1
        · omega
        · congr 1; omega
  · rw [if_neg c] at e
    rw [runeSz0 e, if_neg]
    intro he
    unfold encD at he
    split at he
    · cases he
    split at he
    · simp at he
    split at he
    · simp at he
    split at he
    · simp at he
    · simp only [List.cons.injEq, and_true] at he
      apply c
      unfold lo4 hi4
      split <;> split <;> omega
theorem short4 {xs : List Int} (h : 240 ≤ xs.getD 0 0) (hl : xs.length < 4) : runeSz xs = 0 := by
  unfold runeSz; repeat' split
  all_goals omega
theorem short3 {xs : List Int} (h : 224 ≤ xs.getD 0 0) (h2 : xs.getD 0 0 < 240) (hl : xs.length < 3) : runeSz xs = 0 := by
  unfold runeSz; repeat' split
  all_goals omega
theorem short2 {xs : List Int} (h : 192 ≤ xs.getD 0 0) (h2 : xs.getD 0 0 < 224) (hl : xs.length < 2) : runeSz xs = 0 := by
  unfold runeSz; repeat' split
  all_goals omega
def inD (d : List Int) (k : Int) : Bool := decide (0 ≤ k) && decide (k < ((d.length : Nat) : Int))
def szAt (d : List Int) (k : Int) : Int := bif inD d k then ((runeSz (d.drop k.toNat) : Nat) : Int) else 0
def valAt (d : List Int) (k : Int) : Int := bif inD d k then runeVal (d.drop k.toNat) else -1
theorem szAt_in {d : List Int} {k : Int} (h0 : 0 ≤ k) (h1 : k < ((d.length : Nat) : Int)) : szAt d k = ((runeSz (d.drop k.toNat) : Nat) : Int) := by
  unfold szAt inD; rw [decide_eq_true h0, decide_eq_true h1]; rfl
/-- The starts of the runes, from here on. -/
def starts (xs : List Int) (k : Int) : List Int := if h : runeSz xs = 0 then [] else k :: starts (xs.drop (runeSz xs)) (k + (runeSz xs : Nat))
termination_by xs.length
decreasing_by
  have := runeSz_le xs
  simp; omega
theorem starts_stop {xs : List Int} (h : runeSz xs = 0) (k : Int) : starts xs k = [] := by unfold starts; rw [dif_pos h]
theorem starts_step {xs : List Int} (h : runeSz xs ≠ 0) (k : Int) : starts xs k = k :: starts (xs.drop (runeSz xs)) (k + (runeSz xs : Nat)) := by
  conv => lhs; unfold starts
  rw [dif_neg h]
theorem valid_cases {xs : List Int} (h : valid xs = true) : xs = [] ∨ runeSz xs ≠ 0 ∧ valid (xs.drop (runeSz xs)) = true := by
  by_cases e : runeSz xs = 0
  · left
    cases xs with
    | nil => rfl
    | cons a l => rw [valid_stop e (by simp)] at h; cases h
  · right; exact ⟨e, by rw [← valid_step e]; exact h⟩
theorem bounds_starts : ∀ (n : Nat) (xs : List Int) (k : Int), xs.length ≤ n → valid xs = true → bounds xs k = starts xs k ++ [k + (xs.length : Nat)]
  | n, xs, k, hn, hv => by
    rcases valid_cases hv with rfl | ⟨h, hv'⟩
    · rw [bounds_stop (by rfl), starts_stop (by rfl)]; simp
    · have hle := runeSz_le xs
      cases n with
      | zero => omega
      | succ n =>
        rw [bounds_step h, starts_step h, bounds_starts n _ _ (by simp; omega) hv', List.cons_append, List.length_drop]
        congr 3; omega
  termination_by n => n
theorem starts_len : ∀ (n : Nat) (xs : List Int) (k : Int), xs.length ≤ n → (starts xs k).length ≤ xs.length
  | n, xs, k, hn => by
    by_cases h : runeSz xs = 0
    · rw [starts_stop h]; simp
    · have hle := runeSz_le xs
      cases n with
      | zero => omega
      | succ n =>
        rw [starts_step h]
        have := starts_len n (xs.drop (runeSz xs)) (k + (runeSz xs : Nat)) (by simp; omega)
        simp at this ⊢; omega
  termination_by n => n
theorem textOk_iff {xs : List Int} : textOk xs = true ↔ xs.length ≤ 400 ∧ valid xs = true := by
  unfold textOk; rw [Bool.and_eq_true]
  exact ⟨fun h => ⟨Nat.le_of_ble_eq_true h.1, h.2⟩, fun h => ⟨Nat.ble_eq_true_of_le h.1, h.2⟩⟩
end Go.Ev
end
section
/- Edits of texts, as lists of numbers. -/
set_option linter.unusedVariables false
namespace Go.Ev
open Go.RowKit
abbrev E3 : Type := Int × Int × List Int
theorem isCutD_range {t : List Int} {k : Int} (h : isCutD t k = true) : 0 ≤ k ∧ k ≤ ((t.length : Nat) : Int) := by
  unfold isCutD at h
  rw [Bool.or_eq_true, beq_iff_eq, Bool.and_eq_true, Bool.and_eq_true, decide_eq_true_iff, decide_eq_true_iff] at h
  omega
def editOkD (t : List Int) (e : E3) : Bool :=
  textOk t && isCutD t e.1 && decide (0 ≤ e.2.1) && decide (e.2.1 ≤ ((t.length : Nat) : Int) - e.1) && isCutD t (e.1 + e.2.1) && textOk e.2.2 && decide (((t.length : Nat) : Int) - e.2.1 + ((e.2.2.length : Nat) : Int) ≤ 400)
def doD (e : E3) (t : List Int) : List Int := t.take e.1.toNat ++ e.2.2 ++ t.drop (e.1 + e.2.1).toNat
theorem textOk_len {t : List Int} (h : textOk t = true) : t.length ≤ 400 := (textOk_iff.1 h).1
structure EditOk (t : List Int) (e : E3) : Prop where
  tx : textOk t = true
  a : isCutD t e.1 = true
  c0 : 0 ≤ e.2.1
  c1 : e.2.1 ≤ ((t.length : Nat) : Int) - e.1
  b : isCutD t (e.1 + e.2.1) = true
  p : textOk e.2.2 = true
  l : ((t.length : Nat) : Int) - e.2.1 + ((e.2.2.length : Nat) : Int) ≤ 400
theorem editOkD_iff {t : List Int} {e : E3} : editOkD t e = true ↔ EditOk t e := by
  unfold editOkD
  simp only [Bool.and_eq_true, decide_eq_true_eq]
  exact ⟨fun ⟨⟨⟨⟨⟨⟨h1, h2⟩, h3⟩, h4⟩, h5⟩, h6⟩, h7⟩ => ⟨h1, h2, h3, h4, h5, h6, h7⟩, fun h => ⟨⟨⟨⟨⟨⟨h.tx, h.a⟩, h.c0⟩, h.c1⟩, h.b⟩, h.p⟩, h.l⟩⟩
theorem doD_len {t : List Int} {e : E3} (h0 : 0 ≤ e.1) (h1 : 0 ≤ e.2.1) (h2 : e.1 + e.2.1 ≤ ((t.length : Nat) : Int)) : (((doD e t).length : Nat) : Int) = ((t.length : Nat) : Int) - e.2.1 + ((e.2.2.length : Nat) : Int) := by
  unfold doD
  simp only [List.length_append, List.length_take, List.length_drop]
  omega
def editDoD (t : List Int) (e : E3) : List Int := bif editOkD t e then doD e t else []
theorem editDoD_len (t : List Int) (e : E3) : (editDoD t e).length ≤ 400 := by
  unfold editDoD
  cases h : editOkD t e with
  | false => simp
  | true =>
    have q := editOkD_iff.1 h
    have r := isCutD_range q.a
    have r2 := isCutD_range q.b
    have := doD_len r.1 q.c0 r2.2
    have := q.l
    simp only [cond_true]; omega
theorem fitB_doD {t : List Int} {e : E3} (h1 : fitB t = true) (h2 : fitB e.2.2 = true) (hl : (doD e t).length ≤ 1048576) : fitB (doD e t) = true :=
  fitB_of hl (fun x hx => by
    unfold doD at hx
    rcases List.mem_append.1 hx with hx | hx
    · rcases List.mem_append.1 hx with hx | hx
      · exact fitB_mem h1 (List.mem_of_mem_take hx)
      · exact fitB_mem h2 hx
    · exact fitB_mem h1 (List.mem_of_mem_drop hx))
theorem fitB_editDoD {t : List Int} {e : E3} (h1 : fitB t = true) (h2 : fitB e.2.2 = true) : fitB (editDoD t e) = true := by
  have hl := editDoD_len t e
  unfold editDoD at hl ⊢
  cases h : editOkD t e with
  | false => rfl
  | true => rw [h] at hl; exact fitB_doD h1 h2 (by simpa using Nat.le_trans hl (by omega))
/-- One after the other, as long as they are valid: the text, how many. -/
def editsDoL : List E3 → List Int → Nat → List Int × Nat
  | [], t, n => (t, n)
  | e :: es, t, n => bif editOkD t e then editsDoL es (doD e t) (n + 1) else (t, n)
def editsDoD (t : List Int) (l : List E3) : List Int × Int := bif textOk t then ((editsDoL l t 0).1, (((editsDoL l t 0).2 : Nat) : Int)) else ([], -1)
end Go.Ev
end
section
/- Requests and replies, as numbers and lists. -/
set_option linter.unusedVariables false
namespace Go.Ev
open Go.RowKit
end Go.Ev
end
section
/- Loops over lists, by index. -/
set_option linter.unusedVariables false
namespace Go.Ev
section
variable {α β ρ : Type}
theorem getD_lt {xs : List α} {i : Nat} (z : α) (h : i < xs.length) : xs.getD i z = xs[i] := by
  rw [List.getD_eq_getElem?_getD, List.getElem?_eq_getElem h]; rfl
theorem idx_find {R : Nat → Int → ρ} {p : α → Bool} {kt : ρ} {kf : Int → ρ} {xs : List α} {z : α}
    (hs : ∀ m (i : Nat), i < xs.length → R (m + 1) i = bif p (xs.getD i z) then kf i else R m ((i + 1 : Nat) : Int))
    (he : ∀ m, R (m + 1) (xs.length : Nat) = kt) : ∀ (m i : Nat), i ≤ xs.length → xs.length - i < m → R m i = (match (xs.drop i).findIdx? p with
      | some j => kf ((i + j : Nat) : Int)
      | none => kt)
  | 0, i, _, h => absurd h (by omega)
  | m + 1, i, hi, hm => by
    by_cases h : i < xs.length
    · rw [hs m i h, getD_lt z h, List.drop_eq_getElem_cons h, List.findIdx?_cons]
      cases hp : p xs[i] with
      | true => simp
      | false =>
        rw [cond_false, idx_find hs he m (i + 1) (by omega) (by omega)]
        simp only [Bool.false_eq_true, if_false]
        cases (xs.drop (i + 1)).findIdx? p with
        | none => rfl
        | some k => show kf ((i + 1 + k : Nat) : Int) = kf ((i + (k + 1) : Nat) : Int); congr 2; omega
    · have : i = xs.length := by omega
      subst this
      rw [he m, List.drop_length]; rfl
theorem idx_all {R : Nat → Int → ρ} {p : α → Bool} {kt kf : ρ} {xs : List α} {z : α}
    (hs : ∀ m (i : Nat), i < xs.length → R (m + 1) i = bif p (xs.getD i z) then R m ((i + 1 : Nat) : Int) else kf)
    (he : ∀ m, R (m + 1) (xs.length : Nat) = kt) : ∀ (m i : Nat), i ≤ xs.length → xs.length - i < m → R m i = bif (xs.drop i).all p then kt else kf
  | 0, i, _, h => absurd h (by omega)
  | m + 1, i, hi, hm => by
    by_cases h : i < xs.length
    · rw [hs m i h, getD_lt z h, List.drop_eq_getElem_cons h, List.all_cons]
      cases hp : p xs[i] with
      | true => rw [cond_true, idx_all hs he m (i + 1) (by omega) (by omega)]; rfl
      | false => rfl
    · have : i = xs.length := by omega
      subst this
      rw [he m, List.drop_length]; rfl
theorem take_one {l : List α} {i : Nat} (z : α) (h : i < l.length) : l.take i ++ [l.getD i z] = l.take (i + 1) := by
  rw [List.take_add_one, List.getElem?_eq_getElem h, getD_lt z h]; rfl
/-- A list copied, element by element. -/
theorem idx_copy {R : Nat → Int → List α → ρ} {kt : ρ} {l : List α} (z : α)
    (hs : ∀ m (i : Nat), i < l.length → R (m + 1) i (l.take i) = R m ((i + 1 : Nat) : Int) (l.take i ++ [l.getD i z]))
    (he : ∀ m, R (m + 1) (l.length : Nat) l = kt) : ∀ (m i : Nat), i ≤ l.length → l.length - i < m → R m i (l.take i) = kt
  | 0, i, _, h => absurd h (by omega)
  | m + 1, i, hi, hm => by
    by_cases h : i < l.length
    · rw [hs m i h, take_one z h]
      exact idx_copy z hs he m (i + 1) (by omega) (by omega)
    · obtain rfl : i = l.length := by omega
      rw [List.take_length]; exact he m
/-- What is so, picked out. -/
theorem idx_filter {R : Nat → Int → List α → ρ} {kt : ρ} {l : List α} (p : α → Bool) (z : α)
    (hs : ∀ m (i : Nat), i < l.length → R (m + 1) i ((l.take i).filter p) = R m ((i + 1 : Nat) : Int) (bif p (l.getD i z) then (l.take i).filter p ++ [l.getD i z] else (l.take i).filter p))
    (he : ∀ m, R (m + 1) (l.length : Nat) (l.filter p) = kt) : ∀ (m i : Nat), i ≤ l.length → l.length - i < m → R m i ((l.take i).filter p) = kt
  | 0, i, _, h => absurd h (by omega)
  | m + 1, i, hi, hm => by
    by_cases h : i < l.length
    · have e : (bif p (l.getD i z) then (l.take i).filter p ++ [l.getD i z] else (l.take i).filter p) = (l.take (i + 1)).filter p := by
        rw [← take_one z h, List.filter_append]
        cases hp : p (l.getD i z) with
        | true => rw [cond_true, List.filter_cons_of_pos hp]; rfl
        | false => rw [cond_false, List.filter_cons_of_neg (by rw [hp]; simp)]; simp
      rw [hs m i h, e]
      exact idx_filter p z hs he m (i + 1) (by omega) (by omega)
    · obtain rfl : i = l.length := by omega
      rw [List.take_length]; exact he m
def idxOfD (l : List Int) (k : Int) : Int := match l.findIdx? (fun c => c == k) with
  | some i => (i : Nat)
  | none => -1
theorem idxOfD_any (l : List Int) (k : Int) : decide (idxOfD l k ≥ 0) = l.any (fun c => c == k) := by
  unfold idxOfD
  cases h : l.findIdx? (fun c => c == k) with
  | none =>
    rw [List.findIdx?_eq_none_iff] at h
    rw [show l.any (fun c => c == k) = false from List.any_eq_false.2 (fun x hx => by rw [h x hx]; simp)]; rfl
  | some i =>
    rw [List.findIdx?_eq_some_iff_getElem] at h
    obtain ⟨h1, h2, _⟩ := h
    rw [show l.any (fun c => c == k) = true from List.any_eq_true.2 ⟨l[i], List.getElem_mem h1, h2⟩]
    exact decide_eq_true (show ((i : Nat) : Int) ≥ 0 by omega)
def idxF {α : Type} (p : α → Bool) (l : List α) : Int := match l.findIdx? p with
  | some i => (i : Nat)
  | none => -1
theorem idxF_any {α : Type} (p : α → Bool) (l : List α) : decide (idxF p l ≥ 0) = l.any p := by
  unfold idxF
  cases h : l.findIdx? p with
  | none =>
    rw [List.findIdx?_eq_none_iff] at h
    rw [show l.any p = false from List.any_eq_false.2 (fun x hx => by rw [h x hx]; simp)]; rfl
  | some i =>
    rw [List.findIdx?_eq_some_iff_getElem] at h
    obtain ⟨h1, h2, _⟩ := h
    rw [show l.any p = true from List.any_eq_true.2 ⟨l[i], List.getElem_mem h1, h2⟩]
    exact decide_eq_true (show ((i : Nat) : Int) ≥ 0 by omega)
end
end Go.Ev
end
section
/- Events and outputs, as numbers and lists. -/
set_option linter.unusedVariables false
namespace Go.Ev
open Go.RowKit
theorem idx_allN {ρ : Type} {R : Nat → Int → ρ} {p : Nat → Bool} {kt kf : ρ} {n : Nat}
    (hs : ∀ m (i : Nat), i < n → R (m + 1) i = bif p i then R m ((i + 1 : Nat) : Int) else kf)
    (he : ∀ m, R (m + 1) (n : Nat) = kt) : ∀ (m i : Nat), i ≤ n → n - i < m → R m i = bif (List.range' i (n - i)).all p then kt else kf
  | 0, i, _, h => absurd h (by omega)
  | m + 1, i, hi, hm => by
    by_cases h : i < n
    · rw [hs m i h, show n - i = (n - (i + 1)) + 1 by omega, List.range'_succ, List.all_cons]
      cases hp : p i with
      | true => rw [cond_true, idx_allN hs he m (i + 1) (by omega) (by omega)]; rfl
      | false => rfl
    · have : i = n := by omega
      subst this
      rw [he m, Nat.sub_self]; rfl
/-- For all numbers below n. -/
def allN (n : Nat) (p : Nat → Bool) : Bool := (List.range' 0 n).all p
def sessD (s : Int) : Bool := decide (1 ≤ s) && decide (s ≤ 8)
def tickD (n : Int) : Bool := decide (1 ≤ n) && decide (n ≤ 1000)
end Go.Ev
end
section
/- Positions, spans and edits after an edit; stacks. -/
set_option linter.unusedVariables false
namespace Go.Ev
open Go.RowKit
def in400 (n : Int) : Bool := decide (0 ≤ n) && decide (n ≤ 400)
def smallE (e : E3) : Bool := in400 e.1 && in400 e.2.1 && decide (((e.2.2.length : Nat) : Int) ≤ 400)
/-! ### Stacks -/
abbrev ST : Type := List E3 × List E3
def okL (l : List E3) : Bool := decide (((l.length : Nat) : Int) ≤ 6) && l.all smallE
def stackOkD (s : ST) : Bool := okL s.1 && okL s.2
theorem okL_len {l : List E3} (h : okL l = true) : l.length ≤ 6 := by
  unfold okL at h
  rw [Bool.and_eq_true, decide_eq_true_iff] at h
  omega
end Go.Ev
end
section
/- Leases and documents: when they are valid. -/
set_option linter.unusedVariables false
namespace Go.Ev
open Go.RowKit
abbrev L4 : Type := Int × Int × Int × Int
def leaseOkD (l : L4) : Bool := decide (0 ≤ l.1) && decide (l.1 ≤ l.2.1) && decide (l.2.1 ≤ 400) && sessD l.2.2.1 && tickD l.2.2.2
/-- Is a ahead of b? -/
def lessD (a b : L4) : Bool := bif a.1 != b.1 then decide (a.1 < b.1) else bif a.2.1 != b.2.1 then decide (a.2.1 < b.2.1) else decide (a.2.2.1 < b.2.2.1)
def sgn (a b : Int) : Int := bif decide (a < b) then -1 else bif decide (a > b) then 1 else 0
def cmpD (a b : L4) : Int := bif sgn a.1 b.1 != 0 then sgn a.1 b.1 else bif sgn a.2.1 b.2.1 != 0 then sgn a.2.1 b.2.1 else sgn a.2.2.1 b.2.2.1
theorem sgn_cases (a b : Int) : (a < b ∧ sgn a b = -1) ∨ (a = b ∧ sgn a b = 0) ∨ (b < a ∧ sgn a b = 1) := by
  unfold sgn
  by_cases h1 : a < b
  · rw [decide_eq_true h1]; exact .inl ⟨h1, rfl⟩
  · rw [decide_eq_false h1]
    by_cases h2 : a > b
    · rw [decide_eq_true h2]; exact .inr (.inr ⟨h2, rfl⟩)
    · rw [decide_eq_false h2]; exact .inr (.inl ⟨by omega, rfl⟩)
theorem bne_t {a b : Int} (h : a ≠ b) : (a != b) = true := bne_iff_ne.2 h
theorem bne_f {a b : Int} (h : a = b) : (a != b) = false := by simp [h]
theorem cmpD_neg (a b : L4) : decide (cmpD a b ≥ 0) = !lessD a b := by
  unfold cmpD lessD
  rcases sgn_cases a.1 b.1 with ⟨h1, e1⟩ | ⟨h1, e1⟩ | ⟨h1, e1⟩
  · rw [e1, bne_t (show a.1 ≠ b.1 by omega), decide_eq_true (show a.1 < b.1 from h1)]; rfl
  · rw [e1, bne_f h1]
    rcases sgn_cases a.2.1 b.2.1 with ⟨h2, e2⟩ | ⟨h2, e2⟩ | ⟨h2, e2⟩
    · rw [e2, bne_t (show a.2.1 ≠ b.2.1 by omega), decide_eq_true (show a.2.1 < b.2.1 from h2)]; rfl
    · rw [e2, bne_f h2]
      rcases sgn_cases a.2.2.1 b.2.2.1 with ⟨h3, e3⟩ | ⟨h3, e3⟩ | ⟨h3, e3⟩
      · rw [e3, decide_eq_true (show a.2.2.1 < b.2.2.1 from h3)]; rfl
      · rw [e3, decide_eq_false (show ¬ a.2.2.1 < b.2.2.1 by omega)]; rfl
      · rw [e3, decide_eq_false (show ¬ a.2.2.1 < b.2.2.1 by omega)]; rfl
    · rw [e2, bne_t (show a.2.1 ≠ b.2.1 by omega), decide_eq_false (show ¬ a.2.1 < b.2.1 by omega)]; rfl
  · rw [e1, bne_t (show a.1 ≠ b.1 by omega), decide_eq_false (show ¬ a.1 < b.1 by omega)]; rfl
def zeroL : L4 := (0, 0, 0, 0)
def leaseAtD (l : List L4) (i : Nat) : Bool := leaseOkD (l.getD i zeroL) && (Nat.beq i 0 || lessD (l.getD (i - 1) zeroL) (l.getD i zeroL))
def leasesOkD (l : List L4) : Bool := decide (((l.length : Nat) : Int) ≤ 12) && allN l.length (leaseAtD l)
def clockD (n : Int) : Bool := decide (0 ≤ n) && decide (n ≤ 1000)
/-- An edit fits a text, but for its length. -/
def fitsD (t : List Int) (e : E3) : Bool := isCutD t e.1 && decide (0 ≤ e.2.1) && decide (e.2.1 ≤ ((t.length : Nat) : Int) - e.1) && isCutD t (e.1 + e.2.1) && textOk e.2.2
abbrev C4 : Type := Int × E3
def logD (l : List C4) : List E3 := l.map (fun c => c.2)
/-- Do commits lead from one text to another one? -/
def commitsD (s t : List Int) (l : List C4) : Bool := decide (((l.length : Nat) : Int) ≤ 60) && l.all (fun c => sessD c.1) && ((editsDoD s (logD l)).2 == ((l.length : Nat) : Int)) && decide ((editsDoD s (logD l)).1 = t)
abbrev M5 : Type := Int × Int × Int × ST
def zeroM : M5 := (0, 0, 0, [], [])
def memberD (t : List Int) (m : M5) : Bool := sessD m.1 && isCutD t m.2.1 && isCutD t m.2.2.1 && stackOkD m.2.2.2 && m.2.2.2.1.all (fitsD t) && m.2.2.2.2.all (fitsD t)
def memberAtD (t : List Int) (l : List M5) (i : Nat) : Bool := memberD t (l.getD i zeroM) && (Nat.beq i 0 || decide ((l.getD (i - 1) zeroM).1 < (l.getD i zeroM).1))
def membersD (t : List Int) (l : List M5) : Bool := decide (((l.length : Nat) : Int) ≤ 8) && allN l.length (memberAtD t l)
/-- Have two leases a place in common? -/
def meetD (a b : L4) : Bool := decide (max a.1 b.1 < min a.2.1 b.2.1)
def heldAtD (t : List Int) (c : Int) (l : List L4) (i : Nat) : Bool := decide ((l.getD i zeroL).2.2.2 > c) && isCutD t (l.getD i zeroL).1 && isCutD t (l.getD i zeroL).2.1 && allN i (fun k => !(((l.getD k zeroL).2.2.1 != (l.getD i zeroL).2.2.1) && meetD (l.getD k zeroL) (l.getD i zeroL)))
def heldD (t : List Int) (c : Int) (l : List L4) : Bool := leasesOkD l && allN l.length (heldAtD t c l)
abbrev D6 : Type := List Int × List Int × List C4 × Int × List M5 × List L4
def docOkD (d : D6) : Bool := textOk d.1 && commitsD d.1 d.2.1 d.2.2.1 && clockD d.2.2.2.1 && membersD d.2.1 d.2.2.2.2.1 && heldD d.2.1 d.2.2.2.1 d.2.2.2.2.2
theorem meetD_four (a b : L4) : (decide (a.1 < b.2.1) && decide (b.1 < a.2.1) && decide (a.1 < a.2.1) && decide (b.1 < b.2.1)) = meetD a b := by
  unfold meetD
  rw [Bool.eq_iff_iff]
  simp only [Bool.and_eq_true, decide_eq_true_eq]
  omega
def orD (l : List Int) : Int := (l.find? (fun c => c != 0)).getD 0
end Go.Ev
end
section
/- s_l07Clock: its contract. -/
namespace Go.Ev.Seat
open Go.RowKit
set_option maxRecDepth 100000
set_option linter.unusedVariables false
set_option linter.unusedSimpArgs false
noncomputable abbrev E_s_l07Clock : Env := En [] [] [] [] false 0 []
noncomputable def T_s_l07Clock (n : Int) (K : Ret → Option Ret) : Option Ret := (bif (decide (n ≥ (0 : Int))) then K ((.s (.bool (decide (n ≤ (1000 : Int))))), []) else K ((.s (.bool false)), []))
theorem e_s_l07Clock (n : Int) (K : Ret → Option Ret) : evF E_s_l07Clock true F.s_l07Clock [.s (.int .i64 n)] K = T_s_l07Clock n K := by kernel_rfl
def S_s_l07Clock : Sm := S_fnR [.i] (fun d => true) (fun d => (bl (clockD d.1), []))
theorem v_s_l07Clock (n : Int) (K : Ret → Option Ret) : T_s_l07Clock n K = K (bl (clockD n), []) := by
  unfold T_s_l07Clock clockD
  rw [show decide (n ≥ 0) = decide (0 ≤ n) from rfl]
  cases decide (0 ≤ n) <;> rfl
theorem okS_s_l07Clock : OkFn prog I N.s_l07Clock true S_s_l07Clock := okN (ok_fn mem0 (l := []) (p := []) (ls := []) (lend := []) (focus := false) (fuel := 0) (give := []) (fn := F.s_l07Clock) (by kernel_rfl) (by kernel_rfl) (by kernel_rfl) (by kernel_rfl) (cs := []) (by kernel_rfl) loops0) (S_fnR_of fun d K h => (e_s_l07Clock d.1 K).trans (v_s_l07Clock d.1 K))
end Go.Ev.Seat
end
section
/- s_l07Right: its contract. -/
namespace Go.Ev.Seat
open Go.RowKit
set_option maxRecDepth 100000
set_option linter.unusedVariables false
set_option linter.unusedSimpArgs false
noncomputable abbrev E_s_l07Right : Env := En [] [] [] [] false 0 []
noncomputable def T_s_l07Right (l : T_Lease) (K : Ret → Option Ret) : Option Ret := (bif (decide (l.1 ≥ (0 : Int))) then (bif (decide (l.1 ≤ l.2.1)) then (bif (decide (l.2.1 ≤ (400 : Int))) then (bif (decide (l.2.2.1 ≥ (1 : Int))) then (bif (decide (l.2.2.1 ≤ (8 : Int))) then (bif (decide (l.2.2.2 ≥ (1 : Int))) then K ((.s (.bool (decide (l.2.2.2 ≤ (1000 : Int))))), []) else K ((.s (.bool false)), [])) else K ((.s (.bool false)), [])) else K ((.s (.bool false)), [])) else K ((.s (.bool false)), [])) else K ((.s (.bool false)), [])) else K ((.s (.bool false)), []))
theorem e_s_l07Right (l : T_Lease) (K : Ret → Option Ret) : evF E_s_l07Right true F.s_l07Right [.a (leaseR.cells .no l)] K = T_s_l07Right l K := by kernel_rfl
def S_s_l07Right : Sm := S_fnR [.a leaseR] (fun d => true) (fun d => (bl (leaseOkD d.1), []))
theorem v_s_l07Right (l : T_Lease) (K : Ret → Option Ret) : T_s_l07Right l K = K (bl (leaseOkD l), []) := by
  unfold T_s_l07Right leaseOkD sessD tickD
  rw [show decide (l.1 ≥ 0) = decide (0 ≤ l.1) from rfl, show decide (l.2.2.1 ≥ 1) = decide (1 ≤ l.2.2.1) from rfl, show decide (l.2.2.2 ≥ 1) = decide (1 ≤ l.2.2.2) from rfl]
  cases decide (0 ≤ l.1) <;> cases decide (l.1 ≤ l.2.1) <;> cases decide (l.2.1 ≤ 400) <;> cases decide (1 ≤ l.2.2.1) <;> cases decide (l.2.2.1 ≤ 8) <;> cases decide (1 ≤ l.2.2.2) <;> rfl
theorem okS_s_l07Right : OkFn prog I N.s_l07Right true S_s_l07Right := okN (ok_fn mem0 (l := []) (p := []) (ls := []) (lend := []) (focus := false) (fuel := 0) (give := []) (fn := F.s_l07Right) (by kernel_rfl) (by kernel_rfl) (by kernel_rfl) (by kernel_rfl) (cs := []) (by kernel_rfl) loops0) (S_fnR_of fun d K h => (e_s_l07Right d.1 K).trans (v_s_l07Right d.1 K))
end Go.Ev.Seat
end
section
/- s_l07Less: its contract. -/
namespace Go.Ev.Seat
open Go.RowKit
set_option maxRecDepth 100000
set_option linter.unusedVariables false
set_option linter.unusedSimpArgs false
noncomputable abbrev E_s_l07Less : Env := En [] [] [] [] false 0 []
noncomputable def T_s_l07Less (a : T_Lease) (b : T_Lease) (K : Ret → Option Ret) : Option Ret := (bif (a.1 != b.1) then K ((.s (.bool (decide (a.1 < b.1)))), []) else (bif (a.2.1 != b.2.1) then K ((.s (.bool (decide (a.2.1 < b.2.1)))), []) else K ((.s (.bool (decide (a.2.2.1 < b.2.2.1)))), [])))
theorem e_s_l07Less (a : T_Lease) (b : T_Lease) (K : Ret → Option Ret) : evF E_s_l07Less true F.s_l07Less [.a (leaseR.cells .no a), .a (leaseR.cells .no b)] K = T_s_l07Less a b K := by kernel_rfl
def S_s_l07Less : Sm := S_fnR [.a leaseR, .a leaseR] (fun d => true) (fun d => (bl (lessD d.1 d.2.1), []))
theorem v_s_l07Less (a : T_Lease) (b : T_Lease) (K : Ret → Option Ret) : T_s_l07Less a b K = K (bl (lessD a b), []) := by
  unfold T_s_l07Less lessD
  cases (a.1 != b.1) <;> cases (a.2.1 != b.2.1) <;> rfl
theorem okS_s_l07Less : OkFn prog I N.s_l07Less true S_s_l07Less := okN (ok_fn mem0 (l := []) (p := []) (ls := []) (lend := []) (focus := false) (fuel := 0) (give := []) (fn := F.s_l07Less) (by kernel_rfl) (by kernel_rfl) (by kernel_rfl) (by kernel_rfl) (cs := []) (by kernel_rfl) loops0) (S_fnR_of fun d K h => (e_s_l07Less d.1 d.2.1 K).trans (v_s_l07Less d.1 d.2.1 K))
end Go.Ev.Seat
end
section
/- What is known of an argument: bytes are bytes, and it is small. -/
set_option linter.unusedVariables false
namespace Go.Ev.Seat
open Go.RowKit
mutual
def fitC : (c : Cc) → c.T → Bool
  | .int .u8, n => isB n
  | .int _, _ => true
  | .bool, _ => true
  | .str, _ => true
  | .sl r, xs => Nat.ble xs.length 1048576 && xs.all (fitR r)
def fitR : (r : Rw) → r.T → Bool
  | .one c, d => fitC c d
  | .cons c r, d => fitC c d.1 && fitR r d.2
end
mutual
theorem fitC_of : (c : Cc) → (d : c.T) → c.wf d → c.lim d = true → fitC c d = true
  | .int k, n, h, _ => by
    cases k <;> simp only [fitC]
    have h' : (Lit.int .u8 n).wf = true := h
    simp only [Lit.wf, Bool.and_eq_true, decide_eq_true_eq] at h'
    have a : IntKind.u8.min = 0 := rfl
    have b : IntKind.u8.max = 255 := rfl
    rw [a, b] at h'
    simp only [isB, Bool.and_eq_true, decide_eq_true_eq]
    exact h'
  | .bool, _, _, _ => rfl
  | .str, _, _, _ => rfl
  | .sl r, xs, h, g => by
    simp only [Cc.lim, Bool.and_eq_true, List.all_eq_true] at g
    simp only [fitC, Bool.and_eq_true, List.all_eq_true]
    exact ⟨g.1, fun x hx => fitR_of r x (h.2 x hx) (g.2 x hx)⟩
theorem fitR_of : (r : Rw) → (d : r.T) → r.wf d → r.lim d = true → fitR r d = true
  | .one c, d, h, g => fitC_of c d h g
  | .cons c r, d, h, g => by
    simp only [Rw.lim, Bool.and_eq_true] at g
    simp only [fitR, Bool.and_eq_true]
    exact ⟨fitC_of c d.1 h.1 g.1, fitR_of r d.2 h.2 g.2⟩
end
theorem fitB_fit {b : List Int} (h : fitC (.sl bytesR) b = true) : fitB b = true := h
theorem fitR_snd {c : Cc} {r : Rw} {d : (Rw.cons c r).T} (h : fitR (.cons c r) d = true) : fitR r d.2 = true := ((Bool.and_eq_true _ _).mp h).2
theorem fitR_fst {c : Cc} {r : Rw} {d : (Rw.cons c r).T} (h : fitR (.cons c r) d = true) : fitC c d.1 = true := ((Bool.and_eq_true _ _).mp h).1
theorem fitC_mem {r : Rw} {l : List r.T} (h : fitC (.sl r) l = true) {x : r.T} (hx : x ∈ l) : fitR r x = true := by
  simp only [fitC, Bool.and_eq_true, List.all_eq_true] at h
  exact h.2 x hx
theorem fitC_len {r : Rw} {l : List r.T} (h : fitC (.sl r) l = true) : l.length ≤ 1048576 := by
  simp only [fitC, Bool.and_eq_true] at h
  exact Nat.le_of_ble_eq_true h.1
theorem fitC_getD {r : Rw} {l : List r.T} (h : fitC (.sl r) l = true) (hd : fitR r r.dflt = true) (k : Nat) : fitR r (l.getD k r.dflt) = true := by
  rw [List.getD_eq_getElem?_getD]
  rcases Nat.lt_or_ge k l.length with hk | hk
  · rw [List.getElem?_eq_getElem hk]; exact fitC_mem h (List.getElem_mem hk)
  · rw [List.getElem?_eq_none hk]; exact hd
theorem fit_edit {e : T_Edit} (h : fitR editR e = true) : fitB e.2.2 = true := fitB_fit (fitR_snd (fitR_snd h))
theorem fitC_mk {r : Rw} {l : List r.T} (hl : l.length ≤ 1048576) (hs : ∀ x ∈ l, fitR r x = true) : fitC (.sl r) l = true := by
  simp only [fitC, Bool.and_eq_true, List.all_eq_true]
  exact ⟨Nat.ble_eq_true_of_le hl, hs⟩
theorem take_snoc {α : Type} {l : List α} {i : Nat} (z : α) (hi : i < l.length) : l.take i ++ [l.getD i z] = l.take (i + 1) := by
  rw [List.take_add_one, List.getElem?_eq_getElem hi, List.getD_eq_getElem?_getD, List.getElem?_eq_getElem hi]; rfl
theorem fit_commit {c : T_Commit} (h : fitR commitR c = true) : fitB c.2.2.2 = true := fitB_fit (fitR_snd (fitR_snd (fitR_snd h)))
theorem fit_comedit {c : T_Commit} (h : fitR commitR c = true) : fitR editR c.2 = true := fitR_snd h
theorem bytes_lim {b : List Int} (h : b.length ≤ 1048576) : (Cc.sl bytesR).lim b = true := by
  simp only [Cc.lim, Bool.and_eq_true, List.all_eq_true]
  exact ⟨Nat.ble_eq_true_of_le h, fun _ _ => rfl⟩
end Go.Ev.Seat
end
section
/- s_LeasesOk: its contract. -/
namespace Go.Ev.Seat
open Go.RowKit
set_option maxRecDepth 100000
set_option linter.unusedVariables false
set_option linter.unusedSimpArgs false
def z_s_LeasesOk_4_0 (x2 : Bool) : St := { tm := ([.x, .x, (.s (.bool x2))] ++ List.replicate 33 .x), ob := [], nx := 0, io := [] }
def z_s_LeasesOk_4_1 : St := { tm := ([] ++ List.replicate 36 .x), ob := [], nx := 0, io := [] }
def sh_s_LeasesOk_4_0 : Ss := { tm := (.cons (.l .no leaseR) (.cons (.x) (.cons (.x) (.cons (.int .i64) (xsh 32))))), ob := .nil, nx := 0, io := .nil }
def d_s_LeasesOk_4_0 (x0 : List T_Lease) (x3 : Int) : sh_s_LeasesOk_4_0.T := ((x0, ((), ((), (x3, xd 32)))), (), ())
def s_s_LeasesOk_4_0 (x0 : List T_Lease) (x3 : Int) : St := { tm := ([(.l .no leaseR x0), .x, .x, (.s (.int .i64 x3))] ++ List.replicate 32 .x), ob := [], nx := 0, io := [] }
theorem se_s_LeasesOk_4_0 (x0 : List T_Lease) (x3 : Int) : sh_s_LeasesOk_4_0.mk' (d_s_LeasesOk_4_0 x0 x3) = (s_s_LeasesOk_4_0 x0 x3) := by kernel_rfl
def w_s_LeasesOk_4_0 (d : sh_s_LeasesOk_4_0.T) (f : (List T_Lease) → Int → Option Ret) : Option Ret := match d with | ((x0, (_, (_, (x3, _)))), _, _) => f x0 x3
noncomputable def P_s_LeasesOk_4_0 (x0 : List T_Lease) (x3 : Int) (nx0 : (List T_Lease) → Int → Option Ret) (k0 : Bool → Option Ret) (k1 : Option Ret) : Option Ret := (bif (decide (x3 < (((List.length x0) : Nat) : Int))) then (bif ((decide ((0 : Int) ≤ x3)) && (decide (x3 < (((List.length x0) : Nat) : Int)))) then (bif (!(leaseOkD (List.getD x0 (Int.toNat x3) (leaseR.dflt)))) then (k0 false) else (bif (decide (x3 > (0 : Int))) then (bif ((decide ((0 : Int) ≤ (IntKind.wrap .i64 (x3 - (1 : Int))))) && (decide ((IntKind.wrap .i64 (x3 - (1 : Int))) < (((List.length x0) : Nat) : Int)))) then (bif ((decide ((0 : Int) ≤ x3)) && (decide (x3 < (((List.length x0) : Nat) : Int)))) then (bif (!(lessD (List.getD x0 (Int.toNat (IntKind.wrap .i64 (x3 - (1 : Int)))) (leaseR.dflt)) (List.getD x0 (Int.toNat x3) (leaseR.dflt)))) then (k0 false) else (nx0 x0 (IntKind.wrap .i64 (x3 + (1 : Int))))) else none) else none) else (nx0 x0 (IntKind.wrap .i64 (x3 + (1 : Int)))))) else none) else k1)
noncomputable def Q_s_LeasesOk_4_0 : Nat → (List T_Lease) → Int → (Bool → Option Ret) → (Option Ret) → Option Ret
  | 0, _, _, _, _ => none
  | m + 1, x0, x3, k0, k1 => P_s_LeasesOk_4_0 x0 x3 (fun x0 x3 => (Q_s_LeasesOk_4_0 m x0 x3 k0 k1)) k0 k1
noncomputable def R_s_LeasesOk_4_0 (x0 : List T_Lease) (x3 : Int) (k0 : Bool → Option Ret) (k1 : Option Ret) : Option Ret := Q_s_LeasesOk_4_0 (List.length x0 + x3.toNat + 2) x0 x3 k0 k1
noncomputable def W_s_LeasesOk_4 : LoopFn := (fun (σ : St) (K : Ex → St → Option Ret) => (match sh_s_LeasesOk_4_0.un σ with | some d => w_s_LeasesOk_4_0 d (fun x0 x3 => R_s_LeasesOk_4_0 x0 x3 (fun x2 => (K .ret (z_s_LeasesOk_4_0 x2))) (K (.ext 0) z_s_LeasesOk_4_1)) | none => none))
noncomputable abbrev E_s_LeasesOk : Env := En [(N.s_l07Right, true, S_s_l07Right), (N.s_l07Less, true, S_s_l07Less)] [(6, takeB [0, 1, 2, 3] (.fork (.one 4 (takeB [5, 6, 7, 8, 9, 10, 11, 12, 13, 14, 15, 16, 17, 18] (.fork (.one 19 (takes [20, 21, 22])))))), [])] [(4, [0,3], [2], W_s_LeasesOk_4)] [] false 0 []
theorem st_s_LeasesOk_4_0 (m : Nat) (x0 : List T_Lease) (x3 : Int) (K : Ex → St → Option Ret) : rounds (run E_s_LeasesOk (bodyOf F.s_LeasesOk 4)) [0,3] [2] (m + 1) (s_s_LeasesOk_4_0 x0 x3) K = P_s_LeasesOk_4_0 x0 x3 (fun x0 x3 => (rounds (run E_s_LeasesOk (bodyOf F.s_LeasesOk 4)) [0,3] [2] m (s_s_LeasesOk_4_0 x0 x3) K)) (fun x2 => (K .ret (z_s_LeasesOk_4_0 x2))) (K (.ext 0) z_s_LeasesOk_4_1) := by kernel_rfl
theorem q_s_LeasesOk_4 (K : Ex → St → Option Ret) : ∀ m : Nat, (∀ (x0 : List T_Lease) (x3 : Int), rounds (run E_s_LeasesOk (bodyOf F.s_LeasesOk 4)) [0,3] [2] m (s_s_LeasesOk_4_0 x0 x3) K = Q_s_LeasesOk_4_0 m x0 x3 (fun x2 => (K .ret (z_s_LeasesOk_4_0 x2))) (K (.ext 0) z_s_LeasesOk_4_1))
  | 0 => (fun _ _ => rfl)
  | m + 1 => (fun x0 x3 => (by rw [st_s_LeasesOk_4_0, show (fun x0 x3 => (rounds (run E_s_LeasesOk (bodyOf F.s_LeasesOk 4)) [0,3] [2] m (s_s_LeasesOk_4_0 x0 x3) K)) = (fun x0 x3 => (Q_s_LeasesOk_4_0 m x0 x3 (fun x2 => (K .ret (z_s_LeasesOk_4_0 x2))) (K (.ext 0) z_s_LeasesOk_4_1))) from funext fun x0 => funext fun x3 => (q_s_LeasesOk_4 K m) x0 x3]; rfl))
theorem loopK_s_LeasesOk_4 : LoopOk E_s_LeasesOk (bodyOf F.s_LeasesOk 4) := by
  refine loopW_ok (n := 4) (F := W_s_LeasesOk_4) (by kernel_rfl) rfl (li := [0,3]) (lo := [2]) rfl (fun σ K r hr => ?_)
  unfold W_s_LeasesOk_4 at hr
  split at hr
  · rename_i d hd
    rw [Ss.un_mk hd]
    exact ⟨_, ((congrArg (fun z => rounds (run E_s_LeasesOk (bodyOf F.s_LeasesOk 4)) [0,3] [2] _ z K) (se_s_LeasesOk_4_0 _ _)).trans ((q_s_LeasesOk_4 K _) _ _)).trans hr⟩
  · cases hr
noncomputable def T_s_LeasesOk (l : List T_Lease) (K : Ret → Option Ret) : Option Ret := (bif (decide ((((List.length l) : Nat) : Int) > (12 : Int))) then K ((.s (.bool false)), []) else (R_s_LeasesOk_4_0 l (0 : Int) (fun y0 => K ((.s (.bool y0)), [])) (K ((.s (.bool true)), []))))
theorem e_s_LeasesOk (l : List T_Lease) (K : Ret → Option Ret) : evF E_s_LeasesOk true F.s_LeasesOk [.l .no leaseR l] K = T_s_LeasesOk l K := by kernel_rfl
def S_s_LeasesOk : Sm := S_fnR [.l leaseR] (fun d => Nat.ble d.1.length 1048576) (fun d => (bl (leasesOkD d.1), []))
theorem v_s_LeasesOk (l : List T_Lease) (h : (Nat.ble l.length 1048576) = true) (K : Ret → Option Ret) : T_s_LeasesOk l K = K (bl (leasesOkD l), []) := by
  have hl := Nat.le_of_ble_eq_true h
  unfold T_s_LeasesOk leasesOkD
  by_cases h6 : ((l.length : Nat) : Int) ≤ 12
  case neg => rw [decide_eq_false h6, decide_eq_true (show ((l.length : Nat) : Int) > 12 by omega)]; rfl
  rw [decide_eq_true h6, decide_eq_false (show ¬ ((l.length : Nat) : Int) > 12 by omega)]
  have q := idx_allN (R := fun m i => Q_s_LeasesOk_4_0 m l i (fun y0 => K ((.s (.bool y0)), [])) (K ((.s (.bool true)), []))) (p := leaseAtD l) (n := l.length) (kt := K ((.s (.bool true)), [])) (kf := K ((.s (.bool false)), [])) (fun m i hi => by
      show P_s_LeasesOk_4_0 l ((i : Nat) : Int) _ _ _ = _
      unfold P_s_LeasesOk_4_0 leaseAtD
      rw [decide_eq_true (show ((i : Nat) : Int) < ((l.length : Nat) : Int) by omega), decide_eq_true (show (0 : Int) ≤ ((i : Nat) : Int) by omega), Int.toNat_natCast, wrap_nat (by omega), show l.getD i leaseR.dflt = l.getD i zeroL from rfl]
      cases i with
      | zero =>
        rw [decide_eq_false (show ¬ ((0 : Nat) : Int) > 0 by omega)]
        cases leaseOkD (l.getD 0 zeroL) <;> rfl
      | succ i =>
        rw [wrap_in (n := ((i + 1 : Nat) : Int) - 1) (by omega) (by omega), decide_eq_true (show ((i + 1 : Nat) : Int) > 0 by omega), show ((i + 1 : Nat) : Int) - 1 = ((i : Nat) : Int) by omega, decide_eq_true (show (0 : Int) ≤ ((i : Nat) : Int) by omega), decide_eq_true (show ((i : Nat) : Int) < ((l.length : Nat) : Int) by omega), Int.toNat_natCast, show i + 1 - 1 = i from rfl, show l.getD i leaseR.dflt = l.getD i zeroL from rfl]
        cases leaseOkD (l.getD (i + 1) zeroL) <;> cases lessD (l.getD i zeroL) (l.getD (i + 1) zeroL) <;> rfl) (fun m => by
      show P_s_LeasesOk_4_0 l ((l.length : Nat) : Int) _ _ _ = _
      unfold P_s_LeasesOk_4_0
      rw [decide_eq_false (show ¬ ((l.length : Nat) : Int) < ((l.length : Nat) : Int) by omega)]; rfl) (List.length l + (0 : Int).toNat + 2) 0 (by omega) (by omega)
  refine Eq.trans q ?_
  rw [Nat.sub_zero]
  show (bif allN l.length (leaseAtD l) then _ else _) = _
  cases allN l.length (leaseAtD l) <;> rfl
theorem okS_s_LeasesOk : OkFn prog I N.s_LeasesOk true S_s_LeasesOk := okN (ok_fn (memc okS_s_l07Right (memc okS_s_l07Less mem0)) (l := [(N.s_l07Right, true, S_s_l07Right), (N.s_l07Less, true, S_s_l07Less)]) (p := [(6, takeB [0, 1, 2, 3] (.fork (.one 4 (takeB [5, 6, 7, 8, 9, 10, 11, 12, 13, 14, 15, 16, 17, 18] (.fork (.one 19 (takes [20, 21, 22])))))), [])]) (ls := [(4, [0,3], [2], W_s_LeasesOk_4)]) (lend := []) (focus := false) (fuel := 0) (give := []) (fn := F.s_LeasesOk) (by kernel_rfl) (by kernel_rfl) (by kernel_rfl) (by kernel_rfl) (cs := [bodyOf F.s_LeasesOk 4]) (by kernel_rfl) (loopsc loopK_s_LeasesOk_4 loops0)) (S_fnR_of fun d K h => (e_s_LeasesOk d.1 K).trans (v_s_LeasesOk d.1 h K))
end Go.Ev.Seat
end
section
/- s_l10Log: its contract. -/
namespace Go.Ev.Seat
open Go.RowKit
set_option maxRecDepth 100000
set_option linter.unusedVariables false
set_option linter.unusedSimpArgs false
def z_s_l10Log_3_0 (o0 : List T_Edit) : St := { tm := ([.x, .x, .x, (.w 0)] ++ List.replicate 19 .x), ob := [(0, (.arr true true editR o0))], nx := 1, io := [] }
def z_s_l10Log_3_1 (o0 : List T_Edit) : St := { tm := ([.x, .x, .x, (.w 0)] ++ List.replicate 19 .x), ob := [(0, (.arr true false editR o0))], nx := 1, io := [] }
def sh_s_l10Log_3_0 : Ss := { tm := (.cons (.x) (.cons (.pb 0 0) (.cons (.x) (.cons (.w 1) (.cons (.int .i64) (xsh 18)))))), ob := (.box (.cons (.l .no bytesR) (.cons (.l .no bytesR) (.cons (.l .no commitR) (.cons (.int .i64) (.cons (.l .no memberR) (.cons (.l .no leaseR) .nil)))))) (.arr true true editR .nil)), nx := 2, io := .nil }
def d_s_l10Log_3_0 (x4 : Int) (b00 : List Int) (b01 : List Int) (b02 : List T_Commit) (b03 : Int) (b04 : List T_Member) (b05 : List T_Lease) (o1 : List T_Edit) : sh_s_l10Log_3_0.T := (((), ((), ((), ((), (x4, xd 18))))), ((b00, (b01, (b02, (b03, (b04, (b05, ())))))), (o1, ())), ())
def s_s_l10Log_3_0 (x4 : Int) (b00 : List Int) (b01 : List Int) (b02 : List T_Commit) (b03 : Int) (b04 : List T_Member) (b05 : List T_Lease) (o1 : List T_Edit) : St := { tm := ([.x, (.pb 0 0), .x, (.w 1), (.s (.int .i64 x4))] ++ List.replicate 18 .x), ob := [(0, (.box [(.l .no bytesR b00), (.l .no bytesR b01), (.l .no commitR b02), (.s (.int .i64 b03)), (.l .no memberR b04), (.l .no leaseR b05)])), (1, (.arr true true editR o1))], nx := 2, io := [] }
theorem se_s_l10Log_3_0 (x4 : Int) (b00 : List Int) (b01 : List Int) (b02 : List T_Commit) (b03 : Int) (b04 : List T_Member) (b05 : List T_Lease) (o1 : List T_Edit) : sh_s_l10Log_3_0.mk' (d_s_l10Log_3_0 x4 b00 b01 b02 b03 b04 b05 o1) = (s_s_l10Log_3_0 x4 b00 b01 b02 b03 b04 b05 o1) := by kernel_rfl
def w_s_l10Log_3_0 (d : sh_s_l10Log_3_0.T) (f : Int → (List Int) → (List Int) → (List T_Commit) → Int → (List T_Member) → (List T_Lease) → (List T_Edit) → Option Ret) : Option Ret := match d with | ((_, (_, (_, (_, (x4, _))))), ((b00, (b01, (b02, (b03, (b04, (b05, _)))))), (o1, _)), _) => f x4 b00 b01 b02 b03 b04 b05 o1
noncomputable def P_s_l10Log_3_0 (x4 : Int) (b00 : List Int) (b01 : List Int) (b02 : List T_Commit) (b03 : Int) (b04 : List T_Member) (b05 : List T_Lease) (o1 : List T_Edit) (nx0 : Int → (List Int) → (List Int) → (List T_Commit) → Int → (List T_Member) → (List T_Lease) → (List T_Edit) → Option Ret) (nx1 : Int → (List Int) → (List Int) → (List T_Commit) → Int → (List T_Member) → (List T_Lease) → (List T_Edit) → Option Ret) (k0 : (List T_Edit) → Option Ret) (k1 : (List T_Edit) → Option Ret) : Option Ret := (bif (decide (x4 < (((List.length b02) : Nat) : Int))) then (bif ((decide ((0 : Int) ≤ x4)) && (decide (x4 < (((List.length b02) : Nat) : Int)))) then (bif (Nat.ble (((List.length o1) + (List.length ((List.getD b02 (Int.toNat x4) (commitR.dflt)).2 :: []))) * 40) 140737488355328) then (nx1 (IntKind.wrap .i64 (x4 + (1 : Int))) b00 b01 b02 b03 b04 b05 (o1 ++ ((List.getD b02 (Int.toNat x4) (commitR.dflt)).2 :: []))) else none) else none) else (k0 o1))
def sh_s_l10Log_3_1 : Ss := { tm := (.cons (.x) (.cons (.pb 0 0) (.cons (.x) (.cons (.w 1) (.cons (.int .i64) (xsh 18)))))), ob := (.box (.cons (.l .no bytesR) (.cons (.l .no bytesR) (.cons (.l .no commitR) (.cons (.int .i64) (.cons (.l .no memberR) (.cons (.l .no leaseR) .nil)))))) (.arr true false editR .nil)), nx := 2, io := .nil }
def d_s_l10Log_3_1 (x4 : Int) (b00 : List Int) (b01 : List Int) (b02 : List T_Commit) (b03 : Int) (b04 : List T_Member) (b05 : List T_Lease) (o1 : List T_Edit) : sh_s_l10Log_3_1.T := (((), ((), ((), ((), (x4, xd 18))))), ((b00, (b01, (b02, (b03, (b04, (b05, ())))))), (o1, ())), ())
def s_s_l10Log_3_1 (x4 : Int) (b00 : List Int) (b01 : List Int) (b02 : List T_Commit) (b03 : Int) (b04 : List T_Member) (b05 : List T_Lease) (o1 : List T_Edit) : St := { tm := ([.x, (.pb 0 0), .x, (.w 1), (.s (.int .i64 x4))] ++ List.replicate 18 .x), ob := [(0, (.box [(.l .no bytesR b00), (.l .no bytesR b01), (.l .no commitR b02), (.s (.int .i64 b03)), (.l .no memberR b04), (.l .no leaseR b05)])), (1, (.arr true false editR o1))], nx := 2, io := [] }
theorem se_s_l10Log_3_1 (x4 : Int) (b00 : List Int) (b01 : List Int) (b02 : List T_Commit) (b03 : Int) (b04 : List T_Member) (b05 : List T_Lease) (o1 : List T_Edit) : sh_s_l10Log_3_1.mk' (d_s_l10Log_3_1 x4 b00 b01 b02 b03 b04 b05 o1) = (s_s_l10Log_3_1 x4 b00 b01 b02 b03 b04 b05 o1) := by kernel_rfl
def w_s_l10Log_3_1 (d : sh_s_l10Log_3_1.T) (f : Int → (List Int) → (List Int) → (List T_Commit) → Int → (List T_Member) → (List T_Lease) → (List T_Edit) → Option Ret) : Option Ret := match d with | ((_, (_, (_, (_, (x4, _))))), ((b00, (b01, (b02, (b03, (b04, (b05, _)))))), (o1, _)), _) => f x4 b00 b01 b02 b03 b04 b05 o1
noncomputable def P_s_l10Log_3_1 (x4 : Int) (b00 : List Int) (b01 : List Int) (b02 : List T_Commit) (b03 : Int) (b04 : List T_Member) (b05 : List T_Lease) (o1 : List T_Edit) (nx0 : Int → (List Int) → (List Int) → (List T_Commit) → Int → (List T_Member) → (List T_Lease) → (List T_Edit) → Option Ret) (nx1 : Int → (List Int) → (List Int) → (List T_Commit) → Int → (List T_Member) → (List T_Lease) → (List T_Edit) → Option Ret) (k0 : (List T_Edit) → Option Ret) (k1 : (List T_Edit) → Option Ret) : Option Ret := (bif (decide (x4 < (((List.length b02) : Nat) : Int))) then (bif ((decide ((0 : Int) ≤ x4)) && (decide (x4 < (((List.length b02) : Nat) : Int)))) then (bif (Nat.ble (((List.length o1) + (List.length ((List.getD b02 (Int.toNat x4) (commitR.dflt)).2 :: []))) * 40) 140737488355328) then (nx1 (IntKind.wrap .i64 (x4 + (1 : Int))) b00 b01 b02 b03 b04 b05 (o1 ++ ((List.getD b02 (Int.toNat x4) (commitR.dflt)).2 :: []))) else none) else none) else (k1 o1))
mutual
noncomputable def Q_s_l10Log_3_0 : Nat → Int → (List Int) → (List Int) → (List T_Commit) → Int → (List T_Member) → (List T_Lease) → (List T_Edit) → ((List T_Edit) → Option Ret) → ((List T_Edit) → Option Ret) → Option Ret
  | 0, _, _, _, _, _, _, _, _, _, _ => none
  | m + 1, x4, b00, b01, b02, b03, b04, b05, o1, k0, k1 => P_s_l10Log_3_0 x4 b00 b01 b02 b03 b04 b05 o1 (fun x4 b00 b01 b02 b03 b04 b05 o1 => (Q_s_l10Log_3_0 m x4 b00 b01 b02 b03 b04 b05 o1 k0 k1)) (fun x4 b00 b01 b02 b03 b04 b05 o1 => (Q_s_l10Log_3_1 m x4 b00 b01 b02 b03 b04 b05 o1 k0 k1)) k0 k1
noncomputable def Q_s_l10Log_3_1 : Nat → Int → (List Int) → (List Int) → (List T_Commit) → Int → (List T_Member) → (List T_Lease) → (List T_Edit) → ((List T_Edit) → Option Ret) → ((List T_Edit) → Option Ret) → Option Ret
  | 0, _, _, _, _, _, _, _, _, _, _ => none
  | m + 1, x4, b00, b01, b02, b03, b04, b05, o1, k0, k1 => P_s_l10Log_3_1 x4 b00 b01 b02 b03 b04 b05 o1 (fun x4 b00 b01 b02 b03 b04 b05 o1 => (Q_s_l10Log_3_0 m x4 b00 b01 b02 b03 b04 b05 o1 k0 k1)) (fun x4 b00 b01 b02 b03 b04 b05 o1 => (Q_s_l10Log_3_1 m x4 b00 b01 b02 b03 b04 b05 o1 k0 k1)) k0 k1
end
noncomputable def R_s_l10Log_3_0 (x4 : Int) (b00 : List Int) (b01 : List Int) (b02 : List T_Commit) (b03 : Int) (b04 : List T_Member) (b05 : List T_Lease) (o1 : List T_Edit) (k0 : (List T_Edit) → Option Ret) (k1 : (List T_Edit) → Option Ret) : Option Ret := Q_s_l10Log_3_0 (x4.toNat + List.length b00 + List.length b01 + List.length b02 + b03.toNat + List.length b04 + List.length b05 + List.length o1 + 2) x4 b00 b01 b02 b03 b04 b05 o1 k0 k1
noncomputable def R_s_l10Log_3_1 (x4 : Int) (b00 : List Int) (b01 : List Int) (b02 : List T_Commit) (b03 : Int) (b04 : List T_Member) (b05 : List T_Lease) (o1 : List T_Edit) (k0 : (List T_Edit) → Option Ret) (k1 : (List T_Edit) → Option Ret) : Option Ret := Q_s_l10Log_3_1 (x4.toNat + List.length b00 + List.length b01 + List.length b02 + b03.toNat + List.length b04 + List.length b05 + List.length o1 + 2) x4 b00 b01 b02 b03 b04 b05 o1 k0 k1
noncomputable def W_s_l10Log_3 : LoopFn := (fun (σ : St) (K : Ex → St → Option Ret) => (match sh_s_l10Log_3_0.un σ with | some d => w_s_l10Log_3_0 d (fun x4 b00 b01 b02 b03 b04 b05 o1 => R_s_l10Log_3_0 x4 b00 b01 b02 b03 b04 b05 o1 (fun o0 => (K (.ext 0) (z_s_l10Log_3_0 o0))) (fun o0 => (K (.ext 0) (z_s_l10Log_3_1 o0)))) | none => (match sh_s_l10Log_3_1.un σ with | some d => w_s_l10Log_3_1 d (fun x4 b00 b01 b02 b03 b04 b05 o1 => R_s_l10Log_3_1 x4 b00 b01 b02 b03 b04 b05 o1 (fun o0 => (K (.ext 0) (z_s_l10Log_3_0 o0))) (fun o0 => (K (.ext 0) (z_s_l10Log_3_1 o0)))) | none => none)))
noncomputable abbrev E_s_l10Log : Env := En [] [] [(3, [1,3,4], [2,3], W_s_l10Log_3)] [] false 0 []
theorem st_s_l10Log_3_0 (m : Nat) (x4 : Int) (b00 : List Int) (b01 : List Int) (b02 : List T_Commit) (b03 : Int) (b04 : List T_Member) (b05 : List T_Lease) (o1 : List T_Edit) (K : Ex → St → Option Ret) : rounds (run E_s_l10Log (bodyOf F.s_l10Log 3)) [1,3,4] [2,3] (m + 1) (s_s_l10Log_3_0 x4 b00 b01 b02 b03 b04 b05 o1) K = P_s_l10Log_3_0 x4 b00 b01 b02 b03 b04 b05 o1 (fun x4 b00 b01 b02 b03 b04 b05 o1 => (rounds (run E_s_l10Log (bodyOf F.s_l10Log 3)) [1,3,4] [2,3] m (s_s_l10Log_3_0 x4 b00 b01 b02 b03 b04 b05 o1) K)) (fun x4 b00 b01 b02 b03 b04 b05 o1 => (rounds (run E_s_l10Log (bodyOf F.s_l10Log 3)) [1,3,4] [2,3] m (s_s_l10Log_3_1 x4 b00 b01 b02 b03 b04 b05 o1) K)) (fun o0 => (K (.ext 0) (z_s_l10Log_3_0 o0))) (fun o0 => (K (.ext 0) (z_s_l10Log_3_1 o0))) := by kernel_rfl
theorem st_s_l10Log_3_1 (m : Nat) (x4 : Int) (b00 : List Int) (b01 : List Int) (b02 : List T_Commit) (b03 : Int) (b04 : List T_Member) (b05 : List T_Lease) (o1 : List T_Edit) (K : Ex → St → Option Ret) : rounds (run E_s_l10Log (bodyOf F.s_l10Log 3)) [1,3,4] [2,3] (m + 1) (s_s_l10Log_3_1 x4 b00 b01 b02 b03 b04 b05 o1) K = P_s_l10Log_3_1 x4 b00 b01 b02 b03 b04 b05 o1 (fun x4 b00 b01 b02 b03 b04 b05 o1 => (rounds (run E_s_l10Log (bodyOf F.s_l10Log 3)) [1,3,4] [2,3] m (s_s_l10Log_3_0 x4 b00 b01 b02 b03 b04 b05 o1) K)) (fun x4 b00 b01 b02 b03 b04 b05 o1 => (rounds (run E_s_l10Log (bodyOf F.s_l10Log 3)) [1,3,4] [2,3] m (s_s_l10Log_3_1 x4 b00 b01 b02 b03 b04 b05 o1) K)) (fun o0 => (K (.ext 0) (z_s_l10Log_3_0 o0))) (fun o0 => (K (.ext 0) (z_s_l10Log_3_1 o0))) := by kernel_rfl
theorem q_s_l10Log_3 (K : Ex → St → Option Ret) : ∀ m : Nat, (∀ (x4 : Int) (b00 : List Int) (b01 : List Int) (b02 : List T_Commit) (b03 : Int) (b04 : List T_Member) (b05 : List T_Lease) (o1 : List T_Edit), rounds (run E_s_l10Log (bodyOf F.s_l10Log 3)) [1,3,4] [2,3] m (s_s_l10Log_3_0 x4 b00 b01 b02 b03 b04 b05 o1) K = Q_s_l10Log_3_0 m x4 b00 b01 b02 b03 b04 b05 o1 (fun o0 => (K (.ext 0) (z_s_l10Log_3_0 o0))) (fun o0 => (K (.ext 0) (z_s_l10Log_3_1 o0)))) ∧ (∀ (x4 : Int) (b00 : List Int) (b01 : List Int) (b02 : List T_Commit) (b03 : Int) (b04 : List T_Member) (b05 : List T_Lease) (o1 : List T_Edit), rounds (run E_s_l10Log (bodyOf F.s_l10Log 3)) [1,3,4] [2,3] m (s_s_l10Log_3_1 x4 b00 b01 b02 b03 b04 b05 o1) K = Q_s_l10Log_3_1 m x4 b00 b01 b02 b03 b04 b05 o1 (fun o0 => (K (.ext 0) (z_s_l10Log_3_0 o0))) (fun o0 => (K (.ext 0) (z_s_l10Log_3_1 o0))))
  | 0 => ⟨(fun _ _ _ _ _ _ _ _ => rfl), (fun _ _ _ _ _ _ _ _ => rfl)⟩
  | m + 1 => ⟨(fun x4 b00 b01 b02 b03 b04 b05 o1 => (by rw [st_s_l10Log_3_0, show (fun x4 b00 b01 b02 b03 b04 b05 o1 => (rounds (run E_s_l10Log (bodyOf F.s_l10Log 3)) [1,3,4] [2,3] m (s_s_l10Log_3_0 x4 b00 b01 b02 b03 b04 b05 o1) K)) = (fun x4 b00 b01 b02 b03 b04 b05 o1 => (Q_s_l10Log_3_0 m x4 b00 b01 b02 b03 b04 b05 o1 (fun o0 => (K (.ext 0) (z_s_l10Log_3_0 o0))) (fun o0 => (K (.ext 0) (z_s_l10Log_3_1 o0))))) from funext fun x4 => funext fun b00 => funext fun b01 => funext fun b02 => funext fun b03 => funext fun b04 => funext fun b05 => funext fun o1 => (q_s_l10Log_3 K m).1 x4 b00 b01 b02 b03 b04 b05 o1, show (fun x4 b00 b01 b02 b03 b04 b05 o1 => (rounds (run E_s_l10Log (bodyOf F.s_l10Log 3)) [1,3,4] [2,3] m (s_s_l10Log_3_1 x4 b00 b01 b02 b03 b04 b05 o1) K)) = (fun x4 b00 b01 b02 b03 b04 b05 o1 => (Q_s_l10Log_3_1 m x4 b00 b01 b02 b03 b04 b05 o1 (fun o0 => (K (.ext 0) (z_s_l10Log_3_0 o0))) (fun o0 => (K (.ext 0) (z_s_l10Log_3_1 o0))))) from funext fun x4 => funext fun b00 => funext fun b01 => funext fun b02 => funext fun b03 => funext fun b04 => funext fun b05 => funext fun o1 => (q_s_l10Log_3 K m).2 x4 b00 b01 b02 b03 b04 b05 o1]; rfl)), (fun x4 b00 b01 b02 b03 b04 b05 o1 => (by rw [st_s_l10Log_3_1, show (fun x4 b00 b01 b02 b03 b04 b05 o1 => (rounds (run E_s_l10Log (bodyOf F.s_l10Log 3)) [1,3,4] [2,3] m (s_s_l10Log_3_0 x4 b00 b01 b02 b03 b04 b05 o1) K)) = (fun x4 b00 b01 b02 b03 b04 b05 o1 => (Q_s_l10Log_3_0 m x4 b00 b01 b02 b03 b04 b05 o1 (fun o0 => (K (.ext 0) (z_s_l10Log_3_0 o0))) (fun o0 => (K (.ext 0) (z_s_l10Log_3_1 o0))))) from funext fun x4 => funext fun b00 => funext fun b01 => funext fun b02 => funext fun b03 => funext fun b04 => funext fun b05 => funext fun o1 => (q_s_l10Log_3 K m).1 x4 b00 b01 b02 b03 b04 b05 o1, show (fun x4 b00 b01 b02 b03 b04 b05 o1 => (rounds (run E_s_l10Log (bodyOf F.s_l10Log 3)) [1,3,4] [2,3] m (s_s_l10Log_3_1 x4 b00 b01 b02 b03 b04 b05 o1) K)) = (fun x4 b00 b01 b02 b03 b04 b05 o1 => (Q_s_l10Log_3_1 m x4 b00 b01 b02 b03 b04 b05 o1 (fun o0 => (K (.ext 0) (z_s_l10Log_3_0 o0))) (fun o0 => (K (.ext 0) (z_s_l10Log_3_1 o0))))) from funext fun x4 => funext fun b00 => funext fun b01 => funext fun b02 => funext fun b03 => funext fun b04 => funext fun b05 => funext fun o1 => (q_s_l10Log_3 K m).2 x4 b00 b01 b02 b03 b04 b05 o1]; rfl))⟩
theorem loopK_s_l10Log_3 : LoopOk E_s_l10Log (bodyOf F.s_l10Log 3) := by
  refine loopW_ok (n := 3) (F := W_s_l10Log_3) (by kernel_rfl) rfl (li := [1,3,4]) (lo := [2,3]) rfl (fun σ K r hr => ?_)
  unfold W_s_l10Log_3 at hr
  split at hr
  · rename_i d hd
    rw [Ss.un_mk hd]
    exact ⟨_, ((congrArg (fun z => rounds (run E_s_l10Log (bodyOf F.s_l10Log 3)) [1,3,4] [2,3] _ z K) (se_s_l10Log_3_0 _ _ _ _ _ _ _ _)).trans ((q_s_l10Log_3 K _).1 _ _ _ _ _ _ _ _)).trans hr⟩
  · split at hr
    · rename_i d hd
      rw [Ss.un_mk hd]
      exact ⟨_, ((congrArg (fun z => rounds (run E_s_l10Log (bodyOf F.s_l10Log 3)) [1,3,4] [2,3] _ z K) (se_s_l10Log_3_1 _ _ _ _ _ _ _ _)).trans ((q_s_l10Log_3 K _).2 _ _ _ _ _ _ _ _)).trans hr⟩
    · cases hr
noncomputable def T_s_l10Log (d : T_Doc) (K : Ret → Option Ret) : Option Ret := (R_s_l10Log_3_0 (0 : Int) d.1 d.2.1 d.2.2.1 d.2.2.2.1 d.2.2.2.2.1 d.2.2.2.2.2 [] (fun y0 => K ((.l .deep editR y0), [])) (fun y1 => K ((.l .top editR y1), [])))
theorem e_s_l10Log (d : T_Doc) (K : Ret → Option Ret) : evF E_s_l10Log false F.s_l10Log [.a (docR.cells .no d)] K = T_s_l10Log d K := by kernel_rfl
def S_s_l10Log : Sm := S_fnR [.a docR] (fun d => Nat.ble d.1.2.2.1.length 1048576) (fun d => (.l .no editR (logD d.1.2.2.1), []))
theorem v_s_l10Log (d : T_Doc) (h : (Nat.ble d.2.2.1.length 1048576) = true) (K : Ret → Option Ret) : T_s_l10Log d (noK K) = K (.l .no editR (logD d.2.2.1), []) := by
  have hl := Nat.le_of_ble_eq_true h
  obtain ⟨st, tx, lg, ck, mb, ls⟩ := d
  have hl : lg.length ≤ 1048576 := hl
  unfold T_s_l10Log
  have q : ∀ (k0 k1 : List T_Edit → Option Ret) (m i : Nat), i ≤ lg.length → lg.length - i < m → Q_s_l10Log_3_1 m ((i : Nat) : Int) st tx lg ck mb ls (logD (lg.take i)) k0 k1 = k1 (logD lg) := by
    intro k0 k1 m
    induction m with
    | zero => intro i _ hm; omega
    | succ m ih =>
      intro i hi hm
      show P_s_l10Log_3_1 ((i : Nat) : Int) st tx lg ck mb ls _ _ _ _ _ = _
      unfold P_s_l10Log_3_1
      by_cases hlt : i < lg.length
      · have ht : logD (lg.take i) ++ [(lg.getD i commitR.dflt).2] = logD (lg.take (i + 1)) := by
          rw [← take_snoc commitR.dflt hlt]
          unfold logD
          rw [List.map_append]; rfl
        rw [decide_eq_true (show ((i : Nat) : Int) < ((lg.length : Nat) : Int) by omega), decide_eq_true (show (0 : Int) ≤ ((i : Nat) : Int) by omega), Int.toNat_natCast, wrap_nat (by omega), Nat.ble_eq_true_of_le (show ((logD (lg.take i)).length + [(lg.getD i commitR.dflt).2].length) * 40 ≤ 140737488355328 by unfold logD; simp only [List.length_map, List.length_take, List.length_cons, List.length_nil]; omega), ht]
        exact ih (i + 1) (by omega) (by omega)
      · obtain rfl : i = lg.length := by omega
        rw [decide_eq_false (show ¬ ((lg.length : Nat) : Int) < ((lg.length : Nat) : Int) by omega), List.take_length]; rfl
  have hq : ∀ (m : Nat) (k0 k1 : List T_Edit → Option Ret), Q_s_l10Log_3_0 (m + 1) 0 st tx lg ck mb ls [] k0 k1 = P_s_l10Log_3_0 0 st tx lg ck mb ls [] (fun a b c d e f g x => Q_s_l10Log_3_0 m a b c d e f g x k0 k1) (fun a b c d e f g x => Q_s_l10Log_3_1 m a b c d e f g x k0 k1) k0 k1 := fun _ _ _ => rfl
  refine (hq ((0 : Int).toNat + List.length st + List.length tx + List.length lg + ck.toNat + List.length mb + List.length ls + List.length ([] : List T_Edit) + 1) _ _).trans ?_
  unfold P_s_l10Log_3_0
  by_cases hlt : 0 < lg.length
  · have ht : ([] : List T_Edit) ++ [(lg.getD 0 commitR.dflt).2] = logD (lg.take 1) := by
      rw [← take_snoc (i := 0) commitR.dflt hlt]; rfl
    rw [decide_eq_true (show (0 : Int) < ((lg.length : Nat) : Int) by omega), show Int.toNat 0 = 0 from rfl, Nat.ble_eq_true_of_le (by simp), ht]
    exact q _ _ _ 1 (by omega) (by omega)
  · have h0 : lg = [] := List.length_eq_zero_iff.1 (by omega)
    subst h0
    rfl
theorem okS_s_l10Log : OkFn prog I N.s_l10Log false S_s_l10Log := okN (OkFn.no (ok_fn (fresh := false) mem0 (l := []) (p := []) (ls := [(3, [1,3,4], [2,3], W_s_l10Log_3)]) (lend := []) (focus := false) (fuel := 0) (give := []) (fn := F.s_l10Log) (by kernel_rfl) (by kernel_rfl) (by kernel_rfl) (by kernel_rfl) (cs := [bodyOf F.s_l10Log 3]) (by kernel_rfl) (loopsc loopK_s_l10Log_3 loops0))) (S_fnR_of fun d K h => (e_s_l10Log d.1 (noK K)).trans (v_s_l10Log d.1 h K))
end Go.Ev.Seat
end
section
/- s_RuneBytes: its contract. -/
namespace Go.Ev.Seat
open Go.RowKit
set_option maxRecDepth 100000
set_option linter.unusedVariables false
set_option linter.unusedSimpArgs false
noncomputable abbrev E_s_RuneBytes : Env := En [] [] [] [] false 0 []
noncomputable def T_s_RuneBytes (r : Int) (K : Ret → Option Ret) : Option Ret := (bif (decide (r < (0 : Int))) then K ((.l .deep bytesR ([] : List Int)), []) else (bif (decide (r > (1114111 : Int))) then K ((.l .deep bytesR ([] : List Int)), []) else (bif (decide (r ≥ (55296 : Int))) then (bif (decide (r ≤ (57343 : Int))) then K ((.l .deep bytesR ([] : List Int)), []) else (bif (decide (r < (128 : Int))) then K ((.l .deep bytesR ((IntKind.wrap .u8 r) :: ([] : List Int))), []) else (bif (decide (r < (2048 : Int))) then K ((.l .deep bytesR ((IntKind.wrap .u8 (IntKind.wrap .i64 ((192 : Int) + (IntKind.wrap .i64 (Int.tdiv r (64 : Int)))))) :: ((IntKind.wrap .u8 (IntKind.wrap .i64 ((128 : Int) + (Int.tmod r (64 : Int))))) :: ([] : List Int)))), []) else (bif (decide (r < (65536 : Int))) then K ((.l .deep bytesR ((IntKind.wrap .u8 (IntKind.wrap .i64 ((224 : Int) + (IntKind.wrap .i64 (Int.tdiv r (4096 : Int)))))) :: ((IntKind.wrap .u8 (IntKind.wrap .i64 ((128 : Int) + (Int.tmod (IntKind.wrap .i64 (Int.tdiv r (64 : Int))) (64 : Int))))) :: ((IntKind.wrap .u8 (IntKind.wrap .i64 ((128 : Int) + (Int.tmod r (64 : Int))))) :: ([] : List Int))))), []) else K ((.l .deep bytesR ((IntKind.wrap .u8 (IntKind.wrap .i64 ((240 : Int) + (IntKind.wrap .i64 (Int.tdiv r (262144 : Int)))))) :: ((IntKind.wrap .u8 (IntKind.wrap .i64 ((128 : Int) + (Int.tmod (IntKind.wrap .i64 (Int.tdiv r (4096 : Int))) (64 : Int))))) :: ((IntKind.wrap .u8 (IntKind.wrap .i64 ((128 : Int) + (Int.tmod (IntKind.wrap .i64 (Int.tdiv r (64 : Int))) (64 : Int))))) :: ((IntKind.wrap .u8 (IntKind.wrap .i64 ((128 : Int) + (Int.tmod r (64 : Int))))) :: ([] : List Int)))))), []))))) else (bif (decide (r < (128 : Int))) then K ((.l .deep bytesR ((IntKind.wrap .u8 r) :: ([] : List Int))), []) else (bif (decide (r < (2048 : Int))) then K ((.l .deep bytesR ((IntKind.wrap .u8 (IntKind.wrap .i64 ((192 : Int) + (IntKind.wrap .i64 (Int.tdiv r (64 : Int)))))) :: ((IntKind.wrap .u8 (IntKind.wrap .i64 ((128 : Int) + (Int.tmod r (64 : Int))))) :: ([] : List Int)))), []) else (bif (decide (r < (65536 : Int))) then K ((.l .deep bytesR ((IntKind.wrap .u8 (IntKind.wrap .i64 ((224 : Int) + (IntKind.wrap .i64 (Int.tdiv r (4096 : Int)))))) :: ((IntKind.wrap .u8 (IntKind.wrap .i64 ((128 : Int) + (Int.tmod (IntKind.wrap .i64 (Int.tdiv r (64 : Int))) (64 : Int))))) :: ((IntKind.wrap .u8 (IntKind.wrap .i64 ((128 : Int) + (Int.tmod r (64 : Int))))) :: ([] : List Int))))), []) else K ((.l .deep bytesR ((IntKind.wrap .u8 (IntKind.wrap .i64 ((240 : Int) + (IntKind.wrap .i64 (Int.tdiv r (262144 : Int)))))) :: ((IntKind.wrap .u8 (IntKind.wrap .i64 ((128 : Int) + (Int.tmod (IntKind.wrap .i64 (Int.tdiv r (4096 : Int))) (64 : Int))))) :: ((IntKind.wrap .u8 (IntKind.wrap .i64 ((128 : Int) + (Int.tmod (IntKind.wrap .i64 (Int.tdiv r (64 : Int))) (64 : Int))))) :: ((IntKind.wrap .u8 (IntKind.wrap .i64 ((128 : Int) + (Int.tmod r (64 : Int))))) :: ([] : List Int)))))), [])))))))
theorem e_s_RuneBytes (r : Int) (K : Ret → Option Ret) : evF E_s_RuneBytes true F.s_RuneBytes [.s (.int .i64 r)] K = T_s_RuneBytes r K := by kernel_rfl
def S_s_RuneBytes : Sm := S_fnR [.i] (fun d => true) (fun d => (.l .deep bytesR (encD d.1), []))
theorem v_s_RuneBytes (r : Int) (K : Ret → Option Ret) : T_s_RuneBytes r K = K (.l .deep bytesR (encD r), []) := by
  unfold T_s_RuneBytes encD
  by_cases h1 : r < 0
  · rw [decide_eq_true h1, if_pos (by omega)]; rfl
  by_cases h2 : r > 1114111
  · rw [decide_eq_false h1, decide_eq_true h2, if_pos (by omega)]; rfl
  rw [decide_eq_false h1, decide_eq_false h2]
  have key : (bif (decide (r < (128 : Int))) then K ((.l .deep bytesR ((IntKind.wrap .u8 r) :: [])), []) else (bif (decide (r < (2048 : Int))) then
     K ((.l .deep bytesR ((IntKind.wrap .u8 (IntKind.wrap .i64 ((192 : Int) + (IntKind.wrap .i64 (Int.tdiv r (64 : Int)))))) :: ((IntKind.wrap .u8 (IntKind.wrap .i64 ((128 : Int) + (Int.tmod r (64 : Int))))) :: []))), [])
     else (bif (decide (r < (65536 : Int))) then
      K ((.l .deep bytesR ((IntKind.wrap .u8 (IntKind.wrap .i64 ((224 : Int) + (IntKind.wrap .i64 (Int.tdiv r (4096 : Int)))))) :: ((IntKind.wrap .u8 (IntKind.wrap .i64 ((128 : Int) + (Int.tmod (IntKind.wrap .i64 (Int.tdiv r (64 : Int))) (64 : Int))))) :: ((IntKind.wrap .u8 (IntKind.wrap .i64 ((128 : Int) + (Int.tmod r (64 : Int))))) :: [])))), [])
      else K ((.l .deep bytesR ((IntKind.wrap .u8 (IntKind.wrap .i64 ((240 : Int) + (IntKind.wrap .i64 (Int.tdiv r (262144 : Int)))))) :: ((IntKind.wrap .u8 (IntKind.wrap .i64 ((128 : Int) + (Int.tmod (IntKind.wrap .i64 (Int.tdiv r (4096 : Int))) (64 : Int))))) :: ((IntKind.wrap .u8 (IntKind.wrap .i64 ((128 : Int) + (Int.tmod (IntKind.wrap .i64 (Int.tdiv r (64 : Int))) (64 : Int))))) :: ((IntKind.wrap .u8 (IntKind.wrap .i64 ((128 : Int) + (Int.tmod r (64 : Int))))) :: []))))), [])))) = K (.l .deep bytesR (if r < 128 then [r] else if r < 2048 then [192 + r / 64, 128 + r % 64] else if r < 65536 then [224 + r / 4096, 128 + r / 64 % 64, 128 + r % 64] else [240 + r / 262144, 128 + r / 4096 % 64, 128 + r / 64 % 64, 128 + r % 64]), []) := by
    rw [Int.tdiv_eq_ediv_of_nonneg (by omega), Int.tdiv_eq_ediv_of_nonneg (by omega), Int.tdiv_eq_ediv_of_nonneg (by omega), Int.tmod_eq_emod_of_nonneg (by omega)]
    by_cases c1 : r < 128
    · rw [decide_eq_true c1, if_pos c1, wrap8 (by omega) (by omega)]; rfl
    rw [decide_eq_false c1, if_neg c1]
    by_cases c2 : r < 2048
    · rw [decide_eq_true c2, if_pos c2]
      simp (disch := omega) only [wrap_in, wrap8, cond_true, cond_false]
    rw [decide_eq_false c2, if_neg c2]
    by_cases c3 : r < 65536
    · rw [decide_eq_true c3, if_pos c3]
      simp (disch := omega) only [wrap_in, wrap8, Int.tmod_eq_emod_of_nonneg, cond_true, cond_false]
    · rw [decide_eq_false c3, if_neg c3]
      simp (disch := omega) only [wrap_in, wrap8, Int.tmod_eq_emod_of_nonneg, cond_true, cond_false]
  by_cases h3 : r ≥ 55296
  · by_cases h4 : r ≤ 57343
    · rw [decide_eq_true h3, decide_eq_true h4, if_pos (by omega)]; rfl
    · rw [decide_eq_true h3, decide_eq_false h4, if_neg (by omega)]; exact key
  · rw [decide_eq_false h3, if_neg (by omega)]; exact key
theorem okS_s_RuneBytes : OkFn prog I N.s_RuneBytes true S_s_RuneBytes := okN (ok_fn mem0 (l := []) (p := []) (ls := []) (lend := []) (focus := false) (fuel := 0) (give := []) (fn := F.s_RuneBytes) (by kernel_rfl) (by kernel_rfl) (by kernel_rfl) (by kernel_rfl) (cs := []) (by kernel_rfl) loops0) (S_fnR_of fun d K h => (e_s_RuneBytes d.1 K).trans (v_s_RuneBytes d.1 K))
end Go.Ev.Seat
end
