/- LeaseBook: parts FsDrawLeaseTake Fiin FiisSession FiisLease FcmpisNaNint FcmpCompareint FcmpOrint FicompareLeases FiareLeases FiisClock FiLeaseisActive PBs FslicesBinarySearchFuncLease FslicesCloneLease EvIns FslicesInsertLease PLease2 PLease3 FileaseTake FiLeaseTake FlsameLeases FslicesDeleteLease FileaseDrop FiLeaseDrop FiLeaseAll1 FileasesThatAll FiLeaseAll FiLeaseExpire1 FileasesThatExp FiLeaseExpire PLease4 PLease5, packed by squash.py. -/
import Derived.Lib.Overlaps
import Derived.Lib.AppendZeros
import Derived.Laws.CopyRow
import Derived.Laws.Externs
import Derived.Shelf.RegionOpenPlain
import Derived.WalkKit
import Derived.OwnWalk
import Derived.Lib.Walk
import Derived.Lib.SliceRun
import Derived.Lib.JoinLaws
import Derived.Laws.IdiomCopy
import Derived.Test.YtpokeekakmijlaaZLeaseBook0
import Derived.Test.YtpokeekakmijlaaZLeaseBook1
import Derived.Test.YtpokeekakmijlaaZLeaseBook2
import Derived.Test.YtpokeekakmijlaaZLeaseBook3
set_option linter.unusedVariables false
set_option linter.unusedSimpArgs false
section
/- s_DrawLeaseTake: its contract. -/
namespace Go.Ev.Seat
open Go.RowKit
set_option maxRecDepth 100000
set_option linter.unusedVariables false
set_option linter.unusedSimpArgs false
noncomputable abbrev pl_s_DrawLeaseTake : List (Nat × Plan × List Nat) := [(6, takeB [0, 1, 2] (.fork (.one 3 (takeB [4] (.fork (.one 5 (takes [6])))))), [5])]
noncomputable abbrev ls_s_DrawLeaseTake : List (Nat × Bool × Sm) := [(N.s_l01Open, false, S_s_l01Open), (N.s_l01Cur_leases, false, (SB_s_l01Cur_leases B_s_l01Cur_leases)), (N.s_l01Cur_badLease, false, (SB_s_l01Cur_badLease B_s_l01Cur_badLease)), (N.s_l01Cur_once, false, (SB_s_l01Cur_once B_s_l01Cur_once)), (N.s_l01Cur_leaseOf, false, (SB_s_l01Cur_leaseOf B_s_l01Cur_leaseOf)), (N.s_l01Cur_now, false, (SB_s_l01Cur_now B_s_l01Cur_now))]
noncomputable abbrev E_s_DrawLeaseTake : Env := En ls_s_DrawLeaseTake pl_s_DrawLeaseTake [] [] false 0 []
noncomputable def T_s_DrawLeaseTake (code : List Int) (K : Ret → Option Ret) : Option Ret := (bif (fitB code) then (B_s_l01Cur_leases code (0 : Int) (seedD code) (fun y0 y1 y2 => (B_s_l01Cur_badLease code y1 y2 (fun y3 y4 y5 y6 y7 y8 => (B_s_l01Cur_once code y7 y8 (6 : Int) (fun y9 y10 y11 => (bif y9 then (B_s_l01Cur_leaseOf code y10 y11 y0 (fun y12 y13 y14 y15 y16 y17 => (B_s_l01Cur_now code y16 y17 (fun y18 y19 y20 => K ((.t [(.l .no leaseR y0), (.a [(.s (.int .i64 y12)), (.s (.int .i64 y13)), (.s (.int .i64 y14)), (.s (.int .i64 y15))]), (.s (.int .i64 y18))]), []))))) else (B_s_l01Cur_now code y10 y11 (fun y21 y22 y23 => K ((.t [(.l .deep leaseR y0), (.a [(.s (.int .i64 y3)), (.s (.int .i64 y4)), (.s (.int .i64 y5)), (.s (.int .i64 y6))]), (.s (.int .i64 y21))]), [])))))))))) else none)
theorem e_s_DrawLeaseTake (code : List Int) (K : Ret → Option Ret) : evF E_s_DrawLeaseTake false F.s_DrawLeaseTake [.l .no bytesR code] K = T_s_DrawLeaseTake code K := by kernel_rfl
theorem x_s_DrawLeaseTake (code : List Int) (h : (fitB code) = true) : ∃ (l : List T_Lease) (y0 : Int) (y1 : Int) (y2 : Int) (y3 : Int) (n : Int), (l.length ≤ 14) ∧ ∀ K : Ret → Option Ret, T_s_DrawLeaseTake code (noK K) = K (.t [.l .no leaseR l, .a [.s (.int .i64 y0), .s (.int .i64 y1), .s (.int .i64 y2), .s (.int .i64 y3)], .s (.int .i64 n)], []) := by
  suffices hd : Dr (fun r : Ret => ∃ (l : List T_Lease) (y0 : Int) (y1 : Int) (y2 : Int) (y3 : Int) (n : Int), (l.length ≤ 14) ∧ r = (.t [.l .no leaseR l, .a [.s (.int .i64 y0), .s (.int .i64 y1), .s (.int .i64 y2), .s (.int .i64 y3)], .s (.int .i64 n)], [])) (fun K : Ret → Option Ret => T_s_DrawLeaseTake code (noK K)) by
    obtain ⟨_, ⟨l, y0, y1, y2, y3, n, hp, rfl⟩, hk⟩ := hd
    exact ⟨l, y0, y1, y2, y3, n, hp, hk⟩
  have hs : 0 ≤ seedD code ∧ seedD code < 65536 := by unfold seedD; omega
  have hl := fitB_len h
  unfold T_s_DrawLeaseTake
  refine Dr.must h ?_
  refine Dr.b3 (b_s_l01Cur_leases _ _ _ (curB_iff.2 ⟨h, by omega, by omega, by omega, by omega⟩)) (fun l a0 s0 hy0 => ?_)
  refine Dr.b6 (b_s_l01Cur_badLease _ _ _ (curB_iff.2 ⟨h, by omega, by omega, by omega, by omega⟩)) (fun y0 y1 y2 y3 a1 s1 hy1 => ?_)
  refine Dr.b3 (b_s_l01Cur_once _ _ _ _ (curB_iff.2 ⟨h, by omega, by omega, by omega, by omega⟩)) (fun b a2 s2 hy2 => ?_)
  refine Dr.bif (fun _ => ?_) (fun _ => ?_)
  · refine Dr.b6 (b_s_l01Cur_leaseOf _ _ _ _ ((Bool.and_eq_true _ _).mpr ⟨curB_iff.2 ⟨h, by omega, by omega, by omega, by omega⟩, Nat.ble_eq_true_of_le (by omega)⟩)) (fun z0 z1 z2 z3 a3 s3 hy3 => ?_)
    refine Dr.b3 (b_s_l01Cur_now _ _ _ (curB_iff.2 ⟨h, by omega, by omega, by omega, by omega⟩)) (fun n a4 s4 hy4 => ?_)
    exact Dr.leafN ⟨_, _, _, _, _, _, hy0.1, rfl⟩ rfl
  · refine Dr.b3 (b_s_l01Cur_now _ _ _ (curB_iff.2 ⟨h, by omega, by omega, by omega, by omega⟩)) (fun n a4 s4 hy4 => ?_)
    exact Dr.leafN ⟨_, _, _, _, _, _, hy0.1, rfl⟩ rfl
noncomputable def g_s_DrawLeaseTake (code : List Int) : List T_Lease × Int × Int × Int × Int × Int := Classical.epsilon fun g => ((g).1.length ≤ 14) ∧ ∀ K : Ret → Option Ret, T_s_DrawLeaseTake code (noK K) = K (.t [.l .no leaseR (g).1, .a [.s (.int .i64 (g).2.1), .s (.int .i64 (g).2.2.1), .s (.int .i64 (g).2.2.2.1), .s (.int .i64 (g).2.2.2.2.1)], .s (.int .i64 (g).2.2.2.2.2)], [])
theorem gs_s_DrawLeaseTake (code : List Int) (h : (fitB code) = true) : ((g_s_DrawLeaseTake code).1.length ≤ 14) ∧ ∀ K : Ret → Option Ret, T_s_DrawLeaseTake code (noK K) = K (.t [.l .no leaseR (g_s_DrawLeaseTake code).1, .a [.s (.int .i64 (g_s_DrawLeaseTake code).2.1), .s (.int .i64 (g_s_DrawLeaseTake code).2.2.1), .s (.int .i64 (g_s_DrawLeaseTake code).2.2.2.1), .s (.int .i64 (g_s_DrawLeaseTake code).2.2.2.2.1)], .s (.int .i64 (g_s_DrawLeaseTake code).2.2.2.2.2)], []) := by
  obtain ⟨l, y0, y1, y2, y3, n, hy, hk⟩ := x_s_DrawLeaseTake code h
  exact Classical.epsilon_spec (p := fun g : List T_Lease × Int × Int × Int × Int × Int => ((g).1.length ≤ 14) ∧ ∀ K : Ret → Option Ret, T_s_DrawLeaseTake code (noK K) = K (.t [.l .no leaseR (g).1, .a [.s (.int .i64 (g).2.1), .s (.int .i64 (g).2.2.1), .s (.int .i64 (g).2.2.2.1), .s (.int .i64 (g).2.2.2.2.1)], .s (.int .i64 (g).2.2.2.2.2)], [])) ⟨⟨l, y0, y1, y2, y3, n⟩, hy, hk⟩
noncomputable def B_s_DrawLeaseTake (code : List Int) (k : (List T_Lease) → (Int) → (Int) → (Int) → (Int) → (Int) → Option Ret) : Option Ret := bif fitB code then k (g_s_DrawLeaseTake code).1 (g_s_DrawLeaseTake code).2.1 (g_s_DrawLeaseTake code).2.2.1 (g_s_DrawLeaseTake code).2.2.2.1 (g_s_DrawLeaseTake code).2.2.2.2.1 (g_s_DrawLeaseTake code).2.2.2.2.2 else none
theorem b_s_DrawLeaseTake (code : List Int) (h : (fitB code) = true) : ∃ (l : List T_Lease) (y0 : Int) (y1 : Int) (y2 : Int) (y3 : Int) (n : Int), (l.length ≤ 14) ∧ ∀ k, B_s_DrawLeaseTake code k = k l y0 y1 y2 y3 n :=
  ⟨(g_s_DrawLeaseTake code).1, (g_s_DrawLeaseTake code).2.1, (g_s_DrawLeaseTake code).2.2.1, (g_s_DrawLeaseTake code).2.2.2.1, (g_s_DrawLeaseTake code).2.2.2.2.1, (g_s_DrawLeaseTake code).2.2.2.2.2, (gs_s_DrawLeaseTake code h).1, fun k => by unfold B_s_DrawLeaseTake; rw [h]; rfl⟩
def SB_s_DrawLeaseTake (B : (List Int) → ((List T_Lease) → (Int) → (Int) → (Int) → (Int) → (Int) → Option Ret) → Option Ret) : Sm := S_B [.l bytesR] (fun d K => B d.1 (fun l y0 y1 y2 y3 n => K (.t [.l .no leaseR l, .a [.s (.int .i64 y0), .s (.int .i64 y1), .s (.int .i64 y2), .s (.int .i64 y3)], .s (.int .i64 n)], [])))
theorem okS_s_DrawLeaseTake : OkFn prog I N.s_DrawLeaseTake false (SB_s_DrawLeaseTake B_s_DrawLeaseTake) := okN (OkFn.no (ok_fn (fresh := false) (memc okS_s_l01Open (memc okS_s_l01Cur_leases (memc okS_s_l01Cur_badLease (memc okS_s_l01Cur_once (memc okS_s_l01Cur_leaseOf (memc okS_s_l01Cur_now mem0)))))) (l := ls_s_DrawLeaseTake) (p := pl_s_DrawLeaseTake) (ls := []) (lend := []) (focus := false) (fuel := 0) (give := []) (fn := F.s_DrawLeaseTake) (by kernel_rfl) (by kernel_rfl) (by kernel_rfl) (by kernel_rfl) (cs := []) (by kernel_rfl) loops0)) (S_B_of fun d K q hq => by
  refine (e_s_DrawLeaseTake d.1 (noK K)).trans ?_
  unfold B_s_DrawLeaseTake at hq
  cases hp : (fitB d.1) with
  | false => rw [hp] at hq; cases hq
  | true =>
    rw [hp] at hq
    exact ((gs_s_DrawLeaseTake d.1 hp).2 K).trans hq)
end Go.Ev.Seat
end
section
/- i_in: its contract. -/
namespace Go.Ev.Seat
open Go.RowKit
set_option maxRecDepth 100000
set_option linter.unusedVariables false
set_option linter.unusedSimpArgs false
noncomputable abbrev E_i_in : Env := En [] [] [] [] false 0 []
noncomputable def T_i_in (n : Int) (low : Int) (high : Int) (K : Ret → Option Ret) : Option Ret := (bif (decide (low ≤ n)) then K ((.s (.bool (decide (n ≤ high)))), []) else K ((.s (.bool false)), []))
theorem e_i_in (n : Int) (low : Int) (high : Int) (K : Ret → Option Ret) : evF E_i_in true F.i_in [.s (.int .i64 n), .s (.int .i64 low), .s (.int .i64 high)] K = T_i_in n low high K := by kernel_rfl
def S_i_in : Sm := S_fnR [.i, .i, .i] (fun d => true) (fun d => (bl (decide (d.2.1 ≤ d.1) && decide (d.1 ≤ d.2.2.1)), []))
theorem v_i_in (n : Int) (low : Int) (high : Int) (K : Ret → Option Ret) : T_i_in n low high K = K (bl (decide (low ≤ n) && decide (n ≤ high)), []) := by
  unfold T_i_in; cases decide (low ≤ n) <;> rfl
theorem okS_i_in : OkFn prog I N.i_in true S_i_in := okN (ok_fn mem0 (l := []) (p := []) (ls := []) (lend := []) (focus := false) (fuel := 0) (give := []) (fn := F.i_in) (by kernel_rfl) (by kernel_rfl) (by kernel_rfl) (by kernel_rfl) (cs := []) (by kernel_rfl) loops0) (S_fnR_of fun d K h => (e_i_in d.1 d.2.1 d.2.2.1 K).trans (v_i_in d.1 d.2.1 d.2.2.1 K))
end Go.Ev.Seat
end
section
/- i_isSession: its contract. -/
namespace Go.Ev.Seat
open Go.RowKit
set_option maxRecDepth 100000
set_option linter.unusedVariables false
set_option linter.unusedSimpArgs false
noncomputable abbrev ls_i_isSession : List (Nat × Bool × Sm) := [(N.i_in, true, S_i_in)]
noncomputable abbrev E_i_isSession : Env := En ls_i_isSession [] [] [] false 0 []
noncomputable def T_i_isSession (k : Int) (K : Ret → Option Ret) : Option Ret := K ((.s (.bool ((decide ((1 : Int) ≤ k)) && (decide (k ≤ (8 : Int)))))), [])
theorem e_i_isSession (k : Int) (K : Ret → Option Ret) : evF E_i_isSession true F.i_isSession [.s (.int .i64 k)] K = T_i_isSession k K := by kernel_rfl
def S_i_isSession : Sm := S_fnR [.i] (fun d => true) (fun d => (bl (decide (1 ≤ d.1) && decide (d.1 ≤ 8)), []))
theorem v_i_isSession (k : Int) (K : Ret → Option Ret) : T_i_isSession k K = K (bl (decide (1 ≤ k) && decide (k ≤ 8)), []) := by
  rfl
theorem okS_i_isSession : OkFn prog I N.i_isSession true S_i_isSession := okN (ok_fn (memc okS_i_in mem0) (l := ls_i_isSession) (p := []) (ls := []) (lend := []) (focus := false) (fuel := 0) (give := []) (fn := F.i_isSession) (by kernel_rfl) (by kernel_rfl) (by kernel_rfl) (by kernel_rfl) (cs := []) (by kernel_rfl) loops0) (S_fnR_of fun d K h => (e_i_isSession d.1 K).trans (v_i_isSession d.1 K))
end Go.Ev.Seat
end
section
/- i_isLease: its contract. -/
namespace Go.Ev.Seat
open Go.RowKit
set_option maxRecDepth 100000
set_option linter.unusedVariables false
set_option linter.unusedSimpArgs false
noncomputable abbrev ls_i_isLease : List (Nat × Bool × Sm) := [(N.i_in, true, S_i_in), (N.i_isSession, true, S_i_isSession)]
noncomputable abbrev E_i_isLease : Env := En ls_i_isLease [] [] [] false 0 []
noncomputable def T_i_isLease (l : T_Lease) (K : Ret → Option Ret) : Option Ret := (bif ((decide ((0 : Int) ≤ l.1)) && (decide (l.1 ≤ l.2.1))) then (bif (decide (l.2.1 ≤ (400 : Int))) then (bif ((decide ((1 : Int) ≤ l.2.2.1)) && (decide (l.2.2.1 ≤ (8 : Int)))) then K ((.s (.bool ((decide ((1 : Int) ≤ l.2.2.2)) && (decide (l.2.2.2 ≤ (1000 : Int)))))), []) else K ((.s (.bool false)), [])) else K ((.s (.bool false)), [])) else K ((.s (.bool false)), []))
theorem e_i_isLease (l : T_Lease) (K : Ret → Option Ret) : evF E_i_isLease true F.i_isLease [.a (leaseR.cells .no l)] K = T_i_isLease l K := by kernel_rfl
def S_i_isLease : Sm := S_fnR [.a leaseR] (fun d => true) (fun d => (bl (leaseOkD d.1), []))
theorem v_i_isLease (l : T_Lease) (K : Ret → Option Ret) : T_i_isLease l K = K (bl (leaseOkD l), []) := by
  unfold T_i_isLease leaseOkD sessD tickD
  cases (decide (0 ≤ l.1) && decide (l.1 ≤ l.2.1)) <;> cases decide (l.2.1 ≤ 400) <;> cases (decide (1 ≤ l.2.2.1) && decide (l.2.2.1 ≤ 8)) <;> rfl
theorem okS_i_isLease : OkFn prog I N.i_isLease true S_i_isLease := okN (ok_fn (memc okS_i_in (memc okS_i_isSession mem0)) (l := ls_i_isLease) (p := []) (ls := []) (lend := []) (focus := false) (fuel := 0) (give := []) (fn := F.i_isLease) (by kernel_rfl) (by kernel_rfl) (by kernel_rfl) (by kernel_rfl) (cs := []) (by kernel_rfl) loops0) (S_fnR_of fun d K h => (e_i_isLease d.1 K).trans (v_i_isLease d.1 K))
end Go.Ev.Seat
end
section
/- cmp_isNaN_int: its contract. -/
namespace Go.Ev.Seat
open Go.RowKit
set_option maxRecDepth 100000
set_option linter.unusedVariables false
set_option linter.unusedSimpArgs false
noncomputable abbrev E_cmp_isNaN_int : Env := En [] [] [] [] false 0 []
noncomputable def T_cmp_isNaN_int (a : Int) (K : Ret → Option Ret) : Option Ret := K ((.s (.bool (a != a))), [])
theorem e_cmp_isNaN_int (a : Int) (K : Ret → Option Ret) : evF E_cmp_isNaN_int true F.cmp_isNaN_int [.s (.int .i64 a)] K = T_cmp_isNaN_int a K := by kernel_rfl
def S_cmp_isNaN_int : Sm := S_fnR [.i] (fun d => true) (fun d => (bl (d.1 != d.1), []))
theorem v_cmp_isNaN_int (a : Int) (K : Ret → Option Ret) : T_cmp_isNaN_int a K = K (bl (a != a), []) := rfl
theorem okS_cmp_isNaN_int : OkFn prog I N.cmp_isNaN_int true S_cmp_isNaN_int := okN (ok_fn mem0 (l := []) (p := []) (ls := []) (lend := []) (focus := false) (fuel := 0) (give := []) (fn := F.cmp_isNaN_int) (by kernel_rfl) (by kernel_rfl) (by kernel_rfl) (by kernel_rfl) (cs := []) (by kernel_rfl) loops0) (S_fnR_of fun d K h => (e_cmp_isNaN_int d.1 K).trans (v_cmp_isNaN_int d.1 K))
end Go.Ev.Seat
end
section
/- cmp_Compare_int: its contract. -/
namespace Go.Ev.Seat
open Go.RowKit
set_option maxRecDepth 100000
set_option linter.unusedVariables false
set_option linter.unusedSimpArgs false
noncomputable abbrev ls_cmp_Compare_int : List (Nat × Bool × Sm) := [(N.cmp_isNaN_int, true, S_cmp_isNaN_int)]
noncomputable abbrev E_cmp_Compare_int : Env := En ls_cmp_Compare_int [] [] [] false 0 []
noncomputable def T_cmp_Compare_int (a : Int) (b : Int) (K : Ret → Option Ret) : Option Ret := (bif (a != a) then (bif (b != b) then K ((.s (.int .i64 (0 : Int))), []) else K ((.s (.int .i64 (-(1 : Int)))), [])) else (bif (b != b) then K ((.s (.int .i64 (1 : Int))), []) else (bif (decide (a < b)) then K ((.s (.int .i64 (-(1 : Int)))), []) else (bif (decide (a > b)) then K ((.s (.int .i64 (1 : Int))), []) else K ((.s (.int .i64 (0 : Int))), [])))))
theorem e_cmp_Compare_int (a : Int) (b : Int) (K : Ret → Option Ret) : evF E_cmp_Compare_int true F.cmp_Compare_int [.s (.int .i64 a), .s (.int .i64 b)] K = T_cmp_Compare_int a b K := by kernel_rfl
def S_cmp_Compare_int : Sm := S_fnR [.i, .i] (fun d => true) (fun d => (.s (.int .i64 (sgn d.1 d.2.1)), []))
theorem v_cmp_Compare_int (a : Int) (b : Int) (K : Ret → Option Ret) : T_cmp_Compare_int a b K = K (.s (.int .i64 (sgn a b)), []) := by
  unfold T_cmp_Compare_int sgn
  rw [bne_f (rfl : a = a), bne_f (rfl : b = b)]
  cases decide (a < b)
  · cases decide (a > b) <;> rfl
  · rfl
theorem okS_cmp_Compare_int : OkFn prog I N.cmp_Compare_int true S_cmp_Compare_int := okN (ok_fn (memc okS_cmp_isNaN_int mem0) (l := ls_cmp_Compare_int) (p := []) (ls := []) (lend := []) (focus := false) (fuel := 0) (give := []) (fn := F.cmp_Compare_int) (by kernel_rfl) (by kernel_rfl) (by kernel_rfl) (by kernel_rfl) (cs := []) (by kernel_rfl) loops0) (S_fnR_of fun d K h => (e_cmp_Compare_int d.1 d.2.1 K).trans (v_cmp_Compare_int d.1 d.2.1 K))
end Go.Ev.Seat
end
section
/- cmp_Or_int: its contract. -/
namespace Go.Ev.Seat
open Go.RowKit
set_option maxRecDepth 100000
set_option linter.unusedVariables false
set_option linter.unusedSimpArgs false
def z_cmp_Or_int_3_0 (x2 : Int) (x3 : Int) : St := { tm := ([.x, .x, (.s (.int .i64 x2)), (.s (.int .i64 x3))] ++ List.replicate 14 .x), ob := [], nx := 0, io := [] }
def z_cmp_Or_int_3_1 (x3 : Int) : St := { tm := ([.x, .x, .x, (.s (.int .i64 x3))] ++ List.replicate 14 .x), ob := [], nx := 0, io := [] }
def sh_cmp_Or_int_3_0 : Ss := { tm := (.cons (.x) (.cons (.x) (.cons (.x) (.cons (.int .i64) (.cons (.x) (.cons (.x) (.cons (.l .no intR) (.cons (.int .i64) (.cons (.int .i64) (xsh 9)))))))))), ob := .nil, nx := 0, io := .nil }
def d_cmp_Or_int_3_0 (x3 : Int) (x6 : List Int) (x7 : Int) (x8 : Int) : sh_cmp_Or_int_3_0.T := (((), ((), ((), (x3, ((), ((), (x6, (x7, (x8, xd 9))))))))), (), ())
def s_cmp_Or_int_3_0 (x3 : Int) (x6 : List Int) (x7 : Int) (x8 : Int) : St := { tm := ([.x, .x, .x, (.s (.int .i64 x3)), .x, .x, (.l .no intR x6), (.s (.int .i64 x7)), (.s (.int .i64 x8))] ++ List.replicate 9 .x), ob := [], nx := 0, io := [] }
theorem se_cmp_Or_int_3_0 (x3 : Int) (x6 : List Int) (x7 : Int) (x8 : Int) : sh_cmp_Or_int_3_0.mk' (d_cmp_Or_int_3_0 x3 x6 x7 x8) = (s_cmp_Or_int_3_0 x3 x6 x7 x8) := by kernel_rfl
def w_cmp_Or_int_3_0 (d : sh_cmp_Or_int_3_0.T) (f : Int → (List Int) → Int → Int → Option Ret) : Option Ret := match d with | ((_, (_, (_, (x3, (_, (_, (x6, (x7, (x8, _))))))))), _, _) => f x3 x6 x7 x8
noncomputable def P_cmp_Or_int_3_0 (x3 : Int) (x6 : List Int) (x7 : Int) (x8 : Int) (nx0 : Int → (List Int) → Int → Int → Option Ret) (k0 : Int → Int → Option Ret) (k1 : Int → Option Ret) : Option Ret := (bif (decide (x8 < x7)) then (bif ((decide ((0 : Int) ≤ x8)) && (decide (x8 < (((List.length x6) : Nat) : Int)))) then (bif ((List.getD x6 (Int.toNat x8) (0 : Int)) != x3) then (k0 (List.getD x6 (Int.toNat x8) (0 : Int)) x3) else (nx0 x3 x6 x7 (IntKind.wrap .i64 (x8 + (1 : Int))))) else none) else (k1 x3))
noncomputable def Q_cmp_Or_int_3_0 : Nat → Int → (List Int) → Int → Int → (Int → Int → Option Ret) → (Int → Option Ret) → Option Ret
  | 0, _, _, _, _, _, _ => none
  | m + 1, x3, x6, x7, x8, k0, k1 => P_cmp_Or_int_3_0 x3 x6 x7 x8 (fun x3 x6 x7 x8 => (Q_cmp_Or_int_3_0 m x3 x6 x7 x8 k0 k1)) k0 k1
noncomputable def R_cmp_Or_int_3_0 (x3 : Int) (x6 : List Int) (x7 : Int) (x8 : Int) (k0 : Int → Int → Option Ret) (k1 : Int → Option Ret) : Option Ret := Q_cmp_Or_int_3_0 (x3.toNat + List.length x6 + x7.toNat + x8.toNat + 2) x3 x6 x7 x8 k0 k1
noncomputable def W_cmp_Or_int_3 : LoopFn := (fun (σ : St) (K : Ex → St → Option Ret) => (match sh_cmp_Or_int_3_0.un σ with | some d => w_cmp_Or_int_3_0 d (fun x3 x6 x7 x8 => R_cmp_Or_int_3_0 x3 x6 x7 x8 (fun x2 x3 => (K .ret (z_cmp_Or_int_3_0 x2 x3))) (fun x3 => (K (.ext 0) (z_cmp_Or_int_3_1 x3)))) | none => none))
noncomputable abbrev E_cmp_Or_int : Env := En [] [] [(3, [3,6,7,8], [2,3], W_cmp_Or_int_3)] [] false 0 []
noncomputable abbrev U_cmp_Or_int_3 := rounds (run E_cmp_Or_int (bodyOf F.cmp_Or_int 3)) [3,6,7,8] [2,3]
theorem st_cmp_Or_int_3_0 (m : Nat) (x3 : Int) (x6 : List Int) (x7 : Int) (x8 : Int) (K : Ex → St → Option Ret) : U_cmp_Or_int_3 (m + 1) (s_cmp_Or_int_3_0 x3 x6 x7 x8) K = P_cmp_Or_int_3_0 x3 x6 x7 x8 (fun x3 x6 x7 x8 => (U_cmp_Or_int_3 m (s_cmp_Or_int_3_0 x3 x6 x7 x8) K)) (fun x2 x3 => (K .ret (z_cmp_Or_int_3_0 x2 x3))) (fun x3 => (K (.ext 0) (z_cmp_Or_int_3_1 x3))) := by kernel_rfl
theorem q_cmp_Or_int_3 (K : Ex → St → Option Ret) : ∀ m : Nat, (∀ (x3 : Int) (x6 : List Int) (x7 : Int) (x8 : Int), U_cmp_Or_int_3 m (s_cmp_Or_int_3_0 x3 x6 x7 x8) K = Q_cmp_Or_int_3_0 m x3 x6 x7 x8 (fun x2 x3 => (K .ret (z_cmp_Or_int_3_0 x2 x3))) (fun x3 => (K (.ext 0) (z_cmp_Or_int_3_1 x3))))
  | 0 => (fun _ _ _ _ => rfl)
  | m + 1 => (fun x3 x6 x7 x8 => (by rw [st_cmp_Or_int_3_0, show (fun x3 x6 x7 x8 => (U_cmp_Or_int_3 m (s_cmp_Or_int_3_0 x3 x6 x7 x8) K)) = (fun x3 x6 x7 x8 => (Q_cmp_Or_int_3_0 m x3 x6 x7 x8 (fun x2 x3 => (K .ret (z_cmp_Or_int_3_0 x2 x3))) (fun x3 => (K (.ext 0) (z_cmp_Or_int_3_1 x3))))) from funext fun x3 => funext fun x6 => funext fun x7 => funext fun x8 => (q_cmp_Or_int_3 K m) x3 x6 x7 x8]; rfl))
theorem loopK_cmp_Or_int_3 : LoopOk E_cmp_Or_int (bodyOf F.cmp_Or_int 3) := by
  refine loopW_ok (n := 3) (F := W_cmp_Or_int_3) (by kernel_rfl) rfl (li := [3,6,7,8]) (lo := [2,3]) rfl (fun σ K r hr => ?_)
  unfold W_cmp_Or_int_3 at hr
  split at hr
  · rename_i d hd
    rw [Ss.un_mk hd]
    exact ⟨_, ((congrArg (fun z => U_cmp_Or_int_3 _ z K) (se_cmp_Or_int_3_0 _ _ _ _)).trans ((q_cmp_Or_int_3 K _) _ _ _ _)).trans hr⟩
  · cases hr
noncomputable def T_cmp_Or_int (l : List Int) (K : Ret → Option Ret) : Option Ret := (R_cmp_Or_int_3_0 (0 : Int) l (((List.length l) : Nat) : Int) (0 : Int) (fun y0 y1 => K ((.s (.int .i64 y0)), [])) (fun y2 => K ((.s (.int .i64 y2)), [])))
theorem e_cmp_Or_int (l : List Int) (K : Ret → Option Ret) : evF E_cmp_Or_int true F.cmp_Or_int [.l .no intR l] K = T_cmp_Or_int l K := by kernel_rfl
def S_cmp_Or_int : Sm := S_fnR [.l intR] (fun d => Nat.ble d.1.length 1048576) (fun d => (.s (.int .i64 (orD d.1)), []))
theorem v_cmp_Or_int (l : List Int) (h : (Nat.ble l.length 1048576) = true) (K : Ret → Option Ret) : T_cmp_Or_int l K = K (.s (.int .i64 (orD l)), []) := by
  have hl := Nat.le_of_ble_eq_true h
  unfold T_cmp_Or_int orD
  have q : ∀ (m i : Nat), i ≤ l.length → l.length - i < m → Q_cmp_Or_int_3_0 m 0 l ((l.length : Nat) : Int) ((i : Nat) : Int) (fun y0 y1 => K ((.s (.int .i64 y0)), [])) (fun y2 => K ((.s (.int .i64 y2)), [])) = K ((.s (.int .i64 (((l.drop i).find? (fun c => c != 0)).getD 0))), []) := by
    intro m
    induction m with
    | zero => intro i _ hm; omega
    | succ m ih =>
      intro i hi hm
      show P_cmp_Or_int_3_0 0 l _ ((i : Nat) : Int) _ _ _ = _
      unfold P_cmp_Or_int_3_0
      by_cases hlt : i < l.length
      · rw [decide_eq_true (show ((i : Nat) : Int) < ((l.length : Nat) : Int) by omega), decide_eq_true (show (0 : Int) ≤ ((i : Nat) : Int) by omega), Int.toNat_natCast, wrap_nat (by omega), List.drop_eq_getElem_cons hlt, ← getD_lt 0 hlt, List.find?_cons]
        dsimp only
        rw [ih (i + 1) (by omega) (by omega)]
        cases ((l.getD i 0) != 0) <;> rfl
      · obtain rfl : i = l.length := by omega
        rw [decide_eq_false (show ¬ ((l.length : Nat) : Int) < ((l.length : Nat) : Int) by omega), List.drop_length]; rfl
  have := q ((0 : Int).toNat + List.length l + ((l.length : Nat) : Int).toNat + (0 : Int).toNat + 2) 0 (by omega) (by omega)
  rw [List.drop_zero] at this
  exact this
theorem okS_cmp_Or_int : OkFn prog I N.cmp_Or_int true S_cmp_Or_int := okN (ok_fn mem0 (l := []) (p := []) (ls := [(3, [3,6,7,8], [2,3], W_cmp_Or_int_3)]) (lend := []) (focus := false) (fuel := 0) (give := []) (fn := F.cmp_Or_int) (by kernel_rfl) (by kernel_rfl) (by kernel_rfl) (by kernel_rfl) (cs := [bodyOf F.cmp_Or_int 3]) (by kernel_rfl) (loopsc loopK_cmp_Or_int_3 loops0)) (S_fnR_of fun d K h => (e_cmp_Or_int d.1 K).trans (v_cmp_Or_int d.1 h K))
end Go.Ev.Seat
end
section
/- i_compareLeases: its contract. -/
namespace Go.Ev.Seat
open Go.RowKit
set_option maxRecDepth 100000
set_option linter.unusedVariables false
set_option linter.unusedSimpArgs false
noncomputable abbrev pl_i_compareLeases : List (Nat × Plan × List Nat) := [(1, takeB [0, 1, 2, 3, 5, 6, 7, 8, 10, 11, 12, 13] (.fork (.one 4 (.fork (.one 9 (.fork (.one 14 (.fork (.one 15 (.fork (.one 16 (takes [17]))))))))))), [])]
noncomputable abbrev ls_i_compareLeases : List (Nat × Bool × Sm) := [(N.cmp_Compare_int, true, S_cmp_Compare_int), (N.cmp_Or_int, true, S_cmp_Or_int)]
noncomputable abbrev E_i_compareLeases : Env := En ls_i_compareLeases pl_i_compareLeases [] [] false 0 []
noncomputable def T_i_compareLeases (a : T_Lease) (b : T_Lease) (K : Ret → Option Ret) : Option Ret := K ((.s (.int .i64 (orD ((sgn a.1 b.1) :: ((sgn a.2.1 b.2.1) :: ((sgn a.2.2.1 b.2.2.1) :: ([] : List Int))))))), [])
theorem e_i_compareLeases (a : T_Lease) (b : T_Lease) (K : Ret → Option Ret) : evF E_i_compareLeases true F.i_compareLeases [.a (leaseR.cells .no a), .a (leaseR.cells .no b)] K = T_i_compareLeases a b K := by kernel_rfl
def S_i_compareLeases : Sm := S_fnR [.a leaseR, .a leaseR] (fun d => true) (fun d => (.s (.int .i64 (cmpD d.1 d.2.1)), []))
theorem v_i_compareLeases (a : T_Lease) (b : T_Lease) (K : Ret → Option Ret) : T_i_compareLeases a b K = K (.s (.int .i64 (cmpD a b)), []) := by
  unfold T_i_compareLeases orD cmpD
  simp only [List.find?_cons, List.find?_nil]
  cases (sgn a.1 b.1 != 0)
  · cases (sgn a.2.1 b.2.1 != 0)
    · cases h3 : (sgn a.2.2.1 b.2.2.1 != 0)
      · have : sgn a.2.2.1 b.2.2.1 = 0 := by simpa using h3
        rw [this]; rfl
      · rfl
    · rfl
  · rfl
theorem okS_i_compareLeases : OkFn prog I N.i_compareLeases true S_i_compareLeases := okN (ok_fn (memc okS_cmp_Compare_int (memc okS_cmp_Or_int mem0)) (l := ls_i_compareLeases) (p := pl_i_compareLeases) (ls := []) (lend := []) (focus := false) (fuel := 0) (give := []) (fn := F.i_compareLeases) (by kernel_rfl) (by kernel_rfl) (by kernel_rfl) (by kernel_rfl) (cs := []) (by kernel_rfl) loops0) (S_fnR_of fun d K h => (e_i_compareLeases d.1 d.2.1 K).trans (v_i_compareLeases d.1 d.2.1 K))
end Go.Ev.Seat
end
section
/- i_areLeases: its contract. -/
namespace Go.Ev.Seat
open Go.RowKit
set_option maxRecDepth 100000
set_option linter.unusedVariables false
set_option linter.unusedSimpArgs false
def z_i_areLeases_2_0 (x0 : List T_Lease) (x2 : Bool) : St := { tm := ([(.l .no leaseR x0), .x, (.s (.bool x2))] ++ List.replicate 30 .x), ob := [], nx := 0, io := [] }
def z_i_areLeases_2_1 (x0 : List T_Lease) : St := { tm := ([(.l .no leaseR x0)] ++ List.replicate 32 .x), ob := [], nx := 0, io := [] }
def sh_i_areLeases_2_0 : Ss := { tm := (.cons (.l .no leaseR) (.cons (.x) (.cons (.x) (.cons (.x) (.cons (.x) (.cons (.l .no leaseR) (.cons (.int .i64) (.cons (.int .i64) (xsh 25))))))))), ob := .nil, nx := 0, io := .nil }
def d_i_areLeases_2_0 (x0 : List T_Lease) (x5 : List T_Lease) (x6 : Int) (x7 : Int) : sh_i_areLeases_2_0.T := ((x0, ((), ((), ((), ((), (x5, (x6, (x7, xd 25)))))))), (), ())
def s_i_areLeases_2_0 (x0 : List T_Lease) (x5 : List T_Lease) (x6 : Int) (x7 : Int) : St := { tm := ([(.l .no leaseR x0), .x, .x, .x, .x, (.l .no leaseR x5), (.s (.int .i64 x6)), (.s (.int .i64 x7))] ++ List.replicate 25 .x), ob := [], nx := 0, io := [] }
theorem se_i_areLeases_2_0 (x0 : List T_Lease) (x5 : List T_Lease) (x6 : Int) (x7 : Int) : sh_i_areLeases_2_0.mk' (d_i_areLeases_2_0 x0 x5 x6 x7) = (s_i_areLeases_2_0 x0 x5 x6 x7) := by kernel_rfl
def w_i_areLeases_2_0 (d : sh_i_areLeases_2_0.T) (f : (List T_Lease) → (List T_Lease) → Int → Int → Option Ret) : Option Ret := match d with | ((x0, (_, (_, (_, (_, (x5, (x6, (x7, _)))))))), _, _) => f x0 x5 x6 x7
noncomputable def P_i_areLeases_2_0 (x0 : List T_Lease) (x5 : List T_Lease) (x6 : Int) (x7 : Int) (nx0 : (List T_Lease) → (List T_Lease) → Int → Int → Option Ret) (k0 : (List T_Lease) → Bool → Option Ret) (k1 : (List T_Lease) → Option Ret) : Option Ret := (bif (decide (x7 < x6)) then (bif ((decide ((0 : Int) ≤ x7)) && (decide (x7 < (((List.length x5) : Nat) : Int)))) then (bif (!(leaseOkD (List.getD x5 (Int.toNat x7) (leaseR.dflt)))) then (k0 x0 false) else (bif (decide (x7 > (0 : Int))) then (bif ((decide ((0 : Int) ≤ (IntKind.wrap .i64 (x7 - (1 : Int))))) && (decide ((IntKind.wrap .i64 (x7 - (1 : Int))) < (((List.length x0) : Nat) : Int)))) then (bif (decide ((cmpD (List.getD x0 (Int.toNat (IntKind.wrap .i64 (x7 - (1 : Int)))) (leaseR.dflt)) (List.getD x5 (Int.toNat x7) (leaseR.dflt))) ≥ (0 : Int))) then (k0 x0 false) else (nx0 x0 x5 x6 (IntKind.wrap .i64 (x7 + (1 : Int))))) else none) else (nx0 x0 x5 x6 (IntKind.wrap .i64 (x7 + (1 : Int)))))) else none) else (k1 x0))
noncomputable def Q_i_areLeases_2_0 : Nat → (List T_Lease) → (List T_Lease) → Int → Int → ((List T_Lease) → Bool → Option Ret) → ((List T_Lease) → Option Ret) → Option Ret
  | 0, _, _, _, _, _, _ => none
  | m + 1, x0, x5, x6, x7, k0, k1 => P_i_areLeases_2_0 x0 x5 x6 x7 (fun x0 x5 x6 x7 => (Q_i_areLeases_2_0 m x0 x5 x6 x7 k0 k1)) k0 k1
noncomputable def R_i_areLeases_2_0 (x0 : List T_Lease) (x5 : List T_Lease) (x6 : Int) (x7 : Int) (k0 : (List T_Lease) → Bool → Option Ret) (k1 : (List T_Lease) → Option Ret) : Option Ret := Q_i_areLeases_2_0 (List.length x0 + List.length x5 + x6.toNat + x7.toNat + 2) x0 x5 x6 x7 k0 k1
noncomputable def W_i_areLeases_2 : LoopFn := (fun (σ : St) (K : Ex → St → Option Ret) => (match sh_i_areLeases_2_0.un σ with | some d => w_i_areLeases_2_0 d (fun x0 x5 x6 x7 => R_i_areLeases_2_0 x0 x5 x6 x7 (fun x0 x2 => (K .ret (z_i_areLeases_2_0 x0 x2))) (fun x0 => (K (.ext 0) (z_i_areLeases_2_1 x0)))) | none => none))
noncomputable abbrev pl_i_areLeases : List (Nat × Plan × List Nat) := [(4, takeB [0] (.fork (.one 1 (takeB [2, 3, 4, 5, 6, 7, 8, 9, 10, 11, 12] (.fork (.one 13 (takes [14, 15, 16])))))), [])]
noncomputable abbrev ls_i_areLeases : List (Nat × Bool × Sm) := [(N.i_isLease, true, S_i_isLease), (N.i_compareLeases, true, S_i_compareLeases)]
noncomputable abbrev E_i_areLeases : Env := En ls_i_areLeases pl_i_areLeases [(2, [0,5,6,7], [0,2], W_i_areLeases_2)] [] false 0 []
noncomputable abbrev U_i_areLeases_2 := rounds (run E_i_areLeases (bodyOf F.i_areLeases 2)) [0,5,6,7] [0,2]
theorem st_i_areLeases_2_0 (m : Nat) (x0 : List T_Lease) (x5 : List T_Lease) (x6 : Int) (x7 : Int) (K : Ex → St → Option Ret) : U_i_areLeases_2 (m + 1) (s_i_areLeases_2_0 x0 x5 x6 x7) K = P_i_areLeases_2_0 x0 x5 x6 x7 (fun x0 x5 x6 x7 => (U_i_areLeases_2 m (s_i_areLeases_2_0 x0 x5 x6 x7) K)) (fun x0 x2 => (K .ret (z_i_areLeases_2_0 x0 x2))) (fun x0 => (K (.ext 0) (z_i_areLeases_2_1 x0))) := by kernel_rfl
theorem q_i_areLeases_2 (K : Ex → St → Option Ret) : ∀ m : Nat, (∀ (x0 : List T_Lease) (x5 : List T_Lease) (x6 : Int) (x7 : Int), U_i_areLeases_2 m (s_i_areLeases_2_0 x0 x5 x6 x7) K = Q_i_areLeases_2_0 m x0 x5 x6 x7 (fun x0 x2 => (K .ret (z_i_areLeases_2_0 x0 x2))) (fun x0 => (K (.ext 0) (z_i_areLeases_2_1 x0))))
  | 0 => (fun _ _ _ _ => rfl)
  | m + 1 => (fun x0 x5 x6 x7 => (by rw [st_i_areLeases_2_0, show (fun x0 x5 x6 x7 => (U_i_areLeases_2 m (s_i_areLeases_2_0 x0 x5 x6 x7) K)) = (fun x0 x5 x6 x7 => (Q_i_areLeases_2_0 m x0 x5 x6 x7 (fun x0 x2 => (K .ret (z_i_areLeases_2_0 x0 x2))) (fun x0 => (K (.ext 0) (z_i_areLeases_2_1 x0))))) from funext fun x0 => funext fun x5 => funext fun x6 => funext fun x7 => (q_i_areLeases_2 K m) x0 x5 x6 x7]; rfl))
theorem loopK_i_areLeases_2 : LoopOk E_i_areLeases (bodyOf F.i_areLeases 2) := by
  refine loopW_ok (n := 2) (F := W_i_areLeases_2) (by kernel_rfl) rfl (li := [0,5,6,7]) (lo := [0,2]) rfl (fun σ K r hr => ?_)
  unfold W_i_areLeases_2 at hr
  split at hr
  · rename_i d hd
    rw [Ss.un_mk hd]
    exact ⟨_, ((congrArg (fun z => U_i_areLeases_2 _ z K) (se_i_areLeases_2_0 _ _ _ _)).trans ((q_i_areLeases_2 K _) _ _ _ _)).trans hr⟩
  · cases hr
noncomputable def T_i_areLeases (l : List T_Lease) (K : Ret → Option Ret) : Option Ret := (R_i_areLeases_2_0 l l (((List.length l) : Nat) : Int) (0 : Int) (fun y0 y1 => K ((.s (.bool y1)), [])) (fun y2 => K ((.s (.bool (decide ((((List.length y2) : Nat) : Int) ≤ (12 : Int))))), [])))
theorem e_i_areLeases (l : List T_Lease) (K : Ret → Option Ret) : evF E_i_areLeases true F.i_areLeases [.l .no leaseR l] K = T_i_areLeases l K := by kernel_rfl
def S_i_areLeases : Sm := S_fnR [.l leaseR] (fun d => Nat.ble d.1.length 1048576) (fun d => (bl (leasesOkD d.1), []))
theorem v_i_areLeases (l : List T_Lease) (h : (Nat.ble l.length 1048576) = true) (K : Ret → Option Ret) : T_i_areLeases l K = K (bl (leasesOkD l), []) := by
  have hl := Nat.le_of_ble_eq_true h
  unfold T_i_areLeases leasesOkD
  have q := idx_allN (R := fun m i => Q_i_areLeases_2_0 m l l ((l.length : Nat) : Int) i (fun y0 y1 => K ((.s (.bool y1)), [])) (fun y2 => K ((.s (.bool (decide ((((List.length y2) : Nat) : Int) ≤ (12 : Int))))), []))) (p := leaseAtD l) (n := l.length) (kt := K ((.s (.bool (decide (((l.length : Nat) : Int) ≤ 12)))), [])) (kf := K ((.s (.bool false)), [])) (fun m i hi => by
      show P_i_areLeases_2_0 l l _ ((i : Nat) : Int) _ _ _ = _
      unfold P_i_areLeases_2_0 leaseAtD
      rw [decide_eq_true (show ((i : Nat) : Int) < ((l.length : Nat) : Int) by omega), decide_eq_true (show (0 : Int) ≤ ((i : Nat) : Int) by omega), Int.toNat_natCast, wrap_nat (by omega), show l.getD i leaseR.dflt = l.getD i zeroL from rfl]
      cases i with
      | zero =>
        rw [decide_eq_false (show ¬ ((0 : Nat) : Int) > 0 by omega)]
        cases leaseOkD (l.getD 0 zeroL) <;> rfl
      | succ i =>
        rw [wrap_in (n := ((i + 1 : Nat) : Int) - 1) (by omega) (by omega), decide_eq_true (show ((i + 1 : Nat) : Int) > 0 by omega), show ((i + 1 : Nat) : Int) - 1 = ((i : Nat) : Int) by omega, decide_eq_true (show (0 : Int) ≤ ((i : Nat) : Int) by omega), decide_eq_true (show ((i : Nat) : Int) < ((l.length : Nat) : Int) by omega), Int.toNat_natCast, show i + 1 - 1 = i from rfl, show l.getD i leaseR.dflt = l.getD i zeroL from rfl, cmpD_neg]
        cases leaseOkD (l.getD (i + 1) zeroL) <;> cases lessD (l.getD i zeroL) (l.getD (i + 1) zeroL) <;> rfl) (fun m => by
      show P_i_areLeases_2_0 l l _ ((l.length : Nat) : Int) _ _ _ = _
      unfold P_i_areLeases_2_0
      rw [decide_eq_false (show ¬ ((l.length : Nat) : Int) < ((l.length : Nat) : Int) by omega)]; rfl) (List.length l + List.length l + ((l.length : Nat) : Int).toNat + (0 : Int).toNat + 2) 0 (by omega) (by omega)
  refine Eq.trans q ?_
  rw [Nat.sub_zero]
  show (bif allN l.length (leaseAtD l) then _ else _) = _
  cases allN l.length (leaseAtD l) <;> cases decide (((l.length : Nat) : Int) ≤ 12) <;> rfl
theorem okS_i_areLeases : OkFn prog I N.i_areLeases true S_i_areLeases := okN (ok_fn (memc okS_i_isLease (memc okS_i_compareLeases mem0)) (l := ls_i_areLeases) (p := pl_i_areLeases) (ls := [(2, [0,5,6,7], [0,2], W_i_areLeases_2)]) (lend := []) (focus := false) (fuel := 0) (give := []) (fn := F.i_areLeases) (by kernel_rfl) (by kernel_rfl) (by kernel_rfl) (by kernel_rfl) (cs := [bodyOf F.i_areLeases 2]) (by kernel_rfl) (loopsc loopK_i_areLeases_2 loops0)) (S_fnR_of fun d K h => (e_i_areLeases d.1 K).trans (v_i_areLeases d.1 h K))
end Go.Ev.Seat
end
section
/- i_isClock: its contract. -/
namespace Go.Ev.Seat
open Go.RowKit
set_option maxRecDepth 100000
set_option linter.unusedVariables false
set_option linter.unusedSimpArgs false
noncomputable abbrev ls_i_isClock : List (Nat × Bool × Sm) := [(N.i_in, true, S_i_in)]
noncomputable abbrev E_i_isClock : Env := En ls_i_isClock [] [] [] false 0 []
noncomputable def T_i_isClock (n : Int) (K : Ret → Option Ret) : Option Ret := K ((.s (.bool ((decide ((0 : Int) ≤ n)) && (decide (n ≤ (1000 : Int)))))), [])
theorem e_i_isClock (n : Int) (K : Ret → Option Ret) : evF E_i_isClock true F.i_isClock [.s (.int .i64 n)] K = T_i_isClock n K := by kernel_rfl
def S_i_isClock : Sm := S_fnR [.i] (fun d => true) (fun d => (bl (clockD d.1), []))
theorem v_i_isClock (n : Int) (K : Ret → Option Ret) : T_i_isClock n K = K (bl (clockD n), []) := rfl
theorem okS_i_isClock : OkFn prog I N.i_isClock true S_i_isClock := okN (ok_fn (memc okS_i_in mem0) (l := ls_i_isClock) (p := []) (ls := []) (lend := []) (focus := false) (fuel := 0) (give := []) (fn := F.i_isClock) (by kernel_rfl) (by kernel_rfl) (by kernel_rfl) (by kernel_rfl) (cs := []) (by kernel_rfl) loops0) (S_fnR_of fun d K h => (e_i_isClock d.1 K).trans (v_i_isClock d.1 K))
end Go.Ev.Seat
end
section
/- i_Lease_isActive: its contract. -/
namespace Go.Ev.Seat
open Go.RowKit
set_option maxRecDepth 100000
set_option linter.unusedVariables false
set_option linter.unusedSimpArgs false
noncomputable abbrev E_i_Lease_isActive : Env := En [] [] [] [] false 0 []
noncomputable def T_i_Lease_isActive (l : T_Lease) (n : Int) (K : Ret → Option Ret) : Option Ret := K ((.s (.bool (decide (l.2.2.2 > n)))), [])
theorem e_i_Lease_isActive (l : T_Lease) (n : Int) (K : Ret → Option Ret) : evF E_i_Lease_isActive true F.i_Lease_isActive [.a (leaseR.cells .no l), .s (.int .i64 n)] K = T_i_Lease_isActive l n K := by kernel_rfl
def S_i_Lease_isActive : Sm := S_fnR [.a leaseR, .i] (fun d => true) (fun d => (bl (decide (d.1.2.2.2 > d.2.1)), []))
theorem v_i_Lease_isActive (l : T_Lease) (n : Int) (K : Ret → Option Ret) : T_i_Lease_isActive l n K = K (bl (decide (l.2.2.2 > n)), []) := rfl
theorem okS_i_Lease_isActive : OkFn prog I N.i_Lease_isActive true S_i_Lease_isActive := okN (ok_fn mem0 (l := []) (p := []) (ls := []) (lend := []) (focus := false) (fuel := 0) (give := []) (fn := F.i_Lease_isActive) (by kernel_rfl) (by kernel_rfl) (by kernel_rfl) (by kernel_rfl) (cs := []) (by kernel_rfl) loops0) (S_fnR_of fun d K h => (e_i_Lease_isActive d.1 d.2.1 K).trans (v_i_Lease_isActive d.1 d.2.1 K))
end Go.Ev.Seat
end
section
/- Binary search in a list in whose front something holds. -/
set_option linter.unusedVariables false
namespace Go.Ev
section
variable {α ρ : Type}
/-- How many in front it holds of. -/
def cutN (p : α → Bool) (l : List α) : Nat := (l.takeWhile p).length
/-- Does it hold in front alone? -/
def monoB (p : α → Bool) (l : List α) : Bool := (l.dropWhile p).all (fun x => !p x)
theorem cutN_le (p : α → Bool) : ∀ l : List α, cutN p l ≤ l.length
  | [] => Nat.le_refl _
  | x :: l => by
    unfold cutN
    rw [List.takeWhile_cons]
    cases p x with
    | false => simp
    | true => have := cutN_le p l; unfold cutN at this; simpa using this
theorem cutN_in (p : α → Bool) (z : α) : ∀ (l : List α) (k : Nat), k < cutN p l → p (l.getD k z) = true
  | [], k, h => by simp [cutN] at h
  | x :: l, k, h => by
    unfold cutN at h
    rw [List.takeWhile_cons] at h
    cases hp : p x with
    | false => rw [hp] at h; simp at h
    | true =>
      rw [hp] at h
      cases k with
      | zero => exact hp
      | succ k => exact cutN_in p z l k (by unfold cutN; simpa using h)
theorem cutN_out (p : α → Bool) (z : α) : ∀ (l : List α) (k : Nat), monoB p l = true → cutN p l ≤ k → k < l.length → p (l.getD k z) = false
  | [], k, _, _, h => by simp at h
  | x :: l, k, hm, hc, h => by
    unfold cutN at hc
    unfold monoB at hm
    rw [List.takeWhile_cons] at hc
    rw [List.dropWhile_cons] at hm
    cases hp : p x with
    | false =>
      rw [hp] at hm
      simp only [Bool.false_eq_true, if_false, List.all_eq_true] at hm
      have := hm ((x :: l).getD k z) (by rw [getD_lt z h]; exact List.getElem_mem h)
      simpa using this
    | true =>
      rw [hp] at hm hc
      cases k with
      | zero => simp at hc
      | succ k => exact cutN_out p z l k (by unfold monoB; simpa using hm) (by unfold cutN; simpa using hc) (by simpa using h)
theorem bs_loop {R : Nat → Int → Int → ρ} {p : α → Bool} {kt : Int → ρ} {l : List α} {z : α}
    (hs : ∀ m (i j : Nat), i < j → j ≤ l.length → R (m + 1) i j = bif p (l.getD ((i + j) / 2) z) then R m (((i + j) / 2 + 1 : Nat) : Int) j else R m i ((((i + j) / 2) : Nat) : Int))
    (he : ∀ m (i : Nat), i ≤ l.length → R (m + 1) i i = kt i) (hm : monoB p l = true) :
    ∀ (m i j : Nat), i ≤ cutN p l → cutN p l ≤ j → j ≤ l.length → j - i < m → R m i j = kt (cutN p l : Nat)
  | 0, i, j, _, _, _, h => absurd h (by omega)
  | m + 1, i, j, h1, h2, h3, h4 => by
    by_cases h : i < j
    · rw [hs m i j h h3]
      by_cases hc : (i + j) / 2 < cutN p l
      · rw [cutN_in p z l _ hc, cond_true]
        exact bs_loop hs he hm m _ _ (by omega) h2 h3 (by omega)
      · rw [cutN_out p z l _ hm (by omega) (by omega), cond_false]
        exact bs_loop hs he hm m _ _ h1 (by omega) (by omega) (by omega)
    · obtain rfl : i = j := by omega
      rw [he m i h3]
      congr 1; omega
end
/-- Is it found where the front ends? -/
def foundB {α : Type} (p q : α → Bool) (z : α) (l : List α) : Bool := Nat.blt (cutN p l) l.length && q (l.getD (cutN p l) z)
theorem foundB_lt {α : Type} {p q : α → Bool} {z : α} {l : List α} (h : foundB p q z l = true) : cutN p l < l.length := by
  unfold foundB at h
  rw [Bool.and_eq_true] at h
  exact Nat.le_of_ble_eq_true h.1
theorem half_ok {i j : Nat} (h : i + j ≤ 4611686018427387904) : IntKind.wrap .i64 (shrI .u64 (IntKind.wrap .u64 (IntKind.wrap .i64 (((i : Nat) : Int) + ((j : Nat) : Int)))) 1) = (((i + j) / 2 : Nat) : Int) := by
  have e : IntKind.u64.wrap (((i + j : Nat) : Int)) = ((i + j : Nat) : Int) := by
    have : IntKind.u64.wrap (((i + j : Nat) : Int)) = ((i + j : Nat) : Int) % 18446744073709551616 := by
      simp only [IntKind.wrap, IntKind.bits, IntKind.signed]; simp
    rw [this]; omega
  rw [wrap_in (n := ((i : Nat) : Int) + ((j : Nat) : Int)) (by omega) (by omega), ← Int.natCast_add, e]
  have e2 : shrI .u64 (((i + j : Nat) : Int)) 1 = (((i + j) / 2 : Nat) : Int) := by
    unfold shrI
    show Int.fdiv (((i + j : Nat) : Int)) 2 = _
    rw [Int.fdiv_eq_ediv_of_nonneg _ (by omega)]; omega
  rw [e2, wrap_in (by omega) (by omega)]
theorem mono_of_split {α : Type} {p : α → Bool} : ∀ {l : List α}, (∀ i j : Nat, (h : i < j) → (hj : j < l.length) → p l[j] = true → p (l[i]'(by omega)) = true) → monoB p l = true
  | [], _ => rfl
  | x :: l, h => by
    unfold monoB
    rw [List.dropWhile_cons]
    cases hp : p x with
    | false =>
      simp only [Bool.false_eq_true, if_false, List.all_eq_true]
      intro y hy
      obtain ⟨k, hk, rfl⟩ := List.mem_iff_getElem.1 hy
      cases hy2 : p (x :: l)[k] with
      | false => rfl
      | true =>
        cases k with
        | zero => rw [show (x :: l)[0] = x from rfl] at hy2; rw [hp] at hy2; cases hy2
        | succ k => have := h 0 (k + 1) (by omega) hk hy2; rw [show (x :: l)[0] = x from rfl, hp] at this; cases this
    | true =>
      simp only [if_true]
      exact mono_of_split (l := l) (fun i j hij hj hpj => h (i + 1) (j + 1) (by omega) (by simp; omega) hpj)
end Go.Ev
end
section
/- slices_BinarySearchFunc_Lease: its contract. -/
namespace Go.Ev.Seat
open Go.RowKit
set_option maxRecDepth 100000
set_option linter.unusedVariables false
set_option linter.unusedSimpArgs false
def z_slices_BinarySearchFunc_Lease_3_0 (x0 : List T_Lease) (x8 : Int) (x9 : Int) (b00 : Int) (b01 : Int) (b02 : Int) (b03 : Int) : St := { tm := ([(.l .no leaseR x0), .x, (.f 143 []), .x, (.pb 0 0), .x, .x, .x, (.s (.int .i64 x8)), (.s (.int .i64 x9))] ++ List.replicate 39 .x), ob := [(0, (.box [(.s (.int .i64 b00)), (.s (.int .i64 b01)), (.s (.int .i64 b02)), (.s (.int .i64 b03))]))], nx := 1, io := [] }
def sh_slices_BinarySearchFunc_Lease_3_0 : Ss := { tm := (.cons (.l .no leaseR) (.cons (.x) (.cons (.f 143 .nil) (.cons (.x) (.cons (.pb 0 0) (.cons (.x) (.cons (.x) (.cons (.x) (.cons (.int .i64) (.cons (.int .i64) (.cons (.int .i64) (xsh 38)))))))))))), ob := (.box (.cons (.int .i64) (.cons (.int .i64) (.cons (.int .i64) (.cons (.int .i64) .nil)))) .nil), nx := 1, io := .nil }
def d_slices_BinarySearchFunc_Lease_3_0 (x0 : List T_Lease) (x8 : Int) (x9 : Int) (x10 : Int) (b00 : Int) (b01 : Int) (b02 : Int) (b03 : Int) : sh_slices_BinarySearchFunc_Lease_3_0.T := ((x0, ((), ((), ((), ((), ((), ((), ((), (x8, (x9, (x10, xd 38))))))))))), ((b00, (b01, (b02, (b03, ())))), ()), ())
def s_slices_BinarySearchFunc_Lease_3_0 (x0 : List T_Lease) (x8 : Int) (x9 : Int) (x10 : Int) (b00 : Int) (b01 : Int) (b02 : Int) (b03 : Int) : St := { tm := ([(.l .no leaseR x0), .x, (.f 143 []), .x, (.pb 0 0), .x, .x, .x, (.s (.int .i64 x8)), (.s (.int .i64 x9)), (.s (.int .i64 x10))] ++ List.replicate 38 .x), ob := [(0, (.box [(.s (.int .i64 b00)), (.s (.int .i64 b01)), (.s (.int .i64 b02)), (.s (.int .i64 b03))]))], nx := 1, io := [] }
theorem se_slices_BinarySearchFunc_Lease_3_0 (x0 : List T_Lease) (x8 : Int) (x9 : Int) (x10 : Int) (b00 : Int) (b01 : Int) (b02 : Int) (b03 : Int) : sh_slices_BinarySearchFunc_Lease_3_0.mk' (d_slices_BinarySearchFunc_Lease_3_0 x0 x8 x9 x10 b00 b01 b02 b03) = (s_slices_BinarySearchFunc_Lease_3_0 x0 x8 x9 x10 b00 b01 b02 b03) := by kernel_rfl
def w_slices_BinarySearchFunc_Lease_3_0 (d : sh_slices_BinarySearchFunc_Lease_3_0.T) (f : (List T_Lease) → Int → Int → Int → Int → Int → Int → Int → Option Ret) : Option Ret := match d with | ((x0, (_, (_, (_, (_, (_, (_, (_, (x8, (x9, (x10, _))))))))))), ((b00, (b01, (b02, (b03, _)))), _), _) => f x0 x8 x9 x10 b00 b01 b02 b03
noncomputable def P_slices_BinarySearchFunc_Lease_3_0 (x0 : List T_Lease) (x8 : Int) (x9 : Int) (x10 : Int) (b00 : Int) (b01 : Int) (b02 : Int) (b03 : Int) (nx0 : (List T_Lease) → Int → Int → Int → Int → Int → Int → Int → Option Ret) (k0 : (List T_Lease) → Int → Int → Int → Int → Int → Int → Option Ret) : Option Ret := (bif (decide (x9 < x10)) then (bif ((decide ((0 : Int) ≤ (IntKind.wrap .i64 (shrI .u64 (IntKind.wrap .u64 (IntKind.wrap .i64 (x9 + x10))) (1 : Int))))) && (decide ((IntKind.wrap .i64 (shrI .u64 (IntKind.wrap .u64 (IntKind.wrap .i64 (x9 + x10))) (1 : Int))) < (((List.length x0) : Nat) : Int)))) then (bif (decide ((cmpD (List.getD x0 (Int.toNat (IntKind.wrap .i64 (shrI .u64 (IntKind.wrap .u64 (IntKind.wrap .i64 (x9 + x10))) (1 : Int)))) (leaseR.dflt)) (b00, (b01, (b02, b03)))) < (0 : Int))) then (nx0 x0 x8 (IntKind.wrap .i64 ((IntKind.wrap .i64 (shrI .u64 (IntKind.wrap .u64 (IntKind.wrap .i64 (x9 + x10))) (1 : Int))) + (1 : Int))) x10 b00 b01 b02 b03) else (nx0 x0 x8 x9 (IntKind.wrap .i64 (shrI .u64 (IntKind.wrap .u64 (IntKind.wrap .i64 (x9 + x10))) (1 : Int))) b00 b01 b02 b03)) else none) else (k0 x0 x8 x9 b00 b01 b02 b03))
noncomputable def Q_slices_BinarySearchFunc_Lease_3_0 : Nat → (List T_Lease) → Int → Int → Int → Int → Int → Int → Int → ((List T_Lease) → Int → Int → Int → Int → Int → Int → Option Ret) → Option Ret
  | 0, _, _, _, _, _, _, _, _, _ => none
  | m + 1, x0, x8, x9, x10, b00, b01, b02, b03, k0 => P_slices_BinarySearchFunc_Lease_3_0 x0 x8 x9 x10 b00 b01 b02 b03 (fun x0 x8 x9 x10 b00 b01 b02 b03 => (Q_slices_BinarySearchFunc_Lease_3_0 m x0 x8 x9 x10 b00 b01 b02 b03 k0)) k0
noncomputable def R_slices_BinarySearchFunc_Lease_3_0 (x0 : List T_Lease) (x8 : Int) (x9 : Int) (x10 : Int) (b00 : Int) (b01 : Int) (b02 : Int) (b03 : Int) (k0 : (List T_Lease) → Int → Int → Int → Int → Int → Int → Option Ret) : Option Ret := Q_slices_BinarySearchFunc_Lease_3_0 (List.length x0 + x8.toNat + x9.toNat + x10.toNat + b00.toNat + b01.toNat + b02.toNat + b03.toNat + 2) x0 x8 x9 x10 b00 b01 b02 b03 k0
noncomputable def W_slices_BinarySearchFunc_Lease_3 : LoopFn := (fun (σ : St) (K : Ex → St → Option Ret) => (match sh_slices_BinarySearchFunc_Lease_3_0.un σ with | some d => w_slices_BinarySearchFunc_Lease_3_0 d (fun x0 x8 x9 x10 b00 b01 b02 b03 => R_slices_BinarySearchFunc_Lease_3_0 x0 x8 x9 x10 b00 b01 b02 b03 (fun x0 x8 x9 b00 b01 b02 b03 => (K (.ext 0) (z_slices_BinarySearchFunc_Lease_3_0 x0 x8 x9 b00 b01 b02 b03)))) | none => none))
noncomputable abbrev pl_slices_BinarySearchFunc_Lease : List (Nat × Plan × List Nat) := [(5, takeB [0, 1, 2, 3, 4, 5] (.fork (.one 6 (takes [7]))), []), (8, takeB [0, 1, 2, 3, 4, 5, 6, 7, 8, 9, 10] (.fork (.one 11 (takes [12, 13, 14, 15]))), [])]
noncomputable abbrev ls_slices_BinarySearchFunc_Lease : List (Nat × Bool × Sm) := [(N.i_compareLeases, true, S_i_compareLeases)]
noncomputable abbrev E_slices_BinarySearchFunc_Lease : Env := En ls_slices_BinarySearchFunc_Lease pl_slices_BinarySearchFunc_Lease [(3, [0,2,4,8,9,10], [0,2,4,6,7,8,9], W_slices_BinarySearchFunc_Lease_3)] [] false 0 []
noncomputable abbrev U_slices_BinarySearchFunc_Lease_3 := rounds (run E_slices_BinarySearchFunc_Lease (bodyOf F.slices_BinarySearchFunc_Lease 3)) [0,2,4,8,9,10] [0,2,4,6,7,8,9]
theorem st_slices_BinarySearchFunc_Lease_3_0 (m : Nat) (x0 : List T_Lease) (x8 : Int) (x9 : Int) (x10 : Int) (b00 : Int) (b01 : Int) (b02 : Int) (b03 : Int) (K : Ex → St → Option Ret) : U_slices_BinarySearchFunc_Lease_3 (m + 1) (s_slices_BinarySearchFunc_Lease_3_0 x0 x8 x9 x10 b00 b01 b02 b03) K = P_slices_BinarySearchFunc_Lease_3_0 x0 x8 x9 x10 b00 b01 b02 b03 (fun x0 x8 x9 x10 b00 b01 b02 b03 => (U_slices_BinarySearchFunc_Lease_3 m (s_slices_BinarySearchFunc_Lease_3_0 x0 x8 x9 x10 b00 b01 b02 b03) K)) (fun x0 x8 x9 b00 b01 b02 b03 => (K (.ext 0) (z_slices_BinarySearchFunc_Lease_3_0 x0 x8 x9 b00 b01 b02 b03))) := by kernel_rfl
theorem q_slices_BinarySearchFunc_Lease_3 (K : Ex → St → Option Ret) : ∀ m : Nat, (∀ (x0 : List T_Lease) (x8 : Int) (x9 : Int) (x10 : Int) (b00 : Int) (b01 : Int) (b02 : Int) (b03 : Int), U_slices_BinarySearchFunc_Lease_3 m (s_slices_BinarySearchFunc_Lease_3_0 x0 x8 x9 x10 b00 b01 b02 b03) K = Q_slices_BinarySearchFunc_Lease_3_0 m x0 x8 x9 x10 b00 b01 b02 b03 (fun x0 x8 x9 b00 b01 b02 b03 => (K (.ext 0) (z_slices_BinarySearchFunc_Lease_3_0 x0 x8 x9 b00 b01 b02 b03))))
  | 0 => (fun _ _ _ _ _ _ _ _ => rfl)
  | m + 1 => (fun x0 x8 x9 x10 b00 b01 b02 b03 => (by rw [st_slices_BinarySearchFunc_Lease_3_0, show (fun x0 x8 x9 x10 b00 b01 b02 b03 => (U_slices_BinarySearchFunc_Lease_3 m (s_slices_BinarySearchFunc_Lease_3_0 x0 x8 x9 x10 b00 b01 b02 b03) K)) = (fun x0 x8 x9 x10 b00 b01 b02 b03 => (Q_slices_BinarySearchFunc_Lease_3_0 m x0 x8 x9 x10 b00 b01 b02 b03 (fun x0 x8 x9 b00 b01 b02 b03 => (K (.ext 0) (z_slices_BinarySearchFunc_Lease_3_0 x0 x8 x9 b00 b01 b02 b03))))) from funext fun x0 => funext fun x8 => funext fun x9 => funext fun x10 => funext fun b00 => funext fun b01 => funext fun b02 => funext fun b03 => (q_slices_BinarySearchFunc_Lease_3 K m) x0 x8 x9 x10 b00 b01 b02 b03]; rfl))
theorem loopK_slices_BinarySearchFunc_Lease_3 : LoopOk E_slices_BinarySearchFunc_Lease (bodyOf F.slices_BinarySearchFunc_Lease 3) := by
  refine loopW_ok (n := 3) (F := W_slices_BinarySearchFunc_Lease_3) (by kernel_rfl) rfl (li := [0,2,4,8,9,10]) (lo := [0,2,4,6,7,8,9]) rfl (fun σ K r hr => ?_)
  unfold W_slices_BinarySearchFunc_Lease_3 at hr
  split at hr
  · rename_i d hd
    rw [Ss.un_mk hd]
    exact ⟨_, ((congrArg (fun z => U_slices_BinarySearchFunc_Lease_3 _ z K) (se_slices_BinarySearchFunc_Lease_3_0 _ _ _ _ _ _ _ _)).trans ((q_slices_BinarySearchFunc_Lease_3 K _) _ _ _ _ _ _ _ _)).trans hr⟩
  · cases hr
noncomputable def T_slices_BinarySearchFunc_Lease (l : List T_Lease) (s : T_Lease) (K : Ret → Option Ret) : Option Ret := (R_slices_BinarySearchFunc_Lease_3_0 l (((List.length l) : Nat) : Int) (0 : Int) (((List.length l) : Nat) : Int) s.1 s.2.1 s.2.2.1 s.2.2.2 (fun y0 y1 y2 y3 y4 y5 y6 => (bif (decide (y2 < y1)) then (bif ((decide ((0 : Int) ≤ y2)) && (decide (y2 < (((List.length y0) : Nat) : Int)))) then K ((.t [(.s (.int .i64 y2)), (.s (.bool ((cmpD (List.getD y0 (Int.toNat y2) (leaseR.dflt)) (y3, (y4, (y5, y6)))) == (0 : Int))))]), []) else none) else K ((.t [(.s (.int .i64 y2)), (.s (.bool false))]), []))))
theorem e_slices_BinarySearchFunc_Lease (l : List T_Lease) (s : T_Lease) (K : Ret → Option Ret) : evF E_slices_BinarySearchFunc_Lease true F.slices_BinarySearchFunc_Lease [.l .no leaseR l, .a (leaseR.cells .no s), .f N.i_compareLeases []] K = T_slices_BinarySearchFunc_Lease l s K := by kernel_rfl
def S_slices_BinarySearchFunc_Lease : Sm := S_fnR [.l leaseR, .a leaseR, .sh (.f N.i_compareLeases .nil)] (fun d => Nat.ble d.1.length 1048576 && monoB (fun x => decide (cmpD x d.2.1 < 0)) d.1) (fun d => (.t [.s (.int .i64 ((cutN (fun x => decide (cmpD x d.2.1 < 0)) d.1 : Nat) : Int)), .s (.bool (foundB (fun x => decide (cmpD x d.2.1 < 0)) (fun x => cmpD x d.2.1 == 0) (leaseR).dflt d.1))], []))
theorem v_slices_BinarySearchFunc_Lease (l : List T_Lease) (s : T_Lease) (h : (Nat.ble l.length 1048576 && monoB (fun x => decide (cmpD x s < 0)) l) = true) (K : Ret → Option Ret) : T_slices_BinarySearchFunc_Lease l s K = K (.t [.s (.int .i64 ((cutN (fun x => decide (cmpD x s < 0)) l : Nat) : Int)), .s (.bool (foundB (fun x => decide (cmpD x s < 0)) (fun x => cmpD x s == 0) (leaseR).dflt l))], []) := by
  have hpp : ∃ p : T_Lease → Bool, p = (fun x => decide (cmpD x s < 0)) := ⟨_, rfl⟩
  obtain ⟨p, hp⟩ := hpp
  rw [← hp] at h ⊢
  simp only [Bool.and_eq_true] at h
  have hl := Nat.le_of_ble_eq_true h.1
  have hm : monoB p l = true := h.2
  have hc := cutN_le p l
  unfold T_slices_BinarySearchFunc_Lease R_slices_BinarySearchFunc_Lease_3_0
  have q : ∀ (k0 : List T_Lease → Int → Int → Int → Int → Int → Int → Option Ret) (m : Nat), l.length < m → Q_slices_BinarySearchFunc_Lease_3_0 m l ((l.length : Nat) : Int) ((0 : Nat) : Int) ((l.length : Nat) : Int) s.1 s.2.1 s.2.2.1 s.2.2.2 k0 = k0 l ((l.length : Nat) : Int) ((cutN p l : Nat) : Int) s.1 s.2.1 s.2.2.1 s.2.2.2 := by
    intro k0 m hmm
    refine bs_loop (R := fun m i j => Q_slices_BinarySearchFunc_Lease_3_0 m l ((l.length : Nat) : Int) i j s.1 s.2.1 s.2.2.1 s.2.2.2 k0) (p := p) (kt := fun i => k0 l ((l.length : Nat) : Int) i s.1 s.2.1 s.2.2.1 s.2.2.2) (l := l) (z := (leaseR).dflt) (fun m i j hij hj => ?_) (fun m i hi => ?_) hm m 0 l.length (Nat.zero_le _) hc (Nat.le_refl _) (by omega)
    · show P_slices_BinarySearchFunc_Lease_3_0 l ((l.length : Nat) : Int) ((i : Nat) : Int) ((j : Nat) : Int) s.1 s.2.1 s.2.2.1 s.2.2.2 _ _ = _
      unfold P_slices_BinarySearchFunc_Lease_3_0
      rw [decide_eq_true (show ((i : Nat) : Int) < ((j : Nat) : Int) by omega), half_ok (by omega), decide_eq_true (show (0 : Int) ≤ (((i + j) / 2 : Nat) : Int) by omega), decide_eq_true (show (((i + j) / 2 : Nat) : Int) < ((l.length : Nat) : Int) by omega), Int.toNat_natCast, wrap_nat (by omega)]
      rw [hp]; rfl
    · show P_slices_BinarySearchFunc_Lease_3_0 l ((l.length : Nat) : Int) ((i : Nat) : Int) ((i : Nat) : Int) s.1 s.2.1 s.2.2.1 s.2.2.2 _ _ = _
      unfold P_slices_BinarySearchFunc_Lease_3_0
      rw [decide_eq_false (show ¬ ((i : Nat) : Int) < ((i : Nat) : Int) by omega)]; rfl
  refine (q _ _ (by omega)).trans ?_
  unfold foundB
  by_cases hlt : cutN p l < l.length
  · rw [decide_eq_true (show ((cutN p l : Nat) : Int) < ((l.length : Nat) : Int) by omega), decide_eq_true (show (0 : Int) ≤ ((cutN p l : Nat) : Int) by omega), Int.toNat_natCast, show Nat.blt (cutN p l) l.length = true from Nat.ble_eq_true_of_le hlt]
    rfl
  · rw [decide_eq_false (show ¬ ((cutN p l : Nat) : Int) < ((l.length : Nat) : Int) by omega), show Nat.blt (cutN p l) l.length = false from Bool.eq_false_iff.2 (fun q => hlt (Nat.le_of_ble_eq_true q))]
    rfl
theorem okS_slices_BinarySearchFunc_Lease : OkFn prog I N.slices_BinarySearchFunc_Lease true S_slices_BinarySearchFunc_Lease := okN (ok_fn (memc okS_i_compareLeases mem0) (l := ls_slices_BinarySearchFunc_Lease) (p := pl_slices_BinarySearchFunc_Lease) (ls := [(3, [0,2,4,8,9,10], [0,2,4,6,7,8,9], W_slices_BinarySearchFunc_Lease_3)]) (lend := []) (focus := false) (fuel := 0) (give := []) (fn := F.slices_BinarySearchFunc_Lease) (by kernel_rfl) (by kernel_rfl) (by kernel_rfl) (by kernel_rfl) (cs := [bodyOf F.slices_BinarySearchFunc_Lease 3]) (by kernel_rfl) (loopsc loopK_slices_BinarySearchFunc_Lease_3 loops0)) (S_fnR_of fun d K h => (e_slices_BinarySearchFunc_Lease d.1 d.2.1 K).trans (v_slices_BinarySearchFunc_Lease d.1 d.2.1 h K))
end Go.Ev.Seat
end
section
/- slices_Clone_Lease: its contract. -/
namespace Go.Ev.Seat
open Go.RowKit
set_option maxRecDepth 100000
set_option linter.unusedVariables false
set_option linter.unusedSimpArgs false
noncomputable abbrev E_slices_Clone_Lease : Env := En [] [] [] [] false 0 []
noncomputable def T_slices_Clone_Lease (l : List T_Lease) (K : Ret → Option Ret) : Option Ret := (bif (Nat.beq (List.length l) 0) then (meet (K ((.l .deep leaseR []), [])) ((bif (Nat.ble (((List.length ([] : List Int)) + (List.length l)) * 32) 140737488355328) then K ((.l .deep leaseR ([] ++ l)), []) else none))) else (bif (Nat.ble (((List.length ([] : List Int)) + (List.length l)) * 32) 140737488355328) then K ((.l .deep leaseR ([] ++ l)), []) else none))
theorem e_slices_Clone_Lease (l : List T_Lease) (K : Ret → Option Ret) : evF E_slices_Clone_Lease true F.slices_Clone_Lease [.l .no leaseR l] K = T_slices_Clone_Lease l K := by kernel_rfl
def S_slices_Clone_Lease : Sm := S_fnR [.l leaseR] (fun d => Nat.ble d.1.length 1048576) (fun d => (.l .deep leaseR d.1, []))
theorem v_slices_Clone_Lease (l : List T_Lease) (h : (Nat.ble l.length 1048576) = true) (K : Ret → Option Ret) : T_slices_Clone_Lease l K = K (.l .deep leaseR l, []) := by
  have h1 := Nat.le_of_ble_eq_true h
  unfold T_slices_Clone_Lease
  rw [Nat.ble_eq_true_of_le (by simp; omega)]
  cases l with
  | nil => exact meet_self _
  | cons x xs => rfl
theorem okS_slices_Clone_Lease : OkFn prog I N.slices_Clone_Lease true S_slices_Clone_Lease := okN (ok_fn mem0 (l := []) (p := []) (ls := []) (lend := []) (focus := false) (fuel := 0) (give := []) (fn := F.slices_Clone_Lease) (by kernel_rfl) (by kernel_rfl) (by kernel_rfl) (by kernel_rfl) (cs := []) (by kernel_rfl) loops0) (S_fnR_of fun d K h => (e_slices_Clone_Lease d.1 K).trans (v_slices_Clone_Lease d.1 h K))
end Go.Ev.Seat
end
section
/- slices.Insert and slices.Delete over rows of several cells: what the memory holds. -/
set_option linter.unusedVariables false
set_option linter.unusedSimpArgs false
namespace Go.Ev
open Go.RowKit

/-- A row with cells put in, from a place on. -/
def rput (cur : List Value) (o : Nat) (vs : List Value) : List Value := cur.take o ++ vs ++ cur.drop (o + vs.length)
theorem rput_len {cur vs : List Value} {o : Nat} (h : o + vs.length ≤ cur.length) : (rput cur o vs).length = cur.length := by
  simp only [rput, List.length_append, List.length_take, List.length_drop]; omega
theorem rput_get {cur vs : List Value} {o : Nat} (h : o + vs.length ≤ cur.length) (j : Nat) : (rput cur o vs)[j]? = if o ≤ j ∧ j < o + vs.length then vs[j - o]? else cur[j]? := by
  have hl : (cur.take o).length = o := by rw [List.length_take]; omega
  unfold rput
  by_cases h1 : j < o
  · rw [if_neg (by omega), List.append_assoc, List.getElem?_append_left (by omega), List.getElem?_take, if_pos h1]
  · by_cases h2 : j < o + vs.length
    · rw [if_pos (by omega), List.append_assoc, List.getElem?_append_right (by omega), List.getElem?_append_left (by omega), hl]
    · rw [if_neg (by omega), List.getElem?_append_right (by rw [List.length_append]; omega), List.getElem?_drop, List.length_append, hl]
      congr 1; omega

/-- The cells of a block from a place on. -/
def Shows (w : World) (b o : Nat) (vs : List Value) : Prop := ∀ j v, vs[j]? = some v → w.cell? ⟨b, o + j, none⟩ = some v
theorem Shows.of {w : World} {b o : Nat} {vs cur : List Value} {t : TypeId} (hb : w.heap[b]? = some (.cells ⟨cur⟩ t (0, 0))) (h : ∀ j v, vs[j]? = some v → cur[o + j]? = some v) : Shows w b o vs := fun j v hj => by
  simp only [World.cell?, hb]
  simpa using h j v hj
theorem Shows.cur {w : World} {b o : Nat} {vs cur : List Value} {t : TypeId} (h : Shows w b o vs) (hb : w.heap[b]? = some (.cells ⟨cur⟩ t (0, 0))) : ∀ j v, vs[j]? = some v → cur[o + j]? = some v := fun j v hj => by
  have := h j v hj
  simp only [World.cell?, hb] at this
  simpa using this
theorem Shows.drop {w : World} {b o : Nat} {vs : List Value} (h : Shows w b o vs) (k : Nat) : Shows w b (o + k) (vs.drop k) := fun j v hj => by
  rw [List.getElem?_drop] at hj
  rw [Nat.add_assoc]; exact h _ _ hj
theorem Shows.take {w : World} {b o : Nat} {vs : List Value} (h : Shows w b o vs) (k : Nat) : Shows w b o (vs.take k) := fun j v hj => by
  rw [List.getElem?_take] at hj
  split at hj
  · exact h _ _ hj
  · cases hj

/-- There is room: the cells behind are moved on, then the new ones are put in. -/
theorem insN_room {cur olds vs : List Value} {off p s : Nat} (hp : p ≤ olds.length) (hs : vs.length = s) (hl : off + olds.length + s ≤ cur.length) (hc : ∀ (j : Nat) (v : Value), olds[j]? = some v → cur[off + j]? = some v) :
    ∀ (j : Nat) (v : Value), (olds.take p ++ vs ++ olds.drop p)[j]? = some v → (rput (rput cur (off + (p + s)) (olds.drop p)) (off + p) vs)[off + j]? = some v := by
  have hd : (olds.drop p).length = olds.length - p := List.length_drop
  have ht : (olds.take p).length = p := by rw [List.length_take]; omega
  have h1 : off + (p + s) + (olds.drop p).length ≤ cur.length := by omega
  have h2 : off + p + vs.length ≤ (rput cur (off + (p + s)) (olds.drop p)).length := by rw [rput_len h1]; omega
  intro j v hj
  rw [rput_get h2, rput_get h1]
  by_cases c1 : j < p
  · rw [if_neg (by omega), if_neg (by omega)]
    rw [List.append_assoc, List.getElem?_append_left (by omega), List.getElem?_take, if_pos c1] at hj
    exact hc _ _ hj
  · by_cases c2 : j < p + s
    · rw [if_pos (by omega), show off + j - (off + p) = j - p by omega]
      rwa [List.append_assoc, List.getElem?_append_right (by omega), List.getElem?_append_left (by omega), ht] at hj
    · rw [List.getElem?_append_right (by rw [List.length_append]; omega), List.length_append, ht, hs] at hj
      have hlt : j < p + s + (olds.drop p).length := by
        rcases Nat.lt_or_ge (j - (p + s)) (olds.drop p).length with h | h
        · omega
        · rw [List.getElem?_eq_none h] at hj; cases hj
      rw [if_neg (by omega), if_pos ⟨by omega, by omega⟩, show off + j - (off + (p + s)) = j - (p + s) by omega]
      exact hj
/-- There is none: the first cells lie in a new row; the new ones, then those behind are put in. -/
theorem insN_grow {row olds vs : List Value} {p s : Nat} (hp : p ≤ olds.length) (hs : vs.length = s) (hl : olds.length + s ≤ row.length) (hc : ∀ (j : Nat) (v : Value), (olds.take p)[j]? = some v → row[j]? = some v) :
    ∀ (j : Nat) (v : Value), (olds.take p ++ vs ++ olds.drop p)[j]? = some v → (rput (rput row p vs) (p + s) (olds.drop p))[j]? = some v := by
  have hd : (olds.drop p).length = olds.length - p := List.length_drop
  have ht : (olds.take p).length = p := by rw [List.length_take]; omega
  have h1 : p + vs.length ≤ row.length := by omega
  have h2 : p + s + (olds.drop p).length ≤ (rput row p vs).length := by rw [rput_len h1]; omega
  intro j v hj
  rw [rput_get h2, rput_get h1]
  by_cases c1 : j < p
  · rw [if_neg (by omega), if_neg (by omega)]
    rw [List.append_assoc, List.getElem?_append_left (by omega)] at hj
    exact hc _ _ hj
  · by_cases c2 : j < p + s
    · rw [if_neg (by omega), if_pos (by omega)]
      rwa [List.append_assoc, List.getElem?_append_right (by omega), List.getElem?_append_left (by omega), ht] at hj
    · rw [List.getElem?_append_right (by rw [List.length_append]; omega), List.length_append, ht, hs] at hj
      have hlt : j < p + s + (olds.drop p).length := by
        rcases Nat.lt_or_ge (j - (p + s)) (olds.drop p).length with h | h
        · omega
        · rw [List.getElem?_eq_none h] at hj; cases hj
      rw [if_pos ⟨by omega, hlt⟩]
      exact hj

/-- Data split. -/
theorem RowsD.split {δ : Type} {R : δ → List Value → List Nat → Prop} {n : Nat} : ∀ {xs : List δ} {vs : List Value} {F : List Nat}, RowsD R n xs vs F → ∀ i, i ≤ xs.length →
    ∃ F1 F2, F = F1 ++ F2 ∧ RowsD R n (xs.take i) (vs.take (i * n)) F1 ∧ RowsD R n (xs.drop i) (vs.drop (i * n)) F2
  | xs, vs, F, h, 0, _ => ⟨[], F, rfl, by simp only [List.take_zero, Nat.zero_mul]; exact ⟨rfl, rfl⟩, by simpa using h⟩
  | x :: xs, vs, F, ⟨v1, v2, F1, F2, h1, h2, h3, h4, h5⟩, i + 1, hi => by
    obtain ⟨G1, G2, g1, g2, g3⟩ := RowsD.split h5 i (by simp at hi; omega)
    refine ⟨F1 ++ G1, G2, by rw [h2, g1, List.append_assoc], ?_, ?_⟩
    · rw [List.take_succ_cons]
      refine ⟨v1, v2.take (i * n), F1, G1, ?_, rfl, h3, h4, g2⟩
      rw [h1, Nat.succ_mul, List.take_append, List.take_of_length_le (by omega), show i * n + n - v1.length = i * n by omega]
    · rw [List.drop_succ_cons, h1, Nat.succ_mul, List.drop_append, show v1.drop (i * n + n) = [] from List.drop_eq_nil_of_le (by omega), show i * n + n - v1.length = i * n by omega, List.nil_append]
      exact g3

section
variable {P : Program}
/-- copy, for elements of any size, in the form of a row set anew. -/
theorem run_copy_rowN (w : World) (dT sT ty elem : TypeId) (i : TypeInfo) (g o dLen dCap : Nat) (a : Addr) (sLen sCap : Nat) (cur : Array Value) (t : TypeId) (cs : List Value)
    (hu : P.underlying dT = some (.slice elem)) (hi : P.info? elem = some i) (hg : w.heap[g]? = some (.cells cur t (0, 0))) (hn : cs.length = Nat.min sLen dLen * i.size)
    (hsrc : ∀ j v, cs[j]? = some v → w.cell? (a.add j) = some v) (hfit : o + cs.length ≤ cur.size) (h1 : ∀ v ∈ cs, v.oneCell' = true) :
    (Builtin.copy_ #[dT, sT] ty #[.slice (some ⟨g, o, none⟩) dLen dCap, .slice (some a) sLen sCap]).run P w =
      .ok (goInt (Nat.min sLen dLen)) (w.setRow g (rput cur.toList o cs).toArray) := by
  have hl := run_loadCells_list (P := P) w a cs hsrc
  have hst := run_storeCells_at P g o t cs 0 cur w hg (by simpa using hfit) h1
  simp [Builtin.copy_, run_underlying hu, Builtin.lenOf, Builtin.firstCells, sizeOf, typeInfo, hi, ← hn, hl, hst, rput]
theorem wp_copy_runN (w : World) {o : Oper} {a : Act} {K : Act → World → Prop} {Q : Exit → Act → World → Prop} (d s : Operand) (t t' : TypeId)
    (ho : o.op = .call { callee := .builtin .copy, args := #[d, s], argTypes := #[t, t'] }) (v u : Value) (hd : a.eval d = v) (hs : a.eval s = u) {v' : Value} {w' : World}
    (hr : (Builtin.copy_ #[t, t'] o.type #[v, u]).run P w = .ok v' w') (h : K (a.put o.dst v') w') : o.wp P a w K Q := by
  unfold Oper.wp execOp
  simp only [ho, resolve, invoke, builtin, Sem.run_bind, Sem.run_pure, Result.andThen_ok, List.map_toArray, List.map_cons, List.map_nil, hd, hs, hr]
  exact h
theorem wpList_copy_runN (w : World) {ops : Array Oper} {rest : List Oper} {o : Oper} {a : Act} {Q : Exit → Act → World → Prop} (hgd : o.guard = none) (d s : Operand) (t t' : TypeId)
    (ho : o.op = .call { callee := .builtin .copy, args := #[d, s], argTypes := #[t, t'] }) (v u : Value) (hd : a.eval d = v) (hs : a.eval s = u) {v' : Value} {w' : World}
    (hr : (Builtin.copy_ #[t, t'] o.type #[v, u]).run P w = .ok v' w') (h : wpList P ops Q rest (a.put o.dst v') w') : wpList P ops Q (o :: rest) a w :=
  wpList_plain hgd fun _ hK => wp_copy_runN w d s t t' ho v u hd hs hr (hK _ _ h)
theorem step_copy_runN {ops : Array Oper} {o : Oper} {a : Act} {w : World} {K : Act → World → Prop} {Q : Exit → Act → World → Prop} {E : Prop}
    (hg : o.guard = none) (d x : Operand) (dT sT : TypeId) (hop : o.op = Op.call { callee := Callee.builtin Builtin.copy, args := #[d, x], argTypes := #[dT, sT] })
    (v u : Value) (hd : a.eval d = v) (hx : a.eval x = u) {v' : Value} {w' : World} (hr : (Builtin.copy_ #[dT, sT] o.type #[v, u]).run P w = .ok v' w') (hK : K (a.put o.dst v') w') :
    if Region.wanted o (yielded ops a.tmps) = true then Oper.wp P o a w K Q else E := by
  have hw : Region.wanted o (yielded ops a.tmps) = true := by simp [Region.wanted, hg]
  rw [if_pos hw]
  unfold Oper.wp
  simp [execOp, hop, resolve, invoke, builtin, hd, hx, hr, Result.andThen]
  exact hK
theorem step_append_runN {ops : Array Oper} {o : Oper} {a : Act} {w : World} {K : Act → World → Prop} {Q : Exit → Act → World → Prop} {E : Prop}
    (hg : o.guard = none) (d x : Operand) (dT sT : TypeId) (hop : o.op = Op.call { callee := Callee.builtin Builtin.append, args := #[d, x], argTypes := #[dT, sT] })
    (v u : Value) (hd : a.eval d = v) (hx : a.eval x = u) {v' : Value} {w' : World} (hr : (Builtin.append_ #[dT, sT] o.type #[v, u]).run P w = .ok v' w') (hK : K (a.put o.dst v') w') :
    if Region.wanted o (yielded ops a.tmps) = true then Oper.wp P o a w K Q else E := by
  have hw : Region.wanted o (yielded ops a.tmps) = true := by simp [Region.wanted, hg]
  rw [if_pos hw]
  unfold Oper.wp
  simp [execOp, hop, resolve, invoke, builtin, hd, hx, hr, Result.andThen]
  exact hK
/-- clear, for elements of any size, in the form of a row set anew. -/
theorem run_clear_rowN (w : World) (t ty elem : TypeId) (z : Value) (g o n c : Nat) (cur : Array Value) (bt : TypeId) (hn : 0 < n)
    (hu : P.underlying t = some (.slice elem)) (hz : ∀ w, (zeroValue elem).run P w = .ok z w) (hg : w.heap[g]? = some (.cells cur bt (0, 0)))
    (hfit : o + n * z.cells.size ≤ cur.size) (h1 : ∀ u ∈ (List.replicate n z.cells.toList).flatten, u.oneCell' = true) :
    (Builtin.clear_ #[t] ty #[.slice (some ⟨g, o, none⟩) n c]).run P w = .ok (.tuple #[]) (w.setRow g (rput cur.toList o (List.replicate n z.cells.toList).flatten).toArray) := by
  have hzc : (Builtin.zeroCells z.cells n).toList = (List.replicate n z.cells.toList).flatten := by
    rw [← zeros_list z.cells n]; rfl
  have hlen : (List.replicate n z.cells.toList).flatten.length = n * z.cells.size := by
    simp [List.length_flatten, List.map_replicate, List.sum_replicate_nat]
  have hst := run_storeCells_at P g o bt (List.replicate n z.cells.toList).flatten 0 cur w hg (by rw [hlen]; simpa using hfit) h1
  simp only [Nat.add_zero] at hst
  obtain ⟨m, rfl⟩ : ∃ m, n = m + 1 := ⟨n - 1, by omega⟩
  simp [-List.flatten_replicate_singleton, Builtin.clear_, run_underlying hu, hz, hzc, hst, rput]
end
end Go.Ev
namespace Go.Ev
open Go.RowKit
/-- What a call leaves whose result is one row that is owned, out of what came in. -/
theorem row_back {B0 : Nat} {w0 w w' : World} {N : Nat → Prop} {r : Rw} {out : List r.T} {c : Value} {g : Nat} {D O1 O3 : List Nat} (hnd : (O1 ++ O3).Nodup)
    (hO : ∀ x ∈ O1 ++ O3, B0 ≤ x ∧ x < w.heap.size) (hs : SlT (RwR w' false r) w' false r.n out c (g :: D)) (hsub : ∀ x ∈ D, x ∈ O1.drop 1 ++ O3.drop 1) (hDn : D.Nodup)
    (hg : O1.head? = some g ∨ w.heap.size ≤ g) (hgs : g < w'.heap.size) (hbel : Below B0 w0 w') (hsz : w.heap.size ≤ w'.heap.size) (hfr : ∀ x, x < w.heap.size → O1.head? ≠ some x → w'.heap[x]? = w.heap[x]?)
    (hHN : ∀ x ∈ O1.take 1, ¬ N x) (hNs : ∀ x, N x → x < w.heap.size) : Back B0 w0 w N (O1 ++ O3) [] true (.l .deep r out, []) c w' := by
  have hDO : ∀ x ∈ D, x ∈ O1 ++ O3 := fun x hx => by
    rcases List.mem_append.1 (hsub x hx) with h | h
    · exact List.mem_append.2 (.inl (List.mem_of_mem_drop h))
    · exact List.mem_append.2 (.inr (List.mem_of_mem_drop h))
  have hgD : g ∉ D := fun h => by
    rcases hg with h1 | h1
    · cases O1 with
      | nil => cases h1
      | cons b O1 =>
        simp only [List.head?_cons, Option.some.injEq] at h1
        subst h1
        have h2 := hsub _ h
        simp only [List.drop_succ_cons, List.drop_zero, List.mem_append] at h2
        rw [List.cons_append, List.nodup_cons] at hnd
        rcases h2 with h2 | h2
        · exact hnd.1 (List.mem_append.2 (.inl h2))
        · exact hnd.1 (List.mem_append.2 (.inr (List.mem_of_mem_drop h2)))
    · have := (hO g (hDO g h)).2; omega
  have hgN : ¬ N g := fun hn => by
    rcases hg with h1 | h1
    · refine hHN g ?_ hn
      cases O1 with
      | nil => cases h1
      | cons b O1 => simp only [List.head?_cons, Option.some.injEq] at h1; subst h1; simp
    · have := hNs g hn; omega
  refine ⟨⟨g :: D, D, [g], [], [], [], ⟨hs, rfl, rfl⟩, ⟨rfl, rfl, rfl, rfl⟩, by rw [List.append_nil]; exact List.nodup_cons.2 ⟨hgD, hDn⟩, fun x hx => ?_, fun x hx => ?_, fun x hx => ?_⟩, hbel, hsz, fun x hx hc => hfr x hx fun he => ?_⟩
  · rw [List.append_nil] at hx
    rcases List.mem_cons.1 hx with rfl | hx
    · refine ⟨?_, hgs⟩
      rcases hg with h1 | h1
      · exact .inl (List.mem_append.2 (.inl (List.mem_of_mem_head? h1)))
      · exact .inr h1
    · have := hDO x hx
      exact ⟨.inl this, Nat.lt_of_lt_of_le (hO x this).2 hsz⟩
  · rw [List.append_nil] at hx
    have := hDO x hx
    exact ⟨.inr (.inl this), Nat.lt_of_lt_of_le (hO x this).2 hsz, fun _ => by simp [hx]⟩
  · have e : x = g := by simpa using hx
    subst e
    exact ⟨by rw [List.append_nil]; exact hgD, hgN⟩
  · rcases hc with hc | hc
    · exact hc (List.mem_append.2 (.inl (List.mem_of_mem_head? he)))
    · refine hHN x ?_ hc
      cases O1 with
      | nil => cases he
      | cons b O1 => simp only [List.head?_cons, Option.some.injEq] at he; subst he; simp

/-- slices.Insert of one element, slices.Delete: what they yield. -/
def G_ins (r : Rw) : Sm := fun vs K => match vs with
  | [.l .deep r1 xs, .s (.int .i64 i), .l .deep r2 ys] => if h : r1 = r then if h' : r2 = r then
      bif decide (0 ≤ i) && decide (i ≤ ((xs.length : Nat) : Int)) && Nat.beq ys.length 1 && Nat.ble xs.length 1048576 then
        K (.l .deep r ((h ▸ xs : List r.T).take i.toNat ++ (h' ▸ ys : List r.T) ++ (h ▸ xs : List r.T).drop i.toNat), [])
      else none else none else none
  | _ => none
def G_del (r : Rw) : Sm := fun vs K => match vs with
  | [.l .deep r1 xs, .s (.int .i64 i), .s (.int .i64 j)] => if h : r1 = r then
      bif decide (0 ≤ i) && decide (i ≤ j) && decide (j ≤ ((xs.length : Nat) : Int)) && Nat.ble xs.length 1048576 then
        K (.l .deep r ((h ▸ xs : List r.T).take i.toNat ++ (h ▸ xs : List r.T).drop j.toNat), [])
      else none else none
  | _ => none

section
variable {P : Program} {I : Nat → World → Prop}
theorem insN_ok {f : FuncId} {r : Rw} {s : Nat} {t e tv : TypeId} {i0 : TypeInfo} {z : Value} (ht : P.underlying t = some (.slice e)) (hi0 : P.info? e = some i0) (hz : i0.zero = some z) (hzs : z.cells.size = i0.size) (hb0 : i0.bytes ≠ 0) (hb1 : i0.bytes ≤ 4096)
    (hr : i0.size = r.n) (hrs : r.n = s) (hs0 : 0 < s) (hz1 : ∀ u ∈ z.cells.toList, u.oneCell' = true) (htv : P.underlying tv = some (.int .i64))
    (hent : ∀ (args : Array Value) (w : World), (callFunc f args).run P w = .ok (.enter f args) w)
    (hfin : ∀ (base : Option Addr) (n c vb voff vc : Nat) (w : World) (c1 : Value) (w1 : World), n ≤ c → (base = none → n = 0) →
      (∀ ty, (Builtin.append_ #[t, t] ty #[.slice base n c, .slice (some ⟨vb, voff, none⟩) 1 vc]).run P w = .ok c1 w1) →
      Calls P f #[.slice base n c, .int .i64 n, .slice (some ⟨vb, voff, none⟩) 1 vc] w fun e w' => e = .returned c1 ∧ w' = w1)
    (hroom : ∀ (b off n c i vb voff vc : Nat) (w : World), i < n → n ≤ 1048576 → n + 1 ≤ c → vb ≠ b →
      ∀ (tA tB : TypeId) (kA kB : Nat), w.shape? vb = some (tA, kA) → w.shape? b = some (tB, kB) → kB ≠ 0 → w.frozen? ⟨vb, voff, none⟩ = false → w.frozen? ⟨vb, kA, none⟩ = false →
      ∀ (w1 w2 : World), (∀ ty dc sc, (Builtin.copy_ #[t, t] ty #[.slice (some ⟨b, off + (i + 1) * s, none⟩) (n - i) dc, .slice (some ⟨b, off + i * s, none⟩) (n + 1 - i) sc]).run P w.drew = .ok (goInt (n - i : Nat)) w1) →
      (∀ (W : World), (∀ x, W.cell? x = w1.cell? x) → (∀ x, W.frozen? x = w1.frozen? x) → W = w1 → ∀ ty dc, (Builtin.copy_ #[t, t] ty #[.slice (some ⟨b, off + i * s, none⟩) (n + 1 - i) dc, .slice (some ⟨vb, voff, none⟩) 1 vc]).run P W = .ok (goInt 1) w2) →
      Calls P f #[.slice (some ⟨b, off, none⟩) n c, .int .i64 i, .slice (some ⟨vb, voff, none⟩) 1 vc] w fun e w' => e = .returned (.slice (some ⟨b, off, none⟩) (n + 1) c) ∧ w' = w2)
    (hgrow : ∀ (b off n c i vb voff vc : Nat) (w : World), i < n → n ≤ 1048576 → n ≤ c → c < n + 1 →
      ∀ (B G : Nat) (W0 w1 w2 : World), n + 1 ≤ G → (∀ ty, (Builtin.append_ #[t, tv] ty #[.slice (some ⟨b, off, none⟩) i c, .int .i64 ((n : Int) + 1 - (i : Int))]).run P w = .ok (.slice (some ⟨B, 0, none⟩) (n + 1) G) W0) →
      (∀ ty dc, (Builtin.copy_ #[t, t] ty #[.slice (some ⟨B, i * s, none⟩) (n + 1 - i) dc, .slice (some ⟨vb, voff, none⟩) 1 vc]).run P W0 = .ok (goInt 1) w1) →
      (∀ ty dc sc, (Builtin.copy_ #[t, t] ty #[.slice (some ⟨B, (i + 1) * s, none⟩) (n - i) dc, .slice (some ⟨b, off + i * s, none⟩) (n - i) sc]).run P w1.drew = .ok (goInt (n - i : Nat)) w2) →
      Calls P f #[.slice (some ⟨b, off, none⟩) n c, .int .i64 i, .slice (some ⟨vb, voff, none⟩) 1 vc] w fun e w' => e = .returned (.slice (some ⟨B, 0, none⟩) (n + 1) G) ∧ w' = w2) :
    OkFn P I f true (G_ins r) := by
  refine ⟨hent, fun ws K q hq B0 w0 w N vs O M H hI hbel hB hargs hnd hO hM hH hN => ?_⟩
  unfold G_ins at hq
  split at hq
  case h_2 => cases hq
  rename_i r1 xs k r ys
  split at hq
  case isFalse => cases hq
  rename_i e1
  subst e1
  split at hq
  case isFalse => cases hq
  rename_i e2
  subst e2
  cases hg : (decide (0 ≤ k) && decide (k ≤ ((xs.length : Nat) : Int)) && Nat.beq ys.length 1 && Nat.ble xs.length 1048576) with
  | false => rw [hg] at hq; cases hq
  | true =>
  rw [hg] at hq
  simp only [cond_true] at hq
  simp only [Bool.and_eq_true, decide_eq_true_eq] at hg
  obtain ⟨⟨⟨g0, g1⟩, g2⟩, g3⟩ := hg
  have g2 := Nat.eq_of_beq_eq_true g2
  have g3 := Nat.le_of_ble_eq_true g3
  obtain ⟨i, rfl⟩ : ∃ i : Nat, k = (i : Int) := ⟨k.toNat, by omega⟩
  rw [Int.toNat_natCast] at hq
  have hik : i ≤ xs.length := by omega
  obtain ⟨v1, vs1, O1, O1', M1, M1', H1, H1', rfl, rfl, rfl, rfl, a1, b1⟩ := hargs
  obtain ⟨v2, vs2, O2, O2', M2, M2', H2, H2', rfl, rfl, rfl, rfl, a2, b2⟩ := b1
  obtain ⟨v3, vs3, O3, O3', M3, M3', H3, H3', rfl, rfl, rfl, rfl, a3, b3⟩ := b2
  obtain ⟨rfl, rfl, rfl, rfl⟩ := b3
  obtain ⟨hx, rfl, rfl⟩ := a1
  obtain ⟨a2, rfl, rfl⟩ := a2
  obtain ⟨hy, rfl, rfl⟩ := a3
  have ev2 : v2 = .int .i64 (i : Int) := a2.1
  subst ev2
  simp only [List.nil_append, List.append_nil] at hnd hO hH
  have hmain : Calls P f #[v1, .int .i64 (i : Int), v3] w fun e w' => ∃ c1, e = .returned c1 ∧ ∃ g D, SlT (RwR w' false r) w' false r.n (xs.take i ++ ys ++ xs.drop i) c1 (g :: D) ∧ D.Perm (O1.drop 1 ++ O3.drop 1) ∧ (O1.head? = some g ∨ w.heap.size ≤ g) ∧ g < w'.heap.size ∧
      Below B0 w0 w' ∧ w.heap.size ≤ w'.heap.size ∧ ∀ x, x < w.heap.size → O1.head? ≠ some x → w'.heap[x]? = w.heap[x]? := by
    have hhead : ∀ g, O1.head? = some g → B0 ≤ g := fun g hg => (hO g (List.mem_append.2 (.inl (List.mem_of_mem_head? hg)))).1
    have hFG : ∀ x ∈ O1.drop 1 ++ O3.drop 1, x < w.heap.size ∧ O1.head? ≠ some x := fun x hx => by
      have hm : x ∈ O1 ++ O3 := by
        rcases List.mem_append.1 hx with h | h
        · exact List.mem_append.2 (.inl (List.mem_of_mem_drop h))
        · exact List.mem_append.2 (.inr (List.mem_of_mem_drop h))
      refine ⟨(hO x hm).2, fun he => ?_⟩
      cases O1 with
      | nil => cases he
      | cons b O1 =>
        simp only [List.head?_cons, Option.some.injEq] at he
        subst he
        rw [List.cons_append, List.nodup_cons] at hnd
        simp only [List.drop_succ_cons, List.drop_zero, List.mem_append] at hx
        rcases hx with h2 | h2
        · exact hnd.1 (List.mem_append.2 (.inl h2))
        · exact hnd.1 (List.mem_append.2 (.inr (List.mem_of_mem_drop h2)))
    obtain ⟨news, hsrc, hND⟩ := slt_src (P := P) hy ht
    have hyl := hND.len
    rcases hy with ⟨h, _⟩ | ⟨vb, vo, vc, G3, rfl, hvc, rfl, hvb, hvrow, hvR⟩
    · rw [h] at g2; cases g2
    obtain ⟨vcur, vbt, hvbr, hvcs⟩ := hvrow rfl
    rw [g2] at hsrc hyl ⊢
    rw [Nat.one_mul] at hyl
    have hbound : (xs.length + ys.length) * i0.bytes ≤ 140737488355328 := by
      have := Nat.mul_le_mul (show xs.length + ys.length ≤ 1048577 by omega) hb1
      omega
    by_cases hin : i = xs.length
    · subst hin
      have hsr : Src P i0.size t (.slice (some ⟨vb, vo, none⟩) 1 vc) ys.length news w := by rw [g2, hr]; exact hsrc
      have happ := fun ty => app_ok (ty := ty) (B0 := B0) (w0 := w0) ht hi0 hz hzs hb0 hr hx (ApSrc.ofSrc ht hi0 hz hsr) hND hbound hFG hbel hB hhead
      obtain ⟨w1, cv1, F1, p1, p2, p3, p4, p5, p6, p7⟩ := happ 0
      obtain ⟨base, cap, hv1, hcap, hnil⟩ : ∃ base cap, v1 = .slice base xs.length cap ∧ xs.length ≤ cap ∧ (base = none → xs.length = 0) := by
        rcases hx with ⟨h1, _, ad, cap, h2, _⟩ | ⟨b, o, cap, F', h1, h2, _⟩
        · exact ⟨ad, cap, by rw [h1]; exact h2, by rw [h1]; simp, fun _ => by rw [h1]; rfl⟩
        · exact ⟨_, cap, h1, h2, fun h => by cases h⟩
      subst hv1
      refine Calls.mono (hfin base xs.length cap vb vo vc w cv1 w1 hcap hnil (fun ty => p1)) ?_
      rintro e w' ⟨rfl, rfl⟩
      have hF1 : ∃ g D, F1 = g :: D := by
        rcases p5 with ⟨h, _⟩ | ⟨b, o, cap, F', _, _, h, _⟩
        · have : (xs ++ ys).length = 0 := by rw [h]; rfl
          rw [List.length_append, g2] at this; omega
        · exact ⟨b, F', h⟩
      obtain ⟨g, D, rfl⟩ := hF1
      refine ⟨cv1, rfl, g, D, ?_, ?_, ?_, ?_, p4, p2, p3⟩
      · rw [List.take_length, List.drop_length, List.append_nil]; exact p5
      · simp only [List.drop_succ_cons, List.drop_zero] at p6 ⊢
        rw [p6]
      · rcases p7 g rfl with h | ⟨h, _⟩
        · exact .inl h
        · exact .inr (by omega)
      · rcases p7 g rfl with h | ⟨h, h'⟩
        · exact Nat.lt_of_lt_of_le (hO g (List.mem_append.2 (.inl (List.mem_of_mem_head? h)))).2 p2
        · exact h'
    · have hlt : i < xs.length := by omega
      rcases hx with ⟨h, _⟩ | ⟨b, o, cap, F', rfl, hcap, rfl, hbw, hrow, hR⟩
      · rw [h] at hlt; simp at hlt
      obtain ⟨cur, bt, hb, hcs⟩ := hrow rfl
      obtain ⟨olds, hOD, hcells⟩ := hR.data
      have hol := hOD.len
      obtain ⟨F1, F2, hF, hD1, hD2⟩ := hOD.split i hik
      subst hF
      obtain ⟨news', hND', hnc⟩ := hvR.data
      simp only [List.drop_succ_cons, List.drop_zero] at hND hFG ⊢
      have hnl' := hND'.len
      rw [g2, Nat.one_mul] at hnl'
      have hvb' : vb ≠ b := by
        intro e; subst e
        rw [List.cons_append, List.nodup_cons] at hnd
        exact hnd.1 (by simp)
      rw [hrs] at hol hnl' hcs hvcs hD1 hD2 hND'
      have hp : i * s ≤ olds.length := by rw [hol]; exact Nat.mul_le_mul_right s hik
      have e1 : (i + 1) * s = i * s + s := Nat.succ_mul i s
      have hlen : (xs.take i ++ ys ++ xs.drop i).length = xs.length + 1 := by
        simp only [List.length_append, List.length_take, List.length_drop, g2]; omega
      have hdl : (olds.drop (i * s)).length = (xs.length - i) * s := by rw [List.length_drop, hol, Nat.sub_mul]
      have hoc : ∀ (j : Nat) (v : Value), olds[j]? = some v → cur.toList[o + j]? = some v := fun j v hj => by
        have := hcells j v hj
        simp only [World.cell?, hb] at this
        rw [Array.getElem?_toList]
        simpa using this
      have one1 : ∀ u ∈ olds.drop (i * s), u.oneCell' = true := fun u hu => hOD.one u (List.mem_of_mem_drop hu)
      have one2 : ∀ u ∈ news', u.oneCell' = true := hND'.one
      have hAdd : ∀ (b o j : Nat), (⟨b, o, none⟩ : Addr).add j = ⟨b, o + j, none⟩ := fun b o j => Addr.add_lit ..
      have hperm : (F1 ++ G3 ++ F2).Perm (F1 ++ F2 ++ G3) := by
        rw [List.append_assoc, List.append_assoc]
        exact List.Perm.append_left F1 List.perm_append_comm
      have hall : ∀ {w' : World}, (∀ x, x < w.heap.size → x ≠ b → w'.heap[x]? = w.heap[x]?) → RowsD (RwR w' false r) s (xs.take i ++ ys ++ xs.drop i) (olds.take (i * s) ++ news' ++ olds.drop (i * s)) (F1 ++ G3 ++ F2) := fun {w'} hw => by
        have hh : ∀ x ∈ F1 ++ F2 ++ G3, w'.heap[x]? = w.heap[x]? := fun x hx => hw x (hFG x hx).1 (fun e => (hFG x hx).2 (by rw [e]; rfl))
        refine RowsD.append (RowsD.append (hD1.imp fun x vs F' hk hR => RwR.imp (fun h => h) r hR fun y hy => hh y ?_) (hND'.imp fun x vs F' hk hR => RwR.imp (fun h => h) r hR fun y hy => hh y ?_)) (hD2.imp fun x vs F' hk hR => RwR.imp (fun h => h) r hR fun y hy => hh y ?_)
        · simp [hk y hy]
        · simp [hk y hy]
        · simp [hk y hy]
      by_cases hroomy : xs.length + 1 ≤ cap
      · -- room
        have hfit : o + olds.length + s ≤ cur.size := by
          have := Nat.mul_le_mul_right s hroomy
          rw [Nat.succ_mul] at this
          omega
        have k1 : o + (i * s + s) + (olds.drop (i * s)).length ≤ cur.toList.length := by
          have hcl : cur.toList.length = cur.size := Array.length_toList
          rw [List.length_drop, hcl]; omega
        obtain ⟨L1, hL1⟩ : ∃ L1, L1 = rput cur.toList (o + (i * s + s)) (olds.drop (i * s)) := ⟨_, rfl⟩
        have hL1l : L1.length = cur.size := by rw [hL1, rput_len k1]; exact Array.length_toList
        have hb1 : (w.drew.setRow b L1.toArray).heap[b]? = some (.cells L1.toArray bt (0, 0)) := setRow_heap w.drew b cur L1.toArray bt (0, 0) hb
        have hcall := hroom b o xs.length cap i vb vo vc w hlt g3 hroomy hvb' vbt bt vcur.size cur.size (by simp [World.shape?, hvbr]) (by simp [World.shape?, hb]) (by omega) (by simp [World.frozen?, hvbr]) (by simp [World.frozen?, hvbr])
          (w.drew.setRow b L1.toArray) ((w.drew.setRow b L1.toArray).setRow b (rput L1 (o + i * s) news').toArray)
          (fun ty dc sc => by
            have hmin : Nat.min (xs.length + 1 - i) (xs.length - i) = xs.length - i := by show min _ _ = _; omega
            have := run_copy_rowN (P := P) w.drew t t ty e i0 b (o + (i + 1) * s) (xs.length - i) dc ⟨b, o + i * s, none⟩ (xs.length + 1 - i) sc cur bt (olds.drop (i * s)) ht hi0 hb (by rw [hmin, hdl, hr, hrs])
              (fun j v hj => by rw [hAdd, Nat.add_assoc]; rw [List.getElem?_drop] at hj; exact hcells _ _ hj) (by rw [e1]; simpa using k1) one1
            rw [hmin, e1, ← hL1] at this
            rw [e1]
            exact this)
          (fun W _ _ hW ty dc => by
            subst hW
            have hmin : Nat.min 1 (xs.length + 1 - i) = 1 := by show min _ _ = _; omega
            have := run_copy_rowN (P := P) (w.drew.setRow b L1.toArray) t t ty e i0 b (o + i * s) (xs.length + 1 - i) dc ⟨vb, vo, none⟩ 1 vc L1.toArray bt news' ht hi0 hb1 (by rw [hmin, hnl', hr, hrs, Nat.one_mul])
              (fun j v hj => by
                rw [hAdd]
                exact (World.cell?_of_block (w := w) (a := ⟨vb, vo + j, none⟩) (setRow_other w.drew b vb L1.toArray hvb')).trans (hnc j v hj)) (by rw [List.size_toArray, hL1l]; omega) one2
            rw [hmin] at this
            exact this)
        refine Calls.mono hcall ?_
        rintro e w' ⟨rfl, rfl⟩
        have hL2l : (rput L1 (o + i * s) news').length = cur.size := by rw [rput_len (by omega), hL1l]
        have hb2 := setRow_heap (w.drew.setRow b L1.toArray) b L1.toArray (rput L1 (o + i * s) news').toArray bt (0, 0) hb1
        have hoth : ∀ x, x ≠ b → ((w.drew.setRow b L1.toArray).setRow b (rput L1 (o + i * s) news').toArray).heap[x]? = w.heap[x]? := fun x hx => by
          rw [setRow_other _ b x _ hx, setRow_other _ b x _ hx]; rfl
        have hsz : ((w.drew.setRow b L1.toArray).setRow b (rput L1 (o + i * s) news').toArray).heap.size = w.heap.size := by simp only [World.setRow, Array.size_modify]; rfl
        refine ⟨_, rfl, b, F1 ++ G3 ++ F2, ?_, hperm, .inl rfl, by rw [hsz]; exact hbw, Below.setRow' (Below.setRow' hbel.drew (hhead b rfl) _) (hhead b rfl) _, by rw [hsz]; exact Nat.le_refl _, fun x hx hne => hoth x (fun e => hne (by rw [e]; rfl))⟩
        refine .inr ⟨b, o, cap, F1 ++ G3 ++ F2, by rw [hlen], by rw [hlen]; exact hroomy, rfl, by rw [hsz]; exact hbw, fun _ => ⟨_, bt, hb2, by rw [List.size_toArray, hL2l, hrs]; exact hcs⟩, ?_⟩
        rw [hrs]
        refine (hall fun x _ hx => hoth x hx).rows ?_
        refine Shows.of (t := bt) (cur := rput L1 (o + i * s) news') hb2 ?_
        rw [hL1]
        exact insN_room hp hnl' (by rw [Array.length_toList]; exact hfit) hoc
      · -- no room
        have hz1' : ∀ (m : Nat), ∀ u ∈ (List.replicate m z.cells.toList).flatten, u.oneCell' = true := fun m u hu => by
          obtain ⟨l, hl, hu⟩ := List.mem_flatten.1 hu
          rw [List.eq_of_mem_replicate hl] at hu
          exact hz1 u hu
        have hkk : (xs.length : Int) + 1 - (i : Int) = ((xs.length + 1 - i : Nat) : Int) := by omega
        have hik2 : i + (xs.length + 1 - i) = xs.length + 1 := by omega
        have hfirst : (Builtin.firstCells i0.size i (.slice (some ⟨b, o, none⟩) i cap)).run P w.drew = .ok (olds.take (i * s)).toArray w.drew :=
          run_firstCells_some w.drew i0.size i ⟨b, o, none⟩ i cap (olds.take (i * s)) (by rw [List.length_take, hr, hrs]; omega) (fun j v hj => by
            rw [hAdd]
            rw [List.getElem?_take] at hj
            split at hj
            · exact hcells j v hj
            · cases hj)
        have hby : (xs.length + 1) * i0.bytes ≤ 140737488355328 := by rw [← g2]; exact hbound
        have hap : ∀ ty, (Builtin.append_ #[t, tv] ty #[.slice (some ⟨b, o, none⟩) i cap, .int .i64 ((xs.length : Int) + 1 - (i : Int))]).run P w = .ok (.slice (some ⟨w.heap.size, 0, none⟩) (xs.length + 1) (grownCap w (xs.length + 1) cap e))
            (w.drew.alloc (.cells ((olds.take (i * s) ++ (List.replicate (xs.length + 1 - i) z.cells.toList).flatten).toArray ++ Builtin.zeroCells z.cells (grownCap w (xs.length + 1) cap e - (xs.length + 1))) e (0, 0))) := fun ty => by
          have h := (ApSrc.ofZeros (P := P) (w := w) (ty := ty) ht hi0 hz hzs htv (k := .i64) (n := xs.length + 1 - i) (by omega) (hz1' _)).grow (Nat.le_trans (Nat.mul_le_mul_right _ (by omega)) hby) (some ⟨b, o, none⟩) i cap (olds.take (i * s)) hfirst (by omega) (by omega)
            (by rw [hik2]; exact growslice_fits (by omega) hby)
          rw [hik2] at h
          rw [hkk]
          exact h
        obtain ⟨G, hG⟩ : ∃ G, G = grownCap w (xs.length + 1) cap e := ⟨_, rfl⟩
        have hGe : xs.length + 1 ≤ G := by rw [hG]; exact grownCap_ge w _ _ _
        rw [← hG] at hap
        obtain ⟨ROW, hROW⟩ : ∃ ROW : Array Value, ROW = (olds.take (i * s) ++ (List.replicate (xs.length + 1 - i) z.cells.toList).flatten).toArray ++ Builtin.zeroCells z.cells (G - (xs.length + 1)) := ⟨_, rfl⟩
        rw [← hROW] at hap
        have hzl : (List.replicate (xs.length + 1 - i) z.cells.toList).flatten.length = (xs.length + 1 - i) * s := by
          simp only [List.length_flatten, List.map_replicate, List.sum_replicate_nat, Array.length_toList]
          rw [hzs, hr, hrs]
        have hRl : ROW.size = G * s := by
          rw [hROW]
          simp only [Array.size_append, List.size_toArray, List.length_append, hzl, List.length_take, size_zeroCells, hzs, hr, hrs]
          rw [Nat.min_eq_left hp, ← Nat.add_mul, ← Nat.add_mul]
          congr 1
          omega
        have hGs : (xs.length + 1) * s ≤ ROW.size := by rw [hRl]; exact Nat.mul_le_mul_right s hGe
        rw [Nat.succ_mul] at hGs
        obtain ⟨W0, hW0⟩ : ∃ W0, W0 = w.drew.alloc (.cells ROW e (0, 0)) := ⟨_, rfl⟩
        rw [← hW0] at hap
        have hnew : W0.heap[w.heap.size]? = some (.cells ROW e (0, 0)) := by rw [hW0]; exact alloc_new w.drew _
        have hold : ∀ x, x < w.heap.size → W0.heap[x]? = w.heap[x]? := fun x hx => by rw [hW0]; exact alloc_old w.drew _ x hx
        have hWs : W0.heap.size = w.heap.size + 1 := by rw [hW0, alloc_size]; rfl
        have hRc : ROW.toList.length = ROW.size := Array.length_toList
        have k1 : i * s + news'.length ≤ ROW.toList.length := by rw [hRc, hnl']; omega
        obtain ⟨L1, hL1⟩ : ∃ L1, L1 = rput ROW.toList (i * s) news' := ⟨_, rfl⟩
        have hL1l : L1.length = ROW.size := by rw [hL1, rput_len k1]; exact Array.length_toList
        have hb1' : (W0.setRow w.heap.size L1.toArray).heap[w.heap.size]? = some (.cells L1.toArray e (0, 0)) := setRow_heap W0 _ ROW L1.toArray e (0, 0) hnew
        have hbn : b ≠ w.heap.size := by omega
        have hvbn : vb ≠ w.heap.size := by omega
        have k2 : i * s + s + (olds.drop (i * s)).length ≤ L1.length := by rw [hL1l, List.length_drop]; omega
        have hcall := hgrow b o xs.length cap i vb vo vc w hlt g3 hcap (by omega) w.heap.size G W0 (W0.setRow w.heap.size L1.toArray) ((W0.setRow w.heap.size L1.toArray).drew.setRow w.heap.size (rput L1 (i * s + s) (olds.drop (i * s))).toArray) hGe hap
          (fun ty dc => by
            have hmin : Nat.min 1 (xs.length + 1 - i) = 1 := by show min _ _ = _; omega
            have := run_copy_rowN (P := P) W0 t t ty e i0 w.heap.size (i * s) (xs.length + 1 - i) dc ⟨vb, vo, none⟩ 1 vc ROW e news' ht hi0 hnew (by rw [hmin, hnl', hr, hrs, Nat.one_mul])
              (fun j v hj => by
                rw [hAdd]
                exact (World.cell?_of_block (w := w) (a := ⟨vb, vo + j, none⟩) (hold vb hvb)).trans (hnc j v hj)) (by simpa using k1) one2
            rw [hmin, ← hL1] at this
            exact this)
          (fun ty dc sc => by
            have hmin : Nat.min (xs.length - i) (xs.length - i) = xs.length - i := by show min _ _ = _; omega
            have := run_copy_rowN (P := P) (W0.setRow w.heap.size L1.toArray).drew t t ty e i0 w.heap.size ((i + 1) * s) (xs.length - i) dc ⟨b, o + i * s, none⟩ (xs.length - i) sc L1.toArray e (olds.drop (i * s)) ht hi0 hb1' (by rw [hmin, hdl, hr, hrs])
              (fun j v hj => by
                rw [hAdd, Nat.add_assoc]
                rw [List.getElem?_drop] at hj
                refine (World.cell?_of_block (w := w) (a := ⟨b, o + (i * s + j), none⟩) ?_).trans (hcells _ _ hj)
                exact (setRow_other W0 _ b _ hbn).trans (hold b hbw)) (by rw [e1]; simpa using k2) one1
            rw [hmin, e1] at this
            rw [e1]
            exact this)
        refine Calls.mono hcall ?_
        rintro e w' ⟨rfl, rfl⟩
        have hL2l : (rput L1 (i * s + s) (olds.drop (i * s))).length = ROW.size := by rw [rput_len k2, hL1l]
        have hb2 := setRow_heap (W0.setRow w.heap.size L1.toArray).drew w.heap.size L1.toArray (rput L1 (i * s + s) (olds.drop (i * s))).toArray _ (0, 0) hb1'
        have hoth : ∀ x, x < w.heap.size → ((W0.setRow w.heap.size L1.toArray).drew.setRow w.heap.size (rput L1 (i * s + s) (olds.drop (i * s))).toArray).heap[x]? = w.heap[x]? := fun x hx => by
          rw [setRow_other _ _ x _ (by omega)]
          show (W0.setRow w.heap.size L1.toArray).heap[x]? = _
          rw [setRow_other _ _ x _ (by omega)]; exact hold x hx
        have hsz : ((W0.setRow w.heap.size L1.toArray).drew.setRow w.heap.size (rput L1 (i * s + s) (olds.drop (i * s))).toArray).heap.size = w.heap.size + 1 := by
          rw [← hWs]; simp only [World.setRow, Array.size_modify]; show (W0.heap.modify _ _).size = _; rw [Array.size_modify]
        have hbel0 : Below B0 w0 W0 := by rw [hW0]; exact (hbel.drew).alloc hB _
        refine ⟨_, rfl, w.heap.size, F1 ++ G3 ++ F2, ?_, hperm, .inr (Nat.le_refl _), by rw [hsz]; omega, Below.setRow' (Below.setRow' hbel0 hB _).drew hB _, by rw [hsz]; omega, fun x hx _ => hoth x hx⟩
        refine .inr ⟨w.heap.size, 0, G, F1 ++ G3 ++ F2, by rw [hlen], by rw [hlen]; exact hGe, rfl, by rw [hsz]; omega, fun _ => ⟨_, _, hb2, by rw [List.size_toArray, hL2l, hrs, hRl]; omega⟩, ?_⟩
        rw [hrs]
        refine (hall fun x hx _ => hoth x hx).rows ?_
        refine Shows.of (cur := rput L1 (i * s + s) (olds.drop (i * s))) hb2 ?_
        simp only [Nat.zero_add]
        rw [hL1]
        refine insN_grow hp hnl' (by rw [hRc]; omega) (fun j v hj => ?_)
        rw [Array.getElem?_toList, hROW]
        have hjl : j < (olds.take (i * s)).length := by
          rcases Nat.lt_or_ge j (olds.take (i * s)).length with h | h
          · exact h
          · rw [List.getElem?_eq_none h] at hj; cases hj
        rw [Array.getElem?_append_left (by simp only [List.size_toArray, List.length_append]; omega), List.getElem?_toArray, List.getElem?_append_left hjl]
        exact hj
  refine Calls.mono hmain ?_
  rintro e w' ⟨c1, rfl, g, D, m1, m2, m3, m4, m5, m6, m7⟩
  refine ⟨_, hq, ?_⟩
  have := row_back (N := N) hnd hO m1 (fun x hx => m2.subset hx) (m2.symm.nodup (List.Nodup.sublist (List.Sublist.append (List.drop_sublist 1 O1) (List.drop_sublist 1 O3)) hnd)) m3 m4 m5 m6 m7 (fun x hx => hH x (List.mem_append.2 (.inl hx))) hN
  show Back B0 w0 w N (O1 ++ ([] ++ (O3 ++ []))) [] true _ _ _
  rw [List.append_nil, List.nil_append]
  exact this
/-- What is cut: the cells behind are moved ahead, the rest is cleared. -/
theorem delN_data {cur olds zs : List Value} {off p q : Nat} (hp : p ≤ q) (hq : q ≤ olds.length) (hz : p + (olds.length - q) + zs.length = olds.length) (hl : off + olds.length ≤ cur.length) (hc : ∀ (j : Nat) (v : Value), olds[j]? = some v → cur[off + j]? = some v) :
    ∀ (j : Nat) (v : Value), (olds.take p ++ olds.drop q)[j]? = some v → (rput (rput cur (off + p) (olds.drop q)) (off + (p + (olds.length - q))) zs)[off + j]? = some v := by
  have hd : (olds.drop q).length = olds.length - q := List.length_drop
  have ht : (olds.take p).length = p := by rw [List.length_take]; omega
  have h1 : off + p + (olds.drop q).length ≤ cur.length := by omega
  have h2 : off + (p + (olds.length - q)) + zs.length ≤ (rput cur (off + p) (olds.drop q)).length := by rw [rput_len h1]; omega
  intro j v hj
  rw [rput_get h2, rput_get h1]
  have hlt : j < p + (olds.drop q).length := by
    rcases Nat.lt_or_ge j (olds.take p ++ olds.drop q).length with h | h
    · rw [List.length_append, ht] at h; omega
    · rw [List.getElem?_eq_none h] at hj; cases hj
  rw [if_neg (by omega)]
  by_cases c1 : j < p
  · rw [if_neg (by omega)]
    rw [List.getElem?_append_left (by omega), List.getElem?_take, if_pos c1] at hj
    exact hc _ _ hj
  · rw [if_pos (by omega), show off + j - (off + p) = j - p by omega]
    rwa [List.getElem?_append_right (by omega), ht] at hj

theorem delN_ok {f : FuncId} {r : Rw} {s : Nat} {t e : TypeId} {i0 : TypeInfo} {z : Value} (ht : P.underlying t = some (.slice e)) (hi0 : P.info? e = some i0) (hz : i0.zero = some z) (hzs : z.cells.size = i0.size) (hb1 : i0.bytes ≤ 4096)
    (hzv : ∀ w, (zeroValue e).run P w = .ok z w) (hr : i0.size = r.n) (hrs : r.n = s) (hz1 : ∀ u ∈ z.cells.toList, u.oneCell' = true)
    (hent : ∀ (args : Array Value) (w : World), (callFunc f args).run P w = .ok (.enter f args) w)
    (hsame : ∀ (a : Option Addr) (n c i : Nat) (w : World), (a = none → c = 0) → i ≤ n → n ≤ c → Calls P f #[.slice a n c, .int .i64 i, .int .i64 i] w fun e w' => e = .returned (.slice a n c) ∧ w' = w)
    (hcut : ∀ (b off n c i j : Nat) (w w1 w2 : World) (A : Option Addr), i < j → j ≤ n → n ≤ 1048576 → n ≤ c → (if c = j then (some ⟨b, off, none⟩ : Option Addr) else some ⟨b, off + j * s, none⟩) = A →
      (∀ ty, (Builtin.append_ #[t, t] ty #[.slice (some ⟨b, off, none⟩) i c, .slice A (n - j) (c - j)]).run P w.drew = .ok (.slice (some ⟨b, off, none⟩) (i + (n - j)) c) w1) →
      (∀ ty, (Builtin.clear_ #[t] ty #[.slice (some ⟨b, off + (i + (n - j)) * s, none⟩) (n - (i + (n - j))) (c - (i + (n - j)))]).run P w1 = .ok (.tuple #[]) w2) →
      Calls P f #[.slice (some ⟨b, off, none⟩) n c, .int .i64 i, .int .i64 j] w fun e w' => e = .returned (.slice (some ⟨b, off, none⟩) (i + (n - j)) c) ∧ w' = w2) :
    OkFn P I f true (G_del r) := by
  refine ⟨hent, fun ws K q hq B0 w0 w N vs O M H hI hbel hB hargs hnd hO hM hH hN => ?_⟩
  unfold G_del at hq
  split at hq
  case h_2 => cases hq
  rename_i r xs k k'
  split at hq
  case isFalse => cases hq
  rename_i e1
  subst e1
  cases hg : (decide (0 ≤ k) && decide (k ≤ k') && decide (k' ≤ ((xs.length : Nat) : Int)) && Nat.ble xs.length 1048576) with
  | false => rw [hg] at hq; cases hq
  | true =>
  rw [hg] at hq
  simp only [cond_true] at hq
  simp only [Bool.and_eq_true, decide_eq_true_eq] at hg
  obtain ⟨⟨⟨g0, g1⟩, g2⟩, g3⟩ := hg
  have g3 := Nat.le_of_ble_eq_true g3
  obtain ⟨i, rfl⟩ : ∃ i : Nat, k = (i : Int) := ⟨k.toNat, by omega⟩
  obtain ⟨j, rfl⟩ : ∃ j : Nat, k' = (j : Int) := ⟨k'.toNat, by omega⟩
  rw [Int.toNat_natCast, Int.toNat_natCast] at hq
  have hij : i ≤ j := by omega
  have hjn : j ≤ xs.length := by omega
  obtain ⟨v1, vs1, O1, O1', M1, M1', H1, H1', rfl, rfl, rfl, rfl, a1, b1⟩ := hargs
  obtain ⟨v2, vs2, O2, O2', M2, M2', H2, H2', rfl, rfl, rfl, rfl, a2, b2⟩ := b1
  obtain ⟨v3, vs3, O3, O3', M3, M3', H3, H3', rfl, rfl, rfl, rfl, a3, b3⟩ := b2
  obtain ⟨rfl, rfl, rfl, rfl⟩ := b3
  obtain ⟨hx, rfl, rfl⟩ := a1
  obtain ⟨a2, rfl, rfl⟩ := a2
  obtain ⟨a3, rfl, rfl⟩ := a3
  have ev2 : v2 = .int .i64 (i : Int) := a2.1
  have ev3 : v3 = .int .i64 (j : Int) := a3.1
  subst ev2
  subst ev3
  simp only [List.nil_append, List.append_nil] at hnd hO hH
  by_cases heq : i = j
  · subst heq
    obtain ⟨base, cap, hv1, hcap, hnil⟩ : ∃ base cap, v1 = .slice base xs.length cap ∧ xs.length ≤ cap ∧ (base = none → cap = 0) := by
      rcases hx with ⟨h1, _, ad, cap, h2, h3⟩ | ⟨b, o, cap, F', h1, h2, _⟩
      · exact ⟨ad, cap, by rw [h1]; exact h2, by rw [h1]; simp, fun _ => (h3 rfl).2⟩
      · exact ⟨_, cap, h1, h2, fun h => by cases h⟩
    subst hv1
    refine Calls.mono (hsame base xs.length cap i w hnil hjn hcap) ?_
    rintro e w' ⟨rfl, rfl⟩
    refine ⟨_, hq, ?_⟩
    rw [List.take_append_drop]
    show Back B0 w0 w' N (O1 ++ ([] ++ ([] ++ []))) [] true _ _ _
    rw [List.append_nil, List.append_nil, List.append_nil]
    refine ⟨⟨O1, O1.drop 1, O1.take 1, [], [], [], ⟨hx, rfl, rfl⟩, ⟨rfl, rfl, rfl, rfl⟩, by rw [List.append_nil]; exact hnd, fun x hx => ?_, fun x hx => ?_, fun x hx => ?_⟩, hbel, Nat.le_refl _, fun _ _ _ => rfl⟩
    · rw [List.append_nil] at hx; exact ⟨.inl hx, (hO x hx).2⟩
    · rw [List.append_nil] at hx
      have h1 := List.mem_of_mem_drop hx
      exact ⟨.inr (.inl h1), (hO x h1).2, fun _ => by rw [List.append_nil]; exact h1⟩
    · rw [List.append_nil] at hx
      refine ⟨?_, hH x hx⟩
      rw [List.append_nil]
      cases O1 with
      | nil => cases hx
      | cons b O1 =>
        have e : x = b := by simpa using hx
        subst e
        exact (List.nodup_cons.1 hnd).1
  · have hlt : i < j := by omega
    rcases hx with ⟨h, _⟩ | ⟨b, o, cap, F', rfl, hcap, rfl, hbw, hrow, hR⟩
    · rw [h] at hjn; simp at hjn; omega
    obtain ⟨cur, bt, hb, hcs⟩ := hrow rfl
    obtain ⟨olds, hOD, hcells⟩ := hR.data
    have hol := hOD.len
    obtain ⟨F3, F4, hF, hB3, hD4⟩ := hOD.split j hjn
    obtain ⟨F1, F2, hF2, hD1, _⟩ := hB3.split i (by rw [List.length_take]; omega)
    subst hF2
    subst hF
    rw [hrs] at hol hcs hD1 hD4
    have hpq : i * s ≤ j * s := Nat.mul_le_mul_right s hij
    have hqo : j * s ≤ olds.length := by rw [hol]; exact Nat.mul_le_mul_right s hjn
    rw [List.take_take, List.take_take, Nat.min_eq_left hij, Nat.min_eq_left hpq] at hD1
    have hnd' := (List.nodup_cons.1 hnd)
    have hsl : List.Sublist (F1 ++ F4) (F1 ++ F2 ++ F4) := List.Sublist.append (List.sublist_append_left F1 F2) (List.Sublist.refl F4)
    have hdl : (olds.drop (j * s)).length = (xs.length - j) * s := by rw [List.length_drop, hol, Nat.sub_mul]
    have hcc : cur.toList.length = cur.size := Array.length_toList
    have hns : xs.length * s ≤ cap * s := Nat.mul_le_mul_right s hcap
    have hfit : o + olds.length ≤ cur.size := by omega
    have hoc : ∀ (q : Nat) (v : Value), olds[q]? = some v → cur.toList[o + q]? = some v := fun q v hq => by
      have := hcells q v hq
      simp only [World.cell?, hb] at this
      rw [Array.getElem?_toList]
      simpa using this
    have one1 : ∀ u ∈ olds.drop (j * s), u.oneCell' = true := fun u hu => hOD.one u (List.mem_of_mem_drop hu)
    have hby : (xs.length - j) * i0.bytes ≤ 140737488355328 := by
      have := Nat.mul_le_mul (show xs.length - j ≤ 1048576 by omega) hb1
      omega
    obtain ⟨A, a, hA, haA, hsrc⟩ : ∃ A a, (if cap = j then (some ⟨b, o, none⟩ : Option Addr) else some ⟨b, o + j * s, none⟩) = A ∧ A = some a ∧ (∀ q v, (olds.drop (j * s))[q]? = some v → w.drew.cell? (a.add q) = some v) := by
      by_cases h : cap = j
      · refine ⟨_, ⟨b, o, none⟩, rfl, by rw [if_pos h], fun q v hq => ?_⟩
        have : (olds.drop (j * s)).length = 0 := by rw [hdl, show xs.length - j = 0 by omega, Nat.zero_mul]
        rw [List.length_eq_zero_iff.1 this] at hq; cases hq
      · refine ⟨_, ⟨b, o + j * s, none⟩, rfl, by rw [if_neg h], fun q v hq => ?_⟩
        rw [Addr.add_lit]
        rw [List.getElem?_drop] at hq
        have := hcells _ _ hq
        rw [Nat.add_assoc]; exact this
    subst haA
    have hsr : Src P i0.size t (.slice (some a) (xs.length - j) (cap - j)) (xs.length - j) (olds.drop (j * s)) w.drew := Src.ofSlice w.drew ht a (xs.length - j) (cap - j) (olds.drop (j * s)) (by rw [hdl, hr, hrs]) hsrc one1
    have k1 : o + i * s + (olds.drop (j * s)).length ≤ cur.toList.length := by rw [List.length_drop, hcc]; omega
    obtain ⟨L1, hL1⟩ : ∃ L1, L1 = rput cur.toList (o + i * s) (olds.drop (j * s)) := ⟨_, rfl⟩
    have hL1l : L1.length = cur.size := by rw [hL1, rput_len k1]; exact Array.length_toList
    have hb1' : (w.drew.setRow b L1.toArray).heap[b]? = some (.cells L1.toArray bt (0, 0)) := setRow_heap w.drew b cur L1.toArray bt (0, 0) hb
    obtain ⟨zs, hzs'⟩ : ∃ zs, zs = (List.replicate (xs.length - (i + (xs.length - j))) z.cells.toList).flatten := ⟨_, rfl⟩
    have hzl : zs.length = (xs.length - (i + (xs.length - j))) * s := by
      rw [hzs']
      simp only [List.length_flatten, List.map_replicate, List.sum_replicate_nat, Array.length_toList]
      rw [hzs, hr, hrs]
    have hm1 : (i + (xs.length - j)) * s = i * s + (olds.length - j * s) := by rw [Nat.add_mul, Nat.sub_mul, hol]
    have hm2 : zs.length = olds.length - (i * s + (olds.length - j * s)) := by rw [hzl, Nat.sub_mul, hm1, hol]
    have hcall := hcut b o xs.length cap i j w (w.drew.setRow b L1.toArray) ((w.drew.setRow b L1.toArray).setRow b (rput L1 (o + (i * s + (olds.length - j * s))) zs).toArray) (some a) hlt hjn g3 hcap hA
      (fun ty => by
        have := (ApSrc.ofSrc (ty := ty) ht hi0 hz hsr).room hby b o i cap cur bt (by omega) hb (by rw [hr, hrs]; simpa using k1)
        rw [hr, hrs] at this
        rw [hL1]
        exact this)
      (fun ty => by
        have := run_clear_rowN (P := P) (w.drew.setRow b L1.toArray) t ty e z b (o + (i + (xs.length - j)) * s) (xs.length - (i + (xs.length - j))) (cap - (i + (xs.length - j))) L1.toArray bt (by omega) ht hzv hb1'
          (by rw [hzs, hr, hrs, List.size_toArray, hL1l, ← hzl, hm2, hm1]; omega) (fun u hu => by
            obtain ⟨l, hl, hu⟩ := List.mem_flatten.1 hu
            rw [List.eq_of_mem_replicate hl] at hu
            exact hz1 u hu)
        rw [← hzs', hm1] at this
        rw [hm1]
        exact this)
    refine Calls.mono hcall ?_
    rintro e w' ⟨rfl, rfl⟩
    refine ⟨_, hq, ?_⟩
    have hb2 := setRow_heap (w.drew.setRow b L1.toArray) b L1.toArray (rput L1 (o + (i * s + (olds.length - j * s))) zs).toArray bt (0, 0) hb1'
    have hL2l : (rput L1 (o + (i * s + (olds.length - j * s))) zs).length = cur.size := by rw [rput_len (by omega), hL1l]
    have hoth : ∀ x, x ≠ b → ((w.drew.setRow b L1.toArray).setRow b (rput L1 (o + (i * s + (olds.length - j * s))) zs).toArray).heap[x]? = w.heap[x]? := fun x hx => by
      rw [setRow_other _ b x _ hx, setRow_other _ b x _ hx]; rfl
    have hsz : ((w.drew.setRow b L1.toArray).setRow b (rput L1 (o + (i * s + (olds.length - j * s))) zs).toArray).heap.size = w.heap.size := by simp only [World.setRow, Array.size_modify]; rfl
    have hlen : (xs.take i ++ xs.drop j).length = i + (xs.length - j) := by
      simp only [List.length_append, List.length_take, List.length_drop]; omega
    have hD : RowsD (RwR ((w.drew.setRow b L1.toArray).setRow b (rput L1 (o + (i * s + (olds.length - j * s))) zs).toArray) false r) s (xs.take i ++ xs.drop j) (olds.take (i * s) ++ olds.drop (j * s)) (F1 ++ F4) := by
      have hh : ∀ x ∈ F1 ++ F4, ((w.drew.setRow b L1.toArray).setRow b (rput L1 (o + (i * s + (olds.length - j * s))) zs).toArray).heap[x]? = w.heap[x]? := fun x hx => hoth x (fun e => hnd'.1 (e ▸ hsl.subset hx))
      refine RowsD.append (hD1.imp fun x vs F' hk hR => RwR.imp (fun h => h) r hR fun y hy => hh y ?_) (hD4.imp fun x vs F' hk hR => RwR.imp (fun h => h) r hR fun y hy => hh y ?_)
      · simp [hk y hy]
      · simp [hk y hy]
    have hs : SlT (RwR ((w.drew.setRow b L1.toArray).setRow b (rput L1 (o + (i * s + (olds.length - j * s))) zs).toArray) false r) ((w.drew.setRow b L1.toArray).setRow b (rput L1 (o + (i * s + (olds.length - j * s))) zs).toArray) false r.n (xs.take i ++ xs.drop j) (.slice (some ⟨b, o, none⟩) (i + (xs.length - j)) cap) (b :: (F1 ++ F4)) := by
      refine .inr ⟨b, o, cap, F1 ++ F4, by rw [hlen], by rw [hlen]; omega, rfl, by rw [hsz]; exact hbw, fun _ => ⟨_, bt, hb2, by rw [List.size_toArray, hL2l, hrs]; exact hcs⟩, ?_⟩
      rw [hrs]
      refine hD.rows ?_
      refine Shows.of (t := bt) (cur := rput L1 (o + (i * s + (olds.length - j * s))) zs) hb2 ?_
      rw [hL1]
      exact delN_data hpq hqo (by omega) (by rw [hcc]; exact hfit) hoc
    have := row_back (N := N) (O1 := b :: (F1 ++ F2 ++ F4)) (O3 := []) (by rw [List.append_nil]; exact hnd) (by rw [List.append_nil]; exact hO) hs (fun x hx => by simpa using hsl.subset hx) (List.Nodup.sublist hsl hnd'.2) (.inl rfl) (by rw [hsz]; exact hbw)
      (Below.setRow' (Below.setRow' hbel.drew (hO b (by simp)).1 _) (hO b (by simp)).1 _) (by rw [hsz]; exact Nat.le_refl _) (fun x _ hne => hoth x (fun e => hne (by rw [e]; rfl))) (fun x hx => hH x hx) hN
    show Back B0 w0 w N (b :: (F1 ++ F2 ++ F4) ++ ([] ++ ([] ++ []))) [] true _ _ _
    rw [List.append_nil, List.append_nil]
    exact this
end
end Go.Ev
end
section
/- slices_Insert_Lease: its contract. -/
set_option linter.unusedVariables false
set_option linter.unusedSimpArgs false
namespace Go.Ev.Seat
open Go.RowKit Go.Lib Go.Proofs Go.Shelf


set_option maxHeartbeats 4000000 in
set_option maxRecDepth 100000 in
theorem ins_fin_Lease (base : Option Addr) (n c vb voff vc : Nat) (w : World) (c1 : Value) (w1 : World) (hnc : n ≤ c) (hnil : base = none → n = 0)
    (hrun : ∀ ty, (Builtin.append_ #[24, 24] ty #[.slice base n c, .slice (some ⟨vb, voff, none⟩) 1 vc]).run prog w = .ok c1 w1) :
    Calls prog 146 #[.slice base n c, .int .i64 n, .slice (some ⟨vb, voff, none⟩) 1 vc] w fun e w' => e = .returned c1 ∧ w' = w1 := by
  have mixed := Go.Ev.Seat.mixed
  go_enter Try.func146, Try.ntmps146
  cases base with
  | none =>
    have h0 := hnil rfl
    subst h0
    go_wp2_with (at_builtin; refine Lib.wpList_append_run _ rfl _ _ _ _ rfl _ _ rfl rfl _ _ (hrun _) ?_)
    go_ret
    exact ⟨rfl, rfl⟩
  | some a =>
    obtain ⟨ab, ao, asp⟩ := a
    go_wp2_with (at_builtin; refine Lib.wpList_append_run _ rfl _ _ _ _ rfl _ _ rfl rfl _ _ (hrun _) ?_)
    all_goals (go_ret; exact ⟨rfl, rfl⟩)

set_option maxHeartbeats 4000000 in
set_option maxRecDepth 100000 in
theorem ins_room_Lease (b off n c i vb voff vc : Nat) (w : World) (hi : i < n) (hn : n ≤ 1048576) (hroom : n + 1 ≤ c) (hvb : vb ≠ b)
    (tA tB : TypeId) (kA kB : Nat) (hsa : w.shape? vb = some (tA, kA)) (hsb : w.shape? b = some (tB, kB)) (hkB : kB ≠ 0) (hfa : w.frozen? ⟨vb, voff, none⟩ = false) (hfe : w.frozen? ⟨vb, kA, none⟩ = false)
    (w1 w2 : World) (h1 : ∀ ty dc sc, (Builtin.copy_ #[24, 24] ty #[.slice (some ⟨b, off + (i + 1) * 4, none⟩) (n - i) dc, .slice (some ⟨b, off + i * 4, none⟩) (n + 1 - i) sc]).run prog w.drew = .ok (goInt (n - i : Nat)) w1)
    (h2 : ∀ (W : World), (∀ x, W.cell? x = w1.cell? x) → (∀ x, W.frozen? x = w1.frozen? x) → W = w1 → ∀ ty dc, (Builtin.copy_ #[24, 24] ty #[.slice (some ⟨b, off + i * 4, none⟩) (n + 1 - i) dc, .slice (some ⟨vb, voff, none⟩) 1 vc]).run prog W = .ok (goInt 1) w2) :
    Calls prog 146 #[.slice (some ⟨b, off, none⟩) n c, .int .i64 i, .slice (some ⟨vb, voff, none⟩) 1 vc] w fun e w' => e = .returned (.slice (some ⟨b, off, none⟩) (n + 1) c) ∧ w' = w2 := by
  have mixed := Go.Ev.Seat.mixed
  have hz2 : ¬ ((i : Int) = (n : Int)) := by omega
  have hov : ∀ lb cb, (callFunc 188 #[.slice (some ⟨vb, voff, none⟩) 1 vc, .slice (some ⟨b, off + (i + 1) * 4, none⟩) lb cb]).run prog w = .ok (.value (.bool false)) w := fun lb cb => by
    rw [run_callFunc_extern Try.func188 (by kernel_rfl) (by kernel_rfl) (by kernel_rfl) (e := Extern.SlicesOverlaps.overlaps #[24, 24] #[4]) (by kernel_rfl),
      Lib.run_overlaps_apart w 24 4 26 Try.underlying24 4 Try.sizeOf26 ⟨vb, voff, none⟩ ⟨b, off + (i + 1) * 4, none⟩ 1 vc lb cb hvb tA tB kA kB hsa hsb hkB hfa hfe]
    rfl
  have hw1 : IntKind.i64.wrap ((i : Int) + 1) = (i : Int) + 1 := by rw [IntKind.wrap_i64]; omega
  have hb1 : (0 : Int) ≤ (i : Int) + 1 := by omega
  have hin : i ≤ n := by omega
  have htn : ((i : Int) + 1).toNat = i + 1 := by omega
  have hb2 : ¬ (c = i + 1) := by omega
  have hb3 : (i : Int) ≤ (n : Int) + 1 := by omega
  have hb4 : ¬ (c = i) := by omega
  go_enter Try.func146, Try.ntmps146
  go_wp2_with (simp only [hov])
  go_region_law_o (refine step_copy_runN rfl _ _ 24 24 rfl _ _ (by simp [Act.eval, Act.put]) (by simp [Act.eval, Act.put]) (h1 _ _ _) ?_)
  go_wp2_with (at_builtin; refine wpList_copy_runN _ rfl _ _ 24 24 rfl _ _ rfl rfl (h2 _ (fun _ => rfl) (fun _ => rfl) rfl _ _) ?_)
  go_ret
  exact ⟨rfl, rfl⟩

set_option maxHeartbeats 4000000 in
set_option maxRecDepth 100000 in
theorem ins_grow_Lease (b off n c i vb voff vc : Nat) (w : World) (hi : i < n) (hn : n ≤ 1048576) (hnc : n ≤ c) (hroom : c < n + 1)
    (B G : Nat) (W0 w1 w2 : World) (hG : n + 1 ≤ G) (h0 : ∀ ty, (Builtin.append_ #[24, 3] ty #[.slice (some ⟨b, off, none⟩) i c, .int .i64 ((n : Int) + 1 - (i : Int))]).run prog w = .ok (.slice (some ⟨B, 0, none⟩) (n + 1) G) W0)
    (h1 : ∀ ty dc, (Builtin.copy_ #[24, 24] ty #[.slice (some ⟨B, i * 4, none⟩) (n + 1 - i) dc, .slice (some ⟨vb, voff, none⟩) 1 vc]).run prog W0 = .ok (goInt 1) w1)
    (h2 : ∀ ty dc sc, (Builtin.copy_ #[24, 24] ty #[.slice (some ⟨B, (i + 1) * 4, none⟩) (n - i) dc, .slice (some ⟨b, off + i * 4, none⟩) (n - i) sc]).run prog w1.drew = .ok (goInt (n - i : Nat)) w2) :
    Calls prog 146 #[.slice (some ⟨b, off, none⟩) n c, .int .i64 i, .slice (some ⟨vb, voff, none⟩) 1 vc] w fun e w' => e = .returned (.slice (some ⟨B, 0, none⟩) (n + 1) G) ∧ w' = w2 := by
  have mixed := Go.Ev.Seat.mixed
  have hz2 : ¬ ((i : Int) = (n : Int)) := by omega
  have hz3 : (c : Int) < (n : Int) + 1 := by omega
  have hw1 : IntKind.i64.wrap ((i : Int) + 1) = (i : Int) + 1 := by rw [IntKind.wrap_i64]; omega
  have hb1 : (0 : Int) ≤ (i : Int) + 1 := by omega
  have hin : i ≤ n := by omega
  have htn : ((i : Int) + 1).toNat = i + 1 := by omega
  have hGi : ¬ (G = i) := by omega
  have hGim : ¬ (G = i + 1) := by omega
  have hci : ¬ (c = i) := by omega
  have hb3 : (i : Int) ≤ (n : Int) := by omega
  go_enter Try.func146, Try.ntmps146
  go_wp2_with (first
    | (at_builtin; refine Lib.wpList_append_run _ rfl _ _ _ _ rfl _ _ rfl rfl _ _ (h0 _) ?_)
    | (at_builtin; refine wpList_copy_runN _ rfl _ _ 24 24 rfl _ _ rfl rfl (h1 _ _) ?_))
  go_region_law_o (refine step_copy_runN rfl _ _ 24 24 rfl _ _ (by simp [Act.eval, Act.put]) (by simp [Act.eval, Act.put]) (h2 _ _ _) ?_)
  go_wp2
  go_ret
  exact ⟨rfl, rfl⟩
def S_slices_Insert_Lease : Sm := G_ins leaseR
theorem okS_slices_Insert_Lease : OkFn prog I N.slices_Insert_Lease true S_slices_Insert_Lease := insN_ok (s := 4) (t := 24) (e := 26) (tv := 3) (i0 := Try.t26) Try.underlying24 (by kernel_rfl) rfl rfl (by decide) (by decide) rfl rfl (by decide) (by simp [Value.cells, Value.oneCell']) Try.underlying3 Try.call146 ins_fin_Lease ins_room_Lease ins_grow_Lease
end Go.Ev.Seat
end
section
/- Sorted leases: searched, put in, taken out. -/
set_option linter.unusedVariables false
set_option linter.unusedSimpArgs false
namespace Go.Ev
theorem lessD_iff {a b : L4} : lessD a b = true ↔ (a.1 < b.1 ∨ a.1 = b.1 ∧ (a.2.1 < b.2.1 ∨ a.2.1 = b.2.1 ∧ a.2.2.1 < b.2.2.1)) := by
  unfold lessD
  by_cases h1 : a.1 = b.1
  · rw [bne_f h1, cond_false]
    by_cases h2 : a.2.1 = b.2.1
    · rw [bne_f h2, cond_false, decide_eq_true_iff]; omega
    · rw [bne_t h2, cond_true, decide_eq_true_iff]; omega
  · rw [bne_t h1, cond_true, decide_eq_true_iff]; omega
theorem oneD_iff {a b : L4} : oneD a b = true ↔ (a.1 = b.1 ∧ a.2.1 = b.2.1 ∧ a.2.2.1 = b.2.2.1) := by
  unfold oneD
  simp only [Bool.and_eq_true, beq_iff_eq, and_assoc]
theorem bool_eq_of {a b : Bool} (h : a = true ↔ b = true) : a = b := Bool.eq_iff_iff.2 h
theorem cmpD_lt (a b : L4) : decide (cmpD a b < 0) = lessD a b := by
  have h := cmpD_neg a b
  cases hl : lessD a b with
  | true => rw [hl] at h; simp only [Bool.not_true, decide_eq_false_iff_not] at h; exact decide_eq_true (by omega)
  | false => rw [hl] at h; simp only [Bool.not_false, decide_eq_true_eq] at h; exact decide_eq_false (by omega)
theorem cmpD_zero (a b : L4) : (cmpD a b == 0) = oneD a b := by
  refine bool_eq_of ?_
  rw [oneD_iff, beq_iff_eq]
  unfold cmpD
  rcases sgn_cases a.1 b.1 with ⟨h1, e1⟩ | ⟨h1, e1⟩ | ⟨h1, e1⟩
  · rw [e1]; simp; omega
  · rw [e1]
    rcases sgn_cases a.2.1 b.2.1 with ⟨h2, e2⟩ | ⟨h2, e2⟩ | ⟨h2, e2⟩
    · rw [e2]; simp; omega
    · rw [e2]
      rcases sgn_cases a.2.2.1 b.2.2.1 with ⟨h3, e3⟩ | ⟨h3, e3⟩ | ⟨h3, e3⟩
      · rw [e3]; simp; omega
      · rw [e3]; simp; omega
      · rw [e3]; simp; omega
    · rw [e2]; simp; omega
  · rw [e1]; simp; omega
theorem less_trans {a b c : L4} (h1 : lessD a b = true) (h2 : lessD b c = true) : lessD a c = true := by
  rw [lessD_iff] at *; omega
theorem less_asym {a b : L4} (h : lessD a b = true) : lessD b a = false := by
  refine Bool.eq_false_iff.2 (fun h2 => ?_)
  rw [lessD_iff] at *; omega
theorem less_tri {a b : L4} (h : oneD a b = false) : lessD a b = !lessD b a := by
  have h' : ¬ (a.1 = b.1 ∧ a.2.1 = b.2.1 ∧ a.2.2.1 = b.2.2.1) := fun e => by rw [← oneD_iff] at e; rw [h] at e; cases e
  cases hb : lessD b a with
  | true => exact less_asym hb
  | false =>
    have hb' := Bool.eq_false_iff.1 hb
    rw [Ne, lessD_iff] at hb'
    show lessD a b = true
    rw [lessD_iff]; omega
theorem less_one {a b : L4} (h : oneD a b = true) : lessD a b = false := by
  refine Bool.eq_false_iff.2 (fun h2 => ?_)
  rw [lessD_iff] at h2; rw [oneD_iff] at h; omega
theorem less_key {a b c : L4} (h : oneD b c = true) : lessD a b = lessD a c := by
  refine bool_eq_of ?_
  rw [oneD_iff] at h
  rw [lessD_iff, lessD_iff]; omega
def sortedL (l : List L4) : Prop := l.Pairwise (fun a b => lessD a b = true)
theorem getD_z {l : List L4} {i : Nat} (h : i < l.length) : l.getD i zeroL = l[i] := by rw [List.getD_eq_getElem?_getD, List.getElem?_eq_getElem h]; rfl
theorem leasesOk_iff {l : List L4} : leasesOkD l = true ↔ l.length ≤ 12 ∧ (∀ x ∈ l, leaseOkD x = true) ∧ sortedL l := by
  unfold leasesOkD
  rw [Bool.and_eq_true, decide_eq_true_iff, allN_iff]
  constructor
  · rintro ⟨h1, h2⟩
    refine ⟨by omega, fun x hx => ?_, ?_⟩
    · obtain ⟨i, hi, rfl⟩ := List.mem_iff_getElem.1 hx
      have := h2 i hi
      unfold leaseAtD at this
      rw [Bool.and_eq_true, getD_z hi] at this
      exact this.1
    · unfold sortedL
      rw [List.pairwise_iff_getElem]
      have adj : ∀ (j : Nat) (h : j + 1 < l.length), lessD (l[j]'(by omega)) l[j + 1] = true := fun j h => by
        have := h2 (j + 1) h
        unfold leaseAtD at this
        rw [Bool.and_eq_true, getD_z h, Nat.add_sub_cancel, getD_z (show j < l.length by omega)] at this
        simpa using this.2
      have all : ∀ (d i : Nat) (h : i + d + 1 < l.length), lessD (l[i]'(by omega)) l[i + d + 1] = true := by
        intro d
        induction d with
        | zero => intro i h; exact adj i h
        | succ d ih => intro i h; exact less_trans (ih i (by omega)) (adj (i + d + 1) h)
      intro i j hi hj hij
      obtain ⟨d, rfl⟩ : ∃ d, j = i + d + 1 := ⟨j - i - 1, by omega⟩
      exact all d i hj
  · rintro ⟨h1, h2, h3⟩
    refine ⟨by omega, fun i hi => ?_⟩
    unfold leaseAtD
    rw [Bool.and_eq_true, getD_z hi]
    refine ⟨h2 _ (List.getElem_mem hi), ?_⟩
    cases i with
    | zero => rfl
    | succ i =>
      rw [Nat.add_sub_cancel, getD_z (show i < l.length by omega)]
      unfold sortedL at h3
      rw [List.pairwise_iff_getElem] at h3
      rw [h3 i (i + 1) (by omega) hi (by omega)]; rfl
/-- How many leases lie ahead of one. -/
def aheadN (x : L4) (l : List L4) : Nat := cutN (fun e => lessD e x) l
theorem mono_less {l : List L4} (h : sortedL l) (x : L4) : monoB (fun e => lessD e x) l = true := by
  unfold sortedL at h
  rw [List.pairwise_iff_getElem] at h
  exact mono_of_split (fun i j hij hj hp => less_trans (h i j (by omega) hj hij) hp)
theorem ahead_cons {e x : L4} {l : List L4} : aheadN x (e :: l) = bif lessD e x then aheadN x l + 1 else 0 := by
  unfold aheadN cutN
  rw [List.takeWhile_cons]
  cases lessD e x <;> rfl
theorem put_in {x : L4} : ∀ (l acc : List L4), (∀ e ∈ l, oneD e x = false) → l.foldl putF (true, x, acc) = (true, x, acc ++ l)
  | [], acc, _ => by simp
  | e :: l, acc, h => by
    rw [List.foldl_cons]
    have e1 : putF (true, x, acc) e = (true, x, acc ++ [e]) := by unfold putF; rw [h e (by simp)]; rfl
    rw [e1, put_in l _ (fun y hy => h y (by simp [hy]))]; simp
theorem put_all {x : L4} : ∀ (l acc : List L4), sortedL l → (∀ e ∈ l, oneD e x = false) → l.foldl putF (false, x, acc) = if aheadN x l < l.length then (true, x, acc ++ l.take (aheadN x l) ++ [zeroL] ++ l.drop (aheadN x l)) else (false, x, acc ++ l)
  | [], acc, _, _ => by simp
  | e :: l, acc, hs, h => by
    have h1 := h e (by simp)
    have hs' : sortedL l := (List.pairwise_cons.1 hs).2
    rw [List.foldl_cons, ahead_cons]
    cases hl : lessD x e with
    | true =>
      have hl2 := less_asym hl
      have e1 : putF (false, x, acc) e = (true, x, acc ++ [zeroL] ++ [e]) := by unfold putF; rw [h1]; simp only [hl]; rfl
      rw [e1, put_in l _ (fun y hy => h y (by simp [hy])), hl2, cond_false, if_pos (by simp)]
      simp
    | false =>
      have hl2 : lessD e x = true := by rw [less_tri h1, hl]; rfl
      have e1 : putF (false, x, acc) e = (false, x, acc ++ [e]) := by unfold putF; rw [h1]; simp only [hl]; rfl
      rw [e1, put_all l _ hs' (fun y hy => h y (by simp [hy])), hl2, cond_true]
      by_cases hlt : aheadN x l < l.length
      · rw [if_pos hlt, if_pos (by simpa using hlt)]; simp
      · rw [if_neg hlt, if_neg (by simpa using hlt)]; simp
theorem ahead_le (x : L4) (l : List L4) : aheadN x l ≤ l.length := cutN_le _ l
theorem putD_eq {l : List L4} {x : L4} (hs : sortedL l) (h1 : ∀ e ∈ l, e.2.2.1 ≠ 0) (h : ∀ e ∈ l, oneD e x = false) : putD l x = l.take (aheadN x l) ++ [x] ++ l.drop (aheadN x l) := by
  unfold putD
  rw [put_all l [] hs h]
  by_cases hlt : aheadN x l < l.length
  · rw [if_pos hlt]
    unfold putE
    simp only [Bool.not_true, cond_false, List.nil_append]
    have keep : ∀ m : List L4, (∀ e ∈ m, e.2.2.1 ≠ 0) → m.map (fun e => bif e.2.2.1 == 0 then x else e) = m := fun m hm => by
      conv => rhs; rw [← List.map_id m]
      refine List.map_congr_left (fun e he => ?_)
      rw [show (e.2.2.1 == 0) = false from beq_false_of_ne (hm e he)]; rfl
    rw [List.map_append, List.map_append, keep _ (fun e he => h1 e (List.mem_of_mem_take he)), keep _ (fun e he => h1 e (List.mem_of_mem_drop he))]
    rfl
  · rw [if_neg hlt]
    have e : aheadN x l = l.length := by have := ahead_le x l; omega
    unfold putE
    simp [e]
theorem mem_one {l : List L4} {x : L4} (hs : sortedL l) {j : Nat} (hj : j < l.length) (h : oneD l[j] x = true) : aheadN x l = j := by
  have hm := mono_less hs x
  unfold sortedL at hs
  rw [List.pairwise_iff_getElem] at hs
  refine Nat.le_antisymm ?_ ?_
  · refine Nat.le_of_not_lt (fun hlt => ?_)
    have := cutN_in (fun e => lessD e x) zeroL l j hlt
    rw [getD_z hj] at this
    rw [less_one h] at this; cases this
  · refine Nat.le_of_not_lt (fun hlt => ?_)
    have h2 : aheadN x l < l.length := by omega
    have := cutN_out (fun e => lessD e x) zeroL l (aheadN x l) hm (Nat.le_refl _) h2
    rw [getD_z h2] at this
    rw [← less_key h, hs _ j h2 hj hlt] at this; cases this
/-- Where a lease is found, by either search. -/
theorem found_eq {l : List L4} {x z : L4} (hs : sortedL l) : foundB (fun e => lessD e x) (fun e => oneD e x) z l = l.any (fun e => oneD e x) := by
  refine bool_eq_of ?_
  rw [List.any_eq_true]
  constructor
  · intro h
    have hlt := foundB_lt h
    unfold foundB at h
    rw [Bool.and_eq_true, List.getD_eq_getElem?_getD, List.getElem?_eq_getElem hlt] at h
    exact ⟨_, List.getElem_mem hlt, h.2⟩
  · rintro ⟨e, he, h⟩
    obtain ⟨j, hj, rfl⟩ := List.mem_iff_getElem.1 he
    have hk : cutN (fun e => lessD e x) l = j := mem_one hs hj h
    unfold foundB
    rw [hk, Bool.and_eq_true, List.getD_eq_getElem?_getD, List.getElem?_eq_getElem hj]
    exact ⟨Nat.ble_eq_true_of_le hj, h⟩
theorem any_lt {l : List L4} {x : L4} (hs : sortedL l) (h : l.any (fun e => oneD e x) = true) : ∃ hlt : aheadN x l < l.length, oneD (l[aheadN x l]'hlt) x = true := by
  obtain ⟨e, he, h⟩ := List.any_eq_true.1 h
  obtain ⟨j, hj, rfl⟩ := List.mem_iff_getElem.1 he
  have := mem_one hs hj h
  subst this
  exact ⟨hj, h⟩
/-- A lease dropped. -/
def dropX (l : List L4) (x : L4) : List L4 × Int := bif l.any (fun e => oneD e x) then (l.take (aheadN x l) ++ l.drop (aheadN x l + 1), 0) else ([], 5)
def dropD (l : List L4) (x : L4) : List L4 × Int := bif !(leasesOkD l && leaseOkD x) then ([], 1) else dropX l x
/-- A lease put in where it belongs. -/
def insL (l : List L4) (x : L4) : List L4 := l.take (aheadN x l) ++ [x] ++ l.drop (aheadN x l)
theorem insL_sorted {l : List L4} {x : L4} (hs : sortedL l) (h : ∀ e ∈ l, oneD e x = false) : sortedL (insL l x) := by
  have hm := mono_less hs x
  unfold insL sortedL
  have ht : ∀ e ∈ l.take (aheadN x l), lessD e x = true := fun e he => by
    obtain ⟨j, hj, rfl⟩ := List.mem_iff_getElem.1 he
    rw [List.length_take] at hj
    have := cutN_in (fun e => lessD e x) zeroL l j (Nat.lt_of_lt_of_le hj (Nat.min_le_left _ _))
    rw [getD_z (by omega)] at this
    rw [List.getElem_take]; exact this
  have hd : ∀ e ∈ l.drop (aheadN x l), lessD x e = true := fun e he => by
    obtain ⟨j, hj, rfl⟩ := List.mem_iff_getElem.1 he
    rw [List.length_drop] at hj
    have := cutN_out (fun e => lessD e x) zeroL l (aheadN x l + j) hm (Nat.le_add_right _ _) (by omega)
    rw [getD_z (by omega)] at this
    rw [List.getElem_drop]
    have h1 := less_tri (h _ (List.getElem_mem (show aheadN x l + j < l.length by omega)))
    rw [this] at h1
    simpa using h1.symm
  rw [List.append_assoc, List.pairwise_append]
  refine ⟨hs.sublist (List.take_sublist _ _), ?_, fun a ha b hb => ?_⟩
  · rw [List.singleton_append, List.pairwise_cons]
    exact ⟨hd, hs.sublist (List.drop_sublist _ _)⟩
  · rw [List.singleton_append] at hb
    rcases List.mem_cons.1 hb with rfl | hb
    · exact ht a ha
    · exact less_trans (ht a ha) (hd b hb)
theorem mem_insL {l : List L4} {x e : L4} : e ∈ insL l x ↔ e = x ∨ e ∈ l := by
  unfold insL
  conv => rhs; rw [← List.take_append_drop (aheadN x l) l]
  simp only [List.mem_append, List.mem_singleton]
  constructor
  · rintro ((h | h) | h)
    · exact .inr (.inl h)
    · exact .inl h
    · exact .inr (.inr h)
  · rintro (h | h | h)
    · exact .inl (.inr h)
    · exact .inl (.inl h)
    · exact .inr h
theorem insL_len {l : List L4} {x : L4} : (insL l x).length = l.length + 1 := by
  have := ahead_le x l
  unfold insL
  simp only [List.length_append, List.length_take, List.length_drop, List.length_singleton]; omega
theorem sess_pos {x : L4} (h : leaseOkD x = true) : x.2.2.1 ≠ 0 := by
  unfold leaseOkD at h
  rw [Bool.and_eq_true, Bool.and_eq_true] at h
  have := h.1.2
  unfold sessD at this
  simp only [Bool.and_eq_true, decide_eq_true_eq] at this
  omega
theorem not_any {l : List L4} {x : L4} (h : l.any (fun e => oneD e x) = false) : ∀ e ∈ l, oneD e x = false := fun e he => by
  have := List.any_eq_false.1 h e he
  simpa using this
theorem putD_ins {l : List L4} {x : L4} (hl : leasesOkD l = true) (h : l.any (fun e => oneD e x) = false) : putD l x = insL l x := by
  obtain ⟨h1, h2, h3⟩ := leasesOk_iff.1 hl
  exact putD_eq h3 (fun e he => sess_pos (h2 e he)) (not_any h)
end Go.Ev
namespace Go.Ev
end Go.Ev
end
section
/- A lease taken: it is there until it is dropped or expires. -/
set_option linter.unusedVariables false
set_option linter.unusedSimpArgs false
namespace Go.Ev
def heldX (x : L4) (n : Int) (o : L4) : Bool := (o.2.2.1 != x.2.2.1) && decide (o.2.2.2 > n) && meetD o x
def takeX (l : List L4) (x : L4) (n : Int) : List L4 × Int :=
  bif decide (x.2.2.2 ≤ n) then ([], 2)
  else bif l.any (heldX x n) then ([], 3)
  else bif l.any (fun e => oneD e x) || (((l.length : Nat) : Int) == 12) then ([], 4)
  else (insL l x, 0)
theorem takeD_eq (l : List L4) (x : L4) (n : Int) : takeD l x n = bif !(leasesOkD l && leaseOkD x && clockD n && (x.1 != x.2.1)) then ([], 1) else takeX l x n := by
  unfold takeD takeX
  cases h : leasesOkD l && leaseOkD x && clockD n && (x.1 != x.2.1) with
  | false => rfl
  | true =>
    simp only [Bool.and_eq_true] at h
    have hl := h.1.1.1
    rw [idxF_any]
    cases ha : l.any (fun e => oneD e x) with
    | true => rfl
    | false => rw [putD_ins hl ha]; rfl
/-- What it means that a lease was taken. -/
theorem took {l m : List L4} {x : L4} {n : Int} (h : takeD l x n = (m, 0)) : leasesOkD l = true ∧ leaseOkD x = true ∧ clockD n = true ∧ x.1 ≠ x.2.1 ∧ x.2.2.2 > n ∧ l.any (heldX x n) = false ∧ l.any (fun e => oneD e x) = false ∧ l.length < 12 ∧ m = insL l x := by
  rw [takeD_eq] at h
  cases h0 : leasesOkD l && leaseOkD x && clockD n && (x.1 != x.2.1) with
  | false => rw [h0] at h; simp at h
  | true =>
    rw [h0] at h
    simp only [Bool.not_true, cond_false] at h
    simp only [Bool.and_eq_true, bne_iff_ne] at h0
    obtain ⟨⟨⟨a1, a2⟩, a3⟩, a4⟩ := h0
    unfold takeX at h
    by_cases h1 : x.2.2.2 ≤ n
    · rw [decide_eq_true h1] at h; simp at h
    · rw [decide_eq_false h1, cond_false] at h
      cases h2 : l.any (heldX x n) with
      | true => rw [h2] at h; simp at h
      | false =>
        rw [h2, cond_false] at h
        cases h3 : l.any (fun e => oneD e x) with
        | true => rw [h3] at h; simp at h
        | false =>
          rw [h3, Bool.false_or] at h
          cases h4 : (((l.length : Nat) : Int) == 12) with
          | true => rw [h4] at h; simp at h
          | false =>
            rw [h4, cond_false] at h
            have := leasesOk_len a1
            rw [beq_eq_false_iff_ne] at h4
            exact ⟨a1, a2, a3, a4, by omega, rfl, rfl, by omega, (Prod.mk.inj h).1.symm⟩
theorem ins_ok {l : List L4} {x : L4} (hl : leasesOkD l = true) (hx : leaseOkD x = true) (h : l.any (fun e => oneD e x) = false) (h12 : l.length < 12) : leasesOkD (insL l x) = true := by
  obtain ⟨h1, h2, h3⟩ := leasesOk_iff.1 hl
  refine leasesOk_iff.2 ⟨by rw [insL_len]; omega, fun e he => ?_, insL_sorted h3 (not_any h)⟩
  rcases mem_insL.1 he with rfl | he
  · exact hx
  · exact h2 e he
theorem one_self (x : L4) : oneD x x = true := oneD_iff.2 ⟨rfl, rfl, rfl⟩
theorem ins_any (l : List L4) (x : L4) : (insL l x).any (fun e => oneD e x) = true := List.any_eq_true.2 ⟨x, mem_insL.2 (.inl rfl), one_self x⟩
theorem ins_ahead {l : List L4} {x : L4} (h3 : sortedL l) (h : l.any (fun e => oneD e x) = false) : aheadN x (insL l x) = aheadN x l := by
  have hs := insL_sorted h3 (not_any h)
  have hle := ahead_le x l
  have hj : aheadN x l < (insL l x).length := by rw [insL_len]; omega
  refine mem_one hs hj ?_
  have e : (insL l x)[aheadN x l] = x := by
    have : (insL l x)[aheadN x l]? = some x := by
      unfold insL
      rw [List.append_assoc, List.getElem?_append_right (by rw [List.length_take]; omega), List.length_take, Nat.min_eq_left hle, Nat.sub_self]; rfl
    rw [List.getElem?_eq_getElem hj] at this
    exact Option.some.inj this
  rw [e]; exact one_self x
/-- Dropped again, the list is as it was. -/
theorem ins_drop {l : List L4} {x : L4} (hl : leasesOkD l = true) (hx : leaseOkD x = true) (h : l.any (fun e => oneD e x) = false) (h12 : l.length < 12) : dropD (insL l x) x = (l, 0) := by
  obtain ⟨h1, h2, h3⟩ := leasesOk_iff.1 hl
  unfold dropD dropX
  rw [ins_ok hl hx h h12, hx, ins_any, ins_ahead h3 h]
  have hle := ahead_le x l
  have e1 : (insL l x).take (aheadN x l) = l.take (aheadN x l) := by
    unfold insL
    rw [List.append_assoc, List.take_append_of_le_length (by rw [List.length_take]; omega), List.take_take, Nat.min_self]
  have e2 : (insL l x).drop (aheadN x l + 1) = l.drop (aheadN x l) := by
    unfold insL
    rw [List.drop_append_of_le_length (by simp only [List.length_append, List.length_take, List.length_singleton]; omega)]
    rw [List.drop_eq_nil_of_le (by simp only [List.length_append, List.length_take, List.length_singleton]; omega), List.nil_append]
  rw [e1, e2, List.take_append_drop]; rfl
/-- Taken twice: it is full. -/
theorem ins_twice {l : List L4} {x : L4} {n : Int} (hl : leasesOkD l = true) (hx : leaseOkD x = true) (hn : clockD n = true) (hij : x.1 ≠ x.2.1) (ht : x.2.2.2 > n) (hh : l.any (heldX x n) = false) (h : l.any (fun e => oneD e x) = false) (h12 : l.length < 12) : takeD (insL l x) x n = ([], 4) := by
  rw [takeD_eq, ins_ok hl hx h h12, hx, hn, bne_iff_ne.2 hij]
  simp only [Bool.and_self, Bool.not_true, cond_false]
  unfold takeX
  have e : (insL l x).any (heldX x n) = false := List.any_eq_false.2 (fun o ho => by
    rcases mem_insL.1 ho with rfl | ho
    · unfold heldX; simp
    · exact List.any_eq_false.1 hh o ho)
  rw [decide_eq_false (show ¬ x.2.2.2 ≤ n by omega), e, ins_any]; rfl
/-! No two active leases of different sessions have a place in common. -/
end Go.Ev
end
section
/- i_leaseTake: its contract. -/
namespace Go.Ev.Seat
open Go.RowKit
set_option maxRecDepth 100000
set_option linter.unusedVariables false
set_option linter.unusedSimpArgs false
def z_i_leaseTake_4_0 (x0 : List T_Lease) (x7 : Int) (b00 : Int) (b01 : Int) (b02 : Int) (b03 : Int) : St := { tm := ([(.l .no leaseR x0), .x, .x, .x, (.pb 0 0), .x, .nl, (.s (.int .i64 x7))] ++ List.replicate 56 .x), ob := [(0, (.box [(.s (.int .i64 b00)), (.s (.int .i64 b01)), (.s (.int .i64 b02)), (.s (.int .i64 b03))]))], nx := 1, io := [] }
def z_i_leaseTake_4_1 (x0 : List T_Lease) (b00 : Int) (b01 : Int) (b02 : Int) (b03 : Int) : St := { tm := ([(.l .no leaseR x0), .x, .x, .x, (.pb 0 0)] ++ List.replicate 59 .x), ob := [(0, (.box [(.s (.int .i64 b00)), (.s (.int .i64 b01)), (.s (.int .i64 b02)), (.s (.int .i64 b03))]))], nx := 1, io := [] }
def sh_i_leaseTake_4_0 : Ss := { tm := (.cons (.l .no leaseR) (.cons (.x) (.cons (.int .i64) (.cons (.x) (.cons (.pb 0 0) (.cons (.x) (.cons (.x) (.cons (.x) (.cons (.x) (.cons (.x) (.cons (.x) (.cons (.x) (.cons (.x) (.cons (.x) (.cons (.x) (.cons (.x) (.cons (.l .no leaseR) (.cons (.int .i64) (.cons (.int .i64) (xsh 45)))))))))))))))))))), ob := (.box (.cons (.int .i64) (.cons (.int .i64) (.cons (.int .i64) (.cons (.int .i64) .nil)))) .nil), nx := 1, io := .nil }
def d_i_leaseTake_4_0 (x0 : List T_Lease) (x2 : Int) (x16 : List T_Lease) (x17 : Int) (x18 : Int) (b00 : Int) (b01 : Int) (b02 : Int) (b03 : Int) : sh_i_leaseTake_4_0.T := ((x0, ((), (x2, ((), ((), ((), ((), ((), ((), ((), ((), ((), ((), ((), ((), ((), (x16, (x17, (x18, xd 45))))))))))))))))))), ((b00, (b01, (b02, (b03, ())))), ()), ())
def s_i_leaseTake_4_0 (x0 : List T_Lease) (x2 : Int) (x16 : List T_Lease) (x17 : Int) (x18 : Int) (b00 : Int) (b01 : Int) (b02 : Int) (b03 : Int) : St := { tm := ([(.l .no leaseR x0), .x, (.s (.int .i64 x2)), .x, (.pb 0 0), .x, .x, .x, .x, .x, .x, .x, .x, .x, .x, .x, (.l .no leaseR x16), (.s (.int .i64 x17)), (.s (.int .i64 x18))] ++ List.replicate 45 .x), ob := [(0, (.box [(.s (.int .i64 b00)), (.s (.int .i64 b01)), (.s (.int .i64 b02)), (.s (.int .i64 b03))]))], nx := 1, io := [] }
theorem se_i_leaseTake_4_0 (x0 : List T_Lease) (x2 : Int) (x16 : List T_Lease) (x17 : Int) (x18 : Int) (b00 : Int) (b01 : Int) (b02 : Int) (b03 : Int) : sh_i_leaseTake_4_0.mk' (d_i_leaseTake_4_0 x0 x2 x16 x17 x18 b00 b01 b02 b03) = (s_i_leaseTake_4_0 x0 x2 x16 x17 x18 b00 b01 b02 b03) := by kernel_rfl
def w_i_leaseTake_4_0 (d : sh_i_leaseTake_4_0.T) (f : (List T_Lease) → Int → (List T_Lease) → Int → Int → Int → Int → Int → Int → Option Ret) : Option Ret := match d with | ((x0, (_, (x2, (_, (_, (_, (_, (_, (_, (_, (_, (_, (_, (_, (_, (_, (x16, (x17, (x18, _))))))))))))))))))), ((b00, (b01, (b02, (b03, _)))), _), _) => f x0 x2 x16 x17 x18 b00 b01 b02 b03
noncomputable def P_i_leaseTake_4_0 (x0 : List T_Lease) (x2 : Int) (x16 : List T_Lease) (x17 : Int) (x18 : Int) (b00 : Int) (b01 : Int) (b02 : Int) (b03 : Int) (nx0 : (List T_Lease) → Int → (List T_Lease) → Int → Int → Int → Int → Int → Int → Option Ret) (k0 : (List T_Lease) → Int → Int → Int → Int → Int → Option Ret) (k1 : (List T_Lease) → Int → Int → Int → Int → Option Ret) : Option Ret := (bif (decide (x18 < x17)) then (bif ((decide ((0 : Int) ≤ x18)) && (decide (x18 < (((List.length x16) : Nat) : Int)))) then (bif ((List.getD x16 (Int.toNat x18) (leaseR.dflt)).2.2.1 != b02) then (bif (decide ((List.getD x16 (Int.toNat x18) (leaseR.dflt)).2.2.2 > x2)) then (bif (decide ((if b00 > (List.getD x16 (Int.toNat x18) (leaseR.dflt)).1 then b00 else (List.getD x16 (Int.toNat x18) (leaseR.dflt)).1) < (if b01 < (List.getD x16 (Int.toNat x18) (leaseR.dflt)).2.1 then b01 else (List.getD x16 (Int.toNat x18) (leaseR.dflt)).2.1))) then (k0 x0 (3 : Int) b00 b01 b02 b03) else (nx0 x0 x2 x16 x17 (IntKind.wrap .i64 (x18 + (1 : Int))) b00 b01 b02 b03)) else (nx0 x0 x2 x16 x17 (IntKind.wrap .i64 (x18 + (1 : Int))) b00 b01 b02 b03)) else (nx0 x0 x2 x16 x17 (IntKind.wrap .i64 (x18 + (1 : Int))) b00 b01 b02 b03)) else none) else (k1 x0 b00 b01 b02 b03))
noncomputable def Q_i_leaseTake_4_0 : Nat → (List T_Lease) → Int → (List T_Lease) → Int → Int → Int → Int → Int → Int → ((List T_Lease) → Int → Int → Int → Int → Int → Option Ret) → ((List T_Lease) → Int → Int → Int → Int → Option Ret) → Option Ret
  | 0, _, _, _, _, _, _, _, _, _, _, _ => none
  | m + 1, x0, x2, x16, x17, x18, b00, b01, b02, b03, k0, k1 => P_i_leaseTake_4_0 x0 x2 x16 x17 x18 b00 b01 b02 b03 (fun x0 x2 x16 x17 x18 b00 b01 b02 b03 => (Q_i_leaseTake_4_0 m x0 x2 x16 x17 x18 b00 b01 b02 b03 k0 k1)) k0 k1
noncomputable def R_i_leaseTake_4_0 (x0 : List T_Lease) (x2 : Int) (x16 : List T_Lease) (x17 : Int) (x18 : Int) (b00 : Int) (b01 : Int) (b02 : Int) (b03 : Int) (k0 : (List T_Lease) → Int → Int → Int → Int → Int → Option Ret) (k1 : (List T_Lease) → Int → Int → Int → Int → Option Ret) : Option Ret := Q_i_leaseTake_4_0 (List.length x0 + x2.toNat + List.length x16 + x17.toNat + x18.toNat + b00.toNat + b01.toNat + b02.toNat + b03.toNat + 2) x0 x2 x16 x17 x18 b00 b01 b02 b03 k0 k1
noncomputable def W_i_leaseTake_4 : LoopFn := (fun (σ : St) (K : Ex → St → Option Ret) => (match sh_i_leaseTake_4_0.un σ with | some d => w_i_leaseTake_4_0 d (fun x0 x2 x16 x17 x18 b00 b01 b02 b03 => R_i_leaseTake_4_0 x0 x2 x16 x17 x18 b00 b01 b02 b03 (fun x0 x7 b00 b01 b02 b03 => (K .ret (z_i_leaseTake_4_0 x0 x7 b00 b01 b02 b03))) (fun x0 b00 b01 b02 b03 => (K (.ext 0) (z_i_leaseTake_4_1 x0 b00 b01 b02 b03)))) | none => none))
noncomputable abbrev pl_i_leaseTake : List (Nat × Plan × List Nat) := [(12, takeB [0, 2, 3] (.fork (.more 1 (.fork (.one 4 (.fork (.one 5 (takes [6, 7]))))) (.one 4 (.fork (.one 1 (.fork (.one 5 (takes [6, 7])))))))), [])]
noncomputable abbrev ls_i_leaseTake : List (Nat × Bool × Sm) := [(N.i_Lease_isActive, true, S_i_Lease_isActive), (N.slices_BinarySearchFunc_Lease, true, S_slices_BinarySearchFunc_Lease), (N.slices_Clone_Lease, true, S_slices_Clone_Lease), (N.slices_Insert_Lease, true, S_slices_Insert_Lease)]
noncomputable abbrev E_i_leaseTake : Env := En ls_i_leaseTake pl_i_leaseTake [(4, [0,2,4,16,17,18], [0,4,6,7], W_i_leaseTake_4)] [] false 0 [N.slices_Insert_Lease]
noncomputable abbrev U_i_leaseTake_4 := rounds (run E_i_leaseTake (bodyOf F.i_leaseTake 4)) [0,2,4,16,17,18] [0,4,6,7]
theorem st_i_leaseTake_4_0 (m : Nat) (x0 : List T_Lease) (x2 : Int) (x16 : List T_Lease) (x17 : Int) (x18 : Int) (b00 : Int) (b01 : Int) (b02 : Int) (b03 : Int) (K : Ex → St → Option Ret) : U_i_leaseTake_4 (m + 1) (s_i_leaseTake_4_0 x0 x2 x16 x17 x18 b00 b01 b02 b03) K = P_i_leaseTake_4_0 x0 x2 x16 x17 x18 b00 b01 b02 b03 (fun x0 x2 x16 x17 x18 b00 b01 b02 b03 => (U_i_leaseTake_4 m (s_i_leaseTake_4_0 x0 x2 x16 x17 x18 b00 b01 b02 b03) K)) (fun x0 x7 b00 b01 b02 b03 => (K .ret (z_i_leaseTake_4_0 x0 x7 b00 b01 b02 b03))) (fun x0 b00 b01 b02 b03 => (K (.ext 0) (z_i_leaseTake_4_1 x0 b00 b01 b02 b03))) := by kernel_rfl
theorem q_i_leaseTake_4 (K : Ex → St → Option Ret) : ∀ m : Nat, (∀ (x0 : List T_Lease) (x2 : Int) (x16 : List T_Lease) (x17 : Int) (x18 : Int) (b00 : Int) (b01 : Int) (b02 : Int) (b03 : Int), U_i_leaseTake_4 m (s_i_leaseTake_4_0 x0 x2 x16 x17 x18 b00 b01 b02 b03) K = Q_i_leaseTake_4_0 m x0 x2 x16 x17 x18 b00 b01 b02 b03 (fun x0 x7 b00 b01 b02 b03 => (K .ret (z_i_leaseTake_4_0 x0 x7 b00 b01 b02 b03))) (fun x0 b00 b01 b02 b03 => (K (.ext 0) (z_i_leaseTake_4_1 x0 b00 b01 b02 b03))))
  | 0 => (fun _ _ _ _ _ _ _ _ _ => rfl)
  | m + 1 => (fun x0 x2 x16 x17 x18 b00 b01 b02 b03 => (by rw [st_i_leaseTake_4_0, show (fun x0 x2 x16 x17 x18 b00 b01 b02 b03 => (U_i_leaseTake_4 m (s_i_leaseTake_4_0 x0 x2 x16 x17 x18 b00 b01 b02 b03) K)) = (fun x0 x2 x16 x17 x18 b00 b01 b02 b03 => (Q_i_leaseTake_4_0 m x0 x2 x16 x17 x18 b00 b01 b02 b03 (fun x0 x7 b00 b01 b02 b03 => (K .ret (z_i_leaseTake_4_0 x0 x7 b00 b01 b02 b03))) (fun x0 b00 b01 b02 b03 => (K (.ext 0) (z_i_leaseTake_4_1 x0 b00 b01 b02 b03))))) from funext fun x0 => funext fun x2 => funext fun x16 => funext fun x17 => funext fun x18 => funext fun b00 => funext fun b01 => funext fun b02 => funext fun b03 => (q_i_leaseTake_4 K m) x0 x2 x16 x17 x18 b00 b01 b02 b03]; rfl))
theorem loopK_i_leaseTake_4 : LoopOk E_i_leaseTake (bodyOf F.i_leaseTake 4) := by
  refine loopW_ok (n := 4) (F := W_i_leaseTake_4) (by kernel_rfl) rfl (li := [0,2,4,16,17,18]) (lo := [0,4,6,7]) rfl (fun σ K r hr => ?_)
  unfold W_i_leaseTake_4 at hr
  split at hr
  · rename_i d hd
    rw [Ss.un_mk hd]
    exact ⟨_, ((congrArg (fun z => U_i_leaseTake_4 _ z K) (se_i_leaseTake_4_0 _ _ _ _ _ _ _ _ _)).trans ((q_i_leaseTake_4 K _) _ _ _ _ _ _ _ _ _)).trans hr⟩
  · cases hr
noncomputable def T_i_leaseTake (l : List T_Lease) (w : T_Lease) (n : Int) (K : Ret → Option Ret) : Option Ret := (bif (!(decide (w.2.2.2 > n))) then K ((.t [(.l .deep leaseR []), (.s (.int .i64 (2 : Int)))]), []) else (R_i_leaseTake_4_0 l n l (((List.length l) : Nat) : Int) (0 : Int) w.1 w.2.1 w.2.2.1 w.2.2.2 (fun y0 y1 y2 y3 y4 y5 => K ((.t [(.l .deep leaseR []), (.s (.int .i64 y1))]), [])) (fun y6 y7 y8 y9 y10 => (bif ((Nat.ble (List.length y6) 1048576) && (monoB (fun x => (decide ((cmpD x (y7, (y8, (y9, y10)))) < (0 : Int)))) y6)) then (bif (foundB (fun x => (decide ((cmpD x (y7, (y8, (y9, y10)))) < (0 : Int)))) (fun x => ((cmpD x (y7, (y8, (y9, y10)))) == (0 : Int))) (leaseR.dflt) y6) then K ((.t [(.l .deep leaseR []), (.s (.int .i64 (4 : Int)))]), []) else (bif ((((List.length y6) : Nat) : Int) == (12 : Int)) then K ((.t [(.l .deep leaseR []), (.s (.int .i64 (4 : Int)))]), []) else (meet ((bif (Nat.ble (List.length y6) 1048576) then (bif (((decide ((((cutN (fun x => (decide ((cmpD x (y7, (y8, (y9, y10)))) < (0 : Int)))) y6) : Nat) : Int) ≤ (((List.length y6) : Nat) : Int))) && (Nat.beq (List.length ((y7, (y8, (y9, y10))) :: [])) 1)) && (Nat.ble (List.length y6) 1048576)) then K ((.t [(.l .deep leaseR (((List.take (cutN (fun x => (decide ((cmpD x (y7, (y8, (y9, y10)))) < (0 : Int)))) y6) y6) ++ ((y7, (y8, (y9, y10))) :: [])) ++ (List.drop (cutN (fun x => (decide ((cmpD x (y7, (y8, (y9, y10)))) < (0 : Int)))) y6) y6))), (.s (.int .i64 (0 : Int)))]), []) else none) else none)) ((bif (Nat.ble (List.length y6) 1048576) then (bif (((decide ((((cutN (fun x => (decide ((cmpD x (y7, (y8, (y9, y10)))) < (0 : Int)))) y6) : Nat) : Int) ≤ (((List.length y6) : Nat) : Int))) && (Nat.beq (List.length ((y7, (y8, (y9, y10))) :: [])) 1)) && (Nat.ble (List.length y6) 1048576)) then K ((.t [(.l .deep leaseR (((List.take (cutN (fun x => (decide ((cmpD x (y7, (y8, (y9, y10)))) < (0 : Int)))) y6) y6) ++ ((y7, (y8, (y9, y10))) :: [])) ++ (List.drop (cutN (fun x => (decide ((cmpD x (y7, (y8, (y9, y10)))) < (0 : Int)))) y6) y6))), (.s (.int .i64 (0 : Int)))]), []) else none) else none))))) else none))))
theorem e_i_leaseTake (l : List T_Lease) (w : T_Lease) (n : Int) (K : Ret → Option Ret) : evF E_i_leaseTake true F.i_leaseTake [.l .no leaseR l, .a (leaseR.cells .no w), .s (.int .i64 n)] K = T_i_leaseTake l w n K := by kernel_rfl
theorem meet_if (a b c d : Int) : decide ((if b > a then b else a) < (if d < c then d else c)) = decide (max a b < min c d) := by
  apply decide_eq_decide.2
  by_cases h1 : b > a <;> by_cases h2 : d < c <;> simp only [h1, h2, if_true, if_false] <;> omega
def S_i_leaseTake : Sm := S_fnR [.l leaseR, .a leaseR, .i] (fun d => leasesOkD d.1) (fun d => (.t [.l .deep leaseR (takeX d.1 d.2.1 d.2.2.1).1, .s (.int .i64 (takeX d.1 d.2.1 d.2.2.1).2)], []))
theorem v_i_leaseTake (l : List T_Lease) (w : T_Lease) (n : Int) (h : (leasesOkD l) = true) (K : Ret → Option Ret) : T_i_leaseTake l w n K = K (.t [.l .deep leaseR (takeX l w n).1, .s (.int .i64 (takeX l w n).2)], []) := by
  obtain ⟨k1, k2, k3⟩ := leasesOk_iff.1 h
  unfold T_i_leaseTake takeX
  by_cases hn : w.2.2.2 > n
  · rw [decide_eq_true hn, decide_eq_false (show ¬ w.2.2.2 ≤ n by omega)]
    unfold R_i_leaseTake_4_0
    have q : ∀ (kk0 : (List T_Lease) → Int → Int → Int → Int → Int → Option Ret) (kk1 : (List T_Lease) → Int → Int → Int → Int → Option Ret) (m i : Nat), i ≤ l.length → l.length - i < m → Q_i_leaseTake_4_0 m l n l ((l.length : Nat) : Int) ((i : Nat) : Int) w.1 w.2.1 w.2.2.1 w.2.2.2 kk0 kk1 = bif (l.drop i).any (heldX w n) then kk0 l 3 w.1 w.2.1 w.2.2.1 w.2.2.2 else kk1 l w.1 w.2.1 w.2.2.1 w.2.2.2 := by
      intro kk0 kk1 m
      induction m with
      | zero => intro i _ hm; omega
      | succ m ih =>
        intro i hi hm
        show P_i_leaseTake_4_0 l n l ((l.length : Nat) : Int) ((i : Nat) : Int) w.1 w.2.1 w.2.2.1 w.2.2.2 _ _ _ = _
        unfold P_i_leaseTake_4_0
        by_cases hlt : i < l.length
        · have hd : l.drop i = l.getD i zeroL :: l.drop (i + 1) := by rw [List.drop_eq_getElem_cons hlt, getD_z hlt]
          have hz : l.getD i leaseR.dflt = l.getD i zeroL := rfl
          rw [hd, List.any_cons, decide_eq_true (show ((i : Nat) : Int) < ((l.length : Nat) : Int) by omega), decide_eq_true (show (0 : Int) ≤ ((i : Nat) : Int) by omega), Int.toNat_natCast, wrap_nat (by omega), hz, meet_if]
          have hq := ih (i + 1) (by omega) (by omega)
          show _ = bif ((l.getD i zeroL).2.2.1 != w.2.2.1) && decide ((l.getD i zeroL).2.2.2 > n) && decide (max (l.getD i zeroL).1 w.1 < min (l.getD i zeroL).2.1 w.2.1) || (l.drop (i + 1)).any (heldX w n) then _ else _
          cases ((l.getD i zeroL).2.2.1 != w.2.2.1)
          · exact hq
          · cases decide ((l.getD i zeroL).2.2.2 > n)
            · exact hq
            · cases decide (max (l.getD i zeroL).1 w.1 < min (l.getD i zeroL).2.1 w.2.1)
              · exact hq
              · rfl
        · obtain rfl : i = l.length := by omega
          rw [decide_eq_false (show ¬ ((l.length : Nat) : Int) < ((l.length : Nat) : Int) by omega), List.drop_length]; rfl
    refine (q _ _ _ 0 (Nat.zero_le _) (by omega)).trans ?_
    rw [List.drop_zero]
    cases l.any (heldX w n) with
    | true => rfl
    | false =>
      have e1 : (fun x => decide (cmpD x (w.1, (w.2.1, (w.2.2.1, w.2.2.2))) < 0)) = (fun x => lessD x w) := funext fun x => cmpD_lt x w
      have e2 : (fun x => cmpD x (w.1, (w.2.1, (w.2.2.1, w.2.2.2))) == 0) = (fun x => oneD x w) := funext fun x => cmpD_zero x w
      have e3 : cutN (fun x => lessD x w) l = aheadN w l := rfl
      have hle := ahead_le w l
      rw [e1, e2, found_eq k3, mono_less k3, e3, Nat.ble_eq_true_of_le (show l.length ≤ 1048576 by omega), decide_eq_true (show ((aheadN w l : Nat) : Int) ≤ ((l.length : Nat) : Int) by omega)]
      cases l.any (fun e => oneD e w) with
      | true => rfl
      | false =>
        cases (((l.length : Nat) : Int) == 12) with
        | true => rfl
        | false => exact meet_self _
  · rw [decide_eq_false hn, decide_eq_true (show w.2.2.2 ≤ n by omega)]; rfl
theorem okS_i_leaseTake : OkFn prog I N.i_leaseTake true S_i_leaseTake := okN (ok_fn (memc okS_i_Lease_isActive (memc okS_slices_BinarySearchFunc_Lease (memc okS_slices_Clone_Lease (memc okS_slices_Insert_Lease mem0)))) (l := ls_i_leaseTake) (p := pl_i_leaseTake) (ls := [(4, [0,2,4,16,17,18], [0,4,6,7], W_i_leaseTake_4)]) (lend := []) (focus := false) (fuel := 0) (give := [N.slices_Insert_Lease]) (fn := F.i_leaseTake) (by kernel_rfl) (by kernel_rfl) (by kernel_rfl) (by kernel_rfl) (cs := [bodyOf F.i_leaseTake 4]) (by kernel_rfl) (loopsc loopK_i_leaseTake_4 loops0)) (S_fnR_of fun d K h => (e_i_leaseTake d.1 d.2.1 d.2.2.1 K).trans (v_i_leaseTake d.1 d.2.1 d.2.2.1 h K))
end Go.Ev.Seat
end
section
/- i_LeaseTake: its contract. -/
namespace Go.Ev.Seat
open Go.RowKit
set_option maxRecDepth 100000
set_option linter.unusedVariables false
set_option linter.unusedSimpArgs false
noncomputable abbrev ls_i_LeaseTake : List (Nat × Bool × Sm) := [(N.i_areLeases, true, S_i_areLeases), (N.i_isLease, true, S_i_isLease), (N.i_isClock, true, S_i_isClock), (N.i_leaseTake, true, S_i_leaseTake)]
noncomputable abbrev E_i_LeaseTake : Env := En ls_i_LeaseTake [] [] [] false 0 []
noncomputable def T_i_LeaseTake (l : List T_Lease) (w : T_Lease) (n : Int) (K : Ret → Option Ret) : Option Ret := (bif (Nat.ble (List.length l) 1048576) then (bif (!(leasesOkD l)) then K ((.t [(.l .deep leaseR []), (.s (.int .i64 (1 : Int)))]), []) else (bif (!(leaseOkD w)) then K ((.t [(.l .deep leaseR []), (.s (.int .i64 (1 : Int)))]), []) else (bif (!(clockD n)) then K ((.t [(.l .deep leaseR []), (.s (.int .i64 (1 : Int)))]), []) else (bif (w.1 == w.2.1) then K ((.t [(.l .deep leaseR []), (.s (.int .i64 (1 : Int)))]), []) else (bif (leasesOkD l) then K ((.t [(.l .deep leaseR (takeX l w n).1), (.s (.int .i64 (takeX l w n).2))]), []) else none))))) else none)
theorem e_i_LeaseTake (l : List T_Lease) (w : T_Lease) (n : Int) (K : Ret → Option Ret) : evF E_i_LeaseTake true F.i_LeaseTake [.l .no leaseR l, .a (leaseR.cells .no w), .s (.int .i64 n)] K = T_i_LeaseTake l w n K := by kernel_rfl
def S_i_LeaseTake : Sm := S_fnR [.l leaseR, .a leaseR, .i] (fun d => Nat.ble d.1.length 1048576) (fun d => (.t [.l .deep leaseR (takeD d.1 d.2.1 d.2.2.1).1, .s (.int .i64 (takeD d.1 d.2.1 d.2.2.1).2)], []))
theorem v_i_LeaseTake (l : List T_Lease) (w : T_Lease) (n : Int) (h : (Nat.ble l.length 1048576) = true) (K : Ret → Option Ret) : T_i_LeaseTake l w n K = K (.t [.l .deep leaseR (takeD l w n).1, .s (.int .i64 (takeD l w n).2)], []) := by
  unfold T_i_LeaseTake
  rw [takeD_eq, h]
  cases h1 : leasesOkD l <;> cases h2 : leaseOkD w <;> cases h3 : clockD n <;> cases h4 : (w.1 == w.2.1) <;> simp [h4, bne]
theorem okS_i_LeaseTake : OkFn prog I N.i_LeaseTake true S_i_LeaseTake := okN (ok_fn (memc okS_i_areLeases (memc okS_i_isLease (memc okS_i_isClock (memc okS_i_leaseTake mem0)))) (l := ls_i_LeaseTake) (p := []) (ls := []) (lend := []) (focus := false) (fuel := 0) (give := []) (fn := F.i_LeaseTake) (by kernel_rfl) (by kernel_rfl) (by kernel_rfl) (by kernel_rfl) (cs := []) (by kernel_rfl) loops0) (S_fnR_of fun d K h => (e_i_LeaseTake d.1 d.2.1 d.2.2.1 K).trans (v_i_LeaseTake d.1 d.2.1 d.2.2.1 h K))
end Go.Ev.Seat
end
section
/- l_sameLeases: its contract. -/
namespace Go.Ev.Seat
open Go.RowKit
set_option maxRecDepth 100000
set_option linter.unusedVariables false
set_option linter.unusedSimpArgs false
def z_l_sameLeases_4_0 (x4 : Bool) : St := { tm := ([.x, .x, .x, .x, (.s (.bool x4))] ++ List.replicate 21 .x), ob := [], nx := 0, io := [] }
def z_l_sameLeases_4_1 : St := { tm := ([] ++ List.replicate 26 .x), ob := [], nx := 0, io := [] }
def sh_l_sameLeases_4_0 : Ss := { tm := (.cons (.l .no leaseR) (.cons (.l .no leaseR) (.cons (.x) (.cons (.x) (.cons (.x) (.cons (.int .i64) (xsh 20))))))), ob := .nil, nx := 0, io := .nil }
def d_l_sameLeases_4_0 (x0 : List T_Lease) (x1 : List T_Lease) (x5 : Int) : sh_l_sameLeases_4_0.T := ((x0, (x1, ((), ((), ((), (x5, xd 20)))))), (), ())
def s_l_sameLeases_4_0 (x0 : List T_Lease) (x1 : List T_Lease) (x5 : Int) : St := { tm := ([(.l .no leaseR x0), (.l .no leaseR x1), .x, .x, .x, (.s (.int .i64 x5))] ++ List.replicate 20 .x), ob := [], nx := 0, io := [] }
theorem se_l_sameLeases_4_0 (x0 : List T_Lease) (x1 : List T_Lease) (x5 : Int) : sh_l_sameLeases_4_0.mk' (d_l_sameLeases_4_0 x0 x1 x5) = (s_l_sameLeases_4_0 x0 x1 x5) := by kernel_rfl
def w_l_sameLeases_4_0 (d : sh_l_sameLeases_4_0.T) (f : (List T_Lease) → (List T_Lease) → Int → Option Ret) : Option Ret := match d with | ((x0, (x1, (_, (_, (_, (x5, _)))))), _, _) => f x0 x1 x5
noncomputable def P_l_sameLeases_4_0 (x0 : List T_Lease) (x1 : List T_Lease) (x5 : Int) (nx0 : (List T_Lease) → (List T_Lease) → Int → Option Ret) (k0 : Bool → Option Ret) (k1 : Option Ret) : Option Ret := (bif (decide (x5 < (((List.length x0) : Nat) : Int))) then (bif ((decide ((0 : Int) ≤ x5)) && (decide (x5 < (((List.length x0) : Nat) : Int)))) then (bif ((decide ((0 : Int) ≤ x5)) && (decide (x5 < (((List.length x1) : Nat) : Int)))) then (bif (!(eqI ((List.getD x0 (Int.toNat x5) (leaseR.dflt)).1 :: ((List.getD x0 (Int.toNat x5) (leaseR.dflt)).2.1 :: ((List.getD x0 (Int.toNat x5) (leaseR.dflt)).2.2.1 :: ((List.getD x0 (Int.toNat x5) (leaseR.dflt)).2.2.2 :: ([] : List Int))))) ((List.getD x1 (Int.toNat x5) (leaseR.dflt)).1 :: ((List.getD x1 (Int.toNat x5) (leaseR.dflt)).2.1 :: ((List.getD x1 (Int.toNat x5) (leaseR.dflt)).2.2.1 :: ((List.getD x1 (Int.toNat x5) (leaseR.dflt)).2.2.2 :: ([] : List Int))))))) then (k0 false) else (nx0 x0 x1 (IntKind.wrap .i64 (x5 + (1 : Int))))) else none) else none) else k1)
noncomputable def Q_l_sameLeases_4_0 : Nat → (List T_Lease) → (List T_Lease) → Int → (Bool → Option Ret) → (Option Ret) → Option Ret
  | 0, _, _, _, _, _ => none
  | m + 1, x0, x1, x5, k0, k1 => P_l_sameLeases_4_0 x0 x1 x5 (fun x0 x1 x5 => (Q_l_sameLeases_4_0 m x0 x1 x5 k0 k1)) k0 k1
noncomputable def R_l_sameLeases_4_0 (x0 : List T_Lease) (x1 : List T_Lease) (x5 : Int) (k0 : Bool → Option Ret) (k1 : Option Ret) : Option Ret := Q_l_sameLeases_4_0 (List.length x0 + List.length x1 + x5.toNat + 2) x0 x1 x5 k0 k1
noncomputable def W_l_sameLeases_4 : LoopFn := (fun (σ : St) (K : Ex → St → Option Ret) => (match sh_l_sameLeases_4_0.un σ with | some d => w_l_sameLeases_4_0 d (fun x0 x1 x5 => R_l_sameLeases_4_0 x0 x1 x5 (fun x4 => (K .ret (z_l_sameLeases_4_0 x4))) (K (.ext 0) z_l_sameLeases_4_1)) | none => none))
noncomputable abbrev pl_l_sameLeases : List (Nat × Plan × List Nat) := [(6, takes [0, 1, 2, 3, 4, 5, 6, 7, 8], [])]
noncomputable abbrev E_l_sameLeases : Env := En [] pl_l_sameLeases [(4, [0,1,5], [4], W_l_sameLeases_4)] [] false 0 []
noncomputable abbrev U_l_sameLeases_4 := rounds (run E_l_sameLeases (bodyOf F.l_sameLeases 4)) [0,1,5] [4]
theorem st_l_sameLeases_4_0 (m : Nat) (x0 : List T_Lease) (x1 : List T_Lease) (x5 : Int) (K : Ex → St → Option Ret) : U_l_sameLeases_4 (m + 1) (s_l_sameLeases_4_0 x0 x1 x5) K = P_l_sameLeases_4_0 x0 x1 x5 (fun x0 x1 x5 => (U_l_sameLeases_4 m (s_l_sameLeases_4_0 x0 x1 x5) K)) (fun x4 => (K .ret (z_l_sameLeases_4_0 x4))) (K (.ext 0) z_l_sameLeases_4_1) := by kernel_rfl
theorem q_l_sameLeases_4 (K : Ex → St → Option Ret) : ∀ m : Nat, (∀ (x0 : List T_Lease) (x1 : List T_Lease) (x5 : Int), U_l_sameLeases_4 m (s_l_sameLeases_4_0 x0 x1 x5) K = Q_l_sameLeases_4_0 m x0 x1 x5 (fun x4 => (K .ret (z_l_sameLeases_4_0 x4))) (K (.ext 0) z_l_sameLeases_4_1))
  | 0 => (fun _ _ _ => rfl)
  | m + 1 => (fun x0 x1 x5 => (by rw [st_l_sameLeases_4_0, show (fun x0 x1 x5 => (U_l_sameLeases_4 m (s_l_sameLeases_4_0 x0 x1 x5) K)) = (fun x0 x1 x5 => (Q_l_sameLeases_4_0 m x0 x1 x5 (fun x4 => (K .ret (z_l_sameLeases_4_0 x4))) (K (.ext 0) z_l_sameLeases_4_1))) from funext fun x0 => funext fun x1 => funext fun x5 => (q_l_sameLeases_4 K m) x0 x1 x5]; rfl))
theorem loopK_l_sameLeases_4 : LoopOk E_l_sameLeases (bodyOf F.l_sameLeases 4) := by
  refine loopW_ok (n := 4) (F := W_l_sameLeases_4) (by kernel_rfl) rfl (li := [0,1,5]) (lo := [4]) rfl (fun σ K r hr => ?_)
  unfold W_l_sameLeases_4 at hr
  split at hr
  · rename_i d hd
    rw [Ss.un_mk hd]
    exact ⟨_, ((congrArg (fun z => U_l_sameLeases_4 _ z K) (se_l_sameLeases_4_0 _ _ _)).trans ((q_l_sameLeases_4 K _) _ _ _)).trans hr⟩
  · cases hr
noncomputable def T_l_sameLeases (a : List T_Lease) (b : List T_Lease) (K : Ret → Option Ret) : Option Ret := (bif ((((List.length a) : Nat) : Int) != (((List.length b) : Nat) : Int)) then K ((.s (.bool false)), []) else (R_l_sameLeases_4_0 a b (0 : Int) (fun y0 => K ((.s (.bool y0)), [])) (K ((.s (.bool true)), []))))
theorem e_l_sameLeases (a : List T_Lease) (b : List T_Lease) (K : Ret → Option Ret) : evF E_l_sameLeases true F.l_sameLeases [.l .no leaseR a, .l .no leaseR b] K = T_l_sameLeases a b K := by kernel_rfl
theorem eqI_lease (x y : T_Lease) : eqI [x.1, x.2.1, x.2.2.1, x.2.2.2] [y.1, y.2.1, y.2.2.1, y.2.2.2] = decide (x = y) := by
  obtain ⟨x1, x2, x3, x4⟩ := x
  obtain ⟨y1, y2, y3, y4⟩ := y
  simp only [eqI, Prod.mk.injEq, Bool.decide_and, Bool.and_true]
  rfl
def S_l_sameLeases : Sm := S_fnR [.l leaseR, .l leaseR] (fun d => Nat.ble d.1.length 1048576) (fun d => (bl (decide (d.1 = d.2.1)), []))
theorem v_l_sameLeases (a : List T_Lease) (b : List T_Lease) (h : (Nat.ble a.length 1048576) = true) (K : Ret → Option Ret) : T_l_sameLeases a b K = K (bl (decide (a = b)), []) := by
  have hl := Nat.le_of_ble_eq_true h
  unfold T_l_sameLeases
  by_cases hab : a.length = b.length
  · rw [hab, bne_self_eq_false, cond_false]
    unfold R_l_sameLeases_4_0
    have q : ∀ (k0 : Bool → Option Ret) (k1 : Option Ret) (m i : Nat), i ≤ a.length → a.length - i < m → a.take i = b.take i → Q_l_sameLeases_4_0 m a b ((i : Nat) : Int) k0 k1 = (bif decide (a = b) then k1 else k0 false) := by
      intro k0 k1 m
      induction m with
      | zero => intro i _ hm; omega
      | succ m ih =>
        intro i hi hm ht
        show P_l_sameLeases_4_0 a b ((i : Nat) : Int) _ _ _ = _
        unfold P_l_sameLeases_4_0
        by_cases hlt : i < a.length
        · rw [decide_eq_true (show ((i : Nat) : Int) < ((a.length : Nat) : Int) by omega), decide_eq_true (show ((i : Nat) : Int) < ((b.length : Nat) : Int) by omega), decide_eq_true (show (0 : Int) ≤ ((i : Nat) : Int) by omega), eqI_lease, Int.toNat_natCast, wrap_nat (by omega)]
          by_cases he : a.getD i leaseR.dflt = b.getD i leaseR.dflt
          · rw [decide_eq_true he]
            refine ih (i + 1) (by omega) (by omega) ?_
            rw [← take_snoc leaseR.dflt hlt, ← take_snoc (l := b) leaseR.dflt (by omega), ht, he]
          · rw [decide_eq_false he, decide_eq_false (fun e => he (by rw [e]))]; rfl
        · obtain rfl : i = a.length := by omega
          rw [decide_eq_false (show ¬ ((a.length : Nat) : Int) < ((a.length : Nat) : Int) by omega), decide_eq_true (show a = b by rw [List.take_length, hab, List.take_length] at ht; exact ht)]; rfl
    refine (q _ _ _ 0 (Nat.zero_le _) (by omega) rfl).trans ?_
    cases decide (a = b) <;> rfl
  · rw [show ((((List.length a) : Nat) : Int) != (((List.length b) : Nat) : Int)) = true from bne_iff_ne.2 (by omega), decide_eq_false (fun e => hab (by rw [e]))]; rfl
theorem okS_l_sameLeases : OkFn prog I N.l_sameLeases true S_l_sameLeases := okN (ok_fn mem0 (l := []) (p := pl_l_sameLeases) (ls := [(4, [0,1,5], [4], W_l_sameLeases_4)]) (lend := []) (focus := false) (fuel := 0) (give := []) (fn := F.l_sameLeases) (by kernel_rfl) (by kernel_rfl) (by kernel_rfl) (by kernel_rfl) (cs := [bodyOf F.l_sameLeases 4]) (by kernel_rfl) (loopsc loopK_l_sameLeases_4 loops0)) (S_fnR_of fun d K h => (e_l_sameLeases d.1 d.2.1 K).trans (v_l_sameLeases d.1 d.2.1 h K))
end Go.Ev.Seat
end
section
/- slices_Delete_Lease: its contract. -/
set_option linter.unusedVariables false
set_option linter.unusedSimpArgs false
namespace Go.Ev.Seat
open Go.RowKit Go.Lib Go.Proofs Go.Shelf


set_option maxHeartbeats 4000000 in
set_option maxRecDepth 100000 in
theorem del_same_Lease (a : Option Addr) (n c i : Nat) (w : World) (hnil : a = none → c = 0) (hi : i ≤ n) (hnc : n ≤ c) : Calls prog 148 #[.slice a n c, .int .i64 i, .int .i64 i] w fun e w' => e = .returned (.slice a n c) ∧ w' = w := by
  have mixed := Go.Ev.Seat.mixed
  go_enter Try.func148, Try.ntmps148
  cases a with
  | none =>
    have h0 := hnil rfl
    subst h0
    have h1 : n = 0 := by omega
    subst h1
    have h2 : i = 0 := by omega
    subst h2
    go_wp2
    all_goals (go_ret; exact ⟨rfl, rfl⟩)
  | some a =>
    obtain ⟨ab, ao, asp⟩ := a
    go_wp2
    all_goals (go_ret; exact ⟨rfl, rfl⟩)

set_option maxHeartbeats 4000000 in
set_option maxRecDepth 100000 in
theorem del_cut_Lease (b off n c i j : Nat) (w w1 w2 : World) (A : Option Addr) (hi : i < j) (hj : j ≤ n) (hn : n ≤ 1048576) (hnc : n ≤ c) (hA : (if c = j then (some ⟨b, off, none⟩ : Option Addr) else some ⟨b, off + j * 4, none⟩) = A)
    (h0 : ∀ ty, (Builtin.append_ #[24, 24] ty #[.slice (some ⟨b, off, none⟩) i c, .slice A (n - j) (c - j)]).run prog w.drew = .ok (.slice (some ⟨b, off, none⟩) (i + (n - j)) c) w1)
    (hcl : ∀ ty, (Builtin.clear_ #[24] ty #[.slice (some ⟨b, off + (i + (n - j)) * 4, none⟩) (n - (i + (n - j))) (c - (i + (n - j)))]).run prog w1 = .ok (.tuple #[]) w2) :
    Calls prog 148 #[.slice (some ⟨b, off, none⟩) n c, .int .i64 i, .int .i64 j] w fun e w' => e = .returned (.slice (some ⟨b, off, none⟩) (i + (n - j)) c) ∧ w' = w2 := by
  have mixed := Go.Ev.Seat.mixed
  have hic : i ≤ c := by omega
  have hjc : j ≤ c := by omega
  go_enter Try.func148, Try.ntmps148
  go_wp2_with fail
  go_region_law_o (refine step_append_runN rfl _ _ 24 24 rfl (.slice (some ⟨b, off, none⟩) i c) (.slice A (n - j) (c - j)) (by simp [Act.eval, Act.put]) (by simp [Act.eval, Act.put, hA]) (h0 _) ?_)
  go_wp2
  go_ret
  exact ⟨rfl, rfl⟩
def S_slices_Delete_Lease : Sm := G_del leaseR
theorem okS_slices_Delete_Lease : OkFn prog I N.slices_Delete_Lease true S_slices_Delete_Lease := delN_ok (s := 4) (t := 24) (e := 26) (i0 := Try.t26) Try.underlying24 (by kernel_rfl) rfl rfl (by decide) Try.zeroValue26 rfl rfl (by simp [Value.cells, Value.oneCell']) Try.call148 del_same_Lease del_cut_Lease
end Go.Ev.Seat
end
section
/- i_leaseDrop: its contract. -/
namespace Go.Ev.Seat
open Go.RowKit
set_option maxRecDepth 100000
set_option linter.unusedVariables false
set_option linter.unusedSimpArgs false
noncomputable abbrev ls_i_leaseDrop : List (Nat × Bool × Sm) := [(N.slices_BinarySearchFunc_Lease, true, S_slices_BinarySearchFunc_Lease), (N.slices_Clone_Lease, true, S_slices_Clone_Lease), (N.slices_Delete_Lease, true, S_slices_Delete_Lease)]
noncomputable abbrev E_i_leaseDrop : Env := En ls_i_leaseDrop [] [] [] false 0 [N.slices_Delete_Lease]
noncomputable def T_i_leaseDrop (l : List T_Lease) (w : T_Lease) (K : Ret → Option Ret) : Option Ret := (bif ((Nat.ble (List.length l) 1048576) && (monoB (fun x => (decide ((cmpD x w) < (0 : Int)))) l)) then (bif (!(foundB (fun x => (decide ((cmpD x w) < (0 : Int)))) (fun x => ((cmpD x w) == (0 : Int))) (leaseR.dflt) l)) then K ((.t [(.l .deep leaseR []), (.s (.int .i64 (5 : Int)))]), []) else (bif (Nat.ble (List.length l) 1048576) then (bif (((decide ((((cutN (fun x => (decide ((cmpD x w) < (0 : Int)))) l) : Nat) : Int) ≤ (IntKind.wrap .i64 ((((cutN (fun x => (decide ((cmpD x w) < (0 : Int)))) l) : Nat) : Int) + (1 : Int))))) && (decide ((IntKind.wrap .i64 ((((cutN (fun x => (decide ((cmpD x w) < (0 : Int)))) l) : Nat) : Int) + (1 : Int))) ≤ (((List.length l) : Nat) : Int)))) && (Nat.ble (List.length l) 1048576)) then K ((.t [(.l .deep leaseR ((List.take (cutN (fun x => (decide ((cmpD x w) < (0 : Int)))) l) l) ++ (List.drop (Int.toNat (IntKind.wrap .i64 ((((cutN (fun x => (decide ((cmpD x w) < (0 : Int)))) l) : Nat) : Int) + (1 : Int)))) l))), (.s (.int .i64 (0 : Int)))]), []) else none) else none)) else none)
theorem e_i_leaseDrop (l : List T_Lease) (w : T_Lease) (K : Ret → Option Ret) : evF E_i_leaseDrop true F.i_leaseDrop [.l .no leaseR l, .a (leaseR.cells .no w)] K = T_i_leaseDrop l w K := by kernel_rfl
def S_i_leaseDrop : Sm := S_fnR [.l leaseR, .a leaseR] (fun d => leasesOkD d.1) (fun d => (.t [.l .deep leaseR (dropX d.1 d.2.1).1, .s (.int .i64 (dropX d.1 d.2.1).2)], []))
theorem v_i_leaseDrop (l : List T_Lease) (w : T_Lease) (h : (leasesOkD l) = true) (K : Ret → Option Ret) : T_i_leaseDrop l w K = K (.t [.l .deep leaseR (dropX l w).1, .s (.int .i64 (dropX l w).2)], []) := by
  obtain ⟨k1, k2, k3⟩ := leasesOk_iff.1 h
  unfold T_i_leaseDrop dropX
  have e1 : (fun x => decide (cmpD x w < 0)) = (fun x => lessD x w) := funext fun x => cmpD_lt x w
  have e2 : (fun x => cmpD x w == 0) = (fun x => oneD x w) := funext fun x => cmpD_zero x w
  have e3 : cutN (fun x => lessD x w) l = aheadN w l := rfl
  have hle := ahead_le w l
  rw [e1, e2, found_eq k3, mono_less k3, e3, Nat.ble_eq_true_of_le (show l.length ≤ 1048576 by omega)]
  cases ha : l.any (fun e => oneD e w) with
  | false => rfl
  | true =>
    obtain ⟨hlt, ho⟩ := any_lt k3 ha
    rw [wrap_nat (show aheadN w l ≤ 4611686018427387904 by omega), decide_eq_true (show ((aheadN w l : Nat) : Int) ≤ ((aheadN w l + 1 : Nat) : Int) by omega), decide_eq_true (show ((aheadN w l + 1 : Nat) : Int) ≤ ((l.length : Nat) : Int) by omega), Int.toNat_natCast]
    rfl
theorem okS_i_leaseDrop : OkFn prog I N.i_leaseDrop true S_i_leaseDrop := okN (ok_fn (memc okS_slices_BinarySearchFunc_Lease (memc okS_slices_Clone_Lease (memc okS_slices_Delete_Lease mem0))) (l := ls_i_leaseDrop) (p := []) (ls := []) (lend := []) (focus := false) (fuel := 0) (give := [N.slices_Delete_Lease]) (fn := F.i_leaseDrop) (by kernel_rfl) (by kernel_rfl) (by kernel_rfl) (by kernel_rfl) (cs := []) (by kernel_rfl) loops0) (S_fnR_of fun d K h => (e_i_leaseDrop d.1 d.2.1 K).trans (v_i_leaseDrop d.1 d.2.1 h K))
end Go.Ev.Seat
end
section
/- i_LeaseDrop: its contract. -/
namespace Go.Ev.Seat
open Go.RowKit
set_option maxRecDepth 100000
set_option linter.unusedVariables false
set_option linter.unusedSimpArgs false
noncomputable abbrev ls_i_LeaseDrop : List (Nat × Bool × Sm) := [(N.i_areLeases, true, S_i_areLeases), (N.i_isLease, true, S_i_isLease), (N.i_leaseDrop, true, S_i_leaseDrop)]
noncomputable abbrev E_i_LeaseDrop : Env := En ls_i_LeaseDrop [] [] [] false 0 []
noncomputable def T_i_LeaseDrop (l : List T_Lease) (w : T_Lease) (K : Ret → Option Ret) : Option Ret := (bif (Nat.ble (List.length l) 1048576) then (bif (!(leasesOkD l)) then K ((.t [(.l .deep leaseR []), (.s (.int .i64 (1 : Int)))]), []) else (bif (!(leaseOkD w)) then K ((.t [(.l .deep leaseR []), (.s (.int .i64 (1 : Int)))]), []) else (bif (leasesOkD l) then K ((.t [(.l .deep leaseR (dropX l w).1), (.s (.int .i64 (dropX l w).2))]), []) else none))) else none)
theorem e_i_LeaseDrop (l : List T_Lease) (w : T_Lease) (K : Ret → Option Ret) : evF E_i_LeaseDrop true F.i_LeaseDrop [.l .no leaseR l, .a (leaseR.cells .no w)] K = T_i_LeaseDrop l w K := by kernel_rfl
def S_i_LeaseDrop : Sm := S_fnR [.l leaseR, .a leaseR] (fun d => Nat.ble d.1.length 1048576) (fun d => (.t [.l .deep leaseR (dropD d.1 d.2.1).1, .s (.int .i64 (dropD d.1 d.2.1).2)], []))
theorem v_i_LeaseDrop (l : List T_Lease) (w : T_Lease) (h : (Nat.ble l.length 1048576) = true) (K : Ret → Option Ret) : T_i_LeaseDrop l w K = K (.t [.l .deep leaseR (dropD l w).1, .s (.int .i64 (dropD l w).2)], []) := by
  unfold T_i_LeaseDrop dropD
  rw [h]
  cases h1 : leasesOkD l <;> cases h2 : leaseOkD w <;> rfl
theorem okS_i_LeaseDrop : OkFn prog I N.i_LeaseDrop true S_i_LeaseDrop := okN (ok_fn (memc okS_i_areLeases (memc okS_i_isLease (memc okS_i_leaseDrop mem0))) (l := ls_i_LeaseDrop) (p := []) (ls := []) (lend := []) (focus := false) (fuel := 0) (give := []) (fn := F.i_LeaseDrop) (by kernel_rfl) (by kernel_rfl) (by kernel_rfl) (by kernel_rfl) (cs := []) (by kernel_rfl) loops0) (S_fnR_of fun d K h => (e_i_LeaseDrop d.1 d.2.1 K).trans (v_i_LeaseDrop d.1 d.2.1 h K))
end Go.Ev.Seat
end
section
/- i_LeaseAll_1: its contract. -/
namespace Go.Ev.Seat
open Go.RowKit
set_option maxRecDepth 100000
set_option linter.unusedVariables false
set_option linter.unusedSimpArgs false
noncomputable abbrev E_i_LeaseAll_1 : Env := En [] [] [] [] false 0 []
noncomputable def T_i_LeaseAll_1 (x : T_Lease) (n : Int) (K : Ret → Option Ret) : Option Ret := K ((.s (.bool (x.2.2.1 == n))), [])
theorem e_i_LeaseAll_1 (x : T_Lease) (n : Int) (K : Ret → Option Ret) : evF E_i_LeaseAll_1 true F.i_LeaseAll_1 [.a (leaseR.cells .no x), .qb [.s (.int .i64 n)] 0] K = T_i_LeaseAll_1 x n K := by kernel_rfl
def S_i_LeaseAll_1 : Sm := S_fnR [.a leaseR, .sh (.qb (.cons (.int .i64) .nil) 0)] (fun d => true) (fun d => (bl (d.1.2.2.1 == d.2.1.1), []))
theorem v_i_LeaseAll_1 (x : T_Lease) (n : Int) (K : Ret → Option Ret) : T_i_LeaseAll_1 x n K = K (bl (x.2.2.1 == n), []) := by
  unfold T_i_LeaseAll_1; rfl
theorem okS_i_LeaseAll_1 : OkFn prog I N.i_LeaseAll_1 true S_i_LeaseAll_1 := okN (ok_fn mem0 (l := []) (p := []) (ls := []) (lend := []) (focus := false) (fuel := 0) (give := []) (fn := F.i_LeaseAll_1) (by kernel_rfl) (by kernel_rfl) (by kernel_rfl) (by kernel_rfl) (cs := []) (by kernel_rfl) loops0) (S_fnR_of fun d K h => (e_i_LeaseAll_1 d.1 d.2.1.1 K).trans (v_i_LeaseAll_1 d.1 d.2.1.1 K))
end Go.Ev.Seat
end
section
/- i_leasesThat_All: its contract. -/
namespace Go.Ev.Seat
open Go.RowKit
set_option maxRecDepth 100000
set_option linter.unusedVariables false
set_option linter.unusedSimpArgs false
def z_i_leasesThat_All_3_0 (o0 : List T_Lease) : St := { tm := ([.x, .x, .x, .x, .x, (.w 0)] ++ List.replicate 18 .x), ob := [(0, (.arr true true leaseR o0))], nx := 1, io := [] }
def sh_i_leasesThat_All_3_0 : Ss := { tm := (.cons (.x) (.cons (.f 82 (.cons (.qb (.cons (.int .i64) .nil) 0) .nil)) (.cons (.x) (.cons (.x) (.cons (.x) (.cons (.w 0) (.cons (.x) (.cons (.x) (.cons (.x) (.cons (.l .no leaseR) (.cons (.int .i64) (.cons (.int .i64) (xsh 12))))))))))))), ob := (.arr true true leaseR .nil), nx := 1, io := .nil }
def d_i_leasesThat_All_3_0 (x100 : Int) (x9 : List T_Lease) (x10 : Int) (x11 : Int) (o0 : List T_Lease) : sh_i_leasesThat_All_3_0.T := (((), (((x100, ()), ()), ((), ((), ((), ((), ((), ((), ((), (x9, (x10, (x11, xd 12)))))))))))), (o0, ()), ())
def s_i_leasesThat_All_3_0 (x100 : Int) (x9 : List T_Lease) (x10 : Int) (x11 : Int) (o0 : List T_Lease) : St := { tm := ([.x, (.f 82 [(.qb [(.s (.int .i64 x100))] 0)]), .x, .x, .x, (.w 0), .x, .x, .x, (.l .no leaseR x9), (.s (.int .i64 x10)), (.s (.int .i64 x11))] ++ List.replicate 12 .x), ob := [(0, (.arr true true leaseR o0))], nx := 1, io := [] }
theorem se_i_leasesThat_All_3_0 (x100 : Int) (x9 : List T_Lease) (x10 : Int) (x11 : Int) (o0 : List T_Lease) : sh_i_leasesThat_All_3_0.mk' (d_i_leasesThat_All_3_0 x100 x9 x10 x11 o0) = (s_i_leasesThat_All_3_0 x100 x9 x10 x11 o0) := by kernel_rfl
def w_i_leasesThat_All_3_0 (d : sh_i_leasesThat_All_3_0.T) (f : Int → (List T_Lease) → Int → Int → (List T_Lease) → Option Ret) : Option Ret := match d with | ((_, (((x100, _), _), (_, (_, (_, (_, (_, (_, (_, (x9, (x10, (x11, _)))))))))))), (o0, _), _) => f x100 x9 x10 x11 o0
noncomputable def P_i_leasesThat_All_3_0 (x100 : Int) (x9 : List T_Lease) (x10 : Int) (x11 : Int) (o0 : List T_Lease) (nx0 : Int → (List T_Lease) → Int → Int → (List T_Lease) → Option Ret) (k0 : (List T_Lease) → Option Ret) : Option Ret := (bif (decide (x11 < x10)) then (bif ((decide ((0 : Int) ≤ x11)) && (decide (x11 < (((List.length x9) : Nat) : Int)))) then (bif ((List.getD x9 (Int.toNat x11) (leaseR.dflt)).2.2.1 == x100) then (bif (Nat.ble (((List.length o0) + (List.length ((List.getD x9 (Int.toNat x11) (leaseR.dflt)) :: []))) * 32) 140737488355328) then (nx0 x100 x9 x10 (IntKind.wrap .i64 (x11 + (1 : Int))) (o0 ++ ((List.getD x9 (Int.toNat x11) (leaseR.dflt)) :: []))) else none) else (nx0 x100 x9 x10 (IntKind.wrap .i64 (x11 + (1 : Int))) o0)) else none) else (k0 o0))
noncomputable def Q_i_leasesThat_All_3_0 : Nat → Int → (List T_Lease) → Int → Int → (List T_Lease) → ((List T_Lease) → Option Ret) → Option Ret
  | 0, _, _, _, _, _, _ => none
  | m + 1, x100, x9, x10, x11, o0, k0 => P_i_leasesThat_All_3_0 x100 x9 x10 x11 o0 (fun x100 x9 x10 x11 o0 => (Q_i_leasesThat_All_3_0 m x100 x9 x10 x11 o0 k0)) k0
noncomputable def R_i_leasesThat_All_3_0 (x100 : Int) (x9 : List T_Lease) (x10 : Int) (x11 : Int) (o0 : List T_Lease) (k0 : (List T_Lease) → Option Ret) : Option Ret := Q_i_leasesThat_All_3_0 (x100.toNat + List.length x9 + x10.toNat + x11.toNat + List.length o0 + 2) x100 x9 x10 x11 o0 k0
noncomputable def W_i_leasesThat_All_3 : LoopFn := (fun (σ : St) (K : Ex → St → Option Ret) => (match sh_i_leasesThat_All_3_0.un σ with | some d => w_i_leasesThat_All_3_0 d (fun x100 x9 x10 x11 o0 => R_i_leasesThat_All_3_0 x100 x9 x10 x11 o0 (fun o0 => (K (.ext 0) (z_i_leasesThat_All_3_0 o0)))) | none => none))
noncomputable abbrev ls_i_leasesThat_All : List (Nat × Bool × Sm) := [(N.i_LeaseAll_1, true, S_i_LeaseAll_1)]
noncomputable abbrev E_i_leasesThat_All : Env := En ls_i_leasesThat_All [] [(3, [1,5,9,10,11], [4,5], W_i_leasesThat_All_3)] [] false 0 []
noncomputable abbrev U_i_leasesThat_All_3 := rounds (run E_i_leasesThat_All (bodyOf F.i_leasesThat 3)) [1,5,9,10,11] [4,5]
theorem st_i_leasesThat_All_3_0 (m : Nat) (x100 : Int) (x9 : List T_Lease) (x10 : Int) (x11 : Int) (o0 : List T_Lease) (K : Ex → St → Option Ret) : U_i_leasesThat_All_3 (m + 1) (s_i_leasesThat_All_3_0 x100 x9 x10 x11 o0) K = P_i_leasesThat_All_3_0 x100 x9 x10 x11 o0 (fun x100 x9 x10 x11 o0 => (U_i_leasesThat_All_3 m (s_i_leasesThat_All_3_0 x100 x9 x10 x11 o0) K)) (fun o0 => (K (.ext 0) (z_i_leasesThat_All_3_0 o0))) := by kernel_rfl
theorem q_i_leasesThat_All_3 (K : Ex → St → Option Ret) : ∀ m : Nat, (∀ (x100 : Int) (x9 : List T_Lease) (x10 : Int) (x11 : Int) (o0 : List T_Lease), U_i_leasesThat_All_3 m (s_i_leasesThat_All_3_0 x100 x9 x10 x11 o0) K = Q_i_leasesThat_All_3_0 m x100 x9 x10 x11 o0 (fun o0 => (K (.ext 0) (z_i_leasesThat_All_3_0 o0))))
  | 0 => (fun _ _ _ _ _ => rfl)
  | m + 1 => (fun x100 x9 x10 x11 o0 => (by rw [st_i_leasesThat_All_3_0, show (fun x100 x9 x10 x11 o0 => (U_i_leasesThat_All_3 m (s_i_leasesThat_All_3_0 x100 x9 x10 x11 o0) K)) = (fun x100 x9 x10 x11 o0 => (Q_i_leasesThat_All_3_0 m x100 x9 x10 x11 o0 (fun o0 => (K (.ext 0) (z_i_leasesThat_All_3_0 o0))))) from funext fun x100 => funext fun x9 => funext fun x10 => funext fun x11 => funext fun o0 => (q_i_leasesThat_All_3 K m) x100 x9 x10 x11 o0]; rfl))
theorem loopK_i_leasesThat_All_3 : LoopOk E_i_leasesThat_All (bodyOf F.i_leasesThat 3) := by
  refine loopW_ok (n := 3) (F := W_i_leasesThat_All_3) (by kernel_rfl) rfl (li := [1,5,9,10,11]) (lo := [4,5]) rfl (fun σ K r hr => ?_)
  unfold W_i_leasesThat_All_3 at hr
  split at hr
  · rename_i d hd
    rw [Ss.un_mk hd]
    exact ⟨_, ((congrArg (fun z => U_i_leasesThat_All_3 _ z K) (se_i_leasesThat_All_3_0 _ _ _ _ _)).trans ((q_i_leasesThat_All_3 K _) _ _ _ _ _)).trans hr⟩
  · cases hr
noncomputable def T_i_leasesThat_All (l : List T_Lease) (n : Int) (K : Ret → Option Ret) : Option Ret := (R_i_leasesThat_All_3_0 n l (((List.length l) : Nat) : Int) (0 : Int) [] (fun y0 => K ((.l .deep leaseR y0), [])))
theorem e_i_leasesThat_All (l : List T_Lease) (n : Int) (K : Ret → Option Ret) : evF E_i_leasesThat_All true F.i_leasesThat [.l .no leaseR l, .f N.i_LeaseAll_1 [.qb [.s (.int .i64 n)] 0]] K = T_i_leasesThat_All l n K := by kernel_rfl
def S_i_leasesThat_All : Sm := S_fnR [.l leaseR, .sh (.f N.i_LeaseAll_1 (.cons (.qb (.cons (.int .i64) .nil) 0) .nil))] (fun d => Nat.ble d.1.length 1048576) (fun d => (.l .deep leaseR (d.1.filter (fun x : T_Lease => x.2.2.1 == d.2.1.1.1)), []))
theorem v_i_leasesThat_All (l : List T_Lease) (n : Int) (h : (Nat.ble l.length 1048576) = true) (K : Ret → Option Ret) : T_i_leasesThat_All l n K = K (.l .deep leaseR (l.filter (fun x : T_Lease => x.2.2.1 == n)), []) := by
  have hl := Nat.le_of_ble_eq_true h
  unfold T_i_leasesThat_All
  have hp : ∃ p : T_Lease → Bool, p = (fun x => x.2.2.1 == n) := ⟨_, rfl⟩
  obtain ⟨p, hp⟩ := hp
  rw [← hp]
  have q : ∀ (k0 : List T_Lease → Option Ret) (m : Nat), l.length < m → Q_i_leasesThat_All_3_0 m n l ((l.length : Nat) : Int) ((0 : Nat) : Int) ((l.take 0).filter p) k0 = k0 (l.filter p) := by
    intro k0 m hm
    refine idx_filter (R := fun m i o => Q_i_leasesThat_All_3_0 m n l ((l.length : Nat) : Int) i o k0) (kt := k0 (l.filter p)) (l := l) p leaseR.dflt (fun m i hi => ?_) (fun m => ?_) m 0 (Nat.zero_le _) (by omega)
    · show P_i_leasesThat_All_3_0 n l ((l.length : Nat) : Int) ((i : Nat) : Int) _ _ _ = _
      unfold P_i_leasesThat_All_3_0
      have hle := List.length_filter_le p (l.take i)
      rw [List.length_take] at hle
      rw [decide_eq_true (show ((i : Nat) : Int) < ((l.length : Nat) : Int) by omega), decide_eq_true (show (0 : Int) ≤ ((i : Nat) : Int) by omega), Int.toNat_natCast, wrap_nat (by omega), Nat.ble_eq_true_of_le (by simp only [List.length_cons, List.length_nil]; omega), show ((l.getD i leaseR.dflt).2.2.1 == n) = p (l.getD i leaseR.dflt) by rw [hp]]
      cases p (l.getD i leaseR.dflt) <;> rfl
    · show P_i_leasesThat_All_3_0 n l ((l.length : Nat) : Int) ((l.length : Nat) : Int) _ _ _ = _
      unfold P_i_leasesThat_All_3_0
      rw [decide_eq_false (show ¬ ((l.length : Nat) : Int) < ((l.length : Nat) : Int) by omega)]; rfl
  exact q (fun y0 => K ((.l .deep leaseR y0), [])) _ (by omega)
theorem okS_i_leasesThat_All : OkFn prog I N.i_leasesThat true S_i_leasesThat_All := okN (ok_fn (memc okS_i_LeaseAll_1 mem0) (l := ls_i_leasesThat_All) (p := []) (ls := [(3, [1,5,9,10,11], [4,5], W_i_leasesThat_All_3)]) (lend := []) (focus := false) (fuel := 0) (give := []) (fn := F.i_leasesThat) (by kernel_rfl) (by kernel_rfl) (by kernel_rfl) (by kernel_rfl) (cs := [bodyOf F.i_leasesThat 3]) (by kernel_rfl) (loopsc loopK_i_leasesThat_All_3 loops0)) (S_fnR_of fun d K h => (e_i_leasesThat_All d.1 d.2.1.1.1 K).trans (v_i_leasesThat_All d.1 d.2.1.1.1 h K))
end Go.Ev.Seat
end
section
/- i_LeaseAll: its contract. -/
namespace Go.Ev.Seat
open Go.RowKit
set_option maxRecDepth 100000
set_option linter.unusedVariables false
set_option linter.unusedSimpArgs false
noncomputable abbrev ls_i_LeaseAll : List (Nat × Bool × Sm) := [(N.i_areLeases, true, S_i_areLeases), (N.i_leasesThat, true, S_i_leasesThat_All)]
noncomputable abbrev E_i_LeaseAll : Env := En ls_i_LeaseAll [] [] [] false 0 []
noncomputable def T_i_LeaseAll (l : List T_Lease) (n : Int) (K : Ret → Option Ret) : Option Ret := (bif (Nat.ble (List.length l) 1048576) then (bif (!(leasesOkD l)) then K ((.l .deep leaseR []), []) else (bif (Nat.ble (List.length l) 1048576) then K ((.l .deep leaseR (List.filter (fun x => (x.2.2.1 == n)) l)), []) else none)) else none)
theorem e_i_LeaseAll (l : List T_Lease) (n : Int) (K : Ret → Option Ret) : evF E_i_LeaseAll true F.i_LeaseAll [.l .no leaseR l, .s (.int .i64 n)] K = T_i_LeaseAll l n K := by kernel_rfl
def S_i_LeaseAll : Sm := S_fnR [.l leaseR, .i] (fun d => Nat.ble d.1.length 1048576) (fun d => (.l .deep leaseR (bif leasesOkD d.1 then d.1.filter (fun x : T_Lease => x.2.2.1 == d.2.1) else []), []))
theorem v_i_LeaseAll (l : List T_Lease) (n : Int) (h : (Nat.ble l.length 1048576) = true) (K : Ret → Option Ret) : T_i_LeaseAll l n K = K (.l .deep leaseR (bif leasesOkD l then l.filter (fun x : T_Lease => x.2.2.1 == n) else []), []) := by
  unfold T_i_LeaseAll
  rw [h]
  cases leasesOkD l <;> rfl
theorem okS_i_LeaseAll : OkFn prog I N.i_LeaseAll true S_i_LeaseAll := okN (ok_fn (memc okS_i_areLeases (memc okS_i_leasesThat_All mem0)) (l := ls_i_LeaseAll) (p := []) (ls := []) (lend := []) (focus := false) (fuel := 0) (give := []) (fn := F.i_LeaseAll) (by kernel_rfl) (by kernel_rfl) (by kernel_rfl) (by kernel_rfl) (cs := []) (by kernel_rfl) loops0) (S_fnR_of fun d K h => (e_i_LeaseAll d.1 d.2.1 K).trans (v_i_LeaseAll d.1 d.2.1 h K))
end Go.Ev.Seat
end
section
/- i_LeaseExpire_1: its contract. -/
namespace Go.Ev.Seat
open Go.RowKit
set_option maxRecDepth 100000
set_option linter.unusedVariables false
set_option linter.unusedSimpArgs false
noncomputable abbrev ls_i_LeaseExpire_1 : List (Nat × Bool × Sm) := [(N.i_Lease_isActive, true, S_i_Lease_isActive)]
noncomputable abbrev E_i_LeaseExpire_1 : Env := En ls_i_LeaseExpire_1 [] [] [] false 0 []
noncomputable def T_i_LeaseExpire_1 (x : T_Lease) (n : Int) (K : Ret → Option Ret) : Option Ret := K ((.s (.bool (decide (x.2.2.2 > n)))), [])
theorem e_i_LeaseExpire_1 (x : T_Lease) (n : Int) (K : Ret → Option Ret) : evF E_i_LeaseExpire_1 true F.i_LeaseExpire_1 [.a (leaseR.cells .no x), .qb [.s (.int .i64 n)] 0] K = T_i_LeaseExpire_1 x n K := by kernel_rfl
def S_i_LeaseExpire_1 : Sm := S_fnR [.a leaseR, .sh (.qb (.cons (.int .i64) .nil) 0)] (fun d => true) (fun d => (bl (decide (d.1.2.2.2 > d.2.1.1)), []))
theorem v_i_LeaseExpire_1 (x : T_Lease) (n : Int) (K : Ret → Option Ret) : T_i_LeaseExpire_1 x n K = K (bl (decide (x.2.2.2 > n)), []) := by
  unfold T_i_LeaseExpire_1; rfl
theorem okS_i_LeaseExpire_1 : OkFn prog I N.i_LeaseExpire_1 true S_i_LeaseExpire_1 := okN (ok_fn (memc okS_i_Lease_isActive mem0) (l := ls_i_LeaseExpire_1) (p := []) (ls := []) (lend := []) (focus := false) (fuel := 0) (give := []) (fn := F.i_LeaseExpire_1) (by kernel_rfl) (by kernel_rfl) (by kernel_rfl) (by kernel_rfl) (cs := []) (by kernel_rfl) loops0) (S_fnR_of fun d K h => (e_i_LeaseExpire_1 d.1 d.2.1.1 K).trans (v_i_LeaseExpire_1 d.1 d.2.1.1 K))
end Go.Ev.Seat
end
section
/- i_leasesThat_Exp: its contract. -/
namespace Go.Ev.Seat
open Go.RowKit
set_option maxRecDepth 100000
set_option linter.unusedVariables false
set_option linter.unusedSimpArgs false
def z_i_leasesThat_Exp_3_0 (o0 : List T_Lease) : St := { tm := ([.x, .x, .x, .x, .x, (.w 0)] ++ List.replicate 18 .x), ob := [(0, (.arr true true leaseR o0))], nx := 1, io := [] }
def sh_i_leasesThat_Exp_3_0 : Ss := { tm := (.cons (.x) (.cons (.f 83 (.cons (.qb (.cons (.int .i64) .nil) 0) .nil)) (.cons (.x) (.cons (.x) (.cons (.x) (.cons (.w 0) (.cons (.x) (.cons (.x) (.cons (.x) (.cons (.l .no leaseR) (.cons (.int .i64) (.cons (.int .i64) (xsh 12))))))))))))), ob := (.arr true true leaseR .nil), nx := 1, io := .nil }
def d_i_leasesThat_Exp_3_0 (x100 : Int) (x9 : List T_Lease) (x10 : Int) (x11 : Int) (o0 : List T_Lease) : sh_i_leasesThat_Exp_3_0.T := (((), (((x100, ()), ()), ((), ((), ((), ((), ((), ((), ((), (x9, (x10, (x11, xd 12)))))))))))), (o0, ()), ())
def s_i_leasesThat_Exp_3_0 (x100 : Int) (x9 : List T_Lease) (x10 : Int) (x11 : Int) (o0 : List T_Lease) : St := { tm := ([.x, (.f 83 [(.qb [(.s (.int .i64 x100))] 0)]), .x, .x, .x, (.w 0), .x, .x, .x, (.l .no leaseR x9), (.s (.int .i64 x10)), (.s (.int .i64 x11))] ++ List.replicate 12 .x), ob := [(0, (.arr true true leaseR o0))], nx := 1, io := [] }
theorem se_i_leasesThat_Exp_3_0 (x100 : Int) (x9 : List T_Lease) (x10 : Int) (x11 : Int) (o0 : List T_Lease) : sh_i_leasesThat_Exp_3_0.mk' (d_i_leasesThat_Exp_3_0 x100 x9 x10 x11 o0) = (s_i_leasesThat_Exp_3_0 x100 x9 x10 x11 o0) := by kernel_rfl
def w_i_leasesThat_Exp_3_0 (d : sh_i_leasesThat_Exp_3_0.T) (f : Int → (List T_Lease) → Int → Int → (List T_Lease) → Option Ret) : Option Ret := match d with | ((_, (((x100, _), _), (_, (_, (_, (_, (_, (_, (_, (x9, (x10, (x11, _)))))))))))), (o0, _), _) => f x100 x9 x10 x11 o0
noncomputable def P_i_leasesThat_Exp_3_0 (x100 : Int) (x9 : List T_Lease) (x10 : Int) (x11 : Int) (o0 : List T_Lease) (nx0 : Int → (List T_Lease) → Int → Int → (List T_Lease) → Option Ret) (k0 : (List T_Lease) → Option Ret) : Option Ret := (bif (decide (x11 < x10)) then (bif ((decide ((0 : Int) ≤ x11)) && (decide (x11 < (((List.length x9) : Nat) : Int)))) then (bif (decide ((List.getD x9 (Int.toNat x11) (leaseR.dflt)).2.2.2 > x100)) then (bif (Nat.ble (((List.length o0) + (List.length ((List.getD x9 (Int.toNat x11) (leaseR.dflt)) :: []))) * 32) 140737488355328) then (nx0 x100 x9 x10 (IntKind.wrap .i64 (x11 + (1 : Int))) (o0 ++ ((List.getD x9 (Int.toNat x11) (leaseR.dflt)) :: []))) else none) else (nx0 x100 x9 x10 (IntKind.wrap .i64 (x11 + (1 : Int))) o0)) else none) else (k0 o0))
noncomputable def Q_i_leasesThat_Exp_3_0 : Nat → Int → (List T_Lease) → Int → Int → (List T_Lease) → ((List T_Lease) → Option Ret) → Option Ret
  | 0, _, _, _, _, _, _ => none
  | m + 1, x100, x9, x10, x11, o0, k0 => P_i_leasesThat_Exp_3_0 x100 x9 x10 x11 o0 (fun x100 x9 x10 x11 o0 => (Q_i_leasesThat_Exp_3_0 m x100 x9 x10 x11 o0 k0)) k0
noncomputable def R_i_leasesThat_Exp_3_0 (x100 : Int) (x9 : List T_Lease) (x10 : Int) (x11 : Int) (o0 : List T_Lease) (k0 : (List T_Lease) → Option Ret) : Option Ret := Q_i_leasesThat_Exp_3_0 (x100.toNat + List.length x9 + x10.toNat + x11.toNat + List.length o0 + 2) x100 x9 x10 x11 o0 k0
noncomputable def W_i_leasesThat_Exp_3 : LoopFn := (fun (σ : St) (K : Ex → St → Option Ret) => (match sh_i_leasesThat_Exp_3_0.un σ with | some d => w_i_leasesThat_Exp_3_0 d (fun x100 x9 x10 x11 o0 => R_i_leasesThat_Exp_3_0 x100 x9 x10 x11 o0 (fun o0 => (K (.ext 0) (z_i_leasesThat_Exp_3_0 o0)))) | none => none))
noncomputable abbrev ls_i_leasesThat_Exp : List (Nat × Bool × Sm) := [(N.i_LeaseExpire_1, true, S_i_LeaseExpire_1)]
noncomputable abbrev E_i_leasesThat_Exp : Env := En ls_i_leasesThat_Exp [] [(3, [1,5,9,10,11], [4,5], W_i_leasesThat_Exp_3)] [] false 0 []
noncomputable abbrev U_i_leasesThat_Exp_3 := rounds (run E_i_leasesThat_Exp (bodyOf F.i_leasesThat 3)) [1,5,9,10,11] [4,5]
theorem st_i_leasesThat_Exp_3_0 (m : Nat) (x100 : Int) (x9 : List T_Lease) (x10 : Int) (x11 : Int) (o0 : List T_Lease) (K : Ex → St → Option Ret) : U_i_leasesThat_Exp_3 (m + 1) (s_i_leasesThat_Exp_3_0 x100 x9 x10 x11 o0) K = P_i_leasesThat_Exp_3_0 x100 x9 x10 x11 o0 (fun x100 x9 x10 x11 o0 => (U_i_leasesThat_Exp_3 m (s_i_leasesThat_Exp_3_0 x100 x9 x10 x11 o0) K)) (fun o0 => (K (.ext 0) (z_i_leasesThat_Exp_3_0 o0))) := by kernel_rfl
theorem q_i_leasesThat_Exp_3 (K : Ex → St → Option Ret) : ∀ m : Nat, (∀ (x100 : Int) (x9 : List T_Lease) (x10 : Int) (x11 : Int) (o0 : List T_Lease), U_i_leasesThat_Exp_3 m (s_i_leasesThat_Exp_3_0 x100 x9 x10 x11 o0) K = Q_i_leasesThat_Exp_3_0 m x100 x9 x10 x11 o0 (fun o0 => (K (.ext 0) (z_i_leasesThat_Exp_3_0 o0))))
  | 0 => (fun _ _ _ _ _ => rfl)
  | m + 1 => (fun x100 x9 x10 x11 o0 => (by rw [st_i_leasesThat_Exp_3_0, show (fun x100 x9 x10 x11 o0 => (U_i_leasesThat_Exp_3 m (s_i_leasesThat_Exp_3_0 x100 x9 x10 x11 o0) K)) = (fun x100 x9 x10 x11 o0 => (Q_i_leasesThat_Exp_3_0 m x100 x9 x10 x11 o0 (fun o0 => (K (.ext 0) (z_i_leasesThat_Exp_3_0 o0))))) from funext fun x100 => funext fun x9 => funext fun x10 => funext fun x11 => funext fun o0 => (q_i_leasesThat_Exp_3 K m) x100 x9 x10 x11 o0]; rfl))
theorem loopK_i_leasesThat_Exp_3 : LoopOk E_i_leasesThat_Exp (bodyOf F.i_leasesThat 3) := by
  refine loopW_ok (n := 3) (F := W_i_leasesThat_Exp_3) (by kernel_rfl) rfl (li := [1,5,9,10,11]) (lo := [4,5]) rfl (fun σ K r hr => ?_)
  unfold W_i_leasesThat_Exp_3 at hr
  split at hr
  · rename_i d hd
    rw [Ss.un_mk hd]
    exact ⟨_, ((congrArg (fun z => U_i_leasesThat_Exp_3 _ z K) (se_i_leasesThat_Exp_3_0 _ _ _ _ _)).trans ((q_i_leasesThat_Exp_3 K _) _ _ _ _ _)).trans hr⟩
  · cases hr
noncomputable def T_i_leasesThat_Exp (l : List T_Lease) (n : Int) (K : Ret → Option Ret) : Option Ret := (R_i_leasesThat_Exp_3_0 n l (((List.length l) : Nat) : Int) (0 : Int) [] (fun y0 => K ((.l .deep leaseR y0), [])))
theorem e_i_leasesThat_Exp (l : List T_Lease) (n : Int) (K : Ret → Option Ret) : evF E_i_leasesThat_Exp true F.i_leasesThat [.l .no leaseR l, .f N.i_LeaseExpire_1 [.qb [.s (.int .i64 n)] 0]] K = T_i_leasesThat_Exp l n K := by kernel_rfl
def S_i_leasesThat_Exp : Sm := S_fnR [.l leaseR, .sh (.f N.i_LeaseExpire_1 (.cons (.qb (.cons (.int .i64) .nil) 0) .nil))] (fun d => Nat.ble d.1.length 1048576) (fun d => (.l .deep leaseR (d.1.filter (fun x : T_Lease => decide (x.2.2.2 > d.2.1.1.1))), []))
theorem v_i_leasesThat_Exp (l : List T_Lease) (n : Int) (h : (Nat.ble l.length 1048576) = true) (K : Ret → Option Ret) : T_i_leasesThat_Exp l n K = K (.l .deep leaseR (l.filter (fun x : T_Lease => decide (x.2.2.2 > n))), []) := by
  have hl := Nat.le_of_ble_eq_true h
  unfold T_i_leasesThat_Exp
  have hp : ∃ p : T_Lease → Bool, p = (fun x => decide (x.2.2.2 > n)) := ⟨_, rfl⟩
  obtain ⟨p, hp⟩ := hp
  rw [← hp]
  have q : ∀ (k0 : List T_Lease → Option Ret) (m : Nat), l.length < m → Q_i_leasesThat_Exp_3_0 m n l ((l.length : Nat) : Int) ((0 : Nat) : Int) ((l.take 0).filter p) k0 = k0 (l.filter p) := by
    intro k0 m hm
    refine idx_filter (R := fun m i o => Q_i_leasesThat_Exp_3_0 m n l ((l.length : Nat) : Int) i o k0) (kt := k0 (l.filter p)) (l := l) p leaseR.dflt (fun m i hi => ?_) (fun m => ?_) m 0 (Nat.zero_le _) (by omega)
    · show P_i_leasesThat_Exp_3_0 n l ((l.length : Nat) : Int) ((i : Nat) : Int) _ _ _ = _
      unfold P_i_leasesThat_Exp_3_0
      have hle := List.length_filter_le p (l.take i)
      rw [List.length_take] at hle
      rw [decide_eq_true (show ((i : Nat) : Int) < ((l.length : Nat) : Int) by omega), decide_eq_true (show (0 : Int) ≤ ((i : Nat) : Int) by omega), Int.toNat_natCast, wrap_nat (by omega), Nat.ble_eq_true_of_le (by simp only [List.length_cons, List.length_nil]; omega), show (decide ((l.getD i leaseR.dflt).2.2.2 > n)) = p (l.getD i leaseR.dflt) by rw [hp]]
      cases p (l.getD i leaseR.dflt) <;> rfl
    · show P_i_leasesThat_Exp_3_0 n l ((l.length : Nat) : Int) ((l.length : Nat) : Int) _ _ _ = _
      unfold P_i_leasesThat_Exp_3_0
      rw [decide_eq_false (show ¬ ((l.length : Nat) : Int) < ((l.length : Nat) : Int) by omega)]; rfl
  exact q (fun y0 => K ((.l .deep leaseR y0), [])) _ (by omega)
theorem okS_i_leasesThat_Exp : OkFn prog I N.i_leasesThat true S_i_leasesThat_Exp := okN (ok_fn (memc okS_i_LeaseExpire_1 mem0) (l := ls_i_leasesThat_Exp) (p := []) (ls := [(3, [1,5,9,10,11], [4,5], W_i_leasesThat_Exp_3)]) (lend := []) (focus := false) (fuel := 0) (give := []) (fn := F.i_leasesThat) (by kernel_rfl) (by kernel_rfl) (by kernel_rfl) (by kernel_rfl) (cs := [bodyOf F.i_leasesThat 3]) (by kernel_rfl) (loopsc loopK_i_leasesThat_Exp_3 loops0)) (S_fnR_of fun d K h => (e_i_leasesThat_Exp d.1 d.2.1.1.1 K).trans (v_i_leasesThat_Exp d.1 d.2.1.1.1 h K))
end Go.Ev.Seat
end
section
/- i_LeaseExpire: its contract. -/
namespace Go.Ev.Seat
open Go.RowKit
set_option maxRecDepth 100000
set_option linter.unusedVariables false
set_option linter.unusedSimpArgs false
noncomputable abbrev ls_i_LeaseExpire : List (Nat × Bool × Sm) := [(N.i_areLeases, true, S_i_areLeases), (N.i_leasesThat, true, S_i_leasesThat_Exp)]
noncomputable abbrev E_i_LeaseExpire : Env := En ls_i_LeaseExpire [] [] [] false 0 []
noncomputable def T_i_LeaseExpire (l : List T_Lease) (n : Int) (K : Ret → Option Ret) : Option Ret := (bif (Nat.ble (List.length l) 1048576) then (bif (!(leasesOkD l)) then K ((.l .deep leaseR []), []) else (bif (Nat.ble (List.length l) 1048576) then K ((.l .deep leaseR (List.filter (fun x => (decide (x.2.2.2 > n))) l)), []) else none)) else none)
theorem e_i_LeaseExpire (l : List T_Lease) (n : Int) (K : Ret → Option Ret) : evF E_i_LeaseExpire true F.i_LeaseExpire [.l .no leaseR l, .s (.int .i64 n)] K = T_i_LeaseExpire l n K := by kernel_rfl
def S_i_LeaseExpire : Sm := S_fnR [.l leaseR, .i] (fun d => Nat.ble d.1.length 1048576) (fun d => (.l .deep leaseR (bif leasesOkD d.1 then d.1.filter (fun x : T_Lease => decide (x.2.2.2 > d.2.1)) else []), []))
theorem v_i_LeaseExpire (l : List T_Lease) (n : Int) (h : (Nat.ble l.length 1048576) = true) (K : Ret → Option Ret) : T_i_LeaseExpire l n K = K (.l .deep leaseR (bif leasesOkD l then l.filter (fun x : T_Lease => decide (x.2.2.2 > n)) else []), []) := by
  unfold T_i_LeaseExpire
  rw [h]
  cases leasesOkD l <;> rfl
theorem okS_i_LeaseExpire : OkFn prog I N.i_LeaseExpire true S_i_LeaseExpire := okN (ok_fn (memc okS_i_areLeases (memc okS_i_leasesThat_Exp mem0)) (l := ls_i_LeaseExpire) (p := []) (ls := []) (lend := []) (focus := false) (fuel := 0) (give := []) (fn := F.i_LeaseExpire) (by kernel_rfl) (by kernel_rfl) (by kernel_rfl) (by kernel_rfl) (cs := []) (by kernel_rfl) loops0) (S_fnR_of fun d K h => (e_i_LeaseExpire d.1 d.2.1 K).trans (v_i_LeaseExpire d.1 d.2.1 h K))
end Go.Ev.Seat
end
section
/- Leases moved: each is put in, or gives its time to the one that is there. -/
set_option linter.unusedVariables false
set_option linter.unusedSimpArgs false
namespace Go.Ev
end Go.Ev
end
section
/- Leases moved stay apart. -/
set_option linter.unusedVariables false
set_option linter.unusedSimpArgs false
namespace Go.Ev
end Go.Ev
end
