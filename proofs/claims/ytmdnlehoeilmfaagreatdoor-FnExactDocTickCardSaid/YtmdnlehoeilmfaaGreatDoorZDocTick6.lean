/- DocTick: parts FiareHeld FiisDoc FiisTick FslicesCloneLease Fiedits FiStackcopied FiMembercopied FiDoccopied FiDoctick1 FileasesThat FiDoctick FiDocTick PDocW EvLDocTick EvKind EvOne EvTab, packed by squash.py. -/
import GoSem.ClaimWide
import Derived.Lib.LaidTab
import GoSem.PinnedTables
import Derived.Test.YtmdnlehoeilmfaaGreatDoorZDocTick0
import Derived.Test.YtmdnlehoeilmfaaGreatDoorZDocTick1
import Derived.Test.YtmdnlehoeilmfaaGreatDoorZDocTick2
import Derived.Test.YtmdnlehoeilmfaaGreatDoorZDocTick3
import Derived.Test.YtmdnlehoeilmfaaGreatDoorZDocTick4
import Derived.Test.YtmdnlehoeilmfaaGreatDoorZDocTick5
set_option linter.unusedVariables false
set_option linter.unusedSimpArgs false
section
/- i_areHeld: its contract. -/
namespace Go.Ev.Seat
open Go.RowKit
set_option maxRecDepth 100000
set_option linter.unusedVariables false
set_option linter.unusedSimpArgs false
def z_i_areHeld_9_0 (x0 : List T_Lease) (x1 : List Int) (x2 : Int) (x6 : Bool) (x14 : List T_Lease) (x15 : Int) (x16 : Int) : St := { tm := ([(.l .no leaseR x0), (.l .no bytesR x1), (.s (.int .i64 x2)), .x, .x, .x, (.s (.bool x6)), .x, .x, .x, .x, .x, .x, .x, (.l .no leaseR x14), (.s (.int .i64 x15)), (.s (.int .i64 x16))] ++ List.replicate 50 .x), ob := [], nx := 0, io := [] }
def z_i_areHeld_9_1 (x0 : List T_Lease) (x1 : List Int) (x2 : Int) (x14 : List T_Lease) (x15 : Int) (x16 : Int) : St := { tm := ([(.l .no leaseR x0), (.l .no bytesR x1), (.s (.int .i64 x2)), .x, .x, .x, .x, .x, .x, .x, .x, .x, .x, .x, (.l .no leaseR x14), (.s (.int .i64 x15)), (.s (.int .i64 x16))] ++ List.replicate 50 .x), ob := [], nx := 0, io := [] }
def sh_i_areHeld_9_0 : Ss := { tm := (.cons (.l .no leaseR) (.cons (.l .no bytesR) (.cons (.int .i64) (.cons (.x) (.cons (.x) (.cons (.x) (.cons (.x) (.cons (.x) (.cons (.pb 0 0) (.cons (.x) (.cons (.x) (.cons (.x) (.cons (.x) (.cons (.x) (.cons (.l .no leaseR) (.cons (.int .i64) (.cons (.int .i64) (.cons (.x) (.cons (.x) (.cons (.x) (.cons (.x) (.cons (.x) (.cons (.x) (.cons (.x) (.cons (.x) (.cons (.x) (.cons (.x) (.cons (.x) (.cons (.x) (.cons (.x) (.cons (.x) (.cons (.x) (.cons (.x) (.cons (.x) (.cons (.x) (.cons (.x) (.cons (.x) (.cons (.x) (.cons (.x) (.cons (.x) (.cons (.x) (.cons (.l .no leaseR) (.cons (.int .i64) (.cons (.int .i64) (xsh 23))))))))))))))))))))))))))))))))))))))))))))), ob := (.box (.cons (.int .i64) (.cons (.int .i64) (.cons (.int .i64) (.cons (.int .i64) .nil)))) .nil), nx := 1, io := .nil }
def d_i_areHeld_9_0 (x0 : List T_Lease) (x1 : List Int) (x2 : Int) (x14 : List T_Lease) (x15 : Int) (x16 : Int) (x41 : List T_Lease) (x42 : Int) (x43 : Int) (b00 : Int) (b01 : Int) (b02 : Int) (b03 : Int) : sh_i_areHeld_9_0.T := ((x0, (x1, (x2, ((), ((), ((), ((), ((), ((), ((), ((), ((), ((), ((), (x14, (x15, (x16, ((), ((), ((), ((), ((), ((), ((), ((), ((), ((), ((), ((), ((), ((), ((), ((), ((), ((), ((), ((), ((), ((), ((), ((), (x41, (x42, (x43, xd 23)))))))))))))))))))))))))))))))))))))))))))), ((b00, (b01, (b02, (b03, ())))), ()), ())
def s_i_areHeld_9_0 (x0 : List T_Lease) (x1 : List Int) (x2 : Int) (x14 : List T_Lease) (x15 : Int) (x16 : Int) (x41 : List T_Lease) (x42 : Int) (x43 : Int) (b00 : Int) (b01 : Int) (b02 : Int) (b03 : Int) : St := { tm := ([(.l .no leaseR x0), (.l .no bytesR x1), (.s (.int .i64 x2)), .x, .x, .x, .x, .x, (.pb 0 0), .x, .x, .x, .x, .x, (.l .no leaseR x14), (.s (.int .i64 x15)), (.s (.int .i64 x16)), .x, .x, .x, .x, .x, .x, .x, .x, .x, .x, .x, .x, .x, .x, .x, .x, .x, .x, .x, .x, .x, .x, .x, .x, (.l .no leaseR x41), (.s (.int .i64 x42)), (.s (.int .i64 x43))] ++ List.replicate 23 .x), ob := [(0, (.box [(.s (.int .i64 b00)), (.s (.int .i64 b01)), (.s (.int .i64 b02)), (.s (.int .i64 b03))]))], nx := 1, io := [] }
theorem se_i_areHeld_9_0 (x0 : List T_Lease) (x1 : List Int) (x2 : Int) (x14 : List T_Lease) (x15 : Int) (x16 : Int) (x41 : List T_Lease) (x42 : Int) (x43 : Int) (b00 : Int) (b01 : Int) (b02 : Int) (b03 : Int) : sh_i_areHeld_9_0.mk' (d_i_areHeld_9_0 x0 x1 x2 x14 x15 x16 x41 x42 x43 b00 b01 b02 b03) = (s_i_areHeld_9_0 x0 x1 x2 x14 x15 x16 x41 x42 x43 b00 b01 b02 b03) := by kernel_rfl
def w_i_areHeld_9_0 (d : sh_i_areHeld_9_0.T) (f : (List T_Lease) → (List Int) → Int → (List T_Lease) → Int → Int → (List T_Lease) → Int → Int → Int → Int → Int → Int → Option Ret) : Option Ret := match d with | ((x0, (x1, (x2, (_, (_, (_, (_, (_, (_, (_, (_, (_, (_, (_, (x14, (x15, (x16, (_, (_, (_, (_, (_, (_, (_, (_, (_, (_, (_, (_, (_, (_, (_, (_, (_, (_, (_, (_, (_, (_, (_, (_, (x41, (x42, (x43, _)))))))))))))))))))))))))))))))))))))))))))), ((b00, (b01, (b02, (b03, _)))), _), _) => f x0 x1 x2 x14 x15 x16 x41 x42 x43 b00 b01 b02 b03
noncomputable def P_i_areHeld_9_0 (x0 : List T_Lease) (x1 : List Int) (x2 : Int) (x14 : List T_Lease) (x15 : Int) (x16 : Int) (x41 : List T_Lease) (x42 : Int) (x43 : Int) (b00 : Int) (b01 : Int) (b02 : Int) (b03 : Int) (nx0 : (List T_Lease) → (List Int) → Int → (List T_Lease) → Int → Int → (List T_Lease) → Int → Int → Int → Int → Int → Int → Option Ret) (k0 : (List T_Lease) → (List Int) → Int → Bool → (List T_Lease) → Int → Int → Option Ret) (k1 : (List T_Lease) → (List Int) → Int → (List T_Lease) → Int → Int → Option Ret) : Option Ret := (bif (decide (x43 < x42)) then (bif ((decide ((0 : Int) ≤ x43)) && (decide (x43 < (((List.length x41) : Nat) : Int)))) then (bif ((List.getD x41 (Int.toNat x43) (leaseR.dflt)).2.2.1 != b02) then (bif (decide ((if b00 > (List.getD x41 (Int.toNat x43) (leaseR.dflt)).1 then b00 else (List.getD x41 (Int.toNat x43) (leaseR.dflt)).1) < (if b01 < (List.getD x41 (Int.toNat x43) (leaseR.dflt)).2.1 then b01 else (List.getD x41 (Int.toNat x43) (leaseR.dflt)).2.1))) then (k0 x0 x1 x2 false x14 x15 x16) else (nx0 x0 x1 x2 x14 x15 x16 x41 x42 (IntKind.wrap .i64 (x43 + (1 : Int))) b00 b01 b02 b03)) else (nx0 x0 x1 x2 x14 x15 x16 x41 x42 (IntKind.wrap .i64 (x43 + (1 : Int))) b00 b01 b02 b03)) else none) else (k1 x0 x1 x2 x14 x15 x16))
noncomputable def Q_i_areHeld_9_0 : Nat → (List T_Lease) → (List Int) → Int → (List T_Lease) → Int → Int → (List T_Lease) → Int → Int → Int → Int → Int → Int → ((List T_Lease) → (List Int) → Int → Bool → (List T_Lease) → Int → Int → Option Ret) → ((List T_Lease) → (List Int) → Int → (List T_Lease) → Int → Int → Option Ret) → Option Ret
  | 0, _, _, _, _, _, _, _, _, _, _, _, _, _, _, _ => none
  | m + 1, x0, x1, x2, x14, x15, x16, x41, x42, x43, b00, b01, b02, b03, k0, k1 => P_i_areHeld_9_0 x0 x1 x2 x14 x15 x16 x41 x42 x43 b00 b01 b02 b03 (fun x0 x1 x2 x14 x15 x16 x41 x42 x43 b00 b01 b02 b03 => (Q_i_areHeld_9_0 m x0 x1 x2 x14 x15 x16 x41 x42 x43 b00 b01 b02 b03 k0 k1)) k0 k1
noncomputable def R_i_areHeld_9_0 (x0 : List T_Lease) (x1 : List Int) (x2 : Int) (x14 : List T_Lease) (x15 : Int) (x16 : Int) (x41 : List T_Lease) (x42 : Int) (x43 : Int) (b00 : Int) (b01 : Int) (b02 : Int) (b03 : Int) (k0 : (List T_Lease) → (List Int) → Int → Bool → (List T_Lease) → Int → Int → Option Ret) (k1 : (List T_Lease) → (List Int) → Int → (List T_Lease) → Int → Int → Option Ret) : Option Ret := Q_i_areHeld_9_0 (List.length x0 + List.length x1 + x2.toNat + List.length x14 + x15.toNat + x16.toNat + List.length x41 + x42.toNat + x43.toNat + b00.toNat + b01.toNat + b02.toNat + b03.toNat + 2) x0 x1 x2 x14 x15 x16 x41 x42 x43 b00 b01 b02 b03 k0 k1
noncomputable def W_i_areHeld_9 : LoopFn := (fun (σ : St) (K : Ex → St → Option Ret) => (match sh_i_areHeld_9_0.un σ with | some d => w_i_areHeld_9_0 d (fun x0 x1 x2 x14 x15 x16 x41 x42 x43 b00 b01 b02 b03 => R_i_areHeld_9_0 x0 x1 x2 x14 x15 x16 x41 x42 x43 b00 b01 b02 b03 (fun x0 x1 x2 x6 x14 x15 x16 => (K .ret (z_i_areHeld_9_0 x0 x1 x2 x6 x14 x15 x16))) (fun x0 x1 x2 x14 x15 x16 => (K (.ext 2) (z_i_areHeld_9_1 x0 x1 x2 x14 x15 x16)))) | none => none))
def z_i_areHeld_4_0 (x6 : Bool) : St := { tm := ([.x, .x, .x, .x, .x, .x, (.s (.bool x6))] ++ List.replicate 60 .x), ob := [], nx := 0, io := [] }
def z_i_areHeld_4_1 : St := { tm := ([] ++ List.replicate 67 .x), ob := [], nx := 0, io := [] }
def sh_i_areHeld_4_0 : Ss := { tm := (.cons (.l .no leaseR) (.cons (.l .no bytesR) (.cons (.int .i64) (.cons (.x) (.cons (.x) (.cons (.x) (.cons (.x) (.cons (.x) (.cons (.x) (.cons (.x) (.cons (.x) (.cons (.x) (.cons (.x) (.cons (.x) (.cons (.l .no leaseR) (.cons (.int .i64) (.cons (.int .i64) (xsh 50)))))))))))))))))), ob := .nil, nx := 0, io := .nil }
def d_i_areHeld_4_0 (x0 : List T_Lease) (x1 : List Int) (x2 : Int) (x14 : List T_Lease) (x15 : Int) (x16 : Int) : sh_i_areHeld_4_0.T := ((x0, (x1, (x2, ((), ((), ((), ((), ((), ((), ((), ((), ((), ((), ((), (x14, (x15, (x16, xd 50))))))))))))))))), (), ())
def s_i_areHeld_4_0 (x0 : List T_Lease) (x1 : List Int) (x2 : Int) (x14 : List T_Lease) (x15 : Int) (x16 : Int) : St := { tm := ([(.l .no leaseR x0), (.l .no bytesR x1), (.s (.int .i64 x2)), .x, .x, .x, .x, .x, .x, .x, .x, .x, .x, .x, (.l .no leaseR x14), (.s (.int .i64 x15)), (.s (.int .i64 x16))] ++ List.replicate 50 .x), ob := [], nx := 0, io := [] }
theorem se_i_areHeld_4_0 (x0 : List T_Lease) (x1 : List Int) (x2 : Int) (x14 : List T_Lease) (x15 : Int) (x16 : Int) : sh_i_areHeld_4_0.mk' (d_i_areHeld_4_0 x0 x1 x2 x14 x15 x16) = (s_i_areHeld_4_0 x0 x1 x2 x14 x15 x16) := by kernel_rfl
def w_i_areHeld_4_0 (d : sh_i_areHeld_4_0.T) (f : (List T_Lease) → (List Int) → Int → (List T_Lease) → Int → Int → Option Ret) : Option Ret := match d with | ((x0, (x1, (x2, (_, (_, (_, (_, (_, (_, (_, (_, (_, (_, (_, (x14, (x15, (x16, _))))))))))))))))), _, _) => f x0 x1 x2 x14 x15 x16
noncomputable def P_i_areHeld_4_0 (x0 : List T_Lease) (x1 : List Int) (x2 : Int) (x14 : List T_Lease) (x15 : Int) (x16 : Int) (nx0 : (List T_Lease) → (List Int) → Int → (List T_Lease) → Int → Int → Option Ret) (k0 : Bool → Option Ret) (k1 : Option Ret) : Option Ret := (bif (decide (x16 < x15)) then (bif ((decide ((0 : Int) ≤ x16)) && (decide (x16 < (((List.length x14) : Nat) : Int)))) then (bif (!(decide ((List.getD x14 (Int.toNat x16) (leaseR.dflt)).2.2.2 > x2))) then (k0 false) else (bif (fitB x1) then (bif (!(isCutD x1 (List.getD x14 (Int.toNat x16) (leaseR.dflt)).1)) then (k0 false) else (bif (fitB x1) then (bif (!(isCutD x1 (List.getD x14 (Int.toNat x16) (leaseR.dflt)).2.1)) then (k0 false) else (bif ((decide ((0 : Int) ≤ x16)) && (decide (x16 ≤ (((List.length x0) : Nat) : Int)))) then (R_i_areHeld_9_0 x0 x1 x2 x14 x15 x16 (List.take (Int.toNat x16) x0) (((List.length (List.take (Int.toNat x16) x0)) : Nat) : Int) (0 : Int) (List.getD x14 (Int.toNat x16) (leaseR.dflt)).1 (List.getD x14 (Int.toNat x16) (leaseR.dflt)).2.1 (List.getD x14 (Int.toNat x16) (leaseR.dflt)).2.2.1 (List.getD x14 (Int.toNat x16) (leaseR.dflt)).2.2.2 (fun y0 y1 y2 y3 y4 y5 y6 => (k0 y3)) (fun y7 y8 y9 y10 y11 y12 => (nx0 y7 y8 y9 y10 y11 (IntKind.wrap .i64 (y12 + (1 : Int)))))) else none)) else none)) else none)) else none) else k1)
noncomputable def Q_i_areHeld_4_0 : Nat → (List T_Lease) → (List Int) → Int → (List T_Lease) → Int → Int → (Bool → Option Ret) → (Option Ret) → Option Ret
  | 0, _, _, _, _, _, _, _, _ => none
  | m + 1, x0, x1, x2, x14, x15, x16, k0, k1 => P_i_areHeld_4_0 x0 x1 x2 x14 x15 x16 (fun x0 x1 x2 x14 x15 x16 => (Q_i_areHeld_4_0 m x0 x1 x2 x14 x15 x16 k0 k1)) k0 k1
noncomputable def R_i_areHeld_4_0 (x0 : List T_Lease) (x1 : List Int) (x2 : Int) (x14 : List T_Lease) (x15 : Int) (x16 : Int) (k0 : Bool → Option Ret) (k1 : Option Ret) : Option Ret := Q_i_areHeld_4_0 (List.length x0 + List.length x1 + x2.toNat + List.length x14 + x15.toNat + x16.toNat + 2) x0 x1 x2 x14 x15 x16 k0 k1
noncomputable def W_i_areHeld_4 : LoopFn := (fun (σ : St) (K : Ex → St → Option Ret) => (match sh_i_areHeld_4_0.un σ with | some d => w_i_areHeld_4_0 d (fun x0 x1 x2 x14 x15 x16 => R_i_areHeld_4_0 x0 x1 x2 x14 x15 x16 (fun x6 => (K .ret (z_i_areHeld_4_0 x6))) (K (.ext 0) z_i_areHeld_4_1)) | none => none))
noncomputable abbrev E_i_areHeld : Env := En [(N.i_areLeases, true, S_i_areLeases), (N.i_Lease_isActive, true, S_i_Lease_isActive), (N.i_isCut, true, S_i_isCut)] [] [(9, [0,1,2,8,14,15,16,41,42,43], [0,1,2,6,14,15,16], W_i_areHeld_9), (4, [0,1,2,14,15,16], [6], W_i_areHeld_4)] [] false 0 []
theorem st_i_areHeld_9_0 (m : Nat) (x0 : List T_Lease) (x1 : List Int) (x2 : Int) (x14 : List T_Lease) (x15 : Int) (x16 : Int) (x41 : List T_Lease) (x42 : Int) (x43 : Int) (b00 : Int) (b01 : Int) (b02 : Int) (b03 : Int) (K : Ex → St → Option Ret) : rounds (run E_i_areHeld (bodyOf F.i_areHeld 9)) [0,1,2,8,14,15,16,41,42,43] [0,1,2,6,14,15,16] (m + 1) (s_i_areHeld_9_0 x0 x1 x2 x14 x15 x16 x41 x42 x43 b00 b01 b02 b03) K = P_i_areHeld_9_0 x0 x1 x2 x14 x15 x16 x41 x42 x43 b00 b01 b02 b03 (fun x0 x1 x2 x14 x15 x16 x41 x42 x43 b00 b01 b02 b03 => (rounds (run E_i_areHeld (bodyOf F.i_areHeld 9)) [0,1,2,8,14,15,16,41,42,43] [0,1,2,6,14,15,16] m (s_i_areHeld_9_0 x0 x1 x2 x14 x15 x16 x41 x42 x43 b00 b01 b02 b03) K)) (fun x0 x1 x2 x6 x14 x15 x16 => (K .ret (z_i_areHeld_9_0 x0 x1 x2 x6 x14 x15 x16))) (fun x0 x1 x2 x14 x15 x16 => (K (.ext 2) (z_i_areHeld_9_1 x0 x1 x2 x14 x15 x16))) := by kernel_rfl
theorem q_i_areHeld_9 (K : Ex → St → Option Ret) : ∀ m : Nat, (∀ (x0 : List T_Lease) (x1 : List Int) (x2 : Int) (x14 : List T_Lease) (x15 : Int) (x16 : Int) (x41 : List T_Lease) (x42 : Int) (x43 : Int) (b00 : Int) (b01 : Int) (b02 : Int) (b03 : Int), rounds (run E_i_areHeld (bodyOf F.i_areHeld 9)) [0,1,2,8,14,15,16,41,42,43] [0,1,2,6,14,15,16] m (s_i_areHeld_9_0 x0 x1 x2 x14 x15 x16 x41 x42 x43 b00 b01 b02 b03) K = Q_i_areHeld_9_0 m x0 x1 x2 x14 x15 x16 x41 x42 x43 b00 b01 b02 b03 (fun x0 x1 x2 x6 x14 x15 x16 => (K .ret (z_i_areHeld_9_0 x0 x1 x2 x6 x14 x15 x16))) (fun x0 x1 x2 x14 x15 x16 => (K (.ext 2) (z_i_areHeld_9_1 x0 x1 x2 x14 x15 x16))))
  | 0 => (fun _ _ _ _ _ _ _ _ _ _ _ _ _ => rfl)
  | m + 1 => (fun x0 x1 x2 x14 x15 x16 x41 x42 x43 b00 b01 b02 b03 => (by rw [st_i_areHeld_9_0, show (fun x0 x1 x2 x14 x15 x16 x41 x42 x43 b00 b01 b02 b03 => (rounds (run E_i_areHeld (bodyOf F.i_areHeld 9)) [0,1,2,8,14,15,16,41,42,43] [0,1,2,6,14,15,16] m (s_i_areHeld_9_0 x0 x1 x2 x14 x15 x16 x41 x42 x43 b00 b01 b02 b03) K)) = (fun x0 x1 x2 x14 x15 x16 x41 x42 x43 b00 b01 b02 b03 => (Q_i_areHeld_9_0 m x0 x1 x2 x14 x15 x16 x41 x42 x43 b00 b01 b02 b03 (fun x0 x1 x2 x6 x14 x15 x16 => (K .ret (z_i_areHeld_9_0 x0 x1 x2 x6 x14 x15 x16))) (fun x0 x1 x2 x14 x15 x16 => (K (.ext 2) (z_i_areHeld_9_1 x0 x1 x2 x14 x15 x16))))) from funext fun x0 => funext fun x1 => funext fun x2 => funext fun x14 => funext fun x15 => funext fun x16 => funext fun x41 => funext fun x42 => funext fun x43 => funext fun b00 => funext fun b01 => funext fun b02 => funext fun b03 => (q_i_areHeld_9 K m) x0 x1 x2 x14 x15 x16 x41 x42 x43 b00 b01 b02 b03]; rfl))
theorem loopK_i_areHeld_9 : LoopOk E_i_areHeld (bodyOf F.i_areHeld 9) := by
  refine loopW_ok (n := 9) (F := W_i_areHeld_9) (by kernel_rfl) rfl (li := [0,1,2,8,14,15,16,41,42,43]) (lo := [0,1,2,6,14,15,16]) rfl (fun σ K r hr => ?_)
  unfold W_i_areHeld_9 at hr
  split at hr
  · rename_i d hd
    rw [Ss.un_mk hd]
    exact ⟨_, ((congrArg (fun z => rounds (run E_i_areHeld (bodyOf F.i_areHeld 9)) [0,1,2,8,14,15,16,41,42,43] [0,1,2,6,14,15,16] _ z K) (se_i_areHeld_9_0 _ _ _ _ _ _ _ _ _ _ _ _ _)).trans ((q_i_areHeld_9 K _) _ _ _ _ _ _ _ _ _ _ _ _ _)).trans hr⟩
  · cases hr
theorem st_i_areHeld_4_0 (m : Nat) (x0 : List T_Lease) (x1 : List Int) (x2 : Int) (x14 : List T_Lease) (x15 : Int) (x16 : Int) (K : Ex → St → Option Ret) : rounds (run E_i_areHeld (bodyOf F.i_areHeld 4)) [0,1,2,14,15,16] [6] (m + 1) (s_i_areHeld_4_0 x0 x1 x2 x14 x15 x16) K = P_i_areHeld_4_0 x0 x1 x2 x14 x15 x16 (fun x0 x1 x2 x14 x15 x16 => (rounds (run E_i_areHeld (bodyOf F.i_areHeld 4)) [0,1,2,14,15,16] [6] m (s_i_areHeld_4_0 x0 x1 x2 x14 x15 x16) K)) (fun x6 => (K .ret (z_i_areHeld_4_0 x6))) (K (.ext 0) z_i_areHeld_4_1) := by kernel_rfl
theorem q_i_areHeld_4 (K : Ex → St → Option Ret) : ∀ m : Nat, (∀ (x0 : List T_Lease) (x1 : List Int) (x2 : Int) (x14 : List T_Lease) (x15 : Int) (x16 : Int), rounds (run E_i_areHeld (bodyOf F.i_areHeld 4)) [0,1,2,14,15,16] [6] m (s_i_areHeld_4_0 x0 x1 x2 x14 x15 x16) K = Q_i_areHeld_4_0 m x0 x1 x2 x14 x15 x16 (fun x6 => (K .ret (z_i_areHeld_4_0 x6))) (K (.ext 0) z_i_areHeld_4_1))
  | 0 => (fun _ _ _ _ _ _ => rfl)
  | m + 1 => (fun x0 x1 x2 x14 x15 x16 => (by rw [st_i_areHeld_4_0, show (fun x0 x1 x2 x14 x15 x16 => (rounds (run E_i_areHeld (bodyOf F.i_areHeld 4)) [0,1,2,14,15,16] [6] m (s_i_areHeld_4_0 x0 x1 x2 x14 x15 x16) K)) = (fun x0 x1 x2 x14 x15 x16 => (Q_i_areHeld_4_0 m x0 x1 x2 x14 x15 x16 (fun x6 => (K .ret (z_i_areHeld_4_0 x6))) (K (.ext 0) z_i_areHeld_4_1))) from funext fun x0 => funext fun x1 => funext fun x2 => funext fun x14 => funext fun x15 => funext fun x16 => (q_i_areHeld_4 K m) x0 x1 x2 x14 x15 x16]; rfl))
theorem loopK_i_areHeld_4 : LoopOk E_i_areHeld (bodyOf F.i_areHeld 4) := by
  refine loopW_ok (n := 4) (F := W_i_areHeld_4) (by kernel_rfl) rfl (li := [0,1,2,14,15,16]) (lo := [6]) rfl (fun σ K r hr => ?_)
  unfold W_i_areHeld_4 at hr
  split at hr
  · rename_i d hd
    rw [Ss.un_mk hd]
    exact ⟨_, ((congrArg (fun z => rounds (run E_i_areHeld (bodyOf F.i_areHeld 4)) [0,1,2,14,15,16] [6] _ z K) (se_i_areHeld_4_0 _ _ _ _ _ _)).trans ((q_i_areHeld_4 K _) _ _ _ _ _ _)).trans hr⟩
  · cases hr
noncomputable def T_i_areHeld (l : List T_Lease) (t : List Int) (c : Int) (K : Ret → Option Ret) : Option Ret := (bif (Nat.ble (List.length l) 1048576) then (bif (!(leasesOkD l)) then K ((.s (.bool false)), []) else (R_i_areHeld_4_0 l t c l (((List.length l) : Nat) : Int) (0 : Int) (fun y13 => K ((.s (.bool y13)), [])) (K ((.s (.bool true)), [])))) else none)
theorem e_i_areHeld (l : List T_Lease) (t : List Int) (c : Int) (K : Ret → Option Ret) : evF E_i_areHeld true F.i_areHeld [.l .no leaseR l, .l .no bytesR t, .s (.int .i64 c)] K = T_i_areHeld l t c K := by kernel_rfl
def S_i_areHeld : Sm := S_fnR [.l leaseR, .l bytesR, .i] (fun d => fitC (.sl leaseR) d.1 && fitB d.2.1) (fun d => (bl (heldD d.2.1 d.2.2.1 d.1), []))
theorem v_i_areHeld (l : List T_Lease) (t : List Int) (c : Int) (h : (fitC (.sl leaseR) l && fitB t) = true) (K : Ret → Option Ret) : T_i_areHeld l t c K = K (bl (heldD t c l), []) := by
  obtain ⟨h1, h2⟩ := (Bool.and_eq_true _ _).mp h
  have hl := fitC_len h1
  unfold T_i_areHeld heldD
  rw [Nat.ble_eq_true_of_le hl]
  cases leasesOkD l
  · rfl
  have q9 : ∀ (i : Nat) (hi : i ≤ l.length) (y : T_Lease) (n : Int) (k0 : List T_Lease → List Int → Int → Bool → List T_Lease → Int → Int → Option Ret) (k1 : List T_Lease → List Int → Int → List T_Lease → Int → Int → Option Ret), R_i_areHeld_9_0 l t c l n ((i : Nat) : Int) (List.take i l) (((List.length (List.take i l)) : Nat) : Int) 0 y.1 y.2.1 y.2.2.1 y.2.2.2 k0 k1 =
      bif allN i (fun k => !(((l.getD k zeroL).2.2.1 != y.2.2.1) && meetD (l.getD k zeroL) y)) then k1 l t c l n ((i : Nat) : Int) else k0 l t c false l n ((i : Nat) : Int) := by
    intro i hi y n k0 k1
    have hlen : (List.take i l).length = i := by rw [List.length_take]; omega
    rw [hlen]
    refine Eq.trans (idx_allN (R := fun m j => Q_i_areHeld_9_0 m l t c l n ((i : Nat) : Int) (List.take i l) ((i : Nat) : Int) j y.1 y.2.1 y.2.2.1 y.2.2.2 k0 k1) (p := fun k => !(((l.getD k zeroL).2.2.1 != y.2.2.1) && meetD (l.getD k zeroL) y)) (n := i) (kt := k1 l t c l n ((i : Nat) : Int)) (kf := k0 l t c false l n ((i : Nat) : Int)) (fun m j hj => by
      show P_i_areHeld_9_0 l t c l n ((i : Nat) : Int) (List.take i l) ((i : Nat) : Int) ((j : Nat) : Int) y.1 y.2.1 y.2.2.1 y.2.2.2 _ _ _ = _
      unfold P_i_areHeld_9_0 meetD
      have eg : (List.take i l).getD j leaseR.dflt = l.getD j zeroL := by
        rw [getD_lt _ (by omega), getD_lt _ (by omega), List.getElem_take]
      rw [hlen, decide_eq_true (show ((j : Nat) : Int) < ((i : Nat) : Int) by omega), decide_eq_true (show (0 : Int) ≤ ((j : Nat) : Int) by omega), Int.toNat_natCast, wrap_nat (by omega), eg]
      generalize l.getD j zeroL = o
      rw [show (if y.1 > o.1 then y.1 else o.1) = max o.1 y.1 by split <;> omega, show (if y.2.1 < o.2.1 then y.2.1 else o.2.1) = min o.2.1 y.2.1 by split <;> omega]
      cases (o.2.2.1 != y.2.2.1) <;> cases decide (max o.1 y.1 < min o.2.1 y.2.1) <;> rfl) (fun m => by
      show P_i_areHeld_9_0 l t c l n ((i : Nat) : Int) (List.take i l) ((i : Nat) : Int) ((i : Nat) : Int) y.1 y.2.1 y.2.2.1 y.2.2.2 _ _ _ = _
      unfold P_i_areHeld_9_0
      rw [decide_eq_false (show ¬ ((i : Nat) : Int) < ((i : Nat) : Int) by omega)]; rfl) _ 0 (by omega) (by omega)) ?_
    rw [Nat.sub_zero]; rfl
  have q4 : ∀ (k0 : Bool → Option Ret) (k1 : Option Ret), R_i_areHeld_4_0 l t c l ((l.length : Nat) : Int) 0 k0 k1 = bif allN l.length (heldAtD t c l) then k1 else k0 false := by
    intro k0 k1
    refine Eq.trans (idx_allN (R := fun m i => Q_i_areHeld_4_0 m l t c l ((l.length : Nat) : Int) i k0 k1) (p := heldAtD t c l) (n := l.length) (kt := k1) (kf := k0 false) (fun m i hi => by
      show P_i_areHeld_4_0 l t c l _ ((i : Nat) : Int) _ _ _ = _
      unfold P_i_areHeld_4_0 heldAtD
      rw [decide_eq_true (show ((i : Nat) : Int) < ((l.length : Nat) : Int) by omega), decide_eq_true (show (0 : Int) ≤ ((i : Nat) : Int) by omega), Int.toNat_natCast, show l.getD i leaseR.dflt = l.getD i zeroL from rfl, h2, decide_eq_true (show ((i : Nat) : Int) ≤ ((l.length : Nat) : Int) by omega), q9 i (by omega), wrap_nat (by omega)]
      cases decide ((l.getD i zeroL).2.2.2 > c)
      · rfl
      cases isCutD t (l.getD i zeroL).1
      · rfl
      cases isCutD t (l.getD i zeroL).2.1
      · rfl
      cases allN i (fun k => !(((l.getD k zeroL).2.2.1 != (l.getD i zeroL).2.2.1) && meetD (l.getD k zeroL) (l.getD i zeroL))) <;> rfl) (fun m => by
      show P_i_areHeld_4_0 l t c l _ ((l.length : Nat) : Int) _ _ _ = _
      unfold P_i_areHeld_4_0
      rw [decide_eq_false (show ¬ ((l.length : Nat) : Int) < ((l.length : Nat) : Int) by omega)]; rfl) _ 0 (by omega) (by omega)) ?_
    rw [Nat.sub_zero]; rfl
  rw [cond_true, Bool.not_true, cond_false, q4]
  cases allN l.length (heldAtD t c l) <;> rfl
theorem okS_i_areHeld : OkFn prog I N.i_areHeld true S_i_areHeld := okN (ok_fn (memc okS_i_areLeases (memc okS_i_Lease_isActive (memc okS_i_isCut mem0))) (l := [(N.i_areLeases, true, S_i_areLeases), (N.i_Lease_isActive, true, S_i_Lease_isActive), (N.i_isCut, true, S_i_isCut)]) (p := []) (ls := [(9, [0,1,2,8,14,15,16,41,42,43], [0,1,2,6,14,15,16], W_i_areHeld_9), (4, [0,1,2,14,15,16], [6], W_i_areHeld_4)]) (lend := []) (focus := false) (fuel := 0) (give := []) (fn := F.i_areHeld) (by kernel_rfl) (by kernel_rfl) (by kernel_rfl) (by kernel_rfl) (cs := [bodyOf F.i_areHeld 4, bodyOf F.i_areHeld 9]) (by kernel_rfl) (loopsc loopK_i_areHeld_4 (loopsc loopK_i_areHeld_9 loops0))) (S_fnR_of fun d K h => (e_i_areHeld d.1 d.2.1 d.2.2.1 K).trans (v_i_areHeld d.1 d.2.1 d.2.2.1 h K))
end Go.Ev.Seat
end
section
/- i_isDoc: its contract. -/
namespace Go.Ev.Seat
open Go.RowKit
set_option maxRecDepth 100000
set_option linter.unusedVariables false
set_option linter.unusedSimpArgs false
noncomputable abbrev E_i_isDoc : Env := En [(N.i_isText, true, S_i_isText), (N.i_areCommits, true, S_i_areCommits), (N.i_isClock, true, S_i_isClock), (N.i_areMembers, true, S_i_areMembers), (N.i_areHeld, true, S_i_areHeld)] [] [] [] false 0 []
noncomputable def T_i_isDoc (d : T_Doc) (K : Ret → Option Ret) : Option Ret := (bif (fitB d.1) then (bif (textOk d.1) then (bif (fitR docR d) then (bif (commitsD d.1 d.2.1 d.2.2.1) then (bif (clockD d.2.2.2.1) then (bif ((fitC (Cc.sl memberR) d.2.2.2.2.1) && (fitB d.2.1)) then (bif (membersD d.2.1 d.2.2.2.2.1) then (bif ((fitC (Cc.sl leaseR) d.2.2.2.2.2) && (fitB d.2.1)) then K ((.s (.bool (heldD d.2.1 d.2.2.2.1 d.2.2.2.2.2))), []) else none) else K ((.s (.bool false)), [])) else none) else K ((.s (.bool false)), [])) else K ((.s (.bool false)), [])) else none) else K ((.s (.bool false)), [])) else none)
theorem e_i_isDoc (d : T_Doc) (K : Ret → Option Ret) : evF E_i_isDoc true F.i_isDoc [.a (docR.cells .no d)] K = T_i_isDoc d K := by kernel_rfl
def S_i_isDoc : Sm := S_fnR [.a docR] (fun d => fitR docR d.1) (fun d => (bl (docOkD d.1), []))
theorem v_i_isDoc (d : T_Doc) (h : (fitR docR d) = true) (K : Ret → Option Ret) : T_i_isDoc d K = K (bl (docOkD d), []) := by
  obtain ⟨h1, h2, h3, h4, h5⟩ := fit_doc h
  unfold T_i_isDoc docOkD
  rw [h, h1, h2, h4, h5]
  cases textOk d.1 <;> cases commitsD d.1 d.2.1 d.2.2.1 <;> cases clockD d.2.2.2.1 <;> cases membersD d.2.1 d.2.2.2.2.1 <;> rfl
theorem okS_i_isDoc : OkFn prog I N.i_isDoc true S_i_isDoc := okN (ok_fn (memc okS_i_isText (memc okS_i_areCommits (memc okS_i_isClock (memc okS_i_areMembers (memc okS_i_areHeld mem0))))) (l := [(N.i_isText, true, S_i_isText), (N.i_areCommits, true, S_i_areCommits), (N.i_isClock, true, S_i_isClock), (N.i_areMembers, true, S_i_areMembers), (N.i_areHeld, true, S_i_areHeld)]) (p := []) (ls := []) (lend := []) (focus := false) (fuel := 0) (give := []) (fn := F.i_isDoc) (by kernel_rfl) (by kernel_rfl) (by kernel_rfl) (by kernel_rfl) (cs := []) (by kernel_rfl) loops0) (S_fnR_of fun d K h => (e_i_isDoc d.1 K).trans (v_i_isDoc d.1 h K))
end Go.Ev.Seat
end
section
/- i_isTick: its contract. -/
namespace Go.Ev.Seat
open Go.RowKit
set_option maxRecDepth 100000
set_option linter.unusedVariables false
set_option linter.unusedSimpArgs false
noncomputable abbrev E_i_isTick : Env := En [(N.i_in, true, S_i_in)] [] [] [] false 0 []
noncomputable def T_i_isTick (k : Int) (K : Ret → Option Ret) : Option Ret := K ((.s (.bool ((decide ((1 : Int) ≤ k)) && (decide (k ≤ (1000 : Int)))))), [])
theorem e_i_isTick (k : Int) (K : Ret → Option Ret) : evF E_i_isTick true F.i_isTick [.s (.int .i64 k)] K = T_i_isTick k K := by kernel_rfl
def S_i_isTick : Sm := S_fnR [.i] (fun d => true) (fun d => (bl (decide (1 ≤ d.1) && decide (d.1 ≤ 1000)), []))
theorem v_i_isTick (k : Int) (K : Ret → Option Ret) : T_i_isTick k K = K (bl (decide (1 ≤ k) && decide (k ≤ 1000)), []) := by
  rfl
theorem okS_i_isTick : OkFn prog I N.i_isTick true S_i_isTick := okN (ok_fn (memc okS_i_in mem0) (l := [(N.i_in, true, S_i_in)]) (p := []) (ls := []) (lend := []) (focus := false) (fuel := 0) (give := []) (fn := F.i_isTick) (by kernel_rfl) (by kernel_rfl) (by kernel_rfl) (by kernel_rfl) (cs := []) (by kernel_rfl) loops0) (S_fnR_of fun d K h => (e_i_isTick d.1 K).trans (v_i_isTick d.1 K))
end Go.Ev.Seat
end
section
/- slices_Clone_Lease: its contract. -/
namespace Go.Ev.Seat
open Go.RowKit
set_option maxRecDepth 100000
set_option linter.unusedVariables false
set_option linter.unusedSimpArgs false
noncomputable abbrev E_slices_Clone_Lease : Env := En [] [] [] [] false 0 []
noncomputable def T_slices_Clone_Lease (l : List T_Lease) (K : Ret → Option Ret) : Option Ret := (bif (Nat.beq (List.length l) 0) then (meet (K ((.l .deep leaseR []), [])) ((bif (Nat.ble (((List.length ([] : List Int)) + (List.length l)) * 32) 140737488355328) then K ((.l .deep leaseR ([] ++ l)), []) else none))) else (bif (Nat.ble (((List.length ([] : List Int)) + (List.length l)) * 32) 140737488355328) then K ((.l .deep leaseR ([] ++ l)), []) else none))
theorem e_slices_Clone_Lease (l : List T_Lease) (K : Ret → Option Ret) : evF E_slices_Clone_Lease true F.slices_Clone_Lease [.l .no leaseR l] K = T_slices_Clone_Lease l K := by kernel_rfl
def S_slices_Clone_Lease : Sm := S_fnR [.l leaseR] (fun d => Nat.ble d.1.length 1048576) (fun d => (.l .deep leaseR d.1, []))
theorem v_slices_Clone_Lease (l : List T_Lease) (h : (Nat.ble l.length 1048576) = true) (K : Ret → Option Ret) : T_slices_Clone_Lease l K = K (.l .deep leaseR l, []) := by
  have h1 := Nat.le_of_ble_eq_true h
  unfold T_slices_Clone_Lease
  rw [Nat.ble_eq_true_of_le (by simp; omega)]
  cases l with
  | nil => exact meet_self _
  | cons x xs => rfl
theorem okS_slices_Clone_Lease : OkFn prog I N.slices_Clone_Lease true S_slices_Clone_Lease := okN (ok_fn mem0 (l := []) (p := []) (ls := []) (lend := []) (focus := false) (fuel := 0) (give := []) (fn := F.slices_Clone_Lease) (by kernel_rfl) (by kernel_rfl) (by kernel_rfl) (by kernel_rfl) (cs := []) (by kernel_rfl) loops0) (S_fnR_of fun d K h => (e_slices_Clone_Lease d.1 K).trans (v_slices_Clone_Lease d.1 h K))
end Go.Ev.Seat
end
section
/- i_edits: its contract. -/
namespace Go.Ev.Seat
open Go.RowKit
set_option maxRecDepth 100000
set_option linter.unusedVariables false
set_option linter.unusedSimpArgs false
def z_i_edits_3_0 (o0 : List T_Edit) : St := { tm := ([.x, .x, .x, (.w 0)] ++ List.replicate 16 .x), ob := [(0, (.arr true true editR o0))], nx := 1, io := [] }
def sh_i_edits_3_0 : Ss := { tm := (.cons (.x) (.cons (.x) (.cons (.x) (.cons (.w 0) (.cons (.x) (.cons (.x) (.cons (.x) (.cons (.l .no editR) (.cons (.int .i64) (.cons (.int .i64) (xsh 10))))))))))), ob := (.arr true true editR .nil), nx := 1, io := .nil }
def d_i_edits_3_0 (x7 : List T_Edit) (x8 : Int) (x9 : Int) (o0 : List T_Edit) : sh_i_edits_3_0.T := (((), ((), ((), ((), ((), ((), ((), (x7, (x8, (x9, xd 10)))))))))), (o0, ()), ())
def s_i_edits_3_0 (x7 : List T_Edit) (x8 : Int) (x9 : Int) (o0 : List T_Edit) : St := { tm := ([.x, .x, .x, (.w 0), .x, .x, .x, (.l .no editR x7), (.s (.int .i64 x8)), (.s (.int .i64 x9))] ++ List.replicate 10 .x), ob := [(0, (.arr true true editR o0))], nx := 1, io := [] }
theorem se_i_edits_3_0 (x7 : List T_Edit) (x8 : Int) (x9 : Int) (o0 : List T_Edit) : sh_i_edits_3_0.mk' (d_i_edits_3_0 x7 x8 x9 o0) = (s_i_edits_3_0 x7 x8 x9 o0) := by kernel_rfl
def w_i_edits_3_0 (d : sh_i_edits_3_0.T) (f : (List T_Edit) → Int → Int → (List T_Edit) → Option Ret) : Option Ret := match d with | ((_, (_, (_, (_, (_, (_, (_, (x7, (x8, (x9, _)))))))))), (o0, _), _) => f x7 x8 x9 o0
noncomputable def P_i_edits_3_0 (x7 : List T_Edit) (x8 : Int) (x9 : Int) (o0 : List T_Edit) (nx0 : (List T_Edit) → Int → Int → (List T_Edit) → Option Ret) (k0 : (List T_Edit) → Option Ret) : Option Ret := (bif (decide (x9 < x8)) then (bif ((decide ((0 : Int) ≤ x9)) && (decide (x9 < (((List.length x7) : Nat) : Int)))) then (bif (Nat.ble (List.length (List.getD x7 (Int.toNat x9) (editR.dflt)).2.2) 1048576) then (bif (Nat.ble (((List.length o0) + (List.length ((List.getD x7 (Int.toNat x9) (editR.dflt)) :: []))) * 40) 140737488355328) then (nx0 x7 x8 (IntKind.wrap .i64 (x9 + (1 : Int))) (o0 ++ ((List.getD x7 (Int.toNat x9) (editR.dflt)) :: []))) else none) else none) else none) else (k0 o0))
noncomputable def Q_i_edits_3_0 : Nat → (List T_Edit) → Int → Int → (List T_Edit) → ((List T_Edit) → Option Ret) → Option Ret
  | 0, _, _, _, _, _ => none
  | m + 1, x7, x8, x9, o0, k0 => P_i_edits_3_0 x7 x8 x9 o0 (fun x7 x8 x9 o0 => (Q_i_edits_3_0 m x7 x8 x9 o0 k0)) k0
noncomputable def R_i_edits_3_0 (x7 : List T_Edit) (x8 : Int) (x9 : Int) (o0 : List T_Edit) (k0 : (List T_Edit) → Option Ret) : Option Ret := Q_i_edits_3_0 (List.length x7 + x8.toNat + x9.toNat + List.length o0 + 2) x7 x8 x9 o0 k0
noncomputable def W_i_edits_3 : LoopFn := (fun (σ : St) (K : Ex → St → Option Ret) => (match sh_i_edits_3_0.un σ with | some d => w_i_edits_3_0 d (fun x7 x8 x9 o0 => R_i_edits_3_0 x7 x8 x9 o0 (fun o0 => (K (.ext 0) (z_i_edits_3_0 o0)))) | none => none))
noncomputable abbrev ls_i_edits : List (Nat × Bool × Sm) := [(N.i_Edit_copied, true, S_i_Edit_copied)]
noncomputable abbrev E_i_edits : Env := En ls_i_edits [] [(3, [3,7,8,9], [2,3], W_i_edits_3)] [] false 0 []
noncomputable abbrev U_i_edits_3 := rounds (run E_i_edits (bodyOf F.i_edits 3)) [3,7,8,9] [2,3]
theorem st_i_edits_3_0 (m : Nat) (x7 : List T_Edit) (x8 : Int) (x9 : Int) (o0 : List T_Edit) (K : Ex → St → Option Ret) : U_i_edits_3 (m + 1) (s_i_edits_3_0 x7 x8 x9 o0) K = P_i_edits_3_0 x7 x8 x9 o0 (fun x7 x8 x9 o0 => (U_i_edits_3 m (s_i_edits_3_0 x7 x8 x9 o0) K)) (fun o0 => (K (.ext 0) (z_i_edits_3_0 o0))) := by kernel_rfl
theorem q_i_edits_3 (K : Ex → St → Option Ret) : ∀ m : Nat, (∀ (x7 : List T_Edit) (x8 : Int) (x9 : Int) (o0 : List T_Edit), U_i_edits_3 m (s_i_edits_3_0 x7 x8 x9 o0) K = Q_i_edits_3_0 m x7 x8 x9 o0 (fun o0 => (K (.ext 0) (z_i_edits_3_0 o0))))
  | 0 => (fun _ _ _ _ => rfl)
  | m + 1 => (fun x7 x8 x9 o0 => (by rw [st_i_edits_3_0, show (fun x7 x8 x9 o0 => (U_i_edits_3 m (s_i_edits_3_0 x7 x8 x9 o0) K)) = (fun x7 x8 x9 o0 => (Q_i_edits_3_0 m x7 x8 x9 o0 (fun o0 => (K (.ext 0) (z_i_edits_3_0 o0))))) from funext fun x7 => funext fun x8 => funext fun x9 => funext fun o0 => (q_i_edits_3 K m) x7 x8 x9 o0]; rfl))
theorem loopK_i_edits_3 : LoopOk E_i_edits (bodyOf F.i_edits 3) := by
  refine loopW_ok (n := 3) (F := W_i_edits_3) (by kernel_rfl) rfl (li := [3,7,8,9]) (lo := [2,3]) rfl (fun σ K r hr => ?_)
  unfold W_i_edits_3 at hr
  split at hr
  · rename_i d hd
    rw [Ss.un_mk hd]
    exact ⟨_, ((congrArg (fun z => U_i_edits_3 _ z K) (se_i_edits_3_0 _ _ _ _)).trans ((q_i_edits_3 K _) _ _ _ _)).trans hr⟩
  · cases hr
noncomputable def T_i_edits (l : List T_Edit) (K : Ret → Option Ret) : Option Ret := (R_i_edits_3_0 l (((List.length l) : Nat) : Int) (0 : Int) [] (fun y0 => K ((.l .deep editR y0), [])))
theorem e_i_edits (l : List T_Edit) (K : Ret → Option Ret) : evF E_i_edits true F.i_edits [.l .no editR l] K = T_i_edits l K := by kernel_rfl
def S_i_edits : Sm := S_fnR [.l editR] (fun d => fitC (.sl editR) d.1) (fun d => (.l .deep editR d.1, []))
theorem v_i_edits (l : List T_Edit) (h : (fitC (.sl editR) l) = true) (K : Ret → Option Ret) : T_i_edits l K = K (.l .deep editR l, []) := by
  have hl := fitC_len h
  unfold T_i_edits
  have q : ∀ (m i : Nat), i ≤ l.length → l.length - i < m → Q_i_edits_3_0 m l ((l.length : Nat) : Int) ((i : Nat) : Int) (l.take i) (fun y0 => K ((.l .deep editR y0), [])) = K ((.l .deep editR l), []) := by
    intro m
    induction m with
    | zero => intro i _ hm; omega
    | succ m ih =>
      intro i hi hm
      show P_i_edits_3_0 l ((l.length : Nat) : Int) ((i : Nat) : Int) (l.take i) _ _ = _
      unfold P_i_edits_3_0
      by_cases hlt : i < l.length
      · have hx : fitR editR (l.getD i editR.dflt) = true := fitC_getD h rfl i
        have hx2 : (fun x : T_Edit => Nat.ble (List.length x.2.2) 1048576) (l.getD i editR.dflt) = true := (fun (x : T_Edit) (hx : fitR editR x = true) => Nat.ble_eq_true_of_le (fitB_len (fit_edit hx))) _ hx
        have ht := take_snoc editR.dflt hlt
        dsimp only at hx2
        rw [decide_eq_true (show ((i : Nat) : Int) < ((l.length : Nat) : Int) by omega), decide_eq_true (show (0 : Int) ≤ ((i : Nat) : Int) by omega), Int.toNat_natCast, wrap_nat (by omega), hx2, Nat.ble_eq_true_of_le (show ((l.take i).length + [l.getD i editR.dflt].length) * 40 ≤ 140737488355328 by simp only [List.length_take, List.length_cons, List.length_nil]; omega), ht]
        exact ih (i + 1) (by omega) (by omega)
      · obtain rfl : i = l.length := by omega
        rw [decide_eq_false (show ¬ ((l.length : Nat) : Int) < ((l.length : Nat) : Int) by omega), List.take_length]; rfl
  exact q _ 0 (by omega) (by omega)
theorem okS_i_edits : OkFn prog I N.i_edits true S_i_edits := okN (ok_fn (memc okS_i_Edit_copied mem0) (l := ls_i_edits) (p := []) (ls := [(3, [3,7,8,9], [2,3], W_i_edits_3)]) (lend := []) (focus := false) (fuel := 0) (give := []) (fn := F.i_edits) (by kernel_rfl) (by kernel_rfl) (by kernel_rfl) (by kernel_rfl) (cs := [bodyOf F.i_edits 3]) (by kernel_rfl) (loopsc loopK_i_edits_3 loops0)) (S_fnR_of fun d K h => (e_i_edits d.1 K).trans (v_i_edits d.1 h K))
end Go.Ev.Seat
end
section
/- i_Stack_copied: its contract. -/
namespace Go.Ev.Seat
open Go.RowKit
set_option maxRecDepth 100000
set_option linter.unusedVariables false
set_option linter.unusedSimpArgs false
noncomputable abbrev E_i_Stack_copied : Env := En [(N.i_edits, true, S_i_edits)] [(1, takeB [0, 1, 3, 4] (.fork (.one 2 (.fork (.one 5 (takeB [6] (.fork (.one 7 (.done)))))))), [])] [] [] false 0 []
noncomputable def T_i_Stack_copied (s : T_Stack) (K : Ret → Option Ret) : Option Ret := (bif (fitC (Cc.sl editR) s.1) then (bif (fitC (Cc.sl editR) s.2) then K ((.a [(.l .deep editR s.1), (.l .deep editR s.2)]), []) else none) else none)
theorem e_i_Stack_copied (s : T_Stack) (K : Ret → Option Ret) : evF E_i_Stack_copied true F.i_Stack_copied [.a (stackR.cells .no s)] K = T_i_Stack_copied s K := by kernel_rfl
def S_i_Stack_copied : Sm := S_fnR [.a stackR] (fun d => fitR stackR d.1) (fun d => (.a (stackR.cells .deep d.1), []))
theorem v_i_Stack_copied (s : T_Stack) (h : (fitR stackR s) = true) (K : Ret → Option Ret) : T_i_Stack_copied s K = K (.a (stackR.cells .deep s), []) := by
  have h1 : fitC (.sl editR) s.1 = true := fitR_fst h
  have h2 : fitC (.sl editR) s.2 = true := fitR_snd h
  unfold T_i_Stack_copied
  rw [h1, h2]; rfl
theorem okS_i_Stack_copied : OkFn prog I N.i_Stack_copied true S_i_Stack_copied := okN (ok_fn (memc okS_i_edits mem0) (l := [(N.i_edits, true, S_i_edits)]) (p := [(1, takeB [0, 1, 3, 4] (.fork (.one 2 (.fork (.one 5 (takeB [6] (.fork (.one 7 (.done)))))))), [])]) (ls := []) (lend := []) (focus := false) (fuel := 0) (give := []) (fn := F.i_Stack_copied) (by kernel_rfl) (by kernel_rfl) (by kernel_rfl) (by kernel_rfl) (cs := []) (by kernel_rfl) loops0) (S_fnR_of fun d K h => (e_i_Stack_copied d.1 K).trans (v_i_Stack_copied d.1 h K))
end Go.Ev.Seat
end
section
/- i_Member_copied: its contract. -/
namespace Go.Ev.Seat
open Go.RowKit
set_option maxRecDepth 100000
set_option linter.unusedVariables false
set_option linter.unusedSimpArgs false
noncomputable abbrev E_i_Member_copied : Env := En [(N.i_Stack_copied, true, S_i_Stack_copied)] [] [] [] false 0 []
noncomputable def T_i_Member_copied (m : T_Member) (K : Ret → Option Ret) : Option Ret := (bif (fitR stackR m.2.2.2) then K ((.a [(.s (.int .i64 m.1)), (.s (.int .i64 m.2.1)), (.s (.int .i64 m.2.2.1)), (.l .deep editR m.2.2.2.1), (.l .deep editR m.2.2.2.2)]), []) else none)
theorem e_i_Member_copied (m : T_Member) (K : Ret → Option Ret) : evF E_i_Member_copied true F.i_Member_copied [.a (memberR.cells .no m)] K = T_i_Member_copied m K := by kernel_rfl
def S_i_Member_copied : Sm := S_fnR [.a memberR] (fun d => fitR memberR d.1) (fun d => (.a (memberR.cells .deep d.1), []))
theorem v_i_Member_copied (m : T_Member) (h : (fitR memberR m) = true) (K : Ret → Option Ret) : T_i_Member_copied m K = K (.a (memberR.cells .deep m), []) := by
  unfold T_i_Member_copied
  rw [show fitR stackR m.2.2.2 = true from fitR_snd (fitR_snd (fitR_snd h))]; rfl
theorem okS_i_Member_copied : OkFn prog I N.i_Member_copied true S_i_Member_copied := okN (ok_fn (memc okS_i_Stack_copied mem0) (l := [(N.i_Stack_copied, true, S_i_Stack_copied)]) (p := []) (ls := []) (lend := []) (focus := false) (fuel := 0) (give := []) (fn := F.i_Member_copied) (by kernel_rfl) (by kernel_rfl) (by kernel_rfl) (by kernel_rfl) (cs := []) (by kernel_rfl) loops0) (S_fnR_of fun d K h => (e_i_Member_copied d.1 K).trans (v_i_Member_copied d.1 h K))
end Go.Ev.Seat
end
section
/- i_Doc_copied: its contract. -/
namespace Go.Ev.Seat
open Go.RowKit
set_option maxRecDepth 100000
set_option linter.unusedVariables false
set_option linter.unusedSimpArgs false
def z_i_Doc_copied_3_0 (b00 : List Int) (b01 : List Int) (b02 : List T_Commit) (b03 : Int) (b04 : List T_Member) (b05 : List T_Lease) (b13 : Int) (b23 : Int) (o3 : List Int) (o4 : List Int) (o5 : List T_Commit) (o6 : List T_Member) (o7 : List T_Lease) : St := { tm := ([.x, (.pb 0 0), (.pb 1 0), (.pb 2 0)] ++ List.replicate 51 .x), ob := [(0, (.box [(.l .no bytesR b00), (.l .no bytesR b01), (.l .no commitR b02), (.s (.int .i64 b03)), (.l .no memberR b04), (.l .no leaseR b05)])), (1, (.box [.nl, .nl, .nl, (.s (.int .i64 b13)), .nl, .nl])), (2, (.box [(.w 3), (.w 4), (.w 5), (.s (.int .i64 b23)), (.w 6), (.w 7)])), (3, (.arr true true bytesR o3)), (4, (.arr true true bytesR o4)), (5, (.arr true true commitR o5)), (6, (.arr true true memberR o6)), (7, (.arr true true leaseR o7))], nx := 8, io := [] }
def sh_i_Doc_copied_3_0 : Ss := { tm := (.cons (.x) (.cons (.pb 0 0) (.cons (.pb 1 0) (.cons (.pb 2 0) (.cons (.x) (.cons (.x) (.cons (.x) (.cons (.x) (.cons (.x) (.cons (.x) (.cons (.x) (.cons (.x) (.cons (.x) (.cons (.x) (.cons (.x) (.cons (.x) (.cons (.x) (.cons (.x) (.cons (.x) (.cons (.x) (.cons (.x) (.cons (.l .no commitR) (.cons (.int .i64) (.cons (.int .i64) (xsh 31))))))))))))))))))))))))), ob := (.box (.cons (.l .no bytesR) (.cons (.l .no bytesR) (.cons (.l .no commitR) (.cons (.int .i64) (.cons (.l .no memberR) (.cons (.l .no leaseR) .nil)))))) (.box (.cons (.nl) (.cons (.nl) (.cons (.nl) (.cons (.int .i64) (.cons (.nl) (.cons (.nl) .nil)))))) (.box (.cons (.w 3) (.cons (.w 4) (.cons (.w 5) (.cons (.int .i64) (.cons (.w 6) (.cons (.w 7) .nil)))))) (.arr true true bytesR (.arr true true bytesR (.arr true true commitR (.arr true true memberR (.arr true true leaseR .nil)))))))), nx := 8, io := .nil }
def d_i_Doc_copied_3_0 (x21 : List T_Commit) (x22 : Int) (x23 : Int) (b00 : List Int) (b01 : List Int) (b02 : List T_Commit) (b03 : Int) (b04 : List T_Member) (b05 : List T_Lease) (b13 : Int) (b23 : Int) (o3 : List Int) (o4 : List Int) (o5 : List T_Commit) (o6 : List T_Member) (o7 : List T_Lease) : sh_i_Doc_copied_3_0.T := (((), ((), ((), ((), ((), ((), ((), ((), ((), ((), ((), ((), ((), ((), ((), ((), ((), ((), ((), ((), ((), (x21, (x22, (x23, xd 31)))))))))))))))))))))))), ((b00, (b01, (b02, (b03, (b04, (b05, ())))))), (((), ((), ((), (b13, ((), ((), ())))))), (((), ((), ((), (b23, ((), ((), ())))))), (o3, (o4, (o5, (o6, (o7, ())))))))), ())
def s_i_Doc_copied_3_0 (x21 : List T_Commit) (x22 : Int) (x23 : Int) (b00 : List Int) (b01 : List Int) (b02 : List T_Commit) (b03 : Int) (b04 : List T_Member) (b05 : List T_Lease) (b13 : Int) (b23 : Int) (o3 : List Int) (o4 : List Int) (o5 : List T_Commit) (o6 : List T_Member) (o7 : List T_Lease) : St := { tm := ([.x, (.pb 0 0), (.pb 1 0), (.pb 2 0), .x, .x, .x, .x, .x, .x, .x, .x, .x, .x, .x, .x, .x, .x, .x, .x, .x, (.l .no commitR x21), (.s (.int .i64 x22)), (.s (.int .i64 x23))] ++ List.replicate 31 .x), ob := [(0, (.box [(.l .no bytesR b00), (.l .no bytesR b01), (.l .no commitR b02), (.s (.int .i64 b03)), (.l .no memberR b04), (.l .no leaseR b05)])), (1, (.box [.nl, .nl, .nl, (.s (.int .i64 b13)), .nl, .nl])), (2, (.box [(.w 3), (.w 4), (.w 5), (.s (.int .i64 b23)), (.w 6), (.w 7)])), (3, (.arr true true bytesR o3)), (4, (.arr true true bytesR o4)), (5, (.arr true true commitR o5)), (6, (.arr true true memberR o6)), (7, (.arr true true leaseR o7))], nx := 8, io := [] }
theorem se_i_Doc_copied_3_0 (x21 : List T_Commit) (x22 : Int) (x23 : Int) (b00 : List Int) (b01 : List Int) (b02 : List T_Commit) (b03 : Int) (b04 : List T_Member) (b05 : List T_Lease) (b13 : Int) (b23 : Int) (o3 : List Int) (o4 : List Int) (o5 : List T_Commit) (o6 : List T_Member) (o7 : List T_Lease) : sh_i_Doc_copied_3_0.mk' (d_i_Doc_copied_3_0 x21 x22 x23 b00 b01 b02 b03 b04 b05 b13 b23 o3 o4 o5 o6 o7) = (s_i_Doc_copied_3_0 x21 x22 x23 b00 b01 b02 b03 b04 b05 b13 b23 o3 o4 o5 o6 o7) := by kernel_rfl
def w_i_Doc_copied_3_0 (d : sh_i_Doc_copied_3_0.T) (f : (List T_Commit) → Int → Int → (List Int) → (List Int) → (List T_Commit) → Int → (List T_Member) → (List T_Lease) → Int → Int → (List Int) → (List Int) → (List T_Commit) → (List T_Member) → (List T_Lease) → Option Ret) : Option Ret := match d with | ((_, (_, (_, (_, (_, (_, (_, (_, (_, (_, (_, (_, (_, (_, (_, (_, (_, (_, (_, (_, (_, (x21, (x22, (x23, _)))))))))))))))))))))))), ((b00, (b01, (b02, (b03, (b04, (b05, _)))))), ((_, (_, (_, (b13, (_, (_, _)))))), ((_, (_, (_, (b23, (_, (_, _)))))), (o3, (o4, (o5, (o6, (o7, _)))))))), _) => f x21 x22 x23 b00 b01 b02 b03 b04 b05 b13 b23 o3 o4 o5 o6 o7
noncomputable def P_i_Doc_copied_3_0 (x21 : List T_Commit) (x22 : Int) (x23 : Int) (b00 : List Int) (b01 : List Int) (b02 : List T_Commit) (b03 : Int) (b04 : List T_Member) (b05 : List T_Lease) (b13 : Int) (b23 : Int) (o3 : List Int) (o4 : List Int) (o5 : List T_Commit) (o6 : List T_Member) (o7 : List T_Lease) (nx0 : (List T_Commit) → Int → Int → (List Int) → (List Int) → (List T_Commit) → Int → (List T_Member) → (List T_Lease) → Int → Int → (List Int) → (List Int) → (List T_Commit) → (List T_Member) → (List T_Lease) → Option Ret) (k0 : (List Int) → (List Int) → (List T_Commit) → Int → (List T_Member) → (List T_Lease) → Int → Int → (List Int) → (List Int) → (List T_Commit) → (List T_Member) → (List T_Lease) → Option Ret) : Option Ret := (bif (decide (x23 < x22)) then (bif ((decide ((0 : Int) ≤ x23)) && (decide (x23 < (((List.length x21) : Nat) : Int)))) then (bif (Nat.ble (List.length (List.getD x21 (Int.toNat x23) (commitR.dflt)).2.2.2) 1048576) then (bif (Nat.ble (((List.length o5) + (List.length ((List.getD x21 (Int.toNat x23) (commitR.dflt)) :: []))) * 48) 140737488355328) then (nx0 x21 x22 (IntKind.wrap .i64 (x23 + (1 : Int))) b00 b01 b02 b03 b04 b05 b13 b23 o3 o4 (o5 ++ ((List.getD x21 (Int.toNat x23) (commitR.dflt)) :: [])) o6 o7) else none) else none) else none) else (k0 b00 b01 b02 b03 b04 b05 b13 b23 o3 o4 o5 o6 o7))
noncomputable def Q_i_Doc_copied_3_0 : Nat → (List T_Commit) → Int → Int → (List Int) → (List Int) → (List T_Commit) → Int → (List T_Member) → (List T_Lease) → Int → Int → (List Int) → (List Int) → (List T_Commit) → (List T_Member) → (List T_Lease) → ((List Int) → (List Int) → (List T_Commit) → Int → (List T_Member) → (List T_Lease) → Int → Int → (List Int) → (List Int) → (List T_Commit) → (List T_Member) → (List T_Lease) → Option Ret) → Option Ret
  | 0, _, _, _, _, _, _, _, _, _, _, _, _, _, _, _, _, _ => none
  | m + 1, x21, x22, x23, b00, b01, b02, b03, b04, b05, b13, b23, o3, o4, o5, o6, o7, k0 => P_i_Doc_copied_3_0 x21 x22 x23 b00 b01 b02 b03 b04 b05 b13 b23 o3 o4 o5 o6 o7 (fun x21 x22 x23 b00 b01 b02 b03 b04 b05 b13 b23 o3 o4 o5 o6 o7 => (Q_i_Doc_copied_3_0 m x21 x22 x23 b00 b01 b02 b03 b04 b05 b13 b23 o3 o4 o5 o6 o7 k0)) k0
noncomputable def R_i_Doc_copied_3_0 (x21 : List T_Commit) (x22 : Int) (x23 : Int) (b00 : List Int) (b01 : List Int) (b02 : List T_Commit) (b03 : Int) (b04 : List T_Member) (b05 : List T_Lease) (b13 : Int) (b23 : Int) (o3 : List Int) (o4 : List Int) (o5 : List T_Commit) (o6 : List T_Member) (o7 : List T_Lease) (k0 : (List Int) → (List Int) → (List T_Commit) → Int → (List T_Member) → (List T_Lease) → Int → Int → (List Int) → (List Int) → (List T_Commit) → (List T_Member) → (List T_Lease) → Option Ret) : Option Ret := Q_i_Doc_copied_3_0 (List.length x21 + x22.toNat + x23.toNat + List.length b00 + List.length b01 + List.length b02 + b03.toNat + List.length b04 + List.length b05 + b13.toNat + b23.toNat + List.length o3 + List.length o4 + List.length o5 + List.length o6 + List.length o7 + 2) x21 x22 x23 b00 b01 b02 b03 b04 b05 b13 b23 o3 o4 o5 o6 o7 k0
noncomputable def W_i_Doc_copied_3 : LoopFn := (fun (σ : St) (K : Ex → St → Option Ret) => (match sh_i_Doc_copied_3_0.un σ with | some d => w_i_Doc_copied_3_0 d (fun x21 x22 x23 b00 b01 b02 b03 b04 b05 b13 b23 o3 o4 o5 o6 o7 => R_i_Doc_copied_3_0 x21 x22 x23 b00 b01 b02 b03 b04 b05 b13 b23 o3 o4 o5 o6 o7 (fun b00 b01 b02 b03 b04 b05 b13 b23 o3 o4 o5 o6 o7 => (K (.ext 0) (z_i_Doc_copied_3_0 b00 b01 b02 b03 b04 b05 b13 b23 o3 o4 o5 o6 o7)))) | none => none))
def z_i_Doc_copied_8_0 (b03 : Int) (b13 : Int) (o2 : List Int) (o3 : List Int) (o4 : List T_Commit) (o5 : List T_Member) (o6 : List T_Lease) : St := { tm := ([.x, .x, (.pb 0 0), (.pb 1 0)] ++ List.replicate 51 .x), ob := [(0, (.box [.nl, .nl, .nl, (.s (.int .i64 b03)), .nl, .nl])), (1, (.box [(.w 2), (.w 3), (.w 4), (.s (.int .i64 b13)), (.w 5), (.w 6)])), (2, (.arr true true bytesR o2)), (3, (.arr true true bytesR o3)), (4, (.arr true true commitR o4)), (5, (.arr true true memberR o5)), (6, (.arr true true leaseR o6))], nx := 7, io := [] }
def sh_i_Doc_copied_8_0 : Ss := { tm := (.cons (.x) (.cons (.x) (.cons (.pb 0 0) (.cons (.pb 1 0) (.cons (.x) (.cons (.x) (.cons (.x) (.cons (.x) (.cons (.x) (.cons (.x) (.cons (.x) (.cons (.x) (.cons (.x) (.cons (.x) (.cons (.x) (.cons (.x) (.cons (.x) (.cons (.x) (.cons (.x) (.cons (.x) (.cons (.x) (.cons (.x) (.cons (.x) (.cons (.x) (.cons (.x) (.cons (.x) (.cons (.x) (.cons (.x) (.cons (.x) (.cons (.x) (.cons (.x) (.cons (.x) (.cons (.x) (.cons (.x) (.cons (.x) (.cons (.x) (.cons (.x) (.cons (.x) (.cons (.x) (.cons (.x) (.cons (.l .no memberR) (.cons (.int .i64) (.cons (.int .i64) (xsh 12)))))))))))))))))))))))))))))))))))))))))))), ob := (.box (.cons (.nl) (.cons (.nl) (.cons (.nl) (.cons (.int .i64) (.cons (.nl) (.cons (.nl) .nil)))))) (.box (.cons (.w 2) (.cons (.w 3) (.cons (.w 4) (.cons (.int .i64) (.cons (.w 5) (.cons (.w 6) .nil)))))) (.arr true true bytesR (.arr true true bytesR (.arr true true commitR (.arr true true memberR (.arr true true leaseR .nil))))))), nx := 7, io := .nil }
def d_i_Doc_copied_8_0 (x40 : List T_Member) (x41 : Int) (x42 : Int) (b03 : Int) (b13 : Int) (o2 : List Int) (o3 : List Int) (o4 : List T_Commit) (o5 : List T_Member) (o6 : List T_Lease) : sh_i_Doc_copied_8_0.T := (((), ((), ((), ((), ((), ((), ((), ((), ((), ((), ((), ((), ((), ((), ((), ((), ((), ((), ((), ((), ((), ((), ((), ((), ((), ((), ((), ((), ((), ((), ((), ((), ((), ((), ((), ((), ((), ((), ((), ((), (x40, (x41, (x42, xd 12))))))))))))))))))))))))))))))))))))))))))), (((), ((), ((), (b03, ((), ((), ())))))), (((), ((), ((), (b13, ((), ((), ())))))), (o2, (o3, (o4, (o5, (o6, ()))))))), ())
def s_i_Doc_copied_8_0 (x40 : List T_Member) (x41 : Int) (x42 : Int) (b03 : Int) (b13 : Int) (o2 : List Int) (o3 : List Int) (o4 : List T_Commit) (o5 : List T_Member) (o6 : List T_Lease) : St := { tm := ([.x, .x, (.pb 0 0), (.pb 1 0), .x, .x, .x, .x, .x, .x, .x, .x, .x, .x, .x, .x, .x, .x, .x, .x, .x, .x, .x, .x, .x, .x, .x, .x, .x, .x, .x, .x, .x, .x, .x, .x, .x, .x, .x, .x, (.l .no memberR x40), (.s (.int .i64 x41)), (.s (.int .i64 x42))] ++ List.replicate 12 .x), ob := [(0, (.box [.nl, .nl, .nl, (.s (.int .i64 b03)), .nl, .nl])), (1, (.box [(.w 2), (.w 3), (.w 4), (.s (.int .i64 b13)), (.w 5), (.w 6)])), (2, (.arr true true bytesR o2)), (3, (.arr true true bytesR o3)), (4, (.arr true true commitR o4)), (5, (.arr true true memberR o5)), (6, (.arr true true leaseR o6))], nx := 7, io := [] }
theorem se_i_Doc_copied_8_0 (x40 : List T_Member) (x41 : Int) (x42 : Int) (b03 : Int) (b13 : Int) (o2 : List Int) (o3 : List Int) (o4 : List T_Commit) (o5 : List T_Member) (o6 : List T_Lease) : sh_i_Doc_copied_8_0.mk' (d_i_Doc_copied_8_0 x40 x41 x42 b03 b13 o2 o3 o4 o5 o6) = (s_i_Doc_copied_8_0 x40 x41 x42 b03 b13 o2 o3 o4 o5 o6) := by kernel_rfl
def w_i_Doc_copied_8_0 (d : sh_i_Doc_copied_8_0.T) (f : (List T_Member) → Int → Int → Int → Int → (List Int) → (List Int) → (List T_Commit) → (List T_Member) → (List T_Lease) → Option Ret) : Option Ret := match d with | ((_, (_, (_, (_, (_, (_, (_, (_, (_, (_, (_, (_, (_, (_, (_, (_, (_, (_, (_, (_, (_, (_, (_, (_, (_, (_, (_, (_, (_, (_, (_, (_, (_, (_, (_, (_, (_, (_, (_, (_, (x40, (x41, (x42, _))))))))))))))))))))))))))))))))))))))))))), ((_, (_, (_, (b03, (_, (_, _)))))), ((_, (_, (_, (b13, (_, (_, _)))))), (o2, (o3, (o4, (o5, (o6, _))))))), _) => f x40 x41 x42 b03 b13 o2 o3 o4 o5 o6
noncomputable def P_i_Doc_copied_8_0 (x40 : List T_Member) (x41 : Int) (x42 : Int) (b03 : Int) (b13 : Int) (o2 : List Int) (o3 : List Int) (o4 : List T_Commit) (o5 : List T_Member) (o6 : List T_Lease) (nx0 : (List T_Member) → Int → Int → Int → Int → (List Int) → (List Int) → (List T_Commit) → (List T_Member) → (List T_Lease) → Option Ret) (k0 : Int → Int → (List Int) → (List Int) → (List T_Commit) → (List T_Member) → (List T_Lease) → Option Ret) : Option Ret := (bif (decide (x42 < x41)) then (bif ((decide ((0 : Int) ≤ x42)) && (decide (x42 < (((List.length x40) : Nat) : Int)))) then (bif (fitR memberR (List.getD x40 (Int.toNat x42) (memberR.dflt))) then (bif (Nat.ble (((List.length o5) + (List.length ((List.getD x40 (Int.toNat x42) (memberR.dflt)) :: []))) * 72) 140737488355328) then (nx0 x40 x41 (IntKind.wrap .i64 (x42 + (1 : Int))) b03 b13 o2 o3 o4 (o5 ++ ((List.getD x40 (Int.toNat x42) (memberR.dflt)) :: [])) o6) else none) else none) else none) else (k0 b03 b13 o2 o3 o4 o5 o6))
noncomputable def Q_i_Doc_copied_8_0 : Nat → (List T_Member) → Int → Int → Int → Int → (List Int) → (List Int) → (List T_Commit) → (List T_Member) → (List T_Lease) → (Int → Int → (List Int) → (List Int) → (List T_Commit) → (List T_Member) → (List T_Lease) → Option Ret) → Option Ret
  | 0, _, _, _, _, _, _, _, _, _, _, _ => none
  | m + 1, x40, x41, x42, b03, b13, o2, o3, o4, o5, o6, k0 => P_i_Doc_copied_8_0 x40 x41 x42 b03 b13 o2 o3 o4 o5 o6 (fun x40 x41 x42 b03 b13 o2 o3 o4 o5 o6 => (Q_i_Doc_copied_8_0 m x40 x41 x42 b03 b13 o2 o3 o4 o5 o6 k0)) k0
noncomputable def R_i_Doc_copied_8_0 (x40 : List T_Member) (x41 : Int) (x42 : Int) (b03 : Int) (b13 : Int) (o2 : List Int) (o3 : List Int) (o4 : List T_Commit) (o5 : List T_Member) (o6 : List T_Lease) (k0 : Int → Int → (List Int) → (List Int) → (List T_Commit) → (List T_Member) → (List T_Lease) → Option Ret) : Option Ret := Q_i_Doc_copied_8_0 (List.length x40 + x41.toNat + x42.toNat + b03.toNat + b13.toNat + List.length o2 + List.length o3 + List.length o4 + List.length o5 + List.length o6 + 2) x40 x41 x42 b03 b13 o2 o3 o4 o5 o6 k0
noncomputable def W_i_Doc_copied_8 : LoopFn := (fun (σ : St) (K : Ex → St → Option Ret) => (match sh_i_Doc_copied_8_0.un σ with | some d => w_i_Doc_copied_8_0 d (fun x40 x41 x42 b03 b13 o2 o3 o4 o5 o6 => R_i_Doc_copied_8_0 x40 x41 x42 b03 b13 o2 o3 o4 o5 o6 (fun b03 b13 o2 o3 o4 o5 o6 => (K (.ext 2) (z_i_Doc_copied_8_0 b03 b13 o2 o3 o4 o5 o6)))) | none => none))
noncomputable abbrev pl_i_Doc_copied : List (Nat × Plan × List Nat) := [(1, takeB [0, 1, 3, 4, 6, 7, 8, 9] (.fork (.more 2 (.fork (.more 5 (.fork (.more 10 (takeB [11] (.fork (.one 12 (.fork (.one 13 (.done)))))) (.one 12 (.fork (.one 10 (takeB [11] (.fork (.one 13 (.done))))))))) (.one 12 (.fork (.one 5 (.fork (.one 10 (takeB [11] (.fork (.one 13 (.done))))))))))) (.one 12 (.fork (.one 2 (.fork (.one 5 (.fork (.one 10 (takeB [11] (.fork (.one 13 (.done))))))))))))), []), (5, takeB [0, 1, 2, 3, 4, 5] (.fork (.one 6 (takeB [7] (.fork (.one 8 (.fork (.one 9 (takeB [10] (.fork (.one 11 (.done))))))))))), [100003]), (10, takeB [0, 1, 2] (.fork (.one 3 (.fork (.one 4 (.fork (.one 5 (takeB [6] (.fork (.one 7 (.done)))))))))), [100003])]
noncomputable abbrev ls_i_Doc_copied : List (Nat × Bool × Sm) := [(N.slices_Clone_bytes_byte, true, S_slices_Clone_bytes_byte), (N.slices_Clone_Lease, true, S_slices_Clone_Lease), (N.i_Edit_copied, true, S_i_Edit_copied), (N.i_Member_copied, true, S_i_Member_copied)]
noncomputable abbrev E_i_Doc_copied : Env := En ls_i_Doc_copied pl_i_Doc_copied [(3, [1,2,3,21,22,23], [1,2,3], W_i_Doc_copied_3), (8, [2,3,40,41,42], [2,3], W_i_Doc_copied_8)] [] false 0 [] [(3, [(3, 2, commitR), (3, 4, memberR)])]
noncomputable abbrev U_i_Doc_copied_3 := rounds (run E_i_Doc_copied (bodyOf F.i_Doc_copied 3)) [1,2,3,21,22,23] [1,2,3]
theorem st_i_Doc_copied_3_0 (m : Nat) (x21 : List T_Commit) (x22 : Int) (x23 : Int) (b00 : List Int) (b01 : List Int) (b02 : List T_Commit) (b03 : Int) (b04 : List T_Member) (b05 : List T_Lease) (b13 : Int) (b23 : Int) (o3 : List Int) (o4 : List Int) (o5 : List T_Commit) (o6 : List T_Member) (o7 : List T_Lease) (K : Ex → St → Option Ret) : U_i_Doc_copied_3 (m + 1) (s_i_Doc_copied_3_0 x21 x22 x23 b00 b01 b02 b03 b04 b05 b13 b23 o3 o4 o5 o6 o7) K = P_i_Doc_copied_3_0 x21 x22 x23 b00 b01 b02 b03 b04 b05 b13 b23 o3 o4 o5 o6 o7 (fun x21 x22 x23 b00 b01 b02 b03 b04 b05 b13 b23 o3 o4 o5 o6 o7 => (U_i_Doc_copied_3 m (s_i_Doc_copied_3_0 x21 x22 x23 b00 b01 b02 b03 b04 b05 b13 b23 o3 o4 o5 o6 o7) K)) (fun b00 b01 b02 b03 b04 b05 b13 b23 o3 o4 o5 o6 o7 => (K (.ext 0) (z_i_Doc_copied_3_0 b00 b01 b02 b03 b04 b05 b13 b23 o3 o4 o5 o6 o7))) := by kernel_rfl
theorem q_i_Doc_copied_3 (K : Ex → St → Option Ret) : ∀ m : Nat, (∀ (x21 : List T_Commit) (x22 : Int) (x23 : Int) (b00 : List Int) (b01 : List Int) (b02 : List T_Commit) (b03 : Int) (b04 : List T_Member) (b05 : List T_Lease) (b13 : Int) (b23 : Int) (o3 : List Int) (o4 : List Int) (o5 : List T_Commit) (o6 : List T_Member) (o7 : List T_Lease), U_i_Doc_copied_3 m (s_i_Doc_copied_3_0 x21 x22 x23 b00 b01 b02 b03 b04 b05 b13 b23 o3 o4 o5 o6 o7) K = Q_i_Doc_copied_3_0 m x21 x22 x23 b00 b01 b02 b03 b04 b05 b13 b23 o3 o4 o5 o6 o7 (fun b00 b01 b02 b03 b04 b05 b13 b23 o3 o4 o5 o6 o7 => (K (.ext 0) (z_i_Doc_copied_3_0 b00 b01 b02 b03 b04 b05 b13 b23 o3 o4 o5 o6 o7))))
  | 0 => (fun _ _ _ _ _ _ _ _ _ _ _ _ _ _ _ _ => rfl)
  | m + 1 => (fun x21 x22 x23 b00 b01 b02 b03 b04 b05 b13 b23 o3 o4 o5 o6 o7 => (by rw [st_i_Doc_copied_3_0, show (fun x21 x22 x23 b00 b01 b02 b03 b04 b05 b13 b23 o3 o4 o5 o6 o7 => (U_i_Doc_copied_3 m (s_i_Doc_copied_3_0 x21 x22 x23 b00 b01 b02 b03 b04 b05 b13 b23 o3 o4 o5 o6 o7) K)) = (fun x21 x22 x23 b00 b01 b02 b03 b04 b05 b13 b23 o3 o4 o5 o6 o7 => (Q_i_Doc_copied_3_0 m x21 x22 x23 b00 b01 b02 b03 b04 b05 b13 b23 o3 o4 o5 o6 o7 (fun b00 b01 b02 b03 b04 b05 b13 b23 o3 o4 o5 o6 o7 => (K (.ext 0) (z_i_Doc_copied_3_0 b00 b01 b02 b03 b04 b05 b13 b23 o3 o4 o5 o6 o7))))) from funext fun x21 => funext fun x22 => funext fun x23 => funext fun b00 => funext fun b01 => funext fun b02 => funext fun b03 => funext fun b04 => funext fun b05 => funext fun b13 => funext fun b23 => funext fun o3 => funext fun o4 => funext fun o5 => funext fun o6 => funext fun o7 => (q_i_Doc_copied_3 K m) x21 x22 x23 b00 b01 b02 b03 b04 b05 b13 b23 o3 o4 o5 o6 o7]; rfl))
theorem loopK_i_Doc_copied_3 : LoopOk E_i_Doc_copied (bodyOf F.i_Doc_copied 3) := by
  refine loopW_ok (n := 3) (F := W_i_Doc_copied_3) (by kernel_rfl) rfl (li := [1,2,3,21,22,23]) (lo := [1,2,3]) rfl (fun σ K r hr => ?_)
  unfold W_i_Doc_copied_3 at hr
  split at hr
  · rename_i d hd
    rw [Ss.un_mk hd]
    exact ⟨_, ((congrArg (fun z => U_i_Doc_copied_3 _ z K) (se_i_Doc_copied_3_0 _ _ _ _ _ _ _ _ _ _ _ _ _ _ _ _)).trans ((q_i_Doc_copied_3 K _) _ _ _ _ _ _ _ _ _ _ _ _ _ _ _ _)).trans hr⟩
  · cases hr
noncomputable abbrev U_i_Doc_copied_8 := rounds (run E_i_Doc_copied (bodyOf F.i_Doc_copied 8)) [2,3,40,41,42] [2,3]
theorem st_i_Doc_copied_8_0 (m : Nat) (x40 : List T_Member) (x41 : Int) (x42 : Int) (b03 : Int) (b13 : Int) (o2 : List Int) (o3 : List Int) (o4 : List T_Commit) (o5 : List T_Member) (o6 : List T_Lease) (K : Ex → St → Option Ret) : U_i_Doc_copied_8 (m + 1) (s_i_Doc_copied_8_0 x40 x41 x42 b03 b13 o2 o3 o4 o5 o6) K = P_i_Doc_copied_8_0 x40 x41 x42 b03 b13 o2 o3 o4 o5 o6 (fun x40 x41 x42 b03 b13 o2 o3 o4 o5 o6 => (U_i_Doc_copied_8 m (s_i_Doc_copied_8_0 x40 x41 x42 b03 b13 o2 o3 o4 o5 o6) K)) (fun b03 b13 o2 o3 o4 o5 o6 => (K (.ext 2) (z_i_Doc_copied_8_0 b03 b13 o2 o3 o4 o5 o6))) := by kernel_rfl
theorem q_i_Doc_copied_8 (K : Ex → St → Option Ret) : ∀ m : Nat, (∀ (x40 : List T_Member) (x41 : Int) (x42 : Int) (b03 : Int) (b13 : Int) (o2 : List Int) (o3 : List Int) (o4 : List T_Commit) (o5 : List T_Member) (o6 : List T_Lease), U_i_Doc_copied_8 m (s_i_Doc_copied_8_0 x40 x41 x42 b03 b13 o2 o3 o4 o5 o6) K = Q_i_Doc_copied_8_0 m x40 x41 x42 b03 b13 o2 o3 o4 o5 o6 (fun b03 b13 o2 o3 o4 o5 o6 => (K (.ext 2) (z_i_Doc_copied_8_0 b03 b13 o2 o3 o4 o5 o6))))
  | 0 => (fun _ _ _ _ _ _ _ _ _ _ => rfl)
  | m + 1 => (fun x40 x41 x42 b03 b13 o2 o3 o4 o5 o6 => (by rw [st_i_Doc_copied_8_0, show (fun x40 x41 x42 b03 b13 o2 o3 o4 o5 o6 => (U_i_Doc_copied_8 m (s_i_Doc_copied_8_0 x40 x41 x42 b03 b13 o2 o3 o4 o5 o6) K)) = (fun x40 x41 x42 b03 b13 o2 o3 o4 o5 o6 => (Q_i_Doc_copied_8_0 m x40 x41 x42 b03 b13 o2 o3 o4 o5 o6 (fun b03 b13 o2 o3 o4 o5 o6 => (K (.ext 2) (z_i_Doc_copied_8_0 b03 b13 o2 o3 o4 o5 o6))))) from funext fun x40 => funext fun x41 => funext fun x42 => funext fun b03 => funext fun b13 => funext fun o2 => funext fun o3 => funext fun o4 => funext fun o5 => funext fun o6 => (q_i_Doc_copied_8 K m) x40 x41 x42 b03 b13 o2 o3 o4 o5 o6]; rfl))
theorem loopK_i_Doc_copied_8 : LoopOk E_i_Doc_copied (bodyOf F.i_Doc_copied 8) := by
  refine loopW_ok (n := 8) (F := W_i_Doc_copied_8) (by kernel_rfl) rfl (li := [2,3,40,41,42]) (lo := [2,3]) rfl (fun σ K r hr => ?_)
  unfold W_i_Doc_copied_8 at hr
  split at hr
  · rename_i d hd
    rw [Ss.un_mk hd]
    exact ⟨_, ((congrArg (fun z => U_i_Doc_copied_8 _ z K) (se_i_Doc_copied_8_0 _ _ _ _ _ _ _ _ _ _)).trans ((q_i_Doc_copied_8 K _) _ _ _ _ _ _ _ _ _ _)).trans hr⟩
  · cases hr
noncomputable def T_i_Doc_copied (d : T_Doc) (K : Ret → Option Ret) : Option Ret := (meet ((bif (Cc.lim (Cc.sl bytesR) d.1) then (meet ((bif (Cc.lim (Cc.sl bytesR) d.2.1) then (meet ((bif (Nat.ble (List.length d.2.2.2.2.2) 1048576) then (R_i_Doc_copied_3_0 d.2.2.1 (((List.length d.2.2.1) : Nat) : Int) (0 : Int) d.1 d.2.1 d.2.2.1 d.2.2.2.1 d.2.2.2.2.1 d.2.2.2.2.2 (0 : Int) d.2.2.2.1 d.1 d.2.1 [] [] d.2.2.2.2.2 (fun y0 y1 y2 y3 y4 y5 y6 y7 y8 y9 y10 y11 y12 => (R_i_Doc_copied_8_0 y4 (((List.length y4) : Nat) : Int) (0 : Int) y6 y7 y8 y9 y10 y11 y12 (fun y13 y14 y15 y16 y17 y18 y19 => K ((.a [(.l .deep bytesR y15), (.l .deep bytesR y16), (.l .deep commitR y17), (.s (.int .i64 y14)), (.l .deep memberR y18), (.l .deep leaseR y19)]), []))))) else none)) ((bif (Nat.ble (List.length d.2.2.2.2.2) 1048576) then (R_i_Doc_copied_3_0 d.2.2.1 (((List.length d.2.2.1) : Nat) : Int) (0 : Int) d.1 d.2.1 d.2.2.1 d.2.2.2.1 d.2.2.2.2.1 d.2.2.2.2.2 (0 : Int) d.2.2.2.1 d.1 d.2.1 [] [] d.2.2.2.2.2 (fun y20 y21 y22 y23 y24 y25 y26 y27 y28 y29 y30 y31 y32 => (R_i_Doc_copied_8_0 y24 (((List.length y24) : Nat) : Int) (0 : Int) y26 y27 y28 y29 y30 y31 y32 (fun y33 y34 y35 y36 y37 y38 y39 => K ((.a [(.l .deep bytesR y35), (.l .deep bytesR y36), (.l .deep commitR y37), (.s (.int .i64 y34)), (.l .deep memberR y38), (.l .deep leaseR y39)]), []))))) else none))) else none)) ((bif (Cc.lim (Cc.sl bytesR) d.2.1) then (bif (Nat.ble (List.length d.2.2.2.2.2) 1048576) then (R_i_Doc_copied_3_0 d.2.2.1 (((List.length d.2.2.1) : Nat) : Int) (0 : Int) d.1 d.2.1 d.2.2.1 d.2.2.2.1 d.2.2.2.2.1 d.2.2.2.2.2 (0 : Int) d.2.2.2.1 d.1 d.2.1 [] [] d.2.2.2.2.2 (fun y40 y41 y42 y43 y44 y45 y46 y47 y48 y49 y50 y51 y52 => (R_i_Doc_copied_8_0 y44 (((List.length y44) : Nat) : Int) (0 : Int) y46 y47 y48 y49 y50 y51 y52 (fun y53 y54 y55 y56 y57 y58 y59 => K ((.a [(.l .deep bytesR y55), (.l .deep bytesR y56), (.l .deep commitR y57), (.s (.int .i64 y54)), (.l .deep memberR y58), (.l .deep leaseR y59)]), []))))) else none) else none))) else none)) ((bif (Cc.lim (Cc.sl bytesR) d.1) then (bif (Cc.lim (Cc.sl bytesR) d.2.1) then (bif (Nat.ble (List.length d.2.2.2.2.2) 1048576) then (R_i_Doc_copied_3_0 d.2.2.1 (((List.length d.2.2.1) : Nat) : Int) (0 : Int) d.1 d.2.1 d.2.2.1 d.2.2.2.1 d.2.2.2.2.1 d.2.2.2.2.2 (0 : Int) d.2.2.2.1 d.1 d.2.1 [] [] d.2.2.2.2.2 (fun y60 y61 y62 y63 y64 y65 y66 y67 y68 y69 y70 y71 y72 => (R_i_Doc_copied_8_0 y64 (((List.length y64) : Nat) : Int) (0 : Int) y66 y67 y68 y69 y70 y71 y72 (fun y73 y74 y75 y76 y77 y78 y79 => K ((.a [(.l .deep bytesR y75), (.l .deep bytesR y76), (.l .deep commitR y77), (.s (.int .i64 y74)), (.l .deep memberR y78), (.l .deep leaseR y79)]), []))))) else none) else none) else none)))
theorem e_i_Doc_copied (d : T_Doc) (K : Ret → Option Ret) : evF E_i_Doc_copied true F.i_Doc_copied [.a (docR.cells .no d)] K = T_i_Doc_copied d K := by kernel_rfl
def S_i_Doc_copied : Sm := S_fnR [.a docR] (fun d => fitR docR d.1) (fun d => (.a (docR.cells .deep d.1), []))
theorem v_i_Doc_copied (d : T_Doc) (h : (fitR docR d) = true) (K : Ret → Option Ret) : T_i_Doc_copied d K = K (.a (docR.cells .deep d), []) := by
  obtain ⟨h1, h2, h3, h4, h5⟩ := fit_doc h
  obtain ⟨st, tx, lg, ck, mb, ls⟩ := d
  have n3 : lg.length ≤ 1048576 := fitC_len h3
  have n4 : mb.length ≤ 1048576 := fitC_len h4
  have n5 : ls.length ≤ 1048576 := fitC_len h5
  have n1 := fitB_len h1
  have n2 := fitB_len h2
  dsimp only at n1 n2
  have q3 : ∀ (p q : Int) (o3 o4 : List Int) (o6 : List T_Member) (o7 : List T_Lease) (k0 : (List Int) → (List Int) → (List T_Commit) → Int → (List T_Member) → (List T_Lease) → Int → Int → (List Int) → (List Int) → (List T_Commit) → (List T_Member) → (List T_Lease) → Option Ret), R_i_Doc_copied_3_0 lg ((lg.length : Nat) : Int) 0 st tx lg ck mb ls p q o3 o4 [] o6 o7 k0 = k0 st tx lg ck mb ls p q o3 o4 lg o6 o7 := fun p q o3 o4 o6 o7 k0 =>
    idx_copy (R := fun m i o => Q_i_Doc_copied_3_0 m lg ((lg.length : Nat) : Int) i st tx lg ck mb ls p q o3 o4 o o6 o7 k0) commitR.dflt (fun m i hi => by
      show P_i_Doc_copied_3_0 lg ((lg.length : Nat) : Int) ((i : Nat) : Int) st tx lg ck mb ls p q o3 o4 (lg.take i) o6 o7 _ _ = _
      unfold P_i_Doc_copied_3_0
      have hx : fitB (lg.getD i commitR.dflt).2.2.2 = true := fit_commit (fitC_getD h3 rfl i)
      rw [decide_eq_true (show ((i : Nat) : Int) < ((lg.length : Nat) : Int) by omega), decide_eq_true (show (0 : Int) ≤ ((i : Nat) : Int) by omega), Int.toNat_natCast, wrap_nat (by omega), Nat.ble_eq_true_of_le (fitB_len hx), Nat.ble_eq_true_of_le (by simp only [List.length_take, List.length_cons, List.length_nil]; omega)]
      rfl) (fun m => by
      show P_i_Doc_copied_3_0 lg ((lg.length : Nat) : Int) ((lg.length : Nat) : Int) st tx lg ck mb ls p q o3 o4 lg o6 o7 _ _ = _
      unfold P_i_Doc_copied_3_0
      rw [decide_eq_false (show ¬ ((lg.length : Nat) : Int) < ((lg.length : Nat) : Int) by omega)]; rfl) _ 0 (by omega) (by omega)
  have q7 : ∀ (p q : Int) (o3 o4 : List Int) (o5 : List T_Commit) (o7 : List T_Lease) (k0 : Int → Int → (List Int) → (List Int) → (List T_Commit) → (List T_Member) → (List T_Lease) → Option Ret), R_i_Doc_copied_8_0 mb ((mb.length : Nat) : Int) 0 p q o3 o4 o5 [] o7 k0 = k0 p q o3 o4 o5 mb o7 := fun p q o3 o4 o5 o7 k0 =>
    idx_copy (R := fun m i o => Q_i_Doc_copied_8_0 m mb ((mb.length : Nat) : Int) i p q o3 o4 o5 o o7 k0) memberR.dflt (fun m i hi => by
      show P_i_Doc_copied_8_0 mb ((mb.length : Nat) : Int) ((i : Nat) : Int) p q o3 o4 o5 (mb.take i) o7 _ _ = _
      unfold P_i_Doc_copied_8_0
      have hx : fitR memberR (mb.getD i memberR.dflt) = true := fitC_getD h4 rfl i
      rw [decide_eq_true (show ((i : Nat) : Int) < ((mb.length : Nat) : Int) by omega), decide_eq_true (show (0 : Int) ≤ ((i : Nat) : Int) by omega), Int.toNat_natCast, wrap_nat (by omega), hx, Nat.ble_eq_true_of_le (by simp only [List.length_take, List.length_cons, List.length_nil]; omega)]
      rfl) (fun m => by
      show P_i_Doc_copied_8_0 mb ((mb.length : Nat) : Int) ((mb.length : Nat) : Int) p q o3 o4 o5 mb o7 _ _ = _
      unfold P_i_Doc_copied_8_0
      rw [decide_eq_false (show ¬ ((mb.length : Nat) : Int) < ((mb.length : Nat) : Int) by omega)]; rfl) _ 0 (by omega) (by omega)
  unfold T_i_Doc_copied
  dsimp only
  simp only [bytes_lim n1, bytes_lim n2, Nat.ble_eq_true_of_le n5, cond_true, q3, q7, meet_self]
  rfl
theorem okS_i_Doc_copied : OkFn prog I N.i_Doc_copied true S_i_Doc_copied := okN (ok_fn (memc okS_slices_Clone_bytes_byte (memc okS_slices_Clone_Lease (memc okS_i_Edit_copied (memc okS_i_Member_copied mem0)))) (l := ls_i_Doc_copied) (p := pl_i_Doc_copied) (ls := [(3, [1,2,3,21,22,23], [1,2,3], W_i_Doc_copied_3), (8, [2,3,40,41,42], [2,3], W_i_Doc_copied_8)]) (lend := []) (focus := false) (fuel := 0) (give := []) (nils := [(3, [(3, 2, commitR), (3, 4, memberR)])]) (fn := F.i_Doc_copied) (by kernel_rfl) (by kernel_rfl) (by kernel_rfl) (by kernel_rfl) (cs := [bodyOf F.i_Doc_copied 3, bodyOf F.i_Doc_copied 8]) (by kernel_rfl) (loopsc loopK_i_Doc_copied_3 (loopsc loopK_i_Doc_copied_8 loops0))) (S_fnR_of fun d K h => (e_i_Doc_copied d.1 K).trans (v_i_Doc_copied d.1 h K))
end Go.Ev.Seat
end
section
/- i_Doc_tick_1: its contract. -/
namespace Go.Ev.Seat
open Go.RowKit
set_option maxRecDepth 100000
set_option linter.unusedVariables false
set_option linter.unusedSimpArgs false
noncomputable abbrev E_i_Doc_tick_1 : Env := En [(N.i_Lease_isActive, true, S_i_Lease_isActive)] [(1, takeB [0, 1, 2, 3, 4] (.fork (.one 5 (takes [6]))), [])] [] [] false 0 []
noncomputable def T_i_Doc_tick_1 (l : T_Lease) (st : List Int) (tx : List Int) (lg : List T_Commit) (ck : Int) (mb : List T_Member) (ls : List T_Lease) (K : Ret → Option Ret) : Option Ret := K ((.s (.bool (decide (l.2.2.2 > ck)))), [])
theorem e_i_Doc_tick_1 (l : T_Lease) (st : List Int) (tx : List Int) (lg : List T_Commit) (ck : Int) (mb : List T_Member) (ls : List T_Lease) (K : Ret → Option Ret) : evF E_i_Doc_tick_1 true F.i_Doc_tick_1 [.a (leaseR.cells .no l), .qb [.qb [.l .no bytesR st, .l .no bytesR tx, .l .no commitR lg, .s (.int .i64 ck), .l .no memberR mb, .l .no leaseR ls] 0] 0] K = T_i_Doc_tick_1 l st tx lg ck mb ls K := by kernel_rfl
def S_i_Doc_tick_1 : Sm := S_fnR [.a leaseR, .sh (.qb (.cons (.qb (.cons (.l .no bytesR) (.cons (.l .no bytesR) (.cons (.l .no commitR) (.cons (.int .i64) (.cons (.l .no memberR) (.cons (.l .no leaseR) .nil)))))) 0) .nil) 0)] (fun d => true) (fun d => (bl (decide (d.1.2.2.2 > d.2.1.1.2.2.2.1)), []))
theorem v_i_Doc_tick_1 (l : T_Lease) (st : List Int) (tx : List Int) (lg : List T_Commit) (ck : Int) (mb : List T_Member) (ls : List T_Lease) (K : Ret → Option Ret) : T_i_Doc_tick_1 l st tx lg ck mb ls K = K (bl (decide (l.2.2.2 > ck)), []) := rfl
theorem okS_i_Doc_tick_1 : OkFn prog I N.i_Doc_tick_1 true S_i_Doc_tick_1 := okN (ok_fn (memc okS_i_Lease_isActive mem0) (l := [(N.i_Lease_isActive, true, S_i_Lease_isActive)]) (p := [(1, takeB [0, 1, 2, 3, 4] (.fork (.one 5 (takes [6]))), [])]) (ls := []) (lend := []) (focus := false) (fuel := 0) (give := []) (fn := F.i_Doc_tick_1) (by kernel_rfl) (by kernel_rfl) (by kernel_rfl) (by kernel_rfl) (cs := []) (by kernel_rfl) loops0) (S_fnR_of fun d K h => (e_i_Doc_tick_1 d.1 d.2.1.1.1 d.2.1.1.2.1 d.2.1.1.2.2.1 d.2.1.1.2.2.2.1 d.2.1.1.2.2.2.2.1 d.2.1.1.2.2.2.2.2.1 K).trans (v_i_Doc_tick_1 d.1 d.2.1.1.1 d.2.1.1.2.1 d.2.1.1.2.2.1 d.2.1.1.2.2.2.1 d.2.1.1.2.2.2.2.1 d.2.1.1.2.2.2.2.2.1 K))
end Go.Ev.Seat
end
section
/- i_leasesThat: its contract. -/
namespace Go.Ev.Seat
open Go.RowKit
set_option maxRecDepth 100000
set_option linter.unusedVariables false
set_option linter.unusedSimpArgs false
def z_i_leasesThat_3_0 (o0 : List T_Lease) : St := { tm := ([.x, .x, .x, .x, .x, (.w 0)] ++ List.replicate 18 .x), ob := [(0, (.arr true true leaseR o0))], nx := 1, io := [] }
def sh_i_leasesThat_3_0 : Ss := { tm := (.cons (.x) (.cons (.f 150 (.cons (.qb (.cons (.qb (.cons (.l .no bytesR) (.cons (.l .no bytesR) (.cons (.l .no commitR) (.cons (.int .i64) (.cons (.l .no memberR) (.cons (.l .no leaseR) .nil)))))) 0) .nil) 0) .nil)) (.cons (.x) (.cons (.x) (.cons (.x) (.cons (.w 0) (.cons (.x) (.cons (.x) (.cons (.x) (.cons (.l .no leaseR) (.cons (.int .i64) (.cons (.int .i64) (xsh 12))))))))))))), ob := (.arr true true leaseR .nil), nx := 1, io := .nil }
def d_i_leasesThat_3_0 (x1000 : List Int) (x1001 : List Int) (x1002 : List T_Commit) (x1003 : Int) (x1004 : List T_Member) (x1005 : List T_Lease) (x9 : List T_Lease) (x10 : Int) (x11 : Int) (o0 : List T_Lease) : sh_i_leasesThat_3_0.T := (((), ((((x1000, (x1001, (x1002, (x1003, (x1004, (x1005, ())))))), ()), ()), ((), ((), ((), ((), ((), ((), ((), (x9, (x10, (x11, xd 12)))))))))))), (o0, ()), ())
def s_i_leasesThat_3_0 (x1000 : List Int) (x1001 : List Int) (x1002 : List T_Commit) (x1003 : Int) (x1004 : List T_Member) (x1005 : List T_Lease) (x9 : List T_Lease) (x10 : Int) (x11 : Int) (o0 : List T_Lease) : St := { tm := ([.x, (.f 150 [(.qb [(.qb [(.l .no bytesR x1000), (.l .no bytesR x1001), (.l .no commitR x1002), (.s (.int .i64 x1003)), (.l .no memberR x1004), (.l .no leaseR x1005)] 0)] 0)]), .x, .x, .x, (.w 0), .x, .x, .x, (.l .no leaseR x9), (.s (.int .i64 x10)), (.s (.int .i64 x11))] ++ List.replicate 12 .x), ob := [(0, (.arr true true leaseR o0))], nx := 1, io := [] }
theorem se_i_leasesThat_3_0 (x1000 : List Int) (x1001 : List Int) (x1002 : List T_Commit) (x1003 : Int) (x1004 : List T_Member) (x1005 : List T_Lease) (x9 : List T_Lease) (x10 : Int) (x11 : Int) (o0 : List T_Lease) : sh_i_leasesThat_3_0.mk' (d_i_leasesThat_3_0 x1000 x1001 x1002 x1003 x1004 x1005 x9 x10 x11 o0) = (s_i_leasesThat_3_0 x1000 x1001 x1002 x1003 x1004 x1005 x9 x10 x11 o0) := by kernel_rfl
def w_i_leasesThat_3_0 (d : sh_i_leasesThat_3_0.T) (f : (List Int) → (List Int) → (List T_Commit) → Int → (List T_Member) → (List T_Lease) → (List T_Lease) → Int → Int → (List T_Lease) → Option Ret) : Option Ret := match d with | ((_, ((((x1000, (x1001, (x1002, (x1003, (x1004, (x1005, _)))))), _), _), (_, (_, (_, (_, (_, (_, (_, (x9, (x10, (x11, _)))))))))))), (o0, _), _) => f x1000 x1001 x1002 x1003 x1004 x1005 x9 x10 x11 o0
noncomputable def P_i_leasesThat_3_0 (x1000 : List Int) (x1001 : List Int) (x1002 : List T_Commit) (x1003 : Int) (x1004 : List T_Member) (x1005 : List T_Lease) (x9 : List T_Lease) (x10 : Int) (x11 : Int) (o0 : List T_Lease) (nx0 : (List Int) → (List Int) → (List T_Commit) → Int → (List T_Member) → (List T_Lease) → (List T_Lease) → Int → Int → (List T_Lease) → Option Ret) (k0 : (List T_Lease) → Option Ret) : Option Ret := (bif (decide (x11 < x10)) then (bif ((decide ((0 : Int) ≤ x11)) && (decide (x11 < (((List.length x9) : Nat) : Int)))) then (bif (decide ((List.getD x9 (Int.toNat x11) (leaseR.dflt)).2.2.2 > x1003)) then (bif (Nat.ble (((List.length o0) + (List.length ((List.getD x9 (Int.toNat x11) (leaseR.dflt)) :: []))) * 32) 140737488355328) then (nx0 x1000 x1001 x1002 x1003 x1004 x1005 x9 x10 (IntKind.wrap .i64 (x11 + (1 : Int))) (o0 ++ ((List.getD x9 (Int.toNat x11) (leaseR.dflt)) :: []))) else none) else (nx0 x1000 x1001 x1002 x1003 x1004 x1005 x9 x10 (IntKind.wrap .i64 (x11 + (1 : Int))) o0)) else none) else (k0 o0))
noncomputable def Q_i_leasesThat_3_0 : Nat → (List Int) → (List Int) → (List T_Commit) → Int → (List T_Member) → (List T_Lease) → (List T_Lease) → Int → Int → (List T_Lease) → ((List T_Lease) → Option Ret) → Option Ret
  | 0, _, _, _, _, _, _, _, _, _, _, _ => none
  | m + 1, x1000, x1001, x1002, x1003, x1004, x1005, x9, x10, x11, o0, k0 => P_i_leasesThat_3_0 x1000 x1001 x1002 x1003 x1004 x1005 x9 x10 x11 o0 (fun x1000 x1001 x1002 x1003 x1004 x1005 x9 x10 x11 o0 => (Q_i_leasesThat_3_0 m x1000 x1001 x1002 x1003 x1004 x1005 x9 x10 x11 o0 k0)) k0
noncomputable def R_i_leasesThat_3_0 (x1000 : List Int) (x1001 : List Int) (x1002 : List T_Commit) (x1003 : Int) (x1004 : List T_Member) (x1005 : List T_Lease) (x9 : List T_Lease) (x10 : Int) (x11 : Int) (o0 : List T_Lease) (k0 : (List T_Lease) → Option Ret) : Option Ret := Q_i_leasesThat_3_0 (List.length x1000 + List.length x1001 + List.length x1002 + x1003.toNat + List.length x1004 + List.length x1005 + List.length x9 + x10.toNat + x11.toNat + List.length o0 + 2) x1000 x1001 x1002 x1003 x1004 x1005 x9 x10 x11 o0 k0
noncomputable def W_i_leasesThat_3 : LoopFn := (fun (σ : St) (K : Ex → St → Option Ret) => (match sh_i_leasesThat_3_0.un σ with | some d => w_i_leasesThat_3_0 d (fun x1000 x1001 x1002 x1003 x1004 x1005 x9 x10 x11 o0 => R_i_leasesThat_3_0 x1000 x1001 x1002 x1003 x1004 x1005 x9 x10 x11 o0 (fun o0 => (K (.ext 0) (z_i_leasesThat_3_0 o0)))) | none => none))
noncomputable abbrev E_i_leasesThat : Env := En [(N.i_Doc_tick_1, true, S_i_Doc_tick_1)] [] [(3, [1,5,9,10,11], [4,5], W_i_leasesThat_3)] [] false 0 []
theorem st_i_leasesThat_3_0 (m : Nat) (x1000 : List Int) (x1001 : List Int) (x1002 : List T_Commit) (x1003 : Int) (x1004 : List T_Member) (x1005 : List T_Lease) (x9 : List T_Lease) (x10 : Int) (x11 : Int) (o0 : List T_Lease) (K : Ex → St → Option Ret) : rounds (run E_i_leasesThat (bodyOf F.i_leasesThat 3)) [1,5,9,10,11] [4,5] (m + 1) (s_i_leasesThat_3_0 x1000 x1001 x1002 x1003 x1004 x1005 x9 x10 x11 o0) K = P_i_leasesThat_3_0 x1000 x1001 x1002 x1003 x1004 x1005 x9 x10 x11 o0 (fun x1000 x1001 x1002 x1003 x1004 x1005 x9 x10 x11 o0 => (rounds (run E_i_leasesThat (bodyOf F.i_leasesThat 3)) [1,5,9,10,11] [4,5] m (s_i_leasesThat_3_0 x1000 x1001 x1002 x1003 x1004 x1005 x9 x10 x11 o0) K)) (fun o0 => (K (.ext 0) (z_i_leasesThat_3_0 o0))) := by kernel_rfl
theorem q_i_leasesThat_3 (K : Ex → St → Option Ret) : ∀ m : Nat, (∀ (x1000 : List Int) (x1001 : List Int) (x1002 : List T_Commit) (x1003 : Int) (x1004 : List T_Member) (x1005 : List T_Lease) (x9 : List T_Lease) (x10 : Int) (x11 : Int) (o0 : List T_Lease), rounds (run E_i_leasesThat (bodyOf F.i_leasesThat 3)) [1,5,9,10,11] [4,5] m (s_i_leasesThat_3_0 x1000 x1001 x1002 x1003 x1004 x1005 x9 x10 x11 o0) K = Q_i_leasesThat_3_0 m x1000 x1001 x1002 x1003 x1004 x1005 x9 x10 x11 o0 (fun o0 => (K (.ext 0) (z_i_leasesThat_3_0 o0))))
  | 0 => (fun _ _ _ _ _ _ _ _ _ _ => rfl)
  | m + 1 => (fun x1000 x1001 x1002 x1003 x1004 x1005 x9 x10 x11 o0 => (by rw [st_i_leasesThat_3_0, show (fun x1000 x1001 x1002 x1003 x1004 x1005 x9 x10 x11 o0 => (rounds (run E_i_leasesThat (bodyOf F.i_leasesThat 3)) [1,5,9,10,11] [4,5] m (s_i_leasesThat_3_0 x1000 x1001 x1002 x1003 x1004 x1005 x9 x10 x11 o0) K)) = (fun x1000 x1001 x1002 x1003 x1004 x1005 x9 x10 x11 o0 => (Q_i_leasesThat_3_0 m x1000 x1001 x1002 x1003 x1004 x1005 x9 x10 x11 o0 (fun o0 => (K (.ext 0) (z_i_leasesThat_3_0 o0))))) from funext fun x1000 => funext fun x1001 => funext fun x1002 => funext fun x1003 => funext fun x1004 => funext fun x1005 => funext fun x9 => funext fun x10 => funext fun x11 => funext fun o0 => (q_i_leasesThat_3 K m) x1000 x1001 x1002 x1003 x1004 x1005 x9 x10 x11 o0]; rfl))
theorem loopK_i_leasesThat_3 : LoopOk E_i_leasesThat (bodyOf F.i_leasesThat 3) := by
  refine loopW_ok (n := 3) (F := W_i_leasesThat_3) (by kernel_rfl) rfl (li := [1,5,9,10,11]) (lo := [4,5]) rfl (fun σ K r hr => ?_)
  unfold W_i_leasesThat_3 at hr
  split at hr
  · rename_i d hd
    rw [Ss.un_mk hd]
    exact ⟨_, ((congrArg (fun z => rounds (run E_i_leasesThat (bodyOf F.i_leasesThat 3)) [1,5,9,10,11] [4,5] _ z K) (se_i_leasesThat_3_0 _ _ _ _ _ _ _ _ _ _)).trans ((q_i_leasesThat_3 K _) _ _ _ _ _ _ _ _ _ _)).trans hr⟩
  · cases hr
noncomputable def T_i_leasesThat (l : List T_Lease) (st : List Int) (tx : List Int) (lg : List T_Commit) (ck : Int) (mb : List T_Member) (ls : List T_Lease) (K : Ret → Option Ret) : Option Ret := (R_i_leasesThat_3_0 st tx lg ck mb ls l (((List.length l) : Nat) : Int) (0 : Int) [] (fun y0 => K ((.l .deep leaseR y0), [])))
theorem e_i_leasesThat (l : List T_Lease) (st : List Int) (tx : List Int) (lg : List T_Commit) (ck : Int) (mb : List T_Member) (ls : List T_Lease) (K : Ret → Option Ret) : evF E_i_leasesThat true F.i_leasesThat [.l .no leaseR l, .f N.i_Doc_tick_1 [.qb [.qb [.l .no bytesR st, .l .no bytesR tx, .l .no commitR lg, .s (.int .i64 ck), .l .no memberR mb, .l .no leaseR ls] 0] 0]] K = T_i_leasesThat l st tx lg ck mb ls K := by kernel_rfl
def S_i_leasesThat : Sm := S_fnR [.l leaseR, .sh (.f N.i_Doc_tick_1 (.cons (.qb (.cons (.qb (.cons (.l .no bytesR) (.cons (.l .no bytesR) (.cons (.l .no commitR) (.cons (.int .i64) (.cons (.l .no memberR) (.cons (.l .no leaseR) .nil)))))) 0) .nil) 0) .nil))] (fun d => Nat.ble d.1.length 1048576) (fun d => (.l .deep leaseR (d.1.filter (fun x : T_Lease => decide (x.2.2.2 > d.2.1.1.1.2.2.2.1))), []))
theorem v_i_leasesThat (l : List T_Lease) (st : List Int) (tx : List Int) (lg : List T_Commit) (ck : Int) (mb : List T_Member) (ls : List T_Lease) (h : (Nat.ble l.length 1048576) = true) (K : Ret → Option Ret) : T_i_leasesThat l st tx lg ck mb ls K = K (.l .deep leaseR (l.filter (fun x : T_Lease => decide (x.2.2.2 > ck))), []) := by
  have hl := Nat.le_of_ble_eq_true h
  unfold T_i_leasesThat
  have hp : ∃ p : T_Lease → Bool, p = (fun x => decide (x.2.2.2 > ck)) := ⟨_, rfl⟩
  obtain ⟨p, hp⟩ := hp
  rw [← hp]
  have q : ∀ (k0 : List T_Lease → Option Ret) (m : Nat), l.length < m → Q_i_leasesThat_3_0 m st tx lg ck mb ls l ((l.length : Nat) : Int) ((0 : Nat) : Int) ((l.take 0).filter p) k0 = k0 (l.filter p) := by
    intro k0 m hm
    refine idx_filter (R := fun m i o => Q_i_leasesThat_3_0 m st tx lg ck mb ls l ((l.length : Nat) : Int) i o k0) (kt := k0 (l.filter p)) (l := l) p leaseR.dflt (fun m i hi => ?_) (fun m => ?_) m 0 (Nat.zero_le _) (by omega)
    · show P_i_leasesThat_3_0 st tx lg ck mb ls l ((l.length : Nat) : Int) ((i : Nat) : Int) _ _ _ = _
      unfold P_i_leasesThat_3_0
      have hle := List.length_filter_le p (l.take i)
      rw [List.length_take] at hle
      rw [decide_eq_true (show ((i : Nat) : Int) < ((l.length : Nat) : Int) by omega), decide_eq_true (show (0 : Int) ≤ ((i : Nat) : Int) by omega), Int.toNat_natCast, wrap_nat (by omega), Nat.ble_eq_true_of_le (by simp only [List.length_cons, List.length_nil]; omega), show decide ((l.getD i leaseR.dflt).2.2.2 > ck) = p (l.getD i leaseR.dflt) by rw [hp]]
      cases p (l.getD i leaseR.dflt) <;> rfl
    · show P_i_leasesThat_3_0 st tx lg ck mb ls l ((l.length : Nat) : Int) ((l.length : Nat) : Int) _ _ _ = _
      unfold P_i_leasesThat_3_0
      rw [decide_eq_false (show ¬ ((l.length : Nat) : Int) < ((l.length : Nat) : Int) by omega)]; rfl
  exact q (fun y0 => K ((.l .deep leaseR y0), [])) _ (by omega)
theorem okS_i_leasesThat : OkFn prog I N.i_leasesThat true S_i_leasesThat := okN (ok_fn (memc okS_i_Doc_tick_1 mem0) (l := [(N.i_Doc_tick_1, true, S_i_Doc_tick_1)]) (p := []) (ls := [(3, [1,5,9,10,11], [4,5], W_i_leasesThat_3)]) (lend := []) (focus := false) (fuel := 0) (give := []) (fn := F.i_leasesThat) (by kernel_rfl) (by kernel_rfl) (by kernel_rfl) (by kernel_rfl) (cs := [bodyOf F.i_leasesThat 3]) (by kernel_rfl) (loopsc loopK_i_leasesThat_3 loops0)) (S_fnR_of fun d K h => (e_i_leasesThat d.1 d.2.1.1.1.1 d.2.1.1.1.2.1 d.2.1.1.1.2.2.1 d.2.1.1.1.2.2.2.1 d.2.1.1.1.2.2.2.2.1 d.2.1.1.1.2.2.2.2.2.1 K).trans (v_i_leasesThat d.1 d.2.1.1.1.1 d.2.1.1.1.2.1 d.2.1.1.1.2.2.1 d.2.1.1.1.2.2.2.1 d.2.1.1.1.2.2.2.2.1 d.2.1.1.1.2.2.2.2.2.1 h K))
end Go.Ev.Seat
end
section
/- i_Doc_tick: its contract. -/
namespace Go.Ev.Seat
open Go.RowKit
set_option maxRecDepth 100000
set_option linter.unusedVariables false
set_option linter.unusedSimpArgs false
noncomputable abbrev E_i_Doc_tick : Env := En [(N.i_leasesThat, true, S_i_leasesThat)] [(1, takeB [0, 1, 2, 3, 4, 5, 6, 7, 8, 9] (.fork (.one 10 (.done))), []), (2, takeB [0, 1, 2, 3, 4, 5] (.fork (.one 6 (takeB [7, 8] (.fork (.one 9 (.done)))))), [])] [] [] false 0 []
noncomputable def T_i_Doc_tick (st : List Int) (tx : List Int) (lg : List T_Commit) (ck : Int) (mb : List T_Member) (ls : List T_Lease) (n : Int) (K : Ret → Option Ret) : Option Ret := (bif (Nat.ble (List.length ls) 1048576) then K ((.t []), [(.io [(.l .deep bytesR st), (.l .deep bytesR tx), (.l .deep commitR lg), (.s (.int .i64 (if (1000 : Int) < (IntKind.wrap .i64 (ck + n)) then (1000 : Int) else (IntKind.wrap .i64 (ck + n))))), (.l .deep memberR mb), (.l .deep leaseR (List.filter (fun x => (decide (x.2.2.2 > (if (1000 : Int) < (IntKind.wrap .i64 (ck + n)) then (1000 : Int) else (IntKind.wrap .i64 (ck + n)))))) ls))])]) else none)
theorem e_i_Doc_tick (st : List Int) (tx : List Int) (lg : List T_Commit) (ck : Int) (mb : List T_Member) (ls : List T_Lease) (n : Int) (K : Ret → Option Ret) : evF E_i_Doc_tick true F.i_Doc_tick [.io [.l .deep bytesR st, .l .deep bytesR tx, .l .deep commitR lg, .s (.int .i64 ck), .l .deep memberR mb, .l .deep leaseR ls], .s (.int .i64 n)] K = T_i_Doc_tick st tx lg ck mb ls n K := by kernel_rfl
def S_i_Doc_tick : Sm := S_fnR [.sh (.io (.cons (.l .deep bytesR) (.cons (.l .deep bytesR) (.cons (.l .deep commitR) (.cons (.int .i64) (.cons (.l .deep memberR) (.cons (.l .deep leaseR) .nil))))))), .i] (fun d => Nat.ble d.1.2.2.2.2.2.1.length 1048576 && decide (0 ≤ d.1.2.2.2.1) && decide (d.1.2.2.2.1 ≤ 1000) && decide (0 ≤ d.2.1) && decide (d.2.1 ≤ 1000)) (fun d => (.t [], [.io [.l .deep bytesR d.1.1, .l .deep bytesR d.1.2.1, .l .deep commitR d.1.2.2.1, .s (.int .i64 (tk d.1.2.2.2.1 d.2.1)), .l .deep memberR d.1.2.2.2.2.1, .l .deep leaseR (d.1.2.2.2.2.2.1.filter (fun x : T_Lease => decide (x.2.2.2 > tk d.1.2.2.2.1 d.2.1)))]]))
theorem v_i_Doc_tick (st : List Int) (tx : List Int) (lg : List T_Commit) (ck : Int) (mb : List T_Member) (ls : List T_Lease) (n : Int) (h : (Nat.ble ls.length 1048576 && decide (0 ≤ ck) && decide (ck ≤ 1000) && decide (0 ≤ n) && decide (n ≤ 1000)) = true) (K : Ret → Option Ret) : T_i_Doc_tick st tx lg ck mb ls n K = K (.t [], [.io [.l .deep bytesR st, .l .deep bytesR tx, .l .deep commitR lg, .s (.int .i64 (tk ck n)), .l .deep memberR mb, .l .deep leaseR (ls.filter (fun x : T_Lease => decide (x.2.2.2 > tk ck n)))]]) := by
  simp only [Bool.and_eq_true, decide_eq_true_eq] at h
  obtain ⟨⟨⟨⟨h0, h1⟩, h2⟩, h3⟩, h4⟩ := h
  unfold T_i_Doc_tick
  rw [h0, wrap_in (n := ck + n) (by omega) (by omega), tk_eq]
  rfl
theorem okS_i_Doc_tick : OkFn prog I N.i_Doc_tick true S_i_Doc_tick := okN (ok_fn (memc okS_i_leasesThat mem0) (l := [(N.i_leasesThat, true, S_i_leasesThat)]) (p := [(1, takeB [0, 1, 2, 3, 4, 5, 6, 7, 8, 9] (.fork (.one 10 (.done))), []), (2, takeB [0, 1, 2, 3, 4, 5] (.fork (.one 6 (takeB [7, 8] (.fork (.one 9 (.done)))))), [])]) (ls := []) (lend := []) (focus := false) (fuel := 0) (give := []) (fn := F.i_Doc_tick) (by kernel_rfl) (by kernel_rfl) (by kernel_rfl) (by kernel_rfl) (cs := []) (by kernel_rfl) loops0) (S_fnR_of fun d K h => (e_i_Doc_tick d.1.1 d.1.2.1 d.1.2.2.1 d.1.2.2.2.1 d.1.2.2.2.2.1 d.1.2.2.2.2.2.1 d.2.1 K).trans (v_i_Doc_tick d.1.1 d.1.2.1 d.1.2.2.1 d.1.2.2.2.1 d.1.2.2.2.2.1 d.1.2.2.2.2.2.1 d.2.1 h K))
end Go.Ev.Seat
end
section
/- i_DocTick: its contract. -/
namespace Go.Ev.Seat
open Go.RowKit
set_option maxRecDepth 100000
set_option linter.unusedVariables false
set_option linter.unusedSimpArgs false
noncomputable abbrev ls_i_DocTick : List (Nat × Bool × Sm) := [(N.i_isDoc, true, S_i_isDoc), (N.i_isTick, true, S_i_isTick), (N.i_Doc_copied, true, S_i_Doc_copied), (N.i_Doc_tick, true, S_i_Doc_tick)]
noncomputable abbrev E_i_DocTick : Env := En ls_i_DocTick [] [] [] false 0 []
noncomputable def T_i_DocTick (d : T_Doc) (n : Int) (K : Ret → Option Ret) : Option Ret := (bif (fitR docR d) then (bif (!(docOkD d)) then K ((.t [(.a [(.l .deep bytesR ([] : List Int)), (.l .deep bytesR ([] : List Int)), (.l .deep commitR []), (.s (.int .i64 (0 : Int))), (.l .deep memberR []), (.l .deep leaseR [])]), (.s (.bool false))]), []) else (bif (!((decide ((1 : Int) ≤ n)) && (decide (n ≤ (1000 : Int))))) then K ((.t [(.a [(.l .deep bytesR ([] : List Int)), (.l .deep bytesR ([] : List Int)), (.l .deep commitR []), (.s (.int .i64 (0 : Int))), (.l .deep memberR []), (.l .deep leaseR [])]), (.s (.bool false))]), []) else (bif (fitR docR d) then (bif (((((Nat.ble (List.length d.2.2.2.2.2) 1048576) && (decide ((0 : Int) ≤ d.2.2.2.1))) && (decide (d.2.2.2.1 ≤ (1000 : Int)))) && (decide ((0 : Int) ≤ n))) && (decide (n ≤ (1000 : Int)))) then K ((.t [(.a [(.l .deep bytesR d.1), (.l .deep bytesR d.2.1), (.l .deep commitR d.2.2.1), (.s (.int .i64 (tk d.2.2.2.1 n))), (.l .deep memberR d.2.2.2.2.1), (.l .deep leaseR (List.filter (fun x => (decide (x.2.2.2 > (tk d.2.2.2.1 n)))) d.2.2.2.2.2))]), (.s (.bool true))]), []) else none) else none))) else none)
theorem e_i_DocTick (d : T_Doc) (n : Int) (K : Ret → Option Ret) : evF E_i_DocTick true F.i_DocTick [.a (docR.cells .no d), .s (.int .i64 n)] K = T_i_DocTick d n K := by kernel_rfl
def S_i_DocTick : Sm := S_fnR [.a docR, .i] (fun d => fitR docR d.1) (fun d => (.t [.a (docR.cells .deep (docTickD d.1 d.2.1).1), .s (.bool (docTickD d.1 d.2.1).2)], []))
theorem v_i_DocTick (d : T_Doc) (n : Int) (h : (fitR docR d) = true) (K : Ret → Option Ret) : T_i_DocTick d n K = K (.t [.a (docR.cells .deep (docTickD d n).1), .s (.bool (docTickD d n).2)], []) := by
  obtain ⟨_, _, _, _, h5⟩ := fit_doc h
  unfold T_i_DocTick docTickD
  rw [h, Nat.ble_eq_true_of_le (fitC_len h5)]
  cases hk : docOkD d with
  | false => rfl
  | true =>
    have hc := docOk_clock hk
    rw [decide_eq_true hc.1, decide_eq_true hc.2]
    by_cases h1 : 1 ≤ n
    case neg => rw [decide_eq_false h1]; rfl
    rw [decide_eq_true h1, decide_eq_true (show 0 ≤ n by omega)]
    cases decide (n ≤ 1000) <;> rfl
theorem okS_i_DocTick : OkFn prog I N.i_DocTick true S_i_DocTick := okN (ok_fn (memc okS_i_isDoc (memc okS_i_isTick (memc okS_i_Doc_copied (memc okS_i_Doc_tick mem0)))) (l := ls_i_DocTick) (p := []) (ls := []) (lend := []) (focus := false) (fuel := 0) (give := []) (fn := F.i_DocTick) (by kernel_rfl) (by kernel_rfl) (by kernel_rfl) (by kernel_rfl) (cs := []) (by kernel_rfl) loops0) (S_fnR_of fun d K h => (e_i_DocTick d.1 d.2.1 K).trans (v_i_DocTick d.1 d.2.1 h K))
end Go.Ev.Seat
end
section
/- How much parts of a document weigh. -/
set_option linter.unusedVariables false
namespace Go.Ev.Seat
open Go.RowKit
theorem sumW_sub {α : Type} {f : α → Nat} : ∀ {l m : List α}, l.Sublist m → sumW f l ≤ sumW f m
  | _, _, .slnil => Nat.le_refl _
  | _, _, .cons _ h => by have := sumW_sub (f := f) h; simp only [sumW]; omega
  | _, _, .cons_cons _ h => by have := sumW_sub (f := f) h; simp only [sumW]; omega
theorem w_sub {r : Rw} {l m : List r.T} (h : l.Sublist m) : (Cc.sl r).w l ≤ (Cc.sl r).w m := by
  have h1 : (Cc.sl r).w l = l.length + sumW r.w l := rfl
  have h2 : (Cc.sl r).w m = m.length + sumW r.w m := rfl
  have h3 := sumW_sub (f := r.w) h
  have h4 := h.length_le
  omega
theorem doc_w (d : T_Doc) : docR.w d = (Cc.sl bytesR).w d.1 + ((Cc.sl bytesR).w d.2.1 + ((Cc.sl commitR).w d.2.2.1 + (0 + ((Cc.sl memberR).w d.2.2.2.2.1 + (Cc.sl leaseR).w d.2.2.2.2.2)))) := rfl
theorem tick_w {d : T_Doc} {n : Int} (h : docR.w d ≤ 1048576) : docR.w (docTickD d n).1 ≤ 1099511627776 := by
  rw [doc_w] at h
  unfold docTickD
  cases (docOkD d && (decide (1 ≤ n) && decide (n ≤ 1000))) with
  | false => exact Nat.zero_le _
  | true =>
    rw [cond_true, doc_w]
    have := w_sub (r := leaseR) (List.filter_sublist (l := d.2.2.2.2.2) (p := fun x : T_Lease => decide (x.2.2.2 > tk d.2.2.2.1 n)))
    dsimp only
    omega
end Go.Ev.Seat
end
section
/- The law FnExactDocTick. Printed by laws.py. -/
namespace Go.Ev.Seat
open Go.RowKit
set_option maxRecDepth 100000
set_option linter.unusedVariables false
noncomputable abbrev ls_DocTick (T : MText) : List (Nat × Bool × Sm) := [(N.s_DocTick, true, S_s_DocTick), (N.i_DocTick, true, S_i_DocTick), (N.l_toDoc, true, S_toA docR), (N.l_eqDoc, true, S_eqA docR), (N.l_szDoc, true, S_szA docR), (N.l_markDoc, true, S_markA T docR), (N.l_heldDoc, true, S_heldA T docR)]
noncomputable abbrev pl_DocTick : List (Nat × Plan × List Nat) := [(10, takeB [0, 1] (.fork (.one 2 (.fork (.one 3 (takes [4]))))), [])]
noncomputable def G_DocTick (T : MText) := evF (En (ls_DocTick T) pl_DocTick [] [N.l_markDoc] true) true F.l_FnExactDocTick
theorem ok_DocTick (T : MText) : OkFn prog I N.l_FnExactDocTick true (G_DocTick T) := ok_fn (l := ls_DocTick T) (memc okS_s_DocTick (memc okS_i_DocTick (memc okS_toDoc (memc okS_eqDoc (memc okS_szDoc (memc (okS_markDoc T) (memc (okS_heldDoc T) mem0))))))) (by kernel_rfl) (by kernel_rfl) (by kernel_rfl) (by kernel_rfl) (cs := []) (by kernel_rfl) loops0
noncomputable def L1_DocTick (T : MText) (d : T_Doc) (n : Int) (K : Ret → Option Ret) : Option Ret := (bif docR.cnt (docTickD d n).1 then (bif !(eqD ((docTickD d n).1 : T_Doc) (docTickD d n).1) then K (bl false, []) else (bif !((docTickD d n).2 == (docTickD d n).2) then K (bl false, []) else (bif (eqD (docR.markA T (docR.markA T (docTickD d n).1 (1 : Int)).1 (1 : Int)).1 (docR.markA T (docTickD d n).1 (1 : Int)).1) && (docR.cnt (docR.markA T (docTickD d n).1 (1 : Int)).1 && decide ((0 : Int) ≤ (1 : Int)) && decide ((1 : Int) + ((docR.marksA (docR.markA T (docTickD d n).1 (1 : Int)).1 : Nat) : Int) ≤ 4611686018427387904)) then (bif decide ((docR.markA T (docR.markA T (docTickD d n).1 (1 : Int)).1 (1 : Int)).2 < 0) then K (bl false, []) else (bif (docR.markA T (docR.markA T (docTickD d n).1 (1 : Int)).1 (1 : Int)).2 != (docR.markA T (docTickD d n).1 (1 : Int)).2 then K (bl false, []) else K (bl true, []))) else none))) else none)
noncomputable def L0_DocTick (T : MText) (d : T_Doc) (n : Int) (K : Ret → Option Ret) : Option Ret := (bif docR.lim d then (bif (fitR docR d) then (bif docR.cnt (docTickD d n).1 then (bif !(eqD ((docTickD d n).1 : T_Doc) (docTickD d n).1) then K (bl false, []) else (bif !((docTickD d n).2 == (docTickD d n).2) then K (bl false, []) else (bif docR.lim d then (bif docR.cnt d then (bif !(eqD (d : T_Doc) d) then K (bl false, []) else (bif docR.cnt d then (bif decide ((docR.markA T d (1 : Int)).2 < 0) then K (bl false, []) else (bif docR.cnt (docTickD d n).1 then (bif !(eqD ((docTickD d n).1 : T_Doc) (docTickD d n).1) then K (bl false, []) else (bif !((docTickD d n).2 == (docTickD d n).2) then K (bl false, []) else (bif docR.cnt (docTickD d n).1 then (bif (eqD (docR.markA T (docR.markA T (docTickD d n).1 (1 : Int)).1 (1 : Int)).1 (docR.markA T (docTickD d n).1 (1 : Int)).1) && (docR.cnt (docR.markA T (docTickD d n).1 (1 : Int)).1 && decide ((0 : Int) ≤ (1 : Int)) && decide ((1 : Int) + ((docR.marksA (docR.markA T (docTickD d n).1 (1 : Int)).1 : Nat) : Int) ≤ 4611686018427387904)) then (bif decide ((docR.markA T (docR.markA T (docTickD d n).1 (1 : Int)).1 (1 : Int)).2 < 0) then K (bl false, []) else (bif (docR.markA T (docR.markA T (docTickD d n).1 (1 : Int)).1 (1 : Int)).2 != (docR.markA T (docTickD d n).1 (1 : Int)).2 then K (bl false, []) else (bif docR.lim d then (bif (fitR docR d) then (L1_DocTick T d n K) else none) else none))) else none) else none))) else none)) else none)) else none) else none))) else none) else none) else none)
theorem law_DocTick (T : MText) (d : T_Doc) (n : Int) (K : Ret → Option Ret) (hwf0 : docR.wf d) : G_DocTick T [.a (docR.cells .no d), .s (.int .i64 n)] K = K (bl true, []) := by
  have e : G_DocTick T [.a (docR.cells .no d), .s (.int .i64 n)] K = (bif szOk (1048576 : Int) && docR.cnz d then (bif decide (szN (docR.w d) (1048576 : Int) < 0) then K (bl true, []) else (bif docR.lim d then (bif (fitR docR d) then (L0_DocTick T d n K) else none) else none)) else none) := by kernel_rfl
  refine e.trans ?_
  have hz0 : docR.cnz d = true := Rw.cnz_of_wf docR d hwf0
  refine lw_sz (show szOk 1048576 = true by rfl) hz0 (fun n0 e0 s0 => ?_)
  have hw0 : docR.w d ≤ 1048576 := by omega
  have lim0 : docR.lim d = true := Rw.lim_ok docR d hw0
  have cnt0 : docR.cnt d = true := Rw.cnt_of_lim docR d lim0
  have mk0 : docR.marksA d ≤ 32 * docR.w d := Rw.marksA_le docR rfl d
  have hpre : (fitR docR d) = true := fitR_of docR d hwf0 lim0
  have rw0 : docR.w (docTickD d n).1 ≤ 1099511627776 := tick_w hw0
  have rcnt0 : docR.cnt (docTickD d n).1 = true := Rw.cnt_of_w docR (docTickD d n).1 (by omega)
  have rmk0 : docR.marksA (docTickD d n).1 ≤ 32 * docR.w (docTickD d n).1 := Rw.marksA_le docR rfl (docTickD d n).1
  have k0 := Rw.markA_cnt T docR d (1 : Int) (by omega) (by omega)
  have pk1 : 0 ≤ (docR.markA T d (1 : Int)).2 := by omega
  have mm0 := Rw.markA_cnt T docR (docTickD d n).1 (1 : Int) (by omega) (by omega)
  have hq0 : (1 : Int) = 1 := rfl
  have id0 : docR.markA T (docR.markA T (docTickD d n).1 (1 : Int)).1 (1 : Int) = docR.markA T (docTickD d n).1 (1 : Int) := Rw.markA_idem T docR (docTickD d n).1 (1 : Int)
  have hq1 : (docR.markA T (docR.markA T (docTickD d n).1 (1 : Int)).1 (1 : Int)).2 = (docR.markA T (docTickD d n).1 (1 : Int)).2 := congrArg Prod.snd id0
  have hg0 : eqD (docR.markA T (docR.markA T (docTickD d n).1 (1 : Int)).1 (1 : Int)).1 (docR.markA T (docTickD d n).1 (1 : Int)).1 = true := eqD_iff.2 (congrArg Prod.fst id0)
  have gcnt0 : docR.cnt (docR.markA T (docTickD d n).1 (1 : Int)).1 = true := (Rw.markA_w T docR (docTickD d n).1 (1 : Int)).trans rcnt0
  have gmk0 : docR.marksA (docR.markA T (docTickD d n).1 (1 : Int)).1 = docR.marksA (docTickD d n).1 := Rw.markA_marks T docR (docTickD d n).1 (1 : Int)
  have pq0 : 0 ≤ (1 : Int) := by omega
  have bq0 : (1 : Int) + ((docR.marksA (docR.markA T (docTickD d n).1 (1 : Int)).1 : Nat) : Int) ≤ 4611686018427387904 := by omega
  have pq1 : 0 ≤ (docR.markA T (docR.markA T (docTickD d n).1 (1 : Int)).1 (1 : Int)).2 := by omega
  have t1 : L1_DocTick T d n K = K (bl true, []) := by
    unfold L1_DocTick
    exact (lw_eq rcnt0 (lw_bool (lw_held hg0 gcnt0 pq0 bq0 (lw_lt pq1 (lw_int2 hq1 rfl)))))
  have t0 : L0_DocTick T d n K = K (bl true, []) := by
    unfold L0_DocTick
    exact (to_step lim0 (to_step hpre (lw_eq rcnt0 (lw_bool (to_step lim0 (lw_eq cnt0 (to_step cnt0 (lw_lt pk1 (lw_eq rcnt0 (lw_bool (to_step rcnt0 (lw_held hg0 gcnt0 pq0 bq0 (lw_lt pq1 (lw_int2 hq1 (to_step lim0 (to_step hpre t1))))))))))))))))
  exact (to_step lim0 (to_step hpre t0))
end Go.Ev.Seat
end
section
/- Kinds of types that come in, checked by reckoning. -/
set_option linter.unusedVariables false
namespace Go.Ev
open Go.RowKit
mutual
def ccN (P : Program) : Nat → Cc → TypeId → Bool
  | 0, _, _ => false
  | n + 1, c, t => match c, P.underlying t with
    | .int k, some (.int k') => decide (k' = k)
    | .bool, some .bool => true
    | .str, some .string => true
    | .sl r, some (.slice e) => Nat.beq (P.cellsOf e) r.n && (match layN P n r.list e with
      | some [] => true
      | _ => false)
    | _, _ => false
/-- The cells of a type, taken off a list: what is left. -/
def layN (P : Program) : Nat → List Cc → TypeId → Option (List Cc)
  | 0, _, _ => none
  | n + 1, cs, t => match cs with
    | [] => none
    | c :: rest => bif ccN P n c t then some rest else match P.underlying t with
      | some (.struct fs) => fsN P n (c :: rest) 0 fs.toList
      | _ => none
def fsN (P : Program) : Nat → List Cc → Nat → List Field → Option (List Cc)
  | 0, _, _, _ => none
  | n + 1, cs, i, fs => match fs with
    | [] => some cs
    | f :: rest => bif Nat.beq f.offset i then (match layN P n cs f.type with
      | some cs' => bif Nat.beq (P.cellsOf f.type + cs'.length) cs.length then fsN P n cs' (i + P.cellsOf f.type) rest else none
      | none => none) else none
end
theorem kinds_ok {P : Program} : ∀ (n : Nat), (∀ c t, ccN P n c t = true → CcOk P c t) ∧ (∀ cs t rest, layN P n cs t = some rest → ∃ pre, cs = pre ++ rest ∧ LayOk P pre t) ∧ ∀ cs i fs rest, fsN P n cs i fs = some rest → ∃ pre, cs = pre ++ rest ∧ LayFs P pre i fs
  | 0 => ⟨fun _ _ h => by simp [ccN] at h, fun _ _ _ h => by simp [layN] at h, fun _ _ _ _ h => by simp [fsN] at h⟩
  | n + 1 => by
    obtain ⟨h1, h2, h3⟩ := kinds_ok (P := P) n
    refine ⟨fun c t h => ?_, fun cs t rest h => ?_, fun cs i fs rest h => ?_⟩
    · simp only [ccN] at h
      split at h
      · rename_i k k' hu
        have := of_decide_eq_true h
        subst this
        exact .int hu
      · rename_i hu; exact .bool hu
      · rename_i hu; exact .str hu
      · rename_i r e hu
        simp only [Bool.and_eq_true] at h
        obtain ⟨g1, g2⟩ := h
        split at g2
        · rename_i hl
          obtain ⟨pre, e1, e2⟩ := h2 _ _ _ hl
          rw [List.append_nil] at e1
          exact .sl hu (Nat.eq_of_beq_eq_true g1) (e1 ▸ e2)
        · cases g2
      · cases h
    · simp only [layN] at h
      split at h
      · cases h
      · rename_i c rest'
        cases hc : ccN P n c t with
        | true =>
          rw [hc] at h
          cases h
          exact ⟨[c], rfl, .one (h1 _ _ hc)⟩
        | false =>
          rw [hc] at h
          simp only [cond_false] at h
          split at h
          · rename_i fs hu
            obtain ⟨pre, e1, e2⟩ := h3 _ _ _ _ h
            exact ⟨pre, e1, .st hu e2⟩
          · cases h
    · simp only [fsN] at h
      split at h
      · cases h
        exact ⟨[], rfl, .nil⟩
      · rename_i f rest'
        cases ho : Nat.beq f.offset i with
        | false => rw [ho] at h; cases h
        | true =>
          rw [ho] at h
          simp only [cond_true] at h
          split at h
          · rename_i cs' hl
            obtain ⟨pre, e1, e2⟩ := h2 _ _ _ hl
            cases hb : Nat.beq (P.cellsOf f.type + cs'.length) cs.length with
            | false => rw [hb] at h; cases h
            | true =>
              rw [hb] at h
              simp only [cond_true] at h
              have hlen := Nat.eq_of_beq_eq_true hb
              have hp : P.cellsOf f.type = pre.length := by rw [e1, List.length_append] at hlen; omega
              obtain ⟨pre2, e3, e4⟩ := h3 _ _ _ _ h
              rw [hp] at e4
              refine ⟨pre ++ pre2, by rw [e1, e3, List.append_assoc], .cons (Nat.eq_of_beq_eq_true ho) hp e2 e4⟩
          · cases h
def ccB (P : Program) (c : Cc) (t : TypeId) : Bool := ccN P 100 c t
def rwB (P : Program) (r : Rw) (t : TypeId) : Bool := match layN P 100 r.list t with
  | some [] => true
  | _ => false
theorem ccB_ok {P : Program} (c : Cc) {t : TypeId} (h : ccB P c t = true) : CcOk P c t := (kinds_ok 100).1 c t h
theorem rwB_ok {P : Program} (r : Rw) {t : TypeId} (h : rwB P r t = true) : RwOk P r t := by
  unfold rwB at h
  split at h
  · rename_i hl
    obtain ⟨pre, e1, e2⟩ := (kinds_ok 100).2.1 _ _ _ hl
    rw [List.append_nil] at e1
    show LayOk P r.list t
    rw [e1]; exact e2
  · cases h
end Go.Ev
end
section
/- An argument of one cell. -/
set_option linter.unusedVariables false
namespace Go.Ev
theorem cells_one {P : Program} {W : World} {r : Reach} {base : Nat} {c : Cc} {t : TypeId} {v : Value} (h : CcOk P c t) (ok : Value.okWide P W r base t v) : v.cells.toList = [v] := by
  cases v with
  | agg cs =>
    exfalso
    unfold Value.okWide at ok
    cases h with
    | int h => rw [h] at ok; simp [Cell.okWide, Cell.ok, h] at ok
    | bool h => rw [h] at ok; simp [Cell.okWide, Cell.ok, h] at ok
    | str h => rw [h] at ok; simp [Cell.okWide, Cell.ok, h] at ok
    | sl h _ _ => rw [h] at ok; simp [Cell.okWide, Cell.ok, h] at ok
  | _ => rfl
end Go.Ev
end
section
/- What a row's list gives of the tables of unicode/utf8. -/
set_option linter.unusedVariables false
namespace Go.Ev
open Go
variable {H : Type} {enc : TypeId × Value → H} {P : Program} {w : World} {base : Nat} {sp : Nat → Bool} {held : Bool}

/-- An array's cells, element by element. -/
theorem trod_arr {fuel : Nat} {t e : TypeId} {n m : Nat} {cs : List Value} {ds : List (DataW H)} {p : List MemPlace}
    (ht : P.underlying t = some (.array n e)) (hce : P.cellsOf e = m) (hct : P.cellsOf t = n * m)
    (h : DataW.trod enc P w base sp held fuel t cs = some (.agg ds, p)) :
    cs.length = n * m ∧ ds.length = n ∧ ∀ (i : Nat) (d : DataW H), ds[i]? = some d → ∃ f q, DataW.trod enc P w base sp held f e ((cs.drop (i * m)).take m) = some (d, q) := by
  cases fuel with
  | zero => simp [DataW.trod] at h
  | succ fuel =>
    simp only [DataW.trod, ht, hce, hct] at h
    split at h
    · rename_i hl
      obtain ⟨xs, hm, hx⟩ := Option.map_eq_some_iff.1 h
      have hxs : xs.map (·.1) = ds := by
        have := congrArg Prod.fst hx
        simpa using this
      have hxl : xs.length = n := by simpa using Lib.mapM_length hm
      refine ⟨by simpa using hl, by rw [← hxs]; simp [hxl], fun i d hd => ?_⟩
      rw [← hxs] at hd
      rw [List.getElem?_map, Option.map_eq_some_iff] at hd
      obtain ⟨b, hb, rfl⟩ := hd
      have hi : i < n := by
        have := (List.getElem?_eq_some_iff.1 hb).1
        omega
      obtain ⟨b', hb', hf⟩ := Lib.mapM_at hm i i (by simp [hi])
      obtain rfl := Option.some.inj (hb.symm.trans hb')
      exact ⟨fuel, b.2, hf⟩
    · cases h
theorem trod_u8 {fuel : Nat} {t : TypeId} {k : IntKind} {cs : List Value} {z : Int} {p : List MemPlace} (ht : P.underlying t = some (.int k))
    (h : DataW.trod enc P w base sp held fuel t cs = some (.lit (.int k z), p)) : cs = [.int k z] := by
  cases fuel with
  | zero => simp [DataW.trod] at h
  | succ fuel =>
    obtain ⟨z', hc, h2, _⟩ := DataW.trod_int ht h
    cases h2
    exact hc
/-- A struct of two small cells. -/
theorem trod_two {fuel : Nat} {t : TypeId} {fs : Array Field} {f g : Field} {k : IntKind} {cs : List Value} {x y : Int} {p : List MemPlace}
    (ht : P.underlying t = some (.struct fs)) (hfs : fs.toList = [f, g]) (hc : P.cellsOf t = 2) (hf0 : f.offset = 0) (hg0 : g.offset = 1) (hf : P.underlying f.type = some (.int k)) (hg : P.underlying g.type = some (.int k))
    (hcf : P.cellsOf f.type = 1) (hcg : P.cellsOf g.type = 1)
    (h : DataW.trod enc P w base sp held fuel t cs = some (.agg [.lit (.int k x), .lit (.int k y)], p)) : cs = [.int k x, .int k y] := by
  cases fuel with
  | zero => simp [DataW.trod] at h
  | succ fuel =>
    simp only [DataW.trod, ht, hfs, hc, hf0, hg0, hcf, hcg] at h
    split at h
    · rename_i hl
      obtain ⟨xs, hm, hx⟩ := Option.map_eq_some_iff.1 h
      have hxs : xs.map (·.1) = [.lit (.int k x), .lit (.int k y)] := by
        have := congrArg Prod.fst hx
        simpa using this
      obtain ⟨b0, hb0, h0⟩ := Lib.mapM_at hm 0 f rfl
      obtain ⟨b1, hb1, h1⟩ := Lib.mapM_at hm 1 g rfl
      have e0 : b0.1 = .lit (.int k x) := by
        have := congrArg (·[0]?) hxs
        simpa [hb0] using this
      have e1 : b1.1 = .lit (.int k y) := by
        have := congrArg (·[1]?) hxs
        simpa [hb1] using this
      obtain ⟨d0, q0⟩ := b0
      obtain ⟨d1, q1⟩ := b1
      simp only at e0 e1
      subst e0 e1
      rw [hf0, hcf] at h0
      rw [hg0, hcg] at h1
      have a0 := trod_u8 hf h0
      have a1 := trod_u8 hg h1
      match cs, hl, a0, a1 with
      | [u, v], _, a0, a1 =>
        simp at a0 a1
        rw [a0, a1]
      | [], hl, _, _ => simp at hl
      | [_], hl, _, _ => simp at hl
      | _ :: _ :: _ :: _, hl, _, _ => simp at hl
    · cases h
theorem laid_at {laid : List (String × DataW Unit)} {W : World} {ps : List MemPlace} (h : DataW.LaidVars P W laid ps) {i : Nat} {name : String} {d : DataW Unit} (hi : laid[i]? = some (name, d)) {g : Nat} {t : TypeId}
    (hg : P.globalNamed name = some g) (hty : (P.globals[g]?).map (·.type) = some t) : ∃ cs fuel p, W.var? P name = some cs ∧ DataW.trod (fun _ => ()) P W 0 (fun _ => true) false fuel t cs.toList = some (d, p) := by
  induction laid generalizing ps i with
  | nil => simp at hi
  | cons x rest ih =>
    obtain ⟨n, d'⟩ := x
    obtain ⟨g', t', cs, fuel, p, q, hg', ht', hvar, hd, hr, _⟩ := h
    cases i with
    | zero =>
      simp only [List.getElem?_cons_zero, Option.some.injEq, Prod.mk.injEq] at hi
      obtain ⟨rfl, rfl⟩ := hi
      obtain rfl := Option.some.inj (hg.symm.trans hg')
      obtain rfl := Option.some.inj (hty.symm.trans ht')
      exact ⟨cs, fuel, p, hvar, hd⟩
    | succ i => exact ih hr (by simpa using hi)
theorem var_lt {W : World} {name : String} {g : Nat} {cs : Array Value} (hg : P.globalNamed name = some g) (h : W.var? P name = some cs) : g < W.heap.size := by
  unfold World.var? at h
  rw [hg] at h
  simp only [Option.bind_some] at h
  split at h
  · rename_i hh
    exact (Array.getElem?_eq_some_iff.1 hh).1
  · cases h
/-- THE TWO TABLES, off the list of a row. -/
theorem globI_utf {W : World} {d0 d1 : DataW Unit} (hm : laidMet P [("unicode/utf8.acceptRanges", d1), ("unicode/utf8.first", d0)] W)
    (hd0 : d0 = .agg (utfFirst.map fun z => .lit (.int .u8 z))) (hd1 : d1 = .agg (utfAccept.map fun z => .agg [.lit (.int .u8 z.1), .lit (.int .u8 z.2)]))
    {t0 t1 e0 e1 : TypeId} (hg0 : P.globalNamed "unicode/utf8.first" = some 0) (hg1 : P.globalNamed "unicode/utf8.acceptRanges" = some 1)
    (hy0 : (P.globals[0]?).map (·.type) = some t0) (hy1 : (P.globals[1]?).map (·.type) = some t1)
    (ht0 : P.underlying t0 = some (.array 256 e0)) (ht1 : P.underlying t1 = some (.array 16 e1)) (he0 : P.underlying e0 = some (.int .u8))
    {fs : Array Field} {f g : Field} (he1 : P.underlying e1 = some (.struct fs)) (hfs : fs.toList = [f, g]) (hf0 : f.offset = 0) (hgo : g.offset = 1) (hf : P.underlying f.type = some (.int .u8)) (hg : P.underlying g.type = some (.int .u8))
    (hcf : P.cellsOf f.type = 1) (hcg : P.cellsOf g.type = 1) (hc0 : P.cellsOf t0 = 256) (hc1 : P.cellsOf t1 = 32) (hce0 : P.cellsOf e0 = 1) (hce1 : P.cellsOf e1 = 2) : GlobI utfGlob W.heap.size W := by
  obtain ⟨ps, hL, _⟩ := hm
  obtain ⟨cs1, fu1, p1, hv1, hr1⟩ := laid_at hL (i := 0) rfl hg1 hy1
  obtain ⟨cs0, fu0, p0, hv0, hr0⟩ := laid_at hL (i := 1) rfl hg0 hy0
  subst hd0 hd1
  obtain ⟨l0, n0, r0⟩ := trod_arr (n := 256) (m := 1) ht0 hce0 hc0 hr0
  obtain ⟨l1, n1, r1⟩ := trod_arr (n := 16) (m := 2) ht1 hce1 hc1 hr1
  intro gg r xs hgg
  unfold utfGlob at hgg
  by_cases h0 : gg = 0
  · subst h0
    simp only [Nat.beq, cond_true, Option.some.injEq, Sigma.mk.injEq] at hgg
    obtain ⟨rfl, hxs⟩ := hgg
    cases hxs
    refine ⟨var_lt hg0 hv0, fun i d hd => ?_⟩
    obtain ⟨f', q, hq⟩ := r0 i _ (by rw [List.getElem?_map, hd]; rfl)
    have hcs := trod_u8 he0 hq
    refine ⟨[.int .u8 d], rfl, fun j v hj => ?_, fun C w => ⟨.int .u8 d, [], rfl, ⟨rfl, rfl⟩, rfl⟩⟩
    match j, hj with
    | 0, hj =>
      cases hj
      rw [World.var?_cell hg0 hv0]
      have := congrArg (·[0]?) hcs
      simpa [Rw.n, List.getElem?_take, List.getElem?_drop] using this
    | j + 1, hj => simp at hj
  · by_cases h1 : gg = 1
    · subst h1
      simp only [Nat.beq, cond_true, cond_false, Option.some.injEq, Sigma.mk.injEq] at hgg
      obtain ⟨rfl, hxs⟩ := hgg
      cases hxs
      refine ⟨var_lt hg1 hv1, fun i d hd => ?_⟩
      obtain ⟨f', q, hq⟩ := r1 i _ (by rw [List.getElem?_map, hd]; rfl)
      have hcs := trod_two he1 hfs hce1 hf0 hgo hf hg hcf hcg hq
      refine ⟨[.int .u8 d.1, .int .u8 d.2], rfl, fun j v hj => ?_, fun C w => ⟨.int .u8 d.1, [.int .u8 d.2], rfl, ⟨rfl, rfl⟩, ⟨.int .u8 d.2, [], rfl, ⟨rfl, rfl⟩, rfl⟩⟩⟩
      match j, hj with
      | 0, hj =>
        cases hj
        rw [World.var?_cell hg1 hv1]
        have := congrArg (·[0]?) hcs
        simpa [Rw.n, List.getElem?_take, List.getElem?_drop] using this
      | 1, hj =>
        cases hj
        rw [World.var?_cell hg1 hv1]
        have := congrArg (·[1]?) hcs
        simpa [Rw.n, List.getElem?_take, List.getElem?_drop] using this
      | j + 2, hj => simp at hj
    · exfalso
      match gg, h0, h1 with
      | 0, h0, _ => exact h0 rfl
      | 1, _, h1 => exact h1 rfl
      | n + 2, _, _ => simp [Nat.beq] at hgg
def u8B (P : Program) (t : TypeId) : Bool := match P.underlying t with
  | some (.int .u8) => P.cellsOf t == 1
  | _ => false
theorem u8B_ok {t : TypeId} (h : u8B P t = true) : P.underlying t = some (.int .u8) ∧ P.cellsOf t = 1 := by
  unfold u8B at h
  split at h
  · rename_i e; exact ⟨e, by simpa using h⟩
  · cases h
def twoB (P : Program) (t : TypeId) : Bool := match P.underlying t with
  | some (.struct fs) => match fs.toList with
    | [f, g] => f.offset == 0 && g.offset == 1 && u8B P f.type && u8B P g.type && P.cellsOf t == 2
    | _ => false
  | _ => false
/-- The two tables' types, looked at. -/
def tabB (P : Program) (t0 t1 e0 e1 : TypeId) : Bool :=
  P.globalNamed "unicode/utf8.first" == some 0 && P.globalNamed "unicode/utf8.acceptRanges" == some 1 && (P.globals[0]?).map (·.type) == some t0 && (P.globals[1]?).map (·.type) == some t1 &&
  P.cellsOf t0 == 256 && P.cellsOf t1 == 32 && u8B P e0 && twoB P e1
theorem globI_utfB {W : World} {d0 d1 : DataW Unit} (hm : laidMet P [("unicode/utf8.acceptRanges", d1), ("unicode/utf8.first", d0)] W)
    (hd0 : d0 = .agg (utfFirst.map fun z => .lit (.int .u8 z))) (hd1 : d1 = .agg (utfAccept.map fun z => .agg [.lit (.int .u8 z.1), .lit (.int .u8 z.2)]))
    (t0 t1 e0 e1 : TypeId) (hB : tabB P t0 t1 e0 e1 = true) (ht0 : P.underlying t0 = some (.array 256 e0)) (ht1 : P.underlying t1 = some (.array 16 e1)) : GlobI utfGlob W.heap.size W := by
  unfold tabB at hB
  simp only [Bool.and_eq_true, beq_iff_eq] at hB
  obtain ⟨⟨⟨⟨⟨⟨⟨a1, a2⟩, a3⟩, a4⟩, a5⟩, a6⟩, a7⟩, a8⟩ := hB
  unfold twoB at a8
  split at a8
  · rename_i fs hfs
    split at a8
    · rename_i f g hfg
      simp only [Bool.and_eq_true, beq_iff_eq] at a8
      obtain ⟨⟨⟨⟨b1, b2⟩, b3⟩, b4⟩, b5⟩ := a8
      obtain ⟨c1, c2⟩ := u8B_ok b3
      obtain ⟨c3, c4⟩ := u8B_ok b4
      obtain ⟨c5, c6⟩ := u8B_ok a7
      exact globI_utf hm hd0 hd1 a1 a2 a3 a4 ht0 ht1 c5 hfs hfg b1 b2 c1 c3 c2 c4 a5 a6 c6 b5
    · cases a8
  · cases a8
def lay (xs : List Value) : Obj → Obj
  | .cells _ t frozen => .cells xs.toArray t frozen
  | o => o
/-- What the tables' initialisers lay. -/
def layUtf (h : Array Obj) : Array Obj := (h.modify 0 (lay (utfFirst.map fun z => .int .u8 z))).modify 1 (lay (utfAccept.flatMap fun z => [.int .u8 z.1, .int .u8 z.2]))
end Go.Ev
end
