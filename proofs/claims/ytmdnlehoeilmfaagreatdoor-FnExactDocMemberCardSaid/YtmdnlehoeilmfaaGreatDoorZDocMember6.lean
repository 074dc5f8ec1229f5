/- DocMember: parts FiareHeld FiisDoc FiDocmember1 FslicesBinarySearchFuncMemberint FiDocmember Fiedits FiStackcopied FiMembercopied FiDocMember PDocW EvLDocMember EvKind EvOne EvTab, packed by squash.py. -/
import GoSem.ClaimWide
import Derived.Lib.LaidTab
import GoSem.PinnedTables
import Derived.Test.YtmdnlehoeilmfaaGreatDoorZDocMember0
import Derived.Test.YtmdnlehoeilmfaaGreatDoorZDocMember1
import Derived.Test.YtmdnlehoeilmfaaGreatDoorZDocMember2
import Derived.Test.YtmdnlehoeilmfaaGreatDoorZDocMember3
import Derived.Test.YtmdnlehoeilmfaaGreatDoorZDocMember4
import Derived.Test.YtmdnlehoeilmfaaGreatDoorZDocMember5
set_option linter.unusedVariables false
set_option linter.unusedSimpArgs false
section
/- i_areHeld: its contract. -/
namespace Go.Ev.Seat
open Go.RowKit
set_option maxRecDepth 100000
set_option linter.unusedVariables false
set_option linter.unusedSimpArgs false
def z_i_areHeld_9_0 (x0 : List T_Lease) (x1 : List Int) (x2 : Int) (x6 : Bool) (x14 : List T_Lease) (x15 : Int) (x16 : Int) : St := { tm := ([(.l .no leaseR x0), (.l .no bytesR x1), (.s (.int .i64 x2)), .x, .x, .x, (.s (.bool x6)), .x, .x, .x, .x, .x, .x, .x, (.l .no leaseR x14), (.s (.int .i64 x15)), (.s (.int .i64 x16))] ++ List.replicate 50 .x), ob := [], nx := 0, io := [] }
def z_i_areHeld_9_1 (x0 : List T_Lease) (x1 : List Int) (x2 : Int) (x14 : List T_Lease) (x15 : Int) (x16 : Int) : St := { tm := ([(.l .no leaseR x0), (.l .no bytesR x1), (.s (.int .i64 x2)), .x, .x, .x, .x, .x, .x, .x, .x, .x, .x, .x, (.l .no leaseR x14), (.s (.int .i64 x15)), (.s (.int .i64 x16))] ++ List.replicate 50 .x), ob := [], nx := 0, io := [] }
def sh_i_areHeld_9_0 : Ss := { tm := (.cons (.l .no leaseR) (.cons (.l .no bytesR) (.cons (.int .i64) (.cons (.x) (.cons (.x) (.cons (.x) (.cons (.x) (.cons (.x) (.cons (.pb 0 0) (.cons (.x) (.cons (.x) (.cons (.x) (.cons (.x) (.cons (.x) (.cons (.l .no leaseR) (.cons (.int .i64) (.cons (.int .i64) (.cons (.x) (.cons (.x) (.cons (.x) (.cons (.x) (.cons (.x) (.cons (.x) (.cons (.x) (.cons (.x) (.cons (.x) (.cons (.x) (.cons (.x) (.cons (.x) (.cons (.x) (.cons (.x) (.cons (.x) (.cons (.x) (.cons (.x) (.cons (.x) (.cons (.x) (.cons (.x) (.cons (.x) (.cons (.x) (.cons (.x) (.cons (.x) (.cons (.l .no leaseR) (.cons (.int .i64) (.cons (.int .i64) (xsh 23))))))))))))))))))))))))))))))))))))))))))))), ob := (.box (.cons (.int .i64) (.cons (.int .i64) (.cons (.int .i64) (.cons (.int .i64) .nil)))) .nil), nx := 1, io := .nil }
def d_i_areHeld_9_0 (x0 : List T_Lease) (x1 : List Int) (x2 : Int) (x14 : List T_Lease) (x15 : Int) (x16 : Int) (x41 : List T_Lease) (x42 : Int) (x43 : Int) (b00 : Int) (b01 : Int) (b02 : Int) (b03 : Int) : sh_i_areHeld_9_0.T := ((x0, (x1, (x2, ((), ((), ((), ((), ((), ((), ((), ((), ((), ((), ((), (x14, (x15, (x16, ((), ((), ((), ((), ((), ((), ((), ((), ((), ((), ((), ((), ((), ((), ((), ((), ((), ((), ((), ((), ((), ((), ((), ((), (x41, (x42, (x43, xd 23)))))))))))))))))))))))))))))))))))))))))))), ((b00, (b01, (b02, (b03, ())))), ()), ())
def s_i_areHeld_9_0 (x0 : List T_Lease) (x1 : List Int) (x2 : Int) (x14 : List T_Lease) (x15 : Int) (x16 : Int) (x41 : List T_Lease) (x42 : Int) (x43 : Int) (b00 : Int) (b01 : Int) (b02 : Int) (b03 : Int) : St := { tm := ([(.l .no leaseR x0), (.l .no bytesR x1), (.s (.int .i64 x2)), .x, .x, .x, .x, .x, (.pb 0 0), .x, .x, .x, .x, .x, (.l .no leaseR x14), (.s (.int .i64 x15)), (.s (.int .i64 x16)), .x, .x, .x, .x, .x, .x, .x, .x, .x, .x, .x, .x, .x, .x, .x, .x, .x, .x, .x, .x, .x, .x, .x, .x, (.l .no leaseR x41), (.s (.int .i64 x42)), (.s (.int .i64 x43))] ++ List.replicate 23 .x), ob := [(0, (.box [(.s (.int .i64 b00)), (.s (.int .i64 b01)), (.s (.int .i64 b02)), (.s (.int .i64 b03))]))], nx := 1, io := [] }
theorem se_i_areHeld_9_0 (x0 : List T_Lease) (x1 : List Int) (x2 : Int) (x14 : List T_Lease) (x15 : Int) (x16 : Int) (x41 : List T_Lease) (x42 : Int) (x43 : Int) (b00 : Int) (b01 : Int) (b02 : Int) (b03 : Int) : sh_i_areHeld_9_0.mk' (d_i_areHeld_9_0 x0 x1 x2 x14 x15 x16 x41 x42 x43 b00 b01 b02 b03) = (s_i_areHeld_9_0 x0 x1 x2 x14 x15 x16 x41 x42 x43 b00 b01 b02 b03) := by kernel_rfl
def w_i_areHeld_9_0 (d : sh_i_areHeld_9_0.T) (f : (List T_Lease) → (List Int) → Int → (List T_Lease) → Int → Int → (List T_Lease) → Int → Int → Int → Int → Int → Int → Option Ret) : Option Ret := match d with | ((x0, (x1, (x2, (_, (_, (_, (_, (_, (_, (_, (_, (_, (_, (_, (x14, (x15, (x16, (_, (_, (_, (_, (_, (_, (_, (_, (_, (_, (_, (_, (_, (_, (_, (_, (_, (_, (_, (_, (_, (_, (_, (_, (x41, (x42, (x43, _)))))))))))))))))))))))))))))))))))))))))))), ((b00, (b01, (b02, (b03, _)))), _), _) => f x0 x1 x2 x14 x15 x16 x41 x42 x43 b00 b01 b02 b03
noncomputable def P_i_areHeld_9_0 (x0 : List T_Lease) (x1 : List Int) (x2 : Int) (x14 : List T_Lease) (x15 : Int) (x16 : Int) (x41 : List T_Lease) (x42 : Int) (x43 : Int) (b00 : Int) (b01 : Int) (b02 : Int) (b03 : Int) (nx0 : (List T_Lease) → (List Int) → Int → (List T_Lease) → Int → Int → (List T_Lease) → Int → Int → Int → Int → Int → Int → Option Ret) (k0 : (List T_Lease) → (List Int) → Int → Bool → (List T_Lease) → Int → Int → Option Ret) (k1 : (List T_Lease) → (List Int) → Int → (List T_Lease) → Int → Int → Option Ret) : Option Ret := (bif (decide (x43 < x42)) then (bif ((decide ((0 : Int) ≤ x43)) && (decide (x43 < (((List.length x41) : Nat) : Int)))) then (bif ((List.getD x41 (Int.toNat x43) (leaseR.dflt)).2.2.1 != b02) then (bif (decide ((if b00 > (List.getD x41 (Int.toNat x43) (leaseR.dflt)).1 then b00 else (List.getD x41 (Int.toNat x43) (leaseR.dflt)).1) < (if b01 < (List.getD x41 (Int.toNat x43) (leaseR.dflt)).2.1 then b01 else (List.getD x41 (Int.toNat x43) (leaseR.dflt)).2.1))) then (k0 x0 x1 x2 false x14 x15 x16) else (nx0 x0 x1 x2 x14 x15 x16 x41 x42 (IntKind.wrap .i64 (x43 + (1 : Int))) b00 b01 b02 b03)) else (nx0 x0 x1 x2 x14 x15 x16 x41 x42 (IntKind.wrap .i64 (x43 + (1 : Int))) b00 b01 b02 b03)) else none) else (k1 x0 x1 x2 x14 x15 x16))
noncomputable def Q_i_areHeld_9_0 : Nat → (List T_Lease) → (List Int) → Int → (List T_Lease) → Int → Int → (List T_Lease) → Int → Int → Int → Int → Int → Int → ((List T_Lease) → (List Int) → Int → Bool → (List T_Lease) → Int → Int → Option Ret) → ((List T_Lease) → (List Int) → Int → (List T_Lease) → Int → Int → Option Ret) → Option Ret
  | 0, _, _, _, _, _, _, _, _, _, _, _, _, _, _, _ => none
  | m + 1, x0, x1, x2, x14, x15, x16, x41, x42, x43, b00, b01, b02, b03, k0, k1 => P_i_areHeld_9_0 x0 x1 x2 x14 x15 x16 x41 x42 x43 b00 b01 b02 b03 (fun x0 x1 x2 x14 x15 x16 x41 x42 x43 b00 b01 b02 b03 => (Q_i_areHeld_9_0 m x0 x1 x2 x14 x15 x16 x41 x42 x43 b00 b01 b02 b03 k0 k1)) k0 k1
noncomputable def R_i_areHeld_9_0 (x0 : List T_Lease) (x1 : List Int) (x2 : Int) (x14 : List T_Lease) (x15 : Int) (x16 : Int) (x41 : List T_Lease) (x42 : Int) (x43 : Int) (b00 : Int) (b01 : Int) (b02 : Int) (b03 : Int) (k0 : (List T_Lease) → (List Int) → Int → Bool → (List T_Lease) → Int → Int → Option Ret) (k1 : (List T_Lease) → (List Int) → Int → (List T_Lease) → Int → Int → Option Ret) : Option Ret := Q_i_areHeld_9_0 (List.length x0 + List.length x1 + x2.toNat + List.length x14 + x15.toNat + x16.toNat + List.length x41 + x42.toNat + x43.toNat + b00.toNat + b01.toNat + b02.toNat + b03.toNat + 2) x0 x1 x2 x14 x15 x16 x41 x42 x43 b00 b01 b02 b03 k0 k1
noncomputable def W_i_areHeld_9 : LoopFn := (fun (σ : St) (K : Ex → St → Option Ret) => (match sh_i_areHeld_9_0.un σ with | some d => w_i_areHeld_9_0 d (fun x0 x1 x2 x14 x15 x16 x41 x42 x43 b00 b01 b02 b03 => R_i_areHeld_9_0 x0 x1 x2 x14 x15 x16 x41 x42 x43 b00 b01 b02 b03 (fun x0 x1 x2 x6 x14 x15 x16 => (K .ret (z_i_areHeld_9_0 x0 x1 x2 x6 x14 x15 x16))) (fun x0 x1 x2 x14 x15 x16 => (K (.ext 2) (z_i_areHeld_9_1 x0 x1 x2 x14 x15 x16)))) | none => none))
def z_i_areHeld_4_0 (x6 : Bool) : St := { tm := ([.x, .x, .x, .x, .x, .x, (.s (.bool x6))] ++ List.replicate 60 .x), ob := [], nx := 0, io := [] }
def z_i_areHeld_4_1 : St := { tm := ([] ++ List.replicate 67 .x), ob := [], nx := 0, io := [] }
def sh_i_areHeld_4_0 : Ss := { tm := (.cons (.l .no leaseR) (.cons (.l .no bytesR) (.cons (.int .i64) (.cons (.x) (.cons (.x) (.cons (.x) (.cons (.x) (.cons (.x) (.cons (.x) (.cons (.x) (.cons (.x) (.cons (.x) (.cons (.x) (.cons (.x) (.cons (.l .no leaseR) (.cons (.int .i64) (.cons (.int .i64) (xsh 50)))))))))))))))))), ob := .nil, nx := 0, io := .nil }
def d_i_areHeld_4_0 (x0 : List T_Lease) (x1 : List Int) (x2 : Int) (x14 : List T_Lease) (x15 : Int) (x16 : Int) : sh_i_areHeld_4_0.T := ((x0, (x1, (x2, ((), ((), ((), ((), ((), ((), ((), ((), ((), ((), ((), (x14, (x15, (x16, xd 50))))))))))))))))), (), ())
def s_i_areHeld_4_0 (x0 : List T_Lease) (x1 : List Int) (x2 : Int) (x14 : List T_Lease) (x15 : Int) (x16 : Int) : St := { tm := ([(.l .no leaseR x0), (.l .no bytesR x1), (.s (.int .i64 x2)), .x, .x, .x, .x, .x, .x, .x, .x, .x, .x, .x, (.l .no leaseR x14), (.s (.int .i64 x15)), (.s (.int .i64 x16))] ++ List.replicate 50 .x), ob := [], nx := 0, io := [] }
theorem se_i_areHeld_4_0 (x0 : List T_Lease) (x1 : List Int) (x2 : Int) (x14 : List T_Lease) (x15 : Int) (x16 : Int) : sh_i_areHeld_4_0.mk' (d_i_areHeld_4_0 x0 x1 x2 x14 x15 x16) = (s_i_areHeld_4_0 x0 x1 x2 x14 x15 x16) := by kernel_rfl
def w_i_areHeld_4_0 (d : sh_i_areHeld_4_0.T) (f : (List T_Lease) → (List Int) → Int → (List T_Lease) → Int → Int → Option Ret) : Option Ret := match d with | ((x0, (x1, (x2, (_, (_, (_, (_, (_, (_, (_, (_, (_, (_, (_, (x14, (x15, (x16, _))))))))))))))))), _, _) => f x0 x1 x2 x14 x15 x16
noncomputable def P_i_areHeld_4_0 (x0 : List T_Lease) (x1 : List Int) (x2 : Int) (x14 : List T_Lease) (x15 : Int) (x16 : Int) (nx0 : (List T_Lease) → (List Int) → Int → (List T_Lease) → Int → Int → Option Ret) (k0 : Bool → Option Ret) (k1 : Option Ret) : Option Ret := (bif (decide (x16 < x15)) then (bif ((decide ((0 : Int) ≤ x16)) && (decide (x16 < (((List.length x14) : Nat) : Int)))) then (bif (!(decide ((List.getD x14 (Int.toNat x16) (leaseR.dflt)).2.2.2 > x2))) then (k0 false) else (bif (fitB x1) then (bif (!(isCutD x1 (List.getD x14 (Int.toNat x16) (leaseR.dflt)).1)) then (k0 false) else (bif (fitB x1) then (bif (!(isCutD x1 (List.getD x14 (Int.toNat x16) (leaseR.dflt)).2.1)) then (k0 false) else (bif ((decide ((0 : Int) ≤ x16)) && (decide (x16 ≤ (((List.length x0) : Nat) : Int)))) then (R_i_areHeld_9_0 x0 x1 x2 x14 x15 x16 (List.take (Int.toNat x16) x0) (((List.length (List.take (Int.toNat x16) x0)) : Nat) : Int) (0 : Int) (List.getD x14 (Int.toNat x16) (leaseR.dflt)).1 (List.getD x14 (Int.toNat x16) (leaseR.dflt)).2.1 (List.getD x14 (Int.toNat x16) (leaseR.dflt)).2.2.1 (List.getD x14 (Int.toNat x16) (leaseR.dflt)).2.2.2 (fun y0 y1 y2 y3 y4 y5 y6 => (k0 y3)) (fun y7 y8 y9 y10 y11 y12 => (nx0 y7 y8 y9 y10 y11 (IntKind.wrap .i64 (y12 + (1 : Int)))))) else none)) else none)) else none)) else none) else k1)
noncomputable def Q_i_areHeld_4_0 : Nat → (List T_Lease) → (List Int) → Int → (List T_Lease) → Int → Int → (Bool → Option Ret) → (Option Ret) → Option Ret
  | 0, _, _, _, _, _, _, _, _ => none
  | m + 1, x0, x1, x2, x14, x15, x16, k0, k1 => P_i_areHeld_4_0 x0 x1 x2 x14 x15 x16 (fun x0 x1 x2 x14 x15 x16 => (Q_i_areHeld_4_0 m x0 x1 x2 x14 x15 x16 k0 k1)) k0 k1
noncomputable def R_i_areHeld_4_0 (x0 : List T_Lease) (x1 : List Int) (x2 : Int) (x14 : List T_Lease) (x15 : Int) (x16 : Int) (k0 : Bool → Option Ret) (k1 : Option Ret) : Option Ret := Q_i_areHeld_4_0 (List.length x0 + List.length x1 + x2.toNat + List.length x14 + x15.toNat + x16.toNat + 2) x0 x1 x2 x14 x15 x16 k0 k1
noncomputable def W_i_areHeld_4 : LoopFn := (fun (σ : St) (K : Ex → St → Option Ret) => (match sh_i_areHeld_4_0.un σ with | some d => w_i_areHeld_4_0 d (fun x0 x1 x2 x14 x15 x16 => R_i_areHeld_4_0 x0 x1 x2 x14 x15 x16 (fun x6 => (K .ret (z_i_areHeld_4_0 x6))) (K (.ext 0) z_i_areHeld_4_1)) | none => none))
noncomputable abbrev E_i_areHeld : Env := En [(N.i_areLeases, true, S_i_areLeases), (N.i_Lease_isActive, true, S_i_Lease_isActive), (N.i_isCut, true, S_i_isCut)] [] [(9, [0,1,2,8,14,15,16,41,42,43], [0,1,2,6,14,15,16], W_i_areHeld_9), (4, [0,1,2,14,15,16], [6], W_i_areHeld_4)] [] false 0 []
theorem st_i_areHeld_9_0 (m : Nat) (x0 : List T_Lease) (x1 : List Int) (x2 : Int) (x14 : List T_Lease) (x15 : Int) (x16 : Int) (x41 : List T_Lease) (x42 : Int) (x43 : Int) (b00 : Int) (b01 : Int) (b02 : Int) (b03 : Int) (K : Ex → St → Option Ret) : rounds (run E_i_areHeld (bodyOf F.i_areHeld 9)) [0,1,2,8,14,15,16,41,42,43] [0,1,2,6,14,15,16] (m + 1) (s_i_areHeld_9_0 x0 x1 x2 x14 x15 x16 x41 x42 x43 b00 b01 b02 b03) K = P_i_areHeld_9_0 x0 x1 x2 x14 x15 x16 x41 x42 x43 b00 b01 b02 b03 (fun x0 x1 x2 x14 x15 x16 x41 x42 x43 b00 b01 b02 b03 => (rounds (run E_i_areHeld (bodyOf F.i_areHeld 9)) [0,1,2,8,14,15,16,41,42,43] [0,1,2,6,14,15,16] m (s_i_areHeld_9_0 x0 x1 x2 x14 x15 x16 x41 x42 x43 b00 b01 b02 b03) K)) (fun x0 x1 x2 x6 x14 x15 x16 => (K .ret (z_i_areHeld_9_0 x0 x1 x2 x6 x14 x15 x16))) (fun x0 x1 x2 x14 x15 x16 => (K (.ext 2) (z_i_areHeld_9_1 x0 x1 x2 x14 x15 x16))) := by kernel_rfl
theorem q_i_areHeld_9 (K : Ex → St → Option Ret) : ∀ m : Nat, (∀ (x0 : List T_Lease) (x1 : List Int) (x2 : Int) (x14 : List T_Lease) (x15 : Int) (x16 : Int) (x41 : List T_Lease) (x42 : Int) (x43 : Int) (b00 : Int) (b01 : Int) (b02 : Int) (b03 : Int), rounds (run E_i_areHeld (bodyOf F.i_areHeld 9)) [0,1,2,8,14,15,16,41,42,43] [0,1,2,6,14,15,16] m (s_i_areHeld_9_0 x0 x1 x2 x14 x15 x16 x41 x42 x43 b00 b01 b02 b03) K = Q_i_areHeld_9_0 m x0 x1 x2 x14 x15 x16 x41 x42 x43 b00 b01 b02 b03 (fun x0 x1 x2 x6 x14 x15 x16 => (K .ret (z_i_areHeld_9_0 x0 x1 x2 x6 x14 x15 x16))) (fun x0 x1 x2 x14 x15 x16 => (K (.ext 2) (z_i_areHeld_9_1 x0 x1 x2 x14 x15 x16))))
  | 0 => (fun _ _ _ _ _ _ _ _ _ _ _ _ _ => rfl)
  | m + 1 => (fun x0 x1 x2 x14 x15 x16 x41 x42 x43 b00 b01 b02 b03 => (by rw [st_i_areHeld_9_0, show (fun x0 x1 x2 x14 x15 x16 x41 x42 x43 b00 b01 b02 b03 => (rounds (run E_i_areHeld (bodyOf F.i_areHeld 9)) [0,1,2,8,14,15,16,41,42,43] [0,1,2,6,14,15,16] m (s_i_areHeld_9_0 x0 x1 x2 x14 x15 x16 x41 x42 x43 b00 b01 b02 b03) K)) = (fun x0 x1 x2 x14 x15 x16 x41 x42 x43 b00 b01 b02 b03 => (Q_i_areHeld_9_0 m x0 x1 x2 x14 x15 x16 x41 x42 x43 b00 b01 b02 b03 (fun x0 x1 x2 x6 x14 x15 x16 => (K .ret (z_i_areHeld_9_0 x0 x1 x2 x6 x14 x15 x16))) (fun x0 x1 x2 x14 x15 x16 => (K (.ext 2) (z_i_areHeld_9_1 x0 x1 x2 x14 x15 x16))))) from funext fun x0 => funext fun x1 => funext fun x2 => funext fun x14 => funext fun x15 => funext fun x16 => funext fun x41 => funext fun x42 => funext fun x43 => funext fun b00 => funext fun b01 => funext fun b02 => funext fun b03 => (q_i_areHeld_9 K m) x0 x1 x2 x14 x15 x16 x41 x42 x43 b00 b01 b02 b03]; rfl))
theorem loopK_i_areHeld_9 : LoopOk E_i_areHeld (bodyOf F.i_areHeld 9) := by
  refine loopW_ok (n := 9) (F := W_i_areHeld_9) (by kernel_rfl) rfl (li := [0,1,2,8,14,15,16,41,42,43]) (lo := [0,1,2,6,14,15,16]) rfl (fun σ K r hr => ?_)
  unfold W_i_areHeld_9 at hr
  split at hr
  · rename_i d hd
    rw [Ss.un_mk hd]
    exact ⟨_, ((congrArg (fun z => rounds (run E_i_areHeld (bodyOf F.i_areHeld 9)) [0,1,2,8,14,15,16,41,42,43] [0,1,2,6,14,15,16] _ z K) (se_i_areHeld_9_0 _ _ _ _ _ _ _ _ _ _ _ _ _)).trans ((q_i_areHeld_9 K _) _ _ _ _ _ _ _ _ _ _ _ _ _)).trans hr⟩
  · cases hr
theorem st_i_areHeld_4_0 (m : Nat) (x0 : List T_Lease) (x1 : List Int) (x2 : Int) (x14 : List T_Lease) (x15 : Int) (x16 : Int) (K : Ex → St → Option Ret) : rounds (run E_i_areHeld (bodyOf F.i_areHeld 4)) [0,1,2,14,15,16] [6] (m + 1) (s_i_areHeld_4_0 x0 x1 x2 x14 x15 x16) K = P_i_areHeld_4_0 x0 x1 x2 x14 x15 x16 (fun x0 x1 x2 x14 x15 x16 => (rounds (run E_i_areHeld (bodyOf F.i_areHeld 4)) [0,1,2,14,15,16] [6] m (s_i_areHeld_4_0 x0 x1 x2 x14 x15 x16) K)) (fun x6 => (K .ret (z_i_areHeld_4_0 x6))) (K (.ext 0) z_i_areHeld_4_1) := by kernel_rfl
theorem q_i_areHeld_4 (K : Ex → St → Option Ret) : ∀ m : Nat, (∀ (x0 : List T_Lease) (x1 : List Int) (x2 : Int) (x14 : List T_Lease) (x15 : Int) (x16 : Int), rounds (run E_i_areHeld (bodyOf F.i_areHeld 4)) [0,1,2,14,15,16] [6] m (s_i_areHeld_4_0 x0 x1 x2 x14 x15 x16) K = Q_i_areHeld_4_0 m x0 x1 x2 x14 x15 x16 (fun x6 => (K .ret (z_i_areHeld_4_0 x6))) (K (.ext 0) z_i_areHeld_4_1))
  | 0 => (fun _ _ _ _ _ _ => rfl)
  | m + 1 => (fun x0 x1 x2 x14 x15 x16 => (by rw [st_i_areHeld_4_0, show (fun x0 x1 x2 x14 x15 x16 => (rounds (run E_i_areHeld (bodyOf F.i_areHeld 4)) [0,1,2,14,15,16] [6] m (s_i_areHeld_4_0 x0 x1 x2 x14 x15 x16) K)) = (fun x0 x1 x2 x14 x15 x16 => (Q_i_areHeld_4_0 m x0 x1 x2 x14 x15 x16 (fun x6 => (K .ret (z_i_areHeld_4_0 x6))) (K (.ext 0) z_i_areHeld_4_1))) from funext fun x0 => funext fun x1 => funext fun x2 => funext fun x14 => funext fun x15 => funext fun x16 => (q_i_areHeld_4 K m) x0 x1 x2 x14 x15 x16]; rfl))
theorem loopK_i_areHeld_4 : LoopOk E_i_areHeld (bodyOf F.i_areHeld 4) := by
  refine loopW_ok (n := 4) (F := W_i_areHeld_4) (by kernel_rfl) rfl (li := [0,1,2,14,15,16]) (lo := [6]) rfl (fun σ K r hr => ?_)
  unfold W_i_areHeld_4 at hr
  split at hr
  · rename_i d hd
    rw [Ss.un_mk hd]
    exact ⟨_, ((congrArg (fun z => rounds (run E_i_areHeld (bodyOf F.i_areHeld 4)) [0,1,2,14,15,16] [6] _ z K) (se_i_areHeld_4_0 _ _ _ _ _ _)).trans ((q_i_areHeld_4 K _) _ _ _ _ _ _)).trans hr⟩
  · cases hr
noncomputable def T_i_areHeld (l : List T_Lease) (t : List Int) (c : Int) (K : Ret → Option Ret) : Option Ret := (bif (Nat.ble (List.length l) 1048576) then (bif (!(leasesOkD l)) then K ((.s (.bool false)), []) else (R_i_areHeld_4_0 l t c l (((List.length l) : Nat) : Int) (0 : Int) (fun y13 => K ((.s (.bool y13)), [])) (K ((.s (.bool true)), [])))) else none)
theorem e_i_areHeld (l : List T_Lease) (t : List Int) (c : Int) (K : Ret → Option Ret) : evF E_i_areHeld true F.i_areHeld [.l .no leaseR l, .l .no bytesR t, .s (.int .i64 c)] K = T_i_areHeld l t c K := by kernel_rfl
def S_i_areHeld : Sm := S_fnR [.l leaseR, .l bytesR, .i] (fun d => fitC (.sl leaseR) d.1 && fitB d.2.1) (fun d => (bl (heldD d.2.1 d.2.2.1 d.1), []))
theorem v_i_areHeld (l : List T_Lease) (t : List Int) (c : Int) (h : (fitC (.sl leaseR) l && fitB t) = true) (K : Ret → Option Ret) : T_i_areHeld l t c K = K (bl (heldD t c l), []) := by
  obtain ⟨h1, h2⟩ := (Bool.and_eq_true _ _).mp h
  have hl := fitC_len h1
  unfold T_i_areHeld heldD
  rw [Nat.ble_eq_true_of_le hl]
  cases leasesOkD l
  · rfl
  have q9 : ∀ (i : Nat) (hi : i ≤ l.length) (y : T_Lease) (n : Int) (k0 : List T_Lease → List Int → Int → Bool → List T_Lease → Int → Int → Option Ret) (k1 : List T_Lease → List Int → Int → List T_Lease → Int → Int → Option Ret), R_i_areHeld_9_0 l t c l n ((i : Nat) : Int) (List.take i l) (((List.length (List.take i l)) : Nat) : Int) 0 y.1 y.2.1 y.2.2.1 y.2.2.2 k0 k1 =
      bif allN i (fun k => !(((l.getD k zeroL).2.2.1 != y.2.2.1) && meetD (l.getD k zeroL) y)) then k1 l t c l n ((i : Nat) : Int) else k0 l t c false l n ((i : Nat) : Int) := by
    intro i hi y n k0 k1
    have hlen : (List.take i l).length = i := by rw [List.length_take]; omega
    rw [hlen]
    refine Eq.trans (idx_allN (R := fun m j => Q_i_areHeld_9_0 m l t c l n ((i : Nat) : Int) (List.take i l) ((i : Nat) : Int) j y.1 y.2.1 y.2.2.1 y.2.2.2 k0 k1) (p := fun k => !(((l.getD k zeroL).2.2.1 != y.2.2.1) && meetD (l.getD k zeroL) y)) (n := i) (kt := k1 l t c l n ((i : Nat) : Int)) (kf := k0 l t c false l n ((i : Nat) : Int)) (fun m j hj => by
      show P_i_areHeld_9_0 l t c l n ((i : Nat) : Int) (List.take i l) ((i : Nat) : Int) ((j : Nat) : Int) y.1 y.2.1 y.2.2.1 y.2.2.2 _ _ _ = _
      unfold P_i_areHeld_9_0 meetD
      have eg : (List.take i l).getD j leaseR.dflt = l.getD j zeroL := by
        rw [getD_lt _ (by omega), getD_lt _ (by omega), List.getElem_take]
      rw [hlen, decide_eq_true (show ((j : Nat) : Int) < ((i : Nat) : Int) by omega), decide_eq_true (show (0 : Int) ≤ ((j : Nat) : Int) by omega), Int.toNat_natCast, wrap_nat (by omega), eg]
      generalize l.getD j zeroL = o
      rw [show (if y.1 > o.1 then y.1 else o.1) = max o.1 y.1 by split <;> omega, show (if y.2.1 < o.2.1 then y.2.1 else o.2.1) = min o.2.1 y.2.1 by split <;> omega]
      cases (o.2.2.1 != y.2.2.1) <;> cases decide (max o.1 y.1 < min o.2.1 y.2.1) <;> rfl) (fun m => by
      show P_i_areHeld_9_0 l t c l n ((i : Nat) : Int) (List.take i l) ((i : Nat) : Int) ((i : Nat) : Int) y.1 y.2.1 y.2.2.1 y.2.2.2 _ _ _ = _
      unfold P_i_areHeld_9_0
      rw [decide_eq_false (show ¬ ((i : Nat) : Int) < ((i : Nat) : Int) by omega)]; rfl) _ 0 (by omega) (by omega)) ?_
    rw [Nat.sub_zero]; rfl
  have q4 : ∀ (k0 : Bool → Option Ret) (k1 : Option Ret), R_i_areHeld_4_0 l t c l ((l.length : Nat) : Int) 0 k0 k1 = bif allN l.length (heldAtD t c l) then k1 else k0 false := by
    intro k0 k1
    refine Eq.trans (idx_allN (R := fun m i => Q_i_areHeld_4_0 m l t c l ((l.length : Nat) : Int) i k0 k1) (p := heldAtD t c l) (n := l.length) (kt := k1) (kf := k0 false) (fun m i hi => by
      show P_i_areHeld_4_0 l t c l _ ((i : Nat) : Int) _ _ _ = _
      unfold P_i_areHeld_4_0 heldAtD
      rw [decide_eq_true (show ((i : Nat) : Int) < ((l.length : Nat) : Int) by omega), decide_eq_true (show (0 : Int) ≤ ((i : Nat) : Int) by omega), Int.toNat_natCast, show l.getD i leaseR.dflt = l.getD i zeroL from rfl, h2, decide_eq_true (show ((i : Nat) : Int) ≤ ((l.length : Nat) : Int) by omega), q9 i (by omega), wrap_nat (by omega)]
      cases decide ((l.getD i zeroL).2.2.2 > c)
      · rfl
      cases isCutD t (l.getD i zeroL).1
      · rfl
      cases isCutD t (l.getD i zeroL).2.1
      · rfl
      cases allN i (fun k => !(((l.getD k zeroL).2.2.1 != (l.getD i zeroL).2.2.1) && meetD (l.getD k zeroL) (l.getD i zeroL))) <;> rfl) (fun m => by
      show P_i_areHeld_4_0 l t c l _ ((l.length : Nat) : Int) _ _ _ = _
      unfold P_i_areHeld_4_0
      rw [decide_eq_false (show ¬ ((l.length : Nat) : Int) < ((l.length : Nat) : Int) by omega)]; rfl) _ 0 (by omega) (by omega)) ?_
    rw [Nat.sub_zero]; rfl
  rw [cond_true, Bool.not_true, cond_false, q4]
  cases allN l.length (heldAtD t c l) <;> rfl
theorem okS_i_areHeld : OkFn prog I N.i_areHeld true S_i_areHeld := okN (ok_fn (memc okS_i_areLeases (memc okS_i_Lease_isActive (memc okS_i_isCut mem0))) (l := [(N.i_areLeases, true, S_i_areLeases), (N.i_Lease_isActive, true, S_i_Lease_isActive), (N.i_isCut, true, S_i_isCut)]) (p := []) (ls := [(9, [0,1,2,8,14,15,16,41,42,43], [0,1,2,6,14,15,16], W_i_areHeld_9), (4, [0,1,2,14,15,16], [6], W_i_areHeld_4)]) (lend := []) (focus := false) (fuel := 0) (give := []) (fn := F.i_areHeld) (by kernel_rfl) (by kernel_rfl) (by kernel_rfl) (by kernel_rfl) (cs := [bodyOf F.i_areHeld 4, bodyOf F.i_areHeld 9]) (by kernel_rfl) (loopsc loopK_i_areHeld_4 (loopsc loopK_i_areHeld_9 loops0))) (S_fnR_of fun d K h => (e_i_areHeld d.1 d.2.1 d.2.2.1 K).trans (v_i_areHeld d.1 d.2.1 d.2.2.1 h K))
end Go.Ev.Seat
end
section
/- i_isDoc: its contract. -/
namespace Go.Ev.Seat
open Go.RowKit
set_option maxRecDepth 100000
set_option linter.unusedVariables false
set_option linter.unusedSimpArgs false
noncomputable abbrev E_i_isDoc : Env := En [(N.i_isText, true, S_i_isText), (N.i_areCommits, true, S_i_areCommits), (N.i_isClock, true, S_i_isClock), (N.i_areMembers, true, S_i_areMembers), (N.i_areHeld, true, S_i_areHeld)] [] [] [] false 0 []
noncomputable def T_i_isDoc (d : T_Doc) (K : Ret → Option Ret) : Option Ret := (bif (fitB d.1) then (bif (textOk d.1) then (bif (fitR docR d) then (bif (commitsD d.1 d.2.1 d.2.2.1) then (bif (clockD d.2.2.2.1) then (bif ((fitC (Cc.sl memberR) d.2.2.2.2.1) && (fitB d.2.1)) then (bif (membersD d.2.1 d.2.2.2.2.1) then (bif ((fitC (Cc.sl leaseR) d.2.2.2.2.2) && (fitB d.2.1)) then K ((.s (.bool (heldD d.2.1 d.2.2.2.1 d.2.2.2.2.2))), []) else none) else K ((.s (.bool false)), [])) else none) else K ((.s (.bool false)), [])) else K ((.s (.bool false)), [])) else none) else K ((.s (.bool false)), [])) else none)
theorem e_i_isDoc (d : T_Doc) (K : Ret → Option Ret) : evF E_i_isDoc true F.i_isDoc [.a (docR.cells .no d)] K = T_i_isDoc d K := by kernel_rfl
def S_i_isDoc : Sm := S_fnR [.a docR] (fun d => fitR docR d.1) (fun d => (bl (docOkD d.1), []))
theorem v_i_isDoc (d : T_Doc) (h : (fitR docR d) = true) (K : Ret → Option Ret) : T_i_isDoc d K = K (bl (docOkD d), []) := by
  obtain ⟨h1, h2, h3, h4, h5⟩ := fit_doc h
  unfold T_i_isDoc docOkD
  rw [h, h1, h2, h4, h5]
  cases textOk d.1 <;> cases commitsD d.1 d.2.1 d.2.2.1 <;> cases clockD d.2.2.2.1 <;> cases membersD d.2.1 d.2.2.2.2.1 <;> rfl
theorem okS_i_isDoc : OkFn prog I N.i_isDoc true S_i_isDoc := okN (ok_fn (memc okS_i_isText (memc okS_i_areCommits (memc okS_i_isClock (memc okS_i_areMembers (memc okS_i_areHeld mem0))))) (l := [(N.i_isText, true, S_i_isText), (N.i_areCommits, true, S_i_areCommits), (N.i_isClock, true, S_i_isClock), (N.i_areMembers, true, S_i_areMembers), (N.i_areHeld, true, S_i_areHeld)]) (p := []) (ls := []) (lend := []) (focus := false) (fuel := 0) (give := []) (fn := F.i_isDoc) (by kernel_rfl) (by kernel_rfl) (by kernel_rfl) (by kernel_rfl) (cs := []) (by kernel_rfl) loops0) (S_fnR_of fun d K h => (e_i_isDoc d.1 K).trans (v_i_isDoc d.1 h K))
end Go.Ev.Seat
end
section
/- i_Doc_member_1: its contract. -/
namespace Go.Ev.Seat
open Go.RowKit
set_option maxRecDepth 100000
set_option linter.unusedVariables false
set_option linter.unusedSimpArgs false
noncomputable abbrev E_i_Doc_member_1 : Env := En [(N.cmp_Compare_int, true, S_cmp_Compare_int)] [] [] [] false 0 []
noncomputable def T_i_Doc_member_1 (m : T_Member) (s : Int) (K : Ret → Option Ret) : Option Ret := K ((.s (.int .i64 (sgn m.1 s))), [])
theorem e_i_Doc_member_1 (m : T_Member) (s : Int) (K : Ret → Option Ret) : evF E_i_Doc_member_1 true F.i_Doc_member_1 [.a (memberR.cells .no m), .s (.int .i64 s)] K = T_i_Doc_member_1 m s K := by kernel_rfl
def S_i_Doc_member_1 : Sm := S_fnR [.a memberR, .i] (fun d => true) (fun d => (.s (.int .i64 (sgn d.1.1 d.2.1)), []))
theorem v_i_Doc_member_1 (m : T_Member) (s : Int) (K : Ret → Option Ret) : T_i_Doc_member_1 m s K = K (.s (.int .i64 (sgn m.1 s)), []) := rfl
theorem okS_i_Doc_member_1 : OkFn prog I N.i_Doc_member_1 true S_i_Doc_member_1 := okN (ok_fn (memc okS_cmp_Compare_int mem0) (l := [(N.cmp_Compare_int, true, S_cmp_Compare_int)]) (p := []) (ls := []) (lend := []) (focus := false) (fuel := 0) (give := []) (fn := F.i_Doc_member_1) (by kernel_rfl) (by kernel_rfl) (by kernel_rfl) (by kernel_rfl) (cs := []) (by kernel_rfl) loops0) (S_fnR_of fun d K h => (e_i_Doc_member_1 d.1 d.2.1 K).trans (v_i_Doc_member_1 d.1 d.2.1 K))
end Go.Ev.Seat
end
section
/- slices_BinarySearchFunc_Member_int: its contract. -/
namespace Go.Ev.Seat
open Go.RowKit
set_option maxRecDepth 100000
set_option linter.unusedVariables false
set_option linter.unusedSimpArgs false
def z_slices_BinarySearchFunc_Member_int_3_0 (x0 : List T_Member) (x1 : Int) (x8 : Int) (x9 : Int) : St := { tm := ([(.l .no memberR x0), (.s (.int .i64 x1)), (.f 144 []), .x, .x, .x, .x, .x, (.s (.int .i64 x8)), (.s (.int .i64 x9))] ++ List.replicate 39 .x), ob := [], nx := 0, io := [] }
def sh_slices_BinarySearchFunc_Member_int_3_0 : Ss := { tm := (.cons (.l .no memberR) (.cons (.int .i64) (.cons (.f 144 .nil) (.cons (.x) (.cons (.x) (.cons (.x) (.cons (.x) (.cons (.x) (.cons (.int .i64) (.cons (.int .i64) (.cons (.int .i64) (xsh 38)))))))))))), ob := .nil, nx := 0, io := .nil }
def d_slices_BinarySearchFunc_Member_int_3_0 (x0 : List T_Member) (x1 : Int) (x8 : Int) (x9 : Int) (x10 : Int) : sh_slices_BinarySearchFunc_Member_int_3_0.T := ((x0, (x1, ((), ((), ((), ((), ((), ((), (x8, (x9, (x10, xd 38))))))))))), (), ())
def s_slices_BinarySearchFunc_Member_int_3_0 (x0 : List T_Member) (x1 : Int) (x8 : Int) (x9 : Int) (x10 : Int) : St := { tm := ([(.l .no memberR x0), (.s (.int .i64 x1)), (.f 144 []), .x, .x, .x, .x, .x, (.s (.int .i64 x8)), (.s (.int .i64 x9)), (.s (.int .i64 x10))] ++ List.replicate 38 .x), ob := [], nx := 0, io := [] }
theorem se_slices_BinarySearchFunc_Member_int_3_0 (x0 : List T_Member) (x1 : Int) (x8 : Int) (x9 : Int) (x10 : Int) : sh_slices_BinarySearchFunc_Member_int_3_0.mk' (d_slices_BinarySearchFunc_Member_int_3_0 x0 x1 x8 x9 x10) = (s_slices_BinarySearchFunc_Member_int_3_0 x0 x1 x8 x9 x10) := by kernel_rfl
def w_slices_BinarySearchFunc_Member_int_3_0 (d : sh_slices_BinarySearchFunc_Member_int_3_0.T) (f : (List T_Member) → Int → Int → Int → Int → Option Ret) : Option Ret := match d with | ((x0, (x1, (_, (_, (_, (_, (_, (_, (x8, (x9, (x10, _))))))))))), _, _) => f x0 x1 x8 x9 x10
noncomputable def P_slices_BinarySearchFunc_Member_int_3_0 (x0 : List T_Member) (x1 : Int) (x8 : Int) (x9 : Int) (x10 : Int) (nx0 : (List T_Member) → Int → Int → Int → Int → Option Ret) (k0 : (List T_Member) → Int → Int → Int → Option Ret) : Option Ret := (bif (decide (x9 < x10)) then (bif ((decide ((0 : Int) ≤ (IntKind.wrap .i64 (shrI .u64 (IntKind.wrap .u64 (IntKind.wrap .i64 (x9 + x10))) (1 : Int))))) && (decide ((IntKind.wrap .i64 (shrI .u64 (IntKind.wrap .u64 (IntKind.wrap .i64 (x9 + x10))) (1 : Int))) < (((List.length x0) : Nat) : Int)))) then (bif (decide ((sgn (List.getD x0 (Int.toNat (IntKind.wrap .i64 (shrI .u64 (IntKind.wrap .u64 (IntKind.wrap .i64 (x9 + x10))) (1 : Int)))) (memberR.dflt)).1 x1) < (0 : Int))) then (nx0 x0 x1 x8 (IntKind.wrap .i64 ((IntKind.wrap .i64 (shrI .u64 (IntKind.wrap .u64 (IntKind.wrap .i64 (x9 + x10))) (1 : Int))) + (1 : Int))) x10) else (nx0 x0 x1 x8 x9 (IntKind.wrap .i64 (shrI .u64 (IntKind.wrap .u64 (IntKind.wrap .i64 (x9 + x10))) (1 : Int))))) else none) else (k0 x0 x1 x8 x9))
noncomputable def Q_slices_BinarySearchFunc_Member_int_3_0 : Nat → (List T_Member) → Int → Int → Int → Int → ((List T_Member) → Int → Int → Int → Option Ret) → Option Ret
  | 0, _, _, _, _, _, _ => none
  | m + 1, x0, x1, x8, x9, x10, k0 => P_slices_BinarySearchFunc_Member_int_3_0 x0 x1 x8 x9 x10 (fun x0 x1 x8 x9 x10 => (Q_slices_BinarySearchFunc_Member_int_3_0 m x0 x1 x8 x9 x10 k0)) k0
noncomputable def R_slices_BinarySearchFunc_Member_int_3_0 (x0 : List T_Member) (x1 : Int) (x8 : Int) (x9 : Int) (x10 : Int) (k0 : (List T_Member) → Int → Int → Int → Option Ret) : Option Ret := Q_slices_BinarySearchFunc_Member_int_3_0 (List.length x0 + x1.toNat + x8.toNat + x9.toNat + x10.toNat + 2) x0 x1 x8 x9 x10 k0
noncomputable def W_slices_BinarySearchFunc_Member_int_3 : LoopFn := (fun (σ : St) (K : Ex → St → Option Ret) => (match sh_slices_BinarySearchFunc_Member_int_3_0.un σ with | some d => w_slices_BinarySearchFunc_Member_int_3_0 d (fun x0 x1 x8 x9 x10 => R_slices_BinarySearchFunc_Member_int_3_0 x0 x1 x8 x9 x10 (fun x0 x1 x8 x9 => (K (.ext 0) (z_slices_BinarySearchFunc_Member_int_3_0 x0 x1 x8 x9)))) | none => none))
noncomputable abbrev E_slices_BinarySearchFunc_Member_int : Env := En [(N.i_Doc_member_1, true, S_i_Doc_member_1)] [] [(3, [0,1,2,8,9,10], [0,1,2,6,7,8,9], W_slices_BinarySearchFunc_Member_int_3)] [] false 0 []
theorem st_slices_BinarySearchFunc_Member_int_3_0 (m : Nat) (x0 : List T_Member) (x1 : Int) (x8 : Int) (x9 : Int) (x10 : Int) (K : Ex → St → Option Ret) : rounds (run E_slices_BinarySearchFunc_Member_int (bodyOf F.slices_BinarySearchFunc_Member_int 3)) [0,1,2,8,9,10] [0,1,2,6,7,8,9] (m + 1) (s_slices_BinarySearchFunc_Member_int_3_0 x0 x1 x8 x9 x10) K = P_slices_BinarySearchFunc_Member_int_3_0 x0 x1 x8 x9 x10 (fun x0 x1 x8 x9 x10 => (rounds (run E_slices_BinarySearchFunc_Member_int (bodyOf F.slices_BinarySearchFunc_Member_int 3)) [0,1,2,8,9,10] [0,1,2,6,7,8,9] m (s_slices_BinarySearchFunc_Member_int_3_0 x0 x1 x8 x9 x10) K)) (fun x0 x1 x8 x9 => (K (.ext 0) (z_slices_BinarySearchFunc_Member_int_3_0 x0 x1 x8 x9))) := by kernel_rfl
theorem q_slices_BinarySearchFunc_Member_int_3 (K : Ex → St → Option Ret) : ∀ m : Nat, (∀ (x0 : List T_Member) (x1 : Int) (x8 : Int) (x9 : Int) (x10 : Int), rounds (run E_slices_BinarySearchFunc_Member_int (bodyOf F.slices_BinarySearchFunc_Member_int 3)) [0,1,2,8,9,10] [0,1,2,6,7,8,9] m (s_slices_BinarySearchFunc_Member_int_3_0 x0 x1 x8 x9 x10) K = Q_slices_BinarySearchFunc_Member_int_3_0 m x0 x1 x8 x9 x10 (fun x0 x1 x8 x9 => (K (.ext 0) (z_slices_BinarySearchFunc_Member_int_3_0 x0 x1 x8 x9))))
  | 0 => (fun _ _ _ _ _ => rfl)
  | m + 1 => (fun x0 x1 x8 x9 x10 => (by rw [st_slices_BinarySearchFunc_Member_int_3_0, show (fun x0 x1 x8 x9 x10 => (rounds (run E_slices_BinarySearchFunc_Member_int (bodyOf F.slices_BinarySearchFunc_Member_int 3)) [0,1,2,8,9,10] [0,1,2,6,7,8,9] m (s_slices_BinarySearchFunc_Member_int_3_0 x0 x1 x8 x9 x10) K)) = (fun x0 x1 x8 x9 x10 => (Q_slices_BinarySearchFunc_Member_int_3_0 m x0 x1 x8 x9 x10 (fun x0 x1 x8 x9 => (K (.ext 0) (z_slices_BinarySearchFunc_Member_int_3_0 x0 x1 x8 x9))))) from funext fun x0 => funext fun x1 => funext fun x8 => funext fun x9 => funext fun x10 => (q_slices_BinarySearchFunc_Member_int_3 K m) x0 x1 x8 x9 x10]; rfl))
theorem loopK_slices_BinarySearchFunc_Member_int_3 : LoopOk E_slices_BinarySearchFunc_Member_int (bodyOf F.slices_BinarySearchFunc_Member_int 3) := by
  refine loopW_ok (n := 3) (F := W_slices_BinarySearchFunc_Member_int_3) (by kernel_rfl) rfl (li := [0,1,2,8,9,10]) (lo := [0,1,2,6,7,8,9]) rfl (fun σ K r hr => ?_)
  unfold W_slices_BinarySearchFunc_Member_int_3 at hr
  split at hr
  · rename_i d hd
    rw [Ss.un_mk hd]
    exact ⟨_, ((congrArg (fun z => rounds (run E_slices_BinarySearchFunc_Member_int (bodyOf F.slices_BinarySearchFunc_Member_int 3)) [0,1,2,8,9,10] [0,1,2,6,7,8,9] _ z K) (se_slices_BinarySearchFunc_Member_int_3_0 _ _ _ _ _)).trans ((q_slices_BinarySearchFunc_Member_int_3 K _) _ _ _ _ _)).trans hr⟩
  · cases hr
noncomputable def T_slices_BinarySearchFunc_Member_int (l : List T_Member) (s : Int) (K : Ret → Option Ret) : Option Ret := (R_slices_BinarySearchFunc_Member_int_3_0 l s (((List.length l) : Nat) : Int) (0 : Int) (((List.length l) : Nat) : Int) (fun y0 y1 y2 y3 => (bif (decide (y3 < y2)) then (bif ((decide ((0 : Int) ≤ y3)) && (decide (y3 < (((List.length y0) : Nat) : Int)))) then K ((.t [(.s (.int .i64 y3)), (.s (.bool ((sgn (List.getD y0 (Int.toNat y3) (memberR.dflt)).1 y1) == (0 : Int))))]), []) else none) else K ((.t [(.s (.int .i64 y3)), (.s (.bool false))]), []))))
theorem e_slices_BinarySearchFunc_Member_int (l : List T_Member) (s : Int) (K : Ret → Option Ret) : evF E_slices_BinarySearchFunc_Member_int true F.slices_BinarySearchFunc_Member_int [.l .no memberR l, .s (.int .i64 s), .f N.i_Doc_member_1 []] K = T_slices_BinarySearchFunc_Member_int l s K := by kernel_rfl
def S_slices_BinarySearchFunc_Member_int : Sm := S_fnR [.l memberR, .i, .sh (.f N.i_Doc_member_1 .nil)] (fun d => Nat.ble d.1.length 1048576 && monoB (fun x => decide (sgn x.1 d.2.1 < 0)) d.1) (fun d => (.t [.s (.int .i64 ((cutN (fun x => decide (sgn x.1 d.2.1 < 0)) d.1 : Nat) : Int)), .s (.bool (foundB (fun x => decide (sgn x.1 d.2.1 < 0)) (fun x => sgn x.1 d.2.1 == 0) (memberR).dflt d.1))], []))
theorem v_slices_BinarySearchFunc_Member_int (l : List T_Member) (s : Int) (h : (Nat.ble l.length 1048576 && monoB (fun x => decide (sgn x.1 s < 0)) l) = true) (K : Ret → Option Ret) : T_slices_BinarySearchFunc_Member_int l s K = K (.t [.s (.int .i64 ((cutN (fun x => decide (sgn x.1 s < 0)) l : Nat) : Int)), .s (.bool (foundB (fun x => decide (sgn x.1 s < 0)) (fun x => sgn x.1 s == 0) (memberR).dflt l))], []) := by
  have hpp : ∃ p : T_Member → Bool, p = (fun x => decide (sgn x.1 s < 0)) := ⟨_, rfl⟩
  obtain ⟨p, hp⟩ := hpp
  rw [← hp] at h ⊢
  simp only [Bool.and_eq_true] at h
  have hl := Nat.le_of_ble_eq_true h.1
  have hm : monoB p l = true := h.2
  have hc := cutN_le p l
  unfold T_slices_BinarySearchFunc_Member_int R_slices_BinarySearchFunc_Member_int_3_0
  have q : ∀ (k0 : List T_Member → Int → Int → Int → Option Ret) (m : Nat), l.length < m → Q_slices_BinarySearchFunc_Member_int_3_0 m l s ((l.length : Nat) : Int) ((0 : Nat) : Int) ((l.length : Nat) : Int) k0 = k0 l s ((l.length : Nat) : Int) ((cutN p l : Nat) : Int) := by
    intro k0 m hmm
    refine bs_loop (R := fun m i j => Q_slices_BinarySearchFunc_Member_int_3_0 m l s ((l.length : Nat) : Int) i j k0) (p := p) (kt := fun i => k0 l s ((l.length : Nat) : Int) i) (l := l) (z := (memberR).dflt) (fun m i j hij hj => ?_) (fun m i hi => ?_) hm m 0 l.length (Nat.zero_le _) hc (Nat.le_refl _) (by omega)
    · show P_slices_BinarySearchFunc_Member_int_3_0 l s ((l.length : Nat) : Int) ((i : Nat) : Int) ((j : Nat) : Int) _ _ = _
      unfold P_slices_BinarySearchFunc_Member_int_3_0
      rw [decide_eq_true (show ((i : Nat) : Int) < ((j : Nat) : Int) by omega), half_ok (by omega), decide_eq_true (show (0 : Int) ≤ (((i + j) / 2 : Nat) : Int) by omega), decide_eq_true (show (((i + j) / 2 : Nat) : Int) < ((l.length : Nat) : Int) by omega), Int.toNat_natCast, wrap_nat (by omega)]
      rw [hp]; rfl
    · show P_slices_BinarySearchFunc_Member_int_3_0 l s ((l.length : Nat) : Int) ((i : Nat) : Int) ((i : Nat) : Int) _ _ = _
      unfold P_slices_BinarySearchFunc_Member_int_3_0
      rw [decide_eq_false (show ¬ ((i : Nat) : Int) < ((i : Nat) : Int) by omega)]; rfl
  refine (q _ _ (by omega)).trans ?_
  unfold foundB
  by_cases hlt : cutN p l < l.length
  · rw [decide_eq_true (show ((cutN p l : Nat) : Int) < ((l.length : Nat) : Int) by omega), decide_eq_true (show (0 : Int) ≤ ((cutN p l : Nat) : Int) by omega), Int.toNat_natCast, show Nat.blt (cutN p l) l.length = true from Nat.ble_eq_true_of_le hlt]
    rfl
  · rw [decide_eq_false (show ¬ ((cutN p l : Nat) : Int) < ((l.length : Nat) : Int) by omega), show Nat.blt (cutN p l) l.length = false from Bool.eq_false_iff.2 (fun q => hlt (Nat.le_of_ble_eq_true q))]
    rfl
theorem okS_slices_BinarySearchFunc_Member_int : OkFn prog I N.slices_BinarySearchFunc_Member_int true S_slices_BinarySearchFunc_Member_int := okN (ok_fn (memc okS_i_Doc_member_1 mem0) (l := [(N.i_Doc_member_1, true, S_i_Doc_member_1)]) (p := []) (ls := [(3, [0,1,2,8,9,10], [0,1,2,6,7,8,9], W_slices_BinarySearchFunc_Member_int_3)]) (lend := []) (focus := false) (fuel := 0) (give := []) (fn := F.slices_BinarySearchFunc_Member_int) (by kernel_rfl) (by kernel_rfl) (by kernel_rfl) (by kernel_rfl) (cs := [bodyOf F.slices_BinarySearchFunc_Member_int 3]) (by kernel_rfl) (loopsc loopK_slices_BinarySearchFunc_Member_int_3 loops0)) (S_fnR_of fun d K h => (e_slices_BinarySearchFunc_Member_int d.1 d.2.1 K).trans (v_slices_BinarySearchFunc_Member_int d.1 d.2.1 h K))
end Go.Ev.Seat
end
section
/- i_Doc_member: its contract. -/
namespace Go.Ev.Seat
open Go.RowKit
set_option maxRecDepth 100000
set_option linter.unusedVariables false
set_option linter.unusedSimpArgs false
noncomputable abbrev E_i_Doc_member : Env := En [(N.slices_BinarySearchFunc_Member_int, true, S_slices_BinarySearchFunc_Member_int)] [] [] [] false 0 []
noncomputable def T_i_Doc_member (d : T_Doc) (s : Int) (K : Ret → Option Ret) : Option Ret := (bif ((Nat.ble (List.length d.2.2.2.2.1) 1048576) && (monoB (fun x => (decide ((sgn x.1 s) < (0 : Int)))) d.2.2.2.2.1)) then K ((.t [(.s (.int .i64 (((cutN (fun x => (decide ((sgn x.1 s) < (0 : Int)))) d.2.2.2.2.1) : Nat) : Int))), (.s (.bool (foundB (fun x => (decide ((sgn x.1 s) < (0 : Int)))) (fun x => ((sgn x.1 s) == (0 : Int))) (memberR.dflt) d.2.2.2.2.1)))]), []) else none)
theorem e_i_Doc_member (d : T_Doc) (s : Int) (K : Ret → Option Ret) : evF E_i_Doc_member true F.i_Doc_member [.a (docR.cells .no d), .s (.int .i64 s)] K = T_i_Doc_member d s K := by kernel_rfl
def S_i_Doc_member : Sm := S_fnR [.a docR, .i] (fun d => fitR docR d.1 && monoB (fun x => decide (sgn x.1 d.2.1 < 0)) d.1.2.2.2.2.1) (fun d => (.t [.s (.int .i64 ((cutN (fun x : T_Member => decide (sgn x.1 d.2.1 < 0)) d.1.2.2.2.2.1 : Nat) : Int)), .s (.bool (foundB (fun x : T_Member => decide (sgn x.1 d.2.1 < 0)) (fun x : T_Member => sgn x.1 d.2.1 == 0) (memberR).dflt d.1.2.2.2.2.1))], []))
theorem v_i_Doc_member (d : T_Doc) (s : Int) (h : (fitR docR d && monoB (fun x => decide (sgn x.1 s < 0)) d.2.2.2.2.1) = true) (K : Ret → Option Ret) : T_i_Doc_member d s K = K (.t [.s (.int .i64 ((cutN (fun x : T_Member => decide (sgn x.1 s < 0)) d.2.2.2.2.1 : Nat) : Int)), .s (.bool (foundB (fun x : T_Member => decide (sgn x.1 s < 0)) (fun x : T_Member => sgn x.1 s == 0) (memberR).dflt d.2.2.2.2.1))], []) := by
  obtain ⟨h0, h1⟩ := (Bool.and_eq_true _ _).mp h
  obtain ⟨_, _, _, h4, _⟩ := fit_doc h0
  unfold T_i_Doc_member
  rw [Nat.ble_eq_true_of_le (fitC_len h4), h1]
  rfl
theorem okS_i_Doc_member : OkFn prog I N.i_Doc_member true S_i_Doc_member := okN (ok_fn (memc okS_slices_BinarySearchFunc_Member_int mem0) (l := [(N.slices_BinarySearchFunc_Member_int, true, S_slices_BinarySearchFunc_Member_int)]) (p := []) (ls := []) (lend := []) (focus := false) (fuel := 0) (give := []) (fn := F.i_Doc_member) (by kernel_rfl) (by kernel_rfl) (by kernel_rfl) (by kernel_rfl) (cs := []) (by kernel_rfl) loops0) (S_fnR_of fun d K h => (e_i_Doc_member d.1 d.2.1 K).trans (v_i_Doc_member d.1 d.2.1 h K))
end Go.Ev.Seat
end
section
/- i_edits: its contract. -/
namespace Go.Ev.Seat
open Go.RowKit
set_option maxRecDepth 100000
set_option linter.unusedVariables false
set_option linter.unusedSimpArgs false
def z_i_edits_3_0 (o0 : List T_Edit) : St := { tm := ([.x, .x, .x, (.w 0)] ++ List.replicate 16 .x), ob := [(0, (.arr true true editR o0))], nx := 1, io := [] }
def sh_i_edits_3_0 : Ss := { tm := (.cons (.x) (.cons (.x) (.cons (.x) (.cons (.w 0) (.cons (.x) (.cons (.x) (.cons (.x) (.cons (.l .no editR) (.cons (.int .i64) (.cons (.int .i64) (xsh 10))))))))))), ob := (.arr true true editR .nil), nx := 1, io := .nil }
def d_i_edits_3_0 (x7 : List T_Edit) (x8 : Int) (x9 : Int) (o0 : List T_Edit) : sh_i_edits_3_0.T := (((), ((), ((), ((), ((), ((), ((), (x7, (x8, (x9, xd 10)))))))))), (o0, ()), ())
def s_i_edits_3_0 (x7 : List T_Edit) (x8 : Int) (x9 : Int) (o0 : List T_Edit) : St := { tm := ([.x, .x, .x, (.w 0), .x, .x, .x, (.l .no editR x7), (.s (.int .i64 x8)), (.s (.int .i64 x9))] ++ List.replicate 10 .x), ob := [(0, (.arr true true editR o0))], nx := 1, io := [] }
theorem se_i_edits_3_0 (x7 : List T_Edit) (x8 : Int) (x9 : Int) (o0 : List T_Edit) : sh_i_edits_3_0.mk' (d_i_edits_3_0 x7 x8 x9 o0) = (s_i_edits_3_0 x7 x8 x9 o0) := by kernel_rfl
def w_i_edits_3_0 (d : sh_i_edits_3_0.T) (f : (List T_Edit) → Int → Int → (List T_Edit) → Option Ret) : Option Ret := match d with | ((_, (_, (_, (_, (_, (_, (_, (x7, (x8, (x9, _)))))))))), (o0, _), _) => f x7 x8 x9 o0
noncomputable def P_i_edits_3_0 (x7 : List T_Edit) (x8 : Int) (x9 : Int) (o0 : List T_Edit) (nx0 : (List T_Edit) → Int → Int → (List T_Edit) → Option Ret) (k0 : (List T_Edit) → Option Ret) : Option Ret := (bif (decide (x9 < x8)) then (bif ((decide ((0 : Int) ≤ x9)) && (decide (x9 < (((List.length x7) : Nat) : Int)))) then (bif (Nat.ble (List.length (List.getD x7 (Int.toNat x9) (editR.dflt)).2.2) 1048576) then (bif (Nat.ble (((List.length o0) + (List.length ((List.getD x7 (Int.toNat x9) (editR.dflt)) :: []))) * 40) 140737488355328) then (nx0 x7 x8 (IntKind.wrap .i64 (x9 + (1 : Int))) (o0 ++ ((List.getD x7 (Int.toNat x9) (editR.dflt)) :: []))) else none) else none) else none) else (k0 o0))
noncomputable def Q_i_edits_3_0 : Nat → (List T_Edit) → Int → Int → (List T_Edit) → ((List T_Edit) → Option Ret) → Option Ret
  | 0, _, _, _, _, _ => none
  | m + 1, x7, x8, x9, o0, k0 => P_i_edits_3_0 x7 x8 x9 o0 (fun x7 x8 x9 o0 => (Q_i_edits_3_0 m x7 x8 x9 o0 k0)) k0
noncomputable def R_i_edits_3_0 (x7 : List T_Edit) (x8 : Int) (x9 : Int) (o0 : List T_Edit) (k0 : (List T_Edit) → Option Ret) : Option Ret := Q_i_edits_3_0 (List.length x7 + x8.toNat + x9.toNat + List.length o0 + 2) x7 x8 x9 o0 k0
noncomputable def W_i_edits_3 : LoopFn := (fun (σ : St) (K : Ex → St → Option Ret) => (match sh_i_edits_3_0.un σ with | some d => w_i_edits_3_0 d (fun x7 x8 x9 o0 => R_i_edits_3_0 x7 x8 x9 o0 (fun o0 => (K (.ext 0) (z_i_edits_3_0 o0)))) | none => none))
noncomputable abbrev ls_i_edits : List (Nat × Bool × Sm) := [(N.i_Edit_copied, true, S_i_Edit_copied)]
noncomputable abbrev E_i_edits : Env := En ls_i_edits [] [(3, [3,7,8,9], [2,3], W_i_edits_3)] [] false 0 []
noncomputable abbrev U_i_edits_3 := rounds (run E_i_edits (bodyOf F.i_edits 3)) [3,7,8,9] [2,3]
theorem st_i_edits_3_0 (m : Nat) (x7 : List T_Edit) (x8 : Int) (x9 : Int) (o0 : List T_Edit) (K : Ex → St → Option Ret) : U_i_edits_3 (m + 1) (s_i_edits_3_0 x7 x8 x9 o0) K = P_i_edits_3_0 x7 x8 x9 o0 (fun x7 x8 x9 o0 => (U_i_edits_3 m (s_i_edits_3_0 x7 x8 x9 o0) K)) (fun o0 => (K (.ext 0) (z_i_edits_3_0 o0))) := by kernel_rfl
theorem q_i_edits_3 (K : Ex → St → Option Ret) : ∀ m : Nat, (∀ (x7 : List T_Edit) (x8 : Int) (x9 : Int) (o0 : List T_Edit), U_i_edits_3 m (s_i_edits_3_0 x7 x8 x9 o0) K = Q_i_edits_3_0 m x7 x8 x9 o0 (fun o0 => (K (.ext 0) (z_i_edits_3_0 o0))))
  | 0 => (fun _ _ _ _ => rfl)
  | m + 1 => (fun x7 x8 x9 o0 => (by rw [st_i_edits_3_0, show (fun x7 x8 x9 o0 => (U_i_edits_3 m (s_i_edits_3_0 x7 x8 x9 o0) K)) = (fun x7 x8 x9 o0 => (Q_i_edits_3_0 m x7 x8 x9 o0 (fun o0 => (K (.ext 0) (z_i_edits_3_0 o0))))) from funext fun x7 => funext fun x8 => funext fun x9 => funext fun o0 => (q_i_edits_3 K m) x7 x8 x9 o0]; rfl))
theorem loopK_i_edits_3 : LoopOk E_i_edits (bodyOf F.i_edits 3) := by
  refine loopW_ok (n := 3) (F := W_i_edits_3) (by kernel_rfl) rfl (li := [3,7,8,9]) (lo := [2,3]) rfl (fun σ K r hr => ?_)
  unfold W_i_edits_3 at hr
  split at hr
  · rename_i d hd
    rw [Ss.un_mk hd]
    exact ⟨_, ((congrArg (fun z => U_i_edits_3 _ z K) (se_i_edits_3_0 _ _ _ _)).trans ((q_i_edits_3 K _) _ _ _ _)).trans hr⟩
  · cases hr
noncomputable def T_i_edits (l : List T_Edit) (K : Ret → Option Ret) : Option Ret := (R_i_edits_3_0 l (((List.length l) : Nat) : Int) (0 : Int) [] (fun y0 => K ((.l .deep editR y0), [])))
theorem e_i_edits (l : List T_Edit) (K : Ret → Option Ret) : evF E_i_edits true F.i_edits [.l .no editR l] K = T_i_edits l K := by kernel_rfl
def S_i_edits : Sm := S_fnR [.l editR] (fun d => fitC (.sl editR) d.1) (fun d => (.l .deep editR d.1, []))
theorem v_i_edits (l : List T_Edit) (h : (fitC (.sl editR) l) = true) (K : Ret → Option Ret) : T_i_edits l K = K (.l .deep editR l, []) := by
  have hl := fitC_len h
  unfold T_i_edits
  have q : ∀ (m i : Nat), i ≤ l.length → l.length - i < m → Q_i_edits_3_0 m l ((l.length : Nat) : Int) ((i : Nat) : Int) (l.take i) (fun y0 => K ((.l .deep editR y0), [])) = K ((.l .deep editR l), []) := by
    intro m
    induction m with
    | zero => intro i _ hm; omega
    | succ m ih =>
      intro i hi hm
      show P_i_edits_3_0 l ((l.length : Nat) : Int) ((i : Nat) : Int) (l.take i) _ _ = _
      unfold P_i_edits_3_0
      by_cases hlt : i < l.length
      · have hx : fitR editR (l.getD i editR.dflt) = true := fitC_getD h rfl i
        have hx2 : (fun x : T_Edit => Nat.ble (List.length x.2.2) 1048576) (l.getD i editR.dflt) = true := (fun (x : T_Edit) (hx : fitR editR x = true) => Nat.ble_eq_true_of_le (fitB_len (fit_edit hx))) _ hx
        have ht := take_snoc editR.dflt hlt
        dsimp only at hx2
        rw [decide_eq_true (show ((i : Nat) : Int) < ((l.length : Nat) : Int) by omega), decide_eq_true (show (0 : Int) ≤ ((i : Nat) : Int) by omega), Int.toNat_natCast, wrap_nat (by omega), hx2, Nat.ble_eq_true_of_le (show ((l.take i).length + [l.getD i editR.dflt].length) * 40 ≤ 140737488355328 by simp only [List.length_take, List.length_cons, List.length_nil]; omega), ht]
        exact ih (i + 1) (by omega) (by omega)
      · obtain rfl : i = l.length := by omega
        rw [decide_eq_false (show ¬ ((l.length : Nat) : Int) < ((l.length : Nat) : Int) by omega), List.take_length]; rfl
  exact q _ 0 (by omega) (by omega)
theorem okS_i_edits : OkFn prog I N.i_edits true S_i_edits := okN (ok_fn (memc okS_i_Edit_copied mem0) (l := ls_i_edits) (p := []) (ls := [(3, [3,7,8,9], [2,3], W_i_edits_3)]) (lend := []) (focus := false) (fuel := 0) (give := []) (fn := F.i_edits) (by kernel_rfl) (by kernel_rfl) (by kernel_rfl) (by kernel_rfl) (cs := [bodyOf F.i_edits 3]) (by kernel_rfl) (loopsc loopK_i_edits_3 loops0)) (S_fnR_of fun d K h => (e_i_edits d.1 K).trans (v_i_edits d.1 h K))
end Go.Ev.Seat
end
section
/- i_Stack_copied: its contract. -/
namespace Go.Ev.Seat
open Go.RowKit
set_option maxRecDepth 100000
set_option linter.unusedVariables false
set_option linter.unusedSimpArgs false
noncomputable abbrev E_i_Stack_copied : Env := En [(N.i_edits, true, S_i_edits)] [(1, takeB [0, 1, 3, 4] (.fork (.one 2 (.fork (.one 5 (takeB [6] (.fork (.one 7 (.done)))))))), [])] [] [] false 0 []
noncomputable def T_i_Stack_copied (s : T_Stack) (K : Ret → Option Ret) : Option Ret := (bif (fitC (Cc.sl editR) s.1) then (bif (fitC (Cc.sl editR) s.2) then K ((.a [(.l .deep editR s.1), (.l .deep editR s.2)]), []) else none) else none)
theorem e_i_Stack_copied (s : T_Stack) (K : Ret → Option Ret) : evF E_i_Stack_copied true F.i_Stack_copied [.a (stackR.cells .no s)] K = T_i_Stack_copied s K := by kernel_rfl
def S_i_Stack_copied : Sm := S_fnR [.a stackR] (fun d => fitR stackR d.1) (fun d => (.a (stackR.cells .deep d.1), []))
theorem v_i_Stack_copied (s : T_Stack) (h : (fitR stackR s) = true) (K : Ret → Option Ret) : T_i_Stack_copied s K = K (.a (stackR.cells .deep s), []) := by
  have h1 : fitC (.sl editR) s.1 = true := fitR_fst h
  have h2 : fitC (.sl editR) s.2 = true := fitR_snd h
  unfold T_i_Stack_copied
  rw [h1, h2]; rfl
theorem okS_i_Stack_copied : OkFn prog I N.i_Stack_copied true S_i_Stack_copied := okN (ok_fn (memc okS_i_edits mem0) (l := [(N.i_edits, true, S_i_edits)]) (p := [(1, takeB [0, 1, 3, 4] (.fork (.one 2 (.fork (.one 5 (takeB [6] (.fork (.one 7 (.done)))))))), [])]) (ls := []) (lend := []) (focus := false) (fuel := 0) (give := []) (fn := F.i_Stack_copied) (by kernel_rfl) (by kernel_rfl) (by kernel_rfl) (by kernel_rfl) (cs := []) (by kernel_rfl) loops0) (S_fnR_of fun d K h => (e_i_Stack_copied d.1 K).trans (v_i_Stack_copied d.1 h K))
end Go.Ev.Seat
end
section
/- i_Member_copied: its contract. -/
namespace Go.Ev.Seat
open Go.RowKit
set_option maxRecDepth 100000
set_option linter.unusedVariables false
set_option linter.unusedSimpArgs false
noncomputable abbrev E_i_Member_copied : Env := En [(N.i_Stack_copied, true, S_i_Stack_copied)] [] [] [] false 0 []
noncomputable def T_i_Member_copied (m : T_Member) (K : Ret → Option Ret) : Option Ret := (bif (fitR stackR m.2.2.2) then K ((.a [(.s (.int .i64 m.1)), (.s (.int .i64 m.2.1)), (.s (.int .i64 m.2.2.1)), (.l .deep editR m.2.2.2.1), (.l .deep editR m.2.2.2.2)]), []) else none)
theorem e_i_Member_copied (m : T_Member) (K : Ret → Option Ret) : evF E_i_Member_copied true F.i_Member_copied [.a (memberR.cells .no m)] K = T_i_Member_copied m K := by kernel_rfl
def S_i_Member_copied : Sm := S_fnR [.a memberR] (fun d => fitR memberR d.1) (fun d => (.a (memberR.cells .deep d.1), []))
theorem v_i_Member_copied (m : T_Member) (h : (fitR memberR m) = true) (K : Ret → Option Ret) : T_i_Member_copied m K = K (.a (memberR.cells .deep m), []) := by
  unfold T_i_Member_copied
  rw [show fitR stackR m.2.2.2 = true from fitR_snd (fitR_snd (fitR_snd h))]; rfl
theorem okS_i_Member_copied : OkFn prog I N.i_Member_copied true S_i_Member_copied := okN (ok_fn (memc okS_i_Stack_copied mem0) (l := [(N.i_Stack_copied, true, S_i_Stack_copied)]) (p := []) (ls := []) (lend := []) (focus := false) (fuel := 0) (give := []) (fn := F.i_Member_copied) (by kernel_rfl) (by kernel_rfl) (by kernel_rfl) (by kernel_rfl) (cs := []) (by kernel_rfl) loops0) (S_fnR_of fun d K h => (e_i_Member_copied d.1 K).trans (v_i_Member_copied d.1 h K))
end Go.Ev.Seat
end
section
/- i_DocMember: its contract. -/
namespace Go.Ev.Seat
open Go.RowKit
set_option maxRecDepth 100000
set_option linter.unusedVariables false
set_option linter.unusedSimpArgs false
noncomputable abbrev E_i_DocMember : Env := En [(N.i_isDoc, true, S_i_isDoc), (N.i_Doc_member, true, S_i_Doc_member), (N.i_Member_copied, true, S_i_Member_copied)] [] [] [] false 0 []
noncomputable def T_i_DocMember (d : T_Doc) (s : Int) (K : Ret → Option Ret) : Option Ret := (bif (fitR docR d) then (bif (!(docOkD d)) then K ((.t [(.a [(.s (.int .i64 (0 : Int))), (.s (.int .i64 (0 : Int))), (.s (.int .i64 (0 : Int))), (.l .deep editR []), (.l .deep editR [])]), (.s (.bool false))]), []) else (bif ((fitR docR d) && (monoB (fun x => (decide ((sgn x.1 s) < (0 : Int)))) d.2.2.2.2.1)) then (bif (!(foundB (fun x => (decide ((sgn x.1 s) < (0 : Int)))) (fun x => ((sgn x.1 s) == (0 : Int))) (memberR.dflt) d.2.2.2.2.1)) then K ((.t [(.a [(.s (.int .i64 (0 : Int))), (.s (.int .i64 (0 : Int))), (.s (.int .i64 (0 : Int))), (.l .deep editR []), (.l .deep editR [])]), (.s (.bool false))]), []) else (bif (decide ((((cutN (fun x => (decide ((sgn x.1 s) < (0 : Int)))) d.2.2.2.2.1) : Nat) : Int) < (((List.length d.2.2.2.2.1) : Nat) : Int))) then (bif (fitR memberR (List.getD d.2.2.2.2.1 (cutN (fun x => (decide ((sgn x.1 s) < (0 : Int)))) d.2.2.2.2.1) (memberR.dflt))) then K ((.t [(.a [(.s (.int .i64 (List.getD d.2.2.2.2.1 (cutN (fun x => (decide ((sgn x.1 s) < (0 : Int)))) d.2.2.2.2.1) (memberR.dflt)).1)), (.s (.int .i64 (List.getD d.2.2.2.2.1 (cutN (fun x => (decide ((sgn x.1 s) < (0 : Int)))) d.2.2.2.2.1) (memberR.dflt)).2.1)), (.s (.int .i64 (List.getD d.2.2.2.2.1 (cutN (fun x => (decide ((sgn x.1 s) < (0 : Int)))) d.2.2.2.2.1) (memberR.dflt)).2.2.1)), (.l .deep editR (List.getD d.2.2.2.2.1 (cutN (fun x => (decide ((sgn x.1 s) < (0 : Int)))) d.2.2.2.2.1) (memberR.dflt)).2.2.2.1), (.l .deep editR (List.getD d.2.2.2.2.1 (cutN (fun x => (decide ((sgn x.1 s) < (0 : Int)))) d.2.2.2.2.1) (memberR.dflt)).2.2.2.2)]), (.s (.bool true))]), []) else none) else none)) else none)) else none)
theorem e_i_DocMember (d : T_Doc) (s : Int) (K : Ret → Option Ret) : evF E_i_DocMember true F.i_DocMember [.a (docR.cells .no d), .s (.int .i64 s)] K = T_i_DocMember d s K := by kernel_rfl
def S_i_DocMember : Sm := S_fnR [.a docR, .i] (fun d => fitR docR d.1) (fun d => (.t [.a (memberR.cells .deep (memberOfD d.1 d.2.1).1), .s (.bool (memberOfD d.1 d.2.1).2)], []))
theorem v_i_DocMember (d : T_Doc) (s : Int) (h : (fitR docR d) = true) (K : Ret → Option Ret) : T_i_DocMember d s K = K (.t [.a (memberR.cells .deep (memberOfD d s).1), .s (.bool (memberOfD d s).2)], []) := by
  obtain ⟨_, _, _, h4, _⟩ := fit_doc h
  unfold T_i_DocMember memberOfD
  rw [h]
  cases hk : docOkD d with
  | false => rfl
  | true =>
    have hm : membersD d.2.1 d.2.2.2.2.1 = true := by
      unfold docOkD at hk
      simp only [Bool.and_eq_true] at hk
      exact hk.1.2
    have hup := members_up hm
    have hf := up_found (f := fun x : T_Member => x.1) memberR.dflt hup s
    have hmo := up_mono (f := fun x : T_Member => x.1) hup s
    have hin := foundB_lt (p := fun x : T_Member => decide (sgn x.1 s < 0)) (q := fun x : T_Member => sgn x.1 s == 0) (z := memberR.dflt) (l := d.2.2.2.2.1)
    rw [hf, hmo]
    generalize cutN (fun x : T_Member => decide (sgn x.1 s < 0)) d.2.2.2.2.1 = c at *
    cases hfo : foundB (fun x : T_Member => decide (sgn x.1 s < 0)) (fun x : T_Member => sgn x.1 s == 0) memberR.dflt d.2.2.2.2.1 with
    | false => rfl
    | true =>
      have hc := hin hfo
      rw [decide_eq_true (show ((c : Nat) : Int) < ((d.2.2.2.2.1.length : Nat) : Int) by omega), fitC_getD h4 rfl c, show decide ((bif true then ((c : Nat) : Int) else -1) ≥ 0) = true from decide_eq_true (show ((c : Nat) : Int) ≥ 0 by omega), show (bif true then ((c : Nat) : Int) else -1).toNat = c from Int.toNat_natCast c]
      rfl
theorem okS_i_DocMember : OkFn prog I N.i_DocMember true S_i_DocMember := okN (ok_fn (memc okS_i_isDoc (memc okS_i_Doc_member (memc okS_i_Member_copied mem0))) (l := [(N.i_isDoc, true, S_i_isDoc), (N.i_Doc_member, true, S_i_Doc_member), (N.i_Member_copied, true, S_i_Member_copied)]) (p := []) (ls := []) (lend := []) (focus := false) (fuel := 0) (give := []) (fn := F.i_DocMember) (by kernel_rfl) (by kernel_rfl) (by kernel_rfl) (by kernel_rfl) (cs := []) (by kernel_rfl) loops0) (S_fnR_of fun d K h => (e_i_DocMember d.1 d.2.1 K).trans (v_i_DocMember d.1 d.2.1 h K))
end Go.Ev.Seat
end
section
/- How much parts of a document weigh. -/
set_option linter.unusedVariables false
namespace Go.Ev.Seat
open Go.RowKit
theorem sumW_mem {α : Type} {f : α → Nat} {x : α} : ∀ {l : List α}, x ∈ l → f x ≤ sumW f l
  | y :: l, h => by
    rcases List.mem_cons.1 h with rfl | h
    · simp only [sumW]; omega
    · have := sumW_mem (f := f) h; simp only [sumW]; omega
theorem w_mem {r : Rw} {x : r.T} {l : List r.T} (h : x ∈ l) : r.w x ≤ (Cc.sl r).w l := by
  have h1 : (Cc.sl r).w l = l.length + sumW r.w l := rfl
  have := sumW_mem (f := r.w) h
  omega
theorem doc_w (d : T_Doc) : docR.w d = (Cc.sl bytesR).w d.1 + ((Cc.sl bytesR).w d.2.1 + ((Cc.sl commitR).w d.2.2.1 + (0 + ((Cc.sl memberR).w d.2.2.2.2.1 + (Cc.sl leaseR).w d.2.2.2.2.2)))) := rfl
theorem w_getD {r : Rw} (l : List r.T) (k : Nat) (z : r.T) : r.w (l.getD k z) ≤ (Cc.sl r).w l + r.w z := by
  rw [List.getD_eq_getElem?_getD]
  rcases Nat.lt_or_ge k l.length with hk | hk
  · rw [List.getElem?_eq_getElem hk]
    have := w_mem (r := r) (List.getElem_mem hk)
    show r.w l[k] ≤ _
    omega
  · rw [List.getElem?_eq_none hk]
    show r.w z ≤ _
    omega
theorem member_w {d : T_Doc} {s : Int} (h : docR.w d ≤ 1048576) : memberR.w (memberOfD d s).1 ≤ 1099511627776 := by
  rw [doc_w] at h
  have h0 : memberR.w memberR.dflt = 0 := rfl
  unfold memberOfD
  cases (docOkD d && decide (idxF (fun m : T_Member => m.1 == s) d.2.2.2.2.1 ≥ 0)) with
  | false => show memberR.w memberR.dflt ≤ _; omega
  | true =>
    have := w_getD (r := memberR) d.2.2.2.2.1 (idxF (fun m : T_Member => m.1 == s) d.2.2.2.2.1).toNat memberR.dflt
    show memberR.w (d.2.2.2.2.1.getD _ memberR.dflt) ≤ _
    omega
end Go.Ev.Seat
end
section
/- The law FnExactDocMember. Printed by laws.py. -/
namespace Go.Ev.Seat
open Go.RowKit
set_option maxRecDepth 100000
set_option linter.unusedVariables false
noncomputable abbrev ls_DocMember (T : MText) : List (Nat × Bool × Sm) := [(N.s_DocMember, false, S_s_DocMember), (N.i_DocMember, true, S_i_DocMember), (N.l_toDoc, true, S_toA docR), (N.l_eqDoc, true, S_eqA docR), (N.l_szDoc, true, S_szA docR), (N.l_markDoc, true, S_markA T docR), (N.l_eqMember, true, S_eqA memberR), (N.l_markMember, true, S_markA T memberR), (N.l_heldMember, true, S_heldA T memberR)]
noncomputable abbrev pl_DocMember : List (Nat × Plan × List Nat) := [(10, takeB [0, 1] (.fork (.one 2 (.fork (.one 3 (takes [4]))))), [])]
noncomputable def G_DocMember (T : MText) := evF (En (ls_DocMember T) pl_DocMember [] [N.l_markDoc, N.l_markMember] true) true F.l_FnExactDocMember
theorem ok_DocMember (T : MText) : OkFn prog I N.l_FnExactDocMember true (G_DocMember T) := ok_fn (l := ls_DocMember T) (memc okS_s_DocMember (memc okS_i_DocMember (memc okS_toDoc (memc okS_eqDoc (memc okS_szDoc (memc (okS_markDoc T) (memc okS_eqMember (memc (okS_markMember T) (memc (okS_heldMember T) mem0))))))))) (by kernel_rfl) (by kernel_rfl) (by kernel_rfl) (by kernel_rfl) (cs := []) (by kernel_rfl) loops0
noncomputable def L1_DocMember (T : MText) (d : T_Doc) (s : Int) (K : Ret → Option Ret) : Option Ret := (bif memberR.cnt (memberOfD d s).1 then (bif !(eqD ((memberOfD d s).1 : T_Member) (memberOfD d s).1) then K (bl false, []) else (bif !((memberOfD d s).2 == (memberOfD d s).2) then K (bl false, []) else (bif (eqD (memberR.markA T (memberR.markA T (memberOfD d s).1 (1 : Int)).1 (1 : Int)).1 (memberR.markA T (memberOfD d s).1 (1 : Int)).1) && (memberR.cnt (memberR.markA T (memberOfD d s).1 (1 : Int)).1 && decide ((0 : Int) ≤ (1 : Int)) && decide ((1 : Int) + ((memberR.marksA (memberR.markA T (memberOfD d s).1 (1 : Int)).1 : Nat) : Int) ≤ 4611686018427387904)) then (bif decide ((memberR.markA T (memberR.markA T (memberOfD d s).1 (1 : Int)).1 (1 : Int)).2 < 0) then K (bl false, []) else (bif (memberR.markA T (memberR.markA T (memberOfD d s).1 (1 : Int)).1 (1 : Int)).2 != (memberR.markA T (memberOfD d s).1 (1 : Int)).2 then K (bl false, []) else K (bl true, []))) else none))) else none)
noncomputable def L0_DocMember (T : MText) (d : T_Doc) (s : Int) (K : Ret → Option Ret) : Option Ret := (bif docR.lim d then (bif (fitR docR d) then (bif memberR.cnt (memberOfD d s).1 then (bif !(eqD ((memberOfD d s).1 : T_Member) (memberOfD d s).1) then K (bl false, []) else (bif !((memberOfD d s).2 == (memberOfD d s).2) then K (bl false, []) else (bif docR.lim d then (bif docR.cnt d then (bif !(eqD (d : T_Doc) d) then K (bl false, []) else (bif docR.cnt d then (bif decide ((docR.markA T d (1 : Int)).2 < 0) then K (bl false, []) else (bif memberR.cnt (memberOfD d s).1 then (bif !(eqD ((memberOfD d s).1 : T_Member) (memberOfD d s).1) then K (bl false, []) else (bif !((memberOfD d s).2 == (memberOfD d s).2) then K (bl false, []) else (bif memberR.cnt (memberOfD d s).1 then (bif (eqD (memberR.markA T (memberR.markA T (memberOfD d s).1 (1 : Int)).1 (1 : Int)).1 (memberR.markA T (memberOfD d s).1 (1 : Int)).1) && (memberR.cnt (memberR.markA T (memberOfD d s).1 (1 : Int)).1 && decide ((0 : Int) ≤ (1 : Int)) && decide ((1 : Int) + ((memberR.marksA (memberR.markA T (memberOfD d s).1 (1 : Int)).1 : Nat) : Int) ≤ 4611686018427387904)) then (bif decide ((memberR.markA T (memberR.markA T (memberOfD d s).1 (1 : Int)).1 (1 : Int)).2 < 0) then K (bl false, []) else (bif (memberR.markA T (memberR.markA T (memberOfD d s).1 (1 : Int)).1 (1 : Int)).2 != (memberR.markA T (memberOfD d s).1 (1 : Int)).2 then K (bl false, []) else (bif docR.lim d then (bif (fitR docR d) then (L1_DocMember T d s K) else none) else none))) else none) else none))) else none)) else none)) else none) else none))) else none) else none) else none)
theorem law_DocMember (T : MText) (d : T_Doc) (s : Int) (K : Ret → Option Ret) (hwf0 : docR.wf d) : G_DocMember T [.a (docR.cells .no d), .s (.int .i64 s)] K = K (bl true, []) := by
  have e : G_DocMember T [.a (docR.cells .no d), .s (.int .i64 s)] K = (bif szOk (1048576 : Int) && docR.cnz d then (bif decide (szN (docR.w d) (1048576 : Int) < 0) then K (bl true, []) else (bif docR.lim d then (bif (fitR docR d) then (L0_DocMember T d s K) else none) else none)) else none) := by kernel_rfl
  refine e.trans ?_
  have hz0 : docR.cnz d = true := Rw.cnz_of_wf docR d hwf0
  refine lw_sz (show szOk 1048576 = true by rfl) hz0 (fun n0 e0 s0 => ?_)
  have hw0 : docR.w d ≤ 1048576 := by omega
  have lim0 : docR.lim d = true := Rw.lim_ok docR d hw0
  have cnt0 : docR.cnt d = true := Rw.cnt_of_lim docR d lim0
  have mk0 : docR.marksA d ≤ 32 * docR.w d := Rw.marksA_le docR rfl d
  have hpre : (fitR docR d) = true := fitR_of docR d hwf0 lim0
  have rw0 : memberR.w (memberOfD d s).1 ≤ 1099511627776 := member_w hw0
  have rcnt0 : memberR.cnt (memberOfD d s).1 = true := Rw.cnt_of_w memberR (memberOfD d s).1 (by omega)
  have rmk0 : memberR.marksA (memberOfD d s).1 ≤ 32 * memberR.w (memberOfD d s).1 := Rw.marksA_le memberR rfl (memberOfD d s).1
  have k0 := Rw.markA_cnt T docR d (1 : Int) (by omega) (by omega)
  have pk1 : 0 ≤ (docR.markA T d (1 : Int)).2 := by omega
  have mm0 := Rw.markA_cnt T memberR (memberOfD d s).1 (1 : Int) (by omega) (by omega)
  have hq0 : (1 : Int) = 1 := rfl
  have id0 : memberR.markA T (memberR.markA T (memberOfD d s).1 (1 : Int)).1 (1 : Int) = memberR.markA T (memberOfD d s).1 (1 : Int) := Rw.markA_idem T memberR (memberOfD d s).1 (1 : Int)
  have hq1 : (memberR.markA T (memberR.markA T (memberOfD d s).1 (1 : Int)).1 (1 : Int)).2 = (memberR.markA T (memberOfD d s).1 (1 : Int)).2 := congrArg Prod.snd id0
  have hg0 : eqD (memberR.markA T (memberR.markA T (memberOfD d s).1 (1 : Int)).1 (1 : Int)).1 (memberR.markA T (memberOfD d s).1 (1 : Int)).1 = true := eqD_iff.2 (congrArg Prod.fst id0)
  have gcnt0 : memberR.cnt (memberR.markA T (memberOfD d s).1 (1 : Int)).1 = true := (Rw.markA_w T memberR (memberOfD d s).1 (1 : Int)).trans rcnt0
  have gmk0 : memberR.marksA (memberR.markA T (memberOfD d s).1 (1 : Int)).1 = memberR.marksA (memberOfD d s).1 := Rw.markA_marks T memberR (memberOfD d s).1 (1 : Int)
  have pq0 : 0 ≤ (1 : Int) := by omega
  have bq0 : (1 : Int) + ((memberR.marksA (memberR.markA T (memberOfD d s).1 (1 : Int)).1 : Nat) : Int) ≤ 4611686018427387904 := by omega
  have pq1 : 0 ≤ (memberR.markA T (memberR.markA T (memberOfD d s).1 (1 : Int)).1 (1 : Int)).2 := by omega
  have t1 : L1_DocMember T d s K = K (bl true, []) := by
    unfold L1_DocMember
    exact (lw_eq rcnt0 (lw_bool (lw_held hg0 gcnt0 pq0 bq0 (lw_lt pq1 (lw_int2 hq1 rfl)))))
  have t0 : L0_DocMember T d s K = K (bl true, []) := by
    unfold L0_DocMember
    exact (to_step lim0 (to_step hpre (lw_eq rcnt0 (lw_bool (to_step lim0 (lw_eq cnt0 (to_step cnt0 (lw_lt pk1 (lw_eq rcnt0 (lw_bool (to_step rcnt0 (lw_held hg0 gcnt0 pq0 bq0 (lw_lt pq1 (lw_int2 hq1 (to_step lim0 (to_step hpre t1))))))))))))))))
  exact (to_step lim0 (to_step hpre t0))
end Go.Ev.Seat
end
section
/- Kinds of types that come in, checked by reckoning. -/
set_option linter.unusedVariables false
namespace Go.Ev
open Go.RowKit
mutual
def ccN (P : Program) : Nat → Cc → TypeId → Bool
  | 0, _, _ => false
  | n + 1, c, t => match c, P.underlying t with
    | .int k, some (.int k') => decide (k' = k)
    | .bool, some .bool => true
    | .str, some .string => true
    | .sl r, some (.slice e) => Nat.beq (P.cellsOf e) r.n && (match layN P n r.list e with
      | some [] => true
      | _ => false)
    | _, _ => false
/-- The cells of a type, taken off a list: what is left. -/
def layN (P : Program) : Nat → List Cc → TypeId → Option (List Cc)
  | 0, _, _ => none
  | n + 1, cs, t => match cs with
    | [] => none
    | c :: rest => bif ccN P n c t then some rest else match P.underlying t with
      | some (.struct fs) => fsN P n (c :: rest) 0 fs.toList
      | _ => none
def fsN (P : Program) : Nat → List Cc → Nat → List Field → Option (List Cc)
  | 0, _, _, _ => none
  | n + 1, cs, i, fs => match fs with
    | [] => some cs
    | f :: rest => bif Nat.beq f.offset i then (match layN P n cs f.type with
      | some cs' => bif Nat.beq (P.cellsOf f.type + cs'.length) cs.length then fsN P n cs' (i + P.cellsOf f.type) rest else none
      | none => none) else none
end
theorem kinds_ok {P : Program} : ∀ (n : Nat), (∀ c t, ccN P n c t = true → CcOk P c t) ∧ (∀ cs t rest, layN P n cs t = some rest → ∃ pre, cs = pre ++ rest ∧ LayOk P pre t) ∧ ∀ cs i fs rest, fsN P n cs i fs = some rest → ∃ pre, cs = pre ++ rest ∧ LayFs P pre i fs
  | 0 => ⟨fun _ _ h => by simp [ccN] at h, fun _ _ _ h => by simp [layN] at h, fun _ _ _ _ h => by simp [fsN] at h⟩
  | n + 1 => by
    obtain ⟨h1, h2, h3⟩ := kinds_ok (P := P) n
    refine ⟨fun c t h => ?_, fun cs t rest h => ?_, fun cs i fs rest h => ?_⟩
    · simp only [ccN] at h
      split at h
      · rename_i k k' hu
        have := of_decide_eq_true h
        subst this
        exact .int hu
      · rename_i hu; exact .bool hu
      · rename_i hu; exact .str hu
      · rename_i r e hu
        simp only [Bool.and_eq_true] at h
        obtain ⟨g1, g2⟩ := h
        split at g2
        · rename_i hl
          obtain ⟨pre, e1, e2⟩ := h2 _ _ _ hl
          rw [List.append_nil] at e1
          exact .sl hu (Nat.eq_of_beq_eq_true g1) (e1 ▸ e2)
        · cases g2
      · cases h
    · simp only [layN] at h
      split at h
      · cases h
      · rename_i c rest'
        cases hc : ccN P n c t with
        | true =>
          rw [hc] at h
          cases h
          exact ⟨[c], rfl, .one (h1 _ _ hc)⟩
        | false =>
          rw [hc] at h
          simp only [cond_false] at h
          split at h
          · rename_i fs hu
            obtain ⟨pre, e1, e2⟩ := h3 _ _ _ _ h
            exact ⟨pre, e1, .st hu e2⟩
          · cases h
    · simp only [fsN] at h
      split at h
      · cases h
        exact ⟨[], rfl, .nil⟩
      · rename_i f rest'
        cases ho : Nat.beq f.offset i with
        | false => rw [ho] at h; cases h
        | true =>
          rw [ho] at h
          simp only [cond_true] at h
          split at h
          · rename_i cs' hl
            obtain ⟨pre, e1, e2⟩ := h2 _ _ _ hl
            cases hb : Nat.beq (P.cellsOf f.type + cs'.length) cs.length with
            | false => rw [hb] at h; cases h
            | true =>
              rw [hb] at h
              simp only [cond_true] at h
              have hlen := Nat.eq_of_beq_eq_true hb
              have hp : P.cellsOf f.type = pre.length := by rw [e1, List.length_append] at hlen; omega
              obtain ⟨pre2, e3, e4⟩ := h3 _ _ _ _ h
              rw [hp] at e4
              refine ⟨pre ++ pre2, by rw [e1, e3, List.append_assoc], .cons (Nat.eq_of_beq_eq_true ho) hp e2 e4⟩
          · cases h
def ccB (P : Program) (c : Cc) (t : TypeId) : Bool := ccN P 100 c t
def rwB (P : Program) (r : Rw) (t : TypeId) : Bool := match layN P 100 r.list t with
  | some [] => true
  | _ => false
theorem ccB_ok {P : Program} (c : Cc) {t : TypeId} (h : ccB P c t = true) : CcOk P c t := (kinds_ok 100).1 c t h
theorem rwB_ok {P : Program} (r : Rw) {t : TypeId} (h : rwB P r t = true) : RwOk P r t := by
  unfold rwB at h
  split at h
  · rename_i hl
    obtain ⟨pre, e1, e2⟩ := (kinds_ok 100).2.1 _ _ _ hl
    rw [List.append_nil] at e1
    show LayOk P r.list t
    rw [e1]; exact e2
  · cases h
end Go.Ev
end
section
/- An argument of one cell. -/
set_option linter.unusedVariables false
namespace Go.Ev
theorem cells_one {P : Program} {W : World} {r : Reach} {base : Nat} {c : Cc} {t : TypeId} {v : Value} (h : CcOk P c t) (ok : Value.okWide P W r base t v) : v.cells.toList = [v] := by
  cases v with
  | agg cs =>
    exfalso
    unfold Value.okWide at ok
    cases h with
    | int h => rw [h] at ok; simp [Cell.okWide, Cell.ok, h] at ok
    | bool h => rw [h] at ok; simp [Cell.okWide, Cell.ok, h] at ok
    | str h => rw [h] at ok; simp [Cell.okWide, Cell.ok, h] at ok
    | sl h _ _ => rw [h] at ok; simp [Cell.okWide, Cell.ok, h] at ok
  | _ => rfl
end Go.Ev
end
section
/- What a row's list gives of the tables of unicode/utf8. -/
set_option linter.unusedVariables false
namespace Go.Ev
open Go
variable {H : Type} {enc : TypeId × Value → H} {P : Program} {w : World} {base : Nat} {sp : Nat → Bool} {held : Bool}

/-- An array's cells, element by element. -/
theorem trod_arr {fuel : Nat} {t e : TypeId} {n m : Nat} {cs : List Value} {ds : List (DataW H)} {p : List MemPlace}
    (ht : P.underlying t = some (.array n e)) (hce : P.cellsOf e = m) (hct : P.cellsOf t = n * m)
    (h : DataW.trod enc P w base sp held fuel t cs = some (.agg ds, p)) :
    cs.length = n * m ∧ ds.length = n ∧ ∀ (i : Nat) (d : DataW H), ds[i]? = some d → ∃ f q, DataW.trod enc P w base sp held f e ((cs.drop (i * m)).take m) = some (d, q) := by
  cases fuel with
  | zero => simp [DataW.trod] at h
  | succ fuel =>
    simp only [DataW.trod, ht, hce, hct] at h
    split at h
    · rename_i hl
      obtain ⟨xs, hm, hx⟩ := Option.map_eq_some_iff.1 h
      have hxs : xs.map (·.1) = ds := by
        have := congrArg Prod.fst hx
        simpa using this
      have hxl : xs.length = n := by simpa using Lib.mapM_length hm
      refine ⟨by simpa using hl, by rw [← hxs]; simp [hxl], fun i d hd => ?_⟩
      rw [← hxs] at hd
      rw [List.getElem?_map, Option.map_eq_some_iff] at hd
      obtain ⟨b, hb, rfl⟩ := hd
      have hi : i < n := by
        have := (List.getElem?_eq_some_iff.1 hb).1
        omega
      obtain ⟨b', hb', hf⟩ := Lib.mapM_at hm i i (by simp [hi])
      obtain rfl := Option.some.inj (hb.symm.trans hb')
      exact ⟨fuel, b.2, hf⟩
    · cases h
theorem trod_u8 {fuel : Nat} {t : TypeId} {k : IntKind} {cs : List Value} {z : Int} {p : List MemPlace} (ht : P.underlying t = some (.int k))
    (h : DataW.trod enc P w base sp held fuel t cs = some (.lit (.int k z), p)) : cs = [.int k z] := by
  cases fuel with
  | zero => simp [DataW.trod] at h
  | succ fuel =>
    obtain ⟨z', hc, h2, _⟩ := DataW.trod_int ht h
    cases h2
    exact hc
/-- A struct of two small cells. -/
theorem trod_two {fuel : Nat} {t : TypeId} {fs : Array Field} {f g : Field} {k : IntKind} {cs : List Value} {x y : Int} {p : List MemPlace}
    (ht : P.underlying t = some (.struct fs)) (hfs : fs.toList = [f, g]) (hc : P.cellsOf t = 2) (hf0 : f.offset = 0) (hg0 : g.offset = 1) (hf : P.underlying f.type = some (.int k)) (hg : P.underlying g.type = some (.int k))
    (hcf : P.cellsOf f.type = 1) (hcg : P.cellsOf g.type = 1)
    (h : DataW.trod enc P w base sp held fuel t cs = some (.agg [.lit (.int k x), .lit (.int k y)], p)) : cs = [.int k x, .int k y] := by
  cases fuel with
  | zero => simp [DataW.trod] at h
  | succ fuel =>
    simp only [DataW.trod, ht, hfs, hc, hf0, hg0, hcf, hcg] at h
    split at h
    · rename_i hl
      obtain ⟨xs, hm, hx⟩ := Option.map_eq_some_iff.1 h
      have hxs : xs.map (·.1) = [.lit (.int k x), .lit (.int k y)] := by
        have := congrArg Prod.fst hx
        simpa using this
      obtain ⟨b0, hb0, h0⟩ := Lib.mapM_at hm 0 f rfl
      obtain ⟨b1, hb1, h1⟩ := Lib.mapM_at hm 1 g rfl
      have e0 : b0.1 = .lit (.int k x) := by
        have := congrArg (·[0]?) hxs
        simpa [hb0] using this
      have e1 : b1.1 = .lit (.int k y) := by
        have := congrArg (·[1]?) hxs
        simpa [hb1] using this
      obtain ⟨d0, q0⟩ := b0
      obtain ⟨d1, q1⟩ := b1
      simp only at e0 e1
      subst e0 e1
      rw [hf0, hcf] at h0
      rw [hg0, hcg] at h1
      have a0 := trod_u8 hf h0
      have a1 := trod_u8 hg h1
      match cs, hl, a0, a1 with
      | [u, v], _, a0, a1 =>
        simp at a0 a1
        rw [a0, a1]
      | [], hl, _, _ => simp at hl
      | [_], hl, _, _ => simp at hl
      | _ :: _ :: _ :: _, hl, _, _ => simp at hl
    · cases h
theorem laid_at {laid : List (String × DataW Unit)} {W : World} {ps : List MemPlace} (h : DataW.LaidVars P W laid ps) {i : Nat} {name : String} {d : DataW Unit} (hi : laid[i]? = some (name, d)) {g : Nat} {t : TypeId}
    (hg : P.globalNamed name = some g) (hty : (P.globals[g]?).map (·.type) = some t) : ∃ cs fuel p, W.var? P name = some cs ∧ DataW.trod (fun _ => ()) P W 0 (fun _ => true) false fuel t cs.toList = some (d, p) := by
  induction laid generalizing ps i with
  | nil => simp at hi
  | cons x rest ih =>
    obtain ⟨n, d'⟩ := x
    obtain ⟨g', t', cs, fuel, p, q, hg', ht', hvar, hd, hr, _⟩ := h
    cases i with
    | zero =>
      simp only [List.getElem?_cons_zero, Option.some.injEq, Prod.mk.injEq] at hi
      obtain ⟨rfl, rfl⟩ := hi
      obtain rfl := Option.some.inj (hg.symm.trans hg')
      obtain rfl := Option.some.inj (hty.symm.trans ht')
      exact ⟨cs, fuel, p, hvar, hd⟩
    | succ i => exact ih hr (by simpa using hi)
theorem var_lt {W : World} {name : String} {g : Nat} {cs : Array Value} (hg : P.globalNamed name = some g) (h : W.var? P name = some cs) : g < W.heap.size := by
  unfold World.var? at h
  rw [hg] at h
  simp only [Option.bind_some] at h
  split at h
  · rename_i hh
    exact (Array.getElem?_eq_some_iff.1 hh).1
  · cases h
/-- THE TWO TABLES, off the list of a row. -/
theorem globI_utf {W : World} {d0 d1 : DataW Unit} (hm : laidMet P [("unicode/utf8.acceptRanges", d1), ("unicode/utf8.first", d0)] W)
    (hd0 : d0 = .agg (utfFirst.map fun z => .lit (.int .u8 z))) (hd1 : d1 = .agg (utfAccept.map fun z => .agg [.lit (.int .u8 z.1), .lit (.int .u8 z.2)]))
    {t0 t1 e0 e1 : TypeId} (hg0 : P.globalNamed "unicode/utf8.first" = some 0) (hg1 : P.globalNamed "unicode/utf8.acceptRanges" = some 1)
    (hy0 : (P.globals[0]?).map (·.type) = some t0) (hy1 : (P.globals[1]?).map (·.type) = some t1)
    (ht0 : P.underlying t0 = some (.array 256 e0)) (ht1 : P.underlying t1 = some (.array 16 e1)) (he0 : P.underlying e0 = some (.int .u8))
    {fs : Array Field} {f g : Field} (he1 : P.underlying e1 = some (.struct fs)) (hfs : fs.toList = [f, g]) (hf0 : f.offset = 0) (hgo : g.offset = 1) (hf : P.underlying f.type = some (.int .u8)) (hg : P.underlying g.type = some (.int .u8))
    (hcf : P.cellsOf f.type = 1) (hcg : P.cellsOf g.type = 1) (hc0 : P.cellsOf t0 = 256) (hc1 : P.cellsOf t1 = 32) (hce0 : P.cellsOf e0 = 1) (hce1 : P.cellsOf e1 = 2) : GlobI utfGlob W.heap.size W := by
  obtain ⟨ps, hL, _⟩ := hm
  obtain ⟨cs1, fu1, p1, hv1, hr1⟩ := laid_at hL (i := 0) rfl hg1 hy1
  obtain ⟨cs0, fu0, p0, hv0, hr0⟩ := laid_at hL (i := 1) rfl hg0 hy0
  subst hd0 hd1
  obtain ⟨l0, n0, r0⟩ := trod_arr (n := 256) (m := 1) ht0 hce0 hc0 hr0
  obtain ⟨l1, n1, r1⟩ := trod_arr (n := 16) (m := 2) ht1 hce1 hc1 hr1
  intro gg r xs hgg
  unfold utfGlob at hgg
  by_cases h0 : gg = 0
  · subst h0
    simp only [Nat.beq, cond_true, Option.some.injEq, Sigma.mk.injEq] at hgg
    obtain ⟨rfl, hxs⟩ := hgg
    cases hxs
    refine ⟨var_lt hg0 hv0, fun i d hd => ?_⟩
    obtain ⟨f', q, hq⟩ := r0 i _ (by rw [List.getElem?_map, hd]; rfl)
    have hcs := trod_u8 he0 hq
    refine ⟨[.int .u8 d], rfl, fun j v hj => ?_, fun C w => ⟨.int .u8 d, [], rfl, ⟨rfl, rfl⟩, rfl⟩⟩
    match j, hj with
    | 0, hj =>
      cases hj
      rw [World.var?_cell hg0 hv0]
      have := congrArg (·[0]?) hcs
      simpa [Rw.n, List.getElem?_take, List.getElem?_drop] using this
    | j + 1, hj => simp at hj
  · by_cases h1 : gg = 1
    · subst h1
      simp only [Nat.beq, cond_true, cond_false, Option.some.injEq, Sigma.mk.injEq] at hgg
      obtain ⟨rfl, hxs⟩ := hgg
      cases hxs
      refine ⟨var_lt hg1 hv1, fun i d hd => ?_⟩
      obtain ⟨f', q, hq⟩ := r1 i _ (by rw [List.getElem?_map, hd]; rfl)
      have hcs := trod_two he1 hfs hce1 hf0 hgo hf hg hcf hcg hq
      refine ⟨[.int .u8 d.1, .int .u8 d.2], rfl, fun j v hj => ?_, fun C w => ⟨.int .u8 d.1, [.int .u8 d.2], rfl, ⟨rfl, rfl⟩, ⟨.int .u8 d.2, [], rfl, ⟨rfl, rfl⟩, rfl⟩⟩⟩
      match j, hj with
      | 0, hj =>
        cases hj
        rw [World.var?_cell hg1 hv1]
        have := congrArg (·[0]?) hcs
        simpa [Rw.n, List.getElem?_take, List.getElem?_drop] using this
      | 1, hj =>
        cases hj
        rw [World.var?_cell hg1 hv1]
        have := congrArg (·[1]?) hcs
        simpa [Rw.n, List.getElem?_take, List.getElem?_drop] using this
      | j + 2, hj => simp at hj
    · exfalso
      match gg, h0, h1 with
      | 0, h0, _ => exact h0 rfl
      | 1, _, h1 => exact h1 rfl
      | n + 2, _, _ => simp [Nat.beq] at hgg
def u8B (P : Program) (t : TypeId) : Bool := match P.underlying t with
  | some (.int .u8) => P.cellsOf t == 1
  | _ => false
theorem u8B_ok {t : TypeId} (h : u8B P t = true) : P.underlying t = some (.int .u8) ∧ P.cellsOf t = 1 := by
  unfold u8B at h
  split at h
  · rename_i e; exact ⟨e, by simpa using h⟩
  · cases h
def twoB (P : Program) (t : TypeId) : Bool := match P.underlying t with
  | some (.struct fs) => match fs.toList with
    | [f, g] => f.offset == 0 && g.offset == 1 && u8B P f.type && u8B P g.type && P.cellsOf t == 2
    | _ => false
  | _ => false
/-- The two tables' types, looked at. -/
def tabB (P : Program) (t0 t1 e0 e1 : TypeId) : Bool :=
  P.globalNamed "unicode/utf8.first" == some 0 && P.globalNamed "unicode/utf8.acceptRanges" == some 1 && (P.globals[0]?).map (·.type) == some t0 && (P.globals[1]?).map (·.type) == some t1 &&
  P.cellsOf t0 == 256 && P.cellsOf t1 == 32 && u8B P e0 && twoB P e1
theorem globI_utfB {W : World} {d0 d1 : DataW Unit} (hm : laidMet P [("unicode/utf8.acceptRanges", d1), ("unicode/utf8.first", d0)] W)
    (hd0 : d0 = .agg (utfFirst.map fun z => .lit (.int .u8 z))) (hd1 : d1 = .agg (utfAccept.map fun z => .agg [.lit (.int .u8 z.1), .lit (.int .u8 z.2)]))
    (t0 t1 e0 e1 : TypeId) (hB : tabB P t0 t1 e0 e1 = true) (ht0 : P.underlying t0 = some (.array 256 e0)) (ht1 : P.underlying t1 = some (.array 16 e1)) : GlobI utfGlob W.heap.size W := by
  unfold tabB at hB
  simp only [Bool.and_eq_true, beq_iff_eq] at hB
  obtain ⟨⟨⟨⟨⟨⟨⟨a1, a2⟩, a3⟩, a4⟩, a5⟩, a6⟩, a7⟩, a8⟩ := hB
  unfold twoB at a8
  split at a8
  · rename_i fs hfs
    split at a8
    · rename_i f g hfg
      simp only [Bool.and_eq_true, beq_iff_eq] at a8
      obtain ⟨⟨⟨⟨b1, b2⟩, b3⟩, b4⟩, b5⟩ := a8
      obtain ⟨c1, c2⟩ := u8B_ok b3
      obtain ⟨c3, c4⟩ := u8B_ok b4
      obtain ⟨c5, c6⟩ := u8B_ok a7
      exact globI_utf hm hd0 hd1 a1 a2 a3 a4 ht0 ht1 c5 hfs hfg b1 b2 c1 c3 c2 c4 a5 a6 c6 b5
    · cases a8
  · cases a8
def lay (xs : List Value) : Obj → Obj
  | .cells _ t frozen => .cells xs.toArray t frozen
  | o => o
/-- What the tables' initialisers lay. -/
def layUtf (h : Array Obj) : Array Obj := (h.modify 0 (lay (utfFirst.map fun z => .int .u8 z))).modify 1 (lay (utfAccept.flatMap fun z => [.int .u8 z.1, .int .u8 z.2]))
end Go.Ev
end
