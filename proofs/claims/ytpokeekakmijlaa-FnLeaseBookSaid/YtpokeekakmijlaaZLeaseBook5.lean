/- LeaseBook: parts FlFnLeaseBook EvLLeaseBook EvKind EvOne, packed by squash.py. -/
import GoSem.ClaimWide
import Derived.Test.YtpokeekakmijlaaZLeaseBook0
import Derived.Test.YtpokeekakmijlaaZLeaseBook1
import Derived.Test.YtpokeekakmijlaaZLeaseBook2
import Derived.Test.YtpokeekakmijlaaZLeaseBook3
import Derived.Test.YtpokeekakmijlaaZLeaseBook4
set_option linter.unusedVariables false
set_option linter.unusedSimpArgs false
section
/- l_FnLeaseBook: its contract. -/
namespace Go.Ev.Seat
open Go.RowKit
set_option maxRecDepth 100000
set_option linter.unusedVariables false
set_option linter.unusedSimpArgs false
def z_l_FnLeaseBook_12_0 (x3 : List T_Lease) (x5 : Int) (x11 : Int) (x13 : Bool) (b00 : Int) (b01 : Int) (b02 : Int) (b03 : Int) (o1 : List T_Lease) (o2 : List T_Lease) : St := { tm := ([.x, .x, .x, (.l .no leaseR x3), (.pb 0 0), (.s (.int .i64 x5)), .x, .x, (.w 1), .x, (.w 2), (.s (.int .i64 x11)), .x, (.s (.bool x13))] ++ List.replicate 120 .x), ob := [(0, (.box [(.s (.int .i64 b00)), (.s (.int .i64 b01)), (.s (.int .i64 b02)), (.s (.int .i64 b03))])), (1, (.arr true true leaseR o1)), (2, (.arr true true leaseR o2))], nx := 3, io := [] }
def sh_l_FnLeaseBook_12_0 : Ss := { tm := (.cons (.x) (.cons (.x) (.cons (.x) (.cons (.l .no leaseR) (.cons (.pb 0 0) (.cons (.int .i64) (.cons (.x) (.cons (.x) (.cons (.w 1) (.cons (.x) (.cons (.w 2) (.cons (.int .i64) (.cons (.w 3) (.cons (.bool) (.cons (.int .i64) (xsh 119)))))))))))))))), ob := (.box (.cons (.int .i64) (.cons (.int .i64) (.cons (.int .i64) (.cons (.int .i64) .nil)))) (.arr true true leaseR (.arr true true leaseR (.arr true true leaseR .nil)))), nx := 4, io := .nil }
def d_l_FnLeaseBook_12_0 (x3 : List T_Lease) (x5 : Int) (x11 : Int) (x13 : Bool) (x14 : Int) (b00 : Int) (b01 : Int) (b02 : Int) (b03 : Int) (o1 : List T_Lease) (o2 : List T_Lease) (o3 : List T_Lease) : sh_l_FnLeaseBook_12_0.T := (((), ((), ((), (x3, ((), (x5, ((), ((), ((), ((), ((), (x11, ((), (x13, (x14, xd 119))))))))))))))), ((b00, (b01, (b02, (b03, ())))), (o1, (o2, (o3, ())))), ())
def s_l_FnLeaseBook_12_0 (x3 : List T_Lease) (x5 : Int) (x11 : Int) (x13 : Bool) (x14 : Int) (b00 : Int) (b01 : Int) (b02 : Int) (b03 : Int) (o1 : List T_Lease) (o2 : List T_Lease) (o3 : List T_Lease) : St := { tm := ([.x, .x, .x, (.l .no leaseR x3), (.pb 0 0), (.s (.int .i64 x5)), .x, .x, (.w 1), .x, (.w 2), (.s (.int .i64 x11)), (.w 3), (.s (.bool x13)), (.s (.int .i64 x14))] ++ List.replicate 119 .x), ob := [(0, (.box [(.s (.int .i64 b00)), (.s (.int .i64 b01)), (.s (.int .i64 b02)), (.s (.int .i64 b03))])), (1, (.arr true true leaseR o1)), (2, (.arr true true leaseR o2)), (3, (.arr true true leaseR o3))], nx := 4, io := [] }
theorem se_l_FnLeaseBook_12_0 (x3 : List T_Lease) (x5 : Int) (x11 : Int) (x13 : Bool) (x14 : Int) (b00 : Int) (b01 : Int) (b02 : Int) (b03 : Int) (o1 : List T_Lease) (o2 : List T_Lease) (o3 : List T_Lease) : sh_l_FnLeaseBook_12_0.mk' (d_l_FnLeaseBook_12_0 x3 x5 x11 x13 x14 b00 b01 b02 b03 o1 o2 o3) = (s_l_FnLeaseBook_12_0 x3 x5 x11 x13 x14 b00 b01 b02 b03 o1 o2 o3) := by kernel_rfl
def w_l_FnLeaseBook_12_0 (d : sh_l_FnLeaseBook_12_0.T) (f : (List T_Lease) → Int → Int → Bool → Int → Int → Int → Int → Int → (List T_Lease) → (List T_Lease) → (List T_Lease) → Option Ret) : Option Ret := match d with | ((_, (_, (_, (x3, (_, (x5, (_, (_, (_, (_, (_, (x11, (_, (x13, (x14, _))))))))))))))), ((b00, (b01, (b02, (b03, _)))), (o1, (o2, (o3, _)))), _) => f x3 x5 x11 x13 x14 b00 b01 b02 b03 o1 o2 o3
noncomputable def P_l_FnLeaseBook_12_0 (x3 : List T_Lease) (x5 : Int) (x11 : Int) (x13 : Bool) (x14 : Int) (b00 : Int) (b01 : Int) (b02 : Int) (b03 : Int) (o1 : List T_Lease) (o2 : List T_Lease) (o3 : List T_Lease) (nx0 : (List T_Lease) → Int → Int → Bool → Int → Int → Int → Int → Int → (List T_Lease) → (List T_Lease) → (List T_Lease) → Option Ret) (k0 : (List T_Lease) → Int → Int → Bool → Int → Int → Int → Int → (List T_Lease) → (List T_Lease) → Option Ret) : Option Ret := (bif (decide (x14 < (((List.length o3) : Nat) : Int))) then (bif x13 then (nx0 x3 x5 x11 true (IntKind.wrap .i64 (x14 + (1 : Int))) b00 b01 b02 b03 o1 o2 o3) else (bif ((decide ((0 : Int) ≤ x14)) && (decide (x14 < (((List.length o3) : Nat) : Int)))) then (nx0 x3 x5 x11 (eqI ((List.getD o3 (Int.toNat x14) (leaseR.dflt)).1 :: ((List.getD o3 (Int.toNat x14) (leaseR.dflt)).2.1 :: ((List.getD o3 (Int.toNat x14) (leaseR.dflt)).2.2.1 :: ((List.getD o3 (Int.toNat x14) (leaseR.dflt)).2.2.2 :: ([] : List Int))))) (b00 :: (b01 :: (b02 :: (b03 :: ([] : List Int)))))) (IntKind.wrap .i64 (x14 + (1 : Int))) b00 b01 b02 b03 o1 o2 o3) else none)) else (k0 x3 x5 x11 x13 b00 b01 b02 b03 o1 o2))
noncomputable def Q_l_FnLeaseBook_12_0 : Nat → (List T_Lease) → Int → Int → Bool → Int → Int → Int → Int → Int → (List T_Lease) → (List T_Lease) → (List T_Lease) → ((List T_Lease) → Int → Int → Bool → Int → Int → Int → Int → (List T_Lease) → (List T_Lease) → Option Ret) → Option Ret
  | 0, _, _, _, _, _, _, _, _, _, _, _, _, _ => none
  | m + 1, x3, x5, x11, x13, x14, b00, b01, b02, b03, o1, o2, o3, k0 => P_l_FnLeaseBook_12_0 x3 x5 x11 x13 x14 b00 b01 b02 b03 o1 o2 o3 (fun x3 x5 x11 x13 x14 b00 b01 b02 b03 o1 o2 o3 => (Q_l_FnLeaseBook_12_0 m x3 x5 x11 x13 x14 b00 b01 b02 b03 o1 o2 o3 k0)) k0
noncomputable def R_l_FnLeaseBook_12_0 (x3 : List T_Lease) (x5 : Int) (x11 : Int) (x13 : Bool) (x14 : Int) (b00 : Int) (b01 : Int) (b02 : Int) (b03 : Int) (o1 : List T_Lease) (o2 : List T_Lease) (o3 : List T_Lease) (k0 : (List T_Lease) → Int → Int → Bool → Int → Int → Int → Int → (List T_Lease) → (List T_Lease) → Option Ret) : Option Ret := Q_l_FnLeaseBook_12_0 (List.length x3 + x5.toNat + x11.toNat + x14.toNat + b00.toNat + b01.toNat + b02.toNat + b03.toNat + List.length o1 + List.length o2 + List.length o3 + 2) x3 x5 x11 x13 x14 b00 b01 b02 b03 o1 o2 o3 k0
noncomputable def W_l_FnLeaseBook_12 : LoopFn := (fun (σ : St) (K : Ex → St → Option Ret) => (match sh_l_FnLeaseBook_12_0.un σ with | some d => w_l_FnLeaseBook_12_0 d (fun x3 x5 x11 x13 x14 b00 b01 b02 b03 o1 o2 o3 => R_l_FnLeaseBook_12_0 x3 x5 x11 x13 x14 b00 b01 b02 b03 o1 o2 o3 (fun x3 x5 x11 x13 b00 b01 b02 b03 o1 o2 => (K (.ext 0) (z_l_FnLeaseBook_12_0 x3 x5 x11 x13 b00 b01 b02 b03 o1 o2)))) | none => none))
def z_l_FnLeaseBook_17_0 (x2 : Bool) (x3 : List T_Lease) (x5 : Int) (x11 : Int) (x13 : Bool) (b00 : Int) (b01 : Int) (b02 : Int) (b03 : Int) (o1 : List T_Lease) (o2 : List T_Lease) : St := { tm := ([.x, .x, (.s (.bool x2)), (.l .no leaseR x3), (.pb 0 0), (.s (.int .i64 x5)), .x, .x, (.w 1), .x, (.w 2), (.s (.int .i64 x11)), .x, (.s (.bool x13))] ++ List.replicate 120 .x), ob := [(0, (.box [(.s (.int .i64 b00)), (.s (.int .i64 b01)), (.s (.int .i64 b02)), (.s (.int .i64 b03))])), (1, (.arr true true leaseR o1)), (2, (.arr true true leaseR o2))], nx := 3, io := [] }
def z_l_FnLeaseBook_17_1 (x3 : List T_Lease) (x5 : Int) (x11 : Int) (x13 : Bool) (b00 : Int) (b01 : Int) (b02 : Int) (b03 : Int) (o1 : List T_Lease) (o2 : List T_Lease) : St := { tm := ([.x, .x, .x, (.l .no leaseR x3), (.pb 0 0), (.s (.int .i64 x5)), .x, .x, (.w 1), .x, (.w 2), (.s (.int .i64 x11)), .x, (.s (.bool x13))] ++ List.replicate 120 .x), ob := [(0, (.box [(.s (.int .i64 b00)), (.s (.int .i64 b01)), (.s (.int .i64 b02)), (.s (.int .i64 b03))])), (1, (.arr true true leaseR o1)), (2, (.arr true true leaseR o2))], nx := 3, io := [] }
def sh_l_FnLeaseBook_17_0 : Ss := { tm := (.cons (.x) (.cons (.x) (.cons (.x) (.cons (.l .no leaseR) (.cons (.pb 0 0) (.cons (.int .i64) (.cons (.x) (.cons (.x) (.cons (.w 1) (.cons (.x) (.cons (.w 2) (.cons (.int .i64) (.cons (.x) (.cons (.bool) (.cons (.x) (.cons (.w 3) (.cons (.int .i64) (xsh 117)))))))))))))))))), ob := (.box (.cons (.int .i64) (.cons (.int .i64) (.cons (.int .i64) (.cons (.int .i64) .nil)))) (.arr true true leaseR (.arr true true leaseR (.arr true true leaseR .nil)))), nx := 4, io := .nil }
def d_l_FnLeaseBook_17_0 (x3 : List T_Lease) (x5 : Int) (x11 : Int) (x13 : Bool) (x16 : Int) (b00 : Int) (b01 : Int) (b02 : Int) (b03 : Int) (o1 : List T_Lease) (o2 : List T_Lease) (o3 : List T_Lease) : sh_l_FnLeaseBook_17_0.T := (((), ((), ((), (x3, ((), (x5, ((), ((), ((), ((), ((), (x11, ((), (x13, ((), ((), (x16, xd 117))))))))))))))))), ((b00, (b01, (b02, (b03, ())))), (o1, (o2, (o3, ())))), ())
def s_l_FnLeaseBook_17_0 (x3 : List T_Lease) (x5 : Int) (x11 : Int) (x13 : Bool) (x16 : Int) (b00 : Int) (b01 : Int) (b02 : Int) (b03 : Int) (o1 : List T_Lease) (o2 : List T_Lease) (o3 : List T_Lease) : St := { tm := ([.x, .x, .x, (.l .no leaseR x3), (.pb 0 0), (.s (.int .i64 x5)), .x, .x, (.w 1), .x, (.w 2), (.s (.int .i64 x11)), .x, (.s (.bool x13)), .x, (.w 3), (.s (.int .i64 x16))] ++ List.replicate 117 .x), ob := [(0, (.box [(.s (.int .i64 b00)), (.s (.int .i64 b01)), (.s (.int .i64 b02)), (.s (.int .i64 b03))])), (1, (.arr true true leaseR o1)), (2, (.arr true true leaseR o2)), (3, (.arr true true leaseR o3))], nx := 4, io := [] }
theorem se_l_FnLeaseBook_17_0 (x3 : List T_Lease) (x5 : Int) (x11 : Int) (x13 : Bool) (x16 : Int) (b00 : Int) (b01 : Int) (b02 : Int) (b03 : Int) (o1 : List T_Lease) (o2 : List T_Lease) (o3 : List T_Lease) : sh_l_FnLeaseBook_17_0.mk' (d_l_FnLeaseBook_17_0 x3 x5 x11 x13 x16 b00 b01 b02 b03 o1 o2 o3) = (s_l_FnLeaseBook_17_0 x3 x5 x11 x13 x16 b00 b01 b02 b03 o1 o2 o3) := by kernel_rfl
def w_l_FnLeaseBook_17_0 (d : sh_l_FnLeaseBook_17_0.T) (f : (List T_Lease) → Int → Int → Bool → Int → Int → Int → Int → Int → (List T_Lease) → (List T_Lease) → (List T_Lease) → Option Ret) : Option Ret := match d with | ((_, (_, (_, (x3, (_, (x5, (_, (_, (_, (_, (_, (x11, (_, (x13, (_, (_, (x16, _))))))))))))))))), ((b00, (b01, (b02, (b03, _)))), (o1, (o2, (o3, _)))), _) => f x3 x5 x11 x13 x16 b00 b01 b02 b03 o1 o2 o3
noncomputable def P_l_FnLeaseBook_17_0 (x3 : List T_Lease) (x5 : Int) (x11 : Int) (x13 : Bool) (x16 : Int) (b00 : Int) (b01 : Int) (b02 : Int) (b03 : Int) (o1 : List T_Lease) (o2 : List T_Lease) (o3 : List T_Lease) (nx0 : (List T_Lease) → Int → Int → Bool → Int → Int → Int → Int → Int → (List T_Lease) → (List T_Lease) → (List T_Lease) → Option Ret) (k0 : Bool → (List T_Lease) → Int → Int → Bool → Int → Int → Int → Int → (List T_Lease) → (List T_Lease) → Option Ret) (k1 : (List T_Lease) → Int → Int → Bool → Int → Int → Int → Int → (List T_Lease) → (List T_Lease) → Option Ret) : Option Ret := (bif (decide (x16 < (((List.length o3) : Nat) : Int))) then (bif ((decide ((0 : Int) ≤ x16)) && (decide (x16 < (((List.length o3) : Nat) : Int)))) then (bif (decide ((List.getD o3 (Int.toNat x16) (leaseR.dflt)).2.2.2 ≤ b03)) then (k0 false x3 x5 x11 x13 b00 b01 b02 b03 o1 o2) else (nx0 x3 x5 x11 x13 (IntKind.wrap .i64 (x16 + (1 : Int))) b00 b01 b02 b03 o1 o2 o3)) else none) else (k1 x3 x5 x11 x13 b00 b01 b02 b03 o1 o2))
noncomputable def Q_l_FnLeaseBook_17_0 : Nat → (List T_Lease) → Int → Int → Bool → Int → Int → Int → Int → Int → (List T_Lease) → (List T_Lease) → (List T_Lease) → (Bool → (List T_Lease) → Int → Int → Bool → Int → Int → Int → Int → (List T_Lease) → (List T_Lease) → Option Ret) → ((List T_Lease) → Int → Int → Bool → Int → Int → Int → Int → (List T_Lease) → (List T_Lease) → Option Ret) → Option Ret
  | 0, _, _, _, _, _, _, _, _, _, _, _, _, _, _ => none
  | m + 1, x3, x5, x11, x13, x16, b00, b01, b02, b03, o1, o2, o3, k0, k1 => P_l_FnLeaseBook_17_0 x3 x5 x11 x13 x16 b00 b01 b02 b03 o1 o2 o3 (fun x3 x5 x11 x13 x16 b00 b01 b02 b03 o1 o2 o3 => (Q_l_FnLeaseBook_17_0 m x3 x5 x11 x13 x16 b00 b01 b02 b03 o1 o2 o3 k0 k1)) k0 k1
noncomputable def R_l_FnLeaseBook_17_0 (x3 : List T_Lease) (x5 : Int) (x11 : Int) (x13 : Bool) (x16 : Int) (b00 : Int) (b01 : Int) (b02 : Int) (b03 : Int) (o1 : List T_Lease) (o2 : List T_Lease) (o3 : List T_Lease) (k0 : Bool → (List T_Lease) → Int → Int → Bool → Int → Int → Int → Int → (List T_Lease) → (List T_Lease) → Option Ret) (k1 : (List T_Lease) → Int → Int → Bool → Int → Int → Int → Int → (List T_Lease) → (List T_Lease) → Option Ret) : Option Ret := Q_l_FnLeaseBook_17_0 (List.length x3 + x5.toNat + x11.toNat + x16.toNat + b00.toNat + b01.toNat + b02.toNat + b03.toNat + List.length o1 + List.length o2 + List.length o3 + 2) x3 x5 x11 x13 x16 b00 b01 b02 b03 o1 o2 o3 k0 k1
noncomputable def W_l_FnLeaseBook_17 : LoopFn := (fun (σ : St) (K : Ex → St → Option Ret) => (match sh_l_FnLeaseBook_17_0.un σ with | some d => w_l_FnLeaseBook_17_0 d (fun x3 x5 x11 x13 x16 b00 b01 b02 b03 o1 o2 o3 => R_l_FnLeaseBook_17_0 x3 x5 x11 x13 x16 b00 b01 b02 b03 o1 o2 o3 (fun x2 x3 x5 x11 x13 b00 b01 b02 b03 o1 o2 => (K .ret (z_l_FnLeaseBook_17_0 x2 x3 x5 x11 x13 b00 b01 b02 b03 o1 o2))) (fun x3 x5 x11 x13 b00 b01 b02 b03 o1 o2 => (K (.ext 2) (z_l_FnLeaseBook_17_1 x3 x5 x11 x13 b00 b01 b02 b03 o1 o2)))) | none => none))
noncomputable abbrev pl_l_FnLeaseBook : List (Nat × Plan × List Nat) := [(14, takes [0, 1, 2, 3, 4, 5, 6, 7, 8, 9], []), (19, takes [0, 1, 2, 3, 4, 5, 6, 7], [])]
noncomputable abbrev ls_l_FnLeaseBook : List (Nat × Bool × Sm) := [(N.l_big, true, S_l_big), (N.s_DrawLeaseTake, false, (SB_s_DrawLeaseTake B_s_DrawLeaseTake)), (N.s_LeaseTake, true, S_s_LeaseTake), (N.i_LeaseTake, true, S_i_LeaseTake), (N.l_sameLeases, true, S_l_sameLeases), (N.i_LeaseDrop, true, S_i_LeaseDrop), (N.i_LeaseAll, true, S_i_LeaseAll), (N.i_LeaseExpire, true, S_i_LeaseExpire)]
noncomputable abbrev E_l_FnLeaseBook : Env := En ls_l_FnLeaseBook pl_l_FnLeaseBook [(12, [3,4,5,8,10,11,12,13,14], [2,3,4,5,8,10,11,13], W_l_FnLeaseBook_12), (17, [3,4,5,8,10,11,13,15,16], [2,3,4,5,8,10,11,13], W_l_FnLeaseBook_17)] [] false 0 []
noncomputable abbrev U_l_FnLeaseBook_12 := rounds (run E_l_FnLeaseBook (bodyOf F.l_FnLeaseBook 12)) [3,4,5,8,10,11,12,13,14] [2,3,4,5,8,10,11,13]
theorem st_l_FnLeaseBook_12_0 (m : Nat) (x3 : List T_Lease) (x5 : Int) (x11 : Int) (x13 : Bool) (x14 : Int) (b00 : Int) (b01 : Int) (b02 : Int) (b03 : Int) (o1 : List T_Lease) (o2 : List T_Lease) (o3 : List T_Lease) (K : Ex → St → Option Ret) : U_l_FnLeaseBook_12 (m + 1) (s_l_FnLeaseBook_12_0 x3 x5 x11 x13 x14 b00 b01 b02 b03 o1 o2 o3) K = P_l_FnLeaseBook_12_0 x3 x5 x11 x13 x14 b00 b01 b02 b03 o1 o2 o3 (fun x3 x5 x11 x13 x14 b00 b01 b02 b03 o1 o2 o3 => (U_l_FnLeaseBook_12 m (s_l_FnLeaseBook_12_0 x3 x5 x11 x13 x14 b00 b01 b02 b03 o1 o2 o3) K)) (fun x3 x5 x11 x13 b00 b01 b02 b03 o1 o2 => (K (.ext 0) (z_l_FnLeaseBook_12_0 x3 x5 x11 x13 b00 b01 b02 b03 o1 o2))) := by kernel_rfl
theorem q_l_FnLeaseBook_12 (K : Ex → St → Option Ret) : ∀ m : Nat, (∀ (x3 : List T_Lease) (x5 : Int) (x11 : Int) (x13 : Bool) (x14 : Int) (b00 : Int) (b01 : Int) (b02 : Int) (b03 : Int) (o1 : List T_Lease) (o2 : List T_Lease) (o3 : List T_Lease), U_l_FnLeaseBook_12 m (s_l_FnLeaseBook_12_0 x3 x5 x11 x13 x14 b00 b01 b02 b03 o1 o2 o3) K = Q_l_FnLeaseBook_12_0 m x3 x5 x11 x13 x14 b00 b01 b02 b03 o1 o2 o3 (fun x3 x5 x11 x13 b00 b01 b02 b03 o1 o2 => (K (.ext 0) (z_l_FnLeaseBook_12_0 x3 x5 x11 x13 b00 b01 b02 b03 o1 o2))))
  | 0 => (fun _ _ _ _ _ _ _ _ _ _ _ _ => rfl)
  | m + 1 => (fun x3 x5 x11 x13 x14 b00 b01 b02 b03 o1 o2 o3 => (by rw [st_l_FnLeaseBook_12_0, show (fun x3 x5 x11 x13 x14 b00 b01 b02 b03 o1 o2 o3 => (U_l_FnLeaseBook_12 m (s_l_FnLeaseBook_12_0 x3 x5 x11 x13 x14 b00 b01 b02 b03 o1 o2 o3) K)) = (fun x3 x5 x11 x13 x14 b00 b01 b02 b03 o1 o2 o3 => (Q_l_FnLeaseBook_12_0 m x3 x5 x11 x13 x14 b00 b01 b02 b03 o1 o2 o3 (fun x3 x5 x11 x13 b00 b01 b02 b03 o1 o2 => (K (.ext 0) (z_l_FnLeaseBook_12_0 x3 x5 x11 x13 b00 b01 b02 b03 o1 o2))))) from funext fun x3 => funext fun x5 => funext fun x11 => funext fun x13 => funext fun x14 => funext fun b00 => funext fun b01 => funext fun b02 => funext fun b03 => funext fun o1 => funext fun o2 => funext fun o3 => (q_l_FnLeaseBook_12 K m) x3 x5 x11 x13 x14 b00 b01 b02 b03 o1 o2 o3]; rfl))
theorem loopK_l_FnLeaseBook_12 : LoopOk E_l_FnLeaseBook (bodyOf F.l_FnLeaseBook 12) := by
  refine loopW_ok (n := 12) (F := W_l_FnLeaseBook_12) (by kernel_rfl) rfl (li := [3,4,5,8,10,11,12,13,14]) (lo := [2,3,4,5,8,10,11,13]) rfl (fun σ K r hr => ?_)
  unfold W_l_FnLeaseBook_12 at hr
  split at hr
  · rename_i d hd
    rw [Ss.un_mk hd]
    exact ⟨_, ((congrArg (fun z => U_l_FnLeaseBook_12 _ z K) (se_l_FnLeaseBook_12_0 _ _ _ _ _ _ _ _ _ _ _ _)).trans ((q_l_FnLeaseBook_12 K _) _ _ _ _ _ _ _ _ _ _ _ _)).trans hr⟩
  · cases hr
noncomputable abbrev U_l_FnLeaseBook_17 := rounds (run E_l_FnLeaseBook (bodyOf F.l_FnLeaseBook 17)) [3,4,5,8,10,11,13,15,16] [2,3,4,5,8,10,11,13]
theorem st_l_FnLeaseBook_17_0 (m : Nat) (x3 : List T_Lease) (x5 : Int) (x11 : Int) (x13 : Bool) (x16 : Int) (b00 : Int) (b01 : Int) (b02 : Int) (b03 : Int) (o1 : List T_Lease) (o2 : List T_Lease) (o3 : List T_Lease) (K : Ex → St → Option Ret) : U_l_FnLeaseBook_17 (m + 1) (s_l_FnLeaseBook_17_0 x3 x5 x11 x13 x16 b00 b01 b02 b03 o1 o2 o3) K = P_l_FnLeaseBook_17_0 x3 x5 x11 x13 x16 b00 b01 b02 b03 o1 o2 o3 (fun x3 x5 x11 x13 x16 b00 b01 b02 b03 o1 o2 o3 => (U_l_FnLeaseBook_17 m (s_l_FnLeaseBook_17_0 x3 x5 x11 x13 x16 b00 b01 b02 b03 o1 o2 o3) K)) (fun x2 x3 x5 x11 x13 b00 b01 b02 b03 o1 o2 => (K .ret (z_l_FnLeaseBook_17_0 x2 x3 x5 x11 x13 b00 b01 b02 b03 o1 o2))) (fun x3 x5 x11 x13 b00 b01 b02 b03 o1 o2 => (K (.ext 2) (z_l_FnLeaseBook_17_1 x3 x5 x11 x13 b00 b01 b02 b03 o1 o2))) := by kernel_rfl
theorem q_l_FnLeaseBook_17 (K : Ex → St → Option Ret) : ∀ m : Nat, (∀ (x3 : List T_Lease) (x5 : Int) (x11 : Int) (x13 : Bool) (x16 : Int) (b00 : Int) (b01 : Int) (b02 : Int) (b03 : Int) (o1 : List T_Lease) (o2 : List T_Lease) (o3 : List T_Lease), U_l_FnLeaseBook_17 m (s_l_FnLeaseBook_17_0 x3 x5 x11 x13 x16 b00 b01 b02 b03 o1 o2 o3) K = Q_l_FnLeaseBook_17_0 m x3 x5 x11 x13 x16 b00 b01 b02 b03 o1 o2 o3 (fun x2 x3 x5 x11 x13 b00 b01 b02 b03 o1 o2 => (K .ret (z_l_FnLeaseBook_17_0 x2 x3 x5 x11 x13 b00 b01 b02 b03 o1 o2))) (fun x3 x5 x11 x13 b00 b01 b02 b03 o1 o2 => (K (.ext 2) (z_l_FnLeaseBook_17_1 x3 x5 x11 x13 b00 b01 b02 b03 o1 o2))))
  | 0 => (fun _ _ _ _ _ _ _ _ _ _ _ _ => rfl)
  | m + 1 => (fun x3 x5 x11 x13 x16 b00 b01 b02 b03 o1 o2 o3 => (by rw [st_l_FnLeaseBook_17_0, show (fun x3 x5 x11 x13 x16 b00 b01 b02 b03 o1 o2 o3 => (U_l_FnLeaseBook_17 m (s_l_FnLeaseBook_17_0 x3 x5 x11 x13 x16 b00 b01 b02 b03 o1 o2 o3) K)) = (fun x3 x5 x11 x13 x16 b00 b01 b02 b03 o1 o2 o3 => (Q_l_FnLeaseBook_17_0 m x3 x5 x11 x13 x16 b00 b01 b02 b03 o1 o2 o3 (fun x2 x3 x5 x11 x13 b00 b01 b02 b03 o1 o2 => (K .ret (z_l_FnLeaseBook_17_0 x2 x3 x5 x11 x13 b00 b01 b02 b03 o1 o2))) (fun x3 x5 x11 x13 b00 b01 b02 b03 o1 o2 => (K (.ext 2) (z_l_FnLeaseBook_17_1 x3 x5 x11 x13 b00 b01 b02 b03 o1 o2))))) from funext fun x3 => funext fun x5 => funext fun x11 => funext fun x13 => funext fun x16 => funext fun b00 => funext fun b01 => funext fun b02 => funext fun b03 => funext fun o1 => funext fun o2 => funext fun o3 => (q_l_FnLeaseBook_17 K m) x3 x5 x11 x13 x16 b00 b01 b02 b03 o1 o2 o3]; rfl))
theorem loopK_l_FnLeaseBook_17 : LoopOk E_l_FnLeaseBook (bodyOf F.l_FnLeaseBook 17) := by
  refine loopW_ok (n := 17) (F := W_l_FnLeaseBook_17) (by kernel_rfl) rfl (li := [3,4,5,8,10,11,13,15,16]) (lo := [2,3,4,5,8,10,11,13]) rfl (fun σ K r hr => ?_)
  unfold W_l_FnLeaseBook_17 at hr
  split at hr
  · rename_i d hd
    rw [Ss.un_mk hd]
    exact ⟨_, ((congrArg (fun z => U_l_FnLeaseBook_17 _ z K) (se_l_FnLeaseBook_17_0 _ _ _ _ _ _ _ _ _ _ _ _)).trans ((q_l_FnLeaseBook_17 K _) _ _ _ _ _ _ _ _ _ _ _ _)).trans hr⟩
  · cases hr
noncomputable def T_l_FnLeaseBook (code : List Int) (K : Ret → Option Ret) : Option Ret := (bif (decide ((((List.length code) : Nat) : Int) > (1048576 : Int))) then K ((.s (.bool true)), []) else (B_s_DrawLeaseTake code (fun y0 y1 y2 y3 y4 y5 => (bif (Nat.ble (List.length y0) 1048576) then (bif (Nat.ble (List.length y0) 1048576) then (bif ((takeD y0 (y1, (y2, (y3, y4))) y5).2 != (takeD y0 (y1, (y2, (y3, y4))) y5).2) then (bif ((takeD y0 (y1, (y2, (y3, y4))) y5).2 == (takeD y0 (y1, (y2, (y3, y4))) y5).2) then (bif (Nat.ble (List.length (takeD y0 (y1, (y2, (y3, y4))) y5).1) 1048576) then K ((.s (.bool (decide ((takeD y0 (y1, (y2, (y3, y4))) y5).1 = (takeD y0 (y1, (y2, (y3, y4))) y5).1)))), []) else none) else K ((.s (.bool false)), [])) else (bif (Nat.ble (List.length (takeD y0 (y1, (y2, (y3, y4))) y5).1) 1048576) then (bif (!(decide ((takeD y0 (y1, (y2, (y3, y4))) y5).1 = (takeD y0 (y1, (y2, (y3, y4))) y5).1))) then (bif ((takeD y0 (y1, (y2, (y3, y4))) y5).2 == (takeD y0 (y1, (y2, (y3, y4))) y5).2) then (bif (Nat.ble (List.length (takeD y0 (y1, (y2, (y3, y4))) y5).1) 1048576) then K ((.s (.bool (decide ((takeD y0 (y1, (y2, (y3, y4))) y5).1 = (takeD y0 (y1, (y2, (y3, y4))) y5).1)))), []) else none) else K ((.s (.bool false)), [])) else (bif ((takeD y0 (y1, (y2, (y3, y4))) y5).2 != (0 : Int)) then (bif ((takeD y0 (y1, (y2, (y3, y4))) y5).2 == (takeD y0 (y1, (y2, (y3, y4))) y5).2) then (bif (Nat.ble (List.length (takeD y0 (y1, (y2, (y3, y4))) y5).1) 1048576) then K ((.s (.bool (decide ((takeD y0 (y1, (y2, (y3, y4))) y5).1 = (takeD y0 (y1, (y2, (y3, y4))) y5).1)))), []) else none) else K ((.s (.bool false)), [])) else (bif (Nat.ble (List.length (takeD y0 (y1, (y2, (y3, y4))) y5).1) 1048576) then (bif (Nat.ble (List.length (takeD y0 (y1, (y2, (y3, y4))) y5).1) 1048576) then (R_l_FnLeaseBook_12_0 y0 y5 (dropD (takeD y0 (y1, (y2, (y3, y4))) y5).1 (y1, (y2, (y3, y4)))).2 false (0 : Int) y1 y2 y3 y4 (takeD y0 (y1, (y2, (y3, y4))) y5).1 (dropD (takeD y0 (y1, (y2, (y3, y4))) y5).1 (y1, (y2, (y3, y4)))).1 (bif (leasesOkD (takeD y0 (y1, (y2, (y3, y4))) y5).1) then (List.filter (fun x => (x.2.2.1 == y3)) (takeD y0 (y1, (y2, (y3, y4))) y5).1) else []) (fun y6 y7 y8 y9 y10 y11 y12 y13 y14 y15 => (bif (Nat.ble (List.length y14) 1048576) then (R_l_FnLeaseBook_17_0 y6 y7 y8 y9 (0 : Int) y10 y11 y12 y13 y14 y15 (bif (leasesOkD y14) then (List.filter (fun x => (decide (x.2.2.2 > y13))) y14) else []) (fun y16 y17 y18 y19 y20 y21 y22 y23 y24 y25 y26 => K ((.s (.bool y16)), [])) (fun y27 y28 y29 y30 y31 y32 y33 y34 y35 y36 => (bif (Nat.ble (List.length y35) 1048576) then (bif (y29 == (0 : Int)) then (bif (Nat.ble (List.length y36) 1048576) then (bif (decide (y36 = y27)) then (bif y30 then (bif ((takeD y35 (y31, (y32, (y33, y34))) y28).2 == (4 : Int)) then K ((.s (.bool ((((List.length y35) : Nat) : Int) == (IntKind.wrap .i64 ((((List.length y27) : Nat) : Int) + (1 : Int)))))), []) else K ((.s (.bool false)), [])) else K ((.s (.bool false)), [])) else K ((.s (.bool false)), [])) else none) else K ((.s (.bool false)), [])) else none))) else none))) else none) else none))) else none)) else none) else none))))
theorem e_l_FnLeaseBook (code : List Int) (K : Ret → Option Ret) : evF E_l_FnLeaseBook true F.l_FnLeaseBook [.l .no bytesR code] K = T_l_FnLeaseBook code K := by kernel_rfl
def S_l_FnLeaseBook : Sm := S_fnR [.l bytesR] (fun d => d.1.all isB) (fun d => (bl true, []))
theorem v_l_FnLeaseBook (code : List Int) (h : (code.all isB) = true) (K : Ret → Option Ret) : T_l_FnLeaseBook code K = K (bl true, []) := by
  unfold T_l_FnLeaseBook
  by_cases hc : ((code.length : Nat) : Int) > 1048576
  · rw [decide_eq_true hc]; rfl
  have hf : fitB code = true := by unfold fitB; rw [Bool.and_eq_true]; exact ⟨Nat.ble_eq_true_of_le (by omega), h⟩
  rw [decide_eq_false hc]
  obtain ⟨l, y1, y2, y3, y4, n, hl, hk⟩ := b_s_DrawLeaseTake code hf
  rw [cond_false, hk]
  have hlen := takeD_len l (y1, (y2, (y3, y4))) n
  rw [Nat.ble_eq_true_of_le (show l.length ≤ 1048576 by omega), Nat.ble_eq_true_of_le (show (takeD l (y1, (y2, (y3, y4))) n).1.length ≤ 1048576 by omega)]
  by_cases hz : (takeD l (y1, (y2, (y3, y4))) n).2 = 0
  · have e : takeD l (y1, (y2, (y3, y4))) n = ((takeD l (y1, (y2, (y3, y4))) n).1, 0) := by rw [← hz]
    obtain ⟨a1, a2, a3, a4, a5, a6, a7, a8, a9⟩ := took e
    have d1 := ins_drop a1 a2 a7 a8
    have d2 := ins_twice a1 a2 a3 a4 a5 a6 a7 a8
    have d3 := ins_ok a1 a2 a7 a8
    have hil := insL_len (l := l) (x := (y1, (y2, (y3, y4))))
    rw [hz, a9, d1, d3]
    simp only [bne_self_eq_false, beq_self_eq_true, decide_true, Bool.not_true, cond_false, cond_true]
    have q12 : ∀ (kk : (List T_Lease) → Int → Int → Bool → Int → Int → Int → Int → (List T_Lease) → (List T_Lease) → Option Ret) (o1 o2 o3 : List T_Lease) (g : Int) (m i : Nat) (b : Bool), o3.length ≤ 100 → i ≤ o3.length → o3.length - i < m → Q_l_FnLeaseBook_12_0 m l n g b ((i : Nat) : Int) y1 y2 y3 y4 o1 o2 o3 kk = kk l n g (b || (o3.drop i).any (fun e => decide (e = (y1, (y2, (y3, y4)))))) y1 y2 y3 y4 o1 o2 := by
      intro kk o1 o2 o3 g m
      induction m with
      | zero => intro i b _ _ hm; omega
      | succ m ih =>
        intro i b h1 hi hm
        show P_l_FnLeaseBook_12_0 l n g b ((i : Nat) : Int) y1 y2 y3 y4 o1 o2 o3 _ _ = _
        unfold P_l_FnLeaseBook_12_0
        by_cases hlt : i < o3.length
        · have hd : o3.drop i = o3.getD i zeroL :: o3.drop (i + 1) := by rw [List.drop_eq_getElem_cons hlt, getD_z hlt]
          have hz : o3.getD i leaseR.dflt = o3.getD i zeroL := rfl
          rw [hd, List.any_cons, decide_eq_true (show ((i : Nat) : Int) < ((o3.length : Nat) : Int) by omega), decide_eq_true (show (0 : Int) ≤ ((i : Nat) : Int) by omega), Int.toNat_natCast, wrap_nat (by omega), hz]
          cases b with
          | true => exact (ih (i + 1) true h1 (by omega) (by omega)).trans (by rw [Bool.true_or, Bool.true_or])
          | false =>
            rw [eqI_lease (o3.getD i zeroL) (y1, (y2, (y3, y4)))]
            exact (ih (i + 1) (decide (o3.getD i zeroL = (y1, (y2, (y3, y4))))) h1 (by omega) (by omega)).trans (by rw [Bool.false_or])
        · obtain rfl : i = o3.length := by omega
          rw [decide_eq_false (show ¬ ((o3.length : Nat) : Int) < ((o3.length : Nat) : Int) by omega), List.drop_length, List.any_nil, Bool.or_false]; rfl
    have q17 : ∀ (kk0 : Bool → (List T_Lease) → Int → Int → Bool → Int → Int → Int → Int → (List T_Lease) → (List T_Lease) → Option Ret) (kk1 : (List T_Lease) → Int → Int → Bool → Int → Int → Int → Int → (List T_Lease) → (List T_Lease) → Option Ret) (o1 o2 o3 : List T_Lease) (g : Int) (b : Bool) (m i : Nat), o3.length ≤ 100 → (∀ e ∈ o3, e.2.2.2 > y4) → i ≤ o3.length → o3.length - i < m → Q_l_FnLeaseBook_17_0 m l n g b ((i : Nat) : Int) y1 y2 y3 y4 o1 o2 o3 kk0 kk1 = kk1 l n g b y1 y2 y3 y4 o1 o2 := by
      intro kk0 kk1 o1 o2 o3 g b m
      induction m with
      | zero => intro i _ _ _ hm; omega
      | succ m ih =>
        intro i h1 h2 hi hm
        show P_l_FnLeaseBook_17_0 l n g b ((i : Nat) : Int) y1 y2 y3 y4 o1 o2 o3 _ _ _ = _
        unfold P_l_FnLeaseBook_17_0
        by_cases hlt : i < o3.length
        · have hg := h2 _ (List.getElem_mem hlt)
          rw [← getD_z hlt] at hg
          have hz : o3.getD i leaseR.dflt = o3.getD i zeroL := rfl
          rw [decide_eq_true (show ((i : Nat) : Int) < ((o3.length : Nat) : Int) by omega), decide_eq_true (show (0 : Int) ≤ ((i : Nat) : Int) by omega), Int.toNat_natCast, wrap_nat (by omega), hz, decide_eq_false (show ¬ (o3.getD i zeroL).2.2.2 ≤ y4 by omega)]
          exact ih (i + 1) h1 h2 (by omega) (by omega)
        · obtain rfl : i = o3.length := by omega
          rw [decide_eq_false (show ¬ ((o3.length : Nat) : Int) < ((o3.length : Nat) : Int) by omega)]; rfl
    have f1 := List.length_filter_le (fun x : T_Lease => x.2.2.1 == y3) (insL l (y1, (y2, (y3, y4))))
    have f2 := List.length_filter_le (fun x : T_Lease => decide (x.2.2.2 > y4)) (insL l (y1, (y2, (y3, y4))))
    unfold R_l_FnLeaseBook_12_0 R_l_FnLeaseBook_17_0
    refine (q12 _ _ _ _ _ _ 0 false (by omega) (Nat.zero_le _) (by omega)).trans ?_
    rw [Nat.ble_eq_true_of_le (show (insL l (y1, (y2, (y3, y4)))).length ≤ 1048576 by omega), cond_true, d3, cond_true]
    refine (q17 _ _ _ _ _ _ _ _ 0 (by omega) (fun e he => by simpa using (List.mem_filter.1 he).2) (Nat.zero_le _) (by omega)).trans ?_
    have here : ((insL l (y1, (y2, (y3, y4)))).filter (fun x : T_Lease => x.2.2.1 == y3)).any (fun e => decide (e = (y1, (y2, (y3, y4))))) = true := List.any_eq_true.2 ⟨_, List.mem_filter.2 ⟨mem_insL.2 (.inl rfl), by simp⟩, by simp⟩
    rw [List.drop_zero, here, d2, hil, Nat.ble_eq_true_of_le (show l.length + 1 ≤ 1048576 by omega), Nat.ble_eq_true_of_le (show l.length ≤ 1048576 by omega), wrap_nat (by omega)]
    simp only [beq_self_eq_true, decide_true, Bool.false_or, cond_true]
    rfl
  · simp only [bne_self_eq_false, beq_self_eq_true, decide_true, Bool.not_true, cond_false, cond_true, bne_iff_ne.2 hz]
    rfl
theorem okS_l_FnLeaseBook : OkFn prog I N.l_FnLeaseBook true S_l_FnLeaseBook := okN (ok_fn (memc okS_l_big (memc okS_s_DrawLeaseTake (memc okS_s_LeaseTake (memc okS_i_LeaseTake (memc okS_l_sameLeases (memc okS_i_LeaseDrop (memc okS_i_LeaseAll (memc okS_i_LeaseExpire mem0)))))))) (l := ls_l_FnLeaseBook) (p := pl_l_FnLeaseBook) (ls := [(12, [3,4,5,8,10,11,12,13,14], [2,3,4,5,8,10,11,13], W_l_FnLeaseBook_12), (17, [3,4,5,8,10,11,13,15,16], [2,3,4,5,8,10,11,13], W_l_FnLeaseBook_17)]) (lend := []) (focus := false) (fuel := 0) (give := []) (fn := F.l_FnLeaseBook) (by kernel_rfl) (by kernel_rfl) (by kernel_rfl) (by kernel_rfl) (cs := [bodyOf F.l_FnLeaseBook 12, bodyOf F.l_FnLeaseBook 17]) (by kernel_rfl) (loopsc loopK_l_FnLeaseBook_12 (loopsc loopK_l_FnLeaseBook_17 loops0))) (S_fnR_of fun d K h => (e_l_FnLeaseBook d.1 K).trans (v_l_FnLeaseBook d.1 h K))
end Go.Ev.Seat
end
section
/- The law FnLeaseBook: it answers true. Printed by lawrand.py. -/
namespace Go.Ev.Seat
open Go.RowKit
set_option linter.unusedVariables false
theorem ok_LeaseBook (T : MText) : OkFn prog I N.l_FnLeaseBook true S_l_FnLeaseBook := okS_l_FnLeaseBook
theorem law_LeaseBook (T : MText) (code : List Int) (K : Ret → Option Ret) (hwf : (Cc.sl bytesR).wf code) : S_l_FnLeaseBook [.l .no bytesR code] K = K (bl true, []) := by
  have hb : code.all isB = true := List.all_eq_true.2 (fun x hx => fitR_of bytesR x (hwf.2 x hx) rfl)
  show (bif code.all isB then K (bl true, []) else none) = _
  rw [hb]; rfl
end Go.Ev.Seat
end
section
/- Kinds of types that come in, checked by reckoning. -/
set_option linter.unusedVariables false
namespace Go.Ev
open Go.RowKit
mutual
def ccN (P : Program) : Nat → Cc → TypeId → Bool
  | 0, _, _ => false
  | n + 1, c, t => match c, P.underlying t with
    | .int k, some (.int k') => decide (k' = k)
    | .bool, some .bool => true
    | .str, some .string => true
    | .sl r, some (.slice e) => Nat.beq (P.cellsOf e) r.n && (match layN P n r.list e with
      | some [] => true
      | _ => false)
    | _, _ => false
/-- The cells of a type, taken off a list: what is left. -/
def layN (P : Program) : Nat → List Cc → TypeId → Option (List Cc)
  | 0, _, _ => none
  | n + 1, cs, t => match cs with
    | [] => none
    | c :: rest => bif ccN P n c t then some rest else match P.underlying t with
      | some (.struct fs) => fsN P n (c :: rest) 0 fs.toList
      | _ => none
def fsN (P : Program) : Nat → List Cc → Nat → List Field → Option (List Cc)
  | 0, _, _, _ => none
  | n + 1, cs, i, fs => match fs with
    | [] => some cs
    | f :: rest => bif Nat.beq f.offset i then (match layN P n cs f.type with
      | some cs' => bif Nat.beq (P.cellsOf f.type + cs'.length) cs.length then fsN P n cs' (i + P.cellsOf f.type) rest else none
      | none => none) else none
end
theorem kinds_ok {P : Program} : ∀ (n : Nat), (∀ c t, ccN P n c t = true → CcOk P c t) ∧ (∀ cs t rest, layN P n cs t = some rest → ∃ pre, cs = pre ++ rest ∧ LayOk P pre t) ∧ ∀ cs i fs rest, fsN P n cs i fs = some rest → ∃ pre, cs = pre ++ rest ∧ LayFs P pre i fs
  | 0 => ⟨fun _ _ h => by simp [ccN] at h, fun _ _ _ h => by simp [layN] at h, fun _ _ _ _ h => by simp [fsN] at h⟩
  | n + 1 => by
    obtain ⟨h1, h2, h3⟩ := kinds_ok (P := P) n
    refine ⟨fun c t h => ?_, fun cs t rest h => ?_, fun cs i fs rest h => ?_⟩
    · simp only [ccN] at h
      split at h
      · rename_i k k' hu
        have := of_decide_eq_true h
        subst this
        exact .int hu
      · rename_i hu; exact .bool hu
      · rename_i hu; exact .str hu
      · rename_i r e hu
        simp only [Bool.and_eq_true] at h
        obtain ⟨g1, g2⟩ := h
        split at g2
        · rename_i hl
          obtain ⟨pre, e1, e2⟩ := h2 _ _ _ hl
          rw [List.append_nil] at e1
          exact .sl hu (Nat.eq_of_beq_eq_true g1) (e1 ▸ e2)
        · cases g2
      · cases h
    · simp only [layN] at h
      split at h
      · cases h
      · rename_i c rest'
        cases hc : ccN P n c t with
        | true =>
          rw [hc] at h
          cases h
          exact ⟨[c], rfl, .one (h1 _ _ hc)⟩
        | false =>
          rw [hc] at h
          simp only [cond_false] at h
          split at h
          · rename_i fs hu
            obtain ⟨pre, e1, e2⟩ := h3 _ _ _ _ h
            exact ⟨pre, e1, .st hu e2⟩
          · cases h
    · simp only [fsN] at h
      split at h
      · cases h
        exact ⟨[], rfl, .nil⟩
      · rename_i f rest'
        cases ho : Nat.beq f.offset i with
        | false => rw [ho] at h; cases h
        | true =>
          rw [ho] at h
          simp only [cond_true] at h
          split at h
          · rename_i cs' hl
            obtain ⟨pre, e1, e2⟩ := h2 _ _ _ hl
            cases hb : Nat.beq (P.cellsOf f.type + cs'.length) cs.length with
            | false => rw [hb] at h; cases h
            | true =>
              rw [hb] at h
              simp only [cond_true] at h
              have hlen := Nat.eq_of_beq_eq_true hb
              have hp : P.cellsOf f.type = pre.length := by rw [e1, List.length_append] at hlen; omega
              obtain ⟨pre2, e3, e4⟩ := h3 _ _ _ _ h
              rw [hp] at e4
              refine ⟨pre ++ pre2, by rw [e1, e3, List.append_assoc], .cons (Nat.eq_of_beq_eq_true ho) hp e2 e4⟩
          · cases h
def ccB (P : Program) (c : Cc) (t : TypeId) : Bool := ccN P 100 c t
theorem ccB_ok {P : Program} (c : Cc) {t : TypeId} (h : ccB P c t = true) : CcOk P c t := (kinds_ok 100).1 c t h
end Go.Ev
end
section
/- An argument of one cell. -/
set_option linter.unusedVariables false
namespace Go.Ev
theorem cells_one {P : Program} {W : World} {r : Reach} {base : Nat} {c : Cc} {t : TypeId} {v : Value} (h : CcOk P c t) (ok : Value.okWide P W r base t v) : v.cells.toList = [v] := by
  cases v with
  | agg cs =>
    exfalso
    unfold Value.okWide at ok
    cases h with
    | int h => rw [h] at ok; simp [Cell.okWide, Cell.ok, h] at ok
    | bool h => rw [h] at ok; simp [Cell.okWide, Cell.ok, h] at ok
    | str h => rw [h] at ok; simp [Cell.okWide, Cell.ok, h] at ok
    | sl h _ _ => rw [h] at ok; simp [Cell.okWide, Cell.ok, h] at ok
  | _ => rfl
end Go.Ev
end
