/- Waits: parts FiWaits EvLWaits EvKind EvOne EvTab, packed by squash.py. -/
import GoSem.ClaimWide
import Derived.Lib.LaidTab
import GoSem.PinnedTables
import Derived.Test.YtiinphgjeafpnaaDoorZWaits0
import Derived.Test.YtiinphgjeafpnaaDoorZWaits1
import Derived.Test.YtiinphgjeafpnaaDoorZWaits2
import Derived.Test.YtiinphgjeafpnaaDoorZWaits3
import Derived.Test.YtiinphgjeafpnaaDoorZWaits4
import Derived.Test.YtiinphgjeafpnaaDoorZWaits5
set_option linter.unusedVariables false
set_option linter.unusedSimpArgs false
section
/- i_Waits: its contract. -/
namespace Go.Ev.Seat
open Go.RowKit
set_option maxRecDepth 100000
set_option linter.unusedVariables false
set_option linter.unusedSimpArgs false
def z_i_Waits_5_0 (x0 : List T_Commit) (x1 : List T_Out) (x2 : Int) (x7 : Int) (x8 : Int) : St := { tm := ([(.l .no commitR x0), (.l .no outR x1), (.s (.int .i64 x2)), .x, .x, .x, .x, (.s (.int .i64 x7)), (.s (.int .i64 x8))] ++ List.replicate 87 .x), ob := [], nx := 0, io := [] }
def sh_i_Waits_5_0 : Ss := { tm := (.cons (.l .no commitR) (.cons (.l .no outR) (.cons (.int .i64) (.cons (.x) (.cons (.x) (.cons (.x) (.cons (.x) (.cons (.int .i64) (.cons (.int .i64) (.cons (.x) (.cons (.x) (.cons (.x) (.cons (.x) (.cons (.x) (.cons (.x) (.cons (.x) (.cons (.x) (.cons (.x) (.cons (.x) (.cons (.x) (.cons (.x) (.cons (.x) (.cons (.x) (.cons (.x) (.cons (.x) (.cons (.l .no commitR) (.cons (.int .i64) (.cons (.int .i64) (xsh 68))))))))))))))))))))))))))))), ob := .nil, nx := 0, io := .nil }
def d_i_Waits_5_0 (x0 : List T_Commit) (x1 : List T_Out) (x2 : Int) (x7 : Int) (x8 : Int) (x25 : List T_Commit) (x26 : Int) (x27 : Int) : sh_i_Waits_5_0.T := ((x0, (x1, (x2, ((), ((), ((), ((), (x7, (x8, ((), ((), ((), ((), ((), ((), ((), ((), ((), ((), ((), ((), ((), ((), ((), ((), (x25, (x26, (x27, xd 68)))))))))))))))))))))))))))), (), ())
def s_i_Waits_5_0 (x0 : List T_Commit) (x1 : List T_Out) (x2 : Int) (x7 : Int) (x8 : Int) (x25 : List T_Commit) (x26 : Int) (x27 : Int) : St := { tm := ([(.l .no commitR x0), (.l .no outR x1), (.s (.int .i64 x2)), .x, .x, .x, .x, (.s (.int .i64 x7)), (.s (.int .i64 x8)), .x, .x, .x, .x, .x, .x, .x, .x, .x, .x, .x, .x, .x, .x, .x, .x, (.l .no commitR x25), (.s (.int .i64 x26)), (.s (.int .i64 x27))] ++ List.replicate 68 .x), ob := [], nx := 0, io := [] }
theorem se_i_Waits_5_0 (x0 : List T_Commit) (x1 : List T_Out) (x2 : Int) (x7 : Int) (x8 : Int) (x25 : List T_Commit) (x26 : Int) (x27 : Int) : sh_i_Waits_5_0.mk' (d_i_Waits_5_0 x0 x1 x2 x7 x8 x25 x26 x27) = (s_i_Waits_5_0 x0 x1 x2 x7 x8 x25 x26 x27) := by kernel_rfl
def w_i_Waits_5_0 (d : sh_i_Waits_5_0.T) (f : (List T_Commit) → (List T_Out) → Int → Int → Int → (List T_Commit) → Int → Int → Option Ret) : Option Ret := match d with | ((x0, (x1, (x2, (_, (_, (_, (_, (x7, (x8, (_, (_, (_, (_, (_, (_, (_, (_, (_, (_, (_, (_, (_, (_, (_, (_, (x25, (x26, (x27, _)))))))))))))))))))))))))))), _, _) => f x0 x1 x2 x7 x8 x25 x26 x27
noncomputable def P_i_Waits_5_0 (x0 : List T_Commit) (x1 : List T_Out) (x2 : Int) (x7 : Int) (x8 : Int) (x25 : List T_Commit) (x26 : Int) (x27 : Int) (nx0 : (List T_Commit) → (List T_Out) → Int → Int → Int → (List T_Commit) → Int → Int → Option Ret) (k0 : (List T_Commit) → (List T_Out) → Int → Int → Int → Option Ret) : Option Ret :=
 (bif (decide (x27 < x26)) then
 (bif ((decide ((0 : Int) ≤ x27)) && (decide (x27 < (((List.length x25) : Nat) : Int)))) then
  (bif (fitB (List.getD x25 (Int.toNat x27) (commitR.dflt)).2.2.2) then
   (bif ((List.getD x25 (Int.toNat x27) (commitR.dflt)).1 == (1 : Int)) then
    (bif (reqParseD (List.getD x25 (Int.toNat x27) (commitR.dflt)).2.2.2).2 then
     (bif ((reqParseD (List.getD x25 (Int.toNat x27) (commitR.dflt)).2.2.2).1.2.1 == x2) then
      (nx0 x0 x1 x2 x27 x8 x25 x26 (IntKind.wrap .i64 (x27 + (1 : Int))))
      else (nx0 x0 x1 x2 x7 x8 x25 x26 (IntKind.wrap .i64 (x27 + (1 : Int)))))
     else (nx0 x0 x1 x2 x7 x8 x25 x26 (IntKind.wrap .i64 (x27 + (1 : Int)))))
    else (nx0 x0 x1 x2 x7 x8 x25 x26 (IntKind.wrap .i64 (x27 + (1 : Int)))))
   else none)
  else none)
 else (k0 x0 x1 x2 x7 x8))
noncomputable def Q_i_Waits_5_0 : Nat → (List T_Commit) → (List T_Out) → Int → Int → Int → (List T_Commit) → Int → Int → ((List T_Commit) → (List T_Out) → Int → Int → Int → Option Ret) → Option Ret
  | 0, _, _, _, _, _, _, _, _, _ => none
  | m + 1, x0, x1, x2, x7, x8, x25, x26, x27, k0 => P_i_Waits_5_0 x0 x1 x2 x7 x8 x25 x26 x27 (fun x0 x1 x2 x7 x8 x25 x26 x27 => (Q_i_Waits_5_0 m x0 x1 x2 x7 x8 x25 x26 x27 k0)) k0
noncomputable def R_i_Waits_5_0 (x0 : List T_Commit) (x1 : List T_Out) (x2 : Int) (x7 : Int) (x8 : Int) (x25 : List T_Commit) (x26 : Int) (x27 : Int) (k0 : (List T_Commit) → (List T_Out) → Int → Int → Int → Option Ret) : Option Ret := Q_i_Waits_5_0 (List.length x0 + List.length x1 + x2.toNat + x7.toNat + x8.toNat + List.length x25 + x26.toNat + x27.toNat + 2) x0 x1 x2 x7 x8 x25 x26 x27 k0
noncomputable def W_i_Waits_5 : LoopFn := (fun (σ : St) (K : Ex → St → Option Ret) => (match sh_i_Waits_5_0.un σ with | some d => w_i_Waits_5_0 d (fun x0 x1 x2 x7 x8 x25 x26 x27 => R_i_Waits_5_0 x0 x1 x2 x7 x8 x25 x26 x27 (fun x0 x1 x2 x7 x8 => (K (.ext 0) (z_i_Waits_5_0 x0 x1 x2 x7 x8)))) | none => none))
def z_i_Waits_14_0 (x0 : List T_Commit) (x2 : Int) (x7 : Int) (x8 : Int) : St := { tm := ([(.l .no commitR x0), .x, (.s (.int .i64 x2)), .x, .x, .x, .x, (.s (.int .i64 x7)), (.s (.int .i64 x8))] ++ List.replicate 87 .x), ob := [], nx := 0, io := [] }
def sh_i_Waits_14_0 : Ss := { tm := (.cons (.l .no commitR) (.cons (.x) (.cons (.int .i64) (.cons (.x) (.cons (.x) (.cons (.x) (.cons (.x) (.cons (.int .i64) (.cons (.int .i64) (.cons (.x) (.cons (.x) (.cons (.x) (.cons (.x) (.cons (.x) (.cons (.x) (.cons (.x) (.cons (.x) (.cons (.x) (.cons (.x) (.cons (.x) (.cons (.x) (.cons (.x) (.cons (.x) (.cons (.x) (.cons (.x) (.cons (.x) (.cons (.x) (.cons (.x) (.cons (.x) (.cons (.x) (.cons (.x) (.cons (.x) (.cons (.x) (.cons (.x) (.cons (.x) (.cons (.x) (.cons (.x) (.cons (.x) (.cons (.x) (.cons (.x) (.cons (.x) (.cons (.x) (.cons (.x) (.cons (.x) (.cons (.x) (.cons (.x) (.cons (.x) (.cons (.x) (.cons (.x) (.cons (.x) (.cons (.x) (.cons (.x) (.cons (.x) (.cons (.x) (.cons (.l .no outR) (.cons (.int .i64) (.cons (.int .i64) (xsh 39)))))))))))))))))))))))))))))))))))))))))))))))))))))))))), ob := .nil, nx := 0, io := .nil }
def d_i_Waits_14_0 (x0 : List T_Commit) (x2 : Int) (x7 : Int) (x8 : Int) (x54 : List T_Out) (x55 : Int) (x56 : Int) : sh_i_Waits_14_0.T := ((x0, ((), (x2, ((), ((), ((), ((), (x7, (x8, ((), ((), ((), ((), ((), ((), ((), ((), ((), ((), ((), ((), ((), ((), ((), ((), ((), ((), ((), ((), ((), ((), ((), ((), ((), ((), ((), ((), ((), ((), ((), ((), ((), ((), ((), ((), ((), ((), ((), ((), ((), ((), ((), ((), ((), (x54, (x55, (x56, xd 39))))))))))))))))))))))))))))))))))))))))))))))))))))))))), (), ())
def s_i_Waits_14_0 (x0 : List T_Commit) (x2 : Int) (x7 : Int) (x8 : Int) (x54 : List T_Out) (x55 : Int) (x56 : Int) : St := { tm := ([(.l .no commitR x0), .x, (.s (.int .i64 x2)), .x, .x, .x, .x, (.s (.int .i64 x7)), (.s (.int .i64 x8)), .x, .x, .x, .x, .x, .x, .x, .x, .x, .x, .x, .x, .x, .x, .x, .x, .x, .x, .x, .x, .x, .x, .x, .x, .x, .x, .x, .x, .x, .x, .x, .x, .x, .x, .x, .x, .x, .x, .x, .x, .x, .x, .x, .x, .x, (.l .no outR x54), (.s (.int .i64 x55)), (.s (.int .i64 x56))] ++ List.replicate 39 .x), ob := [], nx := 0, io := [] }
theorem se_i_Waits_14_0 (x0 : List T_Commit) (x2 : Int) (x7 : Int) (x8 : Int) (x54 : List T_Out) (x55 : Int) (x56 : Int) : sh_i_Waits_14_0.mk' (d_i_Waits_14_0 x0 x2 x7 x8 x54 x55 x56) = (s_i_Waits_14_0 x0 x2 x7 x8 x54 x55 x56) := by kernel_rfl
def w_i_Waits_14_0 (d : sh_i_Waits_14_0.T) (f : (List T_Commit) → Int → Int → Int → (List T_Out) → Int → Int → Option Ret) : Option Ret := match d with | ((x0, (_, (x2, (_, (_, (_, (_, (x7, (x8, (_, (_, (_, (_, (_, (_, (_, (_, (_, (_, (_, (_, (_, (_, (_, (_, (_, (_, (_, (_, (_, (_, (_, (_, (_, (_, (_, (_, (_, (_, (_, (_, (_, (_, (_, (_, (_, (_, (_, (_, (_, (_, (_, (_, (_, (x54, (x55, (x56, _))))))))))))))))))))))))))))))))))))))))))))))))))))))))), _, _) => f x0 x2 x7 x8 x54 x55 x56
noncomputable def P_i_Waits_14_0 (x0 : List T_Commit) (x2 : Int) (x7 : Int) (x8 : Int) (x54 : List T_Out) (x55 : Int) (x56 : Int) (nx0 : (List T_Commit) → Int → Int → Int → (List T_Out) → Int → Int → Option Ret) (k0 : (List T_Commit) → Int → Int → Int → Option Ret) : Option Ret :=
 (bif (decide (x56 < x55)) then
 (bif ((decide ((0 : Int) ≤ x56)) && (decide (x56 < (((List.length x54) : Nat) : Int)))) then
  (bif ((List.getD x54 (Int.toNat x56) (outR.dflt)).2.1 == x2) then
   (bif (decide ((List.getD x54 (Int.toNat x56) (outR.dflt)).1 > x7)) then
    (k0 x0 x2 x7 (List.getD x54 (Int.toNat x56) (outR.dflt)).1)
    else (nx0 x0 x2 x7 x8 x54 x55 (IntKind.wrap .i64 (x56 + (1 : Int)))))
   else (nx0 x0 x2 x7 x8 x54 x55 (IntKind.wrap .i64 (x56 + (1 : Int)))))
  else none)
 else (k0 x0 x2 x7 x8))
noncomputable def Q_i_Waits_14_0 : Nat → (List T_Commit) → Int → Int → Int → (List T_Out) → Int → Int → ((List T_Commit) → Int → Int → Int → Option Ret) → Option Ret
  | 0, _, _, _, _, _, _, _, _ => none
  | m + 1, x0, x2, x7, x8, x54, x55, x56, k0 => P_i_Waits_14_0 x0 x2 x7 x8 x54 x55 x56 (fun x0 x2 x7 x8 x54 x55 x56 => (Q_i_Waits_14_0 m x0 x2 x7 x8 x54 x55 x56 k0)) k0
noncomputable def R_i_Waits_14_0 (x0 : List T_Commit) (x2 : Int) (x7 : Int) (x8 : Int) (x54 : List T_Out) (x55 : Int) (x56 : Int) (k0 : (List T_Commit) → Int → Int → Int → Option Ret) : Option Ret := Q_i_Waits_14_0 (List.length x0 + x2.toNat + x7.toNat + x8.toNat + List.length x54 + x55.toNat + x56.toNat + 2) x0 x2 x7 x8 x54 x55 x56 k0
noncomputable def W_i_Waits_14 : LoopFn := (fun (σ : St) (K : Ex → St → Option Ret) => (match sh_i_Waits_14_0.un σ with | some d => w_i_Waits_14_0 d (fun x0 x2 x7 x8 x54 x55 x56 => R_i_Waits_14_0 x0 x2 x7 x8 x54 x55 x56 (fun x0 x2 x7 x8 => (K (.ext 2) (z_i_Waits_14_0 x0 x2 x7 x8)))) | none => none))
def z_i_Waits_21_0 (x15 : Int) : St := { tm := ([.x, .x, .x, .x, .x, .x, .x, .x, .x, .x, .x, .x, .x, .x, .x, (.s (.int .i64 x15))] ++ List.replicate 80 .x), ob := [], nx := 0, io := [] }
def sh_i_Waits_21_0 : Ss := { tm := (.cons (.x) (.cons (.x) (.cons (.int .i64) (.cons (.x) (.cons (.x) (.cons (.x) (.cons (.x) (.cons (.x) (.cons (.x) (.cons (.x) (.cons (.x) (.cons (.x) (.cons (.x) (.cons (.x) (.cons (.x) (.cons (.int .i64) (.cons (.x) (.cons (.x) (.cons (.x) (.cons (.x) (.cons (.x) (.cons (.x) (.cons (.x) (.cons (.x) (.cons (.x) (.cons (.x) (.cons (.x) (.cons (.x) (.cons (.x) (.cons (.x) (.cons (.x) (.cons (.x) (.cons (.x) (.cons (.x) (.cons (.x) (.cons (.x) (.cons (.x) (.cons (.x) (.cons (.x) (.cons (.x) (.cons (.x) (.cons (.x) (.cons (.x) (.cons (.x) (.cons (.x) (.cons (.x) (.cons (.x) (.cons (.x) (.cons (.x) (.cons (.x) (.cons (.x) (.cons (.x) (.cons (.x) (.cons (.x) (.cons (.x) (.cons (.x) (.cons (.x) (.cons (.x) (.cons (.x) (.cons (.x) (.cons (.x) (.cons (.x) (.cons (.x) (.cons (.x) (.cons (.x) (.cons (.x) (.cons (.x) (.cons (.x) (.cons (.x) (.cons (.x) (.cons (.x) (.cons (.x) (.cons (.x) (.cons (.x) (.cons (.x) (.cons (.x) (.cons (.x) (.cons (.l .no commitR) (.cons (.int .i64) (.cons (.int .i64) (xsh 16))))))))))))))))))))))))))))))))))))))))))))))))))))))))))))))))))))))))))))))))), ob := .nil, nx := 0, io := .nil }
def d_i_Waits_21_0 (x2 : Int) (x15 : Int) (x77 : List T_Commit) (x78 : Int) (x79 : Int) : sh_i_Waits_21_0.T := (((), ((), (x2, ((), ((), ((), ((), ((), ((), ((), ((), ((), ((), ((), ((), (x15, ((), ((), ((), ((), ((), ((), ((), ((), ((), ((), ((), ((), ((), ((), ((), ((), ((), ((), ((), ((), ((), ((), ((), ((), ((), ((), ((), ((), ((), ((), ((), ((), ((), ((), ((), ((), ((), ((), ((), ((), ((), ((), ((), ((), ((), ((), ((), ((), ((), ((), ((), ((), ((), ((), ((), ((), ((), ((), ((), ((), ((), (x77, (x78, (x79, xd 16)))))))))))))))))))))))))))))))))))))))))))))))))))))))))))))))))))))))))))))))), (), ())
def s_i_Waits_21_0 (x2 : Int) (x15 : Int) (x77 : List T_Commit) (x78 : Int) (x79 : Int) : St := { tm := ([.x, .x, (.s (.int .i64 x2)), .x, .x, .x, .x, .x, .x, .x, .x, .x, .x, .x, .x, (.s (.int .i64 x15)), .x, .x, .x, .x, .x, .x, .x, .x, .x, .x, .x, .x, .x, .x, .x, .x, .x, .x, .x, .x, .x, .x, .x, .x, .x, .x, .x, .x, .x, .x, .x, .x, .x, .x, .x, .x, .x, .x, .x, .x, .x, .x, .x, .x, .x, .x, .x, .x, .x, .x, .x, .x, .x, .x, .x, .x, .x, .x, .x, .x, .x, (.l .no commitR x77), (.s (.int .i64 x78)), (.s (.int .i64 x79))] ++ List.replicate 16 .x), ob := [], nx := 0, io := [] }
theorem se_i_Waits_21_0 (x2 : Int) (x15 : Int) (x77 : List T_Commit) (x78 : Int) (x79 : Int) : sh_i_Waits_21_0.mk' (d_i_Waits_21_0 x2 x15 x77 x78 x79) = (s_i_Waits_21_0 x2 x15 x77 x78 x79) := by kernel_rfl
def w_i_Waits_21_0 (d : sh_i_Waits_21_0.T) (f : Int → Int → (List T_Commit) → Int → Int → Option Ret) : Option Ret := match d with | ((_, (_, (x2, (_, (_, (_, (_, (_, (_, (_, (_, (_, (_, (_, (_, (x15, (_, (_, (_, (_, (_, (_, (_, (_, (_, (_, (_, (_, (_, (_, (_, (_, (_, (_, (_, (_, (_, (_, (_, (_, (_, (_, (_, (_, (_, (_, (_, (_, (_, (_, (_, (_, (_, (_, (_, (_, (_, (_, (_, (_, (_, (_, (_, (_, (_, (_, (_, (_, (_, (_, (_, (_, (_, (_, (_, (_, (_, (x77, (x78, (x79, _)))))))))))))))))))))))))))))))))))))))))))))))))))))))))))))))))))))))))))))))), _, _) => f x2 x15 x77 x78 x79
noncomputable def P_i_Waits_21_0 (x2 : Int) (x15 : Int) (x77 : List T_Commit) (x78 : Int) (x79 : Int) (nx0 : Int → Int → (List T_Commit) → Int → Int → Option Ret) (k0 : Int → Option Ret) : Option Ret :=
 (bif (decide (x79 < x78)) then
 (bif ((decide ((0 : Int) ≤ x79)) && (decide (x79 < (((List.length x77) : Nat) : Int)))) then
  (bif ((List.getD x77 (Int.toNat x79) (commitR.dflt)).1 == (2 : Int)) then
   (bif ((List.getD x77 (Int.toNat x79) (commitR.dflt)).2.1 == x2) then
    (nx0 x2 (IntKind.wrap .i64 (x15 + (1 : Int))) x77 x78 (IntKind.wrap .i64 (x79 + (1 : Int))))
    else (nx0 x2 x15 x77 x78 (IntKind.wrap .i64 (x79 + (1 : Int)))))
   else (nx0 x2 x15 x77 x78 (IntKind.wrap .i64 (x79 + (1 : Int)))))
  else none)
 else (k0 x15))
noncomputable def Q_i_Waits_21_0 : Nat → Int → Int → (List T_Commit) → Int → Int → (Int → Option Ret) → Option Ret
  | 0, _, _, _, _, _, _ => none
  | m + 1, x2, x15, x77, x78, x79, k0 => P_i_Waits_21_0 x2 x15 x77 x78 x79 (fun x2 x15 x77 x78 x79 => (Q_i_Waits_21_0 m x2 x15 x77 x78 x79 k0)) k0
noncomputable def R_i_Waits_21_0 (x2 : Int) (x15 : Int) (x77 : List T_Commit) (x78 : Int) (x79 : Int) (k0 : Int → Option Ret) : Option Ret := Q_i_Waits_21_0 (x2.toNat + x15.toNat + List.length x77 + x78.toNat + x79.toNat + 2) x2 x15 x77 x78 x79 k0
noncomputable def W_i_Waits_21 : LoopFn := (fun (σ : St) (K : Ex → St → Option Ret) => (match sh_i_Waits_21_0.un σ with | some d => w_i_Waits_21_0 d (fun x2 x15 x77 x78 x79 => R_i_Waits_21_0 x2 x15 x77 x78 x79 (fun x15 => (K (.ext 4) (z_i_Waits_21_0 x15)))) | none => none))
noncomputable abbrev E_i_Waits : Env := En [(N.i_areOuts, true, S_i_areOuts), (N.i_reqParse, true, S_i_reqParse)] [] [(5, [0,1,2,7,8,25,26,27], [0,1,2,6,7,8], W_i_Waits_5), (14, [0,2,7,8,54,55,56], [0,2,6,7,8], W_i_Waits_14), (21, [2,15,77,78,79], [6,15], W_i_Waits_21)] [] false 0 []
theorem st_i_Waits_5_0 (m : Nat) (x0 : List T_Commit) (x1 : List T_Out) (x2 : Int) (x7 : Int) (x8 : Int) (x25 : List T_Commit) (x26 : Int) (x27 : Int) (K : Ex → St → Option Ret) : rounds (run E_i_Waits (bodyOf F.i_Waits 5)) [0,1,2,7,8,25,26,27] [0,1,2,6,7,8] (m + 1) (s_i_Waits_5_0 x0 x1 x2 x7 x8 x25 x26 x27) K = P_i_Waits_5_0 x0 x1 x2 x7 x8 x25 x26 x27 (fun x0 x1 x2 x7 x8 x25 x26 x27 => (rounds (run E_i_Waits (bodyOf F.i_Waits 5)) [0,1,2,7,8,25,26,27] [0,1,2,6,7,8] m (s_i_Waits_5_0 x0 x1 x2 x7 x8 x25 x26 x27) K)) (fun x0 x1 x2 x7 x8 => (K (.ext 0) (z_i_Waits_5_0 x0 x1 x2 x7 x8))) := by kernel_rfl
theorem q_i_Waits_5 (K : Ex → St → Option Ret) : ∀ m : Nat, (∀ (x0 : List T_Commit) (x1 : List T_Out) (x2 : Int) (x7 : Int) (x8 : Int) (x25 : List T_Commit) (x26 : Int) (x27 : Int), rounds (run E_i_Waits (bodyOf F.i_Waits 5)) [0,1,2,7,8,25,26,27] [0,1,2,6,7,8] m (s_i_Waits_5_0 x0 x1 x2 x7 x8 x25 x26 x27) K = Q_i_Waits_5_0 m x0 x1 x2 x7 x8 x25 x26 x27 (fun x0 x1 x2 x7 x8 => (K (.ext 0) (z_i_Waits_5_0 x0 x1 x2 x7 x8))))
  | 0 => (fun _ _ _ _ _ _ _ _ => rfl)
  | m + 1 => (fun x0 x1 x2 x7 x8 x25 x26 x27 => (by rw [st_i_Waits_5_0, show (fun x0 x1 x2 x7 x8 x25 x26 x27 => (rounds (run E_i_Waits (bodyOf F.i_Waits 5)) [0,1,2,7,8,25,26,27] [0,1,2,6,7,8] m (s_i_Waits_5_0 x0 x1 x2 x7 x8 x25 x26 x27) K)) = (fun x0 x1 x2 x7 x8 x25 x26 x27 => (Q_i_Waits_5_0 m x0 x1 x2 x7 x8 x25 x26 x27 (fun x0 x1 x2 x7 x8 => (K (.ext 0) (z_i_Waits_5_0 x0 x1 x2 x7 x8))))) from funext fun x0 => funext fun x1 => funext fun x2 => funext fun x7 => funext fun x8 => funext fun x25 => funext fun x26 => funext fun x27 => (q_i_Waits_5 K m) x0 x1 x2 x7 x8 x25 x26 x27]; rfl))
theorem loopK_i_Waits_5 : LoopOk E_i_Waits (bodyOf F.i_Waits 5) := by
  refine loopW_ok (n := 5) (F := W_i_Waits_5) (by kernel_rfl) rfl (li := [0,1,2,7,8,25,26,27]) (lo := [0,1,2,6,7,8]) rfl (fun σ K r hr => ?_)
  unfold W_i_Waits_5 at hr
  split at hr
  · rename_i d hd
    rw [Ss.un_mk hd]
    exact ⟨_, ((congrArg (fun z => rounds (run E_i_Waits (bodyOf F.i_Waits 5)) [0,1,2,7,8,25,26,27] [0,1,2,6,7,8] _ z K) (se_i_Waits_5_0 _ _ _ _ _ _ _ _)).trans ((q_i_Waits_5 K _) _ _ _ _ _ _ _ _)).trans hr⟩
  · cases hr
theorem st_i_Waits_14_0 (m : Nat) (x0 : List T_Commit) (x2 : Int) (x7 : Int) (x8 : Int) (x54 : List T_Out) (x55 : Int) (x56 : Int) (K : Ex → St → Option Ret) : rounds (run E_i_Waits (bodyOf F.i_Waits 14)) [0,2,7,8,54,55,56] [0,2,6,7,8] (m + 1) (s_i_Waits_14_0 x0 x2 x7 x8 x54 x55 x56) K = P_i_Waits_14_0 x0 x2 x7 x8 x54 x55 x56 (fun x0 x2 x7 x8 x54 x55 x56 => (rounds (run E_i_Waits (bodyOf F.i_Waits 14)) [0,2,7,8,54,55,56] [0,2,6,7,8] m (s_i_Waits_14_0 x0 x2 x7 x8 x54 x55 x56) K)) (fun x0 x2 x7 x8 => (K (.ext 2) (z_i_Waits_14_0 x0 x2 x7 x8))) := by kernel_rfl
theorem q_i_Waits_14 (K : Ex → St → Option Ret) : ∀ m : Nat, (∀ (x0 : List T_Commit) (x2 : Int) (x7 : Int) (x8 : Int) (x54 : List T_Out) (x55 : Int) (x56 : Int), rounds (run E_i_Waits (bodyOf F.i_Waits 14)) [0,2,7,8,54,55,56] [0,2,6,7,8] m (s_i_Waits_14_0 x0 x2 x7 x8 x54 x55 x56) K = Q_i_Waits_14_0 m x0 x2 x7 x8 x54 x55 x56 (fun x0 x2 x7 x8 => (K (.ext 2) (z_i_Waits_14_0 x0 x2 x7 x8))))
  | 0 => (fun _ _ _ _ _ _ _ => rfl)
  | m + 1 => (fun x0 x2 x7 x8 x54 x55 x56 => (by rw [st_i_Waits_14_0, show (fun x0 x2 x7 x8 x54 x55 x56 => (rounds (run E_i_Waits (bodyOf F.i_Waits 14)) [0,2,7,8,54,55,56] [0,2,6,7,8] m (s_i_Waits_14_0 x0 x2 x7 x8 x54 x55 x56) K)) = (fun x0 x2 x7 x8 x54 x55 x56 => (Q_i_Waits_14_0 m x0 x2 x7 x8 x54 x55 x56 (fun x0 x2 x7 x8 => (K (.ext 2) (z_i_Waits_14_0 x0 x2 x7 x8))))) from funext fun x0 => funext fun x2 => funext fun x7 => funext fun x8 => funext fun x54 => funext fun x55 => funext fun x56 => (q_i_Waits_14 K m) x0 x2 x7 x8 x54 x55 x56]; rfl))
theorem loopK_i_Waits_14 : LoopOk E_i_Waits (bodyOf F.i_Waits 14) := by
  refine loopW_ok (n := 14) (F := W_i_Waits_14) (by kernel_rfl) rfl (li := [0,2,7,8,54,55,56]) (lo := [0,2,6,7,8]) rfl (fun σ K r hr => ?_)
  unfold W_i_Waits_14 at hr
  split at hr
  · rename_i d hd
    rw [Ss.un_mk hd]
    exact ⟨_, ((congrArg (fun z => rounds (run E_i_Waits (bodyOf F.i_Waits 14)) [0,2,7,8,54,55,56] [0,2,6,7,8] _ z K) (se_i_Waits_14_0 _ _ _ _ _ _ _)).trans ((q_i_Waits_14 K _) _ _ _ _ _ _ _)).trans hr⟩
  · cases hr
theorem st_i_Waits_21_0 (m : Nat) (x2 : Int) (x15 : Int) (x77 : List T_Commit) (x78 : Int) (x79 : Int) (K : Ex → St → Option Ret) : rounds (run E_i_Waits (bodyOf F.i_Waits 21)) [2,15,77,78,79] [6,15] (m + 1) (s_i_Waits_21_0 x2 x15 x77 x78 x79) K = P_i_Waits_21_0 x2 x15 x77 x78 x79 (fun x2 x15 x77 x78 x79 => (rounds (run E_i_Waits (bodyOf F.i_Waits 21)) [2,15,77,78,79] [6,15] m (s_i_Waits_21_0 x2 x15 x77 x78 x79) K)) (fun x15 => (K (.ext 4) (z_i_Waits_21_0 x15))) := by kernel_rfl
theorem q_i_Waits_21 (K : Ex → St → Option Ret) : ∀ m : Nat, (∀ (x2 : Int) (x15 : Int) (x77 : List T_Commit) (x78 : Int) (x79 : Int), rounds (run E_i_Waits (bodyOf F.i_Waits 21)) [2,15,77,78,79] [6,15] m (s_i_Waits_21_0 x2 x15 x77 x78 x79) K = Q_i_Waits_21_0 m x2 x15 x77 x78 x79 (fun x15 => (K (.ext 4) (z_i_Waits_21_0 x15))))
  | 0 => (fun _ _ _ _ _ => rfl)
  | m + 1 => (fun x2 x15 x77 x78 x79 => (by rw [st_i_Waits_21_0, show (fun x2 x15 x77 x78 x79 => (rounds (run E_i_Waits (bodyOf F.i_Waits 21)) [2,15,77,78,79] [6,15] m (s_i_Waits_21_0 x2 x15 x77 x78 x79) K)) = (fun x2 x15 x77 x78 x79 => (Q_i_Waits_21_0 m x2 x15 x77 x78 x79 (fun x15 => (K (.ext 4) (z_i_Waits_21_0 x15))))) from funext fun x2 => funext fun x15 => funext fun x77 => funext fun x78 => funext fun x79 => (q_i_Waits_21 K m) x2 x15 x77 x78 x79]; rfl))
theorem loopK_i_Waits_21 : LoopOk E_i_Waits (bodyOf F.i_Waits 21) := by
  refine loopW_ok (n := 21) (F := W_i_Waits_21) (by kernel_rfl) rfl (li := [2,15,77,78,79]) (lo := [6,15]) rfl (fun σ K r hr => ?_)
  unfold W_i_Waits_21 at hr
  split at hr
  · rename_i d hd
    rw [Ss.un_mk hd]
    exact ⟨_, ((congrArg (fun z => rounds (run E_i_Waits (bodyOf F.i_Waits 21)) [2,15,77,78,79] [6,15] _ z K) (se_i_Waits_21_0 _ _ _ _ _)).trans ((q_i_Waits_21 K _) _ _ _ _ _)).trans hr⟩
  · cases hr
noncomputable def T_i_Waits (l : List T_Event) (t : List T_Out) (s : Int) (K : Ret → Option Ret) : Option Ret :=
 (bif ((fitC (Cc.sl eventR) l) && (fitC (Cc.sl outR) t)) then
 (bif (!(outsOkD l t)) then
  K ((.s (.int .i64 (-(1 : Int)))), [])
  else (R_i_Waits_5_0 l t s (-(1 : Int)) (IntKind.wrap .i64 ((((List.length l) : Nat) : Int) - (1 : Int))) l (((List.length l) : Nat) : Int) (0 : Int) (fun y0 y1 y2 y3 y4 =>
   (bif (decide (y3 < (0 : Int))) then
    K ((.s (.int .i64 (-(1 : Int)))), [])
    else (R_i_Waits_14_0 y0 y2 y3 y4 y1 (((List.length y1) : Nat) : Int) (0 : Int) (fun y5 y6 y7 y8 =>
     (bif (((decide ((0 : Int) ≤ y7)) && (decide (y7 ≤ (IntKind.wrap .i64 (y8 + (1 : Int)))))) && (decide ((IntKind.wrap .i64 (y8 + (1 : Int))) ≤ (((List.length y5) : Nat) : Int)))) then
      (R_i_Waits_21_0 y6 (0 : Int) (List.drop (Int.toNat y7) (List.take (Int.toNat (IntKind.wrap .i64 (y8 + (1 : Int)))) y5)) (((List.length (List.drop (Int.toNat y7) (List.take (Int.toNat (IntKind.wrap .i64 (y8 + (1 : Int)))) y5))) : Nat) : Int) (0 : Int) (fun y9 =>
       K ((.s (.int .i64 y9)), [])))
      else none)))))))
 else none)
theorem e_i_Waits (l : List T_Event) (t : List T_Out) (s : Int) (K : Ret → Option Ret) : evF E_i_Waits true F.i_Waits [.l .no eventR l, .l .no outR t, .s (.int .i64 s)] K = T_i_Waits l t s K := by kernel_rfl
def S_i_Waits : Sm := S_fnR [.l eventR, .l outR, .i] (fun d => fitC (.sl eventR) d.1 && fitC (.sl outR) d.2.1) (fun d => (.s (.int .i64 (waitsD d.1 d.2.1 d.2.2.1)), []))
theorem v_i_Waits (l : List T_Event) (t : List T_Out) (s : Int) (h : (fitC (.sl eventR) l && fitC (.sl outR) t) = true) (K : Ret → Option Ret) : T_i_Waits l t s K = K (.s (.int .i64 (waitsD l t s)), []) := by
  obtain ⟨h1, h2⟩ := (Bool.and_eq_true _ _).mp h
  have l1 := fitC_len h1
  have l2 := fitC_len h2
  unfold T_i_Waits waitsD
  rw [h]
  cases ho : outsOkD l t with
  | false => rfl
  | true =>
  have hal : allN t.length (toldOkD l t zeroEv zeroOut) = true := by
    unfold outsOkD at ho
    exact ((Bool.and_eq_true _ _).mp ho).2
  have hr := lastD_range l s
  have hin := told_in hal
  have q5 : ∀ (e : Int) (k0 : (List T_Commit) → (List T_Out) → Int → Int → Int → Option Ret) (m i : Nat) (a : Int), i ≤ l.length → l.length - i < m → Q_i_Waits_5_0 m l t s a e l ((l.length : Nat) : Int) ((i : Nat) : Int) k0 = k0 l t s (lastL s (l.drop i) i a) e := by
    intro e k0 m
    induction m with
    | zero => intro i a _ hm; omega
    | succ m ih =>
      intro i a hi hm
      show P_i_Waits_5_0 l t s a e l _ ((i : Nat) : Int) _ _ = _
      unfold P_i_Waits_5_0
      by_cases hlt : i < l.length
      · have f1 : fitB (l.getD i zeroEv).2.2.2 = true := fit_ev (fitC_getD h1 rfl _)
        rw [decide_eq_true (show ((i : Nat) : Int) < ((l.length : Nat) : Int) by omega), decide_eq_true (show (0 : Int) ≤ ((i : Nat) : Int) by omega), Int.toNat_natCast, wrap_nat (by omega), show l.getD i commitR.dflt = l.getD i zeroEv from rfl, f1, List.drop_eq_getElem_cons hlt, ← getD_lt zeroEv hlt]
        simp only [lastL, frameAt]
        rw [ih (i + 1) _ (by omega) (by omega), ih (i + 1) _ (by omega) (by omega)]
        cases ((l.getD i zeroEv).1 == 1) <;> cases (reqParseD (l.getD i zeroEv).2.2.2).2 <;> cases ((reqParseD (l.getD i zeroEv).2.2.2).1.2.1 == s) <;> rfl
      · obtain rfl : i = l.length := by omega
        rw [decide_eq_false (show ¬ ((l.length : Nat) : Int) < ((l.length : Nat) : Int) by omega), List.drop_length]; rfl
  have q14 : ∀ (a e : Int) (k0 : (List T_Commit) → Int → Int → Int → Option Ret) (m i : Nat), i ≤ t.length → t.length - i < m → Q_i_Waits_14_0 m l s a e t ((t.length : Nat) : Int) ((i : Nat) : Int) k0 = k0 l s a (match (t.drop i).find? (seekD s a) with
      | some o => o.1
      | none => e) := by
    intro a e k0 m
    induction m with
    | zero => intro i _ hm; omega
    | succ m ih =>
      intro i hi hm
      show P_i_Waits_14_0 l s a e t _ ((i : Nat) : Int) _ _ = _
      unfold P_i_Waits_14_0
      by_cases hlt : i < t.length
      · rw [decide_eq_true (show ((i : Nat) : Int) < ((t.length : Nat) : Int) by omega), decide_eq_true (show (0 : Int) ≤ ((i : Nat) : Int) by omega), Int.toNat_natCast, wrap_nat (by omega), show t.getD i outR.dflt = t.getD i zeroOut from rfl, List.drop_eq_getElem_cons hlt, ← getD_lt zeroOut hlt, List.find?_cons]
        dsimp only
        rw [ih (i + 1) (by omega) (by omega)]
        unfold seekD
        cases ((t.getD i zeroOut).2.1 == s) <;> cases decide ((t.getD i zeroOut).1 > a) <;> rfl
      · obtain rfl : i = t.length := by omega
        rw [decide_eq_false (show ¬ ((t.length : Nat) : Int) < ((t.length : Nat) : Int) by omega), List.drop_length]; rfl
  have q21 : ∀ (xs : List T_Commit) (hx : xs.length ≤ 1048576) (k0 : Int → Option Ret) (m i n : Nat), i ≤ xs.length → n ≤ i → xs.length - i < m → Q_i_Waits_21_0 m s ((n : Nat) : Int) xs ((xs.length : Nat) : Int) ((i : Nat) : Int) k0 = k0 ((n + (xs.drop i).countP (pickD s) : Nat) : Int) := by
    intro xs hx k0 m
    induction m with
    | zero => intro i n _ _ hm; omega
    | succ m ih =>
      intro i n hi hn hm
      show P_i_Waits_21_0 s _ xs _ ((i : Nat) : Int) _ _ = _
      unfold P_i_Waits_21_0
      by_cases hlt : i < xs.length
      · rw [decide_eq_true (show ((i : Nat) : Int) < ((xs.length : Nat) : Int) by omega), decide_eq_true (show (0 : Int) ≤ ((i : Nat) : Int) by omega), Int.toNat_natCast, wrap_nat (i := i) (by omega), show xs.getD i commitR.dflt = xs.getD i zeroEv from rfl, List.drop_eq_getElem_cons hlt, ← getD_lt zeroEv hlt, List.countP_cons]
        dsimp only
        rw [show ((n : Nat) : Int) + 1 = ((n + 1 : Nat) : Int) by omega, wrap_in (n := ((n + 1 : Nat) : Int)) (by omega) (by omega), ih (i + 1) (n + 1) (by omega) (by omega) (by omega), ih (i + 1) n (by omega) (by omega) (by omega)]
        unfold pickD
        cases ((xs.getD i zeroEv).1 == 2)
        · rfl
        · cases ((xs.getD i zeroEv).2.1 == s)
          · rfl
          · show k0 _ = k0 _
            simp only [Bool.and_self, if_true]
            congr 2; omega
      · obtain rfl : i = xs.length := by omega
        rw [decide_eq_false (show ¬ ((xs.length : Nat) : Int) < ((xs.length : Nat) : Int) by omega), List.drop_length]; rfl
  have e5 := q5 (IntKind.wrap .i64 (((l.length : Nat) : Int) - 1)) (fun y0 y1 y2 y3 y4 =>
   (bif (decide (y3 < (0 : Int))) then
    K ((.s (.int .i64 (-(1 : Int)))), [])
    else (R_i_Waits_14_0 y0 y2 y3 y4 y1 (((List.length y1) : Nat) : Int) (0 : Int) (fun y5 y6 y7 y8 =>
     (bif (((decide ((0 : Int) ≤ y7)) && (decide (y7 ≤ (IntKind.wrap .i64 (y8 + (1 : Int)))))) && (decide ((IntKind.wrap .i64 (y8 + (1 : Int))) ≤ (((List.length y5) : Nat) : Int)))) then
      (R_i_Waits_21_0 y6 (0 : Int) (List.drop (Int.toNat y7) (List.take (Int.toNat (IntKind.wrap .i64 (y8 + (1 : Int)))) y5)) (((List.length (List.drop (Int.toNat y7) (List.take (Int.toNat (IntKind.wrap .i64 (y8 + (1 : Int)))) y5))) : Nat) : Int) (0 : Int) (fun y9 =>
       K ((.s (.int .i64 y9)), [])))
      else none))))) (List.length l + List.length t + s.toNat + (-(1 : Int)).toNat + (IntKind.wrap .i64 (((l.length : Nat) : Int) - 1)).toNat + List.length l + ((l.length : Nat) : Int).toNat + (0 : Int).toNat + 2) 0 (-1) (by omega) (by omega)
  refine Eq.trans e5 ?_
  rw [List.drop_zero]
  show (bif decide (lastD l s < 0) then _ else _) = K (.s (.int .i64 (bif decide (lastD l s < 0) then -1 else _)), [])
  by_cases hneg : lastD l s < 0
  · rw [decide_eq_true hneg]; rfl
  rw [decide_eq_false hneg]
  have e14 := q14 (lastD l s) (IntKind.wrap .i64 (((l.length : Nat) : Int) - 1)) (fun y5 y6 y7 y8 =>
     (bif (((decide ((0 : Int) ≤ y7)) && (decide (y7 ≤ (IntKind.wrap .i64 (y8 + (1 : Int)))))) && (decide ((IntKind.wrap .i64 (y8 + (1 : Int))) ≤ (((List.length y5) : Nat) : Int)))) then
      (R_i_Waits_21_0 y6 (0 : Int) (List.drop (Int.toNat y7) (List.take (Int.toNat (IntKind.wrap .i64 (y8 + (1 : Int)))) y5)) (((List.length (List.drop (Int.toNat y7) (List.take (Int.toNat (IntKind.wrap .i64 (y8 + (1 : Int)))) y5))) : Nat) : Int) (0 : Int) (fun y9 =>
       K ((.s (.int .i64 y9)), [])))
      else none)) (List.length l + s.toNat + (lastD l s).toNat + (IntKind.wrap .i64 (((l.length : Nat) : Int) - 1)).toNat + List.length t + ((t.length : Nat) : Int).toNat + (0 : Int).toNat + 2) 0 (by omega) (by omega)
  refine Eq.trans e14 ?_
  rw [List.drop_zero, wrap_in (n := ((l.length : Nat) : Int) - 1) (by omega) (by omega)]
  show (bif (((decide (0 ≤ lastD l s)) && (decide (lastD l s ≤ IntKind.wrap .i64 (endD t s (lastD l s) l.length + 1)))) && decide (IntKind.wrap .i64 (endD t s (lastD l s) l.length + 1) ≤ ((l.length : Nat) : Int))) then
      (R_i_Waits_21_0 s 0 (List.drop (lastD l s).toNat (List.take (IntKind.wrap .i64 (endD t s (lastD l s) l.length + 1)).toNat l)) (((List.drop (lastD l s).toNat (List.take (IntKind.wrap .i64 (endD t s (lastD l s) l.length + 1)).toNat l)).length : Nat) : Int) 0 (fun y9 => K ((.s (.int .i64 y9)), []))) else none) = _
  have hE : lastD l s < endD t s (lastD l s) l.length + 1 ∧ endD t s (lastD l s) l.length + 1 ≤ ((l.length : Nat) : Int) := by
    unfold endD
    cases hf : t.find? (seekD s (lastD l s)) with
    | none => show lastD l s < ((l.length : Nat) : Int) - 1 + 1 ∧ ((l.length : Nat) : Int) - 1 + 1 ≤ _; omega
    | some o =>
      obtain ⟨a1, a2, _⟩ := find_first (told_sorted hal) hf
      have b1 := hin o a1
      have b2 := (seek_iff.1 a2).2
      show lastD l s < o.1 + 1 ∧ o.1 + 1 ≤ _
      omega
  generalize endD t s (lastD l s) l.length = E at *
  rw [wrap_in (n := E + 1) (by omega) (by omega), decide_eq_true (show 0 ≤ lastD l s by omega), decide_eq_true (show lastD l s ≤ E + 1 by omega), decide_eq_true hE.2]
  have hx : (List.drop (lastD l s).toNat (List.take (E + 1).toNat l)).length ≤ 1048576 := by simp; omega
  have e21 := q21 _ hx (fun y9 => K ((.s (.int .i64 y9)), [])) (s.toNat + (0 : Int).toNat + (List.drop (lastD l s).toNat (List.take (E + 1).toNat l)).length + (((List.drop (lastD l s).toNat (List.take (E + 1).toNat l)).length : Nat) : Int).toNat + (0 : Int).toNat + 2) 0 0 (by omega) (by omega) (by omega)
  refine Eq.trans e21 ?_
  rw [List.drop_zero, Nat.zero_add]; rfl
theorem okS_i_Waits : OkFn prog I N.i_Waits true S_i_Waits := okN (ok_fn (memc okS_i_areOuts (memc okS_i_reqParse mem0)) (l := [(N.i_areOuts, true, S_i_areOuts), (N.i_reqParse, true, S_i_reqParse)]) (p := []) (ls := [(5, [0,1,2,7,8,25,26,27], [0,1,2,6,7,8], W_i_Waits_5), (14, [0,2,7,8,54,55,56], [0,2,6,7,8], W_i_Waits_14), (21, [2,15,77,78,79], [6,15], W_i_Waits_21)]) (lend := []) (focus := false) (fuel := 0) (give := []) (fn := F.i_Waits) (by kernel_rfl) (by kernel_rfl) (by kernel_rfl) (by kernel_rfl) (cs := [bodyOf F.i_Waits 5, bodyOf F.i_Waits 14, bodyOf F.i_Waits 21]) (by kernel_rfl) (loopsc loopK_i_Waits_5 (loopsc loopK_i_Waits_14 (loopsc loopK_i_Waits_21 loops0)))) (S_fnR_of fun d K h => (e_i_Waits d.1 d.2.1 d.2.2.1 K).trans (v_i_Waits d.1 d.2.1 d.2.2.1 h K))
end Go.Ev.Seat
end
section
/- The law FnExactWaits. Printed by laws.py. -/
namespace Go.Ev.Seat
open Go.RowKit
set_option maxRecDepth 100000
set_option linter.unusedVariables false
noncomputable abbrev ls_Waits (T : MText) : List (Nat × Bool × Sm) := [(N.s_Waits, true, S_s_Waits), (N.i_Waits, true, S_i_Waits), (N.l_toEventS, true, S_toL eventR), (N.l_eqEventS, true, S_eq eventR), (N.l_szEventS, true, S_szL eventR), (N.l_toOutS, true, S_toL outR), (N.l_eqOutS, true, S_eq outR), (N.l_szOutS, true, S_szL outR)]
noncomputable abbrev pl_Waits : List (Nat × Plan × List Nat) := []
noncomputable def G_Waits (T : MText) := evF (En (ls_Waits T) pl_Waits [] [] true) true F.l_FnExactWaits
theorem ok_Waits (T : MText) : OkFn prog I N.l_FnExactWaits true (G_Waits T) := ok_fn (l := ls_Waits T) (memc okS_s_Waits (memc okS_i_Waits (memc okS_toEventS (memc okS_eqEventS (memc okS_szEventS (memc okS_toOutS (memc okS_eqOutS (memc okS_szOutS mem0)))))))) (by kernel_rfl) (by kernel_rfl) (by kernel_rfl) (by kernel_rfl) (cs := []) (by kernel_rfl) loops0
noncomputable def L1_Waits (T : MText) (l : List T_Event) (t : List T_Out) (s : Int) (K : Ret → Option Ret) : Option Ret := (bif ((waitsD l t s) : Int) != (waitsD l t s) then K (bl false, []) else K (bl true, []))
noncomputable def L0_Waits (T : MText) (l : List T_Event) (t : List T_Out) (s : Int) (K : Ret → Option Ret) : Option Ret := (bif (Cc.sl eventR).lim l then (bif (Cc.sl outR).lim t then (bif (fitC (.sl eventR) l && fitC (.sl outR) t) then (bif ((waitsD l t s) : Int) != (waitsD l t s) then K (bl false, []) else (bif (Cc.sl eventR).lim l then (bif (Cc.sl eventR).cnt l then (bif !(eqD (l : List T_Event) l) then K (bl false, []) else (bif (Cc.sl outR).lim t then (bif (Cc.sl outR).cnt t then (bif !(eqD (t : List T_Out) t) then K (bl false, []) else K (bl true, [])) else none) else none)) else none) else none)) else none) else none) else none)
theorem law_Waits (T : MText) (l : List T_Event) (t : List T_Out) (s : Int) (K : Ret → Option Ret) (hwf0 : (Cc.sl eventR).wf l) (hwf1 : (Cc.sl outR).wf t) : G_Waits T [.l .no eventR l, .l .no outR t, .s (.int .i64 s)] K = K (bl true, []) := by
  have e : G_Waits T [.l .no eventR l, .l .no outR t, .s (.int .i64 s)] K = (bif szOk (1048576 : Int) && (Cc.sl eventR).cnz l then (bif decide (szN ((Cc.sl eventR).w l) (1048576 : Int) < 0) then K (bl true, []) else (bif szOk (szN ((Cc.sl eventR).w l) (1048576 : Int)) && (Cc.sl outR).cnz t then (bif decide (szN ((Cc.sl outR).w t) (szN ((Cc.sl eventR).w l) (1048576 : Int)) < 0) then K (bl true, []) else (bif (Cc.sl eventR).lim l then (bif (Cc.sl outR).lim t then (bif (fitC (.sl eventR) l && fitC (.sl outR) t) then (L0_Waits T l t s K) else none) else none) else none)) else none)) else none) := by kernel_rfl
  refine e.trans ?_
  have hz0 : (Cc.sl eventR).cnz l = true := Cc.cnz_of_wf (.sl eventR) l hwf0
  have hz1 : (Cc.sl outR).cnz t = true := Cc.cnz_of_wf (.sl outR) t hwf1
  refine lw_sz (show szOk 1048576 = true by rfl) hz0 (fun n0 e0 s0 => ?_)
  refine lw_sz s0 hz1 (fun n1 e1 s1 => ?_)
  have hw0 : (Cc.sl eventR).w l ≤ 1048576 := by omega
  have lim0 : (Cc.sl eventR).lim l = true := Cc.lim_ok (.sl eventR) l hw0
  have cnt0 : (Cc.sl eventR).cnt l = true := Cc.cnt_of_lim (.sl eventR) l lim0
  have mk0 : (Cc.sl eventR).marks l ≤ 32 * (Cc.sl eventR).w l := Cc.marksA_le (.sl eventR) rfl l
  have hw1 : (Cc.sl outR).w t ≤ 1048576 := by omega
  have lim1 : (Cc.sl outR).lim t = true := Cc.lim_ok (.sl outR) t hw1
  have cnt1 : (Cc.sl outR).cnt t = true := Cc.cnt_of_lim (.sl outR) t lim1
  have mk1 : (Cc.sl outR).marks t ≤ 32 * (Cc.sl outR).w t := Cc.marksA_le (.sl outR) rfl t
  have hpre : (fitC (.sl eventR) l && fitC (.sl outR) t) = true := (Bool.and_eq_true _ _).mpr ⟨fitC_of (.sl eventR) l hwf0 lim0, fitC_of (.sl outR) t hwf1 lim1⟩
  have t1 : L1_Waits T l t s K = K (bl true, []) := by
    unfold L1_Waits
    exact (lw_int rfl)
  have t0 : L0_Waits T l t s K = K (bl true, []) := by
    unfold L0_Waits
    exact (to_step lim0 (to_step lim1 (to_step hpre (lw_int (to_step lim0 (lw_eq cnt0 (to_step lim1 (lw_eq cnt1 rfl))))))))
  exact (to_step lim0 (to_step lim1 (to_step hpre t0)))
end Go.Ev.Seat
end
section
/- Kinds of types that come in, checked by reckoning. -/
set_option linter.unusedVariables false
namespace Go.Ev
open Go.RowKit
mutual
def ccN (P : Program) : Nat → Cc → TypeId → Bool
  | 0, _, _ => false
  | n + 1, c, t => match c, P.underlying t with
    | .int k, some (.int k') => decide (k' = k)
    | .bool, some .bool => true
    | .str, some .string => true
    | .sl r, some (.slice e) => Nat.beq (P.cellsOf e) r.n && (match layN P n r.list e with
      | some [] => true
      | _ => false)
    | _, _ => false
/-- The cells of a type, taken off a list: what is left. -/
def layN (P : Program) : Nat → List Cc → TypeId → Option (List Cc)
  | 0, _, _ => none
  | n + 1, cs, t => match cs with
    | [] => none
    | c :: rest => bif ccN P n c t then some rest else match P.underlying t with
      | some (.struct fs) => fsN P n (c :: rest) 0 fs.toList
      | _ => none
def fsN (P : Program) : Nat → List Cc → Nat → List Field → Option (List Cc)
  | 0, _, _, _ => none
  | n + 1, cs, i, fs => match fs with
    | [] => some cs
    | f :: rest => bif Nat.beq f.offset i then (match layN P n cs f.type with
      | some cs' => bif Nat.beq (P.cellsOf f.type + cs'.length) cs.length then fsN P n cs' (i + P.cellsOf f.type) rest else none
      | none => none) else none
end
theorem kinds_ok {P : Program} : ∀ (n : Nat), (∀ c t, ccN P n c t = true → CcOk P c t) ∧ (∀ cs t rest, layN P n cs t = some rest → ∃ pre, cs = pre ++ rest ∧ LayOk P pre t) ∧ ∀ cs i fs rest, fsN P n cs i fs = some rest → ∃ pre, cs = pre ++ rest ∧ LayFs P pre i fs
  | 0 => ⟨fun _ _ h => by simp [ccN] at h, fun _ _ _ h => by simp [layN] at h, fun _ _ _ _ h => by simp [fsN] at h⟩
  | n + 1 => by
    obtain ⟨h1, h2, h3⟩ := kinds_ok (P := P) n
    refine ⟨fun c t h => ?_, fun cs t rest h => ?_, fun cs i fs rest h => ?_⟩
    · simp only [ccN] at h
      split at h
      · rename_i k k' hu
        have := of_decide_eq_true h
        subst this
        exact .int hu
      · rename_i hu; exact .bool hu
      · rename_i hu; exact .str hu
      · rename_i r e hu
        simp only [Bool.and_eq_true] at h
        obtain ⟨g1, g2⟩ := h
        split at g2
        · rename_i hl
          obtain ⟨pre, e1, e2⟩ := h2 _ _ _ hl
          rw [List.append_nil] at e1
          exact .sl hu (Nat.eq_of_beq_eq_true g1) (e1 ▸ e2)
        · cases g2
      · cases h
    · simp only [layN] at h
      split at h
      · cases h
      · rename_i c rest'
        cases hc : ccN P n c t with
        | true =>
          rw [hc] at h
          cases h
          exact ⟨[c], rfl, .one (h1 _ _ hc)⟩
        | false =>
          rw [hc] at h
          simp only [cond_false] at h
          split at h
          · rename_i fs hu
            obtain ⟨pre, e1, e2⟩ := h3 _ _ _ _ h
            exact ⟨pre, e1, .st hu e2⟩
          · cases h
    · simp only [fsN] at h
      split at h
      · cases h
        exact ⟨[], rfl, .nil⟩
      · rename_i f rest'
        cases ho : Nat.beq f.offset i with
        | false => rw [ho] at h; cases h
        | true =>
          rw [ho] at h
          simp only [cond_true] at h
          split at h
          · rename_i cs' hl
            obtain ⟨pre, e1, e2⟩ := h2 _ _ _ hl
            cases hb : Nat.beq (P.cellsOf f.type + cs'.length) cs.length with
            | false => rw [hb] at h; cases h
            | true =>
              rw [hb] at h
              simp only [cond_true] at h
              have hlen := Nat.eq_of_beq_eq_true hb
              have hp : P.cellsOf f.type = pre.length := by rw [e1, List.length_append] at hlen; omega
              obtain ⟨pre2, e3, e4⟩ := h3 _ _ _ _ h
              rw [hp] at e4
              refine ⟨pre ++ pre2, by rw [e1, e3, List.append_assoc], .cons (Nat.eq_of_beq_eq_true ho) hp e2 e4⟩
          · cases h
def ccB (P : Program) (c : Cc) (t : TypeId) : Bool := ccN P 100 c t
def rwB (P : Program) (r : Rw) (t : TypeId) : Bool := match layN P 100 r.list t with
  | some [] => true
  | _ => false
theorem ccB_ok {P : Program} (c : Cc) {t : TypeId} (h : ccB P c t = true) : CcOk P c t := (kinds_ok 100).1 c t h
theorem rwB_ok {P : Program} (r : Rw) {t : TypeId} (h : rwB P r t = true) : RwOk P r t := by
  unfold rwB at h
  split at h
  · rename_i hl
    obtain ⟨pre, e1, e2⟩ := (kinds_ok 100).2.1 _ _ _ hl
    rw [List.append_nil] at e1
    show LayOk P r.list t
    rw [e1]; exact e2
  · cases h
end Go.Ev
end
section
/- An argument of one cell. -/
set_option linter.unusedVariables false
namespace Go.Ev
theorem cells_one {P : Program} {W : World} {r : Reach} {base : Nat} {c : Cc} {t : TypeId} {v : Value} (h : CcOk P c t) (ok : Value.okWide P W r base t v) : v.cells.toList = [v] := by
  cases v with
  | agg cs =>
    exfalso
    unfold Value.okWide at ok
    cases h with
    | int h => rw [h] at ok; simp [Cell.okWide, Cell.ok, h] at ok
    | bool h => rw [h] at ok; simp [Cell.okWide, Cell.ok, h] at ok
    | str h => rw [h] at ok; simp [Cell.okWide, Cell.ok, h] at ok
    | sl h _ _ => rw [h] at ok; simp [Cell.okWide, Cell.ok, h] at ok
  | _ => rfl
end Go.Ev
end
section
/- What a row's list gives of the tables of unicode/utf8. -/
set_option linter.unusedVariables false
namespace Go.Ev
open Go
variable {H : Type} {enc : TypeId × Value → H} {P : Program} {w : World} {base : Nat} {sp : Nat → Bool} {held : Bool}

/-- An array's cells, element by element. -/
theorem trod_arr {fuel : Nat} {t e : TypeId} {n m : Nat} {cs : List Value} {ds : List (DataW H)} {p : List MemPlace}
    (ht : P.underlying t = some (.array n e)) (hce : P.cellsOf e = m) (hct : P.cellsOf t = n * m)
    (h : DataW.trod enc P w base sp held fuel t cs = some (.agg ds, p)) :
    cs.length = n * m ∧ ds.length = n ∧ ∀ (i : Nat) (d : DataW H), ds[i]? = some d → ∃ f q, DataW.trod enc P w base sp held f e ((cs.drop (i * m)).take m) = some (d, q) := by
  cases fuel with
  | zero => simp [DataW.trod] at h
  | succ fuel =>
    simp only [DataW.trod, ht, hce, hct] at h
    split at h
    · rename_i hl
      obtain ⟨xs, hm, hx⟩ := Option.map_eq_some_iff.1 h
      have hxs : xs.map (·.1) = ds := by
        have := congrArg Prod.fst hx
        simpa using this
      have hxl : xs.length = n := by simpa using Lib.mapM_length hm
      refine ⟨by simpa using hl, by rw [← hxs]; simp [hxl], fun i d hd => ?_⟩
      rw [← hxs] at hd
      rw [List.getElem?_map, Option.map_eq_some_iff] at hd
      obtain ⟨b, hb, rfl⟩ := hd
      have hi : i < n := by
        have := (List.getElem?_eq_some_iff.1 hb).1
        omega
      obtain ⟨b', hb', hf⟩ := Lib.mapM_at hm i i (by simp [hi])
      obtain rfl := Option.some.inj (hb.symm.trans hb')
      exact ⟨fuel, b.2, hf⟩
    · cases h
theorem trod_u8 {fuel : Nat} {t : TypeId} {k : IntKind} {cs : List Value} {z : Int} {p : List MemPlace} (ht : P.underlying t = some (.int k))
    (h : DataW.trod enc P w base sp held fuel t cs = some (.lit (.int k z), p)) : cs = [.int k z] := by
  cases fuel with
  | zero => simp [DataW.trod] at h
  | succ fuel =>
    obtain ⟨z', hc, h2, _⟩ := DataW.trod_int ht h
    cases h2
    exact hc
/-- A struct of two small cells. -/
theorem trod_two {fuel : Nat} {t : TypeId} {fs : Array Field} {f g : Field} {k : IntKind} {cs : List Value} {x y : Int} {p : List MemPlace}
    (ht : P.underlying t = some (.struct fs)) (hfs : fs.toList = [f, g]) (hc : P.cellsOf t = 2) (hf0 : f.offset = 0) (hg0 : g.offset = 1) (hf : P.underlying f.type = some (.int k)) (hg : P.underlying g.type = some (.int k))
    (hcf : P.cellsOf f.type = 1) (hcg : P.cellsOf g.type = 1)
    (h : DataW.trod enc P w base sp held fuel t cs = some (.agg [.lit (.int k x), .lit (.int k y)], p)) : cs = [.int k x, .int k y] := by
  cases fuel with
  | zero => simp [DataW.trod] at h
  | succ fuel =>
    simp only [DataW.trod, ht, hfs, hc, hf0, hg0, hcf, hcg] at h
    split at h
    · rename_i hl
      obtain ⟨xs, hm, hx⟩ := Option.map_eq_some_iff.1 h
      have hxs : xs.map (·.1) = [.lit (.int k x), .lit (.int k y)] := by
        have := congrArg Prod.fst hx
        simpa using this
      obtain ⟨b0, hb0, h0⟩ := Lib.mapM_at hm 0 f rfl
      obtain ⟨b1, hb1, h1⟩ := Lib.mapM_at hm 1 g rfl
      have e0 : b0.1 = .lit (.int k x) := by
        have := congrArg (·[0]?) hxs
        simpa [hb0] using this
      have e1 : b1.1 = .lit (.int k y) := by
        have := congrArg (·[1]?) hxs
        simpa [hb1] using this
      obtain ⟨d0, q0⟩ := b0
      obtain ⟨d1, q1⟩ := b1
      simp only at e0 e1
      subst e0 e1
      rw [hf0, hcf] at h0
      rw [hg0, hcg] at h1
      have a0 := trod_u8 hf h0
      have a1 := trod_u8 hg h1
      match cs, hl, a0, a1 with
      | [u, v], _, a0, a1 =>
        simp at a0 a1
        rw [a0, a1]
      | [], hl, _, _ => simp at hl
      | [_], hl, _, _ => simp at hl
      | _ :: _ :: _ :: _, hl, _, _ => simp at hl
    · cases h
theorem laid_at {laid : List (String × DataW Unit)} {W : World} {ps : List MemPlace} (h : DataW.LaidVars P W laid ps) {i : Nat} {name : String} {d : DataW Unit} (hi : laid[i]? = some (name, d)) {g : Nat} {t : TypeId}
    (hg : P.globalNamed name = some g) (hty : (P.globals[g]?).map (·.type) = some t) : ∃ cs fuel p, W.var? P name = some cs ∧ DataW.trod (fun _ => ()) P W 0 (fun _ => true) false fuel t cs.toList = some (d, p) := by
  induction laid generalizing ps i with
  | nil => simp at hi
  | cons x rest ih =>
    obtain ⟨n, d'⟩ := x
    obtain ⟨g', t', cs, fuel, p, q, hg', ht', hvar, hd, hr, _⟩ := h
    cases i with
    | zero =>
      simp only [List.getElem?_cons_zero, Option.some.injEq, Prod.mk.injEq] at hi
      obtain ⟨rfl, rfl⟩ := hi
      obtain rfl := Option.some.inj (hg.symm.trans hg')
      obtain rfl := Option.some.inj (hty.symm.trans ht')
      exact ⟨cs, fuel, p, hvar, hd⟩
    | succ i => exact ih hr (by simpa using hi)
theorem var_lt {W : World} {name : String} {g : Nat} {cs : Array Value} (hg : P.globalNamed name = some g) (h : W.var? P name = some cs) : g < W.heap.size := by
  unfold World.var? at h
  rw [hg] at h
  simp only [Option.bind_some] at h
  split at h
  · rename_i hh
    exact (Array.getElem?_eq_some_iff.1 hh).1
  · cases h
/-- THE TWO TABLES, off the list of a row. -/
theorem globI_utf {W : World} {d0 d1 : DataW Unit} (hm : laidMet P [("unicode/utf8.acceptRanges", d1), ("unicode/utf8.first", d0)] W)
    (hd0 : d0 = .agg (utfFirst.map fun z => .lit (.int .u8 z))) (hd1 : d1 = .agg (utfAccept.map fun z => .agg [.lit (.int .u8 z.1), .lit (.int .u8 z.2)]))
    {t0 t1 e0 e1 : TypeId} (hg0 : P.globalNamed "unicode/utf8.first" = some 0) (hg1 : P.globalNamed "unicode/utf8.acceptRanges" = some 1)
    (hy0 : (P.globals[0]?).map (·.type) = some t0) (hy1 : (P.globals[1]?).map (·.type) = some t1)
    (ht0 : P.underlying t0 = some (.array 256 e0)) (ht1 : P.underlying t1 = some (.array 16 e1)) (he0 : P.underlying e0 = some (.int .u8))
    {fs : Array Field} {f g : Field} (he1 : P.underlying e1 = some (.struct fs)) (hfs : fs.toList = [f, g]) (hf0 : f.offset = 0) (hgo : g.offset = 1) (hf : P.underlying f.type = some (.int .u8)) (hg : P.underlying g.type = some (.int .u8))
    (hcf : P.cellsOf f.type = 1) (hcg : P.cellsOf g.type = 1) (hc0 : P.cellsOf t0 = 256) (hc1 : P.cellsOf t1 = 32) (hce0 : P.cellsOf e0 = 1) (hce1 : P.cellsOf e1 = 2) : GlobI utfGlob W.heap.size W := by
  obtain ⟨ps, hL, _⟩ := hm
  obtain ⟨cs1, fu1, p1, hv1, hr1⟩ := laid_at hL (i := 0) rfl hg1 hy1
  obtain ⟨cs0, fu0, p0, hv0, hr0⟩ := laid_at hL (i := 1) rfl hg0 hy0
  subst hd0 hd1
  obtain ⟨l0, n0, r0⟩ := trod_arr (n := 256) (m := 1) ht0 hce0 hc0 hr0
  obtain ⟨l1, n1, r1⟩ := trod_arr (n := 16) (m := 2) ht1 hce1 hc1 hr1
  intro gg r xs hgg
  unfold utfGlob at hgg
  by_cases h0 : gg = 0
  · subst h0
    simp only [Nat.beq, cond_true, Option.some.injEq, Sigma.mk.injEq] at hgg
    obtain ⟨rfl, hxs⟩ := hgg
    cases hxs
    refine ⟨var_lt hg0 hv0, fun i d hd => ?_⟩
    obtain ⟨f', q, hq⟩ := r0 i _ (by rw [List.getElem?_map, hd]; rfl)
    have hcs := trod_u8 he0 hq
    refine ⟨[.int .u8 d], rfl, fun j v hj => ?_, fun C w => ⟨.int .u8 d, [], rfl, ⟨rfl, rfl⟩, rfl⟩⟩
    match j, hj with
    | 0, hj =>
      cases hj
      rw [World.var?_cell hg0 hv0]
      have := congrArg (·[0]?) hcs
      simpa [Rw.n, List.getElem?_take, List.getElem?_drop] using this
    | j + 1, hj => simp at hj
  · by_cases h1 : gg = 1
    · subst h1
      simp only [Nat.beq, cond_true, cond_false, Option.some.injEq, Sigma.mk.injEq] at hgg
      obtain ⟨rfl, hxs⟩ := hgg
      cases hxs
      refine ⟨var_lt hg1 hv1, fun i d hd => ?_⟩
      obtain ⟨f', q, hq⟩ := r1 i _ (by rw [List.getElem?_map, hd]; rfl)
      have hcs := trod_two he1 hfs hce1 hf0 hgo hf hg hcf hcg hq
      refine ⟨[.int .u8 d.1, .int .u8 d.2], rfl, fun j v hj => ?_, fun C w => ⟨.int .u8 d.1, [.int .u8 d.2], rfl, ⟨rfl, rfl⟩, ⟨.int .u8 d.2, [], rfl, ⟨rfl, rfl⟩, rfl⟩⟩⟩
      match j, hj with
      | 0, hj =>
        cases hj
        rw [World.var?_cell hg1 hv1]
        have := congrArg (·[0]?) hcs
        simpa [Rw.n, List.getElem?_take, List.getElem?_drop] using this
      | 1, hj =>
        cases hj
        rw [World.var?_cell hg1 hv1]
        have := congrArg (·[1]?) hcs
        simpa [Rw.n, List.getElem?_take, List.getElem?_drop] using this
      | j + 2, hj => simp at hj
    · exfalso
      match gg, h0, h1 with
      | 0, h0, _ => exact h0 rfl
      | 1, _, h1 => exact h1 rfl
      | n + 2, _, _ => simp [Nat.beq] at hgg
def u8B (P : Program) (t : TypeId) : Bool := match P.underlying t with
  | some (.int .u8) => P.cellsOf t == 1
  | _ => false
theorem u8B_ok {t : TypeId} (h : u8B P t = true) : P.underlying t = some (.int .u8) ∧ P.cellsOf t = 1 := by
  unfold u8B at h
  split at h
  · rename_i e; exact ⟨e, by simpa using h⟩
  · cases h
def twoB (P : Program) (t : TypeId) : Bool := match P.underlying t with
  | some (.struct fs) => match fs.toList with
    | [f, g] => f.offset == 0 && g.offset == 1 && u8B P f.type && u8B P g.type && P.cellsOf t == 2
    | _ => false
  | _ => false
/-- The two tables' types, looked at. -/
def tabB (P : Program) (t0 t1 e0 e1 : TypeId) : Bool :=
  P.globalNamed "unicode/utf8.first" == some 0 && P.globalNamed "unicode/utf8.acceptRanges" == some 1 && (P.globals[0]?).map (·.type) == some t0 && (P.globals[1]?).map (·.type) == some t1 &&
  P.cellsOf t0 == 256 && P.cellsOf t1 == 32 && u8B P e0 && twoB P e1
theorem globI_utfB {W : World} {d0 d1 : DataW Unit} (hm : laidMet P [("unicode/utf8.acceptRanges", d1), ("unicode/utf8.first", d0)] W)
    (hd0 : d0 = .agg (utfFirst.map fun z => .lit (.int .u8 z))) (hd1 : d1 = .agg (utfAccept.map fun z => .agg [.lit (.int .u8 z.1), .lit (.int .u8 z.2)]))
    (t0 t1 e0 e1 : TypeId) (hB : tabB P t0 t1 e0 e1 = true) (ht0 : P.underlying t0 = some (.array 256 e0)) (ht1 : P.underlying t1 = some (.array 16 e1)) : GlobI utfGlob W.heap.size W := by
  unfold tabB at hB
  simp only [Bool.and_eq_true, beq_iff_eq] at hB
  obtain ⟨⟨⟨⟨⟨⟨⟨a1, a2⟩, a3⟩, a4⟩, a5⟩, a6⟩, a7⟩, a8⟩ := hB
  unfold twoB at a8
  split at a8
  · rename_i fs hfs
    split at a8
    · rename_i f g hfg
      simp only [Bool.and_eq_true, beq_iff_eq] at a8
      obtain ⟨⟨⟨⟨b1, b2⟩, b3⟩, b4⟩, b5⟩ := a8
      obtain ⟨c1, c2⟩ := u8B_ok b3
      obtain ⟨c3, c4⟩ := u8B_ok b4
      obtain ⟨c5, c6⟩ := u8B_ok a7
      exact globI_utf hm hd0 hd1 a1 a2 a3 a4 ht0 ht1 c5 hfs hfg b1 b2 c1 c3 c2 c4 a5 a6 c6 b5
    · cases a8
  · cases a8
def lay (xs : List Value) : Obj → Obj
  | .cells _ t frozen => .cells xs.toArray t frozen
  | o => o
/-- What the tables' initialisers lay. -/
def layUtf (h : Array Obj) : Array Obj := (h.modify 0 (lay (utfFirst.map fun z => .int .u8 z))).modify 1 (lay (utfAccept.flatMap fun z => [.int .u8 z.1, .int .u8 z.2]))
end Go.Ev
end
