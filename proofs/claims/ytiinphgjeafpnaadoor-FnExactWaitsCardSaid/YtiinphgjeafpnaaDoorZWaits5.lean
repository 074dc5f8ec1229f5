/- Waits: parts FsOutsOk PWaits FsWaits Fiin FiisSession FiisTick FiisEvent FiareEvents1 FslicesIndexFuncEvent FslicesContainsFuncEvent FiareEvents FiisWord Futf8wordbytes Futf8Valid FiisText FiisReply FiisPut FiusedNumbers FiisReq FireadWord EvGrow EvConc FireqParse FiReqsame FiisOut FiareOuts, packed by squash.py. -/
import Derived.Shelf.Spec.SlicesGrow
import Derived.Laws.AppendOwn
import Derived.Test.YtiinphgjeafpnaaDoorZWaits0
import Derived.Test.YtiinphgjeafpnaaDoorZWaits1
import Derived.Test.YtiinphgjeafpnaaDoorZWaits2
import Derived.Test.YtiinphgjeafpnaaDoorZWaits3
import Derived.Test.YtiinphgjeafpnaaDoorZWaits4
set_option linter.unusedVariables false
set_option linter.unusedSimpArgs false
section
/- s_OutsOk: its contract. -/
namespace Go.Ev.Seat
open Go.RowKit
set_option maxRecDepth 100000
set_option linter.unusedVariables false
set_option linter.unusedSimpArgs false
def z_s_OutsOk_4_0 (x0 : List T_Commit) (x1 : List T_Out) (x4 : Bool) : St := { tm := ([(.l .no commitR x0), (.l .no outR x1), .x, .x, (.s (.bool x4))] ++ List.replicate 111 .x), ob := [], nx := 0, io := [] }
def z_s_OutsOk_4_1 (x0 : List T_Commit) (x1 : List T_Out) : St := { tm := ([(.l .no commitR x0), (.l .no outR x1)] ++ List.replicate 114 .x), ob := [], nx := 0, io := [] }
def sh_s_OutsOk_4_0 : Ss := { tm := (.cons (.l .no commitR) (.cons (.l .no outR) (.cons (.x) (.cons (.x) (.cons (.x) (.cons (.int .i64) (xsh 110))))))), ob := .nil, nx := 0, io := .nil }
def d_s_OutsOk_4_0 (x0 : List T_Commit) (x1 : List T_Out) (x5 : Int) : sh_s_OutsOk_4_0.T := ((x0, (x1, ((), ((), ((), (x5, xd 110)))))), (), ())
def s_s_OutsOk_4_0 (x0 : List T_Commit) (x1 : List T_Out) (x5 : Int) : St := { tm := ([(.l .no commitR x0), (.l .no outR x1), .x, .x, .x, (.s (.int .i64 x5))] ++ List.replicate 110 .x), ob := [], nx := 0, io := [] }
theorem se_s_OutsOk_4_0 (x0 : List T_Commit) (x1 : List T_Out) (x5 : Int) : sh_s_OutsOk_4_0.mk' (d_s_OutsOk_4_0 x0 x1 x5) = (s_s_OutsOk_4_0 x0 x1 x5) := by kernel_rfl
def w_s_OutsOk_4_0 (d : sh_s_OutsOk_4_0.T) (f : (List T_Commit) → (List T_Out) → Int → Option Ret) : Option Ret := match d with | ((x0, (x1, (_, (_, (_, (x5, _)))))), _, _) => f x0 x1 x5
noncomputable def P_s_OutsOk_4_0 (x0 : List T_Commit) (x1 : List T_Out) (x5 : Int) (nx0 : (List T_Commit) → (List T_Out) → Int → Option Ret) (k0 : (List T_Commit) → (List T_Out) → Bool → Option Ret) (k1 : (List T_Commit) → (List T_Out) → Option Ret) : Option Ret :=
 (bif (decide (x5 < (((List.length x0) : Nat) : Int))) then
 (bif ((decide ((0 : Int) ≤ x5)) && (decide (x5 < (((List.length x0) : Nat) : Int)))) then
  (bif (!(eventOkD (List.getD x0 (Int.toNat x5) (commitR.dflt)))) then
   (k0 x0 x1 false)
   else (nx0 x0 x1 (IntKind.wrap .i64 (x5 + (1 : Int)))))
  else none)
 else (k1 x0 x1))
noncomputable def Q_s_OutsOk_4_0 : Nat → (List T_Commit) → (List T_Out) → Int → ((List T_Commit) → (List T_Out) → Bool → Option Ret) → ((List T_Commit) → (List T_Out) → Option Ret) → Option Ret
  | 0, _, _, _, _, _ => none
  | m + 1, x0, x1, x5, k0, k1 => P_s_OutsOk_4_0 x0 x1 x5 (fun x0 x1 x5 => (Q_s_OutsOk_4_0 m x0 x1 x5 k0 k1)) k0 k1
noncomputable def R_s_OutsOk_4_0 (x0 : List T_Commit) (x1 : List T_Out) (x5 : Int) (k0 : (List T_Commit) → (List T_Out) → Bool → Option Ret) (k1 : (List T_Commit) → (List T_Out) → Option Ret) : Option Ret := Q_s_OutsOk_4_0 (List.length x0 + List.length x1 + x5.toNat + 2) x0 x1 x5 k0 k1
noncomputable def W_s_OutsOk_4 : LoopFn := (fun (σ : St) (K : Ex → St → Option Ret) => (match sh_s_OutsOk_4_0.un σ with | some d => w_s_OutsOk_4_0 d (fun x0 x1 x5 => R_s_OutsOk_4_0 x0 x1 x5 (fun x0 x1 x4 => (K .ret (z_s_OutsOk_4_0 x0 x1 x4))) (fun x0 x1 => (K (.ext 0) (z_s_OutsOk_4_1 x0 x1)))) | none => none))
def z_s_OutsOk_9_0 (x4 : Bool) : St := { tm := ([.x, .x, .x, .x, (.s (.bool x4))] ++ List.replicate 111 .x), ob := [], nx := 0, io := [] }
def z_s_OutsOk_9_1 : St := { tm := ([] ++ List.replicate 116 .x), ob := [], nx := 0, io := [] }
def sh_s_OutsOk_9_0 : Ss := { tm := (.cons (.l .no commitR) (.cons (.l .no outR) (.cons (.x) (.cons (.x) (.cons (.x) (.cons (.x) (.cons (.int .i64) (xsh 109)))))))), ob := .nil, nx := 0, io := .nil }
def d_s_OutsOk_9_0 (x0 : List T_Commit) (x1 : List T_Out) (x6 : Int) : sh_s_OutsOk_9_0.T := ((x0, (x1, ((), ((), ((), ((), (x6, xd 109))))))), (), ())
def s_s_OutsOk_9_0 (x0 : List T_Commit) (x1 : List T_Out) (x6 : Int) : St := { tm := ([(.l .no commitR x0), (.l .no outR x1), .x, .x, .x, .x, (.s (.int .i64 x6))] ++ List.replicate 109 .x), ob := [], nx := 0, io := [] }
theorem se_s_OutsOk_9_0 (x0 : List T_Commit) (x1 : List T_Out) (x6 : Int) : sh_s_OutsOk_9_0.mk' (d_s_OutsOk_9_0 x0 x1 x6) = (s_s_OutsOk_9_0 x0 x1 x6) := by kernel_rfl
def w_s_OutsOk_9_0 (d : sh_s_OutsOk_9_0.T) (f : (List T_Commit) → (List T_Out) → Int → Option Ret) : Option Ret := match d with | ((x0, (x1, (_, (_, (_, (_, (x6, _))))))), _, _) => f x0 x1 x6
noncomputable def P_s_OutsOk_9_0 (x0 : List T_Commit) (x1 : List T_Out) (x6 : Int) (nx0 : (List T_Commit) → (List T_Out) → Int → Option Ret) (k0 : Bool → Option Ret) (k1 : Option Ret) : Option Ret :=
 (bif (decide (x6 < (((List.length x1) : Nat) : Int))) then
 (bif ((decide ((0 : Int) ≤ x6)) && (decide (x6 < (((List.length x1) : Nat) : Int)))) then
  (bif (decide ((List.getD x1 (Int.toNat x6) (outR.dflt)).1 < (0 : Int))) then
   (k0 false)
   else (bif (decide ((List.getD x1 (Int.toNat x6) (outR.dflt)).1 ≥ (((List.length x0) : Nat) : Int))) then
    (k0 false)
    else (bif (decide (x6 > (0 : Int))) then
     (bif ((decide ((0 : Int) ≤ (IntKind.wrap .i64 (x6 - (1 : Int))))) && (decide ((IntKind.wrap .i64 (x6 - (1 : Int))) < (((List.length x1) : Nat) : Int)))) then
      (bif (decide ((List.getD x1 (Int.toNat (IntKind.wrap .i64 (x6 - (1 : Int)))) (outR.dflt)).1 ≥ (List.getD x1 (Int.toNat x6) (outR.dflt)).1)) then
       (k0 false)
       else (bif (fitB (List.getD x1 (Int.toNat x6) (outR.dflt)).2.2.2.2.2.2.2.2.2.2.2.2) then
        (bif (!(replyOkD (List.getD x1 (Int.toNat x6) (outR.dflt)).2.2.2.2.2.2.2.2.2)) then
         (k0 false)
         else (bif ((decide ((0 : Int) ≤ (List.getD x1 (Int.toNat x6) (outR.dflt)).1)) && (decide ((List.getD x1 (Int.toNat x6) (outR.dflt)).1 < (((List.length x0) : Nat) : Int)))) then
          (bif ((List.getD x0 (Int.toNat (List.getD x1 (Int.toNat x6) (outR.dflt)).1) (commitR.dflt)).1 == (1 : Int)) then
           (bif ((fitB (List.getD x0 (Int.toNat (List.getD x1 (Int.toNat x6) (outR.dflt)).1) (commitR.dflt)).2.2.2) && (fitB (List.getD x1 (Int.toNat x6) (outR.dflt)).2.2.2.2.2.2.2.1)) then
            (bif ((List.getD x0 (Int.toNat (List.getD x1 (Int.toNat x6) (outR.dflt)).1) (commitR.dflt)).1 == (2 : Int)) then
             (bif ((List.getD x1 (Int.toNat x6) (outR.dflt)).2.1 == (List.getD x0 (Int.toNat (List.getD x1 (Int.toNat x6) (outR.dflt)).1) (commitR.dflt)).2.1) then
              (bif (fitB (List.getD x1 (Int.toNat x6) (outR.dflt)).2.2.2.2.2.2.2.1) then
               (bif (reqOkD ((List.getD x1 (Int.toNat x6) (outR.dflt)).2.2.1, ((List.getD x1 (Int.toNat x6) (outR.dflt)).2.2.2.1, ((List.getD x1 (Int.toNat x6) (outR.dflt)).2.2.2.2.1, ((List.getD x1 (Int.toNat x6) (outR.dflt)).2.2.2.2.2.1, ((List.getD x1 (Int.toNat x6) (outR.dflt)).2.2.2.2.2.2.1, (List.getD x1 (Int.toNat x6) (outR.dflt)).2.2.2.2.2.2.2.1)))))) then
                (bif (!(frameOkD (List.getD x0 (Int.toNat (List.getD x1 (Int.toNat x6) (outR.dflt)).1) (commitR.dflt)).2.2.2 (List.getD x1 (Int.toNat x6) (outR.dflt)))) then
                 (bif (!((List.getD x1 (Int.toNat x6) (outR.dflt)).2.2.2.1 == (List.getD x1 (Int.toNat x6) (outR.dflt)).2.1)) then
                  (k0 false)
                  else (nx0 x0 x1 (IntKind.wrap .i64 (x6 + (1 : Int)))))
                 else (nx0 x0 x1 (IntKind.wrap .i64 (x6 + (1 : Int)))))
                else (bif (!(frameOkD (List.getD x0 (Int.toNat (List.getD x1 (Int.toNat x6) (outR.dflt)).1) (commitR.dflt)).2.2.2 (List.getD x1 (Int.toNat x6) (outR.dflt)))) then
                 (k0 false)
                 else (nx0 x0 x1 (IntKind.wrap .i64 (x6 + (1 : Int))))))
               else none)
              else (bif (!(frameOkD (List.getD x0 (Int.toNat (List.getD x1 (Int.toNat x6) (outR.dflt)).1) (commitR.dflt)).2.2.2 (List.getD x1 (Int.toNat x6) (outR.dflt)))) then
               (k0 false)
               else (nx0 x0 x1 (IntKind.wrap .i64 (x6 + (1 : Int))))))
             else (bif (!(frameOkD (List.getD x0 (Int.toNat (List.getD x1 (Int.toNat x6) (outR.dflt)).1) (commitR.dflt)).2.2.2 (List.getD x1 (Int.toNat x6) (outR.dflt)))) then
              (k0 false)
              else (nx0 x0 x1 (IntKind.wrap .i64 (x6 + (1 : Int))))))
            else none)
           else (bif ((List.getD x0 (Int.toNat (List.getD x1 (Int.toNat x6) (outR.dflt)).1) (commitR.dflt)).1 == (2 : Int)) then
            (bif ((List.getD x1 (Int.toNat x6) (outR.dflt)).2.1 == (List.getD x0 (Int.toNat (List.getD x1 (Int.toNat x6) (outR.dflt)).1) (commitR.dflt)).2.1) then
             (bif (fitB (List.getD x1 (Int.toNat x6) (outR.dflt)).2.2.2.2.2.2.2.1) then
              (bif (reqOkD ((List.getD x1 (Int.toNat x6) (outR.dflt)).2.2.1, ((List.getD x1 (Int.toNat x6) (outR.dflt)).2.2.2.1, ((List.getD x1 (Int.toNat x6) (outR.dflt)).2.2.2.2.1, ((List.getD x1 (Int.toNat x6) (outR.dflt)).2.2.2.2.2.1, ((List.getD x1 (Int.toNat x6) (outR.dflt)).2.2.2.2.2.2.1, (List.getD x1 (Int.toNat x6) (outR.dflt)).2.2.2.2.2.2.2.1)))))) then
               (bif (!((List.getD x1 (Int.toNat x6) (outR.dflt)).2.2.2.1 == (List.getD x1 (Int.toNat x6) (outR.dflt)).2.1)) then
                (k0 false)
                else (nx0 x0 x1 (IntKind.wrap .i64 (x6 + (1 : Int)))))
               else (k0 false))
              else none)
             else (k0 false))
            else (k0 false)))
          else none))
        else none))
      else none)
     else (bif (fitB (List.getD x1 (Int.toNat x6) (outR.dflt)).2.2.2.2.2.2.2.2.2.2.2.2) then
      (bif (!(replyOkD (List.getD x1 (Int.toNat x6) (outR.dflt)).2.2.2.2.2.2.2.2.2)) then
       (k0 false)
       else (bif ((decide ((0 : Int) ≤ (List.getD x1 (Int.toNat x6) (outR.dflt)).1)) && (decide ((List.getD x1 (Int.toNat x6) (outR.dflt)).1 < (((List.length x0) : Nat) : Int)))) then
        (bif ((List.getD x0 (Int.toNat (List.getD x1 (Int.toNat x6) (outR.dflt)).1) (commitR.dflt)).1 == (1 : Int)) then
         (bif ((fitB (List.getD x0 (Int.toNat (List.getD x1 (Int.toNat x6) (outR.dflt)).1) (commitR.dflt)).2.2.2) && (fitB (List.getD x1 (Int.toNat x6) (outR.dflt)).2.2.2.2.2.2.2.1)) then
          (bif ((List.getD x0 (Int.toNat (List.getD x1 (Int.toNat x6) (outR.dflt)).1) (commitR.dflt)).1 == (2 : Int)) then
           (bif ((List.getD x1 (Int.toNat x6) (outR.dflt)).2.1 == (List.getD x0 (Int.toNat (List.getD x1 (Int.toNat x6) (outR.dflt)).1) (commitR.dflt)).2.1) then
            (bif (fitB (List.getD x1 (Int.toNat x6) (outR.dflt)).2.2.2.2.2.2.2.1) then
             (bif (reqOkD ((List.getD x1 (Int.toNat x6) (outR.dflt)).2.2.1, ((List.getD x1 (Int.toNat x6) (outR.dflt)).2.2.2.1, ((List.getD x1 (Int.toNat x6) (outR.dflt)).2.2.2.2.1, ((List.getD x1 (Int.toNat x6) (outR.dflt)).2.2.2.2.2.1, ((List.getD x1 (Int.toNat x6) (outR.dflt)).2.2.2.2.2.2.1, (List.getD x1 (Int.toNat x6) (outR.dflt)).2.2.2.2.2.2.2.1)))))) then
              (bif (!(frameOkD (List.getD x0 (Int.toNat (List.getD x1 (Int.toNat x6) (outR.dflt)).1) (commitR.dflt)).2.2.2 (List.getD x1 (Int.toNat x6) (outR.dflt)))) then
               (bif (!((List.getD x1 (Int.toNat x6) (outR.dflt)).2.2.2.1 == (List.getD x1 (Int.toNat x6) (outR.dflt)).2.1)) then
                (k0 false)
                else (nx0 x0 x1 (IntKind.wrap .i64 (x6 + (1 : Int)))))
               else (nx0 x0 x1 (IntKind.wrap .i64 (x6 + (1 : Int)))))
              else (bif (!(frameOkD (List.getD x0 (Int.toNat (List.getD x1 (Int.toNat x6) (outR.dflt)).1) (commitR.dflt)).2.2.2 (List.getD x1 (Int.toNat x6) (outR.dflt)))) then
               (k0 false)
               else (nx0 x0 x1 (IntKind.wrap .i64 (x6 + (1 : Int))))))
             else none)
            else (bif (!(frameOkD (List.getD x0 (Int.toNat (List.getD x1 (Int.toNat x6) (outR.dflt)).1) (commitR.dflt)).2.2.2 (List.getD x1 (Int.toNat x6) (outR.dflt)))) then
             (k0 false)
             else (nx0 x0 x1 (IntKind.wrap .i64 (x6 + (1 : Int))))))
           else (bif (!(frameOkD (List.getD x0 (Int.toNat (List.getD x1 (Int.toNat x6) (outR.dflt)).1) (commitR.dflt)).2.2.2 (List.getD x1 (Int.toNat x6) (outR.dflt)))) then
            (k0 false)
            else (nx0 x0 x1 (IntKind.wrap .i64 (x6 + (1 : Int))))))
          else none)
         else (bif ((List.getD x0 (Int.toNat (List.getD x1 (Int.toNat x6) (outR.dflt)).1) (commitR.dflt)).1 == (2 : Int)) then
          (bif ((List.getD x1 (Int.toNat x6) (outR.dflt)).2.1 == (List.getD x0 (Int.toNat (List.getD x1 (Int.toNat x6) (outR.dflt)).1) (commitR.dflt)).2.1) then
           (bif (fitB (List.getD x1 (Int.toNat x6) (outR.dflt)).2.2.2.2.2.2.2.1) then
            (bif (reqOkD ((List.getD x1 (Int.toNat x6) (outR.dflt)).2.2.1, ((List.getD x1 (Int.toNat x6) (outR.dflt)).2.2.2.1, ((List.getD x1 (Int.toNat x6) (outR.dflt)).2.2.2.2.1, ((List.getD x1 (Int.toNat x6) (outR.dflt)).2.2.2.2.2.1, ((List.getD x1 (Int.toNat x6) (outR.dflt)).2.2.2.2.2.2.1, (List.getD x1 (Int.toNat x6) (outR.dflt)).2.2.2.2.2.2.2.1)))))) then
             (bif (!((List.getD x1 (Int.toNat x6) (outR.dflt)).2.2.2.1 == (List.getD x1 (Int.toNat x6) (outR.dflt)).2.1)) then
              (k0 false)
              else (nx0 x0 x1 (IntKind.wrap .i64 (x6 + (1 : Int)))))
             else (k0 false))
            else none)
           else (k0 false))
          else (k0 false)))
        else none))
      else none))))
  else none)
 else k1)
noncomputable def Q_s_OutsOk_9_0 : Nat → (List T_Commit) → (List T_Out) → Int → (Bool → Option Ret) → (Option Ret) → Option Ret
  | 0, _, _, _, _, _ => none
  | m + 1, x0, x1, x6, k0, k1 => P_s_OutsOk_9_0 x0 x1 x6 (fun x0 x1 x6 => (Q_s_OutsOk_9_0 m x0 x1 x6 k0 k1)) k0 k1
noncomputable def R_s_OutsOk_9_0 (x0 : List T_Commit) (x1 : List T_Out) (x6 : Int) (k0 : Bool → Option Ret) (k1 : Option Ret) : Option Ret := Q_s_OutsOk_9_0 (List.length x0 + List.length x1 + x6.toNat + 2) x0 x1 x6 k0 k1
noncomputable def W_s_OutsOk_9 : LoopFn := (fun (σ : St) (K : Ex → St → Option Ret) => (match sh_s_OutsOk_9_0.un σ with | some d => w_s_OutsOk_9_0 d (fun x0 x1 x6 => R_s_OutsOk_9_0 x0 x1 x6 (fun x4 => (K .ret (z_s_OutsOk_9_0 x4))) (K (.ext 2) z_s_OutsOk_9_1)) | none => none))
noncomputable abbrev E_s_OutsOk : Env := En [(N.s_EventOk, true, S_s_EventOk), (N.s_ReplyOk, true, S_s_ReplyOk), (N.s_l12Frame, true, S_s_l12Frame), (N.s_ReqOk, true, S_s_ReqOk)] [(12, takeB [0, 1, 2, 3, 4, 5, 6, 7, 8, 9, 10, 11, 12, 13, 14, 15, 16, 17, 18, 19, 20, 21, 22, 23, 24, 25, 26, 27] (.fork (.one 28 (takes [29, 30]))), [])] [(4, [0,1,5], [0,1,4], W_s_OutsOk_4), (9, [0,1,6], [4], W_s_OutsOk_9)] [] false 0 []
theorem st_s_OutsOk_4_0 (m : Nat) (x0 : List T_Commit) (x1 : List T_Out) (x5 : Int) (K : Ex → St → Option Ret) : rounds (run E_s_OutsOk (bodyOf F.s_OutsOk 4)) [0,1,5] [0,1,4] (m + 1) (s_s_OutsOk_4_0 x0 x1 x5) K = P_s_OutsOk_4_0 x0 x1 x5 (fun x0 x1 x5 => (rounds (run E_s_OutsOk (bodyOf F.s_OutsOk 4)) [0,1,5] [0,1,4] m (s_s_OutsOk_4_0 x0 x1 x5) K)) (fun x0 x1 x4 => (K .ret (z_s_OutsOk_4_0 x0 x1 x4))) (fun x0 x1 => (K (.ext 0) (z_s_OutsOk_4_1 x0 x1))) := by kernel_rfl
theorem q_s_OutsOk_4 (K : Ex → St → Option Ret) : ∀ m : Nat, (∀ (x0 : List T_Commit) (x1 : List T_Out) (x5 : Int), rounds (run E_s_OutsOk (bodyOf F.s_OutsOk 4)) [0,1,5] [0,1,4] m (s_s_OutsOk_4_0 x0 x1 x5) K = Q_s_OutsOk_4_0 m x0 x1 x5 (fun x0 x1 x4 => (K .ret (z_s_OutsOk_4_0 x0 x1 x4))) (fun x0 x1 => (K (.ext 0) (z_s_OutsOk_4_1 x0 x1))))
  | 0 => (fun _ _ _ => rfl)
  | m + 1 => (fun x0 x1 x5 => (by rw [st_s_OutsOk_4_0, show (fun x0 x1 x5 => (rounds (run E_s_OutsOk (bodyOf F.s_OutsOk 4)) [0,1,5] [0,1,4] m (s_s_OutsOk_4_0 x0 x1 x5) K)) = (fun x0 x1 x5 => (Q_s_OutsOk_4_0 m x0 x1 x5 (fun x0 x1 x4 => (K .ret (z_s_OutsOk_4_0 x0 x1 x4))) (fun x0 x1 => (K (.ext 0) (z_s_OutsOk_4_1 x0 x1))))) from funext fun x0 => funext fun x1 => funext fun x5 => (q_s_OutsOk_4 K m) x0 x1 x5]; rfl))
theorem loopK_s_OutsOk_4 : LoopOk E_s_OutsOk (bodyOf F.s_OutsOk 4) := by
  refine loopW_ok (n := 4) (F := W_s_OutsOk_4) (by kernel_rfl) rfl (li := [0,1,5]) (lo := [0,1,4]) rfl (fun σ K r hr => ?_)
  unfold W_s_OutsOk_4 at hr
  split at hr
  · rename_i d hd
    rw [Ss.un_mk hd]
    exact ⟨_, ((congrArg (fun z => rounds (run E_s_OutsOk (bodyOf F.s_OutsOk 4)) [0,1,5] [0,1,4] _ z K) (se_s_OutsOk_4_0 _ _ _)).trans ((q_s_OutsOk_4 K _) _ _ _)).trans hr⟩
  · cases hr
theorem st_s_OutsOk_9_0 (m : Nat) (x0 : List T_Commit) (x1 : List T_Out) (x6 : Int) (K : Ex → St → Option Ret) : rounds (run E_s_OutsOk (bodyOf F.s_OutsOk 9)) [0,1,6] [4] (m + 1) (s_s_OutsOk_9_0 x0 x1 x6) K = P_s_OutsOk_9_0 x0 x1 x6 (fun x0 x1 x6 => (rounds (run E_s_OutsOk (bodyOf F.s_OutsOk 9)) [0,1,6] [4] m (s_s_OutsOk_9_0 x0 x1 x6) K)) (fun x4 => (K .ret (z_s_OutsOk_9_0 x4))) (K (.ext 2) z_s_OutsOk_9_1) := by kernel_rfl
theorem q_s_OutsOk_9 (K : Ex → St → Option Ret) : ∀ m : Nat, (∀ (x0 : List T_Commit) (x1 : List T_Out) (x6 : Int), rounds (run E_s_OutsOk (bodyOf F.s_OutsOk 9)) [0,1,6] [4] m (s_s_OutsOk_9_0 x0 x1 x6) K = Q_s_OutsOk_9_0 m x0 x1 x6 (fun x4 => (K .ret (z_s_OutsOk_9_0 x4))) (K (.ext 2) z_s_OutsOk_9_1))
  | 0 => (fun _ _ _ => rfl)
  | m + 1 => (fun x0 x1 x6 => (by rw [st_s_OutsOk_9_0, show (fun x0 x1 x6 => (rounds (run E_s_OutsOk (bodyOf F.s_OutsOk 9)) [0,1,6] [4] m (s_s_OutsOk_9_0 x0 x1 x6) K)) = (fun x0 x1 x6 => (Q_s_OutsOk_9_0 m x0 x1 x6 (fun x4 => (K .ret (z_s_OutsOk_9_0 x4))) (K (.ext 2) z_s_OutsOk_9_1))) from funext fun x0 => funext fun x1 => funext fun x6 => (q_s_OutsOk_9 K m) x0 x1 x6]; rfl))
theorem loopK_s_OutsOk_9 : LoopOk E_s_OutsOk (bodyOf F.s_OutsOk 9) := by
  refine loopW_ok (n := 9) (F := W_s_OutsOk_9) (by kernel_rfl) rfl (li := [0,1,6]) (lo := [4]) rfl (fun σ K r hr => ?_)
  unfold W_s_OutsOk_9 at hr
  split at hr
  · rename_i d hd
    rw [Ss.un_mk hd]
    exact ⟨_, ((congrArg (fun z => rounds (run E_s_OutsOk (bodyOf F.s_OutsOk 9)) [0,1,6] [4] _ z K) (se_s_OutsOk_9_0 _ _ _)).trans ((q_s_OutsOk_9 K _) _ _ _)).trans hr⟩
  · cases hr
noncomputable def T_s_OutsOk (l : List T_Event) (t : List T_Out) (K : Ret → Option Ret) : Option Ret :=
 (bif (decide ((((List.length l) : Nat) : Int) > (300 : Int))) then
 K ((.s (.bool false)), [])
 else (bif (decide ((((List.length t) : Nat) : Int) > (((List.length l) : Nat) : Int))) then
  K ((.s (.bool false)), [])
  else (R_s_OutsOk_4_0 l t (0 : Int) (fun y0 y1 y2 =>
   K ((.s (.bool y2)), [])) (fun y3 y4 =>
   (R_s_OutsOk_9_0 y3 y4 (0 : Int) (fun y5 =>
    K ((.s (.bool y5)), [])) (K ((.s (.bool true)), [])))))))
theorem e_s_OutsOk (l : List T_Event) (t : List T_Out) (K : Ret → Option Ret) : evF E_s_OutsOk true F.s_OutsOk [.l .no eventR l, .l .no outR t] K = T_s_OutsOk l t K := by kernel_rfl
def S_s_OutsOk : Sm := S_fnR [.l eventR, .l outR] (fun d => fitC (.sl eventR) d.1 && fitC (.sl outR) d.2.1) (fun d => (bl (outsOkD d.1 d.2.1), []))
theorem v_s_OutsOk (l : List T_Event) (t : List T_Out) (h : (fitC (.sl eventR) l && fitC (.sl outR) t) = true) (K : Ret → Option Ret) : T_s_OutsOk l t K = K (bl (outsOkD l t), []) := by
  obtain ⟨h1, h2⟩ := (Bool.and_eq_true _ _).mp h
  have l1 := fitC_len h1
  have l2 := fitC_len h2
  unfold T_s_OutsOk outsOkD eventsOkD
  by_cases h3 : ((l.length : Nat) : Int) ≤ 300
  case neg => rw [decide_eq_false h3, decide_eq_true (show ((l.length : Nat) : Int) > 300 by omega)]; rfl
  by_cases hn : ((t.length : Nat) : Int) ≤ ((l.length : Nat) : Int)
  case neg =>
    rw [decide_eq_true h3, decide_eq_false (show ¬ ((l.length : Nat) : Int) > 300 by omega), decide_eq_false hn, decide_eq_true (show ((t.length : Nat) : Int) > ((l.length : Nat) : Int) by omega)]
    cases l.all eventOkD <;> rfl
  rw [decide_eq_true h3, decide_eq_false (show ¬ ((l.length : Nat) : Int) > 300 by omega), decide_eq_true hn, decide_eq_false (show ¬ ((t.length : Nat) : Int) > ((l.length : Nat) : Int) by omega)]
  have q4 : ∀ (k0 : (List T_Commit) → (List T_Out) → Bool → Option Ret) (k1 : (List T_Commit) → (List T_Out) → Option Ret), R_s_OutsOk_4_0 l t 0 k0 k1 = bif l.all eventOkD then k1 l t else k0 l t false := by
    intro k0 k1
    have q := idx_all (R := fun m i => Q_s_OutsOk_4_0 m l t i k0 k1) (p := eventOkD) (xs := l) (z := zeroEv) (kt := k1 l t) (kf := k0 l t false) (fun m i hi => by
      show P_s_OutsOk_4_0 l t ((i : Nat) : Int) _ _ _ = _
      unfold P_s_OutsOk_4_0
      rw [decide_eq_true (show ((i : Nat) : Int) < ((l.length : Nat) : Int) by omega), decide_eq_true (show (0 : Int) ≤ ((i : Nat) : Int) by omega), Int.toNat_natCast, wrap_nat (by omega), show l.getD i commitR.dflt = l.getD i zeroEv from rfl]
      cases eventOkD (l.getD i zeroEv) <;> rfl) (fun m => by
      show P_s_OutsOk_4_0 l t ((l.length : Nat) : Int) _ _ _ = _
      unfold P_s_OutsOk_4_0
      rw [decide_eq_false (show ¬ ((l.length : Nat) : Int) < ((l.length : Nat) : Int) by omega)]; rfl) (List.length l + List.length t + (0 : Int).toNat + 2) 0 (by omega) (by omega)
    refine Eq.trans q ?_
    rw [List.drop_zero]
  have q9 : ∀ (k0 : Bool → Option Ret) (k1 : Option Ret), R_s_OutsOk_9_0 l t 0 k0 k1 = bif allN t.length (toldOkD l t zeroEv zeroOut) then k1 else k0 false := by
    intro k0 k1
    have q := idx_allN (R := fun m i => Q_s_OutsOk_9_0 m l t i k0 k1) (p := toldOkD l t zeroEv zeroOut) (n := t.length) (kt := k1) (kf := k0 false) (fun m i hi => by
      show P_s_OutsOk_9_0 l t ((i : Nat) : Int) _ _ _ = _
      unfold P_s_OutsOk_9_0 toldOkD
      have f2 : fitB (t.getD i zeroOut).2.2.2.2.2.2.2.1 = true ∧ fitB (t.getD i zeroOut).2.2.2.2.2.2.2.2.2.2.2.2 = true := fit_out (fitC_getD h2 rfl i)
      have f1 : fitB (l.getD (t.getD i zeroOut).1.toNat zeroEv).2.2.2 = true := fit_ev (fitC_getD h1 rfl _)
      have eo : t.getD i outR.dflt = t.getD i zeroOut := rfl
      rw [decide_eq_true (show ((i : Nat) : Int) < ((t.length : Nat) : Int) by omega), decide_eq_true (show (0 : Int) ≤ ((i : Nat) : Int) by omega), Int.toNat_natCast, wrap_nat (by omega), eo]
      generalize t.getD i zeroOut = o at *
      rw [show (List.getD l o.1.toNat commitR.dflt) = List.getD l o.1.toNat zeroEv from rfl]
      generalize List.getD l o.1.toNat zeroEv = e at *
      rw [f1, f2.1, f2.2]
      by_cases a1 : 0 ≤ o.1
      case neg => rw [decide_eq_false a1, decide_eq_true (show o.1 < 0 by omega)]; rfl
      by_cases a2 : o.1 < ((l.length : Nat) : Int)
      case neg => rw [decide_eq_true a1, decide_eq_false a2, decide_eq_false (show ¬ o.1 < 0 by omega), decide_eq_true (show o.1 ≥ ((l.length : Nat) : Int) by omega)]; rfl
      rw [decide_eq_true a1, decide_eq_true a2, decide_eq_false (show ¬ o.1 < 0 by omega), decide_eq_false (show ¬ o.1 ≥ ((l.length : Nat) : Int) by omega)]
      have key : ∀ (nx : Option Ret), (bif true && true then (bif (e.1 == (1 : Int)) then (bif true && true then (bif (e.1 == (2 : Int)) then (bif (o.2.1 == e.2.1) then (bif true then (bif reqOkD (outReq o) then (bif !(frameOkD e.2.2.2 o) then (bif !(o.2.2.2.1 == o.2.1) then k0 false else nx) else nx) else (bif !(frameOkD e.2.2.2 o) then k0 false else nx)) else none) else (bif !(frameOkD e.2.2.2 o) then k0 false else nx)) else (bif !(frameOkD e.2.2.2 o) then k0 false else nx)) else none) else (bif (e.1 == (2 : Int)) then (bif (o.2.1 == e.2.1) then (bif true then (bif reqOkD (outReq o) then (bif !(o.2.2.2.1 == o.2.1) then k0 false else nx) else k0 false) else none) else k0 false) else k0 false)) else none) =
          bif (bif e.1 == 2 then (o.2.1 == e.2.1) && reqOkD (outReq o) && ((outReq o).2.1 == e.2.1) else bif e.1 == 1 then frameOkD e.2.2.2 o else false) then nx else k0 false := by
        intro nx
        by_cases e1 : e.1 = 1
        · rw [e1]
          show (bif true && true then (bif true then (bif true && true then (bif false then _ else (bif !(frameOkD e.2.2.2 o) then k0 false else nx)) else none) else _) else none) = (bif (bif false then _ else bif true then frameOkD e.2.2.2 o else false) then nx else k0 false)
          cases frameOkD e.2.2.2 o <;> rfl
        · rw [show (e.1 == 1) = false from beq_false_of_ne e1]
          cases (e.1 == 2)
          · rfl
          · by_cases es : o.2.1 = e.2.1
            · rw [es, beq_self_eq_true, show (outReq o).2.1 = o.2.2.2.1 from rfl]
              cases reqOkD (outReq o) <;> cases (o.2.2.2.1 == e.2.1) <;> rfl
            · rw [beq_false_of_ne es]; rfl
      unfold outOkD
      cases i with
      | zero =>
        rw [decide_eq_false (show ¬ ((0 : Nat) : Int) > 0 by omega)]
        show (bif true then (bif !(replyOkD (outRep o)) then k0 false else _) else none) = _
        cases replyOkD (outRep o) with
        | false => rfl
        | true => exact key _
      | succ i =>
        rw [wrap_in (n := ((i + 1 : Nat) : Int) - 1) (by omega) (by omega), decide_eq_true (show ((i + 1 : Nat) : Int) > 0 by omega), show ((i + 1 : Nat) : Int) - 1 = ((i : Nat) : Int) by omega, decide_eq_true (show (0 : Int) ≤ ((i : Nat) : Int) by omega), decide_eq_true (show ((i : Nat) : Int) < ((t.length : Nat) : Int) by omega), Int.toNat_natCast, show i + 1 - 1 = i from rfl]
        by_cases a3 : (t.getD i zeroOut).1 < o.1
        · rw [decide_eq_true a3, decide_eq_false (show ¬ (t.getD i outR.dflt).1 ≥ o.1 from Int.not_le.2 a3)]
          show (bif true && true then (bif false then k0 false else (bif true then (bif !(replyOkD (outRep o)) then k0 false else _) else none)) else none) = _
          cases replyOkD (outRep o) with
          | false => rfl
          | true => exact key _
        · rw [decide_eq_false a3, decide_eq_true (show (t.getD i outR.dflt).1 ≥ o.1 from Int.not_lt.1 a3)]; rfl) (fun m => by
      show P_s_OutsOk_9_0 l t ((t.length : Nat) : Int) _ _ _ = _
      unfold P_s_OutsOk_9_0
      rw [decide_eq_false (show ¬ ((t.length : Nat) : Int) < ((t.length : Nat) : Int) by omega)]; rfl) (List.length l + List.length t + (0 : Int).toNat + 2) 0 (by omega) (by omega)
    refine Eq.trans q ?_
    rw [Nat.sub_zero]; rfl
  rw [cond_false, cond_false, q4]
  cases l.all eventOkD with
  | false => rfl
  | true =>
    show R_s_OutsOk_9_0 l t 0 _ _ = _
    rw [q9]
    cases allN t.length (toldOkD l t zeroEv zeroOut) <;> rfl
theorem okS_s_OutsOk : OkFn prog I N.s_OutsOk true S_s_OutsOk := okN (ok_fn (memc okS_s_EventOk (memc okS_s_ReplyOk (memc okS_s_l12Frame (memc okS_s_ReqOk mem0)))) (l := [(N.s_EventOk, true, S_s_EventOk), (N.s_ReplyOk, true, S_s_ReplyOk), (N.s_l12Frame, true, S_s_l12Frame), (N.s_ReqOk, true, S_s_ReqOk)]) (p := [(12, takeB [0, 1, 2, 3, 4, 5, 6, 7, 8, 9, 10, 11, 12, 13, 14, 15, 16, 17, 18, 19, 20, 21, 22, 23, 24, 25, 26, 27] (.fork (.one 28 (takes [29, 30]))), [])]) (ls := [(4, [0,1,5], [0,1,4], W_s_OutsOk_4), (9, [0,1,6], [4], W_s_OutsOk_9)]) (lend := []) (focus := false) (fuel := 0) (give := []) (fn := F.s_OutsOk) (by kernel_rfl) (by kernel_rfl) (by kernel_rfl) (by kernel_rfl) (cs := [bodyOf F.s_OutsOk 4, bodyOf F.s_OutsOk 9]) (by kernel_rfl) (loopsc loopK_s_OutsOk_4 (loopsc loopK_s_OutsOk_9 loops0))) (S_fnR_of fun d K h => (e_s_OutsOk d.1 d.2.1 K).trans (v_s_OutsOk d.1 d.2.1 h K))
end Go.Ev.Seat
end
section
/- How often a session was picked while its last request was pending. -/
set_option linter.unusedVariables false
namespace Go.Ev
open Go.RowKit
def frameAt (s : Int) (e : P4) : Bool := (e.1 == 1) && (reqParseD e.2.2.2).2 && ((reqParseD e.2.2.2).1.2.1 == s)
def lastL (s : Int) : List P4 → Nat → Int → Int
  | [], _, a => a
  | e :: es, i, a => lastL s es (i + 1) (bif frameAt s e then ((i : Nat) : Int) else a)
def lastD (l : List P4) (s : Int) : Int := lastL s l 0 (-1)
def pickD (s : Int) (e : P4) : Bool := (e.1 == 2) && (e.2.1 == s)
def seekD (s a : Int) (o : P13) : Bool := (o.2.1 == s) && decide (o.1 > a)
def endD (t : List P13) (s a : Int) (n : Nat) : Int := match t.find? (seekD s a) with
  | some o => o.1
  | none => ((n : Nat) : Int) - 1
def waitsD (l : List P4) (t : List P13) (s : Int) : Int := bif outsOkD l t then
  (bif decide (lastD l s < 0) then -1 else ((((l.take (endD t s (lastD l s) l.length + 1).toNat).drop (lastD l s).toNat).countP (pickD s) : Nat) : Int)) else -1
def anyAt (t : List P13) (s i : Int) : Bool := t.any (fun o => (o.1 == i) && (o.2.1 == s))
def spL (t : List P13) (s : Int) : List P4 → Nat → Nat → Nat
  | [], _, n => n
  | e :: es, i, n => bif anyAt t s ((i : Nat) : Int) then n + (bif pickD s e then 1 else 0) else spL t s es (i + 1) (n + (bif pickD s e then 1 else 0))
theorem lastL_range (s : Int) : ∀ (l : List P4) (i : Nat) (a : Int), -1 ≤ a → a < ((i : Nat) : Int) → -1 ≤ lastL s l i a ∧ lastL s l i a < ((i + l.length : Nat) : Int)
  | [], i, a, h1, h2 => ⟨h1, by simpa [lastL] using h2⟩
  | e :: es, i, a, h1, h2 => by
    simp only [lastL]
    have := lastL_range s es (i + 1) (bif frameAt s e then ((i : Nat) : Int) else a) (by cases frameAt s e <;> simp <;> omega) (by cases frameAt s e <;> simp <;> omega)
    refine ⟨this.1, ?_⟩
    rw [List.length_cons]
    have h3 := this.2
    rw [show i + 1 + es.length = i + (es.length + 1) by omega] at h3
    exact h3
theorem lastL_frame (s : Int) (L : List P4) (z : P4) : ∀ (l : List P4) (i : Nat) (a : Int), L.drop i = l → (0 ≤ a → frameAt s (L.getD a.toNat z) = true) → 0 ≤ lastL s l i a → frameAt s (L.getD (lastL s l i a).toNat z) = true
  | [], i, a, h, h1, h2 => h1 h2
  | e :: es, i, a, h, h1, h2 => by
    simp only [lastL] at h2 ⊢
    have hlt : i < L.length := by
      rcases Nat.lt_or_ge i L.length with q | q
      · exact q
      · rw [List.drop_eq_nil_of_le q] at h; cases h
    have hd := List.drop_eq_getElem_cons hlt
    rw [h] at hd
    injection hd with hd1 hd2
    refine lastL_frame s L z es (i + 1) _ hd2.symm (fun h0 => ?_) h2
    cases hf : frameAt s e with
    | false => rw [hf] at h0; exact h1 h0
    | true =>
      show frameAt s (L.getD i z) = true
      rw [getD_lt z hlt, ← hd1]; exact hf
theorem lastD_range (l : List P4) (s : Int) : -1 ≤ lastD l s ∧ lastD l s < ((l.length : Nat) : Int) := by
  have := lastL_range s l 0 (-1) (by omega) (by omega)
  rw [Nat.zero_add] at this; exact this
theorem lastD_frame (l : List P4) (s : Int) (z : P4) (h : 0 ≤ lastD l s) : frameAt s (l.getD (lastD l s).toNat z) = true :=
  lastL_frame s l z l 0 (-1) List.drop_zero (fun h => absurd h (by omega)) h
theorem told_sorted {l : List P4} {t : List P13} {z : P4} {y : P13} (h : allN t.length (toldOkD l t z y) = true) : t.Pairwise (fun o p => o.1 < p.1) := by
  rw [List.pairwise_iff_getElem]
  have h1 := allN_iff.1 h
  have key : ∀ (d i : Nat) (hj : i + d + 1 < t.length), (t.getD i y).1 < (t.getD (i + d + 1) y).1 := by
    intro d
    induction d with
    | zero =>
      intro i hj
      have := h1 (i + 1) (by omega)
      unfold toldOkD at this
      simp only [Bool.and_eq_true, Bool.or_eq_true, decide_eq_true_eq] at this
      rcases this.1.2 with q | q
      · exact absurd (Nat.eq_of_beq_eq_true q) (by omega)
      · exact q
    | succ d ih =>
      intro i hj
      have a := ih i (by omega)
      have := h1 (i + (d + 1) + 1) (by omega)
      unfold toldOkD at this
      simp only [Bool.and_eq_true, Bool.or_eq_true, decide_eq_true_eq] at this
      rcases this.1.2 with q | q
      · exact absurd (Nat.eq_of_beq_eq_true q) (by omega)
      · exact Int.lt_trans a q
  intro i j hi hj hij
  have := key (j - i - 1) i (by omega)
  rw [show i + (j - i - 1) + 1 = j by omega, getD_lt y hi, getD_lt y hj] at this
  exact this
theorem told_in {l : List P4} {t : List P13} {z : P4} {y : P13} (h : allN t.length (toldOkD l t z y) = true) : ∀ o ∈ t, 0 ≤ o.1 ∧ o.1 < ((l.length : Nat) : Int) := by
  intro o ho
  obtain ⟨i, hi, rfl⟩ := List.getElem_of_mem ho
  have := allN_iff.1 h i hi
  unfold toldOkD at this
  simp only [Bool.and_eq_true, decide_eq_true_eq] at this
  rw [getD_lt y hi] at this
  exact ⟨this.1.1.1, this.1.1.2⟩
theorem find_first {s a : Int} : ∀ {t : List P13} {o : P13}, t.Pairwise (fun o p => o.1 < p.1) → t.find? (seekD s a) = some o → o ∈ t ∧ seekD s a o = true ∧ ∀ p ∈ t, seekD s a p = true → o.1 ≤ p.1
  | [], _, _, h => by simp at h
  | x :: t, o, hp, h => by
    rw [List.find?_cons] at h
    cases hx : seekD s a x with
    | true =>
      rw [hx] at h
      cases h
      refine ⟨List.mem_cons_self, hx, fun p hm _ => ?_⟩
      rcases List.mem_cons.1 hm with rfl | hm
      · exact Int.le_refl _
      · exact Int.le_of_lt (List.rel_of_pairwise_cons hp hm)
    | false =>
      rw [hx] at h
      obtain ⟨a1, a2, a3⟩ := find_first (List.Pairwise.of_cons hp) h
      refine ⟨List.mem_cons_of_mem _ a1, a2, fun p hm hs => ?_⟩
      rcases List.mem_cons.1 hm with rfl | hm
      · rw [hx] at hs; cases hs
      · exact a3 p hm hs
theorem seek_iff {s a : Int} {o : P13} : seekD s a o = true ↔ o.2.1 = s ∧ a < o.1 := by
  unfold seekD
  simp only [Bool.and_eq_true, beq_iff_eq, decide_eq_true_eq, gt_iff_lt]
theorem sp_eq {l : List P4} {t : List P13} {s a : Int} {c : Nat} (hc : c ≤ l.length)
    (F : (c = l.length ∧ ∀ o ∈ t, seekD s a o = false) ∨ ∃ o ∈ t, seekD s a o = true ∧ ((c : Nat) : Int) = o.1 + 1 ∧ ∀ p ∈ t, seekD s a p = true → o.1 ≤ p.1) :
    ∀ (k i n : Nat), l.length - i = k → i ≤ l.length → a < ((i : Nat) : Int) → (i < c ∨ i = l.length ∧ c = l.length) → spL t s (l.drop i) i n = n + ((l.take c).drop i).countP (pickD s) := by
  intro k
  induction k with
  | zero =>
    intro i n hk hi ha hic
    have : i = l.length := by omega
    subst this
    rw [List.drop_length, List.drop_eq_nil_of_le (by rw [List.length_take]; omega)]; rfl
  | succ k ih =>
    intro i n hk hi ha hic
    have hlt : i < l.length := by omega
    have hi' : i < c := by omega
    have hct : i < (l.take c).length := by rw [List.length_take]; omega
    rw [List.drop_eq_getElem_cons hlt, List.drop_eq_getElem_cons hct, List.countP_cons]
    have he : (l.take c)[i] = l[i] := List.getElem_take
    rw [he]
    simp only [spL]
    have hpk : (if pickD s l[i] = true then 1 else 0) = (bif pickD s l[i] then 1 else 0) := by cases pickD s l[i] <;> rfl
    rw [hpk]
    cases hany : anyAt t s ((i : Nat) : Int) with
    | true =>
      obtain ⟨p, hp, hq⟩ := List.any_eq_true.1 hany
      simp only [Bool.and_eq_true, beq_iff_eq] at hq
      rcases F with ⟨_, h2⟩ | ⟨o, ho, h1, h2, h3⟩
      · have := h2 p hp
        rw [seek_iff.2 ⟨hq.2, by omega⟩] at this; cases this
      · have := h3 p hp (seek_iff.2 ⟨hq.2, by omega⟩)
        have hci : c = i + 1 := by omega
        rw [cond_true, hci, List.drop_eq_nil_of_le (by rw [List.length_take]; omega)]
        simp
    | false =>
      rw [cond_false, ih (i + 1) _ (by omega) (by omega) (by omega) ?_]
      · omega
      · rcases F with ⟨h1, _⟩ | ⟨o, ho, h1, h2, h3⟩
        · omega
        · left
          have hne : o.1 ≠ ((i : Nat) : Int) := fun e => by
            have : anyAt t s ((i : Nat) : Int) = true := List.any_eq_true.2 ⟨o, ho, by simp [e, (seek_iff.1 h1).1]⟩
            rw [hany] at this; cases this
          omega
theorem waits_sp {l : List P4} {t : List P13} {z : P4} {y : P13} (s : Int) (h : allN t.length (toldOkD l t z y) = true) (h0 : 0 ≤ lastD l s) :
    spL t s (l.drop ((lastD l s).toNat + 1)) ((lastD l s).toNat + 1) 0 = ((l.take (endD t s (lastD l s) l.length + 1).toNat).drop (lastD l s).toNat).countP (pickD s) := by
  have hr := lastD_range l s
  have hs := told_sorted h
  have hin := told_in h
  generalize hc : (endD t s (lastD l s) l.length + 1).toNat = c
  have hF : c ≤ l.length ∧ (lastD l s).toNat < c ∧ ((c = l.length ∧ ∀ o ∈ t, seekD s (lastD l s) o = false) ∨ ∃ o ∈ t, seekD s (lastD l s) o = true ∧ ((c : Nat) : Int) = o.1 + 1 ∧ ∀ p ∈ t, seekD s (lastD l s) p = true → o.1 ≤ p.1) := by
    unfold endD at hc
    cases hf : t.find? (seekD s (lastD l s)) with
    | none =>
      rw [hf] at hc
      have hc' : (((l.length : Nat) : Int) - 1 + 1).toNat = c := hc
      refine ⟨by omega, by omega, .inl ⟨by omega, fun o ho => ?_⟩⟩
      rw [List.find?_eq_none] at hf
      have := hf o ho
      simpa using this
    | some o =>
      rw [hf] at hc
      have hc' : (o.1 + 1).toNat = c := hc
      obtain ⟨a1, a2, a3⟩ := find_first hs hf
      have := hin o a1
      have := (seek_iff.1 a2).2
      exact ⟨by omega, by omega, .inr ⟨o, a1, a2, by omega, a3⟩⟩
  obtain ⟨h1, h2, h3⟩ := hF
  have hlt : (lastD l s).toNat < l.length := by omega
  have hct : (lastD l s).toNat < (l.take c).length := by rw [List.length_take]; omega
  have hfr := lastD_frame l s z h0
  rw [getD_lt z hlt] at hfr
  have hnp : pickD s l[(lastD l s).toNat] = false := by
    unfold frameAt at hfr
    unfold pickD
    simp only [Bool.and_eq_true, beq_iff_eq] at hfr
    rw [hfr.1.1]; rfl
  have e := sp_eq h1 h3 (l.length - ((lastD l s).toNat + 1)) ((lastD l s).toNat + 1) 0 rfl (by omega) (by omega) (by
    rcases h3 with ⟨q, _⟩ | ⟨o, ho, q1, q2, _⟩
    · omega
    · have := (seek_iff.1 q1).2; omega)
  rw [e, List.drop_eq_getElem_cons hct, List.countP_cons, show (l.take c)[(lastD l s).toNat] = l[(lastD l s).toNat] from List.getElem_take, hnp]
  simp
end Go.Ev
end
section
/- s_Waits: its contract. -/
namespace Go.Ev.Seat
open Go.RowKit
set_option maxRecDepth 100000
set_option linter.unusedVariables false
set_option linter.unusedSimpArgs false
def z_s_Waits_5_0 (x0 : List T_Commit) (x1 : List T_Out) (x2 : Int) (x7 : Int) : St := { tm := ([(.l .no commitR x0), (.l .no outR x1), (.s (.int .i64 x2)), .x, .x, .x, .x, (.s (.int .i64 x7))] ++ List.replicate 92 .x), ob := [], nx := 0, io := [] }
def sh_s_Waits_5_0 : Ss := { tm := (.cons (.l .no commitR) (.cons (.l .no outR) (.cons (.int .i64) (.cons (.x) (.cons (.x) (.cons (.x) (.cons (.x) (.cons (.int .i64) (.cons (.int .i64) (xsh 91)))))))))), ob := .nil, nx := 0, io := .nil }
def d_s_Waits_5_0 (x0 : List T_Commit) (x1 : List T_Out) (x2 : Int) (x7 : Int) (x8 : Int) : sh_s_Waits_5_0.T := ((x0, (x1, (x2, ((), ((), ((), ((), (x7, (x8, xd 91))))))))), (), ())
def s_s_Waits_5_0 (x0 : List T_Commit) (x1 : List T_Out) (x2 : Int) (x7 : Int) (x8 : Int) : St := { tm := ([(.l .no commitR x0), (.l .no outR x1), (.s (.int .i64 x2)), .x, .x, .x, .x, (.s (.int .i64 x7)), (.s (.int .i64 x8))] ++ List.replicate 91 .x), ob := [], nx := 0, io := [] }
theorem se_s_Waits_5_0 (x0 : List T_Commit) (x1 : List T_Out) (x2 : Int) (x7 : Int) (x8 : Int) : sh_s_Waits_5_0.mk' (d_s_Waits_5_0 x0 x1 x2 x7 x8) = (s_s_Waits_5_0 x0 x1 x2 x7 x8) := by kernel_rfl
def w_s_Waits_5_0 (d : sh_s_Waits_5_0.T) (f : (List T_Commit) → (List T_Out) → Int → Int → Int → Option Ret) : Option Ret := match d with | ((x0, (x1, (x2, (_, (_, (_, (_, (x7, (x8, _))))))))), _, _) => f x0 x1 x2 x7 x8
noncomputable def P_s_Waits_5_0 (x0 : List T_Commit) (x1 : List T_Out) (x2 : Int) (x7 : Int) (x8 : Int) (nx0 : (List T_Commit) → (List T_Out) → Int → Int → Int → Option Ret) (k0 : (List T_Commit) → (List T_Out) → Int → Int → Option Ret) : Option Ret :=
 (bif (decide (x8 < (((List.length x0) : Nat) : Int))) then
 (bif ((decide ((0 : Int) ≤ x8)) && (decide (x8 < (((List.length x0) : Nat) : Int)))) then
  (bif (fitB (List.getD x0 (Int.toNat x8) (commitR.dflt)).2.2.2) then
   (bif ((decide ((0 : Int) ≤ x8)) && (decide (x8 < (((List.length x0) : Nat) : Int)))) then
    (bif ((List.getD x0 (Int.toNat x8) (commitR.dflt)).1 == (1 : Int)) then
     (bif (reqParseD (List.getD x0 (Int.toNat x8) (commitR.dflt)).2.2.2).2 then
      (bif ((reqParseD (List.getD x0 (Int.toNat x8) (commitR.dflt)).2.2.2).1.2.1 == x2) then
       (nx0 x0 x1 x2 x8 (IntKind.wrap .i64 (x8 + (1 : Int))))
       else (nx0 x0 x1 x2 x7 (IntKind.wrap .i64 (x8 + (1 : Int)))))
      else (nx0 x0 x1 x2 x7 (IntKind.wrap .i64 (x8 + (1 : Int)))))
     else (nx0 x0 x1 x2 x7 (IntKind.wrap .i64 (x8 + (1 : Int)))))
    else none)
   else none)
  else none)
 else (k0 x0 x1 x2 x7))
noncomputable def Q_s_Waits_5_0 : Nat → (List T_Commit) → (List T_Out) → Int → Int → Int → ((List T_Commit) → (List T_Out) → Int → Int → Option Ret) → Option Ret
  | 0, _, _, _, _, _, _ => none
  | m + 1, x0, x1, x2, x7, x8, k0 => P_s_Waits_5_0 x0 x1 x2 x7 x8 (fun x0 x1 x2 x7 x8 => (Q_s_Waits_5_0 m x0 x1 x2 x7 x8 k0)) k0
noncomputable def R_s_Waits_5_0 (x0 : List T_Commit) (x1 : List T_Out) (x2 : Int) (x7 : Int) (x8 : Int) (k0 : (List T_Commit) → (List T_Out) → Int → Int → Option Ret) : Option Ret := Q_s_Waits_5_0 (List.length x0 + List.length x1 + x2.toNat + x7.toNat + x8.toNat + 2) x0 x1 x2 x7 x8 k0
noncomputable def W_s_Waits_5 : LoopFn := (fun (σ : St) (K : Ex → St → Option Ret) => (match sh_s_Waits_5_0.un σ with | some d => w_s_Waits_5_0 d (fun x0 x1 x2 x7 x8 => R_s_Waits_5_0 x0 x1 x2 x7 x8 (fun x0 x1 x2 x7 => (K (.ext 0) (z_s_Waits_5_0 x0 x1 x2 x7)))) | none => none))
def z_s_Waits_19_0 (x0 : List T_Commit) (x1 : List T_Out) (x2 : Int) (x6 : Int) (x11 : Int) (x12 : Int) : St := { tm := ([(.l .no commitR x0), (.l .no outR x1), (.s (.int .i64 x2)), .x, .x, .x, (.s (.int .i64 x6)), .x, .x, .x, .x, (.s (.int .i64 x11)), (.s (.int .i64 x12))] ++ List.replicate 87 .x), ob := [], nx := 0, io := [] }
def z_s_Waits_19_1 (x0 : List T_Commit) (x1 : List T_Out) (x2 : Int) (x11 : Int) (x12 : Int) : St := { tm := ([(.l .no commitR x0), (.l .no outR x1), (.s (.int .i64 x2)), .x, .x, .x, .x, .x, .x, .x, .x, (.s (.int .i64 x11)), (.s (.int .i64 x12))] ++ List.replicate 87 .x), ob := [], nx := 0, io := [] }
def sh_s_Waits_19_0 : Ss := { tm := (.cons (.l .no commitR) (.cons (.l .no outR) (.cons (.int .i64) (.cons (.x) (.cons (.x) (.cons (.x) (.cons (.x) (.cons (.x) (.cons (.x) (.cons (.x) (.cons (.x) (.cons (.int .i64) (.cons (.int .i64) (.cons (.int .i64) (xsh 86))))))))))))))), ob := .nil, nx := 0, io := .nil }
def d_s_Waits_19_0 (x0 : List T_Commit) (x1 : List T_Out) (x2 : Int) (x11 : Int) (x12 : Int) (x13 : Int) : sh_s_Waits_19_0.T := ((x0, (x1, (x2, ((), ((), ((), ((), ((), ((), ((), ((), (x11, (x12, (x13, xd 86)))))))))))))), (), ())
def s_s_Waits_19_0 (x0 : List T_Commit) (x1 : List T_Out) (x2 : Int) (x11 : Int) (x12 : Int) (x13 : Int) : St := { tm := ([(.l .no commitR x0), (.l .no outR x1), (.s (.int .i64 x2)), .x, .x, .x, .x, .x, .x, .x, .x, (.s (.int .i64 x11)), (.s (.int .i64 x12)), (.s (.int .i64 x13))] ++ List.replicate 86 .x), ob := [], nx := 0, io := [] }
theorem se_s_Waits_19_0 (x0 : List T_Commit) (x1 : List T_Out) (x2 : Int) (x11 : Int) (x12 : Int) (x13 : Int) : sh_s_Waits_19_0.mk' (d_s_Waits_19_0 x0 x1 x2 x11 x12 x13) = (s_s_Waits_19_0 x0 x1 x2 x11 x12 x13) := by kernel_rfl
def w_s_Waits_19_0 (d : sh_s_Waits_19_0.T) (f : (List T_Commit) → (List T_Out) → Int → Int → Int → Int → Option Ret) : Option Ret := match d with | ((x0, (x1, (x2, (_, (_, (_, (_, (_, (_, (_, (_, (x11, (x12, (x13, _)))))))))))))), _, _) => f x0 x1 x2 x11 x12 x13
noncomputable def P_s_Waits_19_0 (x0 : List T_Commit) (x1 : List T_Out) (x2 : Int) (x11 : Int) (x12 : Int) (x13 : Int) (nx0 : (List T_Commit) → (List T_Out) → Int → Int → Int → Int → Option Ret) (k0 : (List T_Commit) → (List T_Out) → Int → Int → Int → Int → Option Ret) (k1 : (List T_Commit) → (List T_Out) → Int → Int → Int → Option Ret) : Option Ret :=
 (bif (decide (x13 < (((List.length x1) : Nat) : Int))) then
 (bif ((decide ((0 : Int) ≤ x13)) && (decide (x13 < (((List.length x1) : Nat) : Int)))) then
  (bif ((List.getD x1 (Int.toNat x13) (outR.dflt)).1 == x12) then
   (bif ((decide ((0 : Int) ≤ x13)) && (decide (x13 < (((List.length x1) : Nat) : Int)))) then
    (bif ((List.getD x1 (Int.toNat x13) (outR.dflt)).2.1 == x2) then
     (k0 x0 x1 x2 x11 x11 x12)
     else (nx0 x0 x1 x2 x11 x12 (IntKind.wrap .i64 (x13 + (1 : Int)))))
    else none)
   else (nx0 x0 x1 x2 x11 x12 (IntKind.wrap .i64 (x13 + (1 : Int)))))
  else none)
 else (k1 x0 x1 x2 x11 x12))
noncomputable def Q_s_Waits_19_0 : Nat → (List T_Commit) → (List T_Out) → Int → Int → Int → Int → ((List T_Commit) → (List T_Out) → Int → Int → Int → Int → Option Ret) → ((List T_Commit) → (List T_Out) → Int → Int → Int → Option Ret) → Option Ret
  | 0, _, _, _, _, _, _, _, _ => none
  | m + 1, x0, x1, x2, x11, x12, x13, k0, k1 => P_s_Waits_19_0 x0 x1 x2 x11 x12 x13 (fun x0 x1 x2 x11 x12 x13 => (Q_s_Waits_19_0 m x0 x1 x2 x11 x12 x13 k0 k1)) k0 k1
noncomputable def R_s_Waits_19_0 (x0 : List T_Commit) (x1 : List T_Out) (x2 : Int) (x11 : Int) (x12 : Int) (x13 : Int) (k0 : (List T_Commit) → (List T_Out) → Int → Int → Int → Int → Option Ret) (k1 : (List T_Commit) → (List T_Out) → Int → Int → Int → Option Ret) : Option Ret := Q_s_Waits_19_0 (List.length x0 + List.length x1 + x2.toNat + x11.toNat + x12.toNat + x13.toNat + 2) x0 x1 x2 x11 x12 x13 k0 k1
noncomputable def W_s_Waits_19 : LoopFn := (fun (σ : St) (K : Ex → St → Option Ret) => (match sh_s_Waits_19_0.un σ with | some d => w_s_Waits_19_0 d (fun x0 x1 x2 x11 x12 x13 => R_s_Waits_19_0 x0 x1 x2 x11 x12 x13 (fun x0 x1 x2 x6 x11 x12 => (K .ret (z_s_Waits_19_0 x0 x1 x2 x6 x11 x12))) (fun x0 x1 x2 x11 x12 => (K (.ext 4) (z_s_Waits_19_1 x0 x1 x2 x11 x12)))) | none => none))
def z_s_Waits_14_0 (x6 : Int) (x11 : Int) : St := { tm := ([.x, .x, .x, .x, .x, .x, (.s (.int .i64 x6)), .x, .x, .x, .x, (.s (.int .i64 x11))] ++ List.replicate 88 .x), ob := [], nx := 0, io := [] }
def z_s_Waits_14_1 (x11 : Int) : St := { tm := ([.x, .x, .x, .x, .x, .x, .x, .x, .x, .x, .x, (.s (.int .i64 x11))] ++ List.replicate 88 .x), ob := [], nx := 0, io := [] }
def sh_s_Waits_14_0 : Ss := { tm := (.cons (.l .no commitR) (.cons (.l .no outR) (.cons (.int .i64) (.cons (.x) (.cons (.x) (.cons (.x) (.cons (.x) (.cons (.x) (.cons (.x) (.cons (.x) (.cons (.x) (.cons (.int .i64) (.cons (.int .i64) (xsh 87)))))))))))))), ob := .nil, nx := 0, io := .nil }
def d_s_Waits_14_0 (x0 : List T_Commit) (x1 : List T_Out) (x2 : Int) (x11 : Int) (x12 : Int) : sh_s_Waits_14_0.T := ((x0, (x1, (x2, ((), ((), ((), ((), ((), ((), ((), ((), (x11, (x12, xd 87))))))))))))), (), ())
def s_s_Waits_14_0 (x0 : List T_Commit) (x1 : List T_Out) (x2 : Int) (x11 : Int) (x12 : Int) : St := { tm := ([(.l .no commitR x0), (.l .no outR x1), (.s (.int .i64 x2)), .x, .x, .x, .x, .x, .x, .x, .x, (.s (.int .i64 x11)), (.s (.int .i64 x12))] ++ List.replicate 87 .x), ob := [], nx := 0, io := [] }
theorem se_s_Waits_14_0 (x0 : List T_Commit) (x1 : List T_Out) (x2 : Int) (x11 : Int) (x12 : Int) : sh_s_Waits_14_0.mk' (d_s_Waits_14_0 x0 x1 x2 x11 x12) = (s_s_Waits_14_0 x0 x1 x2 x11 x12) := by kernel_rfl
def w_s_Waits_14_0 (d : sh_s_Waits_14_0.T) (f : (List T_Commit) → (List T_Out) → Int → Int → Int → Option Ret) : Option Ret := match d with | ((x0, (x1, (x2, (_, (_, (_, (_, (_, (_, (_, (_, (x11, (x12, _))))))))))))), _, _) => f x0 x1 x2 x11 x12
noncomputable def P_s_Waits_14_0 (x0 : List T_Commit) (x1 : List T_Out) (x2 : Int) (x11 : Int) (x12 : Int) (nx0 : (List T_Commit) → (List T_Out) → Int → Int → Int → Option Ret) (k0 : Int → Int → Option Ret) (k1 : Int → Option Ret) : Option Ret :=
 (bif (decide (x12 < (((List.length x0) : Nat) : Int))) then
 (bif ((decide ((0 : Int) ≤ x12)) && (decide (x12 < (((List.length x0) : Nat) : Int)))) then
  (bif ((List.getD x0 (Int.toNat x12) (commitR.dflt)).1 == (2 : Int)) then
   (bif ((decide ((0 : Int) ≤ x12)) && (decide (x12 < (((List.length x0) : Nat) : Int)))) then
    (bif ((List.getD x0 (Int.toNat x12) (commitR.dflt)).2.1 == x2) then
     (R_s_Waits_19_0 x0 x1 x2 (IntKind.wrap .i64 (x11 + (1 : Int))) x12 (0 : Int) (fun y0 y1 y2 y3 y4 y5 =>
      (k0 y3 y4)) (fun y6 y7 y8 y9 y10 =>
      (nx0 y6 y7 y8 y9 (IntKind.wrap .i64 (y10 + (1 : Int))))))
     else (R_s_Waits_19_0 x0 x1 x2 x11 x12 (0 : Int) (fun y11 y12 y13 y14 y15 y16 =>
      (k0 y14 y15)) (fun y17 y18 y19 y20 y21 =>
      (nx0 y17 y18 y19 y20 (IntKind.wrap .i64 (y21 + (1 : Int)))))))
    else none)
   else (R_s_Waits_19_0 x0 x1 x2 x11 x12 (0 : Int) (fun y22 y23 y24 y25 y26 y27 =>
    (k0 y25 y26)) (fun y28 y29 y30 y31 y32 =>
    (nx0 y28 y29 y30 y31 (IntKind.wrap .i64 (y32 + (1 : Int)))))))
  else none)
 else (k1 x11))
noncomputable def Q_s_Waits_14_0 : Nat → (List T_Commit) → (List T_Out) → Int → Int → Int → (Int → Int → Option Ret) → (Int → Option Ret) → Option Ret
  | 0, _, _, _, _, _, _, _ => none
  | m + 1, x0, x1, x2, x11, x12, k0, k1 => P_s_Waits_14_0 x0 x1 x2 x11 x12 (fun x0 x1 x2 x11 x12 => (Q_s_Waits_14_0 m x0 x1 x2 x11 x12 k0 k1)) k0 k1
noncomputable def R_s_Waits_14_0 (x0 : List T_Commit) (x1 : List T_Out) (x2 : Int) (x11 : Int) (x12 : Int) (k0 : Int → Int → Option Ret) (k1 : Int → Option Ret) : Option Ret := Q_s_Waits_14_0 (List.length x0 + List.length x1 + x2.toNat + x11.toNat + x12.toNat + 2) x0 x1 x2 x11 x12 k0 k1
noncomputable def W_s_Waits_14 : LoopFn := (fun (σ : St) (K : Ex → St → Option Ret) => (match sh_s_Waits_14_0.un σ with | some d => w_s_Waits_14_0 d (fun x0 x1 x2 x11 x12 => R_s_Waits_14_0 x0 x1 x2 x11 x12 (fun x6 x11 => (K .ret (z_s_Waits_14_0 x6 x11))) (fun x11 => (K (.ext 2) (z_s_Waits_14_1 x11)))) | none => none))
noncomputable abbrev E_s_Waits : Env := En [(N.s_OutsOk, true, S_s_OutsOk), (N.s_ReqParse, true, S_s_ReqParse)] [] [(5, [0,1,2,7,8], [0,1,2,6,7], W_s_Waits_5), (19, [0,1,2,11,12,13], [0,1,2,6,11,12], W_s_Waits_19), (14, [0,1,2,11,12], [6,11], W_s_Waits_14)] [] false 0 []
theorem st_s_Waits_5_0 (m : Nat) (x0 : List T_Commit) (x1 : List T_Out) (x2 : Int) (x7 : Int) (x8 : Int) (K : Ex → St → Option Ret) : rounds (run E_s_Waits (bodyOf F.s_Waits 5)) [0,1,2,7,8] [0,1,2,6,7] (m + 1) (s_s_Waits_5_0 x0 x1 x2 x7 x8) K = P_s_Waits_5_0 x0 x1 x2 x7 x8 (fun x0 x1 x2 x7 x8 => (rounds (run E_s_Waits (bodyOf F.s_Waits 5)) [0,1,2,7,8] [0,1,2,6,7] m (s_s_Waits_5_0 x0 x1 x2 x7 x8) K)) (fun x0 x1 x2 x7 => (K (.ext 0) (z_s_Waits_5_0 x0 x1 x2 x7))) := by kernel_rfl
theorem q_s_Waits_5 (K : Ex → St → Option Ret) : ∀ m : Nat, (∀ (x0 : List T_Commit) (x1 : List T_Out) (x2 : Int) (x7 : Int) (x8 : Int), rounds (run E_s_Waits (bodyOf F.s_Waits 5)) [0,1,2,7,8] [0,1,2,6,7] m (s_s_Waits_5_0 x0 x1 x2 x7 x8) K = Q_s_Waits_5_0 m x0 x1 x2 x7 x8 (fun x0 x1 x2 x7 => (K (.ext 0) (z_s_Waits_5_0 x0 x1 x2 x7))))
  | 0 => (fun _ _ _ _ _ => rfl)
  | m + 1 => (fun x0 x1 x2 x7 x8 => (by rw [st_s_Waits_5_0, show (fun x0 x1 x2 x7 x8 => (rounds (run E_s_Waits (bodyOf F.s_Waits 5)) [0,1,2,7,8] [0,1,2,6,7] m (s_s_Waits_5_0 x0 x1 x2 x7 x8) K)) = (fun x0 x1 x2 x7 x8 => (Q_s_Waits_5_0 m x0 x1 x2 x7 x8 (fun x0 x1 x2 x7 => (K (.ext 0) (z_s_Waits_5_0 x0 x1 x2 x7))))) from funext fun x0 => funext fun x1 => funext fun x2 => funext fun x7 => funext fun x8 => (q_s_Waits_5 K m) x0 x1 x2 x7 x8]; rfl))
theorem loopK_s_Waits_5 : LoopOk E_s_Waits (bodyOf F.s_Waits 5) := by
  refine loopW_ok (n := 5) (F := W_s_Waits_5) (by kernel_rfl) rfl (li := [0,1,2,7,8]) (lo := [0,1,2,6,7]) rfl (fun σ K r hr => ?_)
  unfold W_s_Waits_5 at hr
  split at hr
  · rename_i d hd
    rw [Ss.un_mk hd]
    exact ⟨_, ((congrArg (fun z => rounds (run E_s_Waits (bodyOf F.s_Waits 5)) [0,1,2,7,8] [0,1,2,6,7] _ z K) (se_s_Waits_5_0 _ _ _ _ _)).trans ((q_s_Waits_5 K _) _ _ _ _ _)).trans hr⟩
  · cases hr
theorem st_s_Waits_19_0 (m : Nat) (x0 : List T_Commit) (x1 : List T_Out) (x2 : Int) (x11 : Int) (x12 : Int) (x13 : Int) (K : Ex → St → Option Ret) : rounds (run E_s_Waits (bodyOf F.s_Waits 19)) [0,1,2,11,12,13] [0,1,2,6,11,12] (m + 1) (s_s_Waits_19_0 x0 x1 x2 x11 x12 x13) K = P_s_Waits_19_0 x0 x1 x2 x11 x12 x13 (fun x0 x1 x2 x11 x12 x13 => (rounds (run E_s_Waits (bodyOf F.s_Waits 19)) [0,1,2,11,12,13] [0,1,2,6,11,12] m (s_s_Waits_19_0 x0 x1 x2 x11 x12 x13) K)) (fun x0 x1 x2 x6 x11 x12 => (K .ret (z_s_Waits_19_0 x0 x1 x2 x6 x11 x12))) (fun x0 x1 x2 x11 x12 => (K (.ext 4) (z_s_Waits_19_1 x0 x1 x2 x11 x12))) := by kernel_rfl
theorem q_s_Waits_19 (K : Ex → St → Option Ret) : ∀ m : Nat, (∀ (x0 : List T_Commit) (x1 : List T_Out) (x2 : Int) (x11 : Int) (x12 : Int) (x13 : Int), rounds (run E_s_Waits (bodyOf F.s_Waits 19)) [0,1,2,11,12,13] [0,1,2,6,11,12] m (s_s_Waits_19_0 x0 x1 x2 x11 x12 x13) K = Q_s_Waits_19_0 m x0 x1 x2 x11 x12 x13 (fun x0 x1 x2 x6 x11 x12 => (K .ret (z_s_Waits_19_0 x0 x1 x2 x6 x11 x12))) (fun x0 x1 x2 x11 x12 => (K (.ext 4) (z_s_Waits_19_1 x0 x1 x2 x11 x12))))
  | 0 => (fun _ _ _ _ _ _ => rfl)
  | m + 1 => (fun x0 x1 x2 x11 x12 x13 => (by rw [st_s_Waits_19_0, show (fun x0 x1 x2 x11 x12 x13 => (rounds (run E_s_Waits (bodyOf F.s_Waits 19)) [0,1,2,11,12,13] [0,1,2,6,11,12] m (s_s_Waits_19_0 x0 x1 x2 x11 x12 x13) K)) = (fun x0 x1 x2 x11 x12 x13 => (Q_s_Waits_19_0 m x0 x1 x2 x11 x12 x13 (fun x0 x1 x2 x6 x11 x12 => (K .ret (z_s_Waits_19_0 x0 x1 x2 x6 x11 x12))) (fun x0 x1 x2 x11 x12 => (K (.ext 4) (z_s_Waits_19_1 x0 x1 x2 x11 x12))))) from funext fun x0 => funext fun x1 => funext fun x2 => funext fun x11 => funext fun x12 => funext fun x13 => (q_s_Waits_19 K m) x0 x1 x2 x11 x12 x13]; rfl))
theorem loopK_s_Waits_19 : LoopOk E_s_Waits (bodyOf F.s_Waits 19) := by
  refine loopW_ok (n := 19) (F := W_s_Waits_19) (by kernel_rfl) rfl (li := [0,1,2,11,12,13]) (lo := [0,1,2,6,11,12]) rfl (fun σ K r hr => ?_)
  unfold W_s_Waits_19 at hr
  split at hr
  · rename_i d hd
    rw [Ss.un_mk hd]
    exact ⟨_, ((congrArg (fun z => rounds (run E_s_Waits (bodyOf F.s_Waits 19)) [0,1,2,11,12,13] [0,1,2,6,11,12] _ z K) (se_s_Waits_19_0 _ _ _ _ _ _)).trans ((q_s_Waits_19 K _) _ _ _ _ _ _)).trans hr⟩
  · cases hr
theorem st_s_Waits_14_0 (m : Nat) (x0 : List T_Commit) (x1 : List T_Out) (x2 : Int) (x11 : Int) (x12 : Int) (K : Ex → St → Option Ret) : rounds (run E_s_Waits (bodyOf F.s_Waits 14)) [0,1,2,11,12] [6,11] (m + 1) (s_s_Waits_14_0 x0 x1 x2 x11 x12) K = P_s_Waits_14_0 x0 x1 x2 x11 x12 (fun x0 x1 x2 x11 x12 => (rounds (run E_s_Waits (bodyOf F.s_Waits 14)) [0,1,2,11,12] [6,11] m (s_s_Waits_14_0 x0 x1 x2 x11 x12) K)) (fun x6 x11 => (K .ret (z_s_Waits_14_0 x6 x11))) (fun x11 => (K (.ext 2) (z_s_Waits_14_1 x11))) := by kernel_rfl
theorem q_s_Waits_14 (K : Ex → St → Option Ret) : ∀ m : Nat, (∀ (x0 : List T_Commit) (x1 : List T_Out) (x2 : Int) (x11 : Int) (x12 : Int), rounds (run E_s_Waits (bodyOf F.s_Waits 14)) [0,1,2,11,12] [6,11] m (s_s_Waits_14_0 x0 x1 x2 x11 x12) K = Q_s_Waits_14_0 m x0 x1 x2 x11 x12 (fun x6 x11 => (K .ret (z_s_Waits_14_0 x6 x11))) (fun x11 => (K (.ext 2) (z_s_Waits_14_1 x11))))
  | 0 => (fun _ _ _ _ _ => rfl)
  | m + 1 => (fun x0 x1 x2 x11 x12 => (by rw [st_s_Waits_14_0, show (fun x0 x1 x2 x11 x12 => (rounds (run E_s_Waits (bodyOf F.s_Waits 14)) [0,1,2,11,12] [6,11] m (s_s_Waits_14_0 x0 x1 x2 x11 x12) K)) = (fun x0 x1 x2 x11 x12 => (Q_s_Waits_14_0 m x0 x1 x2 x11 x12 (fun x6 x11 => (K .ret (z_s_Waits_14_0 x6 x11))) (fun x11 => (K (.ext 2) (z_s_Waits_14_1 x11))))) from funext fun x0 => funext fun x1 => funext fun x2 => funext fun x11 => funext fun x12 => (q_s_Waits_14 K m) x0 x1 x2 x11 x12]; rfl))
theorem loopK_s_Waits_14 : LoopOk E_s_Waits (bodyOf F.s_Waits 14) := by
  refine loopW_ok (n := 14) (F := W_s_Waits_14) (by kernel_rfl) rfl (li := [0,1,2,11,12]) (lo := [6,11]) rfl (fun σ K r hr => ?_)
  unfold W_s_Waits_14 at hr
  split at hr
  · rename_i d hd
    rw [Ss.un_mk hd]
    exact ⟨_, ((congrArg (fun z => rounds (run E_s_Waits (bodyOf F.s_Waits 14)) [0,1,2,11,12] [6,11] _ z K) (se_s_Waits_14_0 _ _ _ _ _)).trans ((q_s_Waits_14 K _) _ _ _ _ _)).trans hr⟩
  · cases hr
noncomputable def T_s_Waits (l : List T_Event) (t : List T_Out) (s : Int) (K : Ret → Option Ret) : Option Ret :=
 (bif ((fitC (Cc.sl eventR) l) && (fitC (Cc.sl outR) t)) then
 (bif (!(outsOkD l t)) then
  K ((.s (.int .i64 (-(1 : Int)))), [])
  else (R_s_Waits_5_0 l t s (-(1 : Int)) (0 : Int) (fun y33 y34 y35 y36 =>
   (bif (decide (y36 < (0 : Int))) then
    K ((.s (.int .i64 (-(1 : Int)))), [])
    else (R_s_Waits_14_0 y33 y34 y35 (0 : Int) (IntKind.wrap .i64 (y36 + (1 : Int))) (fun y37 y38 =>
     K ((.s (.int .i64 y37)), [])) (fun y39 =>
     K ((.s (.int .i64 y39)), [])))))))
 else none)
theorem e_s_Waits (l : List T_Event) (t : List T_Out) (s : Int) (K : Ret → Option Ret) : evF E_s_Waits true F.s_Waits [.l .no eventR l, .l .no outR t, .s (.int .i64 s)] K = T_s_Waits l t s K := by kernel_rfl
def S_s_Waits : Sm := S_fnR [.l eventR, .l outR, .i] (fun d => fitC (.sl eventR) d.1 && fitC (.sl outR) d.2.1) (fun d => (.s (.int .i64 (waitsD d.1 d.2.1 d.2.2.1)), []))
theorem v_s_Waits (l : List T_Event) (t : List T_Out) (s : Int) (h : (fitC (.sl eventR) l && fitC (.sl outR) t) = true) (K : Ret → Option Ret) : T_s_Waits l t s K = K (.s (.int .i64 (waitsD l t s)), []) := by
  obtain ⟨h1, h2⟩ := (Bool.and_eq_true _ _).mp h
  have l1 := fitC_len h1
  have l2 := fitC_len h2
  unfold T_s_Waits waitsD
  rw [h]
  cases ho : outsOkD l t with
  | false => rfl
  | true =>
  have hal : allN t.length (toldOkD l t zeroEv zeroOut) = true := by
    unfold outsOkD at ho
    exact ((Bool.and_eq_true _ _).mp ho).2
  have hr := lastD_range l s
  have q5 : ∀ (k0 : (List T_Commit) → (List T_Out) → Int → Int → Option Ret) (m i : Nat) (a : Int), i ≤ l.length → l.length - i < m → Q_s_Waits_5_0 m l t s a ((i : Nat) : Int) k0 = k0 l t s (lastL s (l.drop i) i a) := by
    intro k0 m
    induction m with
    | zero => intro i a _ hm; omega
    | succ m ih =>
      intro i a hi hm
      show P_s_Waits_5_0 l t s a ((i : Nat) : Int) _ _ = _
      unfold P_s_Waits_5_0
      by_cases hlt : i < l.length
      · have f1 : fitB (l.getD i zeroEv).2.2.2 = true := fit_ev (fitC_getD h1 rfl _)
        rw [decide_eq_true (show ((i : Nat) : Int) < ((l.length : Nat) : Int) by omega), decide_eq_true (show (0 : Int) ≤ ((i : Nat) : Int) by omega), Int.toNat_natCast, wrap_nat (by omega), show l.getD i commitR.dflt = l.getD i zeroEv from rfl, f1, List.drop_eq_getElem_cons hlt, ← getD_lt zeroEv hlt]
        simp only [lastL, frameAt]
        rw [ih (i + 1) _ (by omega) (by omega), ih (i + 1) _ (by omega) (by omega)]
        cases ((l.getD i zeroEv).1 == 1) <;> cases (reqParseD (l.getD i zeroEv).2.2.2).2 <;> cases ((reqParseD (l.getD i zeroEv).2.2.2).1.2.1 == s) <;> rfl
      · obtain rfl : i = l.length := by omega
        rw [decide_eq_false (show ¬ ((l.length : Nat) : Int) < ((l.length : Nat) : Int) by omega), List.drop_length]; rfl
  have q19 : ∀ (n i : Int) (k0 : (List T_Commit) → (List T_Out) → Int → Int → Int → Int → Option Ret) (k1 : (List T_Commit) → (List T_Out) → Int → Int → Int → Option Ret), R_s_Waits_19_0 l t s n i 0 k0 k1 = bif anyAt t s i then k0 l t s n n i else k1 l t s n i := by
    intro n i k0 k1
    have q : ∀ (m j : Nat), j ≤ t.length → t.length - j < m → Q_s_Waits_19_0 m l t s n i ((j : Nat) : Int) k0 k1 = bif anyAt (t.drop j) s i then k0 l t s n n i else k1 l t s n i := by
      intro m
      induction m with
      | zero => intro j _ hm; omega
      | succ m ih =>
        intro j hj hm
        show P_s_Waits_19_0 l t s n i ((j : Nat) : Int) _ _ _ = _
        unfold P_s_Waits_19_0
        by_cases hlt : j < t.length
        · rw [decide_eq_true (show ((j : Nat) : Int) < ((t.length : Nat) : Int) by omega), decide_eq_true (show (0 : Int) ≤ ((j : Nat) : Int) by omega), Int.toNat_natCast, wrap_nat (by omega), show t.getD j outR.dflt = t.getD j zeroOut from rfl, List.drop_eq_getElem_cons hlt, ← getD_lt zeroOut hlt]
          dsimp only
          rw [ih (j + 1) (by omega) (by omega)]
          unfold anyAt
          rw [List.any_cons]
          cases ((t.getD j zeroOut).1 == i) <;> cases ((t.getD j zeroOut).2.1 == s) <;> rfl
        · obtain rfl : j = t.length := by omega
          rw [decide_eq_false (show ¬ ((t.length : Nat) : Int) < ((t.length : Nat) : Int) by omega), List.drop_length]; rfl
    have := q (List.length l + List.length t + s.toNat + n.toNat + i.toNat + (0 : Int).toNat + 2) 0 (by omega) (by omega)
    rw [List.drop_zero] at this
    exact this
  have q14 : ∀ (m i n : Nat), i ≤ l.length → n ≤ i → l.length - i < m → Q_s_Waits_14_0 m l t s ((n : Nat) : Int) ((i : Nat) : Int) (fun y37 y38 => K ((.s (.int .i64 y37)), [])) (fun y39 => K ((.s (.int .i64 y39)), [])) = K ((.s (.int .i64 ((spL t s (l.drop i) i n : Nat) : Int))), []) := by
    intro m
    induction m with
    | zero => intro i n _ _ hm; omega
    | succ m ih =>
      intro i n hi hn hm
      show P_s_Waits_14_0 l t s ((n : Nat) : Int) ((i : Nat) : Int) _ _ _ = _
      unfold P_s_Waits_14_0
      by_cases hlt : i < l.length
      · rw [decide_eq_true (show ((i : Nat) : Int) < ((l.length : Nat) : Int) by omega), decide_eq_true (show (0 : Int) ≤ ((i : Nat) : Int) by omega), Int.toNat_natCast, q19, q19, wrap_nat (i := i) (by omega), show l.getD i commitR.dflt = l.getD i zeroEv from rfl, List.drop_eq_getElem_cons hlt, ← getD_lt zeroEv hlt]
        dsimp only
        rw [wrap_nat (i := n) (by omega), ih (i + 1) (n + 1) (by omega) (by omega) (by omega), ih (i + 1) n (by omega) (by omega) (by omega)]
        simp only [spL, pickD]
        cases ((l.getD i zeroEv).1 == 2)
        · cases anyAt t s ((i : Nat) : Int) <;> rfl
        · cases ((l.getD i zeroEv).2.1 == s) <;> cases anyAt t s ((i : Nat) : Int) <;> rfl
      · obtain rfl : i = l.length := by omega
        rw [decide_eq_false (show ¬ ((l.length : Nat) : Int) < ((l.length : Nat) : Int) by omega), List.drop_length]; rfl
  have e5 := q5 (fun y33 y34 y35 y36 =>
   (bif (decide (y36 < (0 : Int))) then
    K ((.s (.int .i64 (-(1 : Int)))), [])
    else (R_s_Waits_14_0 y33 y34 y35 (0 : Int) (IntKind.wrap .i64 (y36 + (1 : Int))) (fun y37 y38 =>
     K ((.s (.int .i64 y37)), [])) (fun y39 =>
     K ((.s (.int .i64 y39)), []))))) (List.length l + List.length t + s.toNat + (-(1 : Int)).toNat + (0 : Int).toNat + 2) 0 (-1) (by omega) (by omega)
  refine Eq.trans e5 ?_
  rw [List.drop_zero]
  show (bif decide (lastD l s < 0) then _ else R_s_Waits_14_0 l t s 0 (IntKind.wrap .i64 (lastD l s + 1)) _ _) = K (.s (.int .i64 (bif decide (lastD l s < 0) then -1 else _)), [])
  by_cases hneg : lastD l s < 0
  · rw [decide_eq_true hneg]; rfl
  rw [decide_eq_false hneg, cond_false, cond_false, wrap_in (n := lastD l s + 1) (by omega) (by omega)]
  have hs := waits_sp s hal (show 0 ≤ lastD l s by omega)
  have e14 := q14 (List.length l + List.length t + s.toNat + (0 : Int).toNat + (lastD l s + 1).toNat + 2) ((lastD l s).toNat + 1) 0 (by omega) (by omega) (by omega)
  rw [hs, show (((lastD l s).toNat + 1 : Nat) : Int) = lastD l s + 1 by omega] at e14
  exact e14
theorem okS_s_Waits : OkFn prog I N.s_Waits true S_s_Waits := okN (ok_fn (memc okS_s_OutsOk (memc okS_s_ReqParse mem0)) (l := [(N.s_OutsOk, true, S_s_OutsOk), (N.s_ReqParse, true, S_s_ReqParse)]) (p := []) (ls := [(5, [0,1,2,7,8], [0,1,2,6,7], W_s_Waits_5), (19, [0,1,2,11,12,13], [0,1,2,6,11,12], W_s_Waits_19), (14, [0,1,2,11,12], [6,11], W_s_Waits_14)]) (lend := []) (focus := false) (fuel := 0) (give := []) (fn := F.s_Waits) (by kernel_rfl) (by kernel_rfl) (by kernel_rfl) (by kernel_rfl) (cs := [bodyOf F.s_Waits 5, bodyOf F.s_Waits 14, bodyOf F.s_Waits 19]) (by kernel_rfl) (loopsc loopK_s_Waits_5 (loopsc loopK_s_Waits_14 (loopsc loopK_s_Waits_19 loops0)))) (S_fnR_of fun d K h => (e_s_Waits d.1 d.2.1 d.2.2.1 K).trans (v_s_Waits d.1 d.2.1 d.2.2.1 h K))
end Go.Ev.Seat
end
section
/- i_in: its contract. -/
namespace Go.Ev.Seat
open Go.RowKit
set_option maxRecDepth 100000
set_option linter.unusedVariables false
set_option linter.unusedSimpArgs false
noncomputable abbrev E_i_in : Env := En [] [] [] [] false 0 []
noncomputable def T_i_in (n : Int) (low : Int) (high : Int) (K : Ret → Option Ret) : Option Ret :=
 (bif (decide (low ≤ n)) then
 K ((.s (.bool (decide (n ≤ high)))), [])
 else K ((.s (.bool false)), []))
theorem e_i_in (n : Int) (low : Int) (high : Int) (K : Ret → Option Ret) : evF E_i_in true F.i_in [.s (.int .i64 n), .s (.int .i64 low), .s (.int .i64 high)] K = T_i_in n low high K := by kernel_rfl
def S_i_in : Sm := S_fnR [.i, .i, .i] (fun d => true) (fun d => (bl (decide (d.2.1 ≤ d.1) && decide (d.1 ≤ d.2.2.1)), []))
theorem v_i_in (n : Int) (low : Int) (high : Int) (K : Ret → Option Ret) : T_i_in n low high K = K (bl (decide (low ≤ n) && decide (n ≤ high)), []) := by
  unfold T_i_in; cases decide (low ≤ n) <;> rfl
theorem okS_i_in : OkFn prog I N.i_in true S_i_in := okN (ok_fn mem0 (l := []) (p := []) (ls := []) (lend := []) (focus := false) (fuel := 0) (give := []) (fn := F.i_in) (by kernel_rfl) (by kernel_rfl) (by kernel_rfl) (by kernel_rfl) (cs := []) (by kernel_rfl) loops0) (S_fnR_of fun d K h => (e_i_in d.1 d.2.1 d.2.2.1 K).trans (v_i_in d.1 d.2.1 d.2.2.1 K))
end Go.Ev.Seat
end
section
/- i_isSession: its contract. -/
namespace Go.Ev.Seat
open Go.RowKit
set_option maxRecDepth 100000
set_option linter.unusedVariables false
set_option linter.unusedSimpArgs false
noncomputable abbrev E_i_isSession : Env := En [(N.i_in, true, S_i_in)] [] [] [] false 0 []
noncomputable def T_i_isSession (k : Int) (K : Ret → Option Ret) : Option Ret :=
 K ((.s (.bool ((decide ((1 : Int) ≤ k)) && (decide (k ≤ (8 : Int)))))), [])
theorem e_i_isSession (k : Int) (K : Ret → Option Ret) : evF E_i_isSession true F.i_isSession [.s (.int .i64 k)] K = T_i_isSession k K := by kernel_rfl
def S_i_isSession : Sm := S_fnR [.i] (fun d => true) (fun d => (bl (decide (1 ≤ d.1) && decide (d.1 ≤ 8)), []))
theorem v_i_isSession (k : Int) (K : Ret → Option Ret) : T_i_isSession k K = K (bl (decide (1 ≤ k) && decide (k ≤ 8)), []) := by
  rfl
theorem okS_i_isSession : OkFn prog I N.i_isSession true S_i_isSession := okN (ok_fn (memc okS_i_in mem0) (l := [(N.i_in, true, S_i_in)]) (p := []) (ls := []) (lend := []) (focus := false) (fuel := 0) (give := []) (fn := F.i_isSession) (by kernel_rfl) (by kernel_rfl) (by kernel_rfl) (by kernel_rfl) (cs := []) (by kernel_rfl) loops0) (S_fnR_of fun d K h => (e_i_isSession d.1 K).trans (v_i_isSession d.1 K))
end Go.Ev.Seat
end
section
/- i_isTick: its contract. -/
namespace Go.Ev.Seat
open Go.RowKit
set_option maxRecDepth 100000
set_option linter.unusedVariables false
set_option linter.unusedSimpArgs false
noncomputable abbrev E_i_isTick : Env := En [(N.i_in, true, S_i_in)] [] [] [] false 0 []
noncomputable def T_i_isTick (k : Int) (K : Ret → Option Ret) : Option Ret :=
 K ((.s (.bool ((decide ((1 : Int) ≤ k)) && (decide (k ≤ (1000 : Int)))))), [])
theorem e_i_isTick (k : Int) (K : Ret → Option Ret) : evF E_i_isTick true F.i_isTick [.s (.int .i64 k)] K = T_i_isTick k K := by kernel_rfl
def S_i_isTick : Sm := S_fnR [.i] (fun d => true) (fun d => (bl (decide (1 ≤ d.1) && decide (d.1 ≤ 1000)), []))
theorem v_i_isTick (k : Int) (K : Ret → Option Ret) : T_i_isTick k K = K (bl (decide (1 ≤ k) && decide (k ≤ 1000)), []) := by
  rfl
theorem okS_i_isTick : OkFn prog I N.i_isTick true S_i_isTick := okN (ok_fn (memc okS_i_in mem0) (l := [(N.i_in, true, S_i_in)]) (p := []) (ls := []) (lend := []) (focus := false) (fuel := 0) (give := []) (fn := F.i_isTick) (by kernel_rfl) (by kernel_rfl) (by kernel_rfl) (by kernel_rfl) (cs := []) (by kernel_rfl) loops0) (S_fnR_of fun d K h => (e_i_isTick d.1 K).trans (v_i_isTick d.1 K))
end Go.Ev.Seat
end
section
/- i_isEvent: its contract. -/
namespace Go.Ev.Seat
open Go.RowKit
set_option maxRecDepth 100000
set_option linter.unusedVariables false
set_option linter.unusedSimpArgs false
noncomputable abbrev E_i_isEvent : Env := En [(N.i_isSession, true, S_i_isSession), (N.i_isTick, true, S_i_isTick)] [] [] [] false 0 []
noncomputable def T_i_isEvent (e : T_Event) (K : Ret → Option Ret) : Option Ret :=
 (bif (e.1 == (1 : Int)) then
 (bif (decide ((((List.length e.2.2.2) : Nat) : Int) ≤ (1000 : Int))) then
  (bif (e.2.1 == (0 : Int)) then
   K ((.s (.bool (e.2.2.1 == (0 : Int)))), [])
   else K ((.s (.bool false)), []))
  else K ((.s (.bool false)), []))
 else (bif (e.1 == (2 : Int)) then
  (bif ((decide ((1 : Int) ≤ e.2.1)) && (decide (e.2.1 ≤ (8 : Int)))) then
   (bif (e.2.2.1 == (0 : Int)) then
    K ((.s (.bool ((((List.length e.2.2.2) : Nat) : Int) == (0 : Int)))), [])
    else K ((.s (.bool false)), []))
   else K ((.s (.bool false)), []))
  else (bif (e.1 == (3 : Int)) then
   (bif ((decide ((1 : Int) ≤ e.2.2.1)) && (decide (e.2.2.1 ≤ (1000 : Int)))) then
    (bif (e.2.1 == (0 : Int)) then
     K ((.s (.bool ((((List.length e.2.2.2) : Nat) : Int) == (0 : Int)))), [])
     else K ((.s (.bool false)), []))
    else K ((.s (.bool false)), []))
   else K ((.s (.bool false)), []))))
theorem e_i_isEvent (e : T_Event) (K : Ret → Option Ret) : evF E_i_isEvent true F.i_isEvent [.a (eventR.cells .no e)] K = T_i_isEvent e K := by kernel_rfl
def S_i_isEvent : Sm := S_fnR [.a eventR] (fun d => true) (fun d => (bl (eventOkD d.1), []))
theorem v_i_isEvent (e : T_Event) (K : Ret → Option Ret) : T_i_isEvent e K = K (bl (eventOkD e), []) := by
  unfold T_i_isEvent eventOkD sessD tickD
  cases (e.1 == 1)
  · cases (e.1 == 2)
    · cases (e.1 == 3)
      · rfl
      · cases (decide (1 ≤ e.2.2.1) && decide (e.2.2.1 ≤ 1000)) <;> cases (e.2.1 == 0) <;> rfl
    · cases (decide (1 ≤ e.2.1) && decide (e.2.1 ≤ 8)) <;> cases (e.2.2.1 == 0) <;> rfl
  · cases decide ((((List.length e.2.2.2) : Nat) : Int) ≤ 1000) <;> cases (e.2.1 == 0) <;> rfl
theorem okS_i_isEvent : OkFn prog I N.i_isEvent true S_i_isEvent := okN (ok_fn (memc okS_i_isSession (memc okS_i_isTick mem0)) (l := [(N.i_isSession, true, S_i_isSession), (N.i_isTick, true, S_i_isTick)]) (p := []) (ls := []) (lend := []) (focus := false) (fuel := 0) (give := []) (fn := F.i_isEvent) (by kernel_rfl) (by kernel_rfl) (by kernel_rfl) (by kernel_rfl) (cs := []) (by kernel_rfl) loops0) (S_fnR_of fun d K h => (e_i_isEvent d.1 K).trans (v_i_isEvent d.1 K))
end Go.Ev.Seat
end
section
/- i_areEvents_1: its contract. -/
namespace Go.Ev.Seat
open Go.RowKit
set_option maxRecDepth 100000
set_option linter.unusedVariables false
set_option linter.unusedSimpArgs false
noncomputable abbrev E_i_areEvents_1 : Env := En [(N.i_isEvent, true, S_i_isEvent)] [] [] [] false 0 []
noncomputable def T_i_areEvents_1 (e : T_Event) (K : Ret → Option Ret) : Option Ret :=
 K ((.s (.bool (!(eventOkD e)))), [])
theorem e_i_areEvents_1 (e : T_Event) (K : Ret → Option Ret) : evF E_i_areEvents_1 true F.i_areEvents_1 [.a (eventR.cells .no e)] K = T_i_areEvents_1 e K := by kernel_rfl
def S_i_areEvents_1 : Sm := S_fnR [.a eventR] (fun d => true) (fun d => (bl (!(eventOkD d.1)), []))
theorem v_i_areEvents_1 (e : T_Event) (K : Ret → Option Ret) : T_i_areEvents_1 e K = K (bl (!(eventOkD e)), []) := rfl
theorem okS_i_areEvents_1 : OkFn prog I N.i_areEvents_1 true S_i_areEvents_1 := okN (ok_fn (memc okS_i_isEvent mem0) (l := [(N.i_isEvent, true, S_i_isEvent)]) (p := []) (ls := []) (lend := []) (focus := false) (fuel := 0) (give := []) (fn := F.i_areEvents_1) (by kernel_rfl) (by kernel_rfl) (by kernel_rfl) (by kernel_rfl) (cs := []) (by kernel_rfl) loops0) (S_fnR_of fun d K h => (e_i_areEvents_1 d.1 K).trans (v_i_areEvents_1 d.1 K))
end Go.Ev.Seat
end
section
/- slices_IndexFunc_Event: its contract. -/
namespace Go.Ev.Seat
open Go.RowKit
set_option maxRecDepth 100000
set_option linter.unusedVariables false
set_option linter.unusedSimpArgs false
def z_slices_IndexFunc_Event_2_0 (x4 : Int) : St := { tm := ([.x, .x, .x, .x, (.s (.int .i64 x4))] ++ List.replicate 14 .x), ob := [], nx := 0, io := [] }
def z_slices_IndexFunc_Event_2_1 : St := { tm := ([] ++ List.replicate 19 .x), ob := [], nx := 0, io := [] }
def sh_slices_IndexFunc_Event_2_0 : Ss := { tm := (.cons (.l .no commitR) (.cons (.f 166 .nil) (.cons (.x) (.cons (.x) (.cons (.x) (.cons (.x) (.cons (.x) (.cons (.int .i64) (.cons (.int .i64) (xsh 10)))))))))), ob := .nil, nx := 0, io := .nil }
def d_slices_IndexFunc_Event_2_0 (x0 : List T_Commit) (x7 : Int) (x8 : Int) : sh_slices_IndexFunc_Event_2_0.T := ((x0, ((), ((), ((), ((), ((), ((), (x7, (x8, xd 10))))))))), (), ())
def s_slices_IndexFunc_Event_2_0 (x0 : List T_Commit) (x7 : Int) (x8 : Int) : St := { tm := ([(.l .no commitR x0), (.f 166 []), .x, .x, .x, .x, .x, (.s (.int .i64 x7)), (.s (.int .i64 x8))] ++ List.replicate 10 .x), ob := [], nx := 0, io := [] }
theorem se_slices_IndexFunc_Event_2_0 (x0 : List T_Commit) (x7 : Int) (x8 : Int) : sh_slices_IndexFunc_Event_2_0.mk' (d_slices_IndexFunc_Event_2_0 x0 x7 x8) = (s_slices_IndexFunc_Event_2_0 x0 x7 x8) := by kernel_rfl
def w_slices_IndexFunc_Event_2_0 (d : sh_slices_IndexFunc_Event_2_0.T) (f : (List T_Commit) → Int → Int → Option Ret) : Option Ret := match d with | ((x0, (_, (_, (_, (_, (_, (_, (x7, (x8, _))))))))), _, _) => f x0 x7 x8
noncomputable def P_slices_IndexFunc_Event_2_0 (x0 : List T_Commit) (x7 : Int) (x8 : Int) (nx0 : (List T_Commit) → Int → Int → Option Ret) (k0 : Int → Option Ret) (k1 : Option Ret) : Option Ret :=
 (bif (decide (x8 < x7)) then
 (bif ((decide ((0 : Int) ≤ x8)) && (decide (x8 < (((List.length x0) : Nat) : Int)))) then
  (bif (!(eventOkD (List.getD x0 (Int.toNat x8) (commitR.dflt)))) then
   (k0 x8)
   else (nx0 x0 x7 (IntKind.wrap .i64 (x8 + (1 : Int)))))
  else none)
 else k1)
noncomputable def Q_slices_IndexFunc_Event_2_0 : Nat → (List T_Commit) → Int → Int → (Int → Option Ret) → (Option Ret) → Option Ret
  | 0, _, _, _, _, _ => none
  | m + 1, x0, x7, x8, k0, k1 => P_slices_IndexFunc_Event_2_0 x0 x7 x8 (fun x0 x7 x8 => (Q_slices_IndexFunc_Event_2_0 m x0 x7 x8 k0 k1)) k0 k1
noncomputable def R_slices_IndexFunc_Event_2_0 (x0 : List T_Commit) (x7 : Int) (x8 : Int) (k0 : Int → Option Ret) (k1 : Option Ret) : Option Ret := Q_slices_IndexFunc_Event_2_0 (List.length x0 + x7.toNat + x8.toNat + 2) x0 x7 x8 k0 k1
noncomputable def W_slices_IndexFunc_Event_2 : LoopFn := (fun (σ : St) (K : Ex → St → Option Ret) => (match sh_slices_IndexFunc_Event_2_0.un σ with | some d => w_slices_IndexFunc_Event_2_0 d (fun x0 x7 x8 => R_slices_IndexFunc_Event_2_0 x0 x7 x8 (fun x4 => (K .ret (z_slices_IndexFunc_Event_2_0 x4))) (K (.ext 0) z_slices_IndexFunc_Event_2_1)) | none => none))
noncomputable abbrev E_slices_IndexFunc_Event : Env := En [(N.i_areEvents_1, true, S_i_areEvents_1)] [] [(2, [0,1,7,8], [4], W_slices_IndexFunc_Event_2)] [] false 0 []
theorem st_slices_IndexFunc_Event_2_0 (m : Nat) (x0 : List T_Commit) (x7 : Int) (x8 : Int) (K : Ex → St → Option Ret) : rounds (run E_slices_IndexFunc_Event (bodyOf F.slices_IndexFunc_Event 2)) [0,1,7,8] [4] (m + 1) (s_slices_IndexFunc_Event_2_0 x0 x7 x8) K = P_slices_IndexFunc_Event_2_0 x0 x7 x8 (fun x0 x7 x8 => (rounds (run E_slices_IndexFunc_Event (bodyOf F.slices_IndexFunc_Event 2)) [0,1,7,8] [4] m (s_slices_IndexFunc_Event_2_0 x0 x7 x8) K)) (fun x4 => (K .ret (z_slices_IndexFunc_Event_2_0 x4))) (K (.ext 0) z_slices_IndexFunc_Event_2_1) := by kernel_rfl
theorem q_slices_IndexFunc_Event_2 (K : Ex → St → Option Ret) : ∀ m : Nat, (∀ (x0 : List T_Commit) (x7 : Int) (x8 : Int), rounds (run E_slices_IndexFunc_Event (bodyOf F.slices_IndexFunc_Event 2)) [0,1,7,8] [4] m (s_slices_IndexFunc_Event_2_0 x0 x7 x8) K = Q_slices_IndexFunc_Event_2_0 m x0 x7 x8 (fun x4 => (K .ret (z_slices_IndexFunc_Event_2_0 x4))) (K (.ext 0) z_slices_IndexFunc_Event_2_1))
  | 0 => (fun _ _ _ => rfl)
  | m + 1 => (fun x0 x7 x8 => (by rw [st_slices_IndexFunc_Event_2_0, show (fun x0 x7 x8 => (rounds (run E_slices_IndexFunc_Event (bodyOf F.slices_IndexFunc_Event 2)) [0,1,7,8] [4] m (s_slices_IndexFunc_Event_2_0 x0 x7 x8) K)) = (fun x0 x7 x8 => (Q_slices_IndexFunc_Event_2_0 m x0 x7 x8 (fun x4 => (K .ret (z_slices_IndexFunc_Event_2_0 x4))) (K (.ext 0) z_slices_IndexFunc_Event_2_1))) from funext fun x0 => funext fun x7 => funext fun x8 => (q_slices_IndexFunc_Event_2 K m) x0 x7 x8]; rfl))
theorem loopK_slices_IndexFunc_Event_2 : LoopOk E_slices_IndexFunc_Event (bodyOf F.slices_IndexFunc_Event 2) := by
  refine loopW_ok (n := 2) (F := W_slices_IndexFunc_Event_2) (by kernel_rfl) rfl (li := [0,1,7,8]) (lo := [4]) rfl (fun σ K r hr => ?_)
  unfold W_slices_IndexFunc_Event_2 at hr
  split at hr
  · rename_i d hd
    rw [Ss.un_mk hd]
    exact ⟨_, ((congrArg (fun z => rounds (run E_slices_IndexFunc_Event (bodyOf F.slices_IndexFunc_Event 2)) [0,1,7,8] [4] _ z K) (se_slices_IndexFunc_Event_2_0 _ _ _)).trans ((q_slices_IndexFunc_Event_2 K _) _ _ _)).trans hr⟩
  · cases hr
noncomputable def T_slices_IndexFunc_Event (l : List T_Event) (K : Ret → Option Ret) : Option Ret :=
 (R_slices_IndexFunc_Event_2_0 l (((List.length l) : Nat) : Int) (0 : Int) (fun y0 =>
 K ((.s (.int .i64 y0)), [])) (K ((.s (.int .i64 (-(1 : Int)))), [])))
theorem e_slices_IndexFunc_Event (l : List T_Event) (K : Ret → Option Ret) : evF E_slices_IndexFunc_Event true F.slices_IndexFunc_Event [.l .no eventR l, .f N.i_areEvents_1 []] K = T_slices_IndexFunc_Event l K := by kernel_rfl
def S_slices_IndexFunc_Event : Sm := S_fnR [.l eventR, .sh (.f N.i_areEvents_1 .nil)] (fun d => Nat.ble d.1.length 1048576) (fun d => (.s (.int .i64 (idxF (fun x => !(eventOkD x)) d.1)), []))
theorem v_slices_IndexFunc_Event (l : List T_Event) (h : (Nat.ble l.length 1048576) = true) (K : Ret → Option Ret) : T_slices_IndexFunc_Event l K = K (.s (.int .i64 (idxF (fun x => !(eventOkD x)) l)), []) := by
  have hl := Nat.le_of_ble_eq_true h
  unfold T_slices_IndexFunc_Event
  have q := idx_find (R := fun m i => Q_slices_IndexFunc_Event_2_0 m l ((l.length : Nat) : Int) i (fun y0 => K ((.s (.int .i64 y0)), [])) (K ((.s (.int .i64 (-(1 : Int)))), []))) (p := fun x => !(eventOkD x)) (xs := l) (z := (eventR).dflt) (kf := fun y0 => K ((.s (.int .i64 y0)), [])) (kt := K ((.s (.int .i64 (-(1 : Int)))), [])) (fun m i hi => by
    show P_slices_IndexFunc_Event_2_0 l _ ((i : Nat) : Int) _ _ _ = _
    unfold P_slices_IndexFunc_Event_2_0
    rw [decide_eq_true (show ((i : Nat) : Int) < ((l.length : Nat) : Int) by omega), decide_eq_true (show (0 : Int) ≤ ((i : Nat) : Int) by omega), Int.toNat_natCast, wrap_nat (by omega)]
    rfl) (fun m => by
    show P_slices_IndexFunc_Event_2_0 l _ ((l.length : Nat) : Int) _ _ _ = _
    unfold P_slices_IndexFunc_Event_2_0
    rw [decide_eq_false (show ¬ ((l.length : Nat) : Int) < ((l.length : Nat) : Int) by omega)]; rfl) (l.length + ((l.length : Nat) : Int).toNat + (0 : Int).toNat + 2) 0 (by omega) (by omega)
  refine Eq.trans q ?_
  rw [List.drop_zero]
  unfold idxF
  cases l.findIdx? (fun x => !(eventOkD x)) with
  | none => rfl
  | some j => show K (.s (.int .i64 ((0 + j : Nat) : Int)), []) = _; rw [Nat.zero_add]
theorem okS_slices_IndexFunc_Event : OkFn prog I N.slices_IndexFunc_Event true S_slices_IndexFunc_Event := okN (ok_fn (memc okS_i_areEvents_1 mem0) (l := [(N.i_areEvents_1, true, S_i_areEvents_1)]) (p := []) (ls := [(2, [0,1,7,8], [4], W_slices_IndexFunc_Event_2)]) (lend := []) (focus := false) (fuel := 0) (give := []) (fn := F.slices_IndexFunc_Event) (by kernel_rfl) (by kernel_rfl) (by kernel_rfl) (by kernel_rfl) (cs := [bodyOf F.slices_IndexFunc_Event 2]) (by kernel_rfl) (loopsc loopK_slices_IndexFunc_Event_2 loops0)) (S_fnR_of fun d K h => (e_slices_IndexFunc_Event d.1 K).trans (v_slices_IndexFunc_Event d.1 h K))
end Go.Ev.Seat
end
section
/- slices_ContainsFunc_Event: its contract. -/
namespace Go.Ev.Seat
open Go.RowKit
set_option maxRecDepth 100000
set_option linter.unusedVariables false
set_option linter.unusedSimpArgs false
noncomputable abbrev E_slices_ContainsFunc_Event : Env := En [(N.slices_IndexFunc_Event, true, S_slices_IndexFunc_Event)] [] [] [] false 0 []
noncomputable def T_slices_ContainsFunc_Event (l : List T_Event) (K : Ret → Option Ret) : Option Ret :=
 (bif (Nat.ble (List.length l) 1048576) then
 K ((.s (.bool (decide ((idxF (fun x => (!(eventOkD x))) l) ≥ (0 : Int))))), [])
 else none)
theorem e_slices_ContainsFunc_Event (l : List T_Event) (K : Ret → Option Ret) : evF E_slices_ContainsFunc_Event true F.slices_ContainsFunc_Event [.l .no eventR l, .f N.i_areEvents_1 []] K = T_slices_ContainsFunc_Event l K := by kernel_rfl
def S_slices_ContainsFunc_Event : Sm := S_fnR [.l eventR, .sh (.f N.i_areEvents_1 .nil)] (fun d => Nat.ble d.1.length 1048576) (fun d => (bl (d.1.any (fun x => !(eventOkD x))), []))
theorem v_slices_ContainsFunc_Event (l : List T_Event) (h : (Nat.ble l.length 1048576) = true) (K : Ret → Option Ret) : T_slices_ContainsFunc_Event l K = K (bl (l.any (fun x => !(eventOkD x))), []) := by
  unfold T_slices_ContainsFunc_Event
  first | rw [h] | skip
  rw [← idxF_any]; rfl
theorem okS_slices_ContainsFunc_Event : OkFn prog I N.slices_ContainsFunc_Event true S_slices_ContainsFunc_Event := okN (ok_fn (memc okS_slices_IndexFunc_Event mem0) (l := [(N.slices_IndexFunc_Event, true, S_slices_IndexFunc_Event)]) (p := []) (ls := []) (lend := []) (focus := false) (fuel := 0) (give := []) (fn := F.slices_ContainsFunc_Event) (by kernel_rfl) (by kernel_rfl) (by kernel_rfl) (by kernel_rfl) (cs := []) (by kernel_rfl) loops0) (S_fnR_of fun d K h => (e_slices_ContainsFunc_Event d.1 K).trans (v_slices_ContainsFunc_Event d.1 h K))
end Go.Ev.Seat
end
section
/- i_areEvents: its contract. -/
namespace Go.Ev.Seat
open Go.RowKit
set_option maxRecDepth 100000
set_option linter.unusedVariables false
set_option linter.unusedSimpArgs false
noncomputable abbrev E_i_areEvents : Env := En [(N.slices_ContainsFunc_Event, true, S_slices_ContainsFunc_Event)] [] [] [] false 0 []
noncomputable def T_i_areEvents (l : List T_Event) (K : Ret → Option Ret) : Option Ret :=
 (bif (decide ((((List.length l) : Nat) : Int) ≤ (300 : Int))) then
 (bif (Nat.ble (List.length l) 1048576) then
  K ((.s (.bool (!(List.any l (fun x => (!(eventOkD x))))))), [])
  else none)
 else K ((.s (.bool false)), []))
theorem e_i_areEvents (l : List T_Event) (K : Ret → Option Ret) : evF E_i_areEvents true F.i_areEvents [.l .no eventR l] K = T_i_areEvents l K := by kernel_rfl
def S_i_areEvents : Sm := S_fnR [.l eventR] (fun d => Nat.ble d.1.length 1048576) (fun d => (bl (eventsOkD d.1), []))
theorem v_i_areEvents (l : List T_Event) (h : (Nat.ble l.length 1048576) = true) (K : Ret → Option Ret) : T_i_areEvents l K = K (bl (eventsOkD l), []) := by
  unfold T_i_areEvents eventsOkD
  rw [h, List.all_eq_not_any_not]
  cases decide (((l.length : Nat) : Int) ≤ 300) <;> rfl
theorem okS_i_areEvents : OkFn prog I N.i_areEvents true S_i_areEvents := okN (ok_fn (memc okS_slices_ContainsFunc_Event mem0) (l := [(N.slices_ContainsFunc_Event, true, S_slices_ContainsFunc_Event)]) (p := []) (ls := []) (lend := []) (focus := false) (fuel := 0) (give := []) (fn := F.i_areEvents) (by kernel_rfl) (by kernel_rfl) (by kernel_rfl) (by kernel_rfl) (cs := []) (by kernel_rfl) loops0) (S_fnR_of fun d K h => (e_i_areEvents d.1 K).trans (v_i_areEvents d.1 h K))
end Go.Ev.Seat
end
section
/- i_isWord: its contract. -/
namespace Go.Ev.Seat
open Go.RowKit
set_option maxRecDepth 100000
set_option linter.unusedVariables false
set_option linter.unusedSimpArgs false
noncomputable abbrev E_i_isWord : Env := En [(N.i_in, true, S_i_in)] [] [] [] false 0 []
noncomputable def T_i_isWord (n : Int) (K : Ret → Option Ret) : Option Ret :=
 K ((.s (.bool ((decide ((0 : Int) ≤ n)) && (decide (n ≤ (65535 : Int)))))), [])
theorem e_i_isWord (n : Int) (K : Ret → Option Ret) : evF E_i_isWord true F.i_isWord [.s (.int .i64 n)] K = T_i_isWord n K := by kernel_rfl
def S_i_isWord : Sm := S_fnR [.i] (fun d => true) (fun d => (bl (isWordD d.1), []))
theorem v_i_isWord (n : Int) (K : Ret → Option Ret) : T_i_isWord n K = K (bl (isWordD n), []) := rfl
theorem okS_i_isWord : OkFn prog I N.i_isWord true S_i_isWord := okN (ok_fn (memc okS_i_in mem0) (l := [(N.i_in, true, S_i_in)]) (p := []) (ls := []) (lend := []) (focus := false) (fuel := 0) (give := []) (fn := F.i_isWord) (by kernel_rfl) (by kernel_rfl) (by kernel_rfl) (by kernel_rfl) (cs := []) (by kernel_rfl) loops0) (S_fnR_of fun d K h => (e_i_isWord d.1 K).trans (v_i_isWord d.1 K))
end Go.Ev.Seat
end
section
/- utf8_word_bytes: its contract. -/
namespace Go.Ev.Seat
open Go.RowKit
set_option maxRecDepth 100000
set_option linter.unusedVariables false
set_option linter.unusedSimpArgs false
def w8 (p : List Int) : Int := bor .u64 (bor .u64 (bor .u64 (bor .u64 (bor .u64 (bor .u64 (bor .u64 (IntKind.wrap .u64 (p.getD 0 0)) (shlI .u64 (IntKind.wrap .u64 (p.getD 1 0)) 8)) (shlI .u64 (IntKind.wrap .u64 (p.getD 2 0)) 16)) (shlI .u64 (IntKind.wrap .u64 (p.getD 3 0)) 24)) (shlI .u64 (IntKind.wrap .u64 (p.getD 4 0)) 32)) (shlI .u64 (IntKind.wrap .u64 (p.getD 5 0)) 40)) (shlI .u64 (IntKind.wrap .u64 (p.getD 6 0)) 48)) (shlI .u64 (IntKind.wrap .u64 (p.getD 7 0)) 56)
noncomputable abbrev E_utf8_word_bytes : Env := En [] [(1, takes [0, 1, 2, 3, 4, 5, 6, 7, 8, 9, 10, 11, 12, 13, 14, 15, 16, 17, 18, 19, 20, 21, 22], []), (2, takes [0, 1, 2, 3, 4, 5, 6, 7, 8, 9, 10, 11, 12, 13, 14, 15, 16, 17, 18, 19, 20, 21, 22, 23, 24, 25, 26, 27, 28, 29, 30, 31, 32, 33, 34, 35, 36, 37, 38, 39, 40, 41, 42, 43, 44, 45, 46], [])] [] [] false 0 []
noncomputable def T_utf8_word_bytes (p : List Int) (K : Ret → Option Ret) : Option Ret :=
 (bif (decide ((0 : Int) < (((List.length p) : Nat) : Int))) then
 (bif (decide ((1 : Int) < (((List.length p) : Nat) : Int))) then
  (bif (decide ((2 : Int) < (((List.length p) : Nat) : Int))) then
   (bif (decide ((3 : Int) < (((List.length p) : Nat) : Int))) then
    (bif (decide ((4 : Int) < (((List.length p) : Nat) : Int))) then
     (bif (decide ((5 : Int) < (((List.length p) : Nat) : Int))) then
      (bif (decide ((6 : Int) < (((List.length p) : Nat) : Int))) then
       (bif (decide ((7 : Int) < (((List.length p) : Nat) : Int))) then
        K ((.s (.int .u64 (bor .u64 (bor .u64 (bor .u64 (bor .u64 (bor .u64 (bor .u64 (bor .u64 (IntKind.wrap .u64 (List.getD p 0 (0 : Int))) (shlI .u64 (IntKind.wrap .u64 (List.getD p 1 (0 : Int))) (8 : Int))) (shlI .u64 (IntKind.wrap .u64 (List.getD p 2 (0 : Int))) (16 : Int))) (shlI .u64 (IntKind.wrap .u64 (List.getD p 3 (0 : Int))) (24 : Int))) (shlI .u64 (IntKind.wrap .u64 (List.getD p 4 (0 : Int))) (32 : Int))) (shlI .u64 (IntKind.wrap .u64 (List.getD p 5 (0 : Int))) (40 : Int))) (shlI .u64 (IntKind.wrap .u64 (List.getD p 6 (0 : Int))) (48 : Int))) (shlI .u64 (IntKind.wrap .u64 (List.getD p 7 (0 : Int))) (56 : Int))))), [])
        else none)
       else none)
      else none)
     else none)
    else none)
   else none)
  else none)
 else none)
theorem e_utf8_word_bytes (p : List Int) (K : Ret → Option Ret) : evF E_utf8_word_bytes true F.utf8_word_bytes [.l .no bytesR p] K = T_utf8_word_bytes p K := by kernel_rfl
def S_utf8_word_bytes : Sm := S_fnR [.l bytesR] (fun d => Nat.ble 8 d.1.length) (fun d => (.s (.int .u64 (w8 d.1)), []))
theorem v_utf8_word_bytes (p : List Int) (h : (Nat.ble 8 p.length) = true) (K : Ret → Option Ret) : T_utf8_word_bytes p K = K (.s (.int .u64 (w8 p)), []) := by
  have h' := Nat.le_of_ble_eq_true h
  unfold T_utf8_word_bytes
  simp (disch := omega) only [decide_eq_true, Bool.true_and, cond_true]
  rfl
theorem okS_utf8_word_bytes : OkFn prog I N.utf8_word_bytes true S_utf8_word_bytes := okN (ok_fn mem0 (l := []) (p := [(1, takes [0, 1, 2, 3, 4, 5, 6, 7, 8, 9, 10, 11, 12, 13, 14, 15, 16, 17, 18, 19, 20, 21, 22], []), (2, takes [0, 1, 2, 3, 4, 5, 6, 7, 8, 9, 10, 11, 12, 13, 14, 15, 16, 17, 18, 19, 20, 21, 22, 23, 24, 25, 26, 27, 28, 29, 30, 31, 32, 33, 34, 35, 36, 37, 38, 39, 40, 41, 42, 43, 44, 45, 46], [])]) (ls := []) (lend := []) (focus := false) (fuel := 0) (give := []) (fn := F.utf8_word_bytes) (by kernel_rfl) (by kernel_rfl) (by kernel_rfl) (by kernel_rfl) (cs := []) (by kernel_rfl) loops0) (S_fnR_of fun d K h => (e_utf8_word_bytes d.1 K).trans (v_utf8_word_bytes d.1 h K))
end Go.Ev.Seat
end
section
/- utf8_Valid: its contract. -/
namespace Go.Ev.Seat
open Go.RowKit
set_option maxRecDepth 100000
set_option linter.unusedVariables false
set_option linter.unusedSimpArgs false
def z_utf8_Valid_10_0 (x0 : List Int) (x3 : Int) : St := { tm := ([(.l .no bytesR x0), .x, .x, (.s (.int .u8 x3))] ++ List.replicate 184 .x), ob := [], nx := 0, io := [] }
def sh_utf8_Valid_10_0 : Ss := { tm := (.cons (.l .no bytesR) (.cons (.x) (.cons (.x) (.cons (.int .u8) (xsh 184))))), ob := .nil, nx := 0, io := .nil }
def d_utf8_Valid_10_0 (x0 : List Int) (x3 : Int) : sh_utf8_Valid_10_0.T := ((x0, ((), ((), (x3, xd 184)))), (), ())
def s_utf8_Valid_10_0 (x0 : List Int) (x3 : Int) : St := { tm := ([(.l .no bytesR x0), .x, .x, (.s (.int .u8 x3))] ++ List.replicate 184 .x), ob := [], nx := 0, io := [] }
theorem se_utf8_Valid_10_0 (x0 : List Int) (x3 : Int) : sh_utf8_Valid_10_0.mk' (d_utf8_Valid_10_0 x0 x3) = (s_utf8_Valid_10_0 x0 x3) := by kernel_rfl
def w_utf8_Valid_10_0 (d : sh_utf8_Valid_10_0.T) (f : (List Int) → Int → Option Ret) : Option Ret := match d with | ((x0, (_, (_, (x3, _)))), _, _) => f x0 x3
noncomputable def P_utf8_Valid_10_0 (x0 : List Int) (x3 : Int) (nx0 : (List Int) → Int → Option Ret) (k0 : (List Int) → Int → Option Ret) : Option Ret :=
 (bif (decide ((((List.length x0) : Nat) : Int) > (32 : Int))) then
 (bif (decide ((8 : Int) ≤ (((List.length x0) : Nat) : Int))) then
  (bif (decide ((16 : Int) ≤ (((List.length x0) : Nat) : Int))) then
   (bif (decide ((24 : Int) ≤ (((List.length x0) : Nat) : Int))) then
    (bif (Nat.ble 8 (List.length x0)) then
     (bif (Nat.ble 8 (List.length (List.drop 8 x0))) then
      (bif (Nat.ble 8 (List.length (List.drop 16 x0))) then
       (bif (Nat.ble 8 (List.length (List.drop 24 x0))) then
        (bif ((band .u64 (bor .u64 (bor .u64 (w8 x0) (w8 (List.drop 8 x0))) (bor .u64 (w8 (List.drop 16 x0)) (w8 (List.drop 24 x0)))) (9259542123273814144 : Int)) == (0 : Int)) then
         (bif (decide ((32 : Int) ≤ (((List.length x0) : Nat) : Int))) then
          (nx0 (List.drop 32 x0) x3)
          else none)
         else (k0 x0 x3))
        else none)
       else none)
      else none)
     else none)
    else none)
   else none)
  else none)
 else (k0 x0 x3))
noncomputable def Q_utf8_Valid_10_0 : Nat → (List Int) → Int → ((List Int) → Int → Option Ret) → Option Ret
  | 0, _, _, _ => none
  | m + 1, x0, x3, k0 => P_utf8_Valid_10_0 x0 x3 (fun x0 x3 => (Q_utf8_Valid_10_0 m x0 x3 k0)) k0
noncomputable def R_utf8_Valid_10_0 (x0 : List Int) (x3 : Int) (k0 : (List Int) → Int → Option Ret) : Option Ret := Q_utf8_Valid_10_0 (List.length x0 + x3.toNat + 2) x0 x3 k0
noncomputable def W_utf8_Valid_10 : LoopFn := (fun (σ : St) (K : Ex → St → Option Ret) => (match sh_utf8_Valid_10_0.un σ with | some d => w_utf8_Valid_10_0 d (fun x0 x3 => R_utf8_Valid_10_0 x0 x3 (fun x0 x3 => (K (.ext 2) (z_utf8_Valid_10_0 x0 x3)))) | none => none))
def z_utf8_Valid_2_0 (x2 : Bool) : St := { tm := ([.x, .x, (.s (.bool x2))] ++ List.replicate 185 .x), ob := [], nx := 0, io := [] }
def z_utf8_Valid_2_1 : St := { tm := ([] ++ List.replicate 188 .x), ob := [], nx := 0, io := [] }
def sh_utf8_Valid_2_0 : Ss := { tm := (.cons (.l .no bytesR) (xsh 187)), ob := .nil, nx := 0, io := .nil }
def d_utf8_Valid_2_0 (x0 : List Int) : sh_utf8_Valid_2_0.T := ((x0, xd 187), (), ())
def s_utf8_Valid_2_0 (x0 : List Int) : St := { tm := ([(.l .no bytesR x0)] ++ List.replicate 187 .x), ob := [], nx := 0, io := [] }
theorem se_utf8_Valid_2_0 (x0 : List Int) : sh_utf8_Valid_2_0.mk' (d_utf8_Valid_2_0 x0) = (s_utf8_Valid_2_0 x0) := by kernel_rfl
def w_utf8_Valid_2_0 (d : sh_utf8_Valid_2_0.T) (f : (List Int) → Option Ret) : Option Ret := match d with | ((x0, _), _, _) => f x0
noncomputable def P_utf8_Valid_2_0 (x0 : List Int) (nx0 : (List Int) → Option Ret) (k0 : Bool → Option Ret) (k1 : Option Ret) : Option Ret :=
 (bif (decide ((((List.length x0) : Nat) : Int) > (0 : Int))) then
 (bif (decide ((0 : Int) < (((List.length x0) : Nat) : Int))) then
  (bif (decide ((List.getD x0 0 (0 : Int)) < (128 : Int))) then
   (bif (decide ((1 : Int) ≤ (((List.length x0) : Nat) : Int))) then
    (bif (decide ((((List.length (List.drop 1 x0)) : Nat) : Int) > (8 : Int))) then
     (bif (Nat.ble 8 (List.length (List.drop 1 x0))) then
      (bif ((band .u64 (w8 (List.drop 1 x0)) (9259542123273814144 : Int)) == (0 : Int)) then
       (bif (decide ((8 : Int) ≤ (((List.length (List.drop 1 x0)) : Nat) : Int))) then
        (bif (decide ((((List.length (List.drop 8 (List.drop 1 x0))) : Nat) : Int) > (16 : Int))) then
         (bif (decide ((8 : Int) ≤ (((List.length (List.drop 8 (List.drop 1 x0))) : Nat) : Int))) then
          (bif (Nat.ble 8 (List.length (List.drop 8 (List.drop 1 x0)))) then
           (bif (Nat.ble 8 (List.length (List.drop 8 (List.drop 8 (List.drop 1 x0))))) then
            (bif ((band .u64 (bor .u64 (w8 (List.drop 8 (List.drop 1 x0))) (w8 (List.drop 8 (List.drop 8 (List.drop 1 x0))))) (9259542123273814144 : Int)) == (0 : Int)) then
             (bif (decide ((16 : Int) ≤ (((List.length (List.drop 8 (List.drop 1 x0))) : Nat) : Int))) then
              (R_utf8_Valid_10_0 (List.drop 16 (List.drop 8 (List.drop 1 x0))) (List.getD x0 0 (0 : Int)) (fun y0 y1 =>
               (nx0 y0)))
              else none)
             else (nx0 (List.drop 8 (List.drop 1 x0))))
            else none)
           else none)
          else none)
         else (nx0 (List.drop 8 (List.drop 1 x0))))
        else none)
       else (nx0 (List.drop 1 x0)))
      else none)
     else (nx0 (List.drop 1 x0)))
    else none)
   else (bif ((decide ((0 : Int) ≤ (List.getD x0 0 (0 : Int)))) && (decide ((List.getD x0 0 (0 : Int)) < ((256 : Nat) : Int)))) then
    (bif (Nat.blt (Int.toNat (List.getD x0 0 (0 : Int))) (List.length utfFirst)) then
     (bif ((decide ((0 : Int) ≤ (shrI .u8 (List.getD utfFirst (Int.toNat (List.getD x0 0 (0 : Int))) (0 : Int)) (4 : Int)))) && (decide ((shrI .u8 (List.getD utfFirst (Int.toNat (List.getD x0 0 (0 : Int))) (0 : Int)) (4 : Int)) < ((16 : Nat) : Int)))) then
      (bif (Nat.blt (Int.toNat (shrI .u8 (List.getD utfFirst (Int.toNat (List.getD x0 0 (0 : Int))) (0 : Int)) (4 : Int))) (List.length utfAccept)) then
       (bif ((IntKind.wrap .i64 (band .u8 (List.getD utfFirst (Int.toNat (List.getD x0 0 (0 : Int))) (0 : Int)) (7 : Int))) == (2 : Int)) then
        (bif (decide ((((List.length x0) : Nat) : Int) < (2 : Int))) then
         (k0 false)
         else (bif (decide ((1 : Int) < (((List.length x0) : Nat) : Int))) then
          (bif (decide ((List.getD x0 1 (0 : Int)) < (List.getD utfAccept (Int.toNat (shrI .u8 (List.getD utfFirst (Int.toNat (List.getD x0 0 (0 : Int))) (0 : Int)) (4 : Int))) (accR.dflt)).1)) then
           (k0 false)
           else (bif (decide ((1 : Int) < (((List.length x0) : Nat) : Int))) then
            (bif (decide ((List.getD utfAccept (Int.toNat (shrI .u8 (List.getD utfFirst (Int.toNat (List.getD x0 0 (0 : Int))) (0 : Int)) (4 : Int))) (accR.dflt)).2 < (List.getD x0 1 (0 : Int)))) then
             (k0 false)
             else (bif (decide ((2 : Int) ≤ (((List.length x0) : Nat) : Int))) then
              (nx0 (List.drop 2 x0))
              else none))
            else none))
          else none))
        else (bif ((IntKind.wrap .i64 (band .u8 (List.getD utfFirst (Int.toNat (List.getD x0 0 (0 : Int))) (0 : Int)) (7 : Int))) == (3 : Int)) then
         (bif (decide ((((List.length x0) : Nat) : Int) < (3 : Int))) then
          (k0 false)
          else (bif (decide ((1 : Int) < (((List.length x0) : Nat) : Int))) then
           (bif (decide ((List.getD x0 1 (0 : Int)) < (List.getD utfAccept (Int.toNat (shrI .u8 (List.getD utfFirst (Int.toNat (List.getD x0 0 (0 : Int))) (0 : Int)) (4 : Int))) (accR.dflt)).1)) then
            (k0 false)
            else (bif (decide ((1 : Int) < (((List.length x0) : Nat) : Int))) then
             (bif (decide ((List.getD utfAccept (Int.toNat (shrI .u8 (List.getD utfFirst (Int.toNat (List.getD x0 0 (0 : Int))) (0 : Int)) (4 : Int))) (accR.dflt)).2 < (List.getD x0 1 (0 : Int)))) then
              (k0 false)
              else (bif (decide ((2 : Int) < (((List.length x0) : Nat) : Int))) then
               (bif (decide ((List.getD x0 2 (0 : Int)) < (128 : Int))) then
                (k0 false)
                else (bif (decide ((2 : Int) < (((List.length x0) : Nat) : Int))) then
                 (bif (decide ((191 : Int) < (List.getD x0 2 (0 : Int)))) then
                  (k0 false)
                  else (bif (decide ((3 : Int) ≤ (((List.length x0) : Nat) : Int))) then
                   (nx0 (List.drop 3 x0))
                   else none))
                 else none))
               else none))
             else none))
           else none))
         else (bif ((IntKind.wrap .i64 (band .u8 (List.getD utfFirst (Int.toNat (List.getD x0 0 (0 : Int))) (0 : Int)) (7 : Int))) == (4 : Int)) then
          (bif (decide ((((List.length x0) : Nat) : Int) < (4 : Int))) then
           (k0 false)
           else (bif (decide ((1 : Int) < (((List.length x0) : Nat) : Int))) then
            (bif (decide ((List.getD x0 1 (0 : Int)) < (List.getD utfAccept (Int.toNat (shrI .u8 (List.getD utfFirst (Int.toNat (List.getD x0 0 (0 : Int))) (0 : Int)) (4 : Int))) (accR.dflt)).1)) then
             (k0 false)
             else (bif (decide ((1 : Int) < (((List.length x0) : Nat) : Int))) then
              (bif (decide ((List.getD utfAccept (Int.toNat (shrI .u8 (List.getD utfFirst (Int.toNat (List.getD x0 0 (0 : Int))) (0 : Int)) (4 : Int))) (accR.dflt)).2 < (List.getD x0 1 (0 : Int)))) then
               (k0 false)
               else (bif (decide ((2 : Int) < (((List.length x0) : Nat) : Int))) then
                (bif (decide ((List.getD x0 2 (0 : Int)) < (128 : Int))) then
                 (k0 false)
                 else (bif (decide ((2 : Int) < (((List.length x0) : Nat) : Int))) then
                  (bif (decide ((191 : Int) < (List.getD x0 2 (0 : Int)))) then
                   (k0 false)
                   else (bif (decide ((3 : Int) < (((List.length x0) : Nat) : Int))) then
                    (bif (decide ((List.getD x0 3 (0 : Int)) < (128 : Int))) then
                     (k0 false)
                     else (bif (decide ((3 : Int) < (((List.length x0) : Nat) : Int))) then
                      (bif (decide ((191 : Int) < (List.getD x0 3 (0 : Int)))) then
                       (k0 false)
                       else (bif (decide ((4 : Int) ≤ (((List.length x0) : Nat) : Int))) then
                        (nx0 (List.drop 4 x0))
                        else none))
                      else none))
                    else none))
                  else none))
                else none))
              else none))
            else none))
          else (k0 false))))
       else none)
      else none)
     else none)
    else none))
  else none)
 else k1)
noncomputable def Q_utf8_Valid_2_0 : Nat → (List Int) → (Bool → Option Ret) → (Option Ret) → Option Ret
  | 0, _, _, _ => none
  | m + 1, x0, k0, k1 => P_utf8_Valid_2_0 x0 (fun x0 => (Q_utf8_Valid_2_0 m x0 k0 k1)) k0 k1
noncomputable def R_utf8_Valid_2_0 (x0 : List Int) (k0 : Bool → Option Ret) (k1 : Option Ret) : Option Ret := Q_utf8_Valid_2_0 (List.length x0 + 2) x0 k0 k1
noncomputable def W_utf8_Valid_2 : LoopFn := (fun (σ : St) (K : Ex → St → Option Ret) => (match sh_utf8_Valid_2_0.un σ with | some d => w_utf8_Valid_2_0 d (fun x0 => R_utf8_Valid_2_0 x0 (fun x2 => (K .ret (z_utf8_Valid_2_0 x2))) (K (.ext 0) z_utf8_Valid_2_1)) | none => none))
noncomputable abbrev E_utf8_Valid : Env := En [(N.utf8_word_bytes, true, S_utf8_word_bytes)] [(8, takeB [0, 1, 2, 3, 4, 6, 7] (.fork (.one 5 (.fork (.one 8 (takes [9, 10, 11, 12]))))), []), (10, takeB [0, 1, 2, 3, 4, 6, 7, 10, 11, 13, 14] (.fork (.one 5 (.fork (.one 8 (takeB [9] (.fork (.one 12 (.fork (.one 15 (takes [16, 17, 18, 19, 20])))))))))), []), (18, takes [0, 1, 2, 3, 4, 5, 6, 7, 8, 9, 10, 11, 12, 13, 14, 15, 16, 17, 18], []), (22, takes [0, 1, 2, 3, 4, 5, 6, 7, 8, 9, 10, 11, 12, 13, 14, 15, 16, 17, 18, 19, 20, 21, 22, 23, 24, 25, 26, 27, 28, 29, 30], []), (26, takes [0, 1, 2, 3, 4, 5, 6, 7, 8, 9, 10, 11, 12, 13, 14, 15, 16, 17, 18, 19, 20, 21, 22, 23, 24, 25, 26, 27, 28, 29, 30, 31, 32, 33, 34, 35, 36, 37, 38, 39, 40, 41, 42], [])] [(10, [0,3], [0,2,3], W_utf8_Valid_10), (2, [0], [2], W_utf8_Valid_2)] [] false 0 []
theorem st_utf8_Valid_10_0 (m : Nat) (x0 : List Int) (x3 : Int) (K : Ex → St → Option Ret) : rounds (run E_utf8_Valid (bodyOf F.utf8_Valid 10)) [0,3] [0,2,3] (m + 1) (s_utf8_Valid_10_0 x0 x3) K = P_utf8_Valid_10_0 x0 x3 (fun x0 x3 => (rounds (run E_utf8_Valid (bodyOf F.utf8_Valid 10)) [0,3] [0,2,3] m (s_utf8_Valid_10_0 x0 x3) K)) (fun x0 x3 => (K (.ext 2) (z_utf8_Valid_10_0 x0 x3))) := by kernel_rfl
theorem q_utf8_Valid_10 (K : Ex → St → Option Ret) : ∀ m : Nat, (∀ (x0 : List Int) (x3 : Int), rounds (run E_utf8_Valid (bodyOf F.utf8_Valid 10)) [0,3] [0,2,3] m (s_utf8_Valid_10_0 x0 x3) K = Q_utf8_Valid_10_0 m x0 x3 (fun x0 x3 => (K (.ext 2) (z_utf8_Valid_10_0 x0 x3))))
  | 0 => (fun _ _ => rfl)
  | m + 1 => (fun x0 x3 => (by rw [st_utf8_Valid_10_0, show (fun x0 x3 => (rounds (run E_utf8_Valid (bodyOf F.utf8_Valid 10)) [0,3] [0,2,3] m (s_utf8_Valid_10_0 x0 x3) K)) = (fun x0 x3 => (Q_utf8_Valid_10_0 m x0 x3 (fun x0 x3 => (K (.ext 2) (z_utf8_Valid_10_0 x0 x3))))) from funext fun x0 => funext fun x3 => (q_utf8_Valid_10 K m) x0 x3]; rfl))
theorem loopK_utf8_Valid_10 : LoopOk E_utf8_Valid (bodyOf F.utf8_Valid 10) := by
  refine loopW_ok (n := 10) (F := W_utf8_Valid_10) (by kernel_rfl) rfl (li := [0,3]) (lo := [0,2,3]) rfl (fun σ K r hr => ?_)
  unfold W_utf8_Valid_10 at hr
  split at hr
  · rename_i d hd
    rw [Ss.un_mk hd]
    exact ⟨_, ((congrArg (fun z => rounds (run E_utf8_Valid (bodyOf F.utf8_Valid 10)) [0,3] [0,2,3] _ z K) (se_utf8_Valid_10_0 _ _)).trans ((q_utf8_Valid_10 K _) _ _)).trans hr⟩
  · cases hr
theorem st_utf8_Valid_2_0 (m : Nat) (x0 : List Int) (K : Ex → St → Option Ret) : rounds (run E_utf8_Valid (bodyOf F.utf8_Valid 2)) [0] [2] (m + 1) (s_utf8_Valid_2_0 x0) K = P_utf8_Valid_2_0 x0 (fun x0 => (rounds (run E_utf8_Valid (bodyOf F.utf8_Valid 2)) [0] [2] m (s_utf8_Valid_2_0 x0) K)) (fun x2 => (K .ret (z_utf8_Valid_2_0 x2))) (K (.ext 0) z_utf8_Valid_2_1) := by kernel_rfl
theorem q_utf8_Valid_2 (K : Ex → St → Option Ret) : ∀ m : Nat, (∀ (x0 : List Int), rounds (run E_utf8_Valid (bodyOf F.utf8_Valid 2)) [0] [2] m (s_utf8_Valid_2_0 x0) K = Q_utf8_Valid_2_0 m x0 (fun x2 => (K .ret (z_utf8_Valid_2_0 x2))) (K (.ext 0) z_utf8_Valid_2_1))
  | 0 => (fun _ => rfl)
  | m + 1 => (fun x0 => (by rw [st_utf8_Valid_2_0, show (fun x0 => (rounds (run E_utf8_Valid (bodyOf F.utf8_Valid 2)) [0] [2] m (s_utf8_Valid_2_0 x0) K)) = (fun x0 => (Q_utf8_Valid_2_0 m x0 (fun x2 => (K .ret (z_utf8_Valid_2_0 x2))) (K (.ext 0) z_utf8_Valid_2_1))) from funext fun x0 => (q_utf8_Valid_2 K m) x0]; rfl))
theorem loopK_utf8_Valid_2 : LoopOk E_utf8_Valid (bodyOf F.utf8_Valid 2) := by
  refine loopW_ok (n := 2) (F := W_utf8_Valid_2) (by kernel_rfl) rfl (li := [0]) (lo := [2]) rfl (fun σ K r hr => ?_)
  unfold W_utf8_Valid_2 at hr
  split at hr
  · rename_i d hd
    rw [Ss.un_mk hd]
    exact ⟨_, ((congrArg (fun z => rounds (run E_utf8_Valid (bodyOf F.utf8_Valid 2)) [0] [2] _ z K) (se_utf8_Valid_2_0 _)).trans ((q_utf8_Valid_2 K _) _)).trans hr⟩
  · cases hr
noncomputable def T_utf8_Valid (p : List Int) (K : Ret → Option Ret) : Option Ret :=
 (bif ((decide ((((List.length p) : Nat) : Int) ≤ (((List.length p) : Nat) : Int))) && (decide ((((List.length p) : Nat) : Int) ≤ (((List.length p) : Nat) : Int)))) then
 (R_utf8_Valid_2_0 (List.drop 0 (List.take (List.length p) p)) (fun y2 =>
  K ((.s (.bool y2)), [])) (K ((.s (.bool true)), [])))
 else none)
theorem e_utf8_Valid (p : List Int) (K : Ret → Option Ret) : evF E_utf8_Valid true F.utf8_Valid [.l .no bytesR p] K = T_utf8_Valid p K := by kernel_rfl
theorem w8_nat {xs : List Int} (h : fitB xs = true) : ∃ W : Nat, w8 xs = (W : Int) ∧ W < 18446744073709551616 ∧ (W &&& M8 = 0 ↔ ∀ i, i < 8 → xs.getD i 0 < 128) := by
  have hb : ∀ i : Nat, ∃ n : Nat, xs.getD i 0 = (n : Int) ∧ n < 256 := fun i => by
    have := fitB_get h i
    exact ⟨(xs.getD i 0).toNat, by omega, by omega⟩
  obtain ⟨n0, e0, l0⟩ := hb 0
  obtain ⟨n1, e1, l1⟩ := hb 1
  obtain ⟨n2, e2, l2⟩ := hb 2
  obtain ⟨n3, e3, l3⟩ := hb 3
  obtain ⟨n4, e4, l4⟩ := hb 4
  obtain ⟨n5, e5, l5⟩ := hb 5
  obtain ⟨n6, e6, l6⟩ := hb 6
  obtain ⟨n7, e7, l7⟩ := hb 7
  have o : ∀ {a b : Nat}, a < 18446744073709551616 → b < 18446744073709551616 → a ||| b < 18446744073709551616 := fun ha hb => Nat.or_lt_two_pow (n := 64) ha hb
  have s0 : n0 < 18446744073709551616 := by omega
  have s1 := shl_lt l1 (show 1 < 8 by omega)
  have s2 := shl_lt l2 (show 2 < 8 by omega)
  have s3 := shl_lt l3 (show 3 < 8 by omega)
  have s4 := shl_lt l4 (show 4 < 8 by omega)
  have s5 := shl_lt l5 (show 5 < 8 by omega)
  have s6 := shl_lt l6 (show 6 < 8 by omega)
  have s7 := shl_lt l7 (show 7 < 8 by omega)
  refine ⟨((((((n0 ||| n1 * 2 ^ (8 * 1)) ||| n2 * 2 ^ (8 * 2)) ||| n3 * 2 ^ (8 * 3)) ||| n4 * 2 ^ (8 * 4)) ||| n5 * 2 ^ (8 * 5)) ||| n6 * 2 ^ (8 * 6)) ||| n7 * 2 ^ (8 * 7), ?_, o (o (o (o (o (o (o s0 s1) s2) s3) s4) s5) s6) s7, ?_⟩
  · unfold w8
    rw [e0, e1, e2, e3, e4, e5, e6, e7]
    rw [show (8 : Int) = ((8 * 1 : Nat) : Int) from rfl, show (16 : Int) = ((8 * 2 : Nat) : Int) from rfl, show (24 : Int) = ((8 * 3 : Nat) : Int) from rfl, show (32 : Int) = ((8 * 4 : Nat) : Int) from rfl, show (40 : Int) = ((8 * 5 : Nat) : Int) from rfl, show (48 : Int) = ((8 * 6 : Nat) : Int) from rfl, show (56 : Int) = ((8 * 7 : Nat) : Int) from rfl]
    rw [shl64 l1 (by omega), shl64 l2 (by omega), shl64 l3 (by omega), shl64 l4 (by omega), shl64 l5 (by omega), shl64 l6 (by omega), shl64 l7 (by omega), wrap64 s0]
    rw [bor64 s0 s1, bor64 (o s0 s1) s2, bor64 (o (o s0 s1) s2) s3, bor64 (o (o (o s0 s1) s2) s3) s4, bor64 (o (o (o (o s0 s1) s2) s3) s4) s5, bor64 (o (o (o (o (o s0 s1) s2) s3) s4) s5) s6, bor64 (o (o (o (o (o (o s0 s1) s2) s3) s4) s5) s6) s7]
  · rw [or_mask, or_mask, or_mask, or_mask, or_mask, or_mask, or_mask, hi_ok l1 (by omega), hi_ok l2 (by omega), hi_ok l3 (by omega), hi_ok l4 (by omega), hi_ok l5 (by omega), hi_ok l6 (by omega), hi_ok l7 (by omega)]
    have h0 := hi_ok l0 (show 0 < 8 by omega)
    rw [show n0 * 2 ^ (8 * 0) = n0 by simp] at h0
    rw [h0]
    constructor
    · intro hh i hi
      have hc : i = 0 ∨ i = 1 ∨ i = 2 ∨ i = 3 ∨ i = 4 ∨ i = 5 ∨ i = 6 ∨ i = 7 := by omega
      rcases hc with rfl | rfl | rfl | rfl | rfl | rfl | rfl | rfl
      · rw [e0]; omega
      · rw [e1]; omega
      · rw [e2]; omega
      · rw [e3]; omega
      · rw [e4]; omega
      · rw [e5]; omega
      · rw [e6]; omega
      · rw [e7]; omega
    · intro hh
      have g0 := hh 0 (by omega)
      have g1 := hh 1 (by omega)
      have g2 := hh 2 (by omega)
      have g3 := hh 3 (by omega)
      have g4 := hh 4 (by omega)
      have g5 := hh 5 (by omega)
      have g6 := hh 6 (by omega)
      have g7 := hh 7 (by omega)
      rw [e0] at g0; rw [e1] at g1; rw [e2] at g2; rw [e3] at g3; rw [e4] at g4; rw [e5] at g5; rw [e6] at g6; rw [e7] at g7
      omega
theorem mask1 {xs : List Int} (h : fitB xs = true) (hm : (band .u64 (w8 xs) (9259542123273814144 : Int) == (0 : Int)) = true) : ∀ i, i < 8 → xs.getD i 0 < 128 := by
  obtain ⟨W, e, l, hw⟩ := w8_nat h
  rw [e, show (9259542123273814144 : Int) = ((M8 : Nat) : Int) from rfl, band64 l (by decide), beq_iff_eq] at hm
  exact hw.1 (by omega)
theorem mask2 {xs ys : List Int} (h : fitB xs = true) (h2 : fitB ys = true) (hm : (band .u64 (bor .u64 (w8 xs) (w8 ys)) (9259542123273814144 : Int) == (0 : Int)) = true) : (∀ i, i < 8 → xs.getD i 0 < 128) ∧ ∀ i, i < 8 → ys.getD i 0 < 128 := by
  obtain ⟨W, e, l, hw⟩ := w8_nat h
  obtain ⟨V, e2, l2, hv⟩ := w8_nat h2
  rw [e, e2, bor64 l l2, show (9259542123273814144 : Int) = ((M8 : Nat) : Int) from rfl, band64 (Nat.or_lt_two_pow (n := 64) l l2) (by decide), beq_iff_eq] at hm
  have : (W ||| V) &&& M8 = 0 := by omega
  rw [or_mask] at this
  exact ⟨hw.1 this.1, hv.1 this.2⟩
theorem mask4 {a b c d : List Int} (ha : fitB a = true) (hb : fitB b = true) (hc : fitB c = true) (hd : fitB d = true) (hm : (band .u64 (bor .u64 (bor .u64 (w8 a) (w8 b)) (bor .u64 (w8 c) (w8 d))) (9259542123273814144 : Int) == (0 : Int)) = true) :
    (∀ i, i < 8 → a.getD i 0 < 128) ∧ (∀ i, i < 8 → b.getD i 0 < 128) ∧ (∀ i, i < 8 → c.getD i 0 < 128) ∧ ∀ i, i < 8 → d.getD i 0 < 128 := by
  obtain ⟨A, e1, l1, h1⟩ := w8_nat ha
  obtain ⟨B, e2, l2, h2⟩ := w8_nat hb
  obtain ⟨C, e3, l3, h3⟩ := w8_nat hc
  obtain ⟨D, e4, l4, h4⟩ := w8_nat hd
  have o : ∀ {a b : Nat}, a < 18446744073709551616 → b < 18446744073709551616 → a ||| b < 18446744073709551616 := fun ha hb => Nat.or_lt_two_pow (n := 64) ha hb
  rw [e1, e2, e3, e4, bor64 l1 l2, bor64 l3 l4, bor64 (o l1 l2) (o l3 l4), show (9259542123273814144 : Int) = ((M8 : Nat) : Int) from rfl, band64 (o (o l1 l2) (o l3 l4)) (by decide), beq_iff_eq] at hm
  have : ((A ||| B) ||| (C ||| D)) &&& M8 = 0 := by omega
  rw [or_mask, or_mask, or_mask] at this
  exact ⟨h1.1 this.1.1, h2.1 this.1.2, h3.1 this.2.1, h4.1 this.2.2⟩
theorem ascii_more {xs : List Int} {n m : Nat} (h1 : ∀ i, i < n → xs.getD i 0 < 128) (h2 : ∀ i, i < m → (xs.drop n).getD i 0 < 128) : ∀ i, i < n + m → xs.getD i 0 < 128 := fun i hi => by
  by_cases h : i < n
  · exact h1 i h
  · have := h2 (i - n) (by omega)
    rw [getD_drop, show n + (i - n) = i by omega] at this
    exact this
theorem loop10 (k0 : List Int → Int → Option Ret) (x3 : Int) : ∀ (m : Nat) (xs : List Int), fitB xs = true → xs.length < m → ∃ ys, fitB ys = true ∧ ys.length ≤ xs.length ∧ valid ys = valid xs ∧ Q_utf8_Valid_10_0 m xs x3 k0 = k0 ys x3
  | 0, xs, _, h => absurd h (by omega)
  | m + 1, xs, hf, hl => by
    show ∃ ys, fitB ys = true ∧ ys.length ≤ xs.length ∧ valid ys = valid xs ∧ P_utf8_Valid_10_0 xs x3 _ k0 = k0 ys x3
    unfold P_utf8_Valid_10_0
    by_cases h32 : ((xs.length : Nat) : Int) > 32
    · simp (disch := omega) only [decide_eq_true, decide_eq_false, Bool.true_and, cond_true, List.length_drop, Nat.ble_eq_true_of_le]
      cases hm : (band .u64 (bor .u64 (bor .u64 (w8 xs) (w8 (List.drop 8 xs))) (bor .u64 (w8 (List.drop 16 xs)) (w8 (List.drop 24 xs)))) (9259542123273814144 : Int) == (0 : Int)) with
      | false => exact ⟨xs, hf, Nat.le_refl _, rfl, rfl⟩
      | true =>
        obtain ⟨a1, a2, a3, a4⟩ := mask4 hf (fitB_drop hf 8) (fitB_drop hf 16) (fitB_drop hf 24) hm
        have a := ascii_more (n := 24) (ascii_more (n := 16) (ascii_more (n := 8) a1 a2) a3) a4
        obtain ⟨ys, g1, g2, g3, g4⟩ := loop10 k0 x3 m (List.drop 32 xs) (fitB_drop hf 32) (by simp; omega)
        exact ⟨ys, g1, by simp at g2; omega, g3.trans (valid_drop 32 (by omega) a), g4⟩
    · rw [decide_eq_false h32]
      exact ⟨xs, hf, Nat.le_refl _, rfl, rfl⟩
theorem step2 (x0 : List Int) (hx : fitB x0 = true) (nx : List Int → Option Ret) (k0 : Bool → Option Ret) (k1 RES : Option Ret)
    (hn : ∀ ys, fitB ys = true → ys.length < x0.length → valid ys = valid x0 → nx ys = RES) (h1 : valid x0 = true → k1 = RES) (h0 : valid x0 = false → k0 false = RES) : P_utf8_Valid_2_0 x0 nx k0 k1 = RES := by
  unfold P_utf8_Valid_2_0
  by_cases hl : ((x0.length : Nat) : Int) > 0
  case neg =>
    rw [decide_eq_false hl]
    have : x0 = [] := List.length_eq_zero_iff.1 (by omega)
    exact h1 (by rw [this]; exact valid_nil)
  case pos =>
  have hb := fitB_get hx 0
  by_cases hb1 : x0.getD 0 0 < 128
  · have hd : ∀ n, 1 ≤ n → n ≤ x0.length → (∀ i, i < n → x0.getD i 0 < 128) → nx (x0.drop n) = RES := fun n hn1 hn2 ha => hn _ (fitB_drop hx n) (by simp; omega) (valid_drop n hn2 ha)
    have a0 : ∀ i, i < 1 → x0.getD i 0 < 128 := fun i hi => by rw [show i = 0 by omega]; exact hb1
    simp (disch := omega) only [decide_eq_true, Bool.true_and, cond_true, List.length_drop, List.drop_drop]
    by_cases h9 : ((x0.length - 1 : Nat) : Int) > 8
    case neg => rw [decide_eq_false h9]; exact hd 1 (by omega) (by omega) a0
    rw [decide_eq_true h9, Nat.ble_eq_true_of_le (show 8 ≤ x0.length - 1 by omega)]
    cases hm : (band .u64 (w8 (List.drop 1 x0)) (9259542123273814144 : Int) == (0 : Int)) with
    | false => exact hd 1 (by omega) (by omega) a0
    | true =>
    have a9 := ascii_more a0 (mask1 (fitB_drop hx 1) hm)
    rw [decide_eq_true (show (8 : Int) ≤ ((x0.length - 1 : Nat) : Int) by omega)]
    simp only [cond_true]
    by_cases h17 : ((x0.length - (1 + 8) : Nat) : Int) > 16
    case neg => rw [decide_eq_false h17]; exact hd 9 (by omega) (by omega) a9
    simp (disch := omega) only [decide_eq_true, Nat.ble_eq_true_of_le, Bool.true_and, cond_true]
    cases hm2 : (band .u64 (bor .u64 (w8 (List.drop (1 + 8) x0)) (w8 (List.drop (1 + 8 + 8) x0))) (9259542123273814144 : Int) == (0 : Int)) with
    | false => exact hd 9 (by omega) (by omega) a9
    | true =>
    obtain ⟨m1, m2⟩ := mask2 (fitB_drop hx _) (fitB_drop hx _) hm2
    have a25 := ascii_more (ascii_more a9 m1) m2
    unfold R_utf8_Valid_10_0
    obtain ⟨ys, g1, g2, g3, g4⟩ := loop10 (fun y0 y1 => nx y0) (x0.getD 0 0) ((List.drop (1 + 8 + 16) x0).length + (x0.getD 0 0).toNat + 2) (List.drop (1 + 8 + 16) x0) (fitB_drop hx _) (by omega)
    refine g4.trans (hn ys g1 ?_ (g3.trans (valid_drop 25 (by omega) a25)))
    simp at g2; omega
  · have hsh := first_sh hb.1 hb.2
    have hlen := first_len
    have hacc := accept_len
    have e1 : shrI .u8 (List.getD utfFirst (Int.toNat (List.getD x0 0 (0 : Int))) (0 : Int)) (4 : Int) = fsh (x0.getD 0 0) := rfl
    have e2 : IntKind.wrap .i64 (band .u8 (List.getD utfFirst (Int.toNat (List.getD x0 0 (0 : Int))) (0 : Int)) (7 : Int)) = fsz (x0.getD 0 0) := rfl
    have e3 : List.getD utfAccept (Int.toNat (fsh (x0.getD 0 0))) (Seat.accR.dflt) = fac (x0.getD 0 0) := rfl
    rw [e1, e2, e3]
    have c1 : Nat.blt (Int.toNat (List.getD x0 0 (0 : Int))) (List.length utfFirst) = true := by rw [hlen, Nat.blt_eq]; omega
    have c2 : Nat.blt (Int.toNat (fsh (x0.getD 0 0))) (List.length utfAccept) = true := by rw [hacc, Nat.blt_eq]; omega
    rw [c1, c2]
    simp (disch := omega) only [decide_eq_true, decide_eq_false, Bool.true_and, cond_true, cond_false]
    have stop : runeSz x0 = 0 → k0 false = RES := fun h => h0 (valid_stop h (by omega))
    have go : ∀ n, runeSz x0 = n → 1 ≤ n → nx (x0.drop n) = RES := fun n h hn1 => by
      subst h
      exact hn _ (fitB_drop hx _) (by have := runeSz_le x0; simp; omega) (valid_step (by omega)).symm
    by_cases r1 : x0.getD 0 0 < 194 ∨ 245 ≤ x0.getD 0 0
    · rw [first_1 (by omega) hb.2 r1]
      refine stop ?_
      unfold runeSz
      repeat' split
      all_goals first | omega | rfl
    by_cases r2 : x0.getD 0 0 < 224
    · obtain ⟨f1, f2⟩ := first_2 (by omega) r2
      rw [f1, f2]
      have er : runeSz x0 = if 2 ≤ x0.length ∧ 128 ≤ x0.getD 1 0 ∧ x0.getD 1 0 ≤ 191 then 2 else 0 := by
        unfold runeSz; rw [if_neg (by omega), if_neg (by omega), if_neg (by omega), if_pos r2]
      simp only [BEq.rfl, cond_true]
      by_cases c : ((x0.length : Nat) : Int) < 2
      · rw [decide_eq_true c]; exact stop (by rw [er, if_neg (by omega)])
      rw [decide_eq_false c, decide_eq_true (show (1 : Int) < ((x0.length : Nat) : Int) by omega)]
      simp only [cond_true, cond_false]
      by_cases d1 : x0.getD 1 0 < 128
      · rw [decide_eq_true d1]; exact stop (by rw [er, if_neg (by omega)])
      by_cases d2 : 191 < x0.getD 1 0
      · rw [decide_eq_false d1, decide_eq_true d2]; exact stop (by rw [er, if_neg (by omega)])
      rw [decide_eq_false d1, decide_eq_false d2, decide_eq_true (show (2 : Int) ≤ ((x0.length : Nat) : Int) by omega)]
      exact go 2 (by rw [er, if_pos (by omega)]) (by omega)
    by_cases r3 : x0.getD 0 0 < 240
    · obtain ⟨f1, f2⟩ := first_3 (by omega) r3
      rw [f1, f2]
      have er : runeSz x0 = if 3 ≤ x0.length ∧ lo3 (x0.getD 0 0) ≤ x0.getD 1 0 ∧ x0.getD 1 0 ≤ hi3 (x0.getD 0 0) ∧ 128 ≤ x0.getD 2 0 ∧ x0.getD 2 0 ≤ 191 then 3 else 0 := by
        unfold runeSz; rw [if_neg (by omega), if_neg (by omega), if_neg (by omega), if_neg (by omega), if_pos r3]
      rw [show ((3 : Int) == 2) = false from rfl]
      simp only [BEq.rfl, cond_true, cond_false]
      by_cases c : ((x0.length : Nat) : Int) < 3
      · rw [decide_eq_true c]; exact stop (by rw [er, if_neg (by omega)])
      rw [decide_eq_false c, decide_eq_true (show (1 : Int) < ((x0.length : Nat) : Int) by omega), decide_eq_true (show (2 : Int) < ((x0.length : Nat) : Int) by omega), decide_eq_true (show (3 : Int) ≤ ((x0.length : Nat) : Int) by omega)]
      simp only [cond_true, cond_false]
      by_cases d1 : x0.getD 1 0 < lo3 (x0.getD 0 0)
      · rw [decide_eq_true d1]; exact stop (by rw [er, if_neg (by omega)])
      by_cases d2 : hi3 (x0.getD 0 0) < x0.getD 1 0
      · rw [decide_eq_false d1, decide_eq_true d2]; exact stop (by rw [er, if_neg (by omega)])
      by_cases d3 : x0.getD 2 0 < 128
      · rw [decide_eq_false d1, decide_eq_false d2, decide_eq_true d3]; exact stop (by rw [er, if_neg (by omega)])
      by_cases d4 : 191 < x0.getD 2 0
      · rw [decide_eq_false d1, decide_eq_false d2, decide_eq_false d3, decide_eq_true d4]; exact stop (by rw [er, if_neg (by omega)])
      rw [decide_eq_false d1, decide_eq_false d2, decide_eq_false d3, decide_eq_false d4]
      exact go 3 (by rw [er, if_pos (by omega)]) (by omega)
    · obtain ⟨f1, f2⟩ := first_4 (b := x0.getD 0 0) (by omega) (by omega)
      rw [f1, f2]
      have er : runeSz x0 = if 4 ≤ x0.length ∧ lo4 (x0.getD 0 0) ≤ x0.getD 1 0 ∧ x0.getD 1 0 ≤ hi4 (x0.getD 0 0) ∧ 128 ≤ x0.getD 2 0 ∧ x0.getD 2 0 ≤ 191 ∧ 128 ≤ x0.getD 3 0 ∧ x0.getD 3 0 ≤ 191 then 4 else 0 := by
        unfold runeSz; rw [if_neg (by omega), if_neg (by omega), if_neg (by omega), if_neg (by omega), if_neg r3, if_pos (by omega)]
      rw [show ((4 : Int) == 2) = false from rfl, show ((4 : Int) == 3) = false from rfl]
      simp only [BEq.rfl, cond_true, cond_false]
      by_cases c : ((x0.length : Nat) : Int) < 4
      · rw [decide_eq_true c]; exact stop (by rw [er, if_neg (by omega)])
      rw [decide_eq_false c, decide_eq_true (show (1 : Int) < ((x0.length : Nat) : Int) by omega), decide_eq_true (show (2 : Int) < ((x0.length : Nat) : Int) by omega), decide_eq_true (show (3 : Int) < ((x0.length : Nat) : Int) by omega), decide_eq_true (show (4 : Int) ≤ ((x0.length : Nat) : Int) by omega)]
      simp only [cond_true, cond_false]
      by_cases d1 : x0.getD 1 0 < lo4 (x0.getD 0 0)
      · rw [decide_eq_true d1]; exact stop (by rw [er, if_neg (by omega)])
      by_cases d2 : hi4 (x0.getD 0 0) < x0.getD 1 0
      · rw [decide_eq_false d1, decide_eq_true d2]; exact stop (by rw [er, if_neg (by omega)])
      by_cases d3 : x0.getD 2 0 < 128
      · rw [decide_eq_false d1, decide_eq_false d2, decide_eq_true d3]; exact stop (by rw [er, if_neg (by omega)])
      by_cases d4 : 191 < x0.getD 2 0
      · rw [decide_eq_false d1, decide_eq_false d2, decide_eq_false d3, decide_eq_true d4]; exact stop (by rw [er, if_neg (by omega)])
      by_cases d5 : x0.getD 3 0 < 128
      · rw [decide_eq_false d1, decide_eq_false d2, decide_eq_false d3, decide_eq_false d4, decide_eq_true d5]; exact stop (by rw [er, if_neg (by omega)])
      by_cases d6 : 191 < x0.getD 3 0
      · rw [decide_eq_false d1, decide_eq_false d2, decide_eq_false d3, decide_eq_false d4, decide_eq_false d5, decide_eq_true d6]; exact stop (by rw [er, if_neg (by omega)])
      rw [decide_eq_false d1, decide_eq_false d2, decide_eq_false d3, decide_eq_false d4, decide_eq_false d5, decide_eq_false d6]
      exact go 4 (by rw [er, if_pos (by omega)]) (by omega)
theorem loop2 (k0 : Bool → Option Ret) (k1 : Option Ret) : ∀ (m : Nat) (xs : List Int), fitB xs = true → xs.length < m → Q_utf8_Valid_2_0 m xs k0 k1 = bif valid xs then k1 else k0 false
  | 0, xs, _, h => absurd h (by omega)
  | m + 1, xs, hf, hl => by
    show P_utf8_Valid_2_0 xs _ k0 k1 = _
    refine step2 xs hf _ k0 k1 _ (fun ys h1 h2 h3 => ?_) (fun h => by rw [h]; rfl) (fun h => by rw [h]; rfl)
    have := loop2 k0 k1 m ys h1 (by omega)
    rw [h3] at this
    exact this
def S_utf8_Valid : Sm := S_fnR [.l bytesR] (fun d => fitB d.1) (fun d => (bl (valid d.1), []))
theorem v_utf8_Valid (p : List Int) (h : (fitB p) = true) (K : Ret → Option Ret) : T_utf8_Valid p K = K (bl (valid p), []) := by
  unfold T_utf8_Valid R_utf8_Valid_2_0
  rw [decide_eq_true (Int.le_refl _), List.take_length]
  simp only [Bool.true_and, cond_true, List.drop_zero]
  rw [loop2 _ _ _ p h (by omega)]
  cases valid p <;> rfl
theorem okS_utf8_Valid : OkFn prog I N.utf8_Valid true S_utf8_Valid := okN (ok_fn (memc okS_utf8_word_bytes mem0) (l := [(N.utf8_word_bytes, true, S_utf8_word_bytes)]) (p := [(8, takeB [0, 1, 2, 3, 4, 6, 7] (.fork (.one 5 (.fork (.one 8 (takes [9, 10, 11, 12]))))), []), (10, takeB [0, 1, 2, 3, 4, 6, 7, 10, 11, 13, 14] (.fork (.one 5 (.fork (.one 8 (takeB [9] (.fork (.one 12 (.fork (.one 15 (takes [16, 17, 18, 19, 20])))))))))), []), (18, takes [0, 1, 2, 3, 4, 5, 6, 7, 8, 9, 10, 11, 12, 13, 14, 15, 16, 17, 18], []), (22, takes [0, 1, 2, 3, 4, 5, 6, 7, 8, 9, 10, 11, 12, 13, 14, 15, 16, 17, 18, 19, 20, 21, 22, 23, 24, 25, 26, 27, 28, 29, 30], []), (26, takes [0, 1, 2, 3, 4, 5, 6, 7, 8, 9, 10, 11, 12, 13, 14, 15, 16, 17, 18, 19, 20, 21, 22, 23, 24, 25, 26, 27, 28, 29, 30, 31, 32, 33, 34, 35, 36, 37, 38, 39, 40, 41, 42], [])]) (ls := [(10, [0,3], [0,2,3], W_utf8_Valid_10), (2, [0], [2], W_utf8_Valid_2)]) (lend := []) (focus := false) (fuel := 0) (give := []) (fn := F.utf8_Valid) (by kernel_rfl) (by kernel_rfl) (by kernel_rfl) (by kernel_rfl) (cs := [bodyOf F.utf8_Valid 2, bodyOf F.utf8_Valid 10]) (by kernel_rfl) (loopsc loopK_utf8_Valid_2 (loopsc loopK_utf8_Valid_10 loops0))) (S_fnR_of fun d K h => (e_utf8_Valid d.1 K).trans (v_utf8_Valid d.1 h K))
end Go.Ev.Seat
end
section
/- i_isText: its contract. -/
namespace Go.Ev.Seat
open Go.RowKit
set_option maxRecDepth 100000
set_option linter.unusedVariables false
set_option linter.unusedSimpArgs false
noncomputable abbrev E_i_isText : Env := En [(N.utf8_Valid, true, S_utf8_Valid)] [] [] [] false 0 []
noncomputable def T_i_isText (t : List Int) (K : Ret → Option Ret) : Option Ret :=
 (bif (decide ((((List.length t) : Nat) : Int) ≤ (400 : Int))) then
 (bif (fitB t) then
  K ((.s (.bool (valid t))), [])
  else none)
 else K ((.s (.bool false)), []))
theorem e_i_isText (t : List Int) (K : Ret → Option Ret) : evF E_i_isText true F.i_isText [.l .no bytesR t] K = T_i_isText t K := by kernel_rfl
def S_i_isText : Sm := S_fnR [.l bytesR] (fun d => fitB d.1) (fun d => (bl (textOk d.1), []))
theorem v_i_isText (t : List Int) (h : (fitB t) = true) (K : Ret → Option Ret) : T_i_isText t K = K (bl (textOk t), []) := by
  unfold T_i_isText textOk
  rw [h]
  by_cases hl : t.length ≤ 400
  · rw [decide_eq_true (show ((t.length : Nat) : Int) ≤ 400 by omega), Nat.ble_eq_true_of_le hl]; rfl
  · rw [decide_eq_false (show ¬ ((t.length : Nat) : Int) ≤ 400 by omega), Bool.eq_false_iff.2 (fun h => hl (Nat.le_of_ble_eq_true h))]; rfl
theorem okS_i_isText : OkFn prog I N.i_isText true S_i_isText := okN (ok_fn (memc okS_utf8_Valid mem0) (l := [(N.utf8_Valid, true, S_utf8_Valid)]) (p := []) (ls := []) (lend := []) (focus := false) (fuel := 0) (give := []) (fn := F.i_isText) (by kernel_rfl) (by kernel_rfl) (by kernel_rfl) (by kernel_rfl) (cs := []) (by kernel_rfl) loops0) (S_fnR_of fun d K h => (e_i_isText d.1 K).trans (v_i_isText d.1 h K))
end Go.Ev.Seat
end
section
/- i_isReply: its contract. -/
namespace Go.Ev.Seat
open Go.RowKit
set_option maxRecDepth 100000
set_option linter.unusedVariables false
set_option linter.unusedSimpArgs false
noncomputable abbrev E_i_isReply : Env := En [(N.i_in, true, S_i_in), (N.i_isWord, true, S_i_isWord), (N.i_isText, true, S_i_isText)] [] [] [] false 0 []
noncomputable def T_i_isReply (r : T_Reply) (K : Ret → Option Ret) : Option Ret :=
 (bif (r.1 != (0 : Int)) then
 (bif ((decide ((0 : Int) ≤ r.1)) && (decide (r.1 ≤ (10 : Int)))) then
  (bif (r.2.1 == (0 : Int)) then
   (bif (r.2.2.1 == (0 : Int)) then
    K ((.s (.bool ((((List.length r.2.2.2) : Nat) : Int) == (0 : Int)))), [])
    else K ((.s (.bool false)), []))
   else K ((.s (.bool false)), []))
  else K ((.s (.bool false)), []))
 else (bif (isWordD r.2.1) then
  (bif (isWordD r.2.2.1) then
   (bif (fitB r.2.2.2) then
    K ((.s (.bool (textOk r.2.2.2))), [])
    else none)
   else K ((.s (.bool false)), []))
  else K ((.s (.bool false)), [])))
theorem e_i_isReply (r : T_Reply) (K : Ret → Option Ret) : evF E_i_isReply true F.i_isReply [.a (replyR.cells .no r)] K = T_i_isReply r K := by kernel_rfl
def S_i_isReply : Sm := S_fnR [.a replyR] (fun d => fitB d.1.2.2.2) (fun d => (bl (replyOkD d.1), []))
theorem v_i_isReply (r : T_Reply) (h : (fitB r.2.2.2) = true) (K : Ret → Option Ret) : T_i_isReply r K = K (bl (replyOkD r), []) := by
  unfold T_i_isReply replyOkD
  rw [h]
  by_cases h1 : r.1 = 0
  · rw [h1]
    cases isWordD r.2.1 <;> cases isWordD r.2.2.1 <;> cases textOk r.2.2.2 <;> rfl
  rw [show (r.1 != 0) = true from by simp [h1], show (r.1 == 0) = false from by simp [h1]]
  by_cases h2 : 0 ≤ r.1
  case neg => rw [decide_eq_false h2]; rfl
  by_cases h3 : r.1 ≤ 10
  case neg => rw [decide_eq_true h2, decide_eq_false h3]; rfl
  rw [decide_eq_true h2, decide_eq_true h3]
  by_cases h4 : r.2.1 = 0
  case neg =>
    rw [show (r.2.1 == 0) = false from by simp [h4]]
    cases isWordD r.2.1 <;> cases isWordD r.2.2.1 <;> cases textOk r.2.2.2 <;> rfl
  by_cases h5 : r.2.2.1 = 0
  case neg =>
    rw [h4, show (r.2.2.1 == 0) = false from by simp [h5]]
    cases isWordD r.2.2.1 <;> cases textOk r.2.2.2 <;> rfl
  rw [h4, h5]
  cases hl : (((List.length r.2.2.2 : Nat) : Int) == 0) with
  | true =>
    have : r.2.2.2 = [] := List.length_eq_zero_iff.1 (by have := beq_iff_eq.1 hl; omega)
    rw [this, textOk_iff.2 ⟨by simp, valid_nil⟩]; rfl
  | false => cases textOk r.2.2.2 <;> rfl
theorem okS_i_isReply : OkFn prog I N.i_isReply true S_i_isReply := okN (ok_fn (memc okS_i_in (memc okS_i_isWord (memc okS_i_isText mem0))) (l := [(N.i_in, true, S_i_in), (N.i_isWord, true, S_i_isWord), (N.i_isText, true, S_i_isText)]) (p := []) (ls := []) (lend := []) (focus := false) (fuel := 0) (give := []) (fn := F.i_isReply) (by kernel_rfl) (by kernel_rfl) (by kernel_rfl) (by kernel_rfl) (cs := []) (by kernel_rfl) loops0) (S_fnR_of fun d K h => (e_i_isReply d.1 K).trans (v_i_isReply d.1 h K))
end Go.Ev.Seat
end
section
/- i_isPut: its contract. -/
namespace Go.Ev.Seat
open Go.RowKit
set_option maxRecDepth 100000
set_option linter.unusedVariables false
set_option linter.unusedSimpArgs false
noncomputable abbrev E_i_isPut : Env := En [(N.i_isText, true, S_i_isText)] [] [] [] false 0 []
noncomputable def T_i_isPut (t : List Int) (K : Ret → Option Ret) : Option Ret :=
 (bif (decide ((((List.length t) : Nat) : Int) ≤ (100 : Int))) then
 (bif (fitB t) then
  K ((.s (.bool (textOk t))), [])
  else none)
 else K ((.s (.bool false)), []))
theorem e_i_isPut (t : List Int) (K : Ret → Option Ret) : evF E_i_isPut true F.i_isPut [.l .no bytesR t] K = T_i_isPut t K := by kernel_rfl
def S_i_isPut : Sm := S_fnR [.l bytesR] (fun d => fitB d.1) (fun d => (bl (decide (((d.1.length : Nat) : Int) ≤ 100) && textOk d.1), []))
theorem v_i_isPut (t : List Int) (h : (fitB t) = true) (K : Ret → Option Ret) : T_i_isPut t K = K (bl (decide (((t.length : Nat) : Int) ≤ 100) && textOk t), []) := by
  unfold T_i_isPut
  rw [h]
  cases decide (((t.length : Nat) : Int) ≤ 100) <;> rfl
theorem okS_i_isPut : OkFn prog I N.i_isPut true S_i_isPut := okN (ok_fn (memc okS_i_isText mem0) (l := [(N.i_isText, true, S_i_isText)]) (p := []) (ls := []) (lend := []) (focus := false) (fuel := 0) (give := []) (fn := F.i_isPut) (by kernel_rfl) (by kernel_rfl) (by kernel_rfl) (by kernel_rfl) (cs := []) (by kernel_rfl) loops0) (S_fnR_of fun d K h => (e_i_isPut d.1 K).trans (v_i_isPut d.1 h K))
end Go.Ev.Seat
end
section
/- i_usedNumbers: its contract. -/
namespace Go.Ev.Seat
open Go.RowKit
set_option maxRecDepth 100000
set_option linter.unusedVariables false
set_option linter.unusedSimpArgs false
noncomputable abbrev E_i_usedNumbers : Env := En [] [] [] [] false 0 []
noncomputable def T_i_usedNumbers (k : Int) (K : Ret → Option Ret) : Option Ret :=
 (bif (k == (3 : Int)) then
 (bif (k == (3 : Int)) then
  K ((.s (.int .i64 (1 : Int))), [])
  else (bif (k == (4 : Int)) then
   (bif (k == (4 : Int)) then
    K ((.s (.int .i64 (2 : Int))), [])
    else (bif (k == (12 : Int)) then
     (bif (k == (12 : Int)) then
      K ((.s (.int .i64 (3 : Int))), [])
      else K ((.s (.int .i64 (0 : Int))), []))
     else (bif (k == (13 : Int)) then
      K ((.s (.int .i64 (3 : Int))), [])
      else K ((.s (.int .i64 (0 : Int))), []))))
   else (bif (k == (5 : Int)) then
    (bif (k == (5 : Int)) then
     K ((.s (.int .i64 (2 : Int))), [])
     else (bif (k == (12 : Int)) then
      (bif (k == (12 : Int)) then
       K ((.s (.int .i64 (3 : Int))), [])
       else K ((.s (.int .i64 (0 : Int))), []))
      else (bif (k == (13 : Int)) then
       K ((.s (.int .i64 (3 : Int))), [])
       else K ((.s (.int .i64 (0 : Int))), []))))
    else (bif (k == (6 : Int)) then
     (bif (k == (6 : Int)) then
      K ((.s (.int .i64 (2 : Int))), [])
      else (bif (k == (12 : Int)) then
       (bif (k == (12 : Int)) then
        K ((.s (.int .i64 (3 : Int))), [])
        else K ((.s (.int .i64 (0 : Int))), []))
       else (bif (k == (13 : Int)) then
        K ((.s (.int .i64 (3 : Int))), [])
        else K ((.s (.int .i64 (0 : Int))), []))))
     else (bif (k == (10 : Int)) then
      (bif (k == (10 : Int)) then
       K ((.s (.int .i64 (2 : Int))), [])
       else (bif (k == (12 : Int)) then
        (bif (k == (12 : Int)) then
         K ((.s (.int .i64 (3 : Int))), [])
         else K ((.s (.int .i64 (0 : Int))), []))
        else (bif (k == (13 : Int)) then
         K ((.s (.int .i64 (3 : Int))), [])
         else K ((.s (.int .i64 (0 : Int))), []))))
      else (bif (k == (11 : Int)) then
       (bif (k == (11 : Int)) then
        K ((.s (.int .i64 (2 : Int))), [])
        else (bif (k == (12 : Int)) then
         (bif (k == (12 : Int)) then
          K ((.s (.int .i64 (3 : Int))), [])
          else K ((.s (.int .i64 (0 : Int))), []))
         else (bif (k == (13 : Int)) then
          K ((.s (.int .i64 (3 : Int))), [])
          else K ((.s (.int .i64 (0 : Int))), []))))
       else (bif (k == (14 : Int)) then
        K ((.s (.int .i64 (2 : Int))), [])
        else (bif (k == (12 : Int)) then
         (bif (k == (12 : Int)) then
          K ((.s (.int .i64 (3 : Int))), [])
          else K ((.s (.int .i64 (0 : Int))), []))
         else (bif (k == (13 : Int)) then
          K ((.s (.int .i64 (3 : Int))), [])
          else K ((.s (.int .i64 (0 : Int))), []))))))))))
 else (bif (k == (7 : Int)) then
  (bif (k == (7 : Int)) then
   K ((.s (.int .i64 (1 : Int))), [])
   else (bif (k == (4 : Int)) then
    (bif (k == (4 : Int)) then
     K ((.s (.int .i64 (2 : Int))), [])
     else (bif (k == (12 : Int)) then
      (bif (k == (12 : Int)) then
       K ((.s (.int .i64 (3 : Int))), [])
       else K ((.s (.int .i64 (0 : Int))), []))
      else (bif (k == (13 : Int)) then
       K ((.s (.int .i64 (3 : Int))), [])
       else K ((.s (.int .i64 (0 : Int))), []))))
    else (bif (k == (5 : Int)) then
     (bif (k == (5 : Int)) then
      K ((.s (.int .i64 (2 : Int))), [])
      else (bif (k == (12 : Int)) then
       (bif (k == (12 : Int)) then
        K ((.s (.int .i64 (3 : Int))), [])
        else K ((.s (.int .i64 (0 : Int))), []))
       else (bif (k == (13 : Int)) then
        K ((.s (.int .i64 (3 : Int))), [])
        else K ((.s (.int .i64 (0 : Int))), []))))
     else (bif (k == (6 : Int)) then
      (bif (k == (6 : Int)) then
       K ((.s (.int .i64 (2 : Int))), [])
       else (bif (k == (12 : Int)) then
        (bif (k == (12 : Int)) then
         K ((.s (.int .i64 (3 : Int))), [])
         else K ((.s (.int .i64 (0 : Int))), []))
        else (bif (k == (13 : Int)) then
         K ((.s (.int .i64 (3 : Int))), [])
         else K ((.s (.int .i64 (0 : Int))), []))))
      else (bif (k == (10 : Int)) then
       (bif (k == (10 : Int)) then
        K ((.s (.int .i64 (2 : Int))), [])
        else (bif (k == (12 : Int)) then
         (bif (k == (12 : Int)) then
          K ((.s (.int .i64 (3 : Int))), [])
          else K ((.s (.int .i64 (0 : Int))), []))
         else (bif (k == (13 : Int)) then
          K ((.s (.int .i64 (3 : Int))), [])
          else K ((.s (.int .i64 (0 : Int))), []))))
       else (bif (k == (11 : Int)) then
        (bif (k == (11 : Int)) then
         K ((.s (.int .i64 (2 : Int))), [])
         else (bif (k == (12 : Int)) then
          (bif (k == (12 : Int)) then
           K ((.s (.int .i64 (3 : Int))), [])
           else K ((.s (.int .i64 (0 : Int))), []))
          else (bif (k == (13 : Int)) then
           K ((.s (.int .i64 (3 : Int))), [])
           else K ((.s (.int .i64 (0 : Int))), []))))
        else (bif (k == (14 : Int)) then
         K ((.s (.int .i64 (2 : Int))), [])
         else (bif (k == (12 : Int)) then
          (bif (k == (12 : Int)) then
           K ((.s (.int .i64 (3 : Int))), [])
           else K ((.s (.int .i64 (0 : Int))), []))
          else (bif (k == (13 : Int)) then
           K ((.s (.int .i64 (3 : Int))), [])
           else K ((.s (.int .i64 (0 : Int))), []))))))))))
  else (bif (k == (8 : Int)) then
   (bif (k == (8 : Int)) then
    K ((.s (.int .i64 (1 : Int))), [])
    else (bif (k == (4 : Int)) then
     (bif (k == (4 : Int)) then
      K ((.s (.int .i64 (2 : Int))), [])
      else (bif (k == (12 : Int)) then
       (bif (k == (12 : Int)) then
        K ((.s (.int .i64 (3 : Int))), [])
        else K ((.s (.int .i64 (0 : Int))), []))
       else (bif (k == (13 : Int)) then
        K ((.s (.int .i64 (3 : Int))), [])
        else K ((.s (.int .i64 (0 : Int))), []))))
     else (bif (k == (5 : Int)) then
      (bif (k == (5 : Int)) then
       K ((.s (.int .i64 (2 : Int))), [])
       else (bif (k == (12 : Int)) then
        (bif (k == (12 : Int)) then
         K ((.s (.int .i64 (3 : Int))), [])
         else K ((.s (.int .i64 (0 : Int))), []))
        else (bif (k == (13 : Int)) then
         K ((.s (.int .i64 (3 : Int))), [])
         else K ((.s (.int .i64 (0 : Int))), []))))
      else (bif (k == (6 : Int)) then
       (bif (k == (6 : Int)) then
        K ((.s (.int .i64 (2 : Int))), [])
        else (bif (k == (12 : Int)) then
         (bif (k == (12 : Int)) then
          K ((.s (.int .i64 (3 : Int))), [])
          else K ((.s (.int .i64 (0 : Int))), []))
         else (bif (k == (13 : Int)) then
          K ((.s (.int .i64 (3 : Int))), [])
          else K ((.s (.int .i64 (0 : Int))), []))))
       else (bif (k == (10 : Int)) then
        (bif (k == (10 : Int)) then
         K ((.s (.int .i64 (2 : Int))), [])
         else (bif (k == (12 : Int)) then
          (bif (k == (12 : Int)) then
           K ((.s (.int .i64 (3 : Int))), [])
           else K ((.s (.int .i64 (0 : Int))), []))
          else (bif (k == (13 : Int)) then
           K ((.s (.int .i64 (3 : Int))), [])
           else K ((.s (.int .i64 (0 : Int))), []))))
        else (bif (k == (11 : Int)) then
         (bif (k == (11 : Int)) then
          K ((.s (.int .i64 (2 : Int))), [])
          else (bif (k == (12 : Int)) then
           (bif (k == (12 : Int)) then
            K ((.s (.int .i64 (3 : Int))), [])
            else K ((.s (.int .i64 (0 : Int))), []))
           else (bif (k == (13 : Int)) then
            K ((.s (.int .i64 (3 : Int))), [])
            else K ((.s (.int .i64 (0 : Int))), []))))
         else (bif (k == (14 : Int)) then
          K ((.s (.int .i64 (2 : Int))), [])
          else (bif (k == (12 : Int)) then
           (bif (k == (12 : Int)) then
            K ((.s (.int .i64 (3 : Int))), [])
            else K ((.s (.int .i64 (0 : Int))), []))
           else (bif (k == (13 : Int)) then
            K ((.s (.int .i64 (3 : Int))), [])
            else K ((.s (.int .i64 (0 : Int))), []))))))))))
   else (bif (k == (9 : Int)) then
    K ((.s (.int .i64 (1 : Int))), [])
    else (bif (k == (4 : Int)) then
     (bif (k == (4 : Int)) then
      K ((.s (.int .i64 (2 : Int))), [])
      else (bif (k == (12 : Int)) then
       (bif (k == (12 : Int)) then
        K ((.s (.int .i64 (3 : Int))), [])
        else K ((.s (.int .i64 (0 : Int))), []))
       else (bif (k == (13 : Int)) then
        K ((.s (.int .i64 (3 : Int))), [])
        else K ((.s (.int .i64 (0 : Int))), []))))
     else (bif (k == (5 : Int)) then
      (bif (k == (5 : Int)) then
       K ((.s (.int .i64 (2 : Int))), [])
       else (bif (k == (12 : Int)) then
        (bif (k == (12 : Int)) then
         K ((.s (.int .i64 (3 : Int))), [])
         else K ((.s (.int .i64 (0 : Int))), []))
        else (bif (k == (13 : Int)) then
         K ((.s (.int .i64 (3 : Int))), [])
         else K ((.s (.int .i64 (0 : Int))), []))))
      else (bif (k == (6 : Int)) then
       (bif (k == (6 : Int)) then
        K ((.s (.int .i64 (2 : Int))), [])
        else (bif (k == (12 : Int)) then
         (bif (k == (12 : Int)) then
          K ((.s (.int .i64 (3 : Int))), [])
          else K ((.s (.int .i64 (0 : Int))), []))
         else (bif (k == (13 : Int)) then
          K ((.s (.int .i64 (3 : Int))), [])
          else K ((.s (.int .i64 (0 : Int))), []))))
       else (bif (k == (10 : Int)) then
        (bif (k == (10 : Int)) then
         K ((.s (.int .i64 (2 : Int))), [])
         else (bif (k == (12 : Int)) then
          (bif (k == (12 : Int)) then
           K ((.s (.int .i64 (3 : Int))), [])
           else K ((.s (.int .i64 (0 : Int))), []))
          else (bif (k == (13 : Int)) then
           K ((.s (.int .i64 (3 : Int))), [])
           else K ((.s (.int .i64 (0 : Int))), []))))
        else (bif (k == (11 : Int)) then
         (bif (k == (11 : Int)) then
          K ((.s (.int .i64 (2 : Int))), [])
          else (bif (k == (12 : Int)) then
           (bif (k == (12 : Int)) then
            K ((.s (.int .i64 (3 : Int))), [])
            else K ((.s (.int .i64 (0 : Int))), []))
           else (bif (k == (13 : Int)) then
            K ((.s (.int .i64 (3 : Int))), [])
            else K ((.s (.int .i64 (0 : Int))), []))))
         else (bif (k == (14 : Int)) then
          K ((.s (.int .i64 (2 : Int))), [])
          else (bif (k == (12 : Int)) then
           (bif (k == (12 : Int)) then
            K ((.s (.int .i64 (3 : Int))), [])
            else K ((.s (.int .i64 (0 : Int))), []))
           else (bif (k == (13 : Int)) then
            K ((.s (.int .i64 (3 : Int))), [])
            else K ((.s (.int .i64 (0 : Int))), [])))))))))))))
theorem e_i_usedNumbers (k : Int) (K : Ret → Option Ret) : evF E_i_usedNumbers true F.i_usedNumbers [.s (.int .i64 k)] K = T_i_usedNumbers k K := by kernel_rfl
def S_i_usedNumbers : Sm := S_fnR [.i] (fun d => true) (fun d => (.s (.int .i64 (usedD d.1)), []))
theorem v_i_usedNumbers (k : Int) (K : Ret → Option Ret) : T_i_usedNumbers k K = K (.s (.int .i64 (usedD k)), []) := by
  unfold T_i_usedNumbers
  by_cases h3 : k = 3
  · subst h3; rfl
  by_cases h7 : k = 7
  · subst h7; rfl
  by_cases h8 : k = 8
  · subst h8; rfl
  by_cases h9 : k = 9
  · subst h9; rfl
  by_cases h4 : k = 4
  · subst h4; rfl
  by_cases h5 : k = 5
  · subst h5; rfl
  by_cases h6 : k = 6
  · subst h6; rfl
  by_cases h10 : k = 10
  · subst h10; rfl
  by_cases h11 : k = 11
  · subst h11; rfl
  by_cases h14 : k = 14
  · subst h14; rfl
  by_cases h12 : k = 12
  · subst h12; rfl
  by_cases h13 : k = 13
  · subst h13; rfl
  have e : ∀ c, k ≠ c → (k == c) = false := fun c h => by simpa using h
  unfold usedD
  simp only [e _ h3, e _ h7, e _ h8, e _ h9, e _ h4, e _ h5, e _ h6, e _ h10, e _ h11, e _ h14, e _ h12, e _ h13, cond_false, Bool.or_false]
theorem okS_i_usedNumbers : OkFn prog I N.i_usedNumbers true S_i_usedNumbers := okN (ok_fn mem0 (l := []) (p := []) (ls := []) (lend := []) (focus := false) (fuel := 0) (give := []) (fn := F.i_usedNumbers) (by kernel_rfl) (by kernel_rfl) (by kernel_rfl) (by kernel_rfl) (cs := []) (by kernel_rfl) loops0) (S_fnR_of fun d K h => (e_i_usedNumbers d.1 K).trans (v_i_usedNumbers d.1 K))
end Go.Ev.Seat
end
section
/- i_isReq: its contract. -/
namespace Go.Ev.Seat
open Go.RowKit
set_option maxRecDepth 100000
set_option linter.unusedVariables false
set_option linter.unusedSimpArgs false
def z_i_isReq_4_0 (x2 : Bool) (b00 : Int) (b01 : Int) (b02 : Int) (b03 : Int) (b04 : Int) (b05 : List Int) : St := { tm := ([.x, (.pb 0 0), (.s (.bool x2))] ++ List.replicate 62 .x), ob := [(0, (.box [(.s (.int .i64 b00)), (.s (.int .i64 b01)), (.s (.int .i64 b02)), (.s (.int .i64 b03)), (.s (.int .i64 b04)), (.l .no bytesR b05)]))], nx := 1, io := [] }
def z_i_isReq_4_1 (b00 : Int) (b01 : Int) (b02 : Int) (b03 : Int) (b04 : Int) (b05 : List Int) : St := { tm := ([.x, (.pb 0 0)] ++ List.replicate 63 .x), ob := [(0, (.box [(.s (.int .i64 b00)), (.s (.int .i64 b01)), (.s (.int .i64 b02)), (.s (.int .i64 b03)), (.s (.int .i64 b04)), (.l .no bytesR b05)]))], nx := 1, io := [] }
def sh_i_isReq_4_0 : Ss := { tm := (.cons (.x) (.cons (.pb 0 0) (.cons (.x) (.cons (.x) (.cons (.x) (.cons (.x) (.cons (.x) (.cons (.x) (.cons (.x) (.cons (.x) (.cons (.x) (.cons (.x) (.cons (.x) (.cons (.x) (.cons (.x) (.cons (.x) (.cons (.x) (.cons (.x) (.cons (.x) (.cons (.x) (.cons (.x) (.cons (.x) (.cons (.x) (.cons (.x) (.cons (.x) (.cons (.x) (.cons (.x) (.cons (.w 1) (.cons (.int .i64) (.cons (.int .i64) (xsh 35))))))))))))))))))))))))))))))), ob := (.box (.cons (.int .i64) (.cons (.int .i64) (.cons (.int .i64) (.cons (.int .i64) (.cons (.int .i64) (.cons (.l .no bytesR) .nil)))))) (.arr true true intR .nil)), nx := 2, io := .nil }
def d_i_isReq_4_0 (x28 : Int) (x29 : Int) (b00 : Int) (b01 : Int) (b02 : Int) (b03 : Int) (b04 : Int) (b05 : List Int) (o1 : List Int) : sh_i_isReq_4_0.T := (((), ((), ((), ((), ((), ((), ((), ((), ((), ((), ((), ((), ((), ((), ((), ((), ((), ((), ((), ((), ((), ((), ((), ((), ((), ((), ((), ((), (x28, (x29, xd 35)))))))))))))))))))))))))))))), ((b00, (b01, (b02, (b03, (b04, (b05, ())))))), (o1, ())), ())
def s_i_isReq_4_0 (x28 : Int) (x29 : Int) (b00 : Int) (b01 : Int) (b02 : Int) (b03 : Int) (b04 : Int) (b05 : List Int) (o1 : List Int) : St := { tm := ([.x, (.pb 0 0), .x, .x, .x, .x, .x, .x, .x, .x, .x, .x, .x, .x, .x, .x, .x, .x, .x, .x, .x, .x, .x, .x, .x, .x, .x, (.w 1), (.s (.int .i64 x28)), (.s (.int .i64 x29))] ++ List.replicate 35 .x), ob := [(0, (.box [(.s (.int .i64 b00)), (.s (.int .i64 b01)), (.s (.int .i64 b02)), (.s (.int .i64 b03)), (.s (.int .i64 b04)), (.l .no bytesR b05)])), (1, (.arr true true intR o1))], nx := 2, io := [] }
theorem se_i_isReq_4_0 (x28 : Int) (x29 : Int) (b00 : Int) (b01 : Int) (b02 : Int) (b03 : Int) (b04 : Int) (b05 : List Int) (o1 : List Int) : sh_i_isReq_4_0.mk' (d_i_isReq_4_0 x28 x29 b00 b01 b02 b03 b04 b05 o1) = (s_i_isReq_4_0 x28 x29 b00 b01 b02 b03 b04 b05 o1) := by kernel_rfl
def w_i_isReq_4_0 (d : sh_i_isReq_4_0.T) (f : Int → Int → Int → Int → Int → Int → Int → (List Int) → (List Int) → Option Ret) : Option Ret := match d with | ((_, (_, (_, (_, (_, (_, (_, (_, (_, (_, (_, (_, (_, (_, (_, (_, (_, (_, (_, (_, (_, (_, (_, (_, (_, (_, (_, (_, (x28, (x29, _)))))))))))))))))))))))))))))), ((b00, (b01, (b02, (b03, (b04, (b05, _)))))), (o1, _)), _) => f x28 x29 b00 b01 b02 b03 b04 b05 o1
noncomputable def P_i_isReq_4_0 (x28 : Int) (x29 : Int) (b00 : Int) (b01 : Int) (b02 : Int) (b03 : Int) (b04 : Int) (b05 : List Int) (o1 : List Int) (nx0 : Int → Int → Int → Int → Int → Int → Int → (List Int) → (List Int) → Option Ret) (k0 : Bool → Int → Int → Int → Int → Int → (List Int) → Option Ret) (k1 : Int → Int → Int → Int → Int → (List Int) → Option Ret) : Option Ret :=
 (bif (decide (x29 < x28)) then
 (bif ((decide ((0 : Int) ≤ x29)) && (decide (x29 < (((List.length o1) : Nat) : Int)))) then
  (bif (!(isWordD (List.getD o1 (Int.toNat x29) (0 : Int)))) then
   (k0 false b00 b01 b02 b03 b04 b05)
   else (bif (decide (x29 ≥ (usedD b00))) then
    (bif ((List.getD o1 (Int.toNat x29) (0 : Int)) != (0 : Int)) then
     (k0 false b00 b01 b02 b03 b04 b05)
     else (nx0 x28 (IntKind.wrap .i64 (x29 + (1 : Int))) b00 b01 b02 b03 b04 b05 o1))
    else (nx0 x28 (IntKind.wrap .i64 (x29 + (1 : Int))) b00 b01 b02 b03 b04 b05 o1)))
  else none)
 else (k1 b00 b01 b02 b03 b04 b05))
noncomputable def Q_i_isReq_4_0 : Nat → Int → Int → Int → Int → Int → Int → Int → (List Int) → (List Int) → (Bool → Int → Int → Int → Int → Int → (List Int) → Option Ret) → (Int → Int → Int → Int → Int → (List Int) → Option Ret) → Option Ret
  | 0, _, _, _, _, _, _, _, _, _, _, _ => none
  | m + 1, x28, x29, b00, b01, b02, b03, b04, b05, o1, k0, k1 => P_i_isReq_4_0 x28 x29 b00 b01 b02 b03 b04 b05 o1 (fun x28 x29 b00 b01 b02 b03 b04 b05 o1 => (Q_i_isReq_4_0 m x28 x29 b00 b01 b02 b03 b04 b05 o1 k0 k1)) k0 k1
noncomputable def R_i_isReq_4_0 (x28 : Int) (x29 : Int) (b00 : Int) (b01 : Int) (b02 : Int) (b03 : Int) (b04 : Int) (b05 : List Int) (o1 : List Int) (k0 : Bool → Int → Int → Int → Int → Int → (List Int) → Option Ret) (k1 : Int → Int → Int → Int → Int → (List Int) → Option Ret) : Option Ret := Q_i_isReq_4_0 (x28.toNat + x29.toNat + b00.toNat + b01.toNat + b02.toNat + b03.toNat + b04.toNat + List.length b05 + List.length o1 + 2) x28 x29 b00 b01 b02 b03 b04 b05 o1 k0 k1
noncomputable def W_i_isReq_4 : LoopFn := (fun (σ : St) (K : Ex → St → Option Ret) => (match sh_i_isReq_4_0.un σ with | some d => w_i_isReq_4_0 d (fun x28 x29 b00 b01 b02 b03 b04 b05 o1 => R_i_isReq_4_0 x28 x29 b00 b01 b02 b03 b04 b05 o1 (fun x2 b00 b01 b02 b03 b04 b05 => (K .ret (z_i_isReq_4_0 x2 b00 b01 b02 b03 b04 b05))) (fun b00 b01 b02 b03 b04 b05 => (K (.ext 0) (z_i_isReq_4_1 b00 b01 b02 b03 b04 b05)))) | none => none))
noncomputable abbrev E_i_isReq : Env := En [(N.i_in, true, S_i_in), (N.i_isSession, true, S_i_isSession), (N.i_isPut, true, S_i_isPut), (N.i_isWord, true, S_i_isWord), (N.i_usedNumbers, true, S_i_usedNumbers)] [] [(4, [1,27,28,29], [1,2], W_i_isReq_4)] [] false 0 []
theorem st_i_isReq_4_0 (m : Nat) (x28 : Int) (x29 : Int) (b00 : Int) (b01 : Int) (b02 : Int) (b03 : Int) (b04 : Int) (b05 : List Int) (o1 : List Int) (K : Ex → St → Option Ret) : rounds (run E_i_isReq (bodyOf F.i_isReq 4)) [1,27,28,29] [1,2] (m + 1) (s_i_isReq_4_0 x28 x29 b00 b01 b02 b03 b04 b05 o1) K = P_i_isReq_4_0 x28 x29 b00 b01 b02 b03 b04 b05 o1 (fun x28 x29 b00 b01 b02 b03 b04 b05 o1 => (rounds (run E_i_isReq (bodyOf F.i_isReq 4)) [1,27,28,29] [1,2] m (s_i_isReq_4_0 x28 x29 b00 b01 b02 b03 b04 b05 o1) K)) (fun x2 b00 b01 b02 b03 b04 b05 => (K .ret (z_i_isReq_4_0 x2 b00 b01 b02 b03 b04 b05))) (fun b00 b01 b02 b03 b04 b05 => (K (.ext 0) (z_i_isReq_4_1 b00 b01 b02 b03 b04 b05))) := by kernel_rfl
theorem q_i_isReq_4 (K : Ex → St → Option Ret) : ∀ m : Nat, (∀ (x28 : Int) (x29 : Int) (b00 : Int) (b01 : Int) (b02 : Int) (b03 : Int) (b04 : Int) (b05 : List Int) (o1 : List Int), rounds (run E_i_isReq (bodyOf F.i_isReq 4)) [1,27,28,29] [1,2] m (s_i_isReq_4_0 x28 x29 b00 b01 b02 b03 b04 b05 o1) K = Q_i_isReq_4_0 m x28 x29 b00 b01 b02 b03 b04 b05 o1 (fun x2 b00 b01 b02 b03 b04 b05 => (K .ret (z_i_isReq_4_0 x2 b00 b01 b02 b03 b04 b05))) (fun b00 b01 b02 b03 b04 b05 => (K (.ext 0) (z_i_isReq_4_1 b00 b01 b02 b03 b04 b05))))
  | 0 => (fun _ _ _ _ _ _ _ _ _ => rfl)
  | m + 1 => (fun x28 x29 b00 b01 b02 b03 b04 b05 o1 => (by rw [st_i_isReq_4_0, show (fun x28 x29 b00 b01 b02 b03 b04 b05 o1 => (rounds (run E_i_isReq (bodyOf F.i_isReq 4)) [1,27,28,29] [1,2] m (s_i_isReq_4_0 x28 x29 b00 b01 b02 b03 b04 b05 o1) K)) = (fun x28 x29 b00 b01 b02 b03 b04 b05 o1 => (Q_i_isReq_4_0 m x28 x29 b00 b01 b02 b03 b04 b05 o1 (fun x2 b00 b01 b02 b03 b04 b05 => (K .ret (z_i_isReq_4_0 x2 b00 b01 b02 b03 b04 b05))) (fun b00 b01 b02 b03 b04 b05 => (K (.ext 0) (z_i_isReq_4_1 b00 b01 b02 b03 b04 b05))))) from funext fun x28 => funext fun x29 => funext fun b00 => funext fun b01 => funext fun b02 => funext fun b03 => funext fun b04 => funext fun b05 => funext fun o1 => (q_i_isReq_4 K m) x28 x29 b00 b01 b02 b03 b04 b05 o1]; rfl))
theorem loopK_i_isReq_4 : LoopOk E_i_isReq (bodyOf F.i_isReq 4) := by
  refine loopW_ok (n := 4) (F := W_i_isReq_4) (by kernel_rfl) rfl (li := [1,27,28,29]) (lo := [1,2]) rfl (fun σ K r hr => ?_)
  unfold W_i_isReq_4 at hr
  split at hr
  · rename_i d hd
    rw [Ss.un_mk hd]
    exact ⟨_, ((congrArg (fun z => rounds (run E_i_isReq (bodyOf F.i_isReq 4)) [1,27,28,29] [1,2] _ z K) (se_i_isReq_4_0 _ _ _ _ _ _ _ _ _)).trans ((q_i_isReq_4 K _) _ _ _ _ _ _ _ _ _)).trans hr⟩
  · cases hr
noncomputable def T_i_isReq (r : T_Req) (K : Ret → Option Ret) : Option Ret :=
 (bif (!((decide ((1 : Int) ≤ r.1)) && (decide (r.1 ≤ (16 : Int))))) then
 K ((.s (.bool false)), [])
 else (bif (!((decide ((1 : Int) ≤ r.2.1)) && (decide (r.2.1 ≤ (8 : Int))))) then
  K ((.s (.bool false)), [])
  else (bif (fitB r.2.2.2.2.2) then
   (bif (!((decide ((((List.length r.2.2.2.2.2) : Nat) : Int) ≤ (100 : Int))) && (textOk r.2.2.2.2.2))) then
    K ((.s (.bool false)), [])
    else (R_i_isReq_4_0 (((List.length (r.2.2.1 :: (r.2.2.2.1 :: (r.2.2.2.2.1 :: ([] : List Int))))) : Nat) : Int) (0 : Int) r.1 r.2.1 r.2.2.1 r.2.2.2.1 r.2.2.2.2.1 r.2.2.2.2.2 (r.2.2.1 :: (r.2.2.2.1 :: (r.2.2.2.2.1 :: ([] : List Int)))) (fun y0 y1 y2 y3 y4 y5 y6 =>
     K ((.s (.bool y0)), [])) (fun y7 y8 y9 y10 y11 y12 =>
     (bif (y7 == (3 : Int)) then
      (bif (y7 == (3 : Int)) then
       K ((.s (.bool true)), [])
       else (bif (y7 == (7 : Int)) then
        (bif (y7 == (7 : Int)) then
         K ((.s (.bool (decide ((((List.length y12) : Nat) : Int) > (0 : Int))))), [])
         else K ((.s (.bool ((((List.length y12) : Nat) : Int) == (0 : Int)))), []))
        else (bif (y7 == (8 : Int)) then
         K ((.s (.bool (decide ((((List.length y12) : Nat) : Int) > (0 : Int))))), [])
         else K ((.s (.bool ((((List.length y12) : Nat) : Int) == (0 : Int)))), []))))
      else (bif (y7 == (5 : Int)) then
       K ((.s (.bool true)), [])
       else (bif (y7 == (7 : Int)) then
        (bif (y7 == (7 : Int)) then
         K ((.s (.bool (decide ((((List.length y12) : Nat) : Int) > (0 : Int))))), [])
         else K ((.s (.bool ((((List.length y12) : Nat) : Int) == (0 : Int)))), []))
        else (bif (y7 == (8 : Int)) then
         K ((.s (.bool (decide ((((List.length y12) : Nat) : Int) > (0 : Int))))), [])
         else K ((.s (.bool ((((List.length y12) : Nat) : Int) == (0 : Int)))), []))))))))
   else none)))
theorem e_i_isReq (r : T_Req) (K : Ret → Option Ret) : evF E_i_isReq true F.i_isReq [.a (reqR.cells .no r)] K = T_i_isReq r K := by kernel_rfl
def S_i_isReq : Sm := S_fnR [.a reqR] (fun d => fitB d.1.2.2.2.2.2) (fun d => (bl (reqOkD d.1), []))
theorem v_i_isReq (r : T_Req) (h : (fitB r.2.2.2.2.2) = true) (K : Ret → Option Ret) : T_i_isReq r K = K (bl (reqOkD r), []) := by
  obtain ⟨k, s, a, b, d, t⟩ := r
  unfold T_i_isReq reqOkD
  simp only [h]
  cases hk : (decide (1 ≤ k) && decide (k ≤ 16)) with
  | false => rfl
  | true =>
  cases hs : (decide (1 ≤ s) && decide (s ≤ 8)) with
  | false => rfl
  | true =>
  cases hp : (decide (((t.length : Nat) : Int) ≤ 100) && textOk t) with
  | false => rfl
  | true =>
  rw [Bool.and_eq_true, decide_eq_true_iff, decide_eq_true_iff] at hk
  have hk := kinds hk.1 hk.2
  unfold R_i_isReq_4_0
  generalize hF : (_ + 2 : Nat) = F
  obtain ⟨m, rfl⟩ : ∃ m, F = m + 4 := ⟨F - 4, by simp only [List.length_cons, List.length_nil] at hF; omega⟩
  have q : ∀ (k0 : Bool → Int → Int → Int → Int → Int → List Int → Option Ret) (k1 : Int → Int → Int → Int → Int → List Int → Option Ret), Q_i_isReq_4_0 (m + 4) 3 0 k s a b d t [a, b, d] k0 k1 =
      (bif !isWordD a then k0 false k s a b d t else bif decide ((0 : Int) ≥ usedD k) then (bif a != 0 then k0 false k s a b d t else
       (bif !isWordD b then k0 false k s a b d t else bif decide ((1 : Int) ≥ usedD k) then (bif b != 0 then k0 false k s a b d t else
        (bif !isWordD d then k0 false k s a b d t else bif decide ((2 : Int) ≥ usedD k) then (bif d != 0 then k0 false k s a b d t else k1 k s a b d t) else k1 k s a b d t)) else
        (bif !isWordD d then k0 false k s a b d t else bif decide ((2 : Int) ≥ usedD k) then (bif d != 0 then k0 false k s a b d t else k1 k s a b d t) else k1 k s a b d t))) else
       (bif !isWordD b then k0 false k s a b d t else bif decide ((1 : Int) ≥ usedD k) then (bif b != 0 then k0 false k s a b d t else
        (bif !isWordD d then k0 false k s a b d t else bif decide ((2 : Int) ≥ usedD k) then (bif d != 0 then k0 false k s a b d t else k1 k s a b d t) else k1 k s a b d t)) else
        (bif !isWordD d then k0 false k s a b d t else bif decide ((2 : Int) ≥ usedD k) then (bif d != 0 then k0 false k s a b d t else k1 k s a b d t) else k1 k s a b d t))) := fun _ _ => rfl
  simp only [Bool.not_true, cond_true, cond_false]
  refine Eq.trans (q _ _) ?_
  have e0 : (((t.length : Nat) : Int) == 0) = !decide (((t.length : Nat) : Int) > 0) := by
    by_cases h0 : ((t.length : Nat) : Int) > 0
    · rw [decide_eq_true h0]; exact beq_false_of_ne (by omega)
    · rw [decide_eq_false h0]; exact beq_iff_eq.2 (by omega)
  simp only [bne, e0, bifK]
  refine congrArg (fun q => K ((.s (.bool q)), [])) ?_
  unfold reqKindD
  generalize decide (((t.length : Nat) : Int) > 0) = n
  generalize (a == 0) = x
  generalize (b == 0) = y
  generalize (d == 0) = z
  generalize isWordD a = u
  generalize isWordD b = v
  generalize isWordD d = w
  clear hF q e0 hs hp h
  rcases hk with rfl | rfl | rfl | rfl | rfl | rfl | rfl | rfl | rfl | rfl | rfl | rfl | rfl | rfl | rfl | rfl <;> cases u <;> first | rfl | (cases x <;> first | rfl | (cases v <;> first | rfl | (cases y <;> first | rfl | (cases w <;> first | rfl | (cases z <;> first | rfl | (cases n <;> rfl))))))
theorem okS_i_isReq : OkFn prog I N.i_isReq true S_i_isReq := okN (ok_fn (memc okS_i_in (memc okS_i_isSession (memc okS_i_isPut (memc okS_i_isWord (memc okS_i_usedNumbers mem0))))) (l := [(N.i_in, true, S_i_in), (N.i_isSession, true, S_i_isSession), (N.i_isPut, true, S_i_isPut), (N.i_isWord, true, S_i_isWord), (N.i_usedNumbers, true, S_i_usedNumbers)]) (p := []) (ls := [(4, [1,27,28,29], [1,2], W_i_isReq_4)]) (lend := []) (focus := false) (fuel := 0) (give := []) (fn := F.i_isReq) (by kernel_rfl) (by kernel_rfl) (by kernel_rfl) (by kernel_rfl) (cs := [bodyOf F.i_isReq 4]) (by kernel_rfl) (loopsc loopK_i_isReq_4 loops0)) (S_fnR_of fun d K h => (e_i_isReq d.1 K).trans (v_i_isReq d.1 h K))
end Go.Ev.Seat
end
section
/- i_readWord: its contract. -/
namespace Go.Ev.Seat
open Go.RowKit
set_option maxRecDepth 100000
set_option linter.unusedVariables false
set_option linter.unusedSimpArgs false
noncomputable abbrev E_i_readWord : Env := En [] [(1, takes [0, 1, 2, 3, 4, 5, 6, 7, 8, 9, 10], [])] [] [] false 0 []
noncomputable def T_i_readWord (d : List Int) (K : Ret → Option Ret) : Option Ret :=
 (bif (decide ((0 : Int) < (((List.length d) : Nat) : Int))) then
 (bif (decide ((1 : Int) < (((List.length d) : Nat) : Int))) then
  K ((.s (.int .i64 (bor .i64 (shlI .i64 (IntKind.wrap .i64 (List.getD d 0 (0 : Int))) (8 : Int)) (IntKind.wrap .i64 (List.getD d 1 (0 : Int)))))), [])
  else none)
 else none)
theorem e_i_readWord (d : List Int) (K : Ret → Option Ret) : evF E_i_readWord true F.i_readWord [.l .no bytesR d] K = T_i_readWord d K := by kernel_rfl
def S_i_readWord : Sm := S_fnR [.l bytesR] (fun d => fitB d.1 && decide (1 < ((d.1.length : Nat) : Int))) (fun d => (.s (.int .i64 (atD d.1 0)), []))
theorem v_i_readWord (d : List Int) (h : (fitB d && decide (1 < ((d.length : Nat) : Int))) = true) (K : Ret → Option Ret) : T_i_readWord d K = K (.s (.int .i64 (atD d 0)), []) := by
  simp only [Bool.and_eq_true, decide_eq_true_eq] at h
  obtain ⟨h1, h2⟩ := h
  have hl := fitB_len h1
  have a := fitB_getD h1 0
  have b := fitB_getD h1 1
  unfold T_i_readWord
  rw [decide_eq_true h2, decide_eq_true (show 0 < ((d.length : Nat) : Int) by omega), wrap_in (n := d.getD 0 0) (by omega) (by omega), wrap_in (n := d.getD 1 0) (by omega) (by omega)]
  have e : bor .i64 (shlI .i64 (d.getD 0 0) 8) (d.getD 1 0) = atD d 0 := by
    have q := bor_word (a := (d.getD 0 0).toNat) (b := (d.getD 1 0).toNat) (by omega) (by omega)
    rw [Int.toNat_of_nonneg a.1, Int.toNat_of_nonneg b.1] at q
    rw [q]
    show _ = 256 * d.getD 0 0 + d.getD 1 0
    omega
  rw [e]; rfl
theorem okS_i_readWord : OkFn prog I N.i_readWord true S_i_readWord := okN (ok_fn mem0 (l := []) (p := [(1, takes [0, 1, 2, 3, 4, 5, 6, 7, 8, 9, 10], [])]) (ls := []) (lend := []) (focus := false) (fuel := 0) (give := []) (fn := F.i_readWord) (by kernel_rfl) (by kernel_rfl) (by kernel_rfl) (by kernel_rfl) (cs := []) (by kernel_rfl) loops0) (S_fnR_of fun d K h => (e_i_readWord d.1 K).trans (v_i_readWord d.1 h K))
end Go.Ev.Seat
end
section
/- slices.Grow of a nil slice: room and nothing else. -/
set_option linter.unusedVariables false
namespace Go.Ev
open Go.RowKit Go.Shelf Go.Proofs
def S_growN (r : Rw) : Sm := fun vs K => match vs with
  | [.nl, .s (.int .i64 n)] => bif decide (0 ≤ n) && decide (n ≤ 1099511627776) then K (.l .deep r [], []) else none
  | _ => none
variable {P : Program} {I : Nat → World → Prop}
theorem grow_ok {ρ : Ren} (L : Lays8.n4 P ρ) (hent : ∀ (args : Array Value) (w : World), (callFunc (ρ.f 4) args).run P w = .ok (.enter (ρ.f 4) args) w) {r : Rw} {i0 : TypeInfo} {z : Value} (hi0 : P.info? (ρ.t 25) = some i0) (hz0 : i0.zero = some z) (hs0 : 0 < i0.size) (hb : i0.bytes ≤ 64) (hn : z.cells.size = r.n) : OkFn P I (ρ.f 4) true (S_growN r) := by
  refine ⟨hent, fun ws K q hq B0 w0 w N vs O M H hI hbel hB hargs hnd hO hM hH hN => ?_⟩
  unfold S_growN at hq
  split at hq
  · rename_i n
    cases hc : (decide (0 ≤ n) && decide (n ≤ 1099511627776)) with
    | false => rw [hc] at hq; cases hq
    | true =>
      rw [hc] at hq
      simp only [Bool.and_eq_true, decide_eq_true_eq] at hc
      obtain ⟨h0, h1⟩ := hc
      have hq' : K (.l .deep r [], []) = some q := hq
      obtain ⟨v1, vs1, O1, O2, M1, M2, H1, H2, rfl, rfl, rfl, rfl, a1, b1⟩ := hargs
      obtain ⟨v2, vs2, O3, O4, M3, M4, H3, H4, rfl, rfl, rfl, rfl, a2, b2⟩ := b1
      obtain ⟨rfl, rfl, rfl, rfl⟩ := b2
      have e1 : v1 = .slice none 0 0 := a1.1
      have e2 : v2 = .int .i64 n := a2.1.1
      subst e1 e2
      obtain ⟨k, rfl⟩ : ∃ k : Nat, n = (k : Int) := ⟨n.toNat, by omega⟩
      by_cases hk : k = 0
      · subst hk
        refine Calls.mono (Any8.slices_Grow_room L none 0 0 0 w (Nat.le_refl _) (by omega) (by omega) (by omega)) ?_
        rintro e w' ⟨rfl, rfl⟩
        refine ⟨_, hq', ⟨⟨[], [], [], [], [], [], ⟨.inl ⟨rfl, rfl, none, 0, rfl, fun _ => ⟨rfl, rfl⟩⟩, rfl, rfl⟩, ⟨rfl, rfl, rfl, rfl⟩, List.nodup_nil, by simp, by simp, by simp⟩, hbel, Nat.le_refl _, fun _ _ _ => rfl⟩⟩
      · have hmul : (0 + k) * i0.bytes ≤ 1099511627776 * 64 := Nat.mul_le_mul (by omega) hb
        refine Calls.mono (Any8.slices_Grow_grow L i0 z hi0 hz0 hs0 none 0 0 k [] w (Nat.le_refl _) (by omega) (by omega) (by omega) (by simp) (fun _ => rfl) (fun a h => nomatch h)) ?_
        rintro e w' ⟨rfl, rfl⟩
        have hsz : ∀ cs t, (w.drew.alloc (.cells cs t)).heap.size = w.heap.size + 1 := fun cs t => alloc_size w.drew _
        have hnew : ∀ cs t, (w.drew.alloc (.cells cs t)).heap[w.heap.size]? = some (.cells cs t (0, 0)) := fun cs t => alloc_new w.drew _
        refine ⟨_, hq', ⟨⟨[w.heap.size], [], [w.heap.size], [], [], [], ⟨.inr ⟨w.heap.size, 0, _, [], rfl, Nat.zero_le _, rfl, by rw [hsz]; omega, fun _ => ⟨_, _, hnew _ _, ?_⟩, rfl⟩, rfl, rfl⟩, ⟨rfl, rfl, rfl, rfl⟩, by simp, ?_, by simp, ?_⟩, (hbel.drew).alloc hB _, by rw [hsz]; omega, fun x hx _ => alloc_old w.drew _ x hx⟩⟩
        · simp only [Array.size_append, size_zeroCells, hn]
          have : ∀ c : Nat, 0 + c * r.n ≤ ([] : List Value).toArray.size + (0 + k - 0) * r.n + (c - (0 + k)) * r.n := fun c => by
            rw [Nat.add_assoc, ← Nat.add_mul]
            have : c * r.n ≤ (0 + k - 0 + (c - (0 + k))) * r.n := Nat.mul_le_mul_right _ (by omega)
            omega
          exact this _
        · intro x hx
          simp at hx
          subst hx
          exact ⟨.inr (Nat.le_refl _), by rw [hsz]; omega⟩
        · intro x hx
          simp at hx
          subst hx
          exact ⟨by simp, fun h => by have := hN _ h; omega⟩
  · cases hq
end Go.Ev
namespace Go.Proofs
open Go.Shelf
def Tryd.grow_ren : Go.Shelf.Ren := ⟨fun | 4 => 131 | n => n, fun | 22 => 22 | 25 => 5 | 3 => 3 | 4 => 4 | 9 => 9 | 20 => 20 | 0 => 0 | n => n, fun | n => n⟩
theorem Tryd.grow : Go.Proofs.Lays8.n4 Tryd.prog Tryd.grow_ren := {
  mixed := by kernel_rfl
  f4 := ⟨Tryd.f131.name, by decide, Tryd.func131.trans (congrArg some (by kernel_rfl))⟩
  t0 := Tryd.underlying0
  a0 := Tryd.isAgg0
  z0 := Tryd.sizeOf0
  v0 := Tryd.zeroValue0
  t3 := Tryd.underlying3
  a3 := Tryd.isAgg3
  z3 := Tryd.sizeOf3
  v3 := Tryd.zeroValue3
  t4 := Tryd.underlying4
  a4 := Tryd.isAgg4
  z4 := Tryd.sizeOf4
  v4 := Tryd.zeroValue4
  t9 := Tryd.underlying9
  a9 := Tryd.isAgg9
  z9 := Tryd.sizeOf9
  v9 := Tryd.zeroValue9
  t20 := Tryd.underlying20
  a20 := Tryd.isAgg20
  z20 := Tryd.sizeOf20
  v20 := Tryd.zeroValue20
  t22 := Tryd.underlying22
  a22 := Tryd.isAgg22
  z22 := Tryd.sizeOf22
  v22 := Tryd.zeroValue22 }
end Go.Proofs
namespace Go.Ev.Seat
open Go.RowKit
set_option maxRecDepth 100000
theorem okS_Grow : OkFn prog I N.slices_Grow_bytes_byte true (S_growN bytesR) := by
  refine grow_ok (i0 := (prog.info? 5).getD default) (z := .int .u8 0) Go.Proofs.Tryd.grow (ok_fn (l := []) (p := []) (ls := []) (lend := []) (focus := false) (fuel := 0) (give := []) (fresh := true) mem0 (g := N.slices_Grow_bytes_byte) (fn := F.slices_Grow_bytes_byte) (by kernel_rfl) (by kernel_rfl) (by kernel_rfl) (by kernel_rfl) (cs := []) (by kernel_rfl) loops0).1 (by kernel_rfl) (by kernel_rfl) (Nat.le_of_ble_eq_true (by kernel_rfl)) (Nat.le_of_ble_eq_true (by kernel_rfl)) rfl
end Go.Ev.Seat
end
section
/- slices.Clone and slices.Concat of bytes. -/
namespace Go.Ev.Seat
open Go.RowKit
set_option maxRecDepth 100000
set_option linter.unusedVariables false
-- Clone
noncomputable def G_Clone := evF (En []) true F.slices_Clone_bytes_byte
theorem ok_Clone : OkFn prog I N.slices_Clone_bytes_byte true G_Clone := ok_fn mem0 (by kernel_rfl) (by kernel_rfl) (by kernel_rfl) (by kernel_rfl) (cs := []) (by kernel_rfl) loops0
theorem okS_Clone : OkFn prog I N.slices_Clone_bytes_byte true (S_toL bytesR) := okW ok_Clone (S_toL_of fun xs K h => by
  have e : G_Clone [.l .no bytesR xs] K = (bif (Nat.beq (List.length xs) 0) then meet (K (.l .deep bytesR [], [])) (bif (Nat.ble (((List.length ([] : List Int)) + (List.length xs)) * 1) 140737488355328) then K ((.l .deep bytesR ([] ++ xs)), []) else none)
    else (bif (Nat.ble (((List.length ([] : List Int)) + (List.length xs)) * 1) 140737488355328) then K ((.l .deep bytesR ([] ++ xs)), []) else none)) := by kernel_rfl
  rw [e]
  simp only [Cc.lim, Bool.and_eq_true] at h
  have h1 : xs.length ≤ 1048576 := Nat.le_of_ble_eq_true h.1
  have h2 : Nat.ble (((List.length ([] : List Int)) + (List.length xs)) * 1) 140737488355328 = true := Nat.ble_eq_true_of_le (by simp; omega)
  rw [h2]
  cases xs with
  | nil => exact meet_self _
  | cons x xs => rfl)
-- Concat
def sh_cc1 : Ss := { tm := (.cons (.l .no pieceR) (.cons (.x) (.cons (.x) (.cons (.int .i64) (.cons (.x) (.cons (.x) (.cons (.x) (.cons (.x) (.cons (.x) (.cons (.l .no pieceR) (.cons (.int .i64) (.cons (.int .i64) (xsh 24))))))))))))), ob := .nil, nx := 0, io := .nil }
def d_cc1 (x0 : List (List (Int))) (x3 : Int) (x9 : List (List (Int))) (x10 : Int) (x11 : Int) : sh_cc1.T := ((x0, ((), ((), (x3, ((), ((), ((), ((), ((), (x9, (x10, (x11, xd 24)))))))))))), (), ())
def z_cc1 (x0 : List (List Int)) (x3 : Int) : St := { tm := ([(.l .no pieceR x0), .x, .x, (.s (.int .i64 x3))] ++ List.replicate 32 .x), ob := [], nx := 0, io := [] }
def R_cc1 (d : sh_cc1.T) (K : Ex → St → Option Ret) : Option Ret := match d with
  | ((x0, (_, (_, (x3, (_, (_, (_, (_, (_, (x9, (x10, (x11, _)))))))))))), _, _) => bif (x11 == 0) && (x3 == 0) && (x10 == ((x9.length : Nat) : Int)) && Nat.ble x9.length 4611686018427387904 && Nat.ble (sumW List.length x9) 1099511627776 then K (.ext 0) (z_cc1 x0 ((sumW List.length x9 : Nat) : Int)) else none
def sh_cc2 : Ss := { tm := (.cons (.x) (.cons (.x) (.cons (.x) (.cons (.x) (.cons (.x) (.cons (.x) (.cons (.w 0) (.cons (.x) (.cons (.x) (.cons (.x) (.cons (.x) (.cons (.x) (.cons (.x) (.cons (.x) (.cons (.x) (.cons (.x) (.cons (.x) (.cons (.x) (.cons (.x) (.cons (.x) (.cons (.x) (.cons (.x) (.cons (.x) (.cons (.x) (.cons (.x) (.cons (.l .no pieceR) (.cons (.int .i64) (.cons (.int .i64) (xsh 8))))))))))))))))))))))))))))), ob := (.arr true true bytesR .nil), nx := 1, io := .nil }
def d_cc2 (x25 : List (List (Int))) (x26 : Int) (x27 : Int) (o0 : List (Int)) : sh_cc2.T := (((), ((), ((), ((), ((), ((), ((), ((), ((), ((), ((), ((), ((), ((), ((), ((), ((), ((), ((), ((), ((), ((), ((), ((), ((), (x25, (x26, (x27, xd 8)))))))))))))))))))))))))))), (o0, ()), ())
def z_cc2 (o0 : List Int) : St := { tm := ([.x, .x, .x, .x, .x, .x, (.w 0)] ++ List.replicate 29 .x), ob := [(0, (.arr true true bytesR o0))], nx := 1, io := [] }
def R_cc2 (d : sh_cc2.T) (K : Ex → St → Option Ret) : Option Ret := match d with
  | ((_, (_, (_, (_, (_, (_, (_, (_, (_, (_, (_, (_, (_, (_, (_, (_, (_, (_, (_, (_, (_, (_, (_, (_, (_, (x25, (x26, (x27, _)))))))))))))))))))))))))))), (o0, _), _) => bif (x27 == 0) && (x26 == ((x25.length : Nat) : Int)) && Nat.ble x25.length 4611686018427387904 && Nat.beq o0.length 0 && Nat.ble (sumW List.length x25) 1099511627776 then K (.ext 2) (z_cc2 x25.flatten) else none
noncomputable def E_cc : Env := En [(N.slices_Grow_bytes_byte, true, S_growN bytesR)] [] [(3, [0,3,9,10,11], [0,3], loopF sh_cc1 R_cc1), (11, [6,25,26,27], [6], loopF sh_cc2 R_cc2)]
noncomputable abbrev L_cc1 (n : Nat) (x0 : List (List Int)) (x3 : Int) (x9 : List (List (Int))) (x10 x11 : Int) (K : Ex → St → Option Ret) : Option Ret := rounds (run E_cc (bodyOf F.slices_Concat_bytes_byte 3)) [0,3,9,10,11] [0,3] n (sh_cc1.mk' (d_cc1 x0 x3 x9 x10 x11)) K
noncomputable abbrev L_cc2 (n : Nat) (x25 : List (List (Int))) (x26 x27 : Int) (o0 : List Int) (K : Ex → St → Option Ret) : Option Ret := rounds (run E_cc (bodyOf F.slices_Concat_bytes_byte 11)) [6,25,26,27] [6] n (sh_cc2.mk' (d_cc2 x25 x26 x27 o0)) K
theorem step_cc1 (n : Nat) (x0 : List (List (Int))) (x3 : Int) (x9 : List (List (Int))) (x10 : Int) (x11 : Int) (K : Ex → St → Option Ret) : L_cc1 (n + 1) x0 x3 x9 x10 x11 K =
 (bif decide (x11 < x10) then
 (bif (decide ((0 : Int) ≤ x11) && decide (x11 < (((List.length x9) : Nat) : Int))) then
  (bif decide ((IntKind.wrap .i64 (x3 + (((List.length (List.getD x9 (Int.toNat x11) (pieceR.dflt))) : Nat) : Int))) < (0 : Int)) then
   none
   else L_cc1 n x0 (IntKind.wrap .i64 (x3 + (((List.length (List.getD x9 (Int.toNat x11) (pieceR.dflt))) : Nat) : Int))) x9 x10 (IntKind.wrap .i64 (x11 + (1 : Int))) K)
  else none)
 else K (.ext 0) (z_cc1 x0 x3)) := by kernel_rfl
theorem step_cc2 (n : Nat) (x25 : List (List (Int))) (x26 : Int) (x27 : Int) (o0 : List (Int)) (K : Ex → St → Option Ret) : L_cc2 (n + 1) x25 x26 x27 o0 K =
 (bif decide (x27 < x26) then
 (bif (decide ((0 : Int) ≤ x27) && decide (x27 < (((List.length x25) : Nat) : Int))) then
  (bif (Nat.ble (((List.length o0) + (List.length (List.getD x25 (Int.toNat x27) (pieceR.dflt)))) * 1) 140737488355328) then
   L_cc2 n x25 x26 (IntKind.wrap .i64 (x27 + (1 : Int))) (o0 ++ (List.getD x25 (Int.toNat x27) (pieceR.dflt))) K
   else none)
  else none)
 else K (.ext 2) (z_cc2 o0)) := by kernel_rfl
theorem go_cc1 (x0 x9 : List (List Int)) (K : Ex → St → Option Ret) (h1 : x9.length ≤ 4611686018427387904) (h2 : sumW List.length x9 ≤ 1099511627776) : L_cc1 (x9.length + 1) x0 0 x9 ((x9.length : Nat) : Int) 0 K = K (.ext 0) (z_cc1 x0 ((sumW List.length x9 : Nat) : Int)) := by
  have := loop_idx (R := fun n i (s : Int) => L_cc1 n x0 s x9 ((x9.length : Nat) : Int) i K) (k := K (.ext 0) (z_cc1 x0 ((sumW List.length x9 : Nat) : Int))) (f := fun i => ((sumW List.length (x9.take i) : Nat) : Int)) x9.length (fun m i hi => by
    show L_cc1 (m + 1) x0 _ x9 _ i K = L_cc1 m x0 ((sumW List.length (x9.take (i + 1)) : Nat) : Int) x9 _ ((i + 1 : Nat) : Int) K
    have hs := sumW_take (g := List.length) (z := (pieceR.dflt : List Int)) hi
    have hs' : sumW List.length (List.take (i + 1) x9) = sumW List.length (List.take i x9) + List.length (x9.getD i pieceR.dflt) := hs
    have hle : sumW List.length (x9.take (i + 1)) ≤ sumW List.length x9 := sumW_take_le
    rw [step_cc1, decide_eq_true (show ((i : Nat) : Int) < ((x9.length : Nat) : Int) by omega), decide_eq_true (show (0 : Int) ≤ ((i : Nat) : Int) by omega), wrap_nat (show i ≤ 4611686018427387904 by omega), Int.toNat_natCast, wrap_id (by omega) (by omega), hs', decide_eq_false (show ¬ ((((sumW List.length (List.take i x9) : Nat) : Int) + ((List.length (x9.getD i pieceR.dflt) : Nat) : Int)) < 0) by omega), Int.natCast_add]
    rfl) (fun m => by
    show L_cc1 (m + 1) x0 _ x9 _ _ K = _
    rw [step_cc1, decide_eq_false (show ¬ ((x9.length : Nat) : Int) < ((x9.length : Nat) : Int) by omega), List.take_length]; rfl)
  exact this
theorem go_cc2 (x25 : List (List Int)) (K : Ex → St → Option Ret) (h1 : x25.length ≤ 4611686018427387904) (h2 : sumW List.length x25 ≤ 1099511627776) : L_cc2 (x25.length + 1) x25 ((x25.length : Nat) : Int) 0 [] K = K (.ext 2) (z_cc2 x25.flatten) := by
  have := loop_idx (R := fun n i (s : List Int) => L_cc2 n x25 ((x25.length : Nat) : Int) i s K) (k := K (.ext 2) (z_cc2 x25.flatten)) (f := fun i => (x25.take i).flatten) x25.length (fun m i hi => by
    show L_cc2 (m + 1) x25 _ i _ K = L_cc2 m x25 _ ((i + 1 : Nat) : Int) (x25.take (i + 1)).flatten K
    have hs := sumW_take (g := List.length) (z := (pieceR.dflt : List Int)) hi
    have hs' : sumW List.length (List.take (i + 1) x25) = sumW List.length (List.take i x25) + List.length (x25.getD i pieceR.dflt) := hs
    have hle : sumW List.length (x25.take (i + 1)) ≤ sumW List.length x25 := sumW_take_le
    have hfl := sumW_flatten (x25.take i)
    rw [step_cc2, decide_eq_true (show ((i : Nat) : Int) < ((x25.length : Nat) : Int) by omega), decide_eq_true (show (0 : Int) ≤ ((i : Nat) : Int) by omega), wrap_nat (show i ≤ 4611686018427387904 by omega), Int.toNat_natCast, Nat.ble_eq_true_of_le (show (((x25.take i).flatten.length + (x25.getD i pieceR.dflt).length) * 1) ≤ 140737488355328 by omega)]
    show L_cc2 m x25 _ _ ((x25.take i).flatten ++ x25.getD i pieceR.dflt) K = _
    have hf2 : (x25.take (i + 1)).flatten = (x25.take i).flatten ++ x25.getD i pieceR.dflt := flatten_take hi
    rw [hf2]) (fun m => by
    show L_cc2 (m + 1) x25 _ _ _ K = _
    rw [step_cc2, decide_eq_false (show ¬ ((x25.length : Nat) : Int) < ((x25.length : Nat) : Int) by omega), List.take_length]; rfl)
  exact this
theorem loop_cc1 : LoopOk E_cc (bodyOf F.slices_Concat_bytes_byte 3) := by
  refine loopF_ok (n := 3) (sh := sh_cc1) (R := R_cc1) (by kernel_rfl) rfl rfl (fun d K r hr => ?_)
  obtain ⟨⟨x0, u1, u2, x3, u4, u5, u6, u7, u8, x9, x10, x11, u12⟩, u13, u14⟩ := d
  unfold R_cc1 at hr
  simp only at hr
  cases hc : ((x11 == 0) && (x3 == 0) && (x10 == ((x9.length : Nat) : Int)) && Nat.ble x9.length 4611686018427387904 && Nat.ble (sumW List.length x9) 1099511627776) with
  | false => rw [hc] at hr; cases hr
  | true =>
    rw [hc] at hr
    simp only [Bool.and_eq_true, beq_iff_eq] at hc
    obtain ⟨⟨⟨⟨rfl, rfl⟩, rfl⟩, h1⟩, h2⟩ := hc
    exact ⟨x9.length + 1, (go_cc1 x0 x9 K (Nat.le_of_ble_eq_true h1) (Nat.le_of_ble_eq_true h2)).trans hr⟩
theorem loop_cc2 : LoopOk E_cc (bodyOf F.slices_Concat_bytes_byte 11) := by
  refine loopF_ok (n := 11) (sh := sh_cc2) (R := R_cc2) (by kernel_rfl) rfl rfl (fun d K r hr => ?_)
  obtain ⟨⟨_, _, _, _, _, _, _, _, _, _, _, _, _, _, _, _, _, _, _, _, _, _, _, _, _, x25, x26, x27, u12⟩, ⟨o0, u13⟩, u14⟩ := d
  unfold R_cc2 at hr
  simp only at hr
  cases hc : ((x27 == 0) && (x26 == ((x25.length : Nat) : Int)) && Nat.ble x25.length 4611686018427387904 && Nat.beq o0.length 0 && Nat.ble (sumW List.length x25) 1099511627776) with
  | false => rw [hc] at hr; cases hr
  | true =>
    rw [hc] at hr
    simp only [Bool.and_eq_true, beq_iff_eq] at hc
    obtain ⟨⟨⟨⟨rfl, rfl⟩, h1⟩, h3⟩, h2⟩ := hc
    have h3' : o0 = [] := List.eq_nil_of_length_eq_zero (Nat.eq_of_beq_eq_true h3)
    subst h3'
    exact ⟨x25.length + 1, (go_cc2 x25 K (Nat.le_of_ble_eq_true h1) (Nat.le_of_ble_eq_true h2)).trans hr⟩
noncomputable def G_Concat := evF E_cc true F.slices_Concat_bytes_byte
theorem ok_Concat : OkFn prog I N.slices_Concat_bytes_byte true G_Concat := ok_fn (memc okS_Grow mem0) (by kernel_rfl) (by kernel_rfl) (by kernel_rfl) (by kernel_rfl) (cs := [bodyOf F.slices_Concat_bytes_byte 3, bodyOf F.slices_Concat_bytes_byte 11]) (by kernel_rfl) (loopsc loop_cc1 (loopsc loop_cc2 loops0))
def S_concat : Sm := fun vs K => match vs with
  | [v] => match (Cc.sl pieceR).dec v with
    | some (xs : List (List Int)) => bif Nat.ble xs.length 4611686018427387904 && Nat.ble (sumW List.length xs) 1099511627776 then K (.l .deep bytesR xs.flatten, []) else none
    | none => none
  | _ => none
theorem okS_Concat : OkFn prog I N.slices_Concat_bytes_byte true S_concat := okW ok_Concat (by
  intro ws K q hr
  unfold S_concat at hr
  split at hr
  · split at hr
    · rename_i xs hx
      rw [Cc.dec_ok _ hx]
      have e : G_Concat [.l .no pieceR xs] K = (bif ((0 : Int) == 0) && ((0 : Int) == 0) && (((List.length xs : Nat) : Int) == ((List.length xs : Nat) : Int)) && Nat.ble (List.length xs) 4611686018427387904 && Nat.ble (sumW List.length xs) 1099511627776 then
        (bif decide (0 ≤ ((sumW List.length xs : Nat) : Int)) && decide (((sumW List.length xs : Nat) : Int) ≤ 1099511627776) then
         (bif ((0 : Int) == 0) && (((List.length xs : Nat) : Int) == ((List.length xs : Nat) : Int)) && Nat.ble (List.length xs) 4611686018427387904 && Nat.beq 0 0 && Nat.ble (sumW List.length xs) 1099511627776 then K (.l .deep bytesR (List.flatten xs), []) else none)
         else none) else none) := by kernel_rfl
      cases hl : (Nat.ble xs.length 4611686018427387904 && Nat.ble (sumW List.length xs) 1099511627776) with
      | false => rw [hl] at hr; cases hr
      | true =>
        rw [hl] at hr
        simp only [Bool.and_eq_true] at hl
        refine e.trans (Eq.trans ?_ hr)
        rw [hl.1, hl.2, beq_self_eq_true, beq_self_eq_true, decide_eq_true (show (0 : Int) ≤ ((sumW List.length xs : Nat) : Int) by omega), decide_eq_true (show ((sumW List.length xs : Nat) : Int) ≤ 1099511627776 by have := Nat.le_of_ble_eq_true hl.2; omega)]
        rfl
    · cases hr
  · cases hr)
end Go.Ev.Seat
end
section
/- i_reqParse: its contract. -/
namespace Go.Ev.Seat
open Go.RowKit
set_option maxRecDepth 100000
set_option linter.unusedVariables false
set_option linter.unusedSimpArgs false
noncomputable abbrev E_i_reqParse : Env := En [(N.i_readWord, true, S_i_readWord), (N.slices_Clone_bytes_byte, true, S_toL bytesR), (N.i_isReq, true, S_i_isReq)] [(3, takeB [0, 1, 2, 3, 4, 5, 6, 7, 8, 9, 11, 12, 14, 15, 17, 18] (.fork (.more 10 (.fork (.more 13 (.fork (.more 16 (.fork (.more 19 (takeB [20] (.fork (.one 21 (.fork (.one 22 (.done)))))) (.one 21 (.fork (.one 19 (takeB [20] (.fork (.one 22 (.done))))))))) (.one 21 (.fork (.one 16 (.fork (.one 19 (takeB [20] (.fork (.one 22 (.done))))))))))) (.one 21 (.fork (.one 13 (.fork (.one 16 (.fork (.one 19 (takeB [20] (.fork (.one 22 (.done))))))))))))) (.one 21 (.fork (.one 10 (.fork (.one 13 (.fork (.one 16 (.fork (.one 19 (takeB [20] (.fork (.one 22 (.done))))))))))))))), [])] [] [] false 0 []
noncomputable def T_i_reqParse (d : List Int) (K : Ret → Option Ret) : Option Ret :=
 (bif (decide ((((List.length d) : Nat) : Int) < (9 : Int))) then
 K ((.t [(.a [(.s (.int .i64 (0 : Int))), (.s (.int .i64 (0 : Int))), (.s (.int .i64 (0 : Int))), (.s (.int .i64 (0 : Int))), (.s (.int .i64 (0 : Int))), (.l .deep bytesR ([] : List Int))]), (.s (.bool false))]), [])
 else (bif (decide ((8 : Int) < (((List.length d) : Nat) : Int))) then
  (bif ((((List.length d) : Nat) : Int) != (IntKind.wrap .i64 ((9 : Int) + (IntKind.wrap .i64 (List.getD d 8 (0 : Int)))))) then
   K ((.t [(.a [(.s (.int .i64 (0 : Int))), (.s (.int .i64 (0 : Int))), (.s (.int .i64 (0 : Int))), (.s (.int .i64 (0 : Int))), (.s (.int .i64 (0 : Int))), (.l .deep bytesR ([] : List Int))]), (.s (.bool false))]), [])
   else (bif (decide ((0 : Int) < (((List.length d) : Nat) : Int))) then
    (bif (decide ((1 : Int) < (((List.length d) : Nat) : Int))) then
     (bif (decide ((2 : Int) ≤ (((List.length d) : Nat) : Int))) then
      (bif (decide ((4 : Int) ≤ (((List.length d) : Nat) : Int))) then
       (bif (decide ((6 : Int) ≤ (((List.length d) : Nat) : Int))) then
        (bif (decide ((9 : Int) ≤ (((List.length d) : Nat) : Int))) then
         (meet
          ((bif ((fitB (List.drop 2 d)) && (decide ((1 : Int) < (((List.length (List.drop 2 d)) : Nat) : Int)))) then
           (meet
            ((bif ((fitB (List.drop 4 d)) && (decide ((1 : Int) < (((List.length (List.drop 4 d)) : Nat) : Int)))) then
             (meet
              ((bif ((fitB (List.drop 6 d)) && (decide ((1 : Int) < (((List.length (List.drop 6 d)) : Nat) : Int)))) then
               (meet
                ((bif (Cc.lim (Cc.sl bytesR) (List.drop 9 d)) then
                 (bif (fitB (List.drop 9 d)) then
                  (bif (!(reqOkD ((IntKind.wrap .i64 (List.getD d 0 (0 : Int))), ((IntKind.wrap .i64 (List.getD d 1 (0 : Int))), ((atD (List.drop 2 d) (0 : Int)), ((atD (List.drop 4 d) (0 : Int)), ((atD (List.drop 6 d) (0 : Int)), (List.drop 9 d)))))))) then
                   K ((.t [(.a [(.s (.int .i64 (0 : Int))), (.s (.int .i64 (0 : Int))), (.s (.int .i64 (0 : Int))), (.s (.int .i64 (0 : Int))), (.s (.int .i64 (0 : Int))), (.l .deep bytesR ([] : List Int))]), (.s (.bool false))]), [])
                   else K ((.t [(.a [(.s (.int .i64 (IntKind.wrap .i64 (List.getD d 0 (0 : Int))))), (.s (.int .i64 (IntKind.wrap .i64 (List.getD d 1 (0 : Int))))), (.s (.int .i64 (atD (List.drop 2 d) (0 : Int)))), (.s (.int .i64 (atD (List.drop 4 d) (0 : Int)))), (.s (.int .i64 (atD (List.drop 6 d) (0 : Int)))), (.l .deep bytesR (List.drop 9 d))]), (.s (.bool true))]), []))
                  else none)
                 else none))
                ((bif (Cc.lim (Cc.sl bytesR) (List.drop 9 d)) then
                 (bif (fitB (List.drop 9 d)) then
                  (bif (!(reqOkD ((IntKind.wrap .i64 (List.getD d 0 (0 : Int))), ((IntKind.wrap .i64 (List.getD d 1 (0 : Int))), ((atD (List.drop 2 d) (0 : Int)), ((atD (List.drop 4 d) (0 : Int)), ((atD (List.drop 6 d) (0 : Int)), (List.drop 9 d)))))))) then
                   K ((.t [(.a [(.s (.int .i64 (0 : Int))), (.s (.int .i64 (0 : Int))), (.s (.int .i64 (0 : Int))), (.s (.int .i64 (0 : Int))), (.s (.int .i64 (0 : Int))), (.l .deep bytesR ([] : List Int))]), (.s (.bool false))]), [])
                   else K ((.t [(.a [(.s (.int .i64 (IntKind.wrap .i64 (List.getD d 0 (0 : Int))))), (.s (.int .i64 (IntKind.wrap .i64 (List.getD d 1 (0 : Int))))), (.s (.int .i64 (atD (List.drop 2 d) (0 : Int)))), (.s (.int .i64 (atD (List.drop 4 d) (0 : Int)))), (.s (.int .i64 (atD (List.drop 6 d) (0 : Int)))), (.l .deep bytesR (List.drop 9 d))]), (.s (.bool true))]), []))
                  else none)
                 else none)))
               else none))
              ((bif ((fitB (List.drop 6 d)) && (decide ((1 : Int) < (((List.length (List.drop 6 d)) : Nat) : Int)))) then
               (bif (Cc.lim (Cc.sl bytesR) (List.drop 9 d)) then
                (bif (fitB (List.drop 9 d)) then
                 (bif (!(reqOkD ((IntKind.wrap .i64 (List.getD d 0 (0 : Int))), ((IntKind.wrap .i64 (List.getD d 1 (0 : Int))), ((atD (List.drop 2 d) (0 : Int)), ((atD (List.drop 4 d) (0 : Int)), ((atD (List.drop 6 d) (0 : Int)), (List.drop 9 d)))))))) then
                  K ((.t [(.a [(.s (.int .i64 (0 : Int))), (.s (.int .i64 (0 : Int))), (.s (.int .i64 (0 : Int))), (.s (.int .i64 (0 : Int))), (.s (.int .i64 (0 : Int))), (.l .deep bytesR ([] : List Int))]), (.s (.bool false))]), [])
                  else K ((.t [(.a [(.s (.int .i64 (IntKind.wrap .i64 (List.getD d 0 (0 : Int))))), (.s (.int .i64 (IntKind.wrap .i64 (List.getD d 1 (0 : Int))))), (.s (.int .i64 (atD (List.drop 2 d) (0 : Int)))), (.s (.int .i64 (atD (List.drop 4 d) (0 : Int)))), (.s (.int .i64 (atD (List.drop 6 d) (0 : Int)))), (.l .deep bytesR (List.drop 9 d))]), (.s (.bool true))]), []))
                 else none)
                else none)
               else none)))
             else none))
            ((bif ((fitB (List.drop 4 d)) && (decide ((1 : Int) < (((List.length (List.drop 4 d)) : Nat) : Int)))) then
             (bif ((fitB (List.drop 6 d)) && (decide ((1 : Int) < (((List.length (List.drop 6 d)) : Nat) : Int)))) then
              (bif (Cc.lim (Cc.sl bytesR) (List.drop 9 d)) then
               (bif (fitB (List.drop 9 d)) then
                (bif (!(reqOkD ((IntKind.wrap .i64 (List.getD d 0 (0 : Int))), ((IntKind.wrap .i64 (List.getD d 1 (0 : Int))), ((atD (List.drop 2 d) (0 : Int)), ((atD (List.drop 4 d) (0 : Int)), ((atD (List.drop 6 d) (0 : Int)), (List.drop 9 d)))))))) then
                 K ((.t [(.a [(.s (.int .i64 (0 : Int))), (.s (.int .i64 (0 : Int))), (.s (.int .i64 (0 : Int))), (.s (.int .i64 (0 : Int))), (.s (.int .i64 (0 : Int))), (.l .deep bytesR ([] : List Int))]), (.s (.bool false))]), [])
                 else K ((.t [(.a [(.s (.int .i64 (IntKind.wrap .i64 (List.getD d 0 (0 : Int))))), (.s (.int .i64 (IntKind.wrap .i64 (List.getD d 1 (0 : Int))))), (.s (.int .i64 (atD (List.drop 2 d) (0 : Int)))), (.s (.int .i64 (atD (List.drop 4 d) (0 : Int)))), (.s (.int .i64 (atD (List.drop 6 d) (0 : Int)))), (.l .deep bytesR (List.drop 9 d))]), (.s (.bool true))]), []))
                else none)
               else none)
              else none)
             else none)))
           else none))
          ((bif ((fitB (List.drop 2 d)) && (decide ((1 : Int) < (((List.length (List.drop 2 d)) : Nat) : Int)))) then
           (bif ((fitB (List.drop 4 d)) && (decide ((1 : Int) < (((List.length (List.drop 4 d)) : Nat) : Int)))) then
            (bif ((fitB (List.drop 6 d)) && (decide ((1 : Int) < (((List.length (List.drop 6 d)) : Nat) : Int)))) then
             (bif (Cc.lim (Cc.sl bytesR) (List.drop 9 d)) then
              (bif (fitB (List.drop 9 d)) then
               (bif (!(reqOkD ((IntKind.wrap .i64 (List.getD d 0 (0 : Int))), ((IntKind.wrap .i64 (List.getD d 1 (0 : Int))), ((atD (List.drop 2 d) (0 : Int)), ((atD (List.drop 4 d) (0 : Int)), ((atD (List.drop 6 d) (0 : Int)), (List.drop 9 d)))))))) then
                K ((.t [(.a [(.s (.int .i64 (0 : Int))), (.s (.int .i64 (0 : Int))), (.s (.int .i64 (0 : Int))), (.s (.int .i64 (0 : Int))), (.s (.int .i64 (0 : Int))), (.l .deep bytesR ([] : List Int))]), (.s (.bool false))]), [])
                else K ((.t [(.a [(.s (.int .i64 (IntKind.wrap .i64 (List.getD d 0 (0 : Int))))), (.s (.int .i64 (IntKind.wrap .i64 (List.getD d 1 (0 : Int))))), (.s (.int .i64 (atD (List.drop 2 d) (0 : Int)))), (.s (.int .i64 (atD (List.drop 4 d) (0 : Int)))), (.s (.int .i64 (atD (List.drop 6 d) (0 : Int)))), (.l .deep bytesR (List.drop 9 d))]), (.s (.bool true))]), []))
               else none)
              else none)
             else none)
            else none)
           else none)))
         else none)
        else none)
       else none)
      else none)
     else none)
    else none))
  else none))
theorem e_i_reqParse (d : List Int) (K : Ret → Option Ret) : evF E_i_reqParse true F.i_reqParse [.l .no bytesR d] K = T_i_reqParse d K := by kernel_rfl
def S_i_reqParse : Sm := S_fnR [.l bytesR] (fun d => fitB d.1) (fun d => (.t [.a (reqR.cells .deep (reqParseD d.1).1), bl (reqParseD d.1).2], []))
theorem v_i_reqParse (d : List Int) (h : (fitB d) = true) (K : Ret → Option Ret) : T_i_reqParse d K = K (.t [.a (reqR.cells .deep (reqParseD d).1), bl (reqParseD d).2], []) := by
  have hl := fitB_len h
  unfold T_i_reqParse reqParseD
  by_cases h9 : ((d.length : Nat) : Int) < 9
  · rw [decide_eq_true h9]; rfl
  have b0 := fitB_getD h 0
  have b1 := fitB_getD h 1
  have b8 := fitB_getD h 8
  have e9 : ∀ {p : Prop} [Decidable p], p → decide p = true := fun hp => decide_eq_true hp
  rw [decide_eq_false h9, wrap_in (n := d.getD 8 0) (by omega) (by omega), wrap_in (n := 9 + d.getD 8 0) (by omega) (by omega)]
  simp (disch := omega) only [decide_eq_true (show (8 : Int) < ((d.length : Nat) : Int) by omega), decide_eq_true (show (0 : Int) < ((d.length : Nat) : Int) by omega), decide_eq_true (show (1 : Int) < ((d.length : Nat) : Int) by omega), decide_eq_true (show (2 : Int) ≤ ((d.length : Nat) : Int) by omega), decide_eq_true (show (4 : Int) ≤ ((d.length : Nat) : Int) by omega), decide_eq_true (show (6 : Int) ≤ ((d.length : Nat) : Int) by omega), decide_eq_true (show (9 : Int) ≤ ((d.length : Nat) : Int) by omega), fitB_drop h, bytes_lim (fitB_len (fitB_drop h 9)), cond_true, Bool.true_and,
    decide_eq_true (show (1 : Int) < (((d.drop 2).length : Nat) : Int) by simp only [List.length_drop]; omega), decide_eq_true (show (1 : Int) < (((d.drop 4).length : Nat) : Int) by simp only [List.length_drop]; omega), decide_eq_true (show (1 : Int) < (((d.drop 6).length : Nat) : Int) by simp only [List.length_drop]; omega), meet_self,
    wrap_in (n := d.getD 0 0) (by omega) (by omega), wrap_in (n := d.getD 1 0) (by omega) (by omega)]
  have e2 : (d.getD 0 0, d.getD 1 0, atD (d.drop 2) 0, atD (d.drop 4) 0, atD (d.drop 6) 0, d.drop 9) = reqOf d := by
    unfold reqOf atD
    simp only [getD_drop]; rfl
  have e3 : (((d.length : Nat) : Int) != 9 + d.getD 8 0) = !decide (((d.length : Nat) : Int) = 9 + d.getD 8 0) := rfl
  rw [e3]
  have e4 : ∀ K' : V → Option Ret, True := fun _ => trivial
  rw [show atD (d.drop 2) 0 = atD d 2 from congrArg (fun r : P6 => r.2.2.1) e2, show atD (d.drop 4) 0 = atD d 4 from congrArg (fun r : P6 => r.2.2.2.1) e2, show atD (d.drop 6) 0 = atD d 6 from congrArg (fun r : P6 => r.2.2.2.2.1) e2]
  show (bif !decide _ then _ else bif !(reqOkD (reqOf d)) then _ else _) = _
  cases decide (((d.length : Nat) : Int) = 9 + d.getD 8 0) <;> cases reqOkD (reqOf d) <;> rfl
theorem okS_i_reqParse : OkFn prog I N.i_reqParse true S_i_reqParse := okN (ok_fn (memc okS_i_readWord (memc okS_Clone (memc okS_i_isReq mem0))) (l := [(N.i_readWord, true, S_i_readWord), (N.slices_Clone_bytes_byte, true, S_toL bytesR), (N.i_isReq, true, S_i_isReq)]) (p := [(3, takeB [0, 1, 2, 3, 4, 5, 6, 7, 8, 9, 11, 12, 14, 15, 17, 18] (.fork (.more 10 (.fork (.more 13 (.fork (.more 16 (.fork (.more 19 (takeB [20] (.fork (.one 21 (.fork (.one 22 (.done)))))) (.one 21 (.fork (.one 19 (takeB [20] (.fork (.one 22 (.done))))))))) (.one 21 (.fork (.one 16 (.fork (.one 19 (takeB [20] (.fork (.one 22 (.done))))))))))) (.one 21 (.fork (.one 13 (.fork (.one 16 (.fork (.one 19 (takeB [20] (.fork (.one 22 (.done))))))))))))) (.one 21 (.fork (.one 10 (.fork (.one 13 (.fork (.one 16 (.fork (.one 19 (takeB [20] (.fork (.one 22 (.done))))))))))))))), [])]) (ls := []) (lend := []) (focus := false) (fuel := 0) (give := []) (fn := F.i_reqParse) (by kernel_rfl) (by kernel_rfl) (by kernel_rfl) (by kernel_rfl) (cs := []) (by kernel_rfl) loops0) (S_fnR_of fun d K h => (e_i_reqParse d.1 K).trans (v_i_reqParse d.1 h K))
end Go.Ev.Seat
end
section
/- i_Req_same: its contract. -/
namespace Go.Ev.Seat
open Go.RowKit
set_option maxRecDepth 100000
set_option linter.unusedVariables false
set_option linter.unusedSimpArgs false
noncomputable abbrev E_i_Req_same : Env := En [] [] [] [] false 0 []
noncomputable def T_i_Req_same (r : T_Req) (o : T_Req) (K : Ret → Option Ret) : Option Ret :=
 (bif (r.1 == o.1) then
 (bif (r.2.1 == o.2.1) then
  (bif (r.2.2.1 == o.2.2.1) then
   (bif (r.2.2.2.1 == o.2.2.2.1) then
    (bif (r.2.2.2.2.1 == o.2.2.2.2.1) then
     K ((.s (.bool ((ByteArray.toList (bstr r.2.2.2.2.2)) == (ByteArray.toList (bstr o.2.2.2.2.2))))), [])
     else K ((.s (.bool false)), []))
    else K ((.s (.bool false)), []))
   else K ((.s (.bool false)), []))
  else K ((.s (.bool false)), []))
 else K ((.s (.bool false)), []))
theorem e_i_Req_same (r : T_Req) (o : T_Req) (K : Ret → Option Ret) : evF E_i_Req_same true F.i_Req_same [.a (reqR.cells .no r), .a (reqR.cells .no o)] K = T_i_Req_same r o K := by kernel_rfl
def S_i_Req_same : Sm := S_fnR [.a reqR, .a reqR] (fun d => fitB d.1.2.2.2.2.2 && fitB d.2.1.2.2.2.2.2) (fun d => (bl (reqEqD d.1 d.2.1), []))
theorem v_i_Req_same (r : T_Req) (o : T_Req) (h : (fitB r.2.2.2.2.2 && fitB o.2.2.2.2.2) = true) (K : Ret → Option Ret) : T_i_Req_same r o K = K (bl (reqEqD r o), []) := by
  obtain ⟨h1, h2⟩ := (Bool.and_eq_true _ _).mp h
  unfold T_i_Req_same reqEqD
  rw [bstr_eq (fun x hx => fitB_mem h1 hx) (fun x hx => fitB_mem h2 hx)]
  cases (r.1 == o.1) <;> cases (r.2.1 == o.2.1) <;> cases (r.2.2.1 == o.2.2.1) <;> cases (r.2.2.2.1 == o.2.2.2.1) <;> cases (r.2.2.2.2.1 == o.2.2.2.2.1) <;> rfl
theorem okS_i_Req_same : OkFn prog I N.i_Req_same true S_i_Req_same := okN (ok_fn mem0 (l := []) (p := []) (ls := []) (lend := []) (focus := false) (fuel := 0) (give := []) (fn := F.i_Req_same) (by kernel_rfl) (by kernel_rfl) (by kernel_rfl) (by kernel_rfl) (cs := []) (by kernel_rfl) loops0) (S_fnR_of fun d K h => (e_i_Req_same d.1 d.2.1 K).trans (v_i_Req_same d.1 d.2.1 h K))
end Go.Ev.Seat
end
section
/- i_isOut: its contract. -/
namespace Go.Ev.Seat
open Go.RowKit
set_option maxRecDepth 100000
set_option linter.unusedVariables false
set_option linter.unusedSimpArgs false
noncomputable abbrev E_i_isOut : Env := En [(N.i_isReply, true, S_i_isReply), (N.i_isReq, true, S_i_isReq), (N.i_reqParse, true, S_i_reqParse), (N.i_Req_same, true, S_i_Req_same)] [] [] [] false 0 []
noncomputable def T_i_isOut (e : T_Event) (o : T_Out) (K : Ret → Option Ret) : Option Ret :=
 (bif (fitB o.2.2.2.2.2.2.2.2.2.2.2.2) then
 (bif (!(replyOkD o.2.2.2.2.2.2.2.2.2)) then
  K ((.s (.bool false)), [])
  else (bif (e.1 == (2 : Int)) then
   (bif (o.2.1 == e.2.1) then
    (bif (fitB o.2.2.2.2.2.2.2.1) then
     (bif (reqOkD (o.2.2.1, (o.2.2.2.1, (o.2.2.2.2.1, (o.2.2.2.2.2.1, (o.2.2.2.2.2.2.1, o.2.2.2.2.2.2.2.1)))))) then
      K ((.s (.bool (o.2.2.2.1 == e.2.1))), [])
      else K ((.s (.bool false)), []))
     else none)
    else K ((.s (.bool false)), []))
   else (bif (e.1 == (1 : Int)) then
    (bif (fitB e.2.2.2) then
     (bif (!(reqParseD e.2.2.2).2) then
      (bif (o.2.1 == (0 : Int)) then
       (bif ((fitB o.2.2.2.2.2.2.2.1) && (fitB ([] : List Int))) then
        (bif (reqEqD (o.2.2.1, (o.2.2.2.1, (o.2.2.2.2.1, (o.2.2.2.2.2.1, (o.2.2.2.2.2.2.1, o.2.2.2.2.2.2.2.1))))) ((0 : Int), ((0 : Int), ((0 : Int), ((0 : Int), ((0 : Int), ([] : List Int))))))) then
         K ((.s (.bool (o.2.2.2.2.2.2.2.2.2.1 == (1 : Int)))), [])
         else K ((.s (.bool false)), []))
        else none)
       else K ((.s (.bool false)), []))
      else (bif (o.2.1 == (reqParseD e.2.2.2).1.2.1) then
       (bif ((fitB o.2.2.2.2.2.2.2.1) && (fitB (reqParseD e.2.2.2).1.2.2.2.2.2)) then
        (bif (reqEqD (o.2.2.1, (o.2.2.2.1, (o.2.2.2.2.1, (o.2.2.2.2.2.1, (o.2.2.2.2.2.2.1, o.2.2.2.2.2.2.2.1))))) (reqParseD e.2.2.2).1) then
         K ((.s (.bool (o.2.2.2.2.2.2.2.2.2.1 == (10 : Int)))), [])
         else K ((.s (.bool false)), []))
        else none)
       else K ((.s (.bool false)), [])))
     else none)
    else K ((.s (.bool false)), []))))
 else none)
theorem e_i_isOut (e : T_Event) (o : T_Out) (K : Ret → Option Ret) : evF E_i_isOut true F.i_isOut [.a (eventR.cells .no e), .a (outR.cells .no o)] K = T_i_isOut e o K := by kernel_rfl
def S_i_isOut : Sm := S_fnR [.a eventR, .a outR] (fun d => fitB d.1.2.2.2 && fitB (outReq d.2.1).2.2.2.2.2 && fitB (outRep d.2.1).2.2.2) (fun d => (bl (outOkD d.1 d.2.1), []))
theorem v_i_isOut (e : T_Event) (o : T_Out) (h : (fitB e.2.2.2 && fitB (outReq o).2.2.2.2.2 && fitB (outRep o).2.2.2) = true) (K : Ret → Option Ret) : T_i_isOut e o K = K (bl (outOkD e o), []) := by
  obtain ⟨h12, h3⟩ := (Bool.and_eq_true _ _).mp h
  obtain ⟨h1, h2⟩ := (Bool.and_eq_true _ _).mp h12
  have h2' : fitB o.2.2.2.2.2.2.2.1 = true := h2
  have h3' : fitB o.2.2.2.2.2.2.2.2.2.2.2.2 = true := h3
  have h4 := fitB_parse h1
  unfold T_i_isOut outOkD frameOkD zeroReq outRep
  rw [h1, h2', h3', h4, show fitB [] = true from rfl]
  show (bif true then (bif !_ then _ else (bif _ then (bif _ then (bif true then (bif reqOkD (outReq o) then _ else _) else _) else _) else (bif _ then (bif true then (bif !(reqParseD e.2.2.2).2 then (bif _ then (bif true && true then (bif reqEqD (outReq o) _ then _ else _) else _) else _) else (bif _ then (bif true && true then (bif reqEqD (outReq o) _ then _ else _) else _) else _)) else _) else _))) else _) = _
  cases replyOkD o.2.2.2.2.2.2.2.2.2
  · rfl
  cases (e.1 == (2 : Int))
  · cases (e.1 == (1 : Int))
    · rfl
    · cases (reqParseD e.2.2.2).2
      · cases (o.2.1 == (0 : Int)) <;> cases reqEqD (outReq o) (0, 0, 0, 0, 0, []) <;> rfl
      · cases (o.2.1 == (reqParseD e.2.2.2).1.2.1) <;> cases reqEqD (outReq o) (reqParseD e.2.2.2).1 <;> rfl
  · cases (o.2.1 == e.2.1) <;> cases reqOkD (outReq o) <;> rfl
theorem okS_i_isOut : OkFn prog I N.i_isOut true S_i_isOut := okN (ok_fn (memc okS_i_isReply (memc okS_i_isReq (memc okS_i_reqParse (memc okS_i_Req_same mem0)))) (l := [(N.i_isReply, true, S_i_isReply), (N.i_isReq, true, S_i_isReq), (N.i_reqParse, true, S_i_reqParse), (N.i_Req_same, true, S_i_Req_same)]) (p := []) (ls := []) (lend := []) (focus := false) (fuel := 0) (give := []) (fn := F.i_isOut) (by kernel_rfl) (by kernel_rfl) (by kernel_rfl) (by kernel_rfl) (cs := []) (by kernel_rfl) loops0) (S_fnR_of fun d K h => (e_i_isOut d.1 d.2.1 K).trans (v_i_isOut d.1 d.2.1 h K))
end Go.Ev.Seat
end
section
/- i_areOuts: its contract. -/
namespace Go.Ev.Seat
open Go.RowKit
set_option maxRecDepth 100000
set_option linter.unusedVariables false
set_option linter.unusedSimpArgs false
def z_i_areOuts_4_0 (x4 : Bool) : St := { tm := ([.x, .x, .x, .x, (.s (.bool x4))] ++ List.replicate 52 .x), ob := [], nx := 0, io := [] }
def z_i_areOuts_4_1 : St := { tm := ([] ++ List.replicate 57 .x), ob := [], nx := 0, io := [] }
def sh_i_areOuts_4_0 : Ss := { tm := (.cons (.l .no commitR) (.cons (.l .no outR) (.cons (.x) (.cons (.x) (.cons (.x) (.cons (.x) (.cons (.x) (.cons (.x) (.cons (.x) (.cons (.x) (.cons (.x) (.cons (.x) (.cons (.x) (.cons (.x) (.cons (.x) (.cons (.x) (.cons (.x) (.cons (.l .no outR) (.cons (.int .i64) (.cons (.int .i64) (xsh 37))))))))))))))))))))), ob := .nil, nx := 0, io := .nil }
def d_i_areOuts_4_0 (x0 : List T_Commit) (x1 : List T_Out) (x17 : List T_Out) (x18 : Int) (x19 : Int) : sh_i_areOuts_4_0.T := ((x0, (x1, ((), ((), ((), ((), ((), ((), ((), ((), ((), ((), ((), ((), ((), ((), ((), (x17, (x18, (x19, xd 37)))))))))))))))))))), (), ())
def s_i_areOuts_4_0 (x0 : List T_Commit) (x1 : List T_Out) (x17 : List T_Out) (x18 : Int) (x19 : Int) : St := { tm := ([(.l .no commitR x0), (.l .no outR x1), .x, .x, .x, .x, .x, .x, .x, .x, .x, .x, .x, .x, .x, .x, .x, (.l .no outR x17), (.s (.int .i64 x18)), (.s (.int .i64 x19))] ++ List.replicate 37 .x), ob := [], nx := 0, io := [] }
theorem se_i_areOuts_4_0 (x0 : List T_Commit) (x1 : List T_Out) (x17 : List T_Out) (x18 : Int) (x19 : Int) : sh_i_areOuts_4_0.mk' (d_i_areOuts_4_0 x0 x1 x17 x18 x19) = (s_i_areOuts_4_0 x0 x1 x17 x18 x19) := by kernel_rfl
def w_i_areOuts_4_0 (d : sh_i_areOuts_4_0.T) (f : (List T_Commit) → (List T_Out) → (List T_Out) → Int → Int → Option Ret) : Option Ret := match d with | ((x0, (x1, (_, (_, (_, (_, (_, (_, (_, (_, (_, (_, (_, (_, (_, (_, (_, (x17, (x18, (x19, _)))))))))))))))))))), _, _) => f x0 x1 x17 x18 x19
noncomputable def P_i_areOuts_4_0 (x0 : List T_Commit) (x1 : List T_Out) (x17 : List T_Out) (x18 : Int) (x19 : Int) (nx0 : (List T_Commit) → (List T_Out) → (List T_Out) → Int → Int → Option Ret) (k0 : Bool → Option Ret) (k1 : Option Ret) : Option Ret :=
 (bif (decide (x19 < x18)) then
 (bif ((decide ((0 : Int) ≤ x19)) && (decide (x19 < (((List.length x17) : Nat) : Int)))) then
  (bif (!((decide ((0 : Int) ≤ (List.getD x17 (Int.toNat x19) (outR.dflt)).1)) && (decide ((List.getD x17 (Int.toNat x19) (outR.dflt)).1 ≤ (IntKind.wrap .i64 ((((List.length x0) : Nat) : Int) - (1 : Int))))))) then
   (k0 false)
   else (bif (decide (x19 > (0 : Int))) then
    (bif ((decide ((0 : Int) ≤ (IntKind.wrap .i64 (x19 - (1 : Int))))) && (decide ((IntKind.wrap .i64 (x19 - (1 : Int))) < (((List.length x1) : Nat) : Int)))) then
     (bif (decide ((List.getD x1 (Int.toNat (IntKind.wrap .i64 (x19 - (1 : Int)))) (outR.dflt)).1 ≥ (List.getD x17 (Int.toNat x19) (outR.dflt)).1)) then
      (k0 false)
      else (bif ((decide ((0 : Int) ≤ (List.getD x17 (Int.toNat x19) (outR.dflt)).1)) && (decide ((List.getD x17 (Int.toNat x19) (outR.dflt)).1 < (((List.length x0) : Nat) : Int)))) then
       (bif (((fitB (List.getD x0 (Int.toNat (List.getD x17 (Int.toNat x19) (outR.dflt)).1) (commitR.dflt)).2.2.2) && (fitB (List.getD x17 (Int.toNat x19) (outR.dflt)).2.2.2.2.2.2.2.1)) && (fitB (List.getD x17 (Int.toNat x19) (outR.dflt)).2.2.2.2.2.2.2.2.2.2.2.2)) then
        (bif (!(outOkD (List.getD x0 (Int.toNat (List.getD x17 (Int.toNat x19) (outR.dflt)).1) (commitR.dflt)) (List.getD x17 (Int.toNat x19) (outR.dflt)))) then
         (k0 false)
         else (nx0 x0 x1 x17 x18 (IntKind.wrap .i64 (x19 + (1 : Int)))))
        else none)
       else none))
     else none)
    else (bif ((decide ((0 : Int) ≤ (List.getD x17 (Int.toNat x19) (outR.dflt)).1)) && (decide ((List.getD x17 (Int.toNat x19) (outR.dflt)).1 < (((List.length x0) : Nat) : Int)))) then
     (bif (((fitB (List.getD x0 (Int.toNat (List.getD x17 (Int.toNat x19) (outR.dflt)).1) (commitR.dflt)).2.2.2) && (fitB (List.getD x17 (Int.toNat x19) (outR.dflt)).2.2.2.2.2.2.2.1)) && (fitB (List.getD x17 (Int.toNat x19) (outR.dflt)).2.2.2.2.2.2.2.2.2.2.2.2)) then
      (bif (!(outOkD (List.getD x0 (Int.toNat (List.getD x17 (Int.toNat x19) (outR.dflt)).1) (commitR.dflt)) (List.getD x17 (Int.toNat x19) (outR.dflt)))) then
       (k0 false)
       else (nx0 x0 x1 x17 x18 (IntKind.wrap .i64 (x19 + (1 : Int)))))
      else none)
     else none)))
  else none)
 else k1)
noncomputable def Q_i_areOuts_4_0 : Nat → (List T_Commit) → (List T_Out) → (List T_Out) → Int → Int → (Bool → Option Ret) → (Option Ret) → Option Ret
  | 0, _, _, _, _, _, _, _ => none
  | m + 1, x0, x1, x17, x18, x19, k0, k1 => P_i_areOuts_4_0 x0 x1 x17 x18 x19 (fun x0 x1 x17 x18 x19 => (Q_i_areOuts_4_0 m x0 x1 x17 x18 x19 k0 k1)) k0 k1
noncomputable def R_i_areOuts_4_0 (x0 : List T_Commit) (x1 : List T_Out) (x17 : List T_Out) (x18 : Int) (x19 : Int) (k0 : Bool → Option Ret) (k1 : Option Ret) : Option Ret := Q_i_areOuts_4_0 (List.length x0 + List.length x1 + List.length x17 + x18.toNat + x19.toNat + 2) x0 x1 x17 x18 x19 k0 k1
noncomputable def W_i_areOuts_4 : LoopFn := (fun (σ : St) (K : Ex → St → Option Ret) => (match sh_i_areOuts_4_0.un σ with | some d => w_i_areOuts_4_0 d (fun x0 x1 x17 x18 x19 => R_i_areOuts_4_0 x0 x1 x17 x18 x19 (fun x4 => (K .ret (z_i_areOuts_4_0 x4))) (K (.ext 0) z_i_areOuts_4_1)) | none => none))
noncomputable abbrev E_i_areOuts : Env := En [(N.i_areEvents, true, S_i_areEvents), (N.i_in, true, S_i_in), (N.i_isOut, true, S_i_isOut)] [(6, takeB [0, 1, 2, 3, 4] (.fork (.one 5 (takeB [6, 7, 8, 9, 10, 11, 12, 13, 14, 15, 16, 17, 18, 19, 20, 21, 22, 23, 24, 25, 26, 27, 28] (.fork (.one 29 (takes [30, 31])))))), [])] [(4, [0,1,17,18,19], [4], W_i_areOuts_4)] [] false 0 []
theorem st_i_areOuts_4_0 (m : Nat) (x0 : List T_Commit) (x1 : List T_Out) (x17 : List T_Out) (x18 : Int) (x19 : Int) (K : Ex → St → Option Ret) : rounds (run E_i_areOuts (bodyOf F.i_areOuts 4)) [0,1,17,18,19] [4] (m + 1) (s_i_areOuts_4_0 x0 x1 x17 x18 x19) K = P_i_areOuts_4_0 x0 x1 x17 x18 x19 (fun x0 x1 x17 x18 x19 => (rounds (run E_i_areOuts (bodyOf F.i_areOuts 4)) [0,1,17,18,19] [4] m (s_i_areOuts_4_0 x0 x1 x17 x18 x19) K)) (fun x4 => (K .ret (z_i_areOuts_4_0 x4))) (K (.ext 0) z_i_areOuts_4_1) := by kernel_rfl
theorem q_i_areOuts_4 (K : Ex → St → Option Ret) : ∀ m : Nat, (∀ (x0 : List T_Commit) (x1 : List T_Out) (x17 : List T_Out) (x18 : Int) (x19 : Int), rounds (run E_i_areOuts (bodyOf F.i_areOuts 4)) [0,1,17,18,19] [4] m (s_i_areOuts_4_0 x0 x1 x17 x18 x19) K = Q_i_areOuts_4_0 m x0 x1 x17 x18 x19 (fun x4 => (K .ret (z_i_areOuts_4_0 x4))) (K (.ext 0) z_i_areOuts_4_1))
  | 0 => (fun _ _ _ _ _ => rfl)
  | m + 1 => (fun x0 x1 x17 x18 x19 => (by rw [st_i_areOuts_4_0, show (fun x0 x1 x17 x18 x19 => (rounds (run E_i_areOuts (bodyOf F.i_areOuts 4)) [0,1,17,18,19] [4] m (s_i_areOuts_4_0 x0 x1 x17 x18 x19) K)) = (fun x0 x1 x17 x18 x19 => (Q_i_areOuts_4_0 m x0 x1 x17 x18 x19 (fun x4 => (K .ret (z_i_areOuts_4_0 x4))) (K (.ext 0) z_i_areOuts_4_1))) from funext fun x0 => funext fun x1 => funext fun x17 => funext fun x18 => funext fun x19 => (q_i_areOuts_4 K m) x0 x1 x17 x18 x19]; rfl))
theorem loopK_i_areOuts_4 : LoopOk E_i_areOuts (bodyOf F.i_areOuts 4) := by
  refine loopW_ok (n := 4) (F := W_i_areOuts_4) (by kernel_rfl) rfl (li := [0,1,17,18,19]) (lo := [4]) rfl (fun σ K r hr => ?_)
  unfold W_i_areOuts_4 at hr
  split at hr
  · rename_i d hd
    rw [Ss.un_mk hd]
    exact ⟨_, ((congrArg (fun z => rounds (run E_i_areOuts (bodyOf F.i_areOuts 4)) [0,1,17,18,19] [4] _ z K) (se_i_areOuts_4_0 _ _ _ _ _)).trans ((q_i_areOuts_4 K _) _ _ _ _ _)).trans hr⟩
  · cases hr
noncomputable def T_i_areOuts (l : List T_Event) (t : List T_Out) (K : Ret → Option Ret) : Option Ret :=
 (bif (Nat.ble (List.length l) 1048576) then
 (bif (!(eventsOkD l)) then
  K ((.s (.bool false)), [])
  else (bif (decide ((((List.length t) : Nat) : Int) > (((List.length l) : Nat) : Int))) then
   K ((.s (.bool false)), [])
   else (R_i_areOuts_4_0 l t t (((List.length t) : Nat) : Int) (0 : Int) (fun y0 =>
    K ((.s (.bool y0)), [])) (K ((.s (.bool true)), [])))))
 else none)
theorem e_i_areOuts (l : List T_Event) (t : List T_Out) (K : Ret → Option Ret) : evF E_i_areOuts true F.i_areOuts [.l .no eventR l, .l .no outR t] K = T_i_areOuts l t K := by kernel_rfl
def S_i_areOuts : Sm := S_fnR [.l eventR, .l outR] (fun d => fitC (.sl eventR) d.1 && fitC (.sl outR) d.2.1) (fun d => (bl (outsOkD d.1 d.2.1), []))
theorem v_i_areOuts (l : List T_Event) (t : List T_Out) (h : (fitC (.sl eventR) l && fitC (.sl outR) t) = true) (K : Ret → Option Ret) : T_i_areOuts l t K = K (bl (outsOkD l t), []) := by
  obtain ⟨h1, h2⟩ := (Bool.and_eq_true _ _).mp h
  have l1 := fitC_len h1
  have l2 := fitC_len h2
  unfold T_i_areOuts outsOkD
  rw [Nat.ble_eq_true_of_le l1]
  cases eventsOkD l
  · rfl
  by_cases hn : ((t.length : Nat) : Int) ≤ ((l.length : Nat) : Int)
  case neg => rw [decide_eq_false hn, decide_eq_true (show ((t.length : Nat) : Int) > ((l.length : Nat) : Int) by omega)]; rfl
  rw [decide_eq_true hn, decide_eq_false (show ¬ ((t.length : Nat) : Int) > ((l.length : Nat) : Int) by omega)]
  have q := idx_allN (R := fun m i => Q_i_areOuts_4_0 m l t t ((t.length : Nat) : Int) i (fun y0 => K ((.s (.bool y0)), [])) (K ((.s (.bool true)), []))) (p := toldOkD l t zeroEv zeroOut) (n := t.length) (kt := K ((.s (.bool true)), [])) (kf := K ((.s (.bool false)), [])) (fun m i hi => by
    show P_i_areOuts_4_0 l t t _ ((i : Nat) : Int) _ _ _ = _
    unfold P_i_areOuts_4_0 toldOkD
    have f2 : fitB (t.getD i zeroOut).2.2.2.2.2.2.2.1 = true ∧ fitB (t.getD i zeroOut).2.2.2.2.2.2.2.2.2.2.2.2 = true := fit_out (fitC_getD h2 rfl i)
    have f1 : fitB (l.getD (t.getD i zeroOut).1.toNat zeroEv).2.2.2 = true := fit_ev (fitC_getD h1 rfl _)
    have eo : t.getD i outR.dflt = t.getD i zeroOut := rfl
    rw [decide_eq_true (show ((i : Nat) : Int) < ((t.length : Nat) : Int) by omega), decide_eq_true (show (0 : Int) ≤ ((i : Nat) : Int) by omega), Int.toNat_natCast, wrap_nat (by omega), eo] at *
    generalize t.getD i zeroOut = o at *
    rw [show (List.getD l o.1.toNat commitR.dflt) = List.getD l o.1.toNat zeroEv from rfl, f1, f2.1, f2.2, wrap_in (n := ((l.length : Nat) : Int) - 1) (by omega) (by omega)]
    by_cases a1 : 0 ≤ o.1
    case neg => rw [decide_eq_false a1]; rfl
    by_cases a2 : o.1 < ((l.length : Nat) : Int)
    case neg => rw [decide_eq_false a2, decide_eq_false (show ¬ o.1 ≤ ((l.length : Nat) : Int) - 1 by omega)]; simp
    rw [decide_eq_true a1, decide_eq_true a2, decide_eq_true (show o.1 ≤ ((l.length : Nat) : Int) - 1 by omega)]
    cases i with
    | zero =>
      rw [decide_eq_false (show ¬ ((0 : Nat) : Int) > 0 by omega)]
      cases outOkD (List.getD l o.1.toNat zeroEv) o <;> rfl
    | succ i =>
      rw [wrap_in (n := ((i + 1 : Nat) : Int) - 1) (by omega) (by omega), decide_eq_true (show ((i + 1 : Nat) : Int) > 0 by omega), show ((i + 1 : Nat) : Int) - 1 = ((i : Nat) : Int) by omega, decide_eq_true (show (0 : Int) ≤ ((i : Nat) : Int) by omega), decide_eq_true (show ((i : Nat) : Int) < ((t.length : Nat) : Int) by omega), Int.toNat_natCast, show i + 1 - 1 = i from rfl]
      by_cases a3 : (t.getD i zeroOut).1 < o.1
      · rw [decide_eq_true a3, decide_eq_false (show ¬ (t.getD i outR.dflt).1 ≥ o.1 from Int.not_le.2 a3)]
        cases outOkD (List.getD l o.1.toNat zeroEv) o <;> rfl
      · rw [decide_eq_false a3, decide_eq_true (show (t.getD i outR.dflt).1 ≥ o.1 from Int.not_lt.1 a3)]; rfl) (fun m => by
    show P_i_areOuts_4_0 l t t _ ((t.length : Nat) : Int) _ _ _ = _
    unfold P_i_areOuts_4_0
    rw [decide_eq_false (show ¬ ((t.length : Nat) : Int) < ((t.length : Nat) : Int) by omega)]; rfl) (List.length l + List.length t + List.length t + ((t.length : Nat) : Int).toNat + (0 : Int).toNat + 2) 0 (by omega) (by omega)
  refine Eq.trans q ?_
  show (bif allN t.length _ then _ else _) = _
  cases allN t.length (toldOkD l t zeroEv zeroOut) <;> rfl
theorem okS_i_areOuts : OkFn prog I N.i_areOuts true S_i_areOuts := okN (ok_fn (memc okS_i_areEvents (memc okS_i_in (memc okS_i_isOut mem0))) (l := [(N.i_areEvents, true, S_i_areEvents), (N.i_in, true, S_i_in), (N.i_isOut, true, S_i_isOut)]) (p := [(6, takeB [0, 1, 2, 3, 4] (.fork (.one 5 (takeB [6, 7, 8, 9, 10, 11, 12, 13, 14, 15, 16, 17, 18, 19, 20, 21, 22, 23, 24, 25, 26, 27, 28] (.fork (.one 29 (takes [30, 31])))))), [])]) (ls := [(4, [0,1,17,18,19], [4], W_i_areOuts_4)]) (lend := []) (focus := false) (fuel := 0) (give := []) (fn := F.i_areOuts) (by kernel_rfl) (by kernel_rfl) (by kernel_rfl) (by kernel_rfl) (cs := [bodyOf F.i_areOuts 4]) (by kernel_rfl) (loopsc loopK_i_areOuts_4 loops0)) (S_fnR_of fun d K h => (e_i_areOuts d.1 d.2.1 K).trans (v_i_areOuts d.1 d.2.1 h K))
end Go.Ev.Seat
end
