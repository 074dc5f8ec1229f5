/- ReqParse: parts FiusedNumbers FiisReq FireqParse FiReqParse EvLReqParse EvKind EvOne EvTab, packed by squash.py. -/
import GoSem.ClaimWide
import Derived.Lib.LaidTab
import GoSem.PinnedTables
import Derived.Test.YtiinphgjeafpnaaDoorZReqParse0
import Derived.Test.YtiinphgjeafpnaaDoorZReqParse1
import Derived.Test.YtiinphgjeafpnaaDoorZReqParse2
import Derived.Test.YtiinphgjeafpnaaDoorZReqParse3
import Derived.Test.YtiinphgjeafpnaaDoorZReqParse4
set_option linter.unusedVariables false
set_option linter.unusedSimpArgs false
section
/- i_usedNumbers: its contract. -/
namespace Go.Ev.Seat
open Go.RowKit
set_option maxRecDepth 100000
set_option linter.unusedVariables false
set_option linter.unusedSimpArgs false
noncomputable abbrev E_i_usedNumbers : Env := En [] [] [] [] false 0 []
noncomputable def T_i_usedNumbers (k : Int) (K : Ret → Option Ret) : Option Ret :=
 (bif (k == (3 : Int)) then
 (bif (k == (3 : Int)) then
  K ((.s (.int .i64 (1 : Int))), [])
  else (bif (k == (4 : Int)) then
   (bif (k == (4 : Int)) then
    K ((.s (.int .i64 (2 : Int))), [])
    else (bif (k == (12 : Int)) then
     (bif (k == (12 : Int)) then
      K ((.s (.int .i64 (3 : Int))), [])
      else K ((.s (.int .i64 (0 : Int))), []))
     else (bif (k == (13 : Int)) then
      K ((.s (.int .i64 (3 : Int))), [])
      else K ((.s (.int .i64 (0 : Int))), []))))
   else (bif (k == (5 : Int)) then
    (bif (k == (5 : Int)) then
     K ((.s (.int .i64 (2 : Int))), [])
     else (bif (k == (12 : Int)) then
      (bif (k == (12 : Int)) then
       K ((.s (.int .i64 (3 : Int))), [])
       else K ((.s (.int .i64 (0 : Int))), []))
      else (bif (k == (13 : Int)) then
       K ((.s (.int .i64 (3 : Int))), [])
       else K ((.s (.int .i64 (0 : Int))), []))))
    else (bif (k == (6 : Int)) then
     (bif (k == (6 : Int)) then
      K ((.s (.int .i64 (2 : Int))), [])
      else (bif (k == (12 : Int)) then
       (bif (k == (12 : Int)) then
        K ((.s (.int .i64 (3 : Int))), [])
        else K ((.s (.int .i64 (0 : Int))), []))
       else (bif (k == (13 : Int)) then
        K ((.s (.int .i64 (3 : Int))), [])
        else K ((.s (.int .i64 (0 : Int))), []))))
     else (bif (k == (10 : Int)) then
      (bif (k == (10 : Int)) then
       K ((.s (.int .i64 (2 : Int))), [])
       else (bif (k == (12 : Int)) then
        (bif (k == (12 : Int)) then
         K ((.s (.int .i64 (3 : Int))), [])
         else K ((.s (.int .i64 (0 : Int))), []))
        else (bif (k == (13 : Int)) then
         K ((.s (.int .i64 (3 : Int))), [])
         else K ((.s (.int .i64 (0 : Int))), []))))
      else (bif (k == (11 : Int)) then
       (bif (k == (11 : Int)) then
        K ((.s (.int .i64 (2 : Int))), [])
        else (bif (k == (12 : Int)) then
         (bif (k == (12 : Int)) then
          K ((.s (.int .i64 (3 : Int))), [])
          else K ((.s (.int .i64 (0 : Int))), []))
         else (bif (k == (13 : Int)) then
          K ((.s (.int .i64 (3 : Int))), [])
          else K ((.s (.int .i64 (0 : Int))), []))))
       else (bif (k == (14 : Int)) then
        K ((.s (.int .i64 (2 : Int))), [])
        else (bif (k == (12 : Int)) then
         (bif (k == (12 : Int)) then
          K ((.s (.int .i64 (3 : Int))), [])
          else K ((.s (.int .i64 (0 : Int))), []))
         else (bif (k == (13 : Int)) then
          K ((.s (.int .i64 (3 : Int))), [])
          else K ((.s (.int .i64 (0 : Int))), []))))))))))
 else (bif (k == (7 : Int)) then
  (bif (k == (7 : Int)) then
   K ((.s (.int .i64 (1 : Int))), [])
   else (bif (k == (4 : Int)) then
    (bif (k == (4 : Int)) then
     K ((.s (.int .i64 (2 : Int))), [])
     else (bif (k == (12 : Int)) then
      (bif (k == (12 : Int)) then
       K ((.s (.int .i64 (3 : Int))), [])
       else K ((.s (.int .i64 (0 : Int))), []))
      else (bif (k == (13 : Int)) then
       K ((.s (.int .i64 (3 : Int))), [])
       else K ((.s (.int .i64 (0 : Int))), []))))
    else (bif (k == (5 : Int)) then
     (bif (k == (5 : Int)) then
      K ((.s (.int .i64 (2 : Int))), [])
      else (bif (k == (12 : Int)) then
       (bif (k == (12 : Int)) then
        K ((.s (.int .i64 (3 : Int))), [])
        else K ((.s (.int .i64 (0 : Int))), []))
       else (bif (k == (13 : Int)) then
        K ((.s (.int .i64 (3 : Int))), [])
        else K ((.s (.int .i64 (0 : Int))), []))))
     else (bif (k == (6 : Int)) then
      (bif (k == (6 : Int)) then
       K ((.s (.int .i64 (2 : Int))), [])
       else (bif (k == (12 : Int)) then
        (bif (k == (12 : Int)) then
         K ((.s (.int .i64 (3 : Int))), [])
         else K ((.s (.int .i64 (0 : Int))), []))
        else (bif (k == (13 : Int)) then
         K ((.s (.int .i64 (3 : Int))), [])
         else K ((.s (.int .i64 (0 : Int))), []))))
      else (bif (k == (10 : Int)) then
       (bif (k == (10 : Int)) then
        K ((.s (.int .i64 (2 : Int))), [])
        else (bif (k == (12 : Int)) then
         (bif (k == (12 : Int)) then
          K ((.s (.int .i64 (3 : Int))), [])
          else K ((.s (.int .i64 (0 : Int))), []))
         else (bif (k == (13 : Int)) then
          K ((.s (.int .i64 (3 : Int))), [])
          else K ((.s (.int .i64 (0 : Int))), []))))
       else (bif (k == (11 : Int)) then
        (bif (k == (11 : Int)) then
         K ((.s (.int .i64 (2 : Int))), [])
         else (bif (k == (12 : Int)) then
          (bif (k == (12 : Int)) then
           K ((.s (.int .i64 (3 : Int))), [])
           else K ((.s (.int .i64 (0 : Int))), []))
          else (bif (k == (13 : Int)) then
           K ((.s (.int .i64 (3 : Int))), [])
           else K ((.s (.int .i64 (0 : Int))), []))))
        else (bif (k == (14 : Int)) then
         K ((.s (.int .i64 (2 : Int))), [])
         else (bif (k == (12 : Int)) then
          (bif (k == (12 : Int)) then
           K ((.s (.int .i64 (3 : Int))), [])
           else K ((.s (.int .i64 (0 : Int))), []))
          else (bif (k == (13 : Int)) then
           K ((.s (.int .i64 (3 : Int))), [])
           else K ((.s (.int .i64 (0 : Int))), []))))))))))
  else (bif (k == (8 : Int)) then
   (bif (k == (8 : Int)) then
    K ((.s (.int .i64 (1 : Int))), [])
    else (bif (k == (4 : Int)) then
     (bif (k == (4 : Int)) then
      K ((.s (.int .i64 (2 : Int))), [])
      else (bif (k == (12 : Int)) then
       (bif (k == (12 : Int)) then
        K ((.s (.int .i64 (3 : Int))), [])
        else K ((.s (.int .i64 (0 : Int))), []))
       else (bif (k == (13 : Int)) then
        K ((.s (.int .i64 (3 : Int))), [])
        else K ((.s (.int .i64 (0 : Int))), []))))
     else (bif (k == (5 : Int)) then
      (bif (k == (5 : Int)) then
       K ((.s (.int .i64 (2 : Int))), [])
       else (bif (k == (12 : Int)) then
        (bif (k == (12 : Int)) then
         K ((.s (.int .i64 (3 : Int))), [])
         else K ((.s (.int .i64 (0 : Int))), []))
        else (bif (k == (13 : Int)) then
         K ((.s (.int .i64 (3 : Int))), [])
         else K ((.s (.int .i64 (0 : Int))), []))))
      else (bif (k == (6 : Int)) then
       (bif (k == (6 : Int)) then
        K ((.s (.int .i64 (2 : Int))), [])
        else (bif (k == (12 : Int)) then
         (bif (k == (12 : Int)) then
          K ((.s (.int .i64 (3 : Int))), [])
          else K ((.s (.int .i64 (0 : Int))), []))
         else (bif (k == (13 : Int)) then
          K ((.s (.int .i64 (3 : Int))), [])
          else K ((.s (.int .i64 (0 : Int))), []))))
       else (bif (k == (10 : Int)) then
        (bif (k == (10 : Int)) then
         K ((.s (.int .i64 (2 : Int))), [])
         else (bif (k == (12 : Int)) then
          (bif (k == (12 : Int)) then
           K ((.s (.int .i64 (3 : Int))), [])
           else K ((.s (.int .i64 (0 : Int))), []))
          else (bif (k == (13 : Int)) then
           K ((.s (.int .i64 (3 : Int))), [])
           else K ((.s (.int .i64 (0 : Int))), []))))
        else (bif (k == (11 : Int)) then
         (bif (k == (11 : Int)) then
          K ((.s (.int .i64 (2 : Int))), [])
          else (bif (k == (12 : Int)) then
           (bif (k == (12 : Int)) then
            K ((.s (.int .i64 (3 : Int))), [])
            else K ((.s (.int .i64 (0 : Int))), []))
           else (bif (k == (13 : Int)) then
            K ((.s (.int .i64 (3 : Int))), [])
            else K ((.s (.int .i64 (0 : Int))), []))))
         else (bif (k == (14 : Int)) then
          K ((.s (.int .i64 (2 : Int))), [])
          else (bif (k == (12 : Int)) then
           (bif (k == (12 : Int)) then
            K ((.s (.int .i64 (3 : Int))), [])
            else K ((.s (.int .i64 (0 : Int))), []))
           else (bif (k == (13 : Int)) then
            K ((.s (.int .i64 (3 : Int))), [])
            else K ((.s (.int .i64 (0 : Int))), []))))))))))
   else (bif (k == (9 : Int)) then
    K ((.s (.int .i64 (1 : Int))), [])
    else (bif (k == (4 : Int)) then
     (bif (k == (4 : Int)) then
      K ((.s (.int .i64 (2 : Int))), [])
      else (bif (k == (12 : Int)) then
       (bif (k == (12 : Int)) then
        K ((.s (.int .i64 (3 : Int))), [])
        else K ((.s (.int .i64 (0 : Int))), []))
       else (bif (k == (13 : Int)) then
        K ((.s (.int .i64 (3 : Int))), [])
        else K ((.s (.int .i64 (0 : Int))), []))))
     else (bif (k == (5 : Int)) then
      (bif (k == (5 : Int)) then
       K ((.s (.int .i64 (2 : Int))), [])
       else (bif (k == (12 : Int)) then
        (bif (k == (12 : Int)) then
         K ((.s (.int .i64 (3 : Int))), [])
         else K ((.s (.int .i64 (0 : Int))), []))
        else (bif (k == (13 : Int)) then
         K ((.s (.int .i64 (3 : Int))), [])
         else K ((.s (.int .i64 (0 : Int))), []))))
      else (bif (k == (6 : Int)) then
       (bif (k == (6 : Int)) then
        K ((.s (.int .i64 (2 : Int))), [])
        else (bif (k == (12 : Int)) then
         (bif (k == (12 : Int)) then
          K ((.s (.int .i64 (3 : Int))), [])
          else K ((.s (.int .i64 (0 : Int))), []))
         else (bif (k == (13 : Int)) then
          K ((.s (.int .i64 (3 : Int))), [])
          else K ((.s (.int .i64 (0 : Int))), []))))
       else (bif (k == (10 : Int)) then
        (bif (k == (10 : Int)) then
         K ((.s (.int .i64 (2 : Int))), [])
         else (bif (k == (12 : Int)) then
          (bif (k == (12 : Int)) then
           K ((.s (.int .i64 (3 : Int))), [])
           else K ((.s (.int .i64 (0 : Int))), []))
          else (bif (k == (13 : Int)) then
           K ((.s (.int .i64 (3 : Int))), [])
           else K ((.s (.int .i64 (0 : Int))), []))))
        else (bif (k == (11 : Int)) then
         (bif (k == (11 : Int)) then
          K ((.s (.int .i64 (2 : Int))), [])
          else (bif (k == (12 : Int)) then
           (bif (k == (12 : Int)) then
            K ((.s (.int .i64 (3 : Int))), [])
            else K ((.s (.int .i64 (0 : Int))), []))
           else (bif (k == (13 : Int)) then
            K ((.s (.int .i64 (3 : Int))), [])
            else K ((.s (.int .i64 (0 : Int))), []))))
         else (bif (k == (14 : Int)) then
          K ((.s (.int .i64 (2 : Int))), [])
          else (bif (k == (12 : Int)) then
           (bif (k == (12 : Int)) then
            K ((.s (.int .i64 (3 : Int))), [])
            else K ((.s (.int .i64 (0 : Int))), []))
           else (bif (k == (13 : Int)) then
            K ((.s (.int .i64 (3 : Int))), [])
            else K ((.s (.int .i64 (0 : Int))), [])))))))))))))
theorem e_i_usedNumbers (k : Int) (K : Ret → Option Ret) : evF E_i_usedNumbers true F.i_usedNumbers [.s (.int .i64 k)] K = T_i_usedNumbers k K := by kernel_rfl
def S_i_usedNumbers : Sm := S_fnR [.i] (fun d => true) (fun d => (.s (.int .i64 (usedD d.1)), []))
theorem v_i_usedNumbers (k : Int) (K : Ret → Option Ret) : T_i_usedNumbers k K = K (.s (.int .i64 (usedD k)), []) := by
  unfold T_i_usedNumbers
  by_cases h3 : k = 3
  · subst h3; rfl
  by_cases h7 : k = 7
  · subst h7; rfl
  by_cases h8 : k = 8
  · subst h8; rfl
  by_cases h9 : k = 9
  · subst h9; rfl
  by_cases h4 : k = 4
  · subst h4; rfl
  by_cases h5 : k = 5
  · subst h5; rfl
  by_cases h6 : k = 6
  · subst h6; rfl
  by_cases h10 : k = 10
  · subst h10; rfl
  by_cases h11 : k = 11
  · subst h11; rfl
  by_cases h14 : k = 14
  · subst h14; rfl
  by_cases h12 : k = 12
  · subst h12; rfl
  by_cases h13 : k = 13
  · subst h13; rfl
  have e : ∀ c, k ≠ c → (k == c) = false := fun c h => by simpa using h
  unfold usedD
  simp only [e _ h3, e _ h7, e _ h8, e _ h9, e _ h4, e _ h5, e _ h6, e _ h10, e _ h11, e _ h14, e _ h12, e _ h13, cond_false, Bool.or_false]
theorem okS_i_usedNumbers : OkFn prog I N.i_usedNumbers true S_i_usedNumbers := okN (ok_fn mem0 (l := []) (p := []) (ls := []) (lend := []) (focus := false) (fuel := 0) (give := []) (fn := F.i_usedNumbers) (by kernel_rfl) (by kernel_rfl) (by kernel_rfl) (by kernel_rfl) (cs := []) (by kernel_rfl) loops0) (S_fnR_of fun d K h => (e_i_usedNumbers d.1 K).trans (v_i_usedNumbers d.1 K))
end Go.Ev.Seat
end
section
/- i_isReq: its contract. -/
namespace Go.Ev.Seat
open Go.RowKit
set_option maxRecDepth 100000
set_option linter.unusedVariables false
set_option linter.unusedSimpArgs false
def sh_i_isReq_4_x0 : Ss := { tm := (.cons (.x) (.cons (.pb 0 0) (.cons (.bool) (xsh 62)))), ob := (.box (.cons (.int .i64) (.cons (.int .i64) (.cons (.int .i64) (.cons (.int .i64) (.cons (.int .i64) (.cons (.l .no bytesR) .nil)))))) .nil), nx := 1, io := .nil }
def d_i_isReq_4_x0 (x2 : Bool) (b00 : Int) (b01 : Int) (b02 : Int) (b03 : Int) (b04 : Int) (b05 : List Int) : sh_i_isReq_4_x0.T := (((), ((), (x2, xd 62))), ((b00, (b01, (b02, (b03, (b04, (b05, ())))))), ()), ())
def z_i_isReq_4_0 (x2 : Bool) (b00 : Int) (b01 : Int) (b02 : Int) (b03 : Int) (b04 : Int) (b05 : List Int) : St := sh_i_isReq_4_x0.mk' (d_i_isReq_4_x0 x2 b00 b01 b02 b03 b04 b05)
def sh_i_isReq_4_x1 : Ss := { tm := (.cons (.x) (.cons (.pb 0 0) (xsh 63))), ob := (.box (.cons (.int .i64) (.cons (.int .i64) (.cons (.int .i64) (.cons (.int .i64) (.cons (.int .i64) (.cons (.l .no bytesR) .nil)))))) .nil), nx := 1, io := .nil }
def d_i_isReq_4_x1 (b00 : Int) (b01 : Int) (b02 : Int) (b03 : Int) (b04 : Int) (b05 : List Int) : sh_i_isReq_4_x1.T := (((), ((), xd 63)), ((b00, (b01, (b02, (b03, (b04, (b05, ())))))), ()), ())
def z_i_isReq_4_1 (b00 : Int) (b01 : Int) (b02 : Int) (b03 : Int) (b04 : Int) (b05 : List Int) : St := sh_i_isReq_4_x1.mk' (d_i_isReq_4_x1 b00 b01 b02 b03 b04 b05)
def sh_i_isReq_4_0 : Ss := { tm := (.cons (.x) (.cons (.pb 0 0) (.cons (.x) (.cons (.x) (.cons (.x) (.cons (.x) (.cons (.x) (.cons (.x) (.cons (.x) (.cons (.x) (.cons (.x) (.cons (.x) (.cons (.x) (.cons (.x) (.cons (.x) (.cons (.x) (.cons (.x) (.cons (.x) (.cons (.x) (.cons (.x) (.cons (.x) (.cons (.x) (.cons (.x) (.cons (.x) (.cons (.x) (.cons (.x) (.cons (.x) (.cons (.w 1) (.cons (.int .i64) (.cons (.int .i64) (xsh 35))))))))))))))))))))))))))))))), ob := (.box (.cons (.int .i64) (.cons (.int .i64) (.cons (.int .i64) (.cons (.int .i64) (.cons (.int .i64) (.cons (.l .no bytesR) .nil)))))) (.arr true true intR .nil)), nx := 2, io := .nil }
def d_i_isReq_4_0 (x28 : Int) (x29 : Int) (b00 : Int) (b01 : Int) (b02 : Int) (b03 : Int) (b04 : Int) (b05 : List Int) (o1 : List Int) : sh_i_isReq_4_0.T := (((), ((), ((), ((), ((), ((), ((), ((), ((), ((), ((), ((), ((), ((), ((), ((), ((), ((), ((), ((), ((), ((), ((), ((), ((), ((), ((), ((), (x28, (x29, xd 35)))))))))))))))))))))))))))))), ((b00, (b01, (b02, (b03, (b04, (b05, ())))))), (o1, ())), ())
def w_i_isReq_4_0 (d : sh_i_isReq_4_0.T) (f : Int → Int → Int → Int → Int → Int → Int → (List Int) → (List Int) → Option Ret) : Option Ret := match d with | ((_, (_, (_, (_, (_, (_, (_, (_, (_, (_, (_, (_, (_, (_, (_, (_, (_, (_, (_, (_, (_, (_, (_, (_, (_, (_, (_, (_, (x28, (x29, _)))))))))))))))))))))))))))))), ((b00, (b01, (b02, (b03, (b04, (b05, _)))))), (o1, _)), _) => f x28 x29 b00 b01 b02 b03 b04 b05 o1
noncomputable def P_i_isReq_4_0 (x28 : Int) (x29 : Int) (b00 : Int) (b01 : Int) (b02 : Int) (b03 : Int) (b04 : Int) (b05 : List Int) (o1 : List Int) (nx0 : Int → Int → Int → Int → Int → Int → Int → (List Int) → (List Int) → Option Ret) (k0 : Bool → Int → Int → Int → Int → Int → (List Int) → Option Ret) (k1 : Int → Int → Int → Int → Int → (List Int) → Option Ret) : Option Ret :=
 (bif (decide (x29 < x28)) then
 (bif ((decide ((0 : Int) ≤ x29)) && (decide (x29 < (((List.length o1) : Nat) : Int)))) then
  (bif (!(isWordD (List.getD o1 (Int.toNat x29) (0 : Int)))) then
   (k0 false b00 b01 b02 b03 b04 b05)
   else (bif (decide (x29 ≥ (usedD b00))) then
    (bif ((List.getD o1 (Int.toNat x29) (0 : Int)) != (0 : Int)) then
     (k0 false b00 b01 b02 b03 b04 b05)
     else (nx0 x28 (IntKind.wrap .i64 (x29 + (1 : Int))) b00 b01 b02 b03 b04 b05 o1))
    else (nx0 x28 (IntKind.wrap .i64 (x29 + (1 : Int))) b00 b01 b02 b03 b04 b05 o1)))
  else none)
 else (k1 b00 b01 b02 b03 b04 b05))
noncomputable def Q_i_isReq_4_0 : Nat → Int → Int → Int → Int → Int → Int → Int → (List Int) → (List Int) → (Bool → Int → Int → Int → Int → Int → (List Int) → Option Ret) → (Int → Int → Int → Int → Int → (List Int) → Option Ret) → Option Ret
  | 0, _, _, _, _, _, _, _, _, _, _, _ => none
  | m + 1, x28, x29, b00, b01, b02, b03, b04, b05, o1, k0, k1 => P_i_isReq_4_0 x28 x29 b00 b01 b02 b03 b04 b05 o1 (fun x28 x29 b00 b01 b02 b03 b04 b05 o1 => (Q_i_isReq_4_0 m x28 x29 b00 b01 b02 b03 b04 b05 o1 k0 k1)) k0 k1
noncomputable def R_i_isReq_4_0 (x28 : Int) (x29 : Int) (b00 : Int) (b01 : Int) (b02 : Int) (b03 : Int) (b04 : Int) (b05 : List Int) (o1 : List Int) (k0 : Bool → Int → Int → Int → Int → Int → (List Int) → Option Ret) (k1 : Int → Int → Int → Int → Int → (List Int) → Option Ret) : Option Ret := Q_i_isReq_4_0 (x28.toNat + x29.toNat + b00.toNat + b01.toNat + b02.toNat + b03.toNat + b04.toNat + List.length b05 + List.length o1 + 2) x28 x29 b00 b01 b02 b03 b04 b05 o1 k0 k1
noncomputable def W_i_isReq_4 : LoopFn := (fun (σ : St) (K : Ex → St → Option Ret) => (match sh_i_isReq_4_0.un σ with | some d => w_i_isReq_4_0 d (fun x28 x29 b00 b01 b02 b03 b04 b05 o1 => R_i_isReq_4_0 x28 x29 b00 b01 b02 b03 b04 b05 o1 (fun x2 b00 b01 b02 b03 b04 b05 => (K .ret (z_i_isReq_4_0 x2 b00 b01 b02 b03 b04 b05))) (fun b00 b01 b02 b03 b04 b05 => (K (.ext 0) (z_i_isReq_4_1 b00 b01 b02 b03 b04 b05)))) | none => none))
noncomputable abbrev E_i_isReq : Env := En [(N.i_in, true, S_i_in), (N.i_isSession, true, S_i_isSession), (N.i_isPut, true, S_i_isPut), (N.i_isWord, true, S_i_isWord), (N.i_usedNumbers, true, S_i_usedNumbers)] [] [(4, [1,27,28,29], [1,2], W_i_isReq_4)] [] false 0 []
theorem st_i_isReq_4_0 (m : Nat) (x28 : Int) (x29 : Int) (b00 : Int) (b01 : Int) (b02 : Int) (b03 : Int) (b04 : Int) (b05 : List Int) (o1 : List Int) (K : Ex → St → Option Ret) : rounds (run E_i_isReq (bodyOf F.i_isReq 4)) [1,27,28,29] [1,2] (m + 1) (sh_i_isReq_4_0.mk' (d_i_isReq_4_0 x28 x29 b00 b01 b02 b03 b04 b05 o1)) K = P_i_isReq_4_0 x28 x29 b00 b01 b02 b03 b04 b05 o1 (fun x28 x29 b00 b01 b02 b03 b04 b05 o1 => (rounds (run E_i_isReq (bodyOf F.i_isReq 4)) [1,27,28,29] [1,2] m (sh_i_isReq_4_0.mk' (d_i_isReq_4_0 x28 x29 b00 b01 b02 b03 b04 b05 o1)) K)) (fun x2 b00 b01 b02 b03 b04 b05 => (K .ret (z_i_isReq_4_0 x2 b00 b01 b02 b03 b04 b05))) (fun b00 b01 b02 b03 b04 b05 => (K (.ext 0) (z_i_isReq_4_1 b00 b01 b02 b03 b04 b05))) := by kernel_rfl
theorem q_i_isReq_4 (K : Ex → St → Option Ret) : ∀ m : Nat, (∀ (x28 : Int) (x29 : Int) (b00 : Int) (b01 : Int) (b02 : Int) (b03 : Int) (b04 : Int) (b05 : List Int) (o1 : List Int), rounds (run E_i_isReq (bodyOf F.i_isReq 4)) [1,27,28,29] [1,2] m (sh_i_isReq_4_0.mk' (d_i_isReq_4_0 x28 x29 b00 b01 b02 b03 b04 b05 o1)) K = Q_i_isReq_4_0 m x28 x29 b00 b01 b02 b03 b04 b05 o1 (fun x2 b00 b01 b02 b03 b04 b05 => (K .ret (z_i_isReq_4_0 x2 b00 b01 b02 b03 b04 b05))) (fun b00 b01 b02 b03 b04 b05 => (K (.ext 0) (z_i_isReq_4_1 b00 b01 b02 b03 b04 b05))))
  | 0 => (fun _ _ _ _ _ _ _ _ _ => rfl)
  | m + 1 => (fun x28 x29 b00 b01 b02 b03 b04 b05 o1 => (by rw [st_i_isReq_4_0, show (fun x28 x29 b00 b01 b02 b03 b04 b05 o1 => (rounds (run E_i_isReq (bodyOf F.i_isReq 4)) [1,27,28,29] [1,2] m (sh_i_isReq_4_0.mk' (d_i_isReq_4_0 x28 x29 b00 b01 b02 b03 b04 b05 o1)) K)) = (fun x28 x29 b00 b01 b02 b03 b04 b05 o1 => (Q_i_isReq_4_0 m x28 x29 b00 b01 b02 b03 b04 b05 o1 (fun x2 b00 b01 b02 b03 b04 b05 => (K .ret (z_i_isReq_4_0 x2 b00 b01 b02 b03 b04 b05))) (fun b00 b01 b02 b03 b04 b05 => (K (.ext 0) (z_i_isReq_4_1 b00 b01 b02 b03 b04 b05))))) from funext fun x28 => funext fun x29 => funext fun b00 => funext fun b01 => funext fun b02 => funext fun b03 => funext fun b04 => funext fun b05 => funext fun o1 => (q_i_isReq_4 K m) x28 x29 b00 b01 b02 b03 b04 b05 o1]; rfl))
theorem loopK_i_isReq_4 : LoopOk E_i_isReq (bodyOf F.i_isReq 4) := by
  refine loopW_ok (n := 4) (F := W_i_isReq_4) (by kernel_rfl) rfl (li := [1,27,28,29]) (lo := [1,2]) rfl (fun σ K r hr => ?_)
  unfold W_i_isReq_4 at hr
  split at hr
  · rename_i d hd
    rw [Ss.un_mk hd]
    exact ⟨_, ((q_i_isReq_4 K _) _ _ _ _ _ _ _ _ _).trans hr⟩
  · cases hr
noncomputable def T_i_isReq (r : T_Req) (K : Ret → Option Ret) : Option Ret :=
 (bif (!((decide ((1 : Int) ≤ r.1)) && (decide (r.1 ≤ (16 : Int))))) then
 K ((.s (.bool false)), [])
 else (bif (!((decide ((1 : Int) ≤ r.2.1)) && (decide (r.2.1 ≤ (8 : Int))))) then
  K ((.s (.bool false)), [])
  else (bif (fitB r.2.2.2.2.2) then
   (bif (!((decide ((((List.length r.2.2.2.2.2) : Nat) : Int) ≤ (100 : Int))) && (textOk r.2.2.2.2.2))) then
    K ((.s (.bool false)), [])
    else (R_i_isReq_4_0 (((List.length (r.2.2.1 :: (r.2.2.2.1 :: (r.2.2.2.2.1 :: ([] : List Int))))) : Nat) : Int) (0 : Int) r.1 r.2.1 r.2.2.1 r.2.2.2.1 r.2.2.2.2.1 r.2.2.2.2.2 (r.2.2.1 :: (r.2.2.2.1 :: (r.2.2.2.2.1 :: ([] : List Int)))) (fun y0 y1 y2 y3 y4 y5 y6 =>
     K ((.s (.bool y0)), [])) (fun y7 y8 y9 y10 y11 y12 =>
     (bif (y7 == (3 : Int)) then
      (bif (y7 == (3 : Int)) then
       K ((.s (.bool true)), [])
       else (bif (y7 == (7 : Int)) then
        (bif (y7 == (7 : Int)) then
         K ((.s (.bool (decide ((((List.length y12) : Nat) : Int) > (0 : Int))))), [])
         else K ((.s (.bool ((((List.length y12) : Nat) : Int) == (0 : Int)))), []))
        else (bif (y7 == (8 : Int)) then
         K ((.s (.bool (decide ((((List.length y12) : Nat) : Int) > (0 : Int))))), [])
         else K ((.s (.bool ((((List.length y12) : Nat) : Int) == (0 : Int)))), []))))
      else (bif (y7 == (5 : Int)) then
       K ((.s (.bool true)), [])
       else (bif (y7 == (7 : Int)) then
        (bif (y7 == (7 : Int)) then
         K ((.s (.bool (decide ((((List.length y12) : Nat) : Int) > (0 : Int))))), [])
         else K ((.s (.bool ((((List.length y12) : Nat) : Int) == (0 : Int)))), []))
        else (bif (y7 == (8 : Int)) then
         K ((.s (.bool (decide ((((List.length y12) : Nat) : Int) > (0 : Int))))), [])
         else K ((.s (.bool ((((List.length y12) : Nat) : Int) == (0 : Int)))), []))))))))
   else none)))
theorem e_i_isReq (r : T_Req) (K : Ret → Option Ret) : evF E_i_isReq true F.i_isReq [.a (reqR.cells .no r)] K = T_i_isReq r K := by kernel_rfl
def S_i_isReq : Sm := S_fnR [.a reqR] (fun d => fitB d.1.2.2.2.2.2) (fun d => (bl (reqOkD d.1), []))
theorem v_i_isReq (r : T_Req) (h : (fitB r.2.2.2.2.2) = true) (K : Ret → Option Ret) : T_i_isReq r K = K (bl (reqOkD r), []) := by
  obtain ⟨k, s, a, b, d, t⟩ := r
  unfold T_i_isReq reqOkD
  simp only [h]
  cases hk : (decide (1 ≤ k) && decide (k ≤ 16)) with
  | false => rfl
  | true =>
  cases hs : (decide (1 ≤ s) && decide (s ≤ 8)) with
  | false => rfl
  | true =>
  cases hp : (decide (((t.length : Nat) : Int) ≤ 100) && textOk t) with
  | false => rfl
  | true =>
  rw [Bool.and_eq_true, decide_eq_true_iff, decide_eq_true_iff] at hk
  have hk := kinds hk.1 hk.2
  unfold R_i_isReq_4_0
  generalize hF : (_ + 2 : Nat) = F
  obtain ⟨m, rfl⟩ : ∃ m, F = m + 4 := ⟨F - 4, by simp only [List.length_cons, List.length_nil] at hF; omega⟩
  have q : ∀ (k0 : Bool → Int → Int → Int → Int → Int → List Int → Option Ret) (k1 : Int → Int → Int → Int → Int → List Int → Option Ret), Q_i_isReq_4_0 (m + 4) 3 0 k s a b d t [a, b, d] k0 k1 =
      (bif !isWordD a then k0 false k s a b d t else bif decide ((0 : Int) ≥ usedD k) then (bif a != 0 then k0 false k s a b d t else
       (bif !isWordD b then k0 false k s a b d t else bif decide ((1 : Int) ≥ usedD k) then (bif b != 0 then k0 false k s a b d t else
        (bif !isWordD d then k0 false k s a b d t else bif decide ((2 : Int) ≥ usedD k) then (bif d != 0 then k0 false k s a b d t else k1 k s a b d t) else k1 k s a b d t)) else
        (bif !isWordD d then k0 false k s a b d t else bif decide ((2 : Int) ≥ usedD k) then (bif d != 0 then k0 false k s a b d t else k1 k s a b d t) else k1 k s a b d t))) else
       (bif !isWordD b then k0 false k s a b d t else bif decide ((1 : Int) ≥ usedD k) then (bif b != 0 then k0 false k s a b d t else
        (bif !isWordD d then k0 false k s a b d t else bif decide ((2 : Int) ≥ usedD k) then (bif d != 0 then k0 false k s a b d t else k1 k s a b d t) else k1 k s a b d t)) else
        (bif !isWordD d then k0 false k s a b d t else bif decide ((2 : Int) ≥ usedD k) then (bif d != 0 then k0 false k s a b d t else k1 k s a b d t) else k1 k s a b d t))) := fun _ _ => rfl
  simp only [Bool.not_true, cond_true, cond_false]
  refine Eq.trans (q _ _) ?_
  have e0 : (((t.length : Nat) : Int) == 0) = !decide (((t.length : Nat) : Int) > 0) := by
    by_cases h0 : ((t.length : Nat) : Int) > 0
    · rw [decide_eq_true h0]; exact beq_false_of_ne (by omega)
    · rw [decide_eq_false h0]; exact beq_iff_eq.2 (by omega)
  simp only [bne, e0, bifK]
  refine congrArg (fun q => K ((.s (.bool q)), [])) ?_
  unfold reqKindD
  generalize decide (((t.length : Nat) : Int) > 0) = n
  generalize (a == 0) = x
  generalize (b == 0) = y
  generalize (d == 0) = z
  generalize isWordD a = u
  generalize isWordD b = v
  generalize isWordD d = w
  clear hF q e0 hs hp h
  rcases hk with rfl | rfl | rfl | rfl | rfl | rfl | rfl | rfl | rfl | rfl | rfl | rfl | rfl | rfl | rfl | rfl <;> cases u <;> first | rfl | (cases x <;> first | rfl | (cases v <;> first | rfl | (cases y <;> first | rfl | (cases w <;> first | rfl | (cases z <;> first | rfl | (cases n <;> rfl))))))
theorem okS_i_isReq : OkFn prog I N.i_isReq true S_i_isReq := okN (ok_fn (memc okS_i_in (memc okS_i_isSession (memc okS_i_isPut (memc okS_i_isWord (memc okS_i_usedNumbers mem0))))) (l := [(N.i_in, true, S_i_in), (N.i_isSession, true, S_i_isSession), (N.i_isPut, true, S_i_isPut), (N.i_isWord, true, S_i_isWord), (N.i_usedNumbers, true, S_i_usedNumbers)]) (p := []) (ls := [(4, [1,27,28,29], [1,2], W_i_isReq_4)]) (lend := []) (focus := false) (fuel := 0) (give := []) (fn := F.i_isReq) (by kernel_rfl) (by kernel_rfl) (by kernel_rfl) (by kernel_rfl) (cs := [bodyOf F.i_isReq 4]) (by kernel_rfl) (loopsc loopK_i_isReq_4 loops0)) (S_fnR_of fun d K h => (e_i_isReq d.1 K).trans (v_i_isReq d.1 h K))
end Go.Ev.Seat
end
section
/- i_reqParse: its contract. -/
namespace Go.Ev.Seat
open Go.RowKit
set_option maxRecDepth 100000
set_option linter.unusedVariables false
set_option linter.unusedSimpArgs false
noncomputable abbrev E_i_reqParse : Env := En [(N.i_readWord, true, S_i_readWord), (N.slices_Clone_bytes_byte, true, S_toL bytesR), (N.i_isReq, true, S_i_isReq)] [(3, takeB [0, 1, 2, 3, 4, 5, 6, 7, 8, 9, 11, 12, 14, 15, 17, 18] (.fork (.more 10 (.fork (.more 13 (.fork (.more 16 (.fork (.more 19 (takeB [20] (.fork (.one 21 (.fork (.one 22 (.done)))))) (.one 21 (.fork (.one 19 (takeB [20] (.fork (.one 22 (.done))))))))) (.one 21 (.fork (.one 16 (.fork (.one 19 (takeB [20] (.fork (.one 22 (.done))))))))))) (.one 21 (.fork (.one 13 (.fork (.one 16 (.fork (.one 19 (takeB [20] (.fork (.one 22 (.done))))))))))))) (.one 21 (.fork (.one 10 (.fork (.one 13 (.fork (.one 16 (.fork (.one 19 (takeB [20] (.fork (.one 22 (.done))))))))))))))), [])] [] [] false 0 []
noncomputable def T_i_reqParse (d : List Int) (K : Ret → Option Ret) : Option Ret :=
 (bif (decide ((((List.length d) : Nat) : Int) < (9 : Int))) then
 K ((.t [(.a [(.s (.int .i64 (0 : Int))), (.s (.int .i64 (0 : Int))), (.s (.int .i64 (0 : Int))), (.s (.int .i64 (0 : Int))), (.s (.int .i64 (0 : Int))), (.l .deep bytesR ([] : List Int))]), (.s (.bool false))]), [])
 else (bif (decide ((8 : Int) < (((List.length d) : Nat) : Int))) then
  (bif ((((List.length d) : Nat) : Int) != (IntKind.wrap .i64 ((9 : Int) + (IntKind.wrap .i64 (List.getD d 8 (0 : Int)))))) then
   K ((.t [(.a [(.s (.int .i64 (0 : Int))), (.s (.int .i64 (0 : Int))), (.s (.int .i64 (0 : Int))), (.s (.int .i64 (0 : Int))), (.s (.int .i64 (0 : Int))), (.l .deep bytesR ([] : List Int))]), (.s (.bool false))]), [])
   else (bif (decide ((0 : Int) < (((List.length d) : Nat) : Int))) then
    (bif (decide ((1 : Int) < (((List.length d) : Nat) : Int))) then
     (bif (decide ((2 : Int) ≤ (((List.length d) : Nat) : Int))) then
      (bif (decide ((4 : Int) ≤ (((List.length d) : Nat) : Int))) then
       (bif (decide ((6 : Int) ≤ (((List.length d) : Nat) : Int))) then
        (bif (decide ((9 : Int) ≤ (((List.length d) : Nat) : Int))) then
         (meet
          ((bif ((fitB (List.drop 2 d)) && (decide ((1 : Int) < (((List.length (List.drop 2 d)) : Nat) : Int)))) then
           (meet
            ((bif ((fitB (List.drop 4 d)) && (decide ((1 : Int) < (((List.length (List.drop 4 d)) : Nat) : Int)))) then
             (meet
              ((bif ((fitB (List.drop 6 d)) && (decide ((1 : Int) < (((List.length (List.drop 6 d)) : Nat) : Int)))) then
               (meet
                ((bif (Cc.lim (Cc.sl bytesR) (List.drop 9 d)) then
                 (bif (fitB (List.drop 9 d)) then
                  (bif (!(reqOkD ((IntKind.wrap .i64 (List.getD d 0 (0 : Int))), ((IntKind.wrap .i64 (List.getD d 1 (0 : Int))), ((atD (List.drop 2 d) (0 : Int)), ((atD (List.drop 4 d) (0 : Int)), ((atD (List.drop 6 d) (0 : Int)), (List.drop 9 d)))))))) then
                   K ((.t [(.a [(.s (.int .i64 (0 : Int))), (.s (.int .i64 (0 : Int))), (.s (.int .i64 (0 : Int))), (.s (.int .i64 (0 : Int))), (.s (.int .i64 (0 : Int))), (.l .deep bytesR ([] : List Int))]), (.s (.bool false))]), [])
                   else K ((.t [(.a [(.s (.int .i64 (IntKind.wrap .i64 (List.getD d 0 (0 : Int))))), (.s (.int .i64 (IntKind.wrap .i64 (List.getD d 1 (0 : Int))))), (.s (.int .i64 (atD (List.drop 2 d) (0 : Int)))), (.s (.int .i64 (atD (List.drop 4 d) (0 : Int)))), (.s (.int .i64 (atD (List.drop 6 d) (0 : Int)))), (.l .deep bytesR (List.drop 9 d))]), (.s (.bool true))]), []))
                  else none)
                 else none))
                ((bif (Cc.lim (Cc.sl bytesR) (List.drop 9 d)) then
                 (bif (fitB (List.drop 9 d)) then
                  (bif (!(reqOkD ((IntKind.wrap .i64 (List.getD d 0 (0 : Int))), ((IntKind.wrap .i64 (List.getD d 1 (0 : Int))), ((atD (List.drop 2 d) (0 : Int)), ((atD (List.drop 4 d) (0 : Int)), ((atD (List.drop 6 d) (0 : Int)), (List.drop 9 d)))))))) then
                   K ((.t [(.a [(.s (.int .i64 (0 : Int))), (.s (.int .i64 (0 : Int))), (.s (.int .i64 (0 : Int))), (.s (.int .i64 (0 : Int))), (.s (.int .i64 (0 : Int))), (.l .deep bytesR ([] : List Int))]), (.s (.bool false))]), [])
                   else K ((.t [(.a [(.s (.int .i64 (IntKind.wrap .i64 (List.getD d 0 (0 : Int))))), (.s (.int .i64 (IntKind.wrap .i64 (List.getD d 1 (0 : Int))))), (.s (.int .i64 (atD (List.drop 2 d) (0 : Int)))), (.s (.int .i64 (atD (List.drop 4 d) (0 : Int)))), (.s (.int .i64 (atD (List.drop 6 d) (0 : Int)))), (.l .deep bytesR (List.drop 9 d))]), (.s (.bool true))]), []))
                  else none)
                 else none)))
               else none))
              ((bif ((fitB (List.drop 6 d)) && (decide ((1 : Int) < (((List.length (List.drop 6 d)) : Nat) : Int)))) then
               (bif (Cc.lim (Cc.sl bytesR) (List.drop 9 d)) then
                (bif (fitB (List.drop 9 d)) then
                 (bif (!(reqOkD ((IntKind.wrap .i64 (List.getD d 0 (0 : Int))), ((IntKind.wrap .i64 (List.getD d 1 (0 : Int))), ((atD (List.drop 2 d) (0 : Int)), ((atD (List.drop 4 d) (0 : Int)), ((atD (List.drop 6 d) (0 : Int)), (List.drop 9 d)))))))) then
                  K ((.t [(.a [(.s (.int .i64 (0 : Int))), (.s (.int .i64 (0 : Int))), (.s (.int .i64 (0 : Int))), (.s (.int .i64 (0 : Int))), (.s (.int .i64 (0 : Int))), (.l .deep bytesR ([] : List Int))]), (.s (.bool false))]), [])
                  else K ((.t [(.a [(.s (.int .i64 (IntKind.wrap .i64 (List.getD d 0 (0 : Int))))), (.s (.int .i64 (IntKind.wrap .i64 (List.getD d 1 (0 : Int))))), (.s (.int .i64 (atD (List.drop 2 d) (0 : Int)))), (.s (.int .i64 (atD (List.drop 4 d) (0 : Int)))), (.s (.int .i64 (atD (List.drop 6 d) (0 : Int)))), (.l .deep bytesR (List.drop 9 d))]), (.s (.bool true))]), []))
                 else none)
                else none)
               else none)))
             else none))
            ((bif ((fitB (List.drop 4 d)) && (decide ((1 : Int) < (((List.length (List.drop 4 d)) : Nat) : Int)))) then
             (bif ((fitB (List.drop 6 d)) && (decide ((1 : Int) < (((List.length (List.drop 6 d)) : Nat) : Int)))) then
              (bif (Cc.lim (Cc.sl bytesR) (List.drop 9 d)) then
               (bif (fitB (List.drop 9 d)) then
                (bif (!(reqOkD ((IntKind.wrap .i64 (List.getD d 0 (0 : Int))), ((IntKind.wrap .i64 (List.getD d 1 (0 : Int))), ((atD (List.drop 2 d) (0 : Int)), ((atD (List.drop 4 d) (0 : Int)), ((atD (List.drop 6 d) (0 : Int)), (List.drop 9 d)))))))) then
                 K ((.t [(.a [(.s (.int .i64 (0 : Int))), (.s (.int .i64 (0 : Int))), (.s (.int .i64 (0 : Int))), (.s (.int .i64 (0 : Int))), (.s (.int .i64 (0 : Int))), (.l .deep bytesR ([] : List Int))]), (.s (.bool false))]), [])
                 else K ((.t [(.a [(.s (.int .i64 (IntKind.wrap .i64 (List.getD d 0 (0 : Int))))), (.s (.int .i64 (IntKind.wrap .i64 (List.getD d 1 (0 : Int))))), (.s (.int .i64 (atD (List.drop 2 d) (0 : Int)))), (.s (.int .i64 (atD (List.drop 4 d) (0 : Int)))), (.s (.int .i64 (atD (List.drop 6 d) (0 : Int)))), (.l .deep bytesR (List.drop 9 d))]), (.s (.bool true))]), []))
                else none)
               else none)
              else none)
             else none)))
           else none))
          ((bif ((fitB (List.drop 2 d)) && (decide ((1 : Int) < (((List.length (List.drop 2 d)) : Nat) : Int)))) then
           (bif ((fitB (List.drop 4 d)) && (decide ((1 : Int) < (((List.length (List.drop 4 d)) : Nat) : Int)))) then
            (bif ((fitB (List.drop 6 d)) && (decide ((1 : Int) < (((List.length (List.drop 6 d)) : Nat) : Int)))) then
             (bif (Cc.lim (Cc.sl bytesR) (List.drop 9 d)) then
              (bif (fitB (List.drop 9 d)) then
               (bif (!(reqOkD ((IntKind.wrap .i64 (List.getD d 0 (0 : Int))), ((IntKind.wrap .i64 (List.getD d 1 (0 : Int))), ((atD (List.drop 2 d) (0 : Int)), ((atD (List.drop 4 d) (0 : Int)), ((atD (List.drop 6 d) (0 : Int)), (List.drop 9 d)))))))) then
                K ((.t [(.a [(.s (.int .i64 (0 : Int))), (.s (.int .i64 (0 : Int))), (.s (.int .i64 (0 : Int))), (.s (.int .i64 (0 : Int))), (.s (.int .i64 (0 : Int))), (.l .deep bytesR ([] : List Int))]), (.s (.bool false))]), [])
                else K ((.t [(.a [(.s (.int .i64 (IntKind.wrap .i64 (List.getD d 0 (0 : Int))))), (.s (.int .i64 (IntKind.wrap .i64 (List.getD d 1 (0 : Int))))), (.s (.int .i64 (atD (List.drop 2 d) (0 : Int)))), (.s (.int .i64 (atD (List.drop 4 d) (0 : Int)))), (.s (.int .i64 (atD (List.drop 6 d) (0 : Int)))), (.l .deep bytesR (List.drop 9 d))]), (.s (.bool true))]), []))
               else none)
              else none)
             else none)
            else none)
           else none)))
         else none)
        else none)
       else none)
      else none)
     else none)
    else none))
  else none))
theorem e_i_reqParse (d : List Int) (K : Ret → Option Ret) : evF E_i_reqParse true F.i_reqParse [.l .no bytesR d] K = T_i_reqParse d K := by kernel_rfl
def S_i_reqParse : Sm := S_fnR [.l bytesR] (fun d => fitB d.1) (fun d => (.t [.a (reqR.cells .deep (reqParseD d.1).1), bl (reqParseD d.1).2], []))
theorem v_i_reqParse (d : List Int) (h : (fitB d) = true) (K : Ret → Option Ret) : T_i_reqParse d K = K (.t [.a (reqR.cells .deep (reqParseD d).1), bl (reqParseD d).2], []) := by
  have hl := fitB_len h
  unfold T_i_reqParse reqParseD
  by_cases h9 : ((d.length : Nat) : Int) < 9
  · rw [decide_eq_true h9]; rfl
  have b0 := fitB_getD h 0
  have b1 := fitB_getD h 1
  have b8 := fitB_getD h 8
  have e9 : ∀ {p : Prop} [Decidable p], p → decide p = true := fun hp => decide_eq_true hp
  rw [decide_eq_false h9, wrap_in (n := d.getD 8 0) (by omega) (by omega), wrap_in (n := 9 + d.getD 8 0) (by omega) (by omega)]
  simp (disch := omega) only [decide_eq_true (show (8 : Int) < ((d.length : Nat) : Int) by omega), decide_eq_true (show (0 : Int) < ((d.length : Nat) : Int) by omega), decide_eq_true (show (1 : Int) < ((d.length : Nat) : Int) by omega), decide_eq_true (show (2 : Int) ≤ ((d.length : Nat) : Int) by omega), decide_eq_true (show (4 : Int) ≤ ((d.length : Nat) : Int) by omega), decide_eq_true (show (6 : Int) ≤ ((d.length : Nat) : Int) by omega), decide_eq_true (show (9 : Int) ≤ ((d.length : Nat) : Int) by omega), fitB_drop h, bytes_lim (fitB_len (fitB_drop h 9)), cond_true, Bool.true_and,
    decide_eq_true (show (1 : Int) < (((d.drop 2).length : Nat) : Int) by simp only [List.length_drop]; omega), decide_eq_true (show (1 : Int) < (((d.drop 4).length : Nat) : Int) by simp only [List.length_drop]; omega), decide_eq_true (show (1 : Int) < (((d.drop 6).length : Nat) : Int) by simp only [List.length_drop]; omega), meet_self,
    wrap_in (n := d.getD 0 0) (by omega) (by omega), wrap_in (n := d.getD 1 0) (by omega) (by omega)]
  have e2 : (d.getD 0 0, d.getD 1 0, atD (d.drop 2) 0, atD (d.drop 4) 0, atD (d.drop 6) 0, d.drop 9) = reqOf d := by
    unfold reqOf atD
    simp only [getD_drop]; rfl
  have e3 : (((d.length : Nat) : Int) != 9 + d.getD 8 0) = !decide (((d.length : Nat) : Int) = 9 + d.getD 8 0) := rfl
  rw [e3]
  have e4 : ∀ K' : V → Option Ret, True := fun _ => trivial
  rw [show atD (d.drop 2) 0 = atD d 2 from congrArg (fun r : P6 => r.2.2.1) e2, show atD (d.drop 4) 0 = atD d 4 from congrArg (fun r : P6 => r.2.2.2.1) e2, show atD (d.drop 6) 0 = atD d 6 from congrArg (fun r : P6 => r.2.2.2.2.1) e2]
  show (bif !decide _ then _ else bif !(reqOkD (reqOf d)) then _ else _) = _
  cases decide (((d.length : Nat) : Int) = 9 + d.getD 8 0) <;> cases reqOkD (reqOf d) <;> rfl
theorem okS_i_reqParse : OkFn prog I N.i_reqParse true S_i_reqParse := okN (ok_fn (memc okS_i_readWord (memc okS_Clone (memc okS_i_isReq mem0))) (l := [(N.i_readWord, true, S_i_readWord), (N.slices_Clone_bytes_byte, true, S_toL bytesR), (N.i_isReq, true, S_i_isReq)]) (p := [(3, takeB [0, 1, 2, 3, 4, 5, 6, 7, 8, 9, 11, 12, 14, 15, 17, 18] (.fork (.more 10 (.fork (.more 13 (.fork (.more 16 (.fork (.more 19 (takeB [20] (.fork (.one 21 (.fork (.one 22 (.done)))))) (.one 21 (.fork (.one 19 (takeB [20] (.fork (.one 22 (.done))))))))) (.one 21 (.fork (.one 16 (.fork (.one 19 (takeB [20] (.fork (.one 22 (.done))))))))))) (.one 21 (.fork (.one 13 (.fork (.one 16 (.fork (.one 19 (takeB [20] (.fork (.one 22 (.done))))))))))))) (.one 21 (.fork (.one 10 (.fork (.one 13 (.fork (.one 16 (.fork (.one 19 (takeB [20] (.fork (.one 22 (.done))))))))))))))), [])]) (ls := []) (lend := []) (focus := false) (fuel := 0) (give := []) (fn := F.i_reqParse) (by kernel_rfl) (by kernel_rfl) (by kernel_rfl) (by kernel_rfl) (cs := []) (by kernel_rfl) loops0) (S_fnR_of fun d K h => (e_i_reqParse d.1 K).trans (v_i_reqParse d.1 h K))
end Go.Ev.Seat
end
section
/- i_ReqParse: its contract. -/
namespace Go.Ev.Seat
open Go.RowKit
set_option maxRecDepth 100000
set_option linter.unusedVariables false
set_option linter.unusedSimpArgs false
noncomputable abbrev E_i_ReqParse : Env := En [(N.i_reqParse, true, S_i_reqParse)] [] [] [] false 0 []
noncomputable def T_i_ReqParse (d : List Int) (K : Ret → Option Ret) : Option Ret :=
 (bif (fitB d) then
 K ((.t [(.a [(.s (.int .i64 (reqParseD d).1.1)), (.s (.int .i64 (reqParseD d).1.2.1)), (.s (.int .i64 (reqParseD d).1.2.2.1)), (.s (.int .i64 (reqParseD d).1.2.2.2.1)), (.s (.int .i64 (reqParseD d).1.2.2.2.2.1)), (.l .deep bytesR (reqParseD d).1.2.2.2.2.2)]), (.s (.bool (reqParseD d).2))]), [])
 else none)
theorem e_i_ReqParse (d : List Int) (K : Ret → Option Ret) : evF E_i_ReqParse true F.i_ReqParse [.l .no bytesR d] K = T_i_ReqParse d K := by kernel_rfl
def S_i_ReqParse : Sm := S_fnR [.l bytesR] (fun d => fitB d.1) (fun d => (.t [.a (reqR.cells .deep (reqParseD d.1).1), bl (reqParseD d.1).2], []))
theorem v_i_ReqParse (d : List Int) (h : (fitB d) = true) (K : Ret → Option Ret) : T_i_ReqParse d K = K (.t [.a (reqR.cells .deep (reqParseD d).1), bl (reqParseD d).2], []) := by
  unfold T_i_ReqParse
  rw [h]; rfl
theorem okS_i_ReqParse : OkFn prog I N.i_ReqParse true S_i_ReqParse := okN (ok_fn (memc okS_i_reqParse mem0) (l := [(N.i_reqParse, true, S_i_reqParse)]) (p := []) (ls := []) (lend := []) (focus := false) (fuel := 0) (give := []) (fn := F.i_ReqParse) (by kernel_rfl) (by kernel_rfl) (by kernel_rfl) (by kernel_rfl) (cs := []) (by kernel_rfl) loops0) (S_fnR_of fun d K h => (e_i_ReqParse d.1 K).trans (v_i_ReqParse d.1 h K))
end Go.Ev.Seat
end
section
/- The law FnExactReqParse. Printed by laws.py. -/
namespace Go.Ev.Seat
open Go.RowKit
set_option maxRecDepth 100000
set_option linter.unusedVariables false
noncomputable abbrev ls_ReqParse (T : MText) : List (Nat × Bool × Sm) := [(N.s_ReqParse, true, S_s_ReqParse), (N.i_ReqParse, true, S_i_ReqParse), (N.l_toByteS, true, S_toL bytesR), (N.l_eqByteS, true, S_eq bytesR), (N.l_markByteS, true, S_markL T bytesR), (N.l_eqReq, true, S_eqA reqR), (N.l_markReq, true, S_markA T reqR), (N.l_heldReq, true, S_heldA T reqR)]
noncomputable abbrev pl_ReqParse : List (Nat × Plan × List Nat) := []
noncomputable def G_ReqParse (T : MText) := evF (En (ls_ReqParse T) pl_ReqParse [] [N.l_markByteS, N.l_markReq] true) true F.l_FnExactReqParse
theorem ok_ReqParse (T : MText) : OkFn prog I N.l_FnExactReqParse true (G_ReqParse T) := ok_fn (l := ls_ReqParse T) (memc okS_s_ReqParse (memc okS_i_ReqParse (memc okS_toByteS (memc okS_eqByteS (memc (okS_markByteS T) (memc okS_eqReq (memc (okS_markReq T) (memc (okS_heldReq T) mem0)))))))) (by kernel_rfl) (by kernel_rfl) (by kernel_rfl) (by kernel_rfl) (cs := []) (by kernel_rfl) loops0
noncomputable def L1_ReqParse (T : MText) (d : List Int) (K : Ret → Option Ret) : Option Ret := (bif reqR.cnt (reqParseD d).1 then (bif !(eqD ((reqParseD d).1 : T_Req) (reqParseD d).1) then K (bl false, []) else (bif !((reqParseD d).2 == (reqParseD d).2) then K (bl false, []) else (bif (eqD (reqR.markA T (reqR.markA T (reqParseD d).1 (1 : Int)).1 (1 : Int)).1 (reqR.markA T (reqParseD d).1 (1 : Int)).1) && (reqR.cnt (reqR.markA T (reqParseD d).1 (1 : Int)).1 && decide ((0 : Int) ≤ (1 : Int)) && decide ((1 : Int) + ((reqR.marksA (reqR.markA T (reqParseD d).1 (1 : Int)).1 : Nat) : Int) ≤ 4611686018427387904)) then (bif decide ((reqR.markA T (reqR.markA T (reqParseD d).1 (1 : Int)).1 (1 : Int)).2 < 0) then K (bl false, []) else (bif (reqR.markA T (reqR.markA T (reqParseD d).1 (1 : Int)).1 (1 : Int)).2 != (reqR.markA T (reqParseD d).1 (1 : Int)).2 then K (bl false, []) else K (bl true, []))) else none))) else none)
noncomputable def L0_ReqParse (T : MText) (d : List Int) (K : Ret → Option Ret) : Option Ret := (bif (Cc.sl bytesR).lim d then (bif fitB d then (bif reqR.cnt (reqParseD d).1 then (bif !(eqD ((reqParseD d).1 : T_Req) (reqParseD d).1) then K (bl false, []) else (bif !((reqParseD d).2 == (reqParseD d).2) then K (bl false, []) else (bif (Cc.sl bytesR).lim d then (bif (Cc.sl bytesR).cnt d then (bif !(eqD (d : List Int) d) then K (bl false, []) else (bif (Cc.sl bytesR).cnt d then (bif decide (((Cc.sl bytesR).mark T d (1 : Int)).2 < 0) then K (bl false, []) else (bif reqR.cnt (reqParseD d).1 then (bif !(eqD ((reqParseD d).1 : T_Req) (reqParseD d).1) then K (bl false, []) else (bif !((reqParseD d).2 == (reqParseD d).2) then K (bl false, []) else (bif reqR.cnt (reqParseD d).1 then (bif (eqD (reqR.markA T (reqR.markA T (reqParseD d).1 (1 : Int)).1 (1 : Int)).1 (reqR.markA T (reqParseD d).1 (1 : Int)).1) && (reqR.cnt (reqR.markA T (reqParseD d).1 (1 : Int)).1 && decide ((0 : Int) ≤ (1 : Int)) && decide ((1 : Int) + ((reqR.marksA (reqR.markA T (reqParseD d).1 (1 : Int)).1 : Nat) : Int) ≤ 4611686018427387904)) then (bif decide ((reqR.markA T (reqR.markA T (reqParseD d).1 (1 : Int)).1 (1 : Int)).2 < 0) then K (bl false, []) else (bif (reqR.markA T (reqR.markA T (reqParseD d).1 (1 : Int)).1 (1 : Int)).2 != (reqR.markA T (reqParseD d).1 (1 : Int)).2 then K (bl false, []) else (bif (Cc.sl bytesR).lim d then (bif fitB d then (L1_ReqParse T d K) else none) else none))) else none) else none))) else none)) else none)) else none) else none))) else none) else none) else none)
theorem law_ReqParse (T : MText) (d : List Int) (K : Ret → Option Ret) (hwf0 : (Cc.sl bytesR).wf d) : G_ReqParse T [.l .no bytesR d] K = K (bl true, []) := by
  have e : G_ReqParse T [.l .no bytesR d] K = (bif decide (((List.length d : Nat) : Int) > 1048576) then K (bl true, []) else (bif (Cc.sl bytesR).lim d then (bif fitB d then (L0_ReqParse T d K) else none) else none)) := by kernel_rfl
  refine e.trans ?_
  have hz0 : (Cc.sl bytesR).cnz d = true := Cc.cnz_of_wf (.sl bytesR) d hwf0
  refine lw_len (fun q0 => ?_)
  have hw0 : (Cc.sl bytesR).w d ≤ 1048576 := Nat.le_trans (Nat.le_of_eq (bytes_w d)) q0
  have lim0 : (Cc.sl bytesR).lim d = true := bytes_lim q0
  have cnt0 : (Cc.sl bytesR).cnt d = true := Cc.cnt_of_lim (.sl bytesR) d lim0
  have mk0 : (Cc.sl bytesR).marks d ≤ 32 * (Cc.sl bytesR).w d := Cc.marksA_le (.sl bytesR) rfl d
  have hpre : fitB d = true := fitB_fit (fitC_of (.sl bytesR) d hwf0 lim0)
  have rw0 : reqR.w (reqParseD d).1 ≤ 1099511627776 := reqParse_w hw0
  have rcnt0 : reqR.cnt (reqParseD d).1 = true := Rw.cnt_of_w reqR (reqParseD d).1 (by omega)
  have rmk0 : reqR.marksA (reqParseD d).1 ≤ 32 * reqR.w (reqParseD d).1 := Rw.marksA_le reqR rfl (reqParseD d).1
  have k0 := Cc.mark_cnt T (.sl bytesR) d (1 : Int) (by omega) (by omega)
  have pk1 : 0 ≤ ((Cc.sl bytesR).mark T d (1 : Int)).2 := by omega
  have mm0 := Rw.markA_cnt T reqR (reqParseD d).1 (1 : Int) (by omega) (by omega)
  have hq0 : (1 : Int) = 1 := rfl
  have id0 : reqR.markA T (reqR.markA T (reqParseD d).1 (1 : Int)).1 (1 : Int) = reqR.markA T (reqParseD d).1 (1 : Int) := Rw.markA_idem T reqR (reqParseD d).1 (1 : Int)
  have hq1 : (reqR.markA T (reqR.markA T (reqParseD d).1 (1 : Int)).1 (1 : Int)).2 = (reqR.markA T (reqParseD d).1 (1 : Int)).2 := congrArg Prod.snd id0
  have hg0 : eqD (reqR.markA T (reqR.markA T (reqParseD d).1 (1 : Int)).1 (1 : Int)).1 (reqR.markA T (reqParseD d).1 (1 : Int)).1 = true := eqD_iff.2 (congrArg Prod.fst id0)
  have gcnt0 : reqR.cnt (reqR.markA T (reqParseD d).1 (1 : Int)).1 = true := (Rw.markA_w T reqR (reqParseD d).1 (1 : Int)).trans rcnt0
  have gmk0 : reqR.marksA (reqR.markA T (reqParseD d).1 (1 : Int)).1 = reqR.marksA (reqParseD d).1 := Rw.markA_marks T reqR (reqParseD d).1 (1 : Int)
  have pq0 : 0 ≤ (1 : Int) := by omega
  have bq0 : (1 : Int) + ((reqR.marksA (reqR.markA T (reqParseD d).1 (1 : Int)).1 : Nat) : Int) ≤ 4611686018427387904 := by omega
  have pq1 : 0 ≤ (reqR.markA T (reqR.markA T (reqParseD d).1 (1 : Int)).1 (1 : Int)).2 := by omega
  have t1 : L1_ReqParse T d K = K (bl true, []) := by
    unfold L1_ReqParse
    exact (lw_eq rcnt0 (lw_bool (lw_held hg0 gcnt0 pq0 bq0 (lw_lt pq1 (lw_int2 hq1 rfl)))))
  have t0 : L0_ReqParse T d K = K (bl true, []) := by
    unfold L0_ReqParse
    exact (to_step lim0 (to_step hpre (lw_eq rcnt0 (lw_bool (to_step lim0 (lw_eq cnt0 (to_step cnt0 (lw_lt pk1 (lw_eq rcnt0 (lw_bool (to_step rcnt0 (lw_held hg0 gcnt0 pq0 bq0 (lw_lt pq1 (lw_int2 hq1 (to_step lim0 (to_step hpre t1))))))))))))))))
  exact (to_step lim0 (to_step hpre t0))
end Go.Ev.Seat
end
section
/- Kinds of types that come in, checked by reckoning. -/
set_option linter.unusedVariables false
namespace Go.Ev
open Go.RowKit
mutual
def ccN (P : Program) : Nat → Cc → TypeId → Bool
  | 0, _, _ => false
  | n + 1, c, t => match c, P.underlying t with
    | .int k, some (.int k') => decide (k' = k)
    | .bool, some .bool => true
    | .str, some .string => true
    | .sl r, some (.slice e) => Nat.beq (P.cellsOf e) r.n && (match layN P n r.list e with
      | some [] => true
      | _ => false)
    | _, _ => false
/-- The cells of a type, taken off a list: what is left. -/
def layN (P : Program) : Nat → List Cc → TypeId → Option (List Cc)
  | 0, _, _ => none
  | n + 1, cs, t => match cs with
    | [] => none
    | c :: rest => bif ccN P n c t then some rest else match P.underlying t with
      | some (.struct fs) => fsN P n (c :: rest) 0 fs.toList
      | _ => none
def fsN (P : Program) : Nat → List Cc → Nat → List Field → Option (List Cc)
  | 0, _, _, _ => none
  | n + 1, cs, i, fs => match fs with
    | [] => some cs
    | f :: rest => bif Nat.beq f.offset i then (match layN P n cs f.type with
      | some cs' => bif Nat.beq (P.cellsOf f.type + cs'.length) cs.length then fsN P n cs' (i + P.cellsOf f.type) rest else none
      | none => none) else none
end
theorem kinds_ok {P : Program} : ∀ (n : Nat), (∀ c t, ccN P n c t = true → CcOk P c t) ∧ (∀ cs t rest, layN P n cs t = some rest → ∃ pre, cs = pre ++ rest ∧ LayOk P pre t) ∧ ∀ cs i fs rest, fsN P n cs i fs = some rest → ∃ pre, cs = pre ++ rest ∧ LayFs P pre i fs
  | 0 => ⟨fun _ _ h => by simp [ccN] at h, fun _ _ _ h => by simp [layN] at h, fun _ _ _ _ h => by simp [fsN] at h⟩
  | n + 1 => by
    obtain ⟨h1, h2, h3⟩ := kinds_ok (P := P) n
    refine ⟨fun c t h => ?_, fun cs t rest h => ?_, fun cs i fs rest h => ?_⟩
    · simp only [ccN] at h
      split at h
      · rename_i k k' hu
        have := of_decide_eq_true h
        subst this
        exact .int hu
      · rename_i hu; exact .bool hu
      · rename_i hu; exact .str hu
      · rename_i r e hu
        simp only [Bool.and_eq_true] at h
        obtain ⟨g1, g2⟩ := h
        split at g2
        · rename_i hl
          obtain ⟨pre, e1, e2⟩ := h2 _ _ _ hl
          rw [List.append_nil] at e1
          exact .sl hu (Nat.eq_of_beq_eq_true g1) (e1 ▸ e2)
        · cases g2
      · cases h
    · simp only [layN] at h
      split at h
      · cases h
      · rename_i c rest'
        cases hc : ccN P n c t with
        | true =>
          rw [hc] at h
          cases h
          exact ⟨[c], rfl, .one (h1 _ _ hc)⟩
        | false =>
          rw [hc] at h
          simp only [cond_false] at h
          split at h
          · rename_i fs hu
            obtain ⟨pre, e1, e2⟩ := h3 _ _ _ _ h
            exact ⟨pre, e1, .st hu e2⟩
          · cases h
    · simp only [fsN] at h
      split at h
      · cases h
        exact ⟨[], rfl, .nil⟩
      · rename_i f rest'
        cases ho : Nat.beq f.offset i with
        | false => rw [ho] at h; cases h
        | true =>
          rw [ho] at h
          simp only [cond_true] at h
          split at h
          · rename_i cs' hl
            obtain ⟨pre, e1, e2⟩ := h2 _ _ _ hl
            cases hb : Nat.beq (P.cellsOf f.type + cs'.length) cs.length with
            | false => rw [hb] at h; cases h
            | true =>
              rw [hb] at h
              simp only [cond_true] at h
              have hlen := Nat.eq_of_beq_eq_true hb
              have hp : P.cellsOf f.type = pre.length := by rw [e1, List.length_append] at hlen; omega
              obtain ⟨pre2, e3, e4⟩ := h3 _ _ _ _ h
              rw [hp] at e4
              refine ⟨pre ++ pre2, by rw [e1, e3, List.append_assoc], .cons (Nat.eq_of_beq_eq_true ho) hp e2 e4⟩
          · cases h
def ccB (P : Program) (c : Cc) (t : TypeId) : Bool := ccN P 100 c t
def rwB (P : Program) (r : Rw) (t : TypeId) : Bool := match layN P 100 r.list t with
  | some [] => true
  | _ => false
theorem ccB_ok {P : Program} (c : Cc) {t : TypeId} (h : ccB P c t = true) : CcOk P c t := (kinds_ok 100).1 c t h
theorem rwB_ok {P : Program} (r : Rw) {t : TypeId} (h : rwB P r t = true) : RwOk P r t := by
  unfold rwB at h
  split at h
  · rename_i hl
    obtain ⟨pre, e1, e2⟩ := (kinds_ok 100).2.1 _ _ _ hl
    rw [List.append_nil] at e1
    show LayOk P r.list t
    rw [e1]; exact e2
  · cases h
end Go.Ev
end
section
/- An argument of one cell. -/
set_option linter.unusedVariables false
namespace Go.Ev
theorem cells_one {P : Program} {W : World} {r : Reach} {base : Nat} {c : Cc} {t : TypeId} {v : Value} (h : CcOk P c t) (ok : Value.okWide P W r base t v) : v.cells.toList = [v] := by
  cases v with
  | agg cs =>
    exfalso
    unfold Value.okWide at ok
    cases h with
    | int h => rw [h] at ok; simp [Cell.okWide, Cell.ok, h] at ok
    | bool h => rw [h] at ok; simp [Cell.okWide, Cell.ok, h] at ok
    | str h => rw [h] at ok; simp [Cell.okWide, Cell.ok, h] at ok
    | sl h _ _ => rw [h] at ok; simp [Cell.okWide, Cell.ok, h] at ok
  | _ => rfl
end Go.Ev
end
section
/- What a row's list gives of the tables of unicode/utf8. -/
set_option linter.unusedVariables false
namespace Go.Ev
open Go
variable {H : Type} {enc : TypeId × Value → H} {P : Program} {w : World} {base : Nat} {sp : Nat → Bool} {held : Bool}

/-- An array's cells, element by element. -/
theorem trod_arr {fuel : Nat} {t e : TypeId} {n m : Nat} {cs : List Value} {ds : List (DataW H)} {p : List MemPlace}
    (ht : P.underlying t = some (.array n e)) (hce : P.cellsOf e = m) (hct : P.cellsOf t = n * m)
    (h : DataW.trod enc P w base sp held fuel t cs = some (.agg ds, p)) :
    cs.length = n * m ∧ ds.length = n ∧ ∀ (i : Nat) (d : DataW H), ds[i]? = some d → ∃ f q, DataW.trod enc P w base sp held f e ((cs.drop (i * m)).take m) = some (d, q) := by
  cases fuel with
  | zero => simp [DataW.trod] at h
  | succ fuel =>
    simp only [DataW.trod, ht, hce, hct] at h
    split at h
    · rename_i hl
      obtain ⟨xs, hm, hx⟩ := Option.map_eq_some_iff.1 h
      have hxs : xs.map (·.1) = ds := by
        have := congrArg Prod.fst hx
        simpa using this
      have hxl : xs.length = n := by simpa using Lib.mapM_length hm
      refine ⟨by simpa using hl, by rw [← hxs]; simp [hxl], fun i d hd => ?_⟩
      rw [← hxs] at hd
      rw [List.getElem?_map, Option.map_eq_some_iff] at hd
      obtain ⟨b, hb, rfl⟩ := hd
      have hi : i < n := by
        have := (List.getElem?_eq_some_iff.1 hb).1
        omega
      obtain ⟨b', hb', hf⟩ := Lib.mapM_at hm i i (by simp [hi])
      obtain rfl := Option.some.inj (hb.symm.trans hb')
      exact ⟨fuel, b.2, hf⟩
    · cases h
theorem trod_u8 {fuel : Nat} {t : TypeId} {k : IntKind} {cs : List Value} {z : Int} {p : List MemPlace} (ht : P.underlying t = some (.int k))
    (h : DataW.trod enc P w base sp held fuel t cs = some (.lit (.int k z), p)) : cs = [.int k z] := by
  cases fuel with
  | zero => simp [DataW.trod] at h
  | succ fuel =>
    obtain ⟨z', hc, h2, _⟩ := DataW.trod_int ht h
    cases h2
    exact hc
/-- A struct of two small cells. -/
theorem trod_two {fuel : Nat} {t : TypeId} {fs : Array Field} {f g : Field} {k : IntKind} {cs : List Value} {x y : Int} {p : List MemPlace}
    (ht : P.underlying t = some (.struct fs)) (hfs : fs.toList = [f, g]) (hc : P.cellsOf t = 2) (hf0 : f.offset = 0) (hg0 : g.offset = 1) (hf : P.underlying f.type = some (.int k)) (hg : P.underlying g.type = some (.int k))
    (hcf : P.cellsOf f.type = 1) (hcg : P.cellsOf g.type = 1)
    (h : DataW.trod enc P w base sp held fuel t cs = some (.agg [.lit (.int k x), .lit (.int k y)], p)) : cs = [.int k x, .int k y] := by
  cases fuel with
  | zero => simp [DataW.trod] at h
  | succ fuel =>
    simp only [DataW.trod, ht, hfs, hc, hf0, hg0, hcf, hcg] at h
    split at h
    · rename_i hl
      obtain ⟨xs, hm, hx⟩ := Option.map_eq_some_iff.1 h
      have hxs : xs.map (·.1) = [.lit (.int k x), .lit (.int k y)] := by
        have := congrArg Prod.fst hx
        simpa using this
      obtain ⟨b0, hb0, h0⟩ := Lib.mapM_at hm 0 f rfl
      obtain ⟨b1, hb1, h1⟩ := Lib.mapM_at hm 1 g rfl
      have e0 : b0.1 = .lit (.int k x) := by
        have := congrArg (·[0]?) hxs
        simpa [hb0] using this
      have e1 : b1.1 = .lit (.int k y) := by
        have := congrArg (·[1]?) hxs
        simpa [hb1] using this
      obtain ⟨d0, q0⟩ := b0
      obtain ⟨d1, q1⟩ := b1
      simp only at e0 e1
      subst e0 e1
      rw [hf0, hcf] at h0
      rw [hg0, hcg] at h1
      have a0 := trod_u8 hf h0
      have a1 := trod_u8 hg h1
      match cs, hl, a0, a1 with
      | [u, v], _, a0, a1 =>
        simp at a0 a1
        rw [a0, a1]
      | [], hl, _, _ => simp at hl
      | [_], hl, _, _ => simp at hl
      | _ :: _ :: _ :: _, hl, _, _ => simp at hl
    · cases h
theorem laid_at {laid : List (String × DataW Unit)} {W : World} {ps : List MemPlace} (h : DataW.LaidVars P W laid ps) {i : Nat} {name : String} {d : DataW Unit} (hi : laid[i]? = some (name, d)) {g : Nat} {t : TypeId}
    (hg : P.globalNamed name = some g) (hty : (P.globals[g]?).map (·.type) = some t) : ∃ cs fuel p, W.var? P name = some cs ∧ DataW.trod (fun _ => ()) P W 0 (fun _ => true) false fuel t cs.toList = some (d, p) := by
  induction laid generalizing ps i with
  | nil => simp at hi
  | cons x rest ih =>
    obtain ⟨n, d'⟩ := x
    obtain ⟨g', t', cs, fuel, p, q, hg', ht', hvar, hd, hr, _⟩ := h
    cases i with
    | zero =>
      simp only [List.getElem?_cons_zero, Option.some.injEq, Prod.mk.injEq] at hi
      obtain ⟨rfl, rfl⟩ := hi
      obtain rfl := Option.some.inj (hg.symm.trans hg')
      obtain rfl := Option.some.inj (hty.symm.trans ht')
      exact ⟨cs, fuel, p, hvar, hd⟩
    | succ i => exact ih hr (by simpa using hi)
theorem var_lt {W : World} {name : String} {g : Nat} {cs : Array Value} (hg : P.globalNamed name = some g) (h : W.var? P name = some cs) : g < W.heap.size := by
  unfold World.var? at h
  rw [hg] at h
  simp only [Option.bind_some] at h
  split at h
  · rename_i hh
    exact (Array.getElem?_eq_some_iff.1 hh).1
  · cases h
/-- THE TWO TABLES, off the list of a row. -/
theorem globI_utf {W : World} {d0 d1 : DataW Unit} (hm : laidMet P [("unicode/utf8.acceptRanges", d1), ("unicode/utf8.first", d0)] W)
    (hd0 : d0 = .agg (utfFirst.map fun z => .lit (.int .u8 z))) (hd1 : d1 = .agg (utfAccept.map fun z => .agg [.lit (.int .u8 z.1), .lit (.int .u8 z.2)]))
    {t0 t1 e0 e1 : TypeId} (hg0 : P.globalNamed "unicode/utf8.first" = some 0) (hg1 : P.globalNamed "unicode/utf8.acceptRanges" = some 1)
    (hy0 : (P.globals[0]?).map (·.type) = some t0) (hy1 : (P.globals[1]?).map (·.type) = some t1)
    (ht0 : P.underlying t0 = some (.array 256 e0)) (ht1 : P.underlying t1 = some (.array 16 e1)) (he0 : P.underlying e0 = some (.int .u8))
    {fs : Array Field} {f g : Field} (he1 : P.underlying e1 = some (.struct fs)) (hfs : fs.toList = [f, g]) (hf0 : f.offset = 0) (hgo : g.offset = 1) (hf : P.underlying f.type = some (.int .u8)) (hg : P.underlying g.type = some (.int .u8))
    (hcf : P.cellsOf f.type = 1) (hcg : P.cellsOf g.type = 1) (hc0 : P.cellsOf t0 = 256) (hc1 : P.cellsOf t1 = 32) (hce0 : P.cellsOf e0 = 1) (hce1 : P.cellsOf e1 = 2) : GlobI utfGlob W.heap.size W := by
  obtain ⟨ps, hL, _⟩ := hm
  obtain ⟨cs1, fu1, p1, hv1, hr1⟩ := laid_at hL (i := 0) rfl hg1 hy1
  obtain ⟨cs0, fu0, p0, hv0, hr0⟩ := laid_at hL (i := 1) rfl hg0 hy0
  subst hd0 hd1
  obtain ⟨l0, n0, r0⟩ := trod_arr (n := 256) (m := 1) ht0 hce0 hc0 hr0
  obtain ⟨l1, n1, r1⟩ := trod_arr (n := 16) (m := 2) ht1 hce1 hc1 hr1
  intro gg r xs hgg
  unfold utfGlob at hgg
  by_cases h0 : gg = 0
  · subst h0
    simp only [Nat.beq, cond_true, Option.some.injEq, Sigma.mk.injEq] at hgg
    obtain ⟨rfl, hxs⟩ := hgg
    cases hxs
    refine ⟨var_lt hg0 hv0, fun i d hd => ?_⟩
    obtain ⟨f', q, hq⟩ := r0 i _ (by rw [List.getElem?_map, hd]; rfl)
    have hcs := trod_u8 he0 hq
    refine ⟨[.int .u8 d], rfl, fun j v hj => ?_, fun C w => ⟨.int .u8 d, [], rfl, ⟨rfl, rfl⟩, rfl⟩⟩
    match j, hj with
    | 0, hj =>
      cases hj
      rw [World.var?_cell hg0 hv0]
      have := congrArg (·[0]?) hcs
      simpa [Rw.n, List.getElem?_take, List.getElem?_drop] using this
    | j + 1, hj => simp at hj
  · by_cases h1 : gg = 1
    · subst h1
      simp only [Nat.beq, cond_true, cond_false, Option.some.injEq, Sigma.mk.injEq] at hgg
      obtain ⟨rfl, hxs⟩ := hgg
      cases hxs
      refine ⟨var_lt hg1 hv1, fun i d hd => ?_⟩
      obtain ⟨f', q, hq⟩ := r1 i _ (by rw [List.getElem?_map, hd]; rfl)
      have hcs := trod_two he1 hfs hce1 hf0 hgo hf hg hcf hcg hq
      refine ⟨[.int .u8 d.1, .int .u8 d.2], rfl, fun j v hj => ?_, fun C w => ⟨.int .u8 d.1, [.int .u8 d.2], rfl, ⟨rfl, rfl⟩, ⟨.int .u8 d.2, [], rfl, ⟨rfl, rfl⟩, rfl⟩⟩⟩
      match j, hj with
      | 0, hj =>
        cases hj
        rw [World.var?_cell hg1 hv1]
        have := congrArg (·[0]?) hcs
        simpa [Rw.n, List.getElem?_take, List.getElem?_drop] using this
      | 1, hj =>
        cases hj
        rw [World.var?_cell hg1 hv1]
        have := congrArg (·[1]?) hcs
        simpa [Rw.n, List.getElem?_take, List.getElem?_drop] using this
      | j + 2, hj => simp at hj
    · exfalso
      match gg, h0, h1 with
      | 0, h0, _ => exact h0 rfl
      | 1, _, h1 => exact h1 rfl
      | n + 2, _, _ => simp [Nat.beq] at hgg
def u8B (P : Program) (t : TypeId) : Bool := match P.underlying t with
  | some (.int .u8) => P.cellsOf t == 1
  | _ => false
theorem u8B_ok {t : TypeId} (h : u8B P t = true) : P.underlying t = some (.int .u8) ∧ P.cellsOf t = 1 := by
  unfold u8B at h
  split at h
  · rename_i e; exact ⟨e, by simpa using h⟩
  · cases h
def twoB (P : Program) (t : TypeId) : Bool := match P.underlying t with
  | some (.struct fs) => match fs.toList with
    | [f, g] => f.offset == 0 && g.offset == 1 && u8B P f.type && u8B P g.type && P.cellsOf t == 2
    | _ => false
  | _ => false
/-- The two tables' types, looked at. -/
def tabB (P : Program) (t0 t1 e0 e1 : TypeId) : Bool :=
  P.globalNamed "unicode/utf8.first" == some 0 && P.globalNamed "unicode/utf8.acceptRanges" == some 1 && (P.globals[0]?).map (·.type) == some t0 && (P.globals[1]?).map (·.type) == some t1 &&
  P.cellsOf t0 == 256 && P.cellsOf t1 == 32 && u8B P e0 && twoB P e1
theorem globI_utfB {W : World} {d0 d1 : DataW Unit} (hm : laidMet P [("unicode/utf8.acceptRanges", d1), ("unicode/utf8.first", d0)] W)
    (hd0 : d0 = .agg (utfFirst.map fun z => .lit (.int .u8 z))) (hd1 : d1 = .agg (utfAccept.map fun z => .agg [.lit (.int .u8 z.1), .lit (.int .u8 z.2)]))
    (t0 t1 e0 e1 : TypeId) (hB : tabB P t0 t1 e0 e1 = true) (ht0 : P.underlying t0 = some (.array 256 e0)) (ht1 : P.underlying t1 = some (.array 16 e1)) : GlobI utfGlob W.heap.size W := by
  unfold tabB at hB
  simp only [Bool.and_eq_true, beq_iff_eq] at hB
  obtain ⟨⟨⟨⟨⟨⟨⟨a1, a2⟩, a3⟩, a4⟩, a5⟩, a6⟩, a7⟩, a8⟩ := hB
  unfold twoB at a8
  split at a8
  · rename_i fs hfs
    split at a8
    · rename_i f g hfg
      simp only [Bool.and_eq_true, beq_iff_eq] at a8
      obtain ⟨⟨⟨⟨b1, b2⟩, b3⟩, b4⟩, b5⟩ := a8
      obtain ⟨c1, c2⟩ := u8B_ok b3
      obtain ⟨c3, c4⟩ := u8B_ok b4
      obtain ⟨c5, c6⟩ := u8B_ok a7
      exact globI_utf hm hd0 hd1 a1 a2 a3 a4 ht0 ht1 c5 hfs hfg b1 b2 c1 c3 c2 c4 a5 a6 c6 b5
    · cases a8
  · cases a8
def lay (xs : List Value) : Obj → Obj
  | .cells _ t frozen => .cells xs.toArray t frozen
  | o => o
/-- What the tables' initialisers lay. -/
def layUtf (h : Array Obj) : Array Obj := (h.modify 0 (lay (utfFirst.map fun z => .int .u8 z))).modify 1 (lay (utfAccept.flatMap fun z => [.int .u8 z.1, .int .u8 z.2]))
end Go.Ev
end
