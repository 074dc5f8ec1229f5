/- MachOk: parts FiareHeld FiisDoc FiisPut FiisWord FiusedNumbers FiisReq FiEditsame FiOpisFresh FireqEdits FiDocisVersion FiDocmember1 FslicesBinarySearchFuncMemberint FiDocmember FiReqmeant FiDocat FiEditpos FiEditspan FiEditmoved FiDocplan FiisOp FiisMach FsMachOk FiMachOk EvLMachOk EvKind EvOne EvTab, packed by squash.py. -/
import GoSem.ClaimWide
import Derived.Lib.LaidTab
import GoSem.PinnedTables
import Derived.Test.YthddmiaggpnokaaGreatDoorZMachOk0
import Derived.Test.YthddmiaggpnokaaGreatDoorZMachOk1
import Derived.Test.YthddmiaggpnokaaGreatDoorZMachOk2
import Derived.Test.YthddmiaggpnokaaGreatDoorZMachOk3
import Derived.Test.YthddmiaggpnokaaGreatDoorZMachOk4
import Derived.Test.YthddmiaggpnokaaGreatDoorZMachOk5
import Derived.Test.YthddmiaggpnokaaGreatDoorZMachOk6
set_option linter.unusedVariables false
set_option linter.unusedSimpArgs false
section
namespace Go.Ev.Seat
open Go.RowKit
set_option maxRecDepth 100000
set_option linter.unusedVariables false
set_option linter.unusedSimpArgs false
def zh (x0 : List ak) (x1 : List Int) (x2 : Int) (x6 : Bool) (x14 : List ak) (x15 : Int) (x16 : Int) : St := { tm := ([(.l .no aH x0), (.l .no ah x1), (.s (.int .i64 x2)), .x, .x, .x, (.s (.bool x6)), .x, .x, .x, .x, .x, .x, .x, (.l .no aH x14), (.s (.int .i64 x15)), (.s (.int .i64 x16))] ++ List.replicate 50 .x), ob := [], nx := 0, io := [] }
def zi (x0 : List ak) (x1 : List Int) (x2 : Int) (x14 : List ak) (x15 : Int) (x16 : Int) : St := { tm := ([(.l .no aH x0), (.l .no ah x1), (.s (.int .i64 x2)), .x, .x, .x, .x, .x, .x, .x, .x, .x, .x, .x, (.l .no aH x14), (.s (.int .i64 x15)), (.s (.int .i64 x16))] ++ List.replicate 50 .x), ob := [], nx := 0, io := [] }
def wP : Ss := { tm := (.cons (.l .no aH) (.cons (.l .no ah) (.cons (.int .i64) (.cons (.x) (.cons (.x) (.cons (.x) (.cons (.x) (.cons (.x) (.cons (.pb 0 0) (.cons (.x) (.cons (.x) (.cons (.x) (.cons (.x) (.cons (.x) (.cons (.l .no aH) (.cons (.int .i64) (.cons (.int .i64) (.cons (.x) (.cons (.x) (.cons (.x) (.cons (.x) (.cons (.x) (.cons (.x) (.cons (.x) (.cons (.x) (.cons (.x) (.cons (.x) (.cons (.x) (.cons (.x) (.cons (.x) (.cons (.x) (.cons (.x) (.cons (.x) (.cons (.x) (.cons (.x) (.cons (.x) (.cons (.x) (.cons (.x) (.cons (.x) (.cons (.x) (.cons (.x) (.cons (.l .no aH) (.cons (.int .i64) (.cons (.int .i64) (Fj 23))))))))))))))))))))))))))))))))))))))))))))), ob := (.box (.cons (.int .i64) (.cons (.int .i64) (.cons (.int .i64) (.cons (.int .i64) .nil)))) .nil), nx := 1, io := .nil }
def abu (x0 : List ak) (x1 : List Int) (x2 : Int) (x14 : List ak) (x15 : Int) (x16 : Int) (x41 : List ak) (ED : Int) (x43 : Int) (b00 : Int) (b01 : Int) (b02 : Int) (aJ : Int) : wP.T := ((x0, (x1, (x2, ((), ((), ((), ((), ((), ((), ((), ((), ((), ((), ((), (x14, (x15, (x16, ((), ((), ((), ((), ((), ((), ((), ((), ((), ((), ((), ((), ((), ((), ((), ((), ((), ((), ((), ((), ((), ((), ((), ((), (x41, (ED, (x43, xd 23)))))))))))))))))))))))))))))))))))))))))))), ((b00, (b01, (b02, (aJ, ())))), ()), ())
def rC (x0 : List ak) (x1 : List Int) (x2 : Int) (x14 : List ak) (x15 : Int) (x16 : Int) (x41 : List ak) (ED : Int) (x43 : Int) (b00 : Int) (b01 : Int) (b02 : Int) (aJ : Int) : St := { tm := ([(.l .no aH x0), (.l .no ah x1), (.s (.int .i64 x2)), .x, .x, .x, .x, .x, (.pb 0 0), .x, .x, .x, .x, .x, (.l .no aH x14), (.s (.int .i64 x15)), (.s (.int .i64 x16)), .x, .x, .x, .x, .x, .x, .x, .x, .x, .x, .x, .x, .x, .x, .x, .x, .x, .x, .x, .x, .x, .x, .x, .x, (.l .no aH x41), (.s (.int .i64 ED)), (.s (.int .i64 x43))] ++ List.replicate 23 .x), ob := [(0, (.box [(.s (.int .i64 b00)), (.s (.int .i64 b01)), (.s (.int .i64 b02)), (.s (.int .i64 aJ))]))], nx := 1, io := [] }
theorem Zk (x0 : List ak) (x1 : List Int) (x2 : Int) (x14 : List ak) (x15 : Int) (x16 : Int) (x41 : List ak) (ED : Int) (x43 : Int) (b00 : Int) (b01 : Int) (b02 : Int) (aJ : Int) : wP.mk' (abu x0 x1 x2 x14 x15 x16 x41 ED x43 b00 b01 b02 aJ) = (rC x0 x1 x2 x14 x15 x16 x41 ED x43 b00 b01 b02 aJ) := by kernel_rfl
def abv (d : wP.T) (f : (List ak) → (List Int) → Int → (List ak) → Int → Int → (List ak) → Int → Int → Int → Int → Int → Int → Option aj) : Option aj := match d with | ((x0, (x1, (x2, (_, (_, (_, (_, (_, (_, (_, (_, (_, (_, (_, (x14, (x15, (x16, (_, (_, (_, (_, (_, (_, (_, (_, (_, (_, (_, (_, (_, (_, (_, (_, (_, (_, (_, (_, (_, (_, (_, (_, (x41, (ED, (x43, _)))))))))))))))))))))))))))))))))))))))))))), ((b00, (b01, (b02, (aJ, _)))), _), _) => f x0 x1 x2 x14 x15 x16 x41 ED x43 b00 b01 b02 aJ
noncomputable def mP (x0 : List ak) (x1 : List Int) (x2 : Int) (x14 : List ak) (x15 : Int) (x16 : Int) (x41 : List ak) (ED : Int) (x43 : Int) (b00 : Int) (b01 : Int) (b02 : Int) (aJ : Int) (lC : (List ak) → (List Int) → Int → (List ak) → Int → Int → (List ak) → Int → Int → Int → Int → Int → Int → Option aj) (k0 : (List ak) → (List Int) → Int → Bool → (List ak) → Int → Int → Option aj) (k1 : (List ak) → (List Int) → Int → (List ak) → Int → Int → Option aj) : Option aj := (bif (decide (x43 < ED)) then (bif ((decide ((0 : Int) ≤ x43)) && (decide (x43 < (((List.length x41) : Nat) : Int)))) then (bif ((List.getD x41 (Int.toNat x43) (aH.dflt)).2.2.1 != b02) then (bif (decide ((if b00 > (List.getD x41 (Int.toNat x43) (aH.dflt)).1 then b00 else (List.getD x41 (Int.toNat x43) (aH.dflt)).1) < (if b01 < (List.getD x41 (Int.toNat x43) (aH.dflt)).2.1 then b01 else (List.getD x41 (Int.toNat x43) (aH.dflt)).2.1))) then (k0 x0 x1 x2 false x14 x15 x16) else (lC x0 x1 x2 x14 x15 x16 x41 ED (IntKind.wrap .i64 (x43 + (1 : Int))) b00 b01 b02 aJ)) else (lC x0 x1 x2 x14 x15 x16 x41 ED (IntKind.wrap .i64 (x43 + (1 : Int))) b00 b01 b02 aJ)) else none) else (k1 x0 x1 x2 x14 x15 x16))
noncomputable def rD : Nat → (List ak) → (List Int) → Int → (List ak) → Int → Int → (List ak) → Int → Int → Int → Int → Int → Int → ((List ak) → (List Int) → Int → Bool → (List ak) → Int → Int → Option aj) → ((List ak) → (List Int) → Int → (List ak) → Int → Int → Option aj) → Option aj
 | 0, _, _, _, _, _, _, _, _, _, _, _, _, _, _, _ => none
 | m + 1, x0, x1, x2, x14, x15, x16, x41, ED, x43, b00, b01, b02, aJ, k0, k1 => mP x0 x1 x2 x14 x15 x16 x41 ED x43 b00 b01 b02 aJ (fun x0 x1 x2 x14 x15 x16 x41 ED x43 b00 b01 b02 aJ => (rD m x0 x1 x2 x14 x15 x16 x41 ED x43 b00 b01 b02 aJ k0 k1)) k0 k1
noncomputable def Fe (x0 : List ak) (x1 : List Int) (x2 : Int) (x14 : List ak) (x15 : Int) (x16 : Int) (x41 : List ak) (ED : Int) (x43 : Int) (b00 : Int) (b01 : Int) (b02 : Int) (aJ : Int) (k0 : (List ak) → (List Int) → Int → Bool → (List ak) → Int → Int → Option aj) (k1 : (List ak) → (List Int) → Int → (List ak) → Int → Int → Option aj) : Option aj := rD (List.length x0 + List.length x1 + x2.toNat + List.length x14 + x15.toNat + x16.toNat + List.length x41 + ED.toNat + x43.toNat + b00.toNat + b01.toNat + b02.toNat + aJ.toNat + 2) x0 x1 x2 x14 x15 x16 x41 ED x43 b00 b01 b02 aJ k0 k1
noncomputable def Eb : dV := (fun (σ : St) (K : Ex → St → Option aj) => (match wP.un σ with | some d => abv d (fun x0 x1 x2 x14 x15 x16 x41 ED x43 b00 b01 b02 aJ => Fe x0 x1 x2 x14 x15 x16 x41 ED x43 b00 b01 b02 aJ (fun x0 x1 x2 x6 x14 x15 x16 => (K .ret (zh x0 x1 x2 x6 x14 x15 x16))) (fun x0 x1 x2 x14 x15 x16 => (K (.ext 2) (zi x0 x1 x2 x14 x15 x16)))) | none => none))
def zk (x6 : Bool) : St := { tm := ([.x, .x, .x, .x, .x, .x, (.s (.bool x6))] ++ List.replicate 60 .x), ob := [], nx := 0, io := [] }
def zl : St := { tm := ([] ++ List.replicate 67 .x), ob := [], nx := 0, io := [] }
def wQ : Ss := { tm := (.cons (.l .no aH) (.cons (.l .no ah) (.cons (.int .i64) (.cons (.x) (.cons (.x) (.cons (.x) (.cons (.x) (.cons (.x) (.cons (.x) (.cons (.x) (.cons (.x) (.cons (.x) (.cons (.x) (.cons (.x) (.cons (.l .no aH) (.cons (.int .i64) (.cons (.int .i64) (Fj 50)))))))))))))))))), ob := .nil, nx := 0, io := .nil }
def abw (x0 : List ak) (x1 : List Int) (x2 : Int) (x14 : List ak) (x15 : Int) (x16 : Int) : wQ.T := ((x0, (x1, (x2, ((), ((), ((), ((), ((), ((), ((), ((), ((), ((), ((), (x14, (x15, (x16, xd 50))))))))))))))))), (), ())
def rE (x0 : List ak) (x1 : List Int) (x2 : Int) (x14 : List ak) (x15 : Int) (x16 : Int) : St := { tm := ([(.l .no aH x0), (.l .no ah x1), (.s (.int .i64 x2)), .x, .x, .x, .x, .x, .x, .x, .x, .x, .x, .x, (.l .no aH x14), (.s (.int .i64 x15)), (.s (.int .i64 x16))] ++ List.replicate 50 .x), ob := [], nx := 0, io := [] }
theorem Zl (x0 : List ak) (x1 : List Int) (x2 : Int) (x14 : List ak) (x15 : Int) (x16 : Int) : wQ.mk' (abw x0 x1 x2 x14 x15 x16) = (rE x0 x1 x2 x14 x15 x16) := by kernel_rfl
def abx (d : wQ.T) (f : (List ak) → (List Int) → Int → (List ak) → Int → Int → Option aj) : Option aj := match d with | ((x0, (x1, (x2, (_, (_, (_, (_, (_, (_, (_, (_, (_, (_, (_, (x14, (x15, (x16, _))))))))))))))))), _, _) => f x0 x1 x2 x14 x15 x16
noncomputable def mQ (x0 : List ak) (x1 : List Int) (x2 : Int) (x14 : List ak) (x15 : Int) (x16 : Int) (lC : (List ak) → (List Int) → Int → (List ak) → Int → Int → Option aj) (k0 : Bool → Option aj) (k1 : Option aj) : Option aj := (bif (decide (x16 < x15)) then (bif ((decide ((0 : Int) ≤ x16)) && (decide (x16 < (((List.length x14) : Nat) : Int)))) then (bif (!(decide ((List.getD x14 (Int.toNat x16) (aH.dflt)).2.2.2 > x2))) then (k0 false) else (bif (aO x1) then (bif (!(bY x1 (List.getD x14 (Int.toNat x16) (aH.dflt)).1)) then (k0 false) else (bif (aO x1) then (bif (!(bY x1 (List.getD x14 (Int.toNat x16) (aH.dflt)).2.1)) then (k0 false) else (bif ((decide ((0 : Int) ≤ x16)) && (decide (x16 ≤ (((List.length x0) : Nat) : Int)))) then (Fe x0 x1 x2 x14 x15 x16 (List.take (Int.toNat x16) x0) (((List.length (List.take (Int.toNat x16) x0)) : Nat) : Int) (0 : Int) (List.getD x14 (Int.toNat x16) (aH.dflt)).1 (List.getD x14 (Int.toNat x16) (aH.dflt)).2.1 (List.getD x14 (Int.toNat x16) (aH.dflt)).2.2.1 (List.getD x14 (Int.toNat x16) (aH.dflt)).2.2.2 (fun y0 y1 y2 y3 y4 y5 y6 => (k0 y3)) (fun y7 y8 y9 y10 y11 y12 => (lC y7 y8 y9 y10 y11 (IntKind.wrap .i64 (y12 + (1 : Int)))))) else none)) else none)) else none)) else none) else k1)
noncomputable def rF : Nat → (List ak) → (List Int) → Int → (List ak) → Int → Int → (Bool → Option aj) → (Option aj) → Option aj
 | 0, _, _, _, _, _, _, _, _ => none
 | m + 1, x0, x1, x2, x14, x15, x16, k0, k1 => mQ x0 x1 x2 x14 x15 x16 (fun x0 x1 x2 x14 x15 x16 => (rF m x0 x1 x2 x14 x15 x16 k0 k1)) k0 k1
noncomputable def Fg (x0 : List ak) (x1 : List Int) (x2 : Int) (x14 : List ak) (x15 : Int) (x16 : Int) (k0 : Bool → Option aj) (k1 : Option aj) : Option aj := rF (List.length x0 + List.length x1 + x2.toNat + List.length x14 + x15.toNat + x16.toNat + 2) x0 x1 x2 x14 x15 x16 k0 k1
noncomputable def Ec : dV := (fun (σ : St) (K : Ex → St → Option aj) => (match wQ.un σ with | some d => abx d (fun x0 x1 x2 x14 x15 x16 => Fg x0 x1 x2 x14 x15 x16 (fun x6 => (K .ret (zk x6))) (K (.ext 0) zl)) | none => none))
noncomputable abbrev XA : List (Nat × Bool × Sm) := [(N.pG, true, Tt), (N.nY, true, IK), (N.Jl, true, LG)]
noncomputable abbrev EK : Env := En XA [] [(9, [0,1,2,8,14,15,16,41,42,43], [0,1,2,6,14,15,16], Eb), (4, [0,1,2,14,15,16], [6], Ec)] [] false 0 []
noncomputable abbrev yg := rounds (run EK (aS F.nX 9)) [0,1,2,8,14,15,16,41,42,43] [0,1,2,6,14,15,16]
theorem Zm (m : Nat) (x0 : List ak) (x1 : List Int) (x2 : Int) (x14 : List ak) (x15 : Int) (x16 : Int) (x41 : List ak) (ED : Int) (x43 : Int) (b00 : Int) (b01 : Int) (b02 : Int) (aJ : Int) (K : Ex → St → Option aj) : yg (m + 1) (rC x0 x1 x2 x14 x15 x16 x41 ED x43 b00 b01 b02 aJ) K = mP x0 x1 x2 x14 x15 x16 x41 ED x43 b00 b01 b02 aJ (fun x0 x1 x2 x14 x15 x16 x41 ED x43 b00 b01 b02 aJ => (yg m (rC x0 x1 x2 x14 x15 x16 x41 ED x43 b00 b01 b02 aJ) K)) (fun x0 x1 x2 x6 x14 x15 x16 => (K .ret (zh x0 x1 x2 x6 x14 x15 x16))) (fun x0 x1 x2 x14 x15 x16 => (K (.ext 2) (zi x0 x1 x2 x14 x15 x16))) := by kernel_rfl
theorem Tv (K : Ex → St → Option aj) : ∀ m : Nat, (∀ (x0 : List ak) (x1 : List Int) (x2 : Int) (x14 : List ak) (x15 : Int) (x16 : Int) (x41 : List ak) (ED : Int) (x43 : Int) (b00 : Int) (b01 : Int) (b02 : Int) (aJ : Int), yg m (rC x0 x1 x2 x14 x15 x16 x41 ED x43 b00 b01 b02 aJ) K = rD m x0 x1 x2 x14 x15 x16 x41 ED x43 b00 b01 b02 aJ (fun x0 x1 x2 x6 x14 x15 x16 => (K .ret (zh x0 x1 x2 x6 x14 x15 x16))) (fun x0 x1 x2 x14 x15 x16 => (K (.ext 2) (zi x0 x1 x2 x14 x15 x16))))
 | 0 => (fun _ _ _ _ _ _ _ _ _ _ _ _ _ => rfl)
 | m + 1 => (fun x0 x1 x2 x14 x15 x16 x41 ED x43 b00 b01 b02 aJ => (by rw [Zm, show (fun x0 x1 x2 x14 x15 x16 x41 ED x43 b00 b01 b02 aJ => (yg m (rC x0 x1 x2 x14 x15 x16 x41 ED x43 b00 b01 b02 aJ) K)) = (fun x0 x1 x2 x14 x15 x16 x41 ED x43 b00 b01 b02 aJ => (rD m x0 x1 x2 x14 x15 x16 x41 ED x43 b00 b01 b02 aJ (fun x0 x1 x2 x6 x14 x15 x16 => (K .ret (zh x0 x1 x2 x6 x14 x15 x16))) (fun x0 x1 x2 x14 x15 x16 => (K (.ext 2) (zi x0 x1 x2 x14 x15 x16))))) from funext fun x0 => funext fun x1 => funext fun x2 => funext fun x14 => funext fun x15 => funext fun x16 => funext fun x41 => funext fun ED => funext fun x43 => funext fun b00 => funext fun b01 => funext fun b02 => funext fun aJ => (Tv K m) x0 x1 x2 x14 x15 x16 x41 ED x43 b00 b01 b02 aJ]; rfl))
theorem XB : dJ EK (aS F.nX 9) := by
 refine dh (n := 9) (F := Eb) (by kernel_rfl) rfl (li := [0,1,2,8,14,15,16,41,42,43]) (lo := [0,1,2,6,14,15,16]) rfl (fun σ K r hr => ?_)
 unfold Eb at hr
 split at hr
 ·rename_i d hd
  rw [Ss.dY hd]
  exact ⟨_, ((congrArg (fun z => yg _ z K) (Zk _ _ _ _ _ _ _ _ _ _ _ _ _)).trans ((Tv K _) _ _ _ _ _ _ _ _ _ _ _ _ _)).trans hr⟩
 ·cases hr
noncomputable abbrev yh := rounds (run EK (aS F.nX 4)) [0,1,2,14,15,16] [6]
theorem Zn (m : Nat) (x0 : List ak) (x1 : List Int) (x2 : Int) (x14 : List ak) (x15 : Int) (x16 : Int) (K : Ex → St → Option aj) : yh (m + 1) (rE x0 x1 x2 x14 x15 x16) K = mQ x0 x1 x2 x14 x15 x16 (fun x0 x1 x2 x14 x15 x16 => (yh m (rE x0 x1 x2 x14 x15 x16) K)) (fun x6 => (K .ret (zk x6))) (K (.ext 0) zl) := by kernel_rfl
theorem Tz (K : Ex → St → Option aj) : ∀ m : Nat, (∀ (x0 : List ak) (x1 : List Int) (x2 : Int) (x14 : List ak) (x15 : Int) (x16 : Int), yh m (rE x0 x1 x2 x14 x15 x16) K = rF m x0 x1 x2 x14 x15 x16 (fun x6 => (K .ret (zk x6))) (K (.ext 0) zl))
 | 0 => (fun _ _ _ _ _ _ => rfl)
 | m + 1 => (fun x0 x1 x2 x14 x15 x16 => (by rw [Zn, show (fun x0 x1 x2 x14 x15 x16 => (yh m (rE x0 x1 x2 x14 x15 x16) K)) = (fun x0 x1 x2 x14 x15 x16 => (rF m x0 x1 x2 x14 x15 x16 (fun x6 => (K .ret (zk x6))) (K (.ext 0) zl))) from funext fun x0 => funext fun x1 => funext fun x2 => funext fun x14 => funext fun x15 => funext fun x16 => (Tz K m) x0 x1 x2 x14 x15 x16]; rfl))
theorem XC : dJ EK (aS F.nX 4) := by
 refine dh (n := 4) (F := Ec) (by kernel_rfl) rfl (li := [0,1,2,14,15,16]) (lo := [6]) rfl (fun σ K r hr => ?_)
 unfold Ec at hr
 split at hr
 ·rename_i d hd
  rw [Ss.dY hd]
  exact ⟨_, ((congrArg (fun z => yh _ z K) (Zl _ _ _ _ _ _)).trans ((Tz K _) _ _ _ _ _ _)).trans hr⟩
 ·cases hr
noncomputable def QF (l : List ak) (t : List Int) (c : Int) (K : aj → Option aj) : Option aj := (bif (Nat.ble (List.length l) 1048576) then (bif (!(oq l)) then K ((.s (.bool false)), []) else (Fg l t c l (((List.length l) : Nat) : Int) (0 : Int) (fun y13 => K ((.s (.bool y13)), [])) (K ((.s (.bool true)), [])))) else none)
theorem ak4 (l : List ak) (t : List Int) (c : Int) (K : aj → Option aj) : dL EK true F.nX [.l .no aH l, .l .no ah t, .s (.int .i64 c)] K = QF l t c K := by kernel_rfl
def aaw : Sm := bg [.l aH, .l ah, .i] (fun d => fF (.sl aH) d.1 && aO d.2.1) (fun d => (bl (aga d.2.1 d.2.2.1 d.1), []))
theorem ak5 (l : List ak) (t : List Int) (c : Int) (h : (fF (.sl aH) l && aO t) = true) (K : aj → Option aj) : QF l t c K = K (bl (aga t c l), []) := by
 obtain ⟨h1, h2⟩ := (Bool.and_eq_true _ _).mp h
 have hl := dN h1
 unfold QF aga
 rw [Nat.ble_eq_true_of_le hl]
 cases oq l
 ·rfl
 have q9 : ∀ (i : Nat) (hi : i ≤ l.length) (y : ak) (n : Int) (k0 : List ak → List Int → Int → Bool → List ak → Int → Int → Option aj) (k1 : List ak → List Int → Int → List ak → Int → Int → Option aj), Fe l t c l n ((i : Nat) : Int) (List.take i l) (((List.length (List.take i l)) : Nat) : Int) 0 y.1 y.2.1 y.2.2.1 y.2.2.2 k0 k1 =
   bif Ar i (fun k => !(((l.getD k fA).2.2.1 != y.2.2.1) && Jp (l.getD k fA) y)) then k1 l t c l n ((i : Nat) : Int) else k0 l t c false l n ((i : Nat) : Int) := by
  intro i hi y n k0 k1
  have hlen : (List.take i l).length = i := by rw [List.length_take]; omega
  rw [hlen]
  refine Eq.trans (Aq (R := fun m j => rD m l t c l n ((i : Nat) : Int) (List.take i l) ((i : Nat) : Int) j y.1 y.2.1 y.2.2.1 y.2.2.2 k0 k1) (p := fun k => !(((l.getD k fA).2.2.1 != y.2.2.1) && Jp (l.getD k fA) y)) (n := i) (kt := k1 l t c l n ((i : Nat) : Int)) (kf := k0 l t c false l n ((i : Nat) : Int)) (fun m j hj => by
   show mP l t c l n ((i : Nat) : Int) (List.take i l) ((i : Nat) : Int) ((j : Nat) : Int) y.1 y.2.1 y.2.2.1 y.2.2.2 _ _ _ = _
   unfold mP Jp
   have eg : (List.take i l).getD j aH.dflt = l.getD j fA := by
    rw [getD_lt _ (by omega), getD_lt _ (by omega), List.getElem_take]
   rw [hlen, decide_eq_true (show ((j : Nat) : Int) < ((i : Nat) : Int) by omega), decide_eq_true (show (0 : Int) ≤ ((j : Nat) : Int) by omega), Int.toNat_natCast, bW (by omega), eg]
   generalize l.getD j fA = o
   rw [show (if y.1 > o.1 then y.1 else o.1) = max o.1 y.1 by split <;> omega, show (if y.2.1 < o.2.1 then y.2.1 else o.2.1) = min o.2.1 y.2.1 by split <;> omega]
   cases (o.2.2.1 != y.2.2.1) <;> cases decide (max o.1 y.1 < min o.2.1 y.2.1) <;> rfl) (fun m => by
   show mP l t c l n ((i : Nat) : Int) (List.take i l) ((i : Nat) : Int) ((i : Nat) : Int) y.1 y.2.1 y.2.2.1 y.2.2.2 _ _ _ = _
   unfold mP
   rw [decide_eq_false (show ¬ ((i : Nat) : Int) < ((i : Nat) : Int) by omega)]; rfl) _ 0 (by omega) (by omega)) ?_
  rw [Nat.sub_zero]; rfl
 have q4 : ∀ (k0 : Bool → Option aj) (k1 : Option aj), Fg l t c l ((l.length : Nat) : Int) 0 k0 k1 = bif Ar l.length (FM t c l) then k1 else k0 false := by
  intro k0 k1
  refine Eq.trans (Aq (R := fun m i => rF m l t c l ((l.length : Nat) : Int) i k0 k1) (p := FM t c l) (n := l.length) (kt := k1) (kf := k0 false) (fun m i hi => by
   show mQ l t c l _ ((i : Nat) : Int) _ _ _ = _
   unfold mQ FM
   rw [decide_eq_true (show ((i : Nat) : Int) < ((l.length : Nat) : Int) by omega), decide_eq_true (show (0 : Int) ≤ ((i : Nat) : Int) by omega), Int.toNat_natCast, show l.getD i aH.dflt = l.getD i fA from rfl, h2, decide_eq_true (show ((i : Nat) : Int) ≤ ((l.length : Nat) : Int) by omega), q9 i (by omega), bW (by omega)]
   cases decide ((l.getD i fA).2.2.2 > c)
   ·rfl
   cases bY t (l.getD i fA).1
   ·rfl
   cases bY t (l.getD i fA).2.1
   ·rfl
   cases Ar i (fun k => !(((l.getD k fA).2.2.1 != (l.getD i fA).2.2.1) && Jp (l.getD k fA) (l.getD i fA))) <;> rfl) (fun m => by
   show mQ l t c l _ ((l.length : Nat) : Int) _ _ _ = _
   unfold mQ
   rw [decide_eq_false (show ¬ ((l.length : Nat) : Int) < ((l.length : Nat) : Int) by omega)]; rfl) _ 0 (by omega) (by omega)) ?_
  rw [Nat.sub_zero]; rfl
 rw [cond_true, Bool.not_true, cond_false, q4]
 cases Ar l.length (FM t c l) <;> rfl
theorem aft : aV prog I N.nX true aaw := kD (aW (aY abt (aY QE (aY JB bn))) (l := XA) (p := []) (ls := [(9, [0,1,2,8,14,15,16,41,42,43], [0,1,2,6,14,15,16], Eb), (4, [0,1,2,14,15,16], [6], Ec)]) (lend := []) (focus := false) (fuel := 0) (give := []) (fn := F.nX) (by kernel_rfl) (by kernel_rfl) (by kernel_rfl) (by kernel_rfl) (cs := [aS F.nX 4, aS F.nX 9]) (by kernel_rfl) (dA XC (dA XB aK))) (aI fun d K h => (ak4 d.1 d.2.1 d.2.2.1 K).trans (ak5 d.1 d.2.1 d.2.2.1 h K))
end Go.Ev.Seat
end
section
namespace Go.Ev.Seat
open Go.RowKit
set_option maxRecDepth 100000
set_option linter.unusedVariables false
set_option linter.unusedSimpArgs false
noncomputable abbrev ad7 : List (Nat × Bool × Sm) := [(N.Ae, true, Dq), (N.Af, true, Qq), (N.KN, true, aat), (N.mV, true, Qz), (N.nX, true, aaw)]
noncomputable abbrev ao8 : Env := En ad7 [] [] [] false 0 []
noncomputable def Zo (d : bT) (K : aj → Option aj) : Option aj := (bif (aO d.1) then (bif (aT d.1) then (bif (cZ bH d) then (bif (xG d.1 d.2.1 d.2.2.1) then (bif (JU d.2.2.2.1) then (bif ((fF (Cc.sl aC) d.2.2.2.2.1) && (aO d.2.1)) then (bif (uH d.2.1 d.2.2.2.2.1) then (bif ((fF (Cc.sl aH) d.2.2.2.2.2) && (aO d.2.1)) then K ((.s (.bool (aga d.2.1 d.2.2.2.1 d.2.2.2.2.2))), []) else none) else K ((.s (.bool false)), [])) else none) else K ((.s (.bool false)), [])) else K ((.s (.bool false)), [])) else none) else K ((.s (.bool false)), [])) else none)
theorem ao9 (d : bT) (K : aj → Option aj) : dL ao8 true F.Vs [.a (bH.cells .no d)] K = Zo d K := by kernel_rfl
def agk : Sm := bg [.a bH] (fun d => cZ bH d.1) (fun d => (bl (jk d.1), []))
theorem apa (d : bT) (h : (cZ bH d) = true) (K : aj → Option aj) : Zo d K = K (bl (jk d), []) := by
 obtain ⟨h1, h2, h3, h4, h5⟩ := wu h
 unfold Zo jk
 rw [h, h1, h2, h4, h5]
 cases aT d.1 <;> cases xG d.1 d.2.1 d.2.2.1 <;> cases JU d.2.2.2.1 <;> cases uH d.2.1 d.2.2.2.2.1 <;> rfl
theorem ak6 : aV prog I N.Vs true agk := kD (aW (aY BH (aY Y6 (aY afl (aY Zh (aY aft bn))))) (l := ad7) (p := []) (ls := []) (lend := []) (focus := false) (fuel := 0) (give := []) (fn := F.Vs) (by kernel_rfl) (by kernel_rfl) (by kernel_rfl) (by kernel_rfl) (cs := []) (by kernel_rfl) aK) (aI fun d K h => (ao9 d.1 K).trans (apa d.1 h K))
end Go.Ev.Seat
end
section
namespace Go.Ev.Seat
open Go.RowKit
set_option maxRecDepth 100000
set_option linter.unusedVariables false
set_option linter.unusedSimpArgs false
noncomputable abbrev ad8 : List (Nat × Bool × Sm) := [(N.Ae, true, Dq)]
noncomputable abbrev apb : Env := En ad8 [] [] [] false 0 []
noncomputable def Zp (t : List Int) (K : aj → Option aj) : Option aj := (bif (decide ((((List.length t) : Nat) : Int) ≤ (100 : Int))) then (bif (aO t) then K ((.s (.bool (aT t))), []) else none) else K ((.s (.bool false)), []))
theorem apc (t : List Int) (K : aj → Option aj) : dL apb true F.Vx [.l .no ah t] K = Zp t K := by kernel_rfl
def agl : Sm := bg [.l ah] (fun d => aO d.1) (fun d => (bl (decide (((d.1.length : Nat) : Int) ≤ 100) && aT d.1), []))
theorem apd (t : List Int) (h : (aO t) = true) (K : aj → Option aj) : Zp t K = K (bl (decide (((t.length : Nat) : Int) ≤ 100) && aT t), []) := by
 unfold Zp
 rw [h]
 cases decide (((t.length : Nat) : Int) ≤ 100) <;> rfl
theorem ak7 : aV prog I N.Vx true agl := kD (aW (aY BH bn) (l := ad8) (p := []) (ls := []) (lend := []) (focus := false) (fuel := 0) (give := []) (fn := F.Vx) (by kernel_rfl) (by kernel_rfl) (by kernel_rfl) (by kernel_rfl) (cs := []) (by kernel_rfl) aK) (aI fun d K h => (apc d.1 K).trans (apd d.1 h K))
end Go.Ev.Seat
end
section
namespace Go.Ev.Seat
open Go.RowKit
set_option maxRecDepth 100000
set_option linter.unusedVariables false
set_option linter.unusedSimpArgs false
noncomputable abbrev aax : List (Nat × Bool × Sm) := [(N.i_in, true, Dt)]
noncomputable abbrev amF : Env := En aax [] [] [] false 0 []
noncomputable def ad9 (n : Int) (K : aj → Option aj) : Option aj := K ((.s (.bool ((decide ((0 : Int) ≤ n)) && (decide (n ≤ (65535 : Int)))))), [])
theorem amG (n : Int) (K : aj → Option aj) : dL amF true F.OD [.s (.int .i64 n)] K = ad9 n K := by kernel_rfl
def aea : Sm := bg [.i] (fun d => true) (fun d => (bl (aG d.1), []))
theorem amH (n : Int) (K : aj → Option aj) : ad9 n K = K (bl (aG n), []) := rfl
theorem ais : aV prog I N.OD true aea := kD (aW (aY qR bn) (l := aax) (p := []) (ls := []) (lend := []) (focus := false) (fuel := 0) (give := []) (fn := F.OD) (by kernel_rfl) (by kernel_rfl) (by kernel_rfl) (by kernel_rfl) (cs := []) (by kernel_rfl) aK) (aI fun d K h => (amG d.1 K).trans (amH d.1 K))
end Go.Ev.Seat
end
section
namespace Go.Ev.Seat
open Go.RowKit
set_option maxRecDepth 100000
set_option linter.unusedVariables false
set_option linter.unusedSimpArgs false
noncomputable abbrev aby : Env := En [] [] [] [] false 0 []
noncomputable def Fh (k : Int) (K : aj → Option aj) : Option aj := (bif (k == (3 : Int)) then (bif (k == (3 : Int)) then K ((.s (.int .i64 (1 : Int))), []) else (bif (k == (4 : Int)) then (bif (k == (4 : Int)) then K ((.s (.int .i64 (2 : Int))), []) else (bif (k == (12 : Int)) then (bif (k == (12 : Int)) then K ((.s (.int .i64 (3 : Int))), []) else K ((.s (.int .i64 (0 : Int))), [])) else (bif (k == (13 : Int)) then K ((.s (.int .i64 (3 : Int))), []) else K ((.s (.int .i64 (0 : Int))), [])))) else (bif (k == (5 : Int)) then (bif (k == (5 : Int)) then K ((.s (.int .i64 (2 : Int))), []) else (bif (k == (12 : Int)) then (bif (k == (12 : Int)) then K ((.s (.int .i64 (3 : Int))), []) else K ((.s (.int .i64 (0 : Int))), [])) else (bif (k == (13 : Int)) then K ((.s (.int .i64 (3 : Int))), []) else K ((.s (.int .i64 (0 : Int))), [])))) else (bif (k == (6 : Int)) then (bif (k == (6 : Int)) then K ((.s (.int .i64 (2 : Int))), []) else (bif (k == (12 : Int)) then (bif (k == (12 : Int)) then K ((.s (.int .i64 (3 : Int))), []) else K ((.s (.int .i64 (0 : Int))), [])) else (bif (k == (13 : Int)) then K ((.s (.int .i64 (3 : Int))), []) else K ((.s (.int .i64 (0 : Int))), [])))) else (bif (k == (10 : Int)) then (bif (k == (10 : Int)) then K ((.s (.int .i64 (2 : Int))), []) else (bif (k == (12 : Int)) then (bif (k == (12 : Int)) then K ((.s (.int .i64 (3 : Int))), []) else K ((.s (.int .i64 (0 : Int))), [])) else (bif (k == (13 : Int)) then K ((.s (.int .i64 (3 : Int))), []) else K ((.s (.int .i64 (0 : Int))), [])))) else (bif (k == (11 : Int)) then (bif (k == (11 : Int)) then K ((.s (.int .i64 (2 : Int))), []) else (bif (k == (12 : Int)) then (bif (k == (12 : Int)) then K ((.s (.int .i64 (3 : Int))), []) else K ((.s (.int .i64 (0 : Int))), [])) else (bif (k == (13 : Int)) then K ((.s (.int .i64 (3 : Int))), []) else K ((.s (.int .i64 (0 : Int))), [])))) else (bif (k == (14 : Int)) then K ((.s (.int .i64 (2 : Int))), []) else (bif (k == (12 : Int)) then (bif (k == (12 : Int)) then K ((.s (.int .i64 (3 : Int))), []) else K ((.s (.int .i64 (0 : Int))), [])) else (bif (k == (13 : Int)) then K ((.s (.int .i64 (3 : Int))), []) else K ((.s (.int .i64 (0 : Int))), [])))))))))) else (bif (k == (7 : Int)) then (bif (k == (7 : Int)) then K ((.s (.int .i64 (1 : Int))), []) else (bif (k == (4 : Int)) then (bif (k == (4 : Int)) then K ((.s (.int .i64 (2 : Int))), []) else (bif (k == (12 : Int)) then (bif (k == (12 : Int)) then K ((.s (.int .i64 (3 : Int))), []) else K ((.s (.int .i64 (0 : Int))), [])) else (bif (k == (13 : Int)) then K ((.s (.int .i64 (3 : Int))), []) else K ((.s (.int .i64 (0 : Int))), [])))) else (bif (k == (5 : Int)) then (bif (k == (5 : Int)) then K ((.s (.int .i64 (2 : Int))), []) else (bif (k == (12 : Int)) then (bif (k == (12 : Int)) then K ((.s (.int .i64 (3 : Int))), []) else K ((.s (.int .i64 (0 : Int))), [])) else (bif (k == (13 : Int)) then K ((.s (.int .i64 (3 : Int))), []) else K ((.s (.int .i64 (0 : Int))), [])))) else (bif (k == (6 : Int)) then (bif (k == (6 : Int)) then K ((.s (.int .i64 (2 : Int))), []) else (bif (k == (12 : Int)) then (bif (k == (12 : Int)) then K ((.s (.int .i64 (3 : Int))), []) else K ((.s (.int .i64 (0 : Int))), [])) else (bif (k == (13 : Int)) then K ((.s (.int .i64 (3 : Int))), []) else K ((.s (.int .i64 (0 : Int))), [])))) else (bif (k == (10 : Int)) then (bif (k == (10 : Int)) then K ((.s (.int .i64 (2 : Int))), []) else (bif (k == (12 : Int)) then (bif (k == (12 : Int)) then K ((.s (.int .i64 (3 : Int))), []) else K ((.s (.int .i64 (0 : Int))), [])) else (bif (k == (13 : Int)) then K ((.s (.int .i64 (3 : Int))), []) else K ((.s (.int .i64 (0 : Int))), [])))) else (bif (k == (11 : Int)) then (bif (k == (11 : Int)) then K ((.s (.int .i64 (2 : Int))), []) else (bif (k == (12 : Int)) then (bif (k == (12 : Int)) then K ((.s (.int .i64 (3 : Int))), []) else K ((.s (.int .i64 (0 : Int))), [])) else (bif (k == (13 : Int)) then K ((.s (.int .i64 (3 : Int))), []) else K ((.s (.int .i64 (0 : Int))), [])))) else (bif (k == (14 : Int)) then K ((.s (.int .i64 (2 : Int))), []) else (bif (k == (12 : Int)) then (bif (k == (12 : Int)) then K ((.s (.int .i64 (3 : Int))), []) else K ((.s (.int .i64 (0 : Int))), [])) else (bif (k == (13 : Int)) then K ((.s (.int .i64 (3 : Int))), []) else K ((.s (.int .i64 (0 : Int))), [])))))))))) else (bif (k == (8 : Int)) then (bif (k == (8 : Int)) then K ((.s (.int .i64 (1 : Int))), []) else (bif (k == (4 : Int)) then (bif (k == (4 : Int)) then K ((.s (.int .i64 (2 : Int))), []) else (bif (k == (12 : Int)) then (bif (k == (12 : Int)) then K ((.s (.int .i64 (3 : Int))), []) else K ((.s (.int .i64 (0 : Int))), [])) else (bif (k == (13 : Int)) then K ((.s (.int .i64 (3 : Int))), []) else K ((.s (.int .i64 (0 : Int))), [])))) else (bif (k == (5 : Int)) then (bif (k == (5 : Int)) then K ((.s (.int .i64 (2 : Int))), []) else (bif (k == (12 : Int)) then (bif (k == (12 : Int)) then K ((.s (.int .i64 (3 : Int))), []) else K ((.s (.int .i64 (0 : Int))), [])) else (bif (k == (13 : Int)) then K ((.s (.int .i64 (3 : Int))), []) else K ((.s (.int .i64 (0 : Int))), [])))) else (bif (k == (6 : Int)) then (bif (k == (6 : Int)) then K ((.s (.int .i64 (2 : Int))), []) else (bif (k == (12 : Int)) then (bif (k == (12 : Int)) then K ((.s (.int .i64 (3 : Int))), []) else K ((.s (.int .i64 (0 : Int))), [])) else (bif (k == (13 : Int)) then K ((.s (.int .i64 (3 : Int))), []) else K ((.s (.int .i64 (0 : Int))), [])))) else (bif (k == (10 : Int)) then (bif (k == (10 : Int)) then K ((.s (.int .i64 (2 : Int))), []) else (bif (k == (12 : Int)) then (bif (k == (12 : Int)) then K ((.s (.int .i64 (3 : Int))), []) else K ((.s (.int .i64 (0 : Int))), [])) else (bif (k == (13 : Int)) then K ((.s (.int .i64 (3 : Int))), []) else K ((.s (.int .i64 (0 : Int))), [])))) else (bif (k == (11 : Int)) then (bif (k == (11 : Int)) then K ((.s (.int .i64 (2 : Int))), []) else (bif (k == (12 : Int)) then (bif (k == (12 : Int)) then K ((.s (.int .i64 (3 : Int))), []) else K ((.s (.int .i64 (0 : Int))), [])) else (bif (k == (13 : Int)) then K ((.s (.int .i64 (3 : Int))), []) else K ((.s (.int .i64 (0 : Int))), [])))) else (bif (k == (14 : Int)) then K ((.s (.int .i64 (2 : Int))), []) else (bif (k == (12 : Int)) then (bif (k == (12 : Int)) then K ((.s (.int .i64 (3 : Int))), []) else K ((.s (.int .i64 (0 : Int))), [])) else (bif (k == (13 : Int)) then K ((.s (.int .i64 (3 : Int))), []) else K ((.s (.int .i64 (0 : Int))), [])))))))))) else (bif (k == (9 : Int)) then K ((.s (.int .i64 (1 : Int))), []) else (bif (k == (4 : Int)) then (bif (k == (4 : Int)) then K ((.s (.int .i64 (2 : Int))), []) else (bif (k == (12 : Int)) then (bif (k == (12 : Int)) then K ((.s (.int .i64 (3 : Int))), []) else K ((.s (.int .i64 (0 : Int))), [])) else (bif (k == (13 : Int)) then K ((.s (.int .i64 (3 : Int))), []) else K ((.s (.int .i64 (0 : Int))), [])))) else (bif (k == (5 : Int)) then (bif (k == (5 : Int)) then K ((.s (.int .i64 (2 : Int))), []) else (bif (k == (12 : Int)) then (bif (k == (12 : Int)) then K ((.s (.int .i64 (3 : Int))), []) else K ((.s (.int .i64 (0 : Int))), [])) else (bif (k == (13 : Int)) then K ((.s (.int .i64 (3 : Int))), []) else K ((.s (.int .i64 (0 : Int))), [])))) else (bif (k == (6 : Int)) then (bif (k == (6 : Int)) then K ((.s (.int .i64 (2 : Int))), []) else (bif (k == (12 : Int)) then (bif (k == (12 : Int)) then K ((.s (.int .i64 (3 : Int))), []) else K ((.s (.int .i64 (0 : Int))), [])) else (bif (k == (13 : Int)) then K ((.s (.int .i64 (3 : Int))), []) else K ((.s (.int .i64 (0 : Int))), [])))) else (bif (k == (10 : Int)) then (bif (k == (10 : Int)) then K ((.s (.int .i64 (2 : Int))), []) else (bif (k == (12 : Int)) then (bif (k == (12 : Int)) then K ((.s (.int .i64 (3 : Int))), []) else K ((.s (.int .i64 (0 : Int))), [])) else (bif (k == (13 : Int)) then K ((.s (.int .i64 (3 : Int))), []) else K ((.s (.int .i64 (0 : Int))), [])))) else (bif (k == (11 : Int)) then (bif (k == (11 : Int)) then K ((.s (.int .i64 (2 : Int))), []) else (bif (k == (12 : Int)) then (bif (k == (12 : Int)) then K ((.s (.int .i64 (3 : Int))), []) else K ((.s (.int .i64 (0 : Int))), [])) else (bif (k == (13 : Int)) then K ((.s (.int .i64 (3 : Int))), []) else K ((.s (.int .i64 (0 : Int))), [])))) else (bif (k == (14 : Int)) then K ((.s (.int .i64 (2 : Int))), []) else (bif (k == (12 : Int)) then (bif (k == (12 : Int)) then K ((.s (.int .i64 (3 : Int))), []) else K ((.s (.int .i64 (0 : Int))), [])) else (bif (k == (13 : Int)) then K ((.s (.int .i64 (3 : Int))), []) else K ((.s (.int .i64 (0 : Int))), [])))))))))))))
theorem abz (k : Int) (K : aj → Option aj) : dL aby true F.xA [.s (.int .i64 k)] K = Fh k K := by kernel_rfl
def N9 : Sm := bg [.i] (fun d => true) (fun d => (.s (.int .i64 (Jo d.1)), []))
theorem abA (k : Int) (K : aj → Option aj) : Fh k K = K (.s (.int .i64 (Jo k)), []) := by
 unfold Fh
 by_cases h3 : k = 3
 ·subst h3; rfl
 by_cases h7 : k = 7
 ·subst h7; rfl
 by_cases h8 : k = 8
 ·subst h8; rfl
 by_cases h9 : k = 9
 ·subst h9; rfl
 by_cases h4 : k = 4
 ·subst h4; rfl
 by_cases h5 : k = 5
 ·subst h5; rfl
 by_cases h6 : k = 6
 ·subst h6; rfl
 by_cases h10 : k = 10
 ·subst h10; rfl
 by_cases h11 : k = 11
 ·subst h11; rfl
 by_cases h14 : k = 14
 ·subst h14; rfl
 by_cases h12 : k = 12
 ·subst h12; rfl
 by_cases h13 : k = 13
 ·subst h13; rfl
 have e : ∀ c, k ≠ c → (k == c) = false := fun c h => by simpa using h
 unfold Jo
 simp only [e _ h3, e _ h7, e _ h8, e _ h9, e _ h4, e _ h5, e _ h6, e _ h10, e _ h11, e _ h14, e _ h12, e _ h13, cond_false, Bool.or_false]
theorem XD : aV prog I N.xA true N9 := kD (aW bn (l := []) (p := []) (ls := []) (lend := []) (focus := false) (fuel := 0) (give := []) (fn := F.xA) (by kernel_rfl) (by kernel_rfl) (by kernel_rfl) (by kernel_rfl) (cs := []) (by kernel_rfl) aK) (aI fun d K h => (abz d.1 K).trans (abA d.1 K))
end Go.Ev.Seat
end
section
namespace Go.Ev.Seat
open Go.RowKit
set_option maxRecDepth 100000
set_option linter.unusedVariables false
set_option linter.unusedSimpArgs false
def Ed (x2 : Bool) (b00 : Int) (b01 : Int) (b02 : Int) (aJ : Int) (aN : Int) (aQ : List Int) : St := { tm := ([.x, (.pb 0 0), (.s (.bool x2))] ++ List.replicate 62 .x), ob := [(0, (.box [(.s (.int .i64 b00)), (.s (.int .i64 b01)), (.s (.int .i64 b02)), (.s (.int .i64 aJ)), (.s (.int .i64 aN)), (.l .no ah aQ)]))], nx := 1, io := [] }
def Ee (b00 : Int) (b01 : Int) (b02 : Int) (aJ : Int) (aN : Int) (aQ : List Int) : St := { tm := ([.x, (.pb 0 0)] ++ List.replicate 63 .x), ob := [(0, (.box [(.s (.int .i64 b00)), (.s (.int .i64 b01)), (.s (.int .i64 b02)), (.s (.int .i64 aJ)), (.s (.int .i64 aN)), (.l .no ah aQ)]))], nx := 1, io := [] }
def BQ : Ss := { tm := (.cons (.x) (.cons (.pb 0 0) (.cons (.x) (.cons (.x) (.cons (.x) (.cons (.x) (.cons (.x) (.cons (.x) (.cons (.x) (.cons (.x) (.cons (.x) (.cons (.x) (.cons (.x) (.cons (.x) (.cons (.x) (.cons (.x) (.cons (.x) (.cons (.x) (.cons (.x) (.cons (.x) (.cons (.x) (.cons (.x) (.cons (.x) (.cons (.x) (.cons (.x) (.cons (.x) (.cons (.x) (.cons (.w 1) (.cons (.int .i64) (.cons (.int .i64) (Fj 35))))))))))))))))))))))))))))))), ob := (.box (.cons (.int .i64) (.cons (.int .i64) (.cons (.int .i64) (.cons (.int .i64) (.cons (.int .i64) (.cons (.l .no ah) .nil)))))) (.arr true true Hu .nil)), nx := 2, io := .nil }
def afu (x28 : Int) (x29 : Int) (b00 : Int) (b01 : Int) (b02 : Int) (aJ : Int) (aN : Int) (aQ : List Int) (o1 : List Int) : BQ.T := (((), ((), ((), ((), ((), ((), ((), ((), ((), ((), ((), ((), ((), ((), ((), ((), ((), ((), ((), ((), ((), ((), ((), ((), ((), ((), ((), ((), (x28, (x29, xd 35)))))))))))))))))))))))))))))), ((b00, (b01, (b02, (aJ, (aN, (aQ, ())))))), (o1, ())), ())
def yj (x28 : Int) (x29 : Int) (b00 : Int) (b01 : Int) (b02 : Int) (aJ : Int) (aN : Int) (aQ : List Int) (o1 : List Int) : St := { tm := ([.x, (.pb 0 0), .x, .x, .x, .x, .x, .x, .x, .x, .x, .x, .x, .x, .x, .x, .x, .x, .x, .x, .x, .x, .x, .x, .x, .x, .x, (.w 1), (.s (.int .i64 x28)), (.s (.int .i64 x29))] ++ List.replicate 35 .x), ob := [(0, (.box [(.s (.int .i64 b00)), (.s (.int .i64 b01)), (.s (.int .i64 b02)), (.s (.int .i64 aJ)), (.s (.int .i64 aN)), (.l .no ah aQ)])), (1, (.arr true true Hu o1))], nx := 2, io := [] }
theorem aeb (x28 : Int) (x29 : Int) (b00 : Int) (b01 : Int) (b02 : Int) (aJ : Int) (aN : Int) (aQ : List Int) (o1 : List Int) : BQ.mk' (afu x28 x29 b00 b01 b02 aJ aN aQ o1) = (yj x28 x29 b00 b01 b02 aJ aN aQ o1) := by kernel_rfl
def afv (d : BQ.T) (f : Int → Int → Int → Int → Int → Int → Int → (List Int) → (List Int) → Option aj) : Option aj := match d with | ((_, (_, (_, (_, (_, (_, (_, (_, (_, (_, (_, (_, (_, (_, (_, (_, (_, (_, (_, (_, (_, (_, (_, (_, (_, (_, (_, (_, (x28, (x29, _)))))))))))))))))))))))))))))), ((b00, (b01, (b02, (aJ, (aN, (aQ, _)))))), (o1, _)), _) => f x28 x29 b00 b01 b02 aJ aN aQ o1
noncomputable def TA (x28 : Int) (x29 : Int) (b00 : Int) (b01 : Int) (b02 : Int) (aJ : Int) (aN : Int) (aQ : List Int) (o1 : List Int) (lC : Int → Int → Int → Int → Int → Int → Int → (List Int) → (List Int) → Option aj) (k0 : Bool → Int → Int → Int → Int → Int → (List Int) → Option aj) (k1 : Int → Int → Int → Int → Int → (List Int) → Option aj) : Option aj := (bif (decide (x29 < x28)) then (bif ((decide ((0 : Int) ≤ x29)) && (decide (x29 < (((List.length o1) : Nat) : Int)))) then (bif (!(aG (List.getD o1 (Int.toNat x29) (0 : Int)))) then (k0 false b00 b01 b02 aJ aN aQ) else (bif (decide (x29 ≥ (Jo b00))) then (bif ((List.getD o1 (Int.toNat x29) (0 : Int)) != (0 : Int)) then (k0 false b00 b01 b02 aJ aN aQ) else (lC x28 (IntKind.wrap .i64 (x29 + (1 : Int))) b00 b01 b02 aJ aN aQ o1)) else (lC x28 (IntKind.wrap .i64 (x29 + (1 : Int))) b00 b01 b02 aJ aN aQ o1))) else none) else (k1 b00 b01 b02 aJ aN aQ))
noncomputable def yt : Nat → Int → Int → Int → Int → Int → Int → Int → (List Int) → (List Int) → (Bool → Int → Int → Int → Int → Int → (List Int) → Option aj) → (Int → Int → Int → Int → Int → (List Int) → Option aj) → Option aj
 | 0, _, _, _, _, _, _, _, _, _, _, _ => none
 | m + 1, x28, x29, b00, b01, b02, aJ, aN, aQ, o1, k0, k1 => TA x28 x29 b00 b01 b02 aJ aN aQ o1 (fun x28 x29 b00 b01 b02 aJ aN aQ o1 => (yt m x28 x29 b00 b01 b02 aJ aN aQ o1 k0 k1)) k0 k1
noncomputable def Kw (x28 : Int) (x29 : Int) (b00 : Int) (b01 : Int) (b02 : Int) (aJ : Int) (aN : Int) (aQ : List Int) (o1 : List Int) (k0 : Bool → Int → Int → Int → Int → Int → (List Int) → Option aj) (k1 : Int → Int → Int → Int → Int → (List Int) → Option aj) : Option aj := yt (x28.toNat + x29.toNat + b00.toNat + b01.toNat + b02.toNat + aJ.toNat + aN.toNat + List.length aQ + List.length o1 + 2) x28 x29 b00 b01 b02 aJ aN aQ o1 k0 k1
noncomputable def JH : dV := (fun (σ : St) (K : Ex → St → Option aj) => (match BQ.un σ with | some d => afv d (fun x28 x29 b00 b01 b02 aJ aN aQ o1 => Kw x28 x29 b00 b01 b02 aJ aN aQ o1 (fun x2 b00 b01 b02 aJ aN aQ => (K .ret (Ed x2 b00 b01 b02 aJ aN aQ))) (fun b00 b01 b02 aJ aN aQ => (K (.ext 0) (Ee b00 b01 b02 aJ aN aQ)))) | none => none))
noncomputable abbrev aec : List (Nat × Bool × Sm) := [(N.i_in, true, Dt), (N.pF, true, xW), (N.Vx, true, agl), (N.OD, true, aea), (N.xA, true, N9)]
noncomputable abbrev Zq : Env := En aec [] [(4, [1,27,28,29], [1,2], JH)] [] false 0 []
noncomputable abbrev EL := rounds (run Zq (aS F.Jk 4)) [1,27,28,29] [1,2]
theorem aed (m : Nat) (x28 : Int) (x29 : Int) (b00 : Int) (b01 : Int) (b02 : Int) (aJ : Int) (aN : Int) (aQ : List Int) (o1 : List Int) (K : Ex → St → Option aj) : EL (m + 1) (yj x28 x29 b00 b01 b02 aJ aN aQ o1) K = TA x28 x29 b00 b01 b02 aJ aN aQ o1 (fun x28 x29 b00 b01 b02 aJ aN aQ o1 => (EL m (yj x28 x29 b00 b01 b02 aJ aN aQ o1) K)) (fun x2 b00 b01 b02 aJ aN aQ => (K .ret (Ed x2 b00 b01 b02 aJ aN aQ))) (fun b00 b01 b02 aJ aN aQ => (K (.ext 0) (Ee b00 b01 b02 aJ aN aQ))) := by kernel_rfl
theorem aay (K : Ex → St → Option aj) : ∀ m : Nat, (∀ (x28 : Int) (x29 : Int) (b00 : Int) (b01 : Int) (b02 : Int) (aJ : Int) (aN : Int) (aQ : List Int) (o1 : List Int), EL m (yj x28 x29 b00 b01 b02 aJ aN aQ o1) K = yt m x28 x29 b00 b01 b02 aJ aN aQ o1 (fun x2 b00 b01 b02 aJ aN aQ => (K .ret (Ed x2 b00 b01 b02 aJ aN aQ))) (fun b00 b01 b02 aJ aN aQ => (K (.ext 0) (Ee b00 b01 b02 aJ aN aQ))))
 | 0 => (fun _ _ _ _ _ _ _ _ _ => rfl)
 | m + 1 => (fun x28 x29 b00 b01 b02 aJ aN aQ o1 => (by rw [aed, show (fun x28 x29 b00 b01 b02 aJ aN aQ o1 => (EL m (yj x28 x29 b00 b01 b02 aJ aN aQ o1) K)) = (fun x28 x29 b00 b01 b02 aJ aN aQ o1 => (yt m x28 x29 b00 b01 b02 aJ aN aQ o1 (fun x2 b00 b01 b02 aJ aN aQ => (K .ret (Ed x2 b00 b01 b02 aJ aN aQ))) (fun b00 b01 b02 aJ aN aQ => (K (.ext 0) (Ee b00 b01 b02 aJ aN aQ))))) from funext fun x28 => funext fun x29 => funext fun b00 => funext fun b01 => funext fun b02 => funext fun aJ => funext fun aN => funext fun aQ => funext fun o1 => (aay K m) x28 x29 b00 b01 b02 aJ aN aQ o1]; rfl))
theorem abB : dJ Zq (aS F.Jk 4) := by
 refine dh (n := 4) (F := JH) (by kernel_rfl) rfl (li := [1,27,28,29]) (lo := [1,2]) rfl (fun σ K r hr => ?_)
 unfold JH at hr
 split at hr
 ·rename_i d hd
  rw [Ss.dY hd]
  exact ⟨_, ((congrArg (fun z => EL _ z K) (aeb _ _ _ _ _ _ _ _ _)).trans ((aay K _) _ _ _ _ _ _ _ _ _)).trans hr⟩
 ·cases hr
noncomputable def Zr (r : uD) (K : aj → Option aj) : Option aj := (bif (!((decide ((1 : Int) ≤ r.1)) && (decide (r.1 ≤ (16 : Int))))) then K ((.s (.bool false)), []) else (bif (!((decide ((1 : Int) ≤ r.2.1)) && (decide (r.2.1 ≤ (8 : Int))))) then K ((.s (.bool false)), []) else (bif (aO r.2.2.2.2.2) then (bif (!((decide ((((List.length r.2.2.2.2.2) : Nat) : Int) ≤ (100 : Int))) && (aT r.2.2.2.2.2))) then K ((.s (.bool false)), []) else (Kw (((List.length (r.2.2.1 :: (r.2.2.2.1 :: (r.2.2.2.2.1 :: ([] : List Int))))) : Nat) : Int) (0 : Int) r.1 r.2.1 r.2.2.1 r.2.2.2.1 r.2.2.2.2.1 r.2.2.2.2.2 (r.2.2.1 :: (r.2.2.2.1 :: (r.2.2.2.2.1 :: ([] : List Int)))) (fun y0 y1 y2 y3 y4 y5 y6 => K ((.s (.bool y0)), [])) (fun y7 y8 y9 y10 y11 y12 => (bif (y7 == (3 : Int)) then (bif (y7 == (3 : Int)) then K ((.s (.bool true)), []) else (bif (y7 == (7 : Int)) then (bif (y7 == (7 : Int)) then K ((.s (.bool (decide ((((List.length y12) : Nat) : Int) > (0 : Int))))), []) else K ((.s (.bool ((((List.length y12) : Nat) : Int) == (0 : Int)))), [])) else (bif (y7 == (8 : Int)) then K ((.s (.bool (decide ((((List.length y12) : Nat) : Int) > (0 : Int))))), []) else K ((.s (.bool ((((List.length y12) : Nat) : Int) == (0 : Int)))), [])))) else (bif (y7 == (5 : Int)) then K ((.s (.bool true)), []) else (bif (y7 == (7 : Int)) then (bif (y7 == (7 : Int)) then K ((.s (.bool (decide ((((List.length y12) : Nat) : Int) > (0 : Int))))), []) else K ((.s (.bool ((((List.length y12) : Nat) : Int) == (0 : Int)))), [])) else (bif (y7 == (8 : Int)) then K ((.s (.bool (decide ((((List.length y12) : Nat) : Int) > (0 : Int))))), []) else K ((.s (.bool ((((List.length y12) : Nat) : Int) == (0 : Int)))), [])))))))) else none)))
theorem ape (r : uD) (K : aj → Option aj) : dL Zq true F.Jk [.a (gV.cells .no r)] K = Zr r K := by kernel_rfl
def agm : Sm := bg [.a gV] (fun d => aO d.1.2.2.2.2.2) (fun d => (bl (dB d.1), []))
theorem apf (r : uD) (h : (aO r.2.2.2.2.2) = true) (K : aj → Option aj) : Zr r K = K (bl (dB r), []) := by
  obtain ⟨k, s, a, b, d, t⟩ := r
  unfold Zr dB
  simp only [h]
  cases hk : (decide (1 ≤ k) && decide (k ≤ 16)) with
  | false => rfl
  | true =>
  cases hs : (decide (1 ≤ s) && decide (s ≤ 8)) with
  | false => rfl
  | true =>
  cases hp : (decide (((t.length : Nat) : Int) ≤ 100) && aT t) with
  | false => rfl
  | true =>
  rw [Bool.and_eq_true, decide_eq_true_iff, decide_eq_true_iff] at hk
  have hk := kinds hk.1 hk.2
  unfold Kw
  generalize hF : (_ + 2 : Nat) = F
  obtain ⟨m, rfl⟩ : ∃ m, F = m + 4 := ⟨F - 4, by simp only [List.length_cons, List.length_nil] at hF; omega⟩
  have q : ∀ (k0 : Bool → Int → Int → Int → Int → Int → List Int → Option aj) (k1 : Int → Int → Int → Int → Int → List Int → Option aj), yt (m + 4) 3 0 k s a b d t [a, b, d] k0 k1 =
      (bif !aG a then k0 false k s a b d t else bif decide ((0 : Int) ≥ Jo k) then (bif a != 0 then k0 false k s a b d t else
       (bif !aG b then k0 false k s a b d t else bif decide ((1 : Int) ≥ Jo k) then (bif b != 0 then k0 false k s a b d t else
        (bif !aG d then k0 false k s a b d t else bif decide ((2 : Int) ≥ Jo k) then (bif d != 0 then k0 false k s a b d t else k1 k s a b d t) else k1 k s a b d t)) else
        (bif !aG d then k0 false k s a b d t else bif decide ((2 : Int) ≥ Jo k) then (bif d != 0 then k0 false k s a b d t else k1 k s a b d t) else k1 k s a b d t))) else
       (bif !aG b then k0 false k s a b d t else bif decide ((1 : Int) ≥ Jo k) then (bif b != 0 then k0 false k s a b d t else
        (bif !aG d then k0 false k s a b d t else bif decide ((2 : Int) ≥ Jo k) then (bif d != 0 then k0 false k s a b d t else k1 k s a b d t) else k1 k s a b d t)) else
        (bif !aG d then k0 false k s a b d t else bif decide ((2 : Int) ≥ Jo k) then (bif d != 0 then k0 false k s a b d t else k1 k s a b d t) else k1 k s a b d t))) := fun _ _ => rfl
  simp only [Bool.not_true, cond_true, cond_false]
  refine Eq.trans (q _ _) ?_
  have e0 : (((t.length : Nat) : Int) == 0) = !decide (((t.length : Nat) : Int) > 0) := by
    by_cases h0 : ((t.length : Nat) : Int) > 0
    · rw [decide_eq_true h0]; exact beq_false_of_ne (by omega)
    · rw [decide_eq_false h0]; exact beq_iff_eq.2 (by omega)
  simp only [bne, e0, avy]
  refine congrArg (fun q => K ((.s (.bool q)), [])) ?_
  unfold jG
  generalize decide (((t.length : Nat) : Int) > 0) = n
  generalize (a == 0) = x
  generalize (b == 0) = y
  generalize (d == 0) = z
  generalize aG a = u
  generalize aG b = v
  generalize aG d = w
  clear hF q e0 hs hp h
  rcases hk with rfl | rfl | rfl | rfl | rfl | rfl | rfl | rfl | rfl | rfl | rfl | rfl | rfl | rfl | rfl | rfl <;> cases u <;> first | rfl | (cases x <;> first | rfl | (cases v <;> first | rfl | (cases y <;> first | rfl | (cases w <;> first | rfl | (cases z <;> first | rfl | (cases n <;> rfl))))))
theorem ak8 : aV prog I N.Jk true agm := kD (aW (aY qR (aY yU (aY ak7 (aY ais (aY XD bn))))) (l := aec) (p := []) (ls := [(4, [1,27,28,29], [1,2], JH)]) (lend := []) (focus := false) (fuel := 0) (give := []) (fn := F.Jk) (by kernel_rfl) (by kernel_rfl) (by kernel_rfl) (by kernel_rfl) (cs := [aS F.Jk 4]) (by kernel_rfl) (dA abB aK)) (aI fun d K h => (ape d.1 K).trans (apf d.1 h K))
end Go.Ev.Seat
end
section
namespace Go.Ev.Seat
open Go.RowKit
set_option maxRecDepth 100000
set_option linter.unusedVariables false
set_option linter.unusedSimpArgs false
noncomputable abbrev afw : Env := En [] [] [] [] false 0 []
noncomputable def Ky (a : ay) (b : ay) (K : aj → Option aj) : Option aj := (bif (a.1 == b.1) then (bif (a.2.1 == b.2.1) then K ((.s (.bool ((ByteArray.toList (lW a.2.2)) == (ByteArray.toList (lW b.2.2))))), []) else K ((.s (.bool false)), [])) else K ((.s (.bool false)), []))
theorem afx (a : ay) (b : ay) (K : aj → Option aj) : dL afw true F.zK [.a (aB.cells .no a), .a (aB.cells .no b)] K = Ky a b K := by kernel_rfl
def Kz : Sm := bg [.a aB, .a aB] (fun d => aO d.1.2.2 && aO d.2.1.2.2) (fun d => (bl (iL d.1 d.2.1), []))
theorem afy (a : ay) (b : ay) (h : (aO a.2.2 && aO b.2.2) = true) (K : aj → Option aj) : Ky a b K = K (bl (iL a b), []) := by
 obtain ⟨h1, h2⟩ := (Bool.and_eq_true _ _).mp h
 unfold Ky
 rw [Sr, VH (fun x hx => mW h1 hx) (fun x hx => mW h2 hx)]
 cases (a.1 == b.1) <;> cases (a.2.1 == b.2.1) <;> rfl
theorem Oa : aV prog I N.zK true Kz := kD (aW bn (l := []) (p := []) (ls := []) (lend := []) (focus := false) (fuel := 0) (give := []) (fn := F.zK) (by kernel_rfl) (by kernel_rfl) (by kernel_rfl) (by kernel_rfl) (cs := []) (by kernel_rfl) aK) (aI fun d K h => (afx d.1 d.2.1 K).trans (afy d.1 d.2.1 h K))
end Go.Ev.Seat
end
section
namespace Go.Ev.Seat
open Go.RowKit
set_option maxRecDepth 100000
set_option linter.unusedVariables false
set_option linter.unusedSimpArgs false
noncomputable abbrev Ob : List (Nat × Bool × Sm) := [(N.zK, true, Kz)]
noncomputable abbrev aee : Env := En Ob [] [] [] false 0 []
noncomputable def IL (o : iP) (K : aj → Option aj) : Option aj := (bif (o.2.2.2.2.2.2.1 == (0 : Int)) then (bif (o.2.2.2.2.2.2.2.1 == (0 : Int)) then (bif (o.2.2.2.2.2.2.2.2.1 == (0 : Int)) then (bif (o.2.2.2.2.2.2.2.2.2.1 == (0 : Int)) then (bif ((aO o.2.2.2.2.2.2.2.2.2.2.2.2) && (aO ([] : List Int))) then K ((.s (.bool (iL o.2.2.2.2.2.2.2.2.2.2 ((0 : Int), ((0 : Int), ([] : List Int)))))), []) else none) else K ((.s (.bool false)), [])) else K ((.s (.bool false)), [])) else K ((.s (.bool false)), [])) else K ((.s (.bool false)), []))
theorem aef (o : iP) (K : aj → Option aj) : dL aee true F.Ag [.a (bf.cells .no o)] K = IL o K := by kernel_rfl
def QG : Sm := bg [.a bf] (fun d => aO (uV d.1).2.2) (fun d => (bl (Bo d.1), []))
theorem aeg (o : iP) (h : (aO (uV o).2.2) = true) (K : aj → Option aj) : IL o K = K (bl (Bo o), []) := by
 have h : aO o.2.2.2.2.2.2.2.2.2.2.2.2 = true := h
 unfold IL
 rw [h]
 show _ = K (bl ((o.2.2.2.2.2.2.1 == 0) && (o.2.2.2.2.2.2.2.1 == 0) && (o.2.2.2.2.2.2.2.2.1 == 0) && (o.2.2.2.2.2.2.2.2.2.1 == 0) && iL o.2.2.2.2.2.2.2.2.2.2 (0, 0, [])), [])
 cases (o.2.2.2.2.2.2.1 == (0 : Int))
 ·rfl
 cases (o.2.2.2.2.2.2.2.1 == (0 : Int))
 ·rfl
 cases (o.2.2.2.2.2.2.2.2.1 == (0 : Int))
 ·rfl
 cases (o.2.2.2.2.2.2.2.2.2.1 == (0 : Int))
 ·rfl
 rfl
theorem Zt : aV prog I N.Ag true QG := kD (aW (aY Oa bn) (l := Ob) (p := []) (ls := []) (lend := []) (focus := false) (fuel := 0) (give := []) (fn := F.Ag) (by kernel_rfl) (by kernel_rfl) (by kernel_rfl) (by kernel_rfl) (cs := []) (by kernel_rfl) aK) (aI fun d K h => (aef d.1 K).trans (aeg d.1 h K))
end Go.Ev.Seat
end
section
namespace Go.Ev.Seat
open Go.RowKit
set_option maxRecDepth 100000
set_option linter.unusedVariables false
set_option linter.unusedSimpArgs false
noncomputable abbrev TB : List (Nat × Bool × Sm) := [(N.i_in, true, Dt)]
noncomputable abbrev ait : Env := En TB [] [] [] false 0 []
noncomputable def XE (k : Int) (K : aj → Option aj) : Option aj := K ((.s (.bool ((decide ((3 : Int) ≤ k)) && (decide (k ≤ (5 : Int)))))), [])
theorem aiu (k : Int) (K : aj → Option aj) : dL ait true F.G9 [.s (.int .i64 k)] K = XE k K := by kernel_rfl
def XF : Sm := bg [.i] (fun d => true) (fun d => (bl (fG d.1), []))
theorem aiv (k : Int) (K : aj → Option aj) : XE k K = K (bl (fG k), []) := by
 rfl
theorem aeh : aV prog I N.G9 true XF := kD (aW (aY qR bn) (l := TB) (p := []) (ls := []) (lend := []) (focus := false) (fuel := 0) (give := []) (fn := F.G9) (by kernel_rfl) (by kernel_rfl) (by kernel_rfl) (by kernel_rfl) (cs := []) (by kernel_rfl) aK) (aI fun d K h => (aiu d.1 K).trans (aiv d.1 K))
end Go.Ev.Seat
end
section
namespace Go.Ev.Seat
open Go.RowKit
set_option maxRecDepth 100000
set_option linter.unusedVariables false
set_option linter.unusedSimpArgs false
noncomputable abbrev IQ : List (Nat × Bool × Sm) := [(N.i_in, true, Dt)]
noncomputable abbrev XG : Env := En IQ [] [] [] false 0 []
noncomputable def JI (d : bT) (v : Int) (K : aj → Option aj) : Option aj := K ((.s (.bool ((decide ((0 : Int) ≤ v)) && (decide (v ≤ (((List.length d.2.2.1) : Nat) : Int)))))), [])
theorem XH (d : bT) (v : Int) (K : aj → Option aj) : dL XG true F.qp [.a (bH.cells .no d), .s (.int .i64 v)] K = JI d v K := by kernel_rfl
def JJ : Sm := bg [.a bH, .i] (fun d => true) (fun d => (bl (decide (0 ≤ d.2.1) && decide (d.2.1 ≤ ((d.1.2.2.1.length : Nat) : Int))), []))
theorem XI (d : bT) (v : Int) (K : aj → Option aj) : JI d v K = K (bl (decide (0 ≤ v) && decide (v ≤ ((d.2.2.1.length : Nat) : Int))), []) := rfl
theorem RF : aV prog I N.qp true JJ := kD (aW (aY qR bn) (l := IQ) (p := []) (ls := []) (lend := []) (focus := false) (fuel := 0) (give := []) (fn := F.qp) (by kernel_rfl) (by kernel_rfl) (by kernel_rfl) (by kernel_rfl) (cs := []) (by kernel_rfl) aK) (aI fun d K h => (XH d.1 d.2.1 K).trans (XI d.1 d.2.1 K))
end Go.Ev.Seat
end
section
namespace Go.Ev.Seat
open Go.RowKit
set_option maxRecDepth 100000
set_option linter.unusedVariables false
set_option linter.unusedSimpArgs false
noncomputable abbrev JK : List (Nat × Bool × Sm) := [(N.cmp_Compare_int, true, BN)]
noncomputable abbrev Zu : Env := En JK [] [] [] false 0 []
noncomputable def LW (m : au) (s : Int) (K : aj → Option aj) : Option aj := K ((.s (.int .i64 (zY m.1 s))), [])
theorem Zv (m : au) (s : Int) (K : aj → Option aj) : dL Zu true F.lJ [.a (aC.cells .no m), .s (.int .i64 s)] K = LW m s K := by kernel_rfl
def LX : Sm := bg [.a aC, .i] (fun d => true) (fun d => (.s (.int .i64 (zY d.1.1 d.2.1)), []))
theorem Zw (m : au) (s : Int) (K : aj → Option aj) : LW m s K = K (.s (.int .i64 (zY m.1 s)), []) := rfl
theorem UR : aV prog I N.lJ true LX := kD (aW (aY Fp bn) (l := JK) (p := []) (ls := []) (lend := []) (focus := false) (fuel := 0) (give := []) (fn := F.lJ) (by kernel_rfl) (by kernel_rfl) (by kernel_rfl) (by kernel_rfl) (cs := []) (by kernel_rfl) aK) (aI fun d K h => (Zv d.1 d.2.1 K).trans (Zw d.1 d.2.1 K))
end Go.Ev.Seat
end
section
namespace Go.Ev.Seat
open Go.RowKit
set_option maxRecDepth 100000
set_option linter.unusedVariables false
set_option linter.unusedSimpArgs false
def dP (x0 : List au) (x1 : Int) (x8 : Int) (x9 : Int) : St := { tm := ([(.l .no aC x0), (.s (.int .i64 x1)), (.f 179 []), .x, .x, .x, .x, .x, (.s (.int .i64 x8)), (.s (.int .i64 x9))] ++ List.replicate 39 .x), ob := [], nx := 0, io := [] }
def dK : Ss := { tm := (.cons (.l .no aC) (.cons (.int .i64) (.cons (.f 179 .nil) (.cons (.x) (.cons (.x) (.cons (.x) (.cons (.x) (.cons (.x) (.cons (.int .i64) (.cons (.int .i64) (.cons (.int .i64) (Fj 38)))))))))))), ob := .nil, nx := 0, io := .nil }
def rU (x0 : List au) (x1 : Int) (x8 : Int) (x9 : Int) (x10 : Int) : dK.T := ((x0, (x1, ((), ((), ((), ((), ((), ((), (x8, (x9, (x10, xd 38))))))))))), (), ())
def dn (x0 : List au) (x1 : Int) (x8 : Int) (x9 : Int) (x10 : Int) : St := { tm := ([(.l .no aC x0), (.s (.int .i64 x1)), (.f 179 []), .x, .x, .x, .x, .x, (.s (.int .i64 x8)), (.s (.int .i64 x9)), (.s (.int .i64 x10))] ++ List.replicate 38 .x), ob := [], nx := 0, io := [] }
theorem rG (x0 : List au) (x1 : Int) (x8 : Int) (x9 : Int) (x10 : Int) : dK.mk' (rU x0 x1 x8 x9 x10) = (dn x0 x1 x8 x9 x10) := by kernel_rfl
def rV (d : dK.T) (f : (List au) → Int → Int → Int → Int → Option aj) : Option aj := match d with | ((x0, (x1, (_, (_, (_, (_, (_, (_, (x8, (x9, (x10, _))))))))))), _, _) => f x0 x1 x8 x9 x10
noncomputable def bK (x0 : List au) (x1 : Int) (x8 : Int) (x9 : Int) (x10 : Int) (lC : (List au) → Int → Int → Int → Int → Option aj) (k0 : (List au) → Int → Int → Int → Option aj) : Option aj := (bif (decide (x9 < x10)) then (bif ((decide ((0 : Int) ≤ (IntKind.wrap .i64 (MF .u64 (IntKind.wrap .u64 (IntKind.wrap .i64 (x9 + x10))) (1 : Int))))) && (decide ((IntKind.wrap .i64 (MF .u64 (IntKind.wrap .u64 (IntKind.wrap .i64 (x9 + x10))) (1 : Int))) < (((List.length x0) : Nat) : Int)))) then (bif (decide ((zY (List.getD x0 (Int.toNat (IntKind.wrap .i64 (MF .u64 (IntKind.wrap .u64 (IntKind.wrap .i64 (x9 + x10))) (1 : Int)))) (aC.dflt)).1 x1) < (0 : Int))) then (lC x0 x1 x8 (IntKind.wrap .i64 ((IntKind.wrap .i64 (MF .u64 (IntKind.wrap .u64 (IntKind.wrap .i64 (x9 + x10))) (1 : Int))) + (1 : Int))) x10) else (lC x0 x1 x8 x9 (IntKind.wrap .i64 (MF .u64 (IntKind.wrap .u64 (IntKind.wrap .i64 (x9 + x10))) (1 : Int))))) else none) else (k0 x0 x1 x8 x9))
noncomputable def bM : Nat → (List au) → Int → Int → Int → Int → ((List au) → Int → Int → Int → Option aj) → Option aj
 | 0, _, _, _, _, _, _ => none
 | m + 1, x0, x1, x8, x9, x10, k0 => bK x0 x1 x8 x9 x10 (fun x0 x1 x8 x9 x10 => (bM m x0 x1 x8 x9 x10 k0)) k0
noncomputable def fM (x0 : List au) (x1 : Int) (x8 : Int) (x9 : Int) (x10 : Int) (k0 : (List au) → Int → Int → Int → Option aj) : Option aj := bM (List.length x0 + x1.toNat + x8.toNat + x9.toNat + x10.toNat + 2) x0 x1 x8 x9 x10 k0
noncomputable def dW : dV := (fun (σ : St) (K : Ex → St → Option aj) => (match dK.un σ with | some d => rV d (fun x0 x1 x8 x9 x10 => fM x0 x1 x8 x9 x10 (fun x0 x1 x8 x9 => (K (.ext 0) (dP x0 x1 x8 x9)))) | none => none))
noncomputable abbrev kM : List (Nat × Bool × Sm) := [(N.lJ, true, LX)]
noncomputable abbrev iw : Env := En kM [] [(3, [0,1,2,8,9,10], [0,1,2,6,7,8,9], dW)] [] false 0 []
noncomputable abbrev dF := rounds (run iw (aS F.bI 3)) [0,1,2,8,9,10] [0,1,2,6,7,8,9]
theorem rH (m : Nat) (x0 : List au) (x1 : Int) (x8 : Int) (x9 : Int) (x10 : Int) (K : Ex → St → Option aj) : dF (m + 1) (dn x0 x1 x8 x9 x10) K = bK x0 x1 x8 x9 x10 (fun x0 x1 x8 x9 x10 => (dF m (dn x0 x1 x8 x9 x10) K)) (fun x0 x1 x8 x9 => (K (.ext 0) (dP x0 x1 x8 x9))) := by kernel_rfl
theorem kC (K : Ex → St → Option aj) : ∀ m : Nat, (∀ (x0 : List au) (x1 : Int) (x8 : Int) (x9 : Int) (x10 : Int), dF m (dn x0 x1 x8 x9 x10) K = bM m x0 x1 x8 x9 x10 (fun x0 x1 x8 x9 => (K (.ext 0) (dP x0 x1 x8 x9))))
 | 0 => (fun _ _ _ _ _ => rfl)
 | m + 1 => (fun x0 x1 x8 x9 x10 => (by rw [rH, show (fun x0 x1 x8 x9 x10 => (dF m (dn x0 x1 x8 x9 x10) K)) = (fun x0 x1 x8 x9 x10 => (bM m x0 x1 x8 x9 x10 (fun x0 x1 x8 x9 => (K (.ext 0) (dP x0 x1 x8 x9))))) from funext fun x0 => funext fun x1 => funext fun x8 => funext fun x9 => funext fun x10 => (kC K m) x0 x1 x8 x9 x10]; rfl))
theorem qm : dJ iw (aS F.bI 3) := by
 refine dh (n := 3) (F := dW) (by kernel_rfl) rfl (li := [0,1,2,8,9,10]) (lo := [0,1,2,6,7,8,9]) rfl (fun σ K r hr => ?_)
 unfold dW at hr
 split at hr
 ·rename_i d hd
  rw [Ss.dY hd]
  exact ⟨_, ((congrArg (fun z => dF _ z K) (rG _ _ _ _ _)).trans ((kC K _) _ _ _ _ _)).trans hr⟩
 ·cases hr
noncomputable def iy (l : List au) (s : Int) (K : aj → Option aj) : Option aj := (fM l s (((List.length l) : Nat) : Int) (0 : Int) (((List.length l) : Nat) : Int) (fun y0 y1 y2 y3 => (bif (decide (y3 < y2)) then (bif ((decide ((0 : Int) ≤ y3)) && (decide (y3 < (((List.length y0) : Nat) : Int)))) then K ((.t [(.s (.int .i64 y3)), (.s (.bool ((zY (List.getD y0 (Int.toNat y3) (aC.dflt)).1 y1) == (0 : Int))))]), []) else none) else K ((.t [(.s (.int .i64 y3)), (.s (.bool false))]), []))))
theorem xk (l : List au) (s : Int) (K : aj → Option aj) : dL iw true F.bI [.l .no aC l, .s (.int .i64 s), .f N.lJ []] K = iy l s K := by kernel_rfl
def kS : Sm := bg [.l aC, .i, .sh (.f N.lJ .nil)] (fun d => Nat.ble d.1.length 1048576 && monoB (fun x => decide (zY x.1 d.2.1 < 0)) d.1) (fun d => (.t [.s (.int .i64 ((zA (fun x => decide (zY x.1 d.2.1 < 0)) d.1 : Nat) : Int)), .s (.bool (J3 (fun x => decide (zY x.1 d.2.1 < 0)) (fun x => zY x.1 d.2.1 == 0) (aC).dflt d.1))], []))
theorem xq (l : List au) (s : Int) (h : (Nat.ble l.length 1048576 && monoB (fun x => decide (zY x.1 s < 0)) l) = true) (K : aj → Option aj) : iy l s K = K (.t [.s (.int .i64 ((zA (fun x => decide (zY x.1 s < 0)) l : Nat) : Int)), .s (.bool (J3 (fun x => decide (zY x.1 s < 0)) (fun x => zY x.1 s == 0) (aC).dflt l))], []) := by
 have hpp : ∃ p : au → Bool, p = (fun x => decide (zY x.1 s < 0)) := ⟨_, rfl⟩
 obtain ⟨p, hp⟩ := hpp
 rw [← hp] at h ⊢
 simp only [Bool.and_eq_true] at h
 have hl := Nat.le_of_ble_eq_true h.1
 have hm : monoB p l = true := h.2
 have hc := anG p l
 unfold iy fM
 have q : ∀ (k0 : List au → Int → Int → Int → Option aj) (m : Nat), l.length < m → bM m l s ((l.length : Nat) : Int) ((0 : Nat) : Int) ((l.length : Nat) : Int) k0 = k0 l s ((l.length : Nat) : Int) ((zA p l : Nat) : Int) := by
  intro k0 m hmm
  refine ahR (R := fun m i j => bM m l s ((l.length : Nat) : Int) i j k0) (p := p) (kt := fun i => k0 l s ((l.length : Nat) : Int) i) (l := l) (z := (aC).dflt) (fun m i j hij hj => ?_) (fun m i hi => ?_) hm m 0 l.length (Nat.zero_le _) hc (Nat.le_refl _) (by omega)
  ·show bK l s ((l.length : Nat) : Int) ((i : Nat) : Int) ((j : Nat) : Int) _ _ = _
   unfold bK
   rw [decide_eq_true (show ((i : Nat) : Int) < ((j : Nat) : Int) by omega), ar4 (by omega), decide_eq_true (show (0 : Int) ≤ (((i + j) / 2 : Nat) : Int) by omega), decide_eq_true (show (((i + j) / 2 : Nat) : Int) < ((l.length : Nat) : Int) by omega), Int.toNat_natCast, bW (by omega)]
   rw [hp]; rfl
  ·show bK l s ((l.length : Nat) : Int) ((i : Nat) : Int) ((i : Nat) : Int) _ _ = _
   unfold bK
   rw [decide_eq_false (show ¬ ((i : Nat) : Int) < ((i : Nat) : Int) by omega)]; rfl
 refine (q _ _ (by omega)).trans ?_
 unfold J3
 by_cases hlt : zA p l < l.length
 ·rw [decide_eq_true (show ((zA p l : Nat) : Int) < ((l.length : Nat) : Int) by omega), decide_eq_true (show (0 : Int) ≤ ((zA p l : Nat) : Int) by omega), Int.toNat_natCast, show Nat.blt (zA p l) l.length = true from Nat.ble_eq_true_of_le hlt]
  rfl
 ·rw [decide_eq_false (show ¬ ((zA p l : Nat) : Int) < ((l.length : Nat) : Int) by omega), show Nat.blt (zA p l) l.length = false from Bool.eq_false_iff.2 (fun q => hlt (Nat.le_of_ble_eq_true q))]
  rfl
theorem vw : aV prog I N.bI true kS := kD (aW (aY UR bn) (l := kM) (p := []) (ls := [(3, [0,1,2,8,9,10], [0,1,2,6,7,8,9], dW)]) (lend := []) (focus := false) (fuel := 0) (give := []) (fn := F.bI) (by kernel_rfl) (by kernel_rfl) (by kernel_rfl) (by kernel_rfl) (cs := [aS F.bI 3]) (by kernel_rfl) (dA qm aK)) (aI fun d K h => (xk d.1 d.2.1 K).trans (xq d.1 d.2.1 h K))
end Go.Ev.Seat
end
section
namespace Go.Ev.Seat
open Go.RowKit
set_option maxRecDepth 100000
set_option linter.unusedVariables false
set_option linter.unusedSimpArgs false
noncomputable abbrev Oc : List (Nat × Bool × Sm) := [(N.bI, true, kS)]
noncomputable abbrev aei : Env := En Oc [] [] [] false 0 []
noncomputable def IU (d : bT) (s : Int) (K : aj → Option aj) : Option aj := (bif ((Nat.ble (List.length d.2.2.2.2.1) 1048576) && (monoB (fun x => (decide ((zY x.1 s) < (0 : Int)))) d.2.2.2.2.1)) then K ((.t [(.s (.int .i64 (((zA (fun x => (decide ((zY x.1 s) < (0 : Int)))) d.2.2.2.2.1) : Nat) : Int))), (.s (.bool (J3 (fun x => (decide ((zY x.1 s) < (0 : Int)))) (fun x => ((zY x.1 s) == (0 : Int))) (aC.dflt) d.2.2.2.2.1)))]), []) else none)
theorem aej (d : bT) (s : Int) (K : aj → Option aj) : dL aei true F.Ah [.a (bH.cells .no d), .s (.int .i64 s)] K = IU d s K := by kernel_rfl
def QH : Sm := bg [.a bH, .i] (fun d => cZ bH d.1 && monoB (fun x => decide (zY x.1 d.2.1 < 0)) d.1.2.2.2.2.1) (fun d => (.t [.s (.int .i64 ((zA (fun x : au => decide (zY x.1 d.2.1 < 0)) d.1.2.2.2.2.1 : Nat) : Int)), .s (.bool (J3 (fun x : au => decide (zY x.1 d.2.1 < 0)) (fun x : au => zY x.1 d.2.1 == 0) (aC).dflt d.1.2.2.2.2.1))], []))
theorem aek (d : bT) (s : Int) (h : (cZ bH d && monoB (fun x => decide (zY x.1 s < 0)) d.2.2.2.2.1) = true) (K : aj → Option aj) : IU d s K = K (.t [.s (.int .i64 ((zA (fun x : au => decide (zY x.1 s < 0)) d.2.2.2.2.1 : Nat) : Int)), .s (.bool (J3 (fun x : au => decide (zY x.1 s < 0)) (fun x : au => zY x.1 s == 0) (aC).dflt d.2.2.2.2.1))], []) := by
 obtain ⟨h0, h1⟩ := (Bool.and_eq_true _ _).mp h
 obtain ⟨_, _, _, h4, _⟩ := wu h0
 unfold IU
 rw [Nat.ble_eq_true_of_le (dN h4), h1]
 rfl
theorem Zx : aV prog I N.Ah true QH := kD (aW (aY vw bn) (l := Oc) (p := []) (ls := []) (lend := []) (focus := false) (fuel := 0) (give := []) (fn := F.Ah) (by kernel_rfl) (by kernel_rfl) (by kernel_rfl) (by kernel_rfl) (cs := []) (by kernel_rfl) aK) (aI fun d K h => (aej d.1 d.2.1 K).trans (aek d.1 d.2.1 h K))
end Go.Ev.Seat
end
section
namespace Go.Ev.Seat
open Go.RowKit
set_option maxRecDepth 100000
set_option linter.unusedVariables false
set_option linter.unusedSimpArgs false
noncomputable abbrev QI : List (Nat × Plan × List Nat) := [(1, takeB [0, 1, 2, 3] (.fork (.more 4 (takeB [5] (.fork (.one 6 (.fork (.one 7 (.done)))))) (.one 6 (.fork (.one 4 (takeB [5] (.fork (.one 7 (.done))))))))), [])]
noncomputable abbrev QJ : List (Nat × Bool × Sm) := [(N.eX, true, jB)]
noncomputable abbrev afz : Env := En QJ QI [] [] false 0 []
noncomputable def KA (r : uD) (K : aj → Option aj) : Option aj := (meet ((bif (Cc.lim (Cc.sl ah) r.2.2.2.2.2) then (bif (r.1 != (3 : Int)) then K ((.a [(.s (.int .i64 r.2.2.1)), (.s (.int .i64 (IntKind.wrap .i64 (r.2.2.2.1 - r.2.2.1)))), (.l .deep ah r.2.2.2.2.2)]), []) else K ((.a [(.s (.int .i64 r.2.2.1)), (.s (.int .i64 (0 : Int))), (.l .deep ah r.2.2.2.2.2)]), [])) else none)) ((bif (Cc.lim (Cc.sl ah) r.2.2.2.2.2) then (bif (r.1 != (3 : Int)) then K ((.a [(.s (.int .i64 r.2.2.1)), (.s (.int .i64 (IntKind.wrap .i64 (r.2.2.2.1 - r.2.2.1)))), (.l .deep ah r.2.2.2.2.2)]), []) else K ((.a [(.s (.int .i64 r.2.2.1)), (.s (.int .i64 (0 : Int))), (.l .deep ah r.2.2.2.2.2)]), [])) else none)))
theorem afA (r : uD) (K : aj → Option aj) : dL afz true F.Eo [.a (gV.cells .no r)] K = KA r K := by kernel_rfl
def TD : Sm := bg [.a gV] (fun d => aO d.1.2.2.2.2.2) (fun d => (.a (aB.cells .deep (lY d.1)), []))
theorem afB (r : uD) (h : (aO r.2.2.2.2.2) = true) (K : aj → Option aj) : KA r K = K (.a (aB.cells .deep (lY r)), []) := by
 obtain ⟨k, s, a, b, d, t⟩ := r
 have hl : Cc.lim (Cc.sl ah) t = true := Q9 (jW h)
 unfold KA lY
 simp only [hl, meet_self, cond_true]
 cases (k != (3 : Int)) <;> rfl
theorem abC : aV prog I N.Eo true TD := kD (aW (aY kV bn) (l := QJ) (p := QI) (ls := []) (lend := []) (focus := false) (fuel := 0) (give := []) (fn := F.Eo) (by kernel_rfl) (by kernel_rfl) (by kernel_rfl) (by kernel_rfl) (cs := []) (by kernel_rfl) aK) (aI fun d K h => (afA d.1 K).trans (afB d.1 h K))
end Go.Ev.Seat
end
section
namespace Go.Ev.Seat
open Go.RowKit
set_option maxRecDepth 100000
set_option linter.unusedVariables false
set_option linter.unusedSimpArgs false
noncomputable abbrev aaz : List (Nat × Plan × List Nat) := [(1, takeB [0, 1, 2, 3, 4, 5] (.fork (.one 6 (.fork (.one 7 (takes [8, 9, 10, 11, 12]))))), [])]
noncomputable abbrev aaA : List (Nat × Bool × Sm) := [(N.vO, true, Ql), (N.vN, true, Qp)]
noncomputable abbrev amI : Env := En aaA aaz [] [] false 0 []
noncomputable def UU (d : bT) (v : Int) (K : aj → Option aj) : Option aj := (bif ((decide ((0 : Int) ≤ v)) && (decide (v ≤ (((List.length d.2.2.1) : Nat) : Int)))) then (bif (fF (Cc.sl aF) (List.take (Int.toNat v) d.2.2.1)) then (bif ((aO d.1) && (fF (Cc.sl aB) (bF (List.take (Int.toNat v) d.2.2.1)))) then K ((.l .deep ah (aU d.1 (bF (List.take (Int.toNat v) d.2.2.1))).1), []) else none) else none) else none)
theorem amJ (d : bT) (v : Int) (K : aj → Option aj) : dL amI true F.OE [.a (bH.cells .no d), .s (.int .i64 v)] K = UU d v K := by kernel_rfl
def ael : Sm := bg [.a bH, .i] (fun d => cZ bH d.1 && decide (0 ≤ d.2.1) && decide (d.2.1 ≤ ((d.1.2.2.1.length : Nat) : Int))) (fun d => (.l .deep ah (aU d.1.1 (bF (d.1.2.2.1.take d.2.1.toNat))).1, []))
theorem amK (d : bT) (v : Int) (h : (cZ bH d && decide (0 ≤ v) && decide (v ≤ ((d.2.2.1.length : Nat) : Int))) = true) (K : aj → Option aj) : UU d v K = K (.l .deep ah (aU d.1 (bF (d.2.2.1.take v.toNat))).1, []) := by
 simp only [Bool.and_eq_true, decide_eq_true_eq] at h
 obtain ⟨⟨h0, q2⟩, q3⟩ := h
 obtain ⟨h1, h2, h3, h4, h5⟩ := wu h0
 unfold UU
 rw [decide_eq_true q2, decide_eq_true q3, vS h3, h1, AV (vS h3 _)]
 rfl
theorem aiw : aV prog I N.OE true ael := kD (aW (aY Tj (aY Tn bn)) (l := aaA) (p := aaz) (ls := []) (lend := []) (focus := false) (fuel := 0) (give := []) (fn := F.OE) (by kernel_rfl) (by kernel_rfl) (by kernel_rfl) (by kernel_rfl) (cs := []) (by kernel_rfl) aK) (aI fun d K h => (amJ d.1 d.2.1 K).trans (amK d.1 d.2.1 h K))
end Go.Ev.Seat
end
section
namespace Go.Ev.Seat
open Go.RowKit
set_option maxRecDepth 100000
set_option linter.unusedVariables false
set_option linter.unusedSimpArgs false
noncomputable abbrev aix : Env := En [] [] [] [] false 0 []
noncomputable def Nu (e : ay) (p : Int) (r : Bool) (K : aj → Option aj) : Option aj := (bif (decide (p < e.1)) then K ((.s (.int .i64 p)), []) else (bif (p == e.1) then (bif r then K ((.s (.int .i64 (IntKind.wrap .i64 (e.1 + (((List.length e.2.2) : Nat) : Int))))), []) else K ((.s (.int .i64 e.1)), [])) else (bif (decide (p < (IntKind.wrap .i64 (e.1 + e.2.1)))) then (bif r then K ((.s (.int .i64 (IntKind.wrap .i64 (e.1 + (((List.length e.2.2) : Nat) : Int))))), []) else K ((.s (.int .i64 e.1)), [])) else K ((.s (.int .i64 (IntKind.wrap .i64 ((IntKind.wrap .i64 (p - e.2.1)) + (((List.length e.2.2) : Nat) : Int))))), []))))
theorem aiy (e : ay) (p : Int) (r : Bool) (K : aj → Option aj) : dL aix true F.Hr [.a (aB.cells .no e), .s (.int .i64 p), .s (.bool r)] K = Nu e p r K := by kernel_rfl
def XJ : Sm := bg [.a aB, .i, .b] (fun d => gW d.2.1 && aZ d.1) (fun d => (.s (.int .i64 (bZ d.1 d.2.1 d.2.2.1)), []))
theorem aiz (e : ay) (p : Int) (r : Bool) (h : (gW p && aZ e) = true) (K : aj → Option aj) : Nu e p r K = K (.s (.int .i64 (bZ e p r)), []) := by
 obtain ⟨hp, HS⟩ := (Bool.and_eq_true _ _).mp h
 have hp' := nK.1 hp
 unfold Nu
 have q := pW.1 HS
 rw [wrap_in (n := e.1 + ((e.2.2.length : Nat) : Int)) (by omega) (by omega), wrap_in (n := e.1 + e.2.1) (by omega) (by omega), wrap_in (n := p - e.2.1) (by omega) (by omega), wrap_in (n := p - e.2.1 + ((e.2.2.length : Nat) : Int)) (by omega) (by omega)]
 unfold bZ
 cases decide (p < e.1)
 ·cases (p == e.1)
  ·cases decide (p < e.1 + e.2.1)
   ·rfl
   ·cases r <;> rfl
  ·cases r <;> rfl
 ·rfl
theorem aem : aV prog I N.Hr true XJ := kD (aW bn (l := []) (p := []) (ls := []) (lend := []) (focus := false) (fuel := 0) (give := []) (fn := F.Hr) (by kernel_rfl) (by kernel_rfl) (by kernel_rfl) (by kernel_rfl) (cs := []) (by kernel_rfl) aK) (aI fun d K h => (aiy d.1 d.2.1 d.2.2.1 K).trans (aiz d.1 d.2.1 d.2.2.1 h K))
end Go.Ev.Seat
end
section
namespace Go.Ev.Seat
open Go.RowKit
set_option maxRecDepth 100000
set_option linter.unusedVariables false
set_option linter.unusedSimpArgs false
noncomputable abbrev QK : List (Nat × Plan × List Nat) := [(1, takeB [0, 1, 3, 4] (.fork (.one 2 (.fork (.one 5 (takes [6, 7]))))), [])]
noncomputable abbrev QL : List (Nat × Bool × Sm) := [(N.Hr, true, XJ)]
noncomputable abbrev afC : Env := En QL QK [] [] false 0 []
noncomputable def KC (e : ay) (i : Int) (j : Int) (K : aj → Option aj) : Option aj := (bif ((gW i) && (aZ e)) then (bif ((gW j) && (aZ e)) then (bif (decide ((bZ e j false) < (bZ e i true))) then K ((.t [(.s (.int .i64 (bZ e i true))), (.s (.int .i64 (bZ e i true)))]), []) else (bif (i == j) then K ((.t [(.s (.int .i64 (bZ e i true))), (.s (.int .i64 (bZ e i true)))]), []) else K ((.t [(.s (.int .i64 (bZ e i true))), (.s (.int .i64 (bZ e j false)))]), []))) else none) else none)
theorem afD (e : ay) (i : Int) (j : Int) (K : aj → Option aj) : dL afC true F.Ep [.a (aB.cells .no e), .s (.int .i64 i), .s (.int .i64 j)] K = KC e i j K := by kernel_rfl
def TF : Sm := bg [.a aB, .i, .i] (fun d => gW d.2.1 && gW d.2.2.1 && aZ d.1 && decide (d.2.1 ≤ d.2.2.1)) (fun d => (.t [.s (.int .i64 (O9 d.1 d.2.1 d.2.2.1).1), .s (.int .i64 (O9 d.1 d.2.1 d.2.2.1).2)], []))
theorem afE (e : ay) (i : Int) (j : Int) (h : (gW i && gW j && aZ e && decide (i ≤ j)) = true) (K : aj → Option aj) : KC e i j K = K (.t [.s (.int .i64 (O9 e i j).1), .s (.int .i64 (O9 e i j).2)], []) := by
 simp only [Bool.and_eq_true, decide_eq_true_eq] at h
 obtain ⟨⟨⟨hi, hj⟩, he⟩, hij⟩ := h
 have hi' := nK.1 hi
 have hj' := nK.1 hj
 have p1 := nM (p := i) true he (by omega)
 have p2 := nM (p := j) false he (by omega)
 unfold KC O9
 rw [hi, hj, he]
 cases (i == j) with
 | true => cases decide (bZ e j false < bZ e i true) <;> rfl
 | false =>
  by_cases hlt : bZ e j false < bZ e i true
  ·rw [decide_eq_true hlt]
   show K (.t [_, .s (.int .i64 (bZ e i true))], []) = K (.t [_, .s (.int .i64 (max (bZ e i true) (bZ e j false)))], [])
   rw [show max (bZ e i true) (bZ e j false) = bZ e i true by omega]
  ·rw [decide_eq_false hlt]
   show K (.t [_, .s (.int .i64 (bZ e j false))], []) = K (.t [_, .s (.int .i64 (max (bZ e i true) (bZ e j false)))], [])
   rw [show max (bZ e i true) (bZ e j false) = bZ e j false by omega]
theorem abD : aV prog I N.Ep true TF := kD (aW (aY aem bn) (l := QL) (p := QK) (ls := []) (lend := []) (focus := false) (fuel := 0) (give := []) (fn := F.Ep) (by kernel_rfl) (by kernel_rfl) (by kernel_rfl) (by kernel_rfl) (cs := []) (by kernel_rfl) aK) (aI fun d K h => (afD d.1 d.2.1 d.2.2.1 K).trans (afE d.1 d.2.1 d.2.2.1 h K))
end Go.Ev.Seat
end
section
namespace Go.Ev.Seat
open Go.RowKit
set_option maxRecDepth 100000
set_option linter.unusedVariables false
set_option linter.unusedSimpArgs false
noncomputable abbrev Oe : List (Nat × Bool × Sm) := [(N.Ep, true, TF)]
noncomputable abbrev aen : Env := En Oe [] [] [] false 0 []
noncomputable def IV (e : ay) (b : ay) (K : aj → Option aj) : Option aj := (bif ((((gW e.1) && (gW (IntKind.wrap .i64 (e.1 + e.2.1)))) && (aZ b)) && (decide (e.1 ≤ (IntKind.wrap .i64 (e.1 + e.2.1))))) then K ((.a [(.s (.int .i64 (bZ b e.1 true))), (.s (.int .i64 (IntKind.wrap .i64 ((bif (e.1 == (IntKind.wrap .i64 (e.1 + e.2.1))) then (bZ b e.1 true) else (Max.max (bZ b e.1 true) (bZ b (IntKind.wrap .i64 (e.1 + e.2.1)) false))) - (bZ b e.1 true))))), (.l .no ah e.2.2)]), []) else none)
theorem aeo (e : ay) (b : ay) (K : aj → Option aj) : dL aen false F.Ai [.a (aB.cells .no e), .a (aB.cells .no b)] K = IV e b K := by kernel_rfl
def QM : Sm := bg [.a aB, .a aB] (fun d => aZ d.1 && aZ d.2.1) (fun d => (.a (aB.cells .no (iW d.1 d.2.1)), []))
theorem aep (e : ay) (b : ay) (h : (aZ e && aZ b) = true) (K : aj → Option aj) : IV e b K = K (.a (aB.cells .no (iW e b)), []) := by
 obtain ⟨ha, hb⟩ := (Bool.and_eq_true _ _).mp h
 have ha' := pW.1 ha
 have hb' := pW.1 hb
 have p1 := nM (p := e.1) true hb (by omega)
 have p2 := nM (p := e.1 + e.2.1) false hb (by omega)
 have hr := VK ha hb
 have e3 : (iW e b).2.1 = (bif (e.1 == e.1 + e.2.1) then bZ b e.1 true else max (bZ b e.1 true) (bZ b (e.1 + e.2.1) false)) - bZ b e.1 true := rfl
 rw [e3] at hr
 unfold IV
 rw [wrap_in (n := e.1 + e.2.1) (by omega) (by omega), nK.2 (show 0 ≤ e.1 ∧ e.1 ≤ 800 by omega), nK.2 (show 0 ≤ e.1 + e.2.1 ∧ e.1 + e.2.1 ≤ 800 by omega), hb, decide_eq_true (show e.1 ≤ e.1 + e.2.1 by omega), wrap_in (n := (bif (e.1 == e.1 + e.2.1) then bZ b e.1 true else max (bZ b e.1 true) (bZ b (e.1 + e.2.1) false)) - bZ b e.1 true) (by omega) (by omega)]
 rfl
theorem Zy : aV prog I N.Ai false QM := kD (aW (aY abD bn) (l := Oe) (p := []) (ls := []) (lend := []) (focus := false) (fuel := 0) (give := []) (fn := F.Ai) (by kernel_rfl) (by kernel_rfl) (by kernel_rfl) (by kernel_rfl) (cs := []) (by kernel_rfl) aK) (aI fun d K h => (aeo d.1 d.2.1 K).trans (aep d.1 d.2.1 h K))
end Go.Ev.Seat
end
section
namespace Go.Ev.Seat
open Go.RowKit
set_option maxRecDepth 100000
set_option linter.unusedVariables false
set_option linter.unusedSimpArgs false
def fH (b00 : Int) (b01 : Int) (b10 : Int) (b11 : Int) (o2 : List Int) : St := { tm := ([.x, .x, .x, .x, .x, .x, (.pb 0 0), .x, .x, .x, (.pb 1 0)] ++ List.replicate 36 .x), ob := [(0, (.box [(.s (.int .i64 b00)), (.s (.int .i64 b01)), .nl])), (1, (.box [(.s (.int .i64 b10)), (.s (.int .i64 b11)), (.w 2)])), (2, (.arr true true ah o2))], nx := 3, io := [] }
def fJ (b00 : Int) (b01 : Int) (b10 : Int) (b11 : Int) (b12 : List Int) : St := { tm := ([.x, .x, .x, .x, .x, .x, (.pb 0 0), .x, .x, .x, (.pb 1 0)] ++ List.replicate 36 .x), ob := [(0, (.box [(.s (.int .i64 b00)), (.s (.int .i64 b01)), .nl])), (1, (.box [(.s (.int .i64 b10)), (.s (.int .i64 b11)), (.l .no ah b12)]))], nx := 2, io := [] }
def tX : Ss := { tm := (.cons (.x) (.cons (.x) (.cons (.x) (.cons (.x) (.cons (.x) (.cons (.x) (.cons (.pb 0 0) (.cons (.x) (.cons (.x) (.cons (.x) (.cons (.pb 1 0) (.cons (.x) (.cons (.x) (.cons (.x) (.cons (.x) (.cons (.x) (.cons (.x) (.cons (.x) (.cons (.x) (.cons (.x) (.cons (.x) (.cons (.x) (.cons (.x) (.cons (.x) (.cons (.x) (.cons (.x) (.cons (.x) (.cons (.x) (.cons (.x) (.cons (.x) (.cons (.x) (.cons (.x) (.cons (.x) (.cons (.x) (.cons (.x) (.cons (.l .no aF) (.cons (.int .i64) (.cons (.int .i64) (Fj 9))))))))))))))))))))))))))))))))))))))), ob := (.box (.cons (.int .i64) (.cons (.int .i64) (.cons (.nl) .nil))) (.box (.cons (.int .i64) (.cons (.int .i64) (.cons (.w 2) .nil))) (.arr true true ah .nil))), nx := 3, io := .nil }
def Zz (jw : List aA) (kH : Int) (iZ : Int) (b00 : Int) (b01 : Int) (b10 : Int) (b11 : Int) (o2 : List Int) : tX.T := (((), ((), ((), ((), ((), ((), ((), ((), ((), ((), ((), ((), ((), ((), ((), ((), ((), ((), ((), ((), ((), ((), ((), ((), ((), ((), ((), ((), ((), ((), ((), ((), ((), ((), ((), (jw, (kH, (iZ, xd 9)))))))))))))))))))))))))))))))))))))), ((b00, (b01, ((), ()))), ((b10, (b11, ((), ()))), (o2, ()))), ())
def jM (jw : List aA) (kH : Int) (iZ : Int) (b00 : Int) (b01 : Int) (b10 : Int) (b11 : Int) (o2 : List Int) : St := { tm := ([.x, .x, .x, .x, .x, .x, (.pb 0 0), .x, .x, .x, (.pb 1 0), .x, .x, .x, .x, .x, .x, .x, .x, .x, .x, .x, .x, .x, .x, .x, .x, .x, .x, .x, .x, .x, .x, .x, .x, (.l .no aF jw), (.s (.int .i64 kH)), (.s (.int .i64 iZ))] ++ List.replicate 9 .x), ob := [(0, (.box [(.s (.int .i64 b00)), (.s (.int .i64 b01)), .nl])), (1, (.box [(.s (.int .i64 b10)), (.s (.int .i64 b11)), (.w 2)])), (2, (.arr true true ah o2))], nx := 3, io := [] }
theorem XK (jw : List aA) (kH : Int) (iZ : Int) (b00 : Int) (b01 : Int) (b10 : Int) (b11 : Int) (o2 : List Int) : tX.mk' (Zz jw kH iZ b00 b01 b10 b11 o2) = (jM jw kH iZ b00 b01 b10 b11 o2) := by kernel_rfl
def ZA (d : tX.T) (f : (List aA) → Int → Int → Int → Int → Int → Int → (List Int) → Option aj) : Option aj := match d with | ((_, (_, (_, (_, (_, (_, (_, (_, (_, (_, (_, (_, (_, (_, (_, (_, (_, (_, (_, (_, (_, (_, (_, (_, (_, (_, (_, (_, (_, (_, (_, (_, (_, (_, (_, (jw, (kH, (iZ, _)))))))))))))))))))))))))))))))))))))), ((b00, (b01, (_, _))), ((b10, (b11, (_, _))), (o2, _))), _) => f jw kH iZ b00 b01 b10 b11 o2
noncomputable def wR (jw : List aA) (kH : Int) (iZ : Int) (b00 : Int) (b01 : Int) (b10 : Int) (b11 : Int) (o2 : List Int) (lC : (List aA) → Int → Int → Int → Int → Int → Int → (List Int) → Option aj) (nx1 : (List aA) → Int → Int → Int → Int → Int → Int → (List Int) → Option aj) (k0 : Int → Int → Int → Int → (List Int) → Option aj) (k1 : Int → Int → Int → Int → (List Int) → Option aj) : Option aj := (bif (decide (iZ < kH)) then (bif ((decide ((0 : Int) ≤ iZ)) && (decide (iZ < (((List.length jw) : Nat) : Int)))) then (bif ((aZ (b10, (b11, o2))) && (aZ (List.getD jw (Int.toNat iZ) (aF.dflt)).2)) then (nx1 jw kH (IntKind.wrap .i64 (iZ + (1 : Int))) b00 b01 (bZ (List.getD jw (Int.toNat iZ) (aF.dflt)).2 b10 true) ((bif (b10 == (b10 + b11)) then (bZ (List.getD jw (Int.toNat iZ) (aF.dflt)).2 b10 true) else (Max.max (bZ (List.getD jw (Int.toNat iZ) (aF.dflt)).2 b10 true) (bZ (List.getD jw (Int.toNat iZ) (aF.dflt)).2 (b10 + b11) false))) - (bZ (List.getD jw (Int.toNat iZ) (aF.dflt)).2 b10 true)) o2) else none) else none) else (k0 b00 b01 b10 b11 o2))
def tY : Ss := { tm := (.cons (.x) (.cons (.x) (.cons (.x) (.cons (.x) (.cons (.x) (.cons (.x) (.cons (.pb 0 0) (.cons (.x) (.cons (.x) (.cons (.x) (.cons (.pb 1 0) (.cons (.x) (.cons (.x) (.cons (.x) (.cons (.x) (.cons (.x) (.cons (.x) (.cons (.x) (.cons (.x) (.cons (.x) (.cons (.x) (.cons (.x) (.cons (.x) (.cons (.x) (.cons (.x) (.cons (.x) (.cons (.x) (.cons (.x) (.cons (.x) (.cons (.x) (.cons (.x) (.cons (.x) (.cons (.x) (.cons (.x) (.cons (.x) (.cons (.l .no aF) (.cons (.int .i64) (.cons (.int .i64) (Fj 9))))))))))))))))))))))))))))))))))))))), ob := (.box (.cons (.int .i64) (.cons (.int .i64) (.cons (.nl) .nil))) (.box (.cons (.int .i64) (.cons (.int .i64) (.cons (.l .no ah) .nil))) .nil)), nx := 2, io := .nil }
def ZB (jw : List aA) (kH : Int) (iZ : Int) (b00 : Int) (b01 : Int) (b10 : Int) (b11 : Int) (b12 : List Int) : tY.T := (((), ((), ((), ((), ((), ((), ((), ((), ((), ((), ((), ((), ((), ((), ((), ((), ((), ((), ((), ((), ((), ((), ((), ((), ((), ((), ((), ((), ((), ((), ((), ((), ((), ((), ((), (jw, (kH, (iZ, xd 9)))))))))))))))))))))))))))))))))))))), ((b00, (b01, ((), ()))), ((b10, (b11, (b12, ()))), ())), ())
def jO (jw : List aA) (kH : Int) (iZ : Int) (b00 : Int) (b01 : Int) (b10 : Int) (b11 : Int) (b12 : List Int) : St := { tm := ([.x, .x, .x, .x, .x, .x, (.pb 0 0), .x, .x, .x, (.pb 1 0), .x, .x, .x, .x, .x, .x, .x, .x, .x, .x, .x, .x, .x, .x, .x, .x, .x, .x, .x, .x, .x, .x, .x, .x, (.l .no aF jw), (.s (.int .i64 kH)), (.s (.int .i64 iZ))] ++ List.replicate 9 .x), ob := [(0, (.box [(.s (.int .i64 b00)), (.s (.int .i64 b01)), .nl])), (1, (.box [(.s (.int .i64 b10)), (.s (.int .i64 b11)), (.l .no ah b12)]))], nx := 2, io := [] }
theorem XL (jw : List aA) (kH : Int) (iZ : Int) (b00 : Int) (b01 : Int) (b10 : Int) (b11 : Int) (b12 : List Int) : tY.mk' (ZB jw kH iZ b00 b01 b10 b11 b12) = (jO jw kH iZ b00 b01 b10 b11 b12) := by kernel_rfl
def ZC (d : tY.T) (f : (List aA) → Int → Int → Int → Int → Int → Int → (List Int) → Option aj) : Option aj := match d with | ((_, (_, (_, (_, (_, (_, (_, (_, (_, (_, (_, (_, (_, (_, (_, (_, (_, (_, (_, (_, (_, (_, (_, (_, (_, (_, (_, (_, (_, (_, (_, (_, (_, (_, (_, (jw, (kH, (iZ, _)))))))))))))))))))))))))))))))))))))), ((b00, (b01, (_, _))), ((b10, (b11, (b12, _))), _)), _) => f jw kH iZ b00 b01 b10 b11 b12
noncomputable def wS (jw : List aA) (kH : Int) (iZ : Int) (b00 : Int) (b01 : Int) (b10 : Int) (b11 : Int) (b12 : List Int) (lC : (List aA) → Int → Int → Int → Int → Int → Int → (List Int) → Option aj) (nx1 : (List aA) → Int → Int → Int → Int → Int → Int → (List Int) → Option aj) (k0 : Int → Int → Int → Int → (List Int) → Option aj) (k1 : Int → Int → Int → Int → (List Int) → Option aj) : Option aj := (bif (decide (iZ < kH)) then (bif ((decide ((0 : Int) ≤ iZ)) && (decide (iZ < (((List.length jw) : Nat) : Int)))) then (bif ((aZ (b10, (b11, b12))) && (aZ (List.getD jw (Int.toNat iZ) (aF.dflt)).2)) then (nx1 jw kH (IntKind.wrap .i64 (iZ + (1 : Int))) b00 b01 (bZ (List.getD jw (Int.toNat iZ) (aF.dflt)).2 b10 true) ((bif (b10 == (b10 + b11)) then (bZ (List.getD jw (Int.toNat iZ) (aF.dflt)).2 b10 true) else (Max.max (bZ (List.getD jw (Int.toNat iZ) (aF.dflt)).2 b10 true) (bZ (List.getD jw (Int.toNat iZ) (aF.dflt)).2 (b10 + b11) false))) - (bZ (List.getD jw (Int.toNat iZ) (aF.dflt)).2 b10 true)) b12) else none) else none) else (k1 b00 b01 b10 b11 b12))
mutual
noncomputable def lF : Nat → (List aA) → Int → Int → Int → Int → Int → Int → (List Int) → (Int → Int → Int → Int → (List Int) → Option aj) → (Int → Int → Int → Int → (List Int) → Option aj) → Option aj
 | 0, _, _, _, _, _, _, _, _, _, _ => none
 | m + 1, jw, kH, iZ, b00, b01, b10, b11, o2, k0, k1 => wR jw kH iZ b00 b01 b10 b11 o2 (fun jw kH iZ b00 b01 b10 b11 o2 => (lF m jw kH iZ b00 b01 b10 b11 o2 k0 k1)) (fun jw kH iZ b00 b01 b10 b11 b12 => (jP m jw kH iZ b00 b01 b10 b11 b12 k0 k1)) k0 k1
noncomputable def jP : Nat → (List aA) → Int → Int → Int → Int → Int → Int → (List Int) → (Int → Int → Int → Int → (List Int) → Option aj) → (Int → Int → Int → Int → (List Int) → Option aj) → Option aj
 | 0, _, _, _, _, _, _, _, _, _, _ => none
 | m + 1, jw, kH, iZ, b00, b01, b10, b11, b12, k0, k1 => wS jw kH iZ b00 b01 b10 b11 b12 (fun jw kH iZ b00 b01 b10 b11 o2 => (lF m jw kH iZ b00 b01 b10 b11 o2 k0 k1)) (fun jw kH iZ b00 b01 b10 b11 b12 => (jP m jw kH iZ b00 b01 b10 b11 b12 k0 k1)) k0 k1
end
noncomputable def wU (jw : List aA) (kH : Int) (iZ : Int) (b00 : Int) (b01 : Int) (b10 : Int) (b11 : Int) (o2 : List Int) (k0 : Int → Int → Int → Int → (List Int) → Option aj) (k1 : Int → Int → Int → Int → (List Int) → Option aj) : Option aj := lF (List.length jw + kH.toNat + iZ.toNat + b00.toNat + b01.toNat + b10.toNat + b11.toNat + List.length o2 + 2) jw kH iZ b00 b01 b10 b11 o2 k0 k1
noncomputable def ZE (jw : List aA) (kH : Int) (iZ : Int) (b00 : Int) (b01 : Int) (b10 : Int) (b11 : Int) (b12 : List Int) (k0 : Int → Int → Int → Int → (List Int) → Option aj) (k1 : Int → Int → Int → Int → (List Int) → Option aj) : Option aj := jP (List.length jw + kH.toNat + iZ.toNat + b00.toNat + b01.toNat + b10.toNat + b11.toNat + List.length b12 + 2) jw kH iZ b00 b01 b10 b11 b12 k0 k1
noncomputable def BR : dV := (fun (σ : St) (K : Ex → St → Option aj) => (match tX.un σ with | some d => ZA d (fun jw kH iZ b00 b01 b10 b11 o2 => wU jw kH iZ b00 b01 b10 b11 o2 (fun b00 b01 b10 b11 o2 => (K (.ext 0) (fH b00 b01 b10 b11 o2))) (fun b00 b01 b10 b11 b12 => (K (.ext 0) (fJ b00 b01 b10 b11 b12)))) | none => (match tY.un σ with | some d => ZC d (fun jw kH iZ b00 b01 b10 b11 b12 => ZE jw kH iZ b00 b01 b10 b11 b12 (fun b00 b01 b10 b11 o2 => (K (.ext 0) (fH b00 b01 b10 b11 o2))) (fun b00 b01 b10 b11 b12 => (K (.ext 0) (fJ b00 b01 b10 b11 b12)))) | none => none)))
noncomputable abbrev TG : List (Nat × Plan × List Nat) := [(5, takeB [0, 1, 2] (.fork (.one 3 (.fork (.one 4 (takes [5]))))), [])]
noncomputable abbrev TI : List (Nat × Bool × Sm) := [(N.Ah, true, QH), (N.Eo, true, TD), (N.OE, true, ael), (N.zL, true, Kr), (N.Ai, false, QM)]
noncomputable abbrev Nv : Env := En TI TG [(8, [6,10,35,36,37], [6,7,10], BR)] [] false 0 []
noncomputable abbrev dX := rounds (run Nv (aS F.uq 8)) [6,10,35,36,37] [6,7,10]
theorem XM (m : Nat) (jw : List aA) (kH : Int) (iZ : Int) (b00 : Int) (b01 : Int) (b10 : Int) (b11 : Int) (o2 : List Int) (K : Ex → St → Option aj) : dX (m + 1) (jM jw kH iZ b00 b01 b10 b11 o2) K = wR jw kH iZ b00 b01 b10 b11 o2 (fun jw kH iZ b00 b01 b10 b11 o2 => (dX m (jM jw kH iZ b00 b01 b10 b11 o2) K)) (fun jw kH iZ b00 b01 b10 b11 b12 => (dX m (jO jw kH iZ b00 b01 b10 b11 b12) K)) (fun b00 b01 b10 b11 o2 => (K (.ext 0) (fH b00 b01 b10 b11 o2))) (fun b00 b01 b10 b11 b12 => (K (.ext 0) (fJ b00 b01 b10 b11 b12))) := by kernel_rfl
theorem XO (m : Nat) (jw : List aA) (kH : Int) (iZ : Int) (b00 : Int) (b01 : Int) (b10 : Int) (b11 : Int) (b12 : List Int) (K : Ex → St → Option aj) : dX (m + 1) (jO jw kH iZ b00 b01 b10 b11 b12) K = wS jw kH iZ b00 b01 b10 b11 b12 (fun jw kH iZ b00 b01 b10 b11 o2 => (dX m (jM jw kH iZ b00 b01 b10 b11 o2) K)) (fun jw kH iZ b00 b01 b10 b11 b12 => (dX m (jO jw kH iZ b00 b01 b10 b11 b12) K)) (fun b00 b01 b10 b11 o2 => (K (.ext 0) (fH b00 b01 b10 b11 o2))) (fun b00 b01 b10 b11 b12 => (K (.ext 0) (fJ b00 b01 b10 b11 b12))) := by kernel_rfl
theorem oW (K : Ex → St → Option aj) : ∀ m : Nat, (∀ (jw : List aA) (kH : Int) (iZ : Int) (b00 : Int) (b01 : Int) (b10 : Int) (b11 : Int) (o2 : List Int), dX m (jM jw kH iZ b00 b01 b10 b11 o2) K = lF m jw kH iZ b00 b01 b10 b11 o2 (fun b00 b01 b10 b11 o2 => (K (.ext 0) (fH b00 b01 b10 b11 o2))) (fun b00 b01 b10 b11 b12 => (K (.ext 0) (fJ b00 b01 b10 b11 b12)))) ∧ (∀ (jw : List aA) (kH : Int) (iZ : Int) (b00 : Int) (b01 : Int) (b10 : Int) (b11 : Int) (b12 : List Int), dX m (jO jw kH iZ b00 b01 b10 b11 b12) K = jP m jw kH iZ b00 b01 b10 b11 b12 (fun b00 b01 b10 b11 o2 => (K (.ext 0) (fH b00 b01 b10 b11 o2))) (fun b00 b01 b10 b11 b12 => (K (.ext 0) (fJ b00 b01 b10 b11 b12))))
 | 0 => ⟨(fun _ _ _ _ _ _ _ _ => rfl), (fun _ _ _ _ _ _ _ _ => rfl)⟩
 | m + 1 => ⟨(fun jw kH iZ b00 b01 b10 b11 o2 => (by rw [XM, show (fun jw kH iZ b00 b01 b10 b11 o2 => (dX m (jM jw kH iZ b00 b01 b10 b11 o2) K)) = (fun jw kH iZ b00 b01 b10 b11 o2 => (lF m jw kH iZ b00 b01 b10 b11 o2 (fun b00 b01 b10 b11 o2 => (K (.ext 0) (fH b00 b01 b10 b11 o2))) (fun b00 b01 b10 b11 b12 => (K (.ext 0) (fJ b00 b01 b10 b11 b12))))) from funext fun jw => funext fun kH => funext fun iZ => funext fun b00 => funext fun b01 => funext fun b10 => funext fun b11 => funext fun o2 => (oW K m).1 jw kH iZ b00 b01 b10 b11 o2, show (fun jw kH iZ b00 b01 b10 b11 b12 => (dX m (jO jw kH iZ b00 b01 b10 b11 b12) K)) = (fun jw kH iZ b00 b01 b10 b11 b12 => (jP m jw kH iZ b00 b01 b10 b11 b12 (fun b00 b01 b10 b11 o2 => (K (.ext 0) (fH b00 b01 b10 b11 o2))) (fun b00 b01 b10 b11 b12 => (K (.ext 0) (fJ b00 b01 b10 b11 b12))))) from funext fun jw => funext fun kH => funext fun iZ => funext fun b00 => funext fun b01 => funext fun b10 => funext fun b11 => funext fun b12 => (oW K m).2 jw kH iZ b00 b01 b10 b11 b12]; rfl)), (fun jw kH iZ b00 b01 b10 b11 b12 => (by rw [XO, show (fun jw kH iZ b00 b01 b10 b11 o2 => (dX m (jM jw kH iZ b00 b01 b10 b11 o2) K)) = (fun jw kH iZ b00 b01 b10 b11 o2 => (lF m jw kH iZ b00 b01 b10 b11 o2 (fun b00 b01 b10 b11 o2 => (K (.ext 0) (fH b00 b01 b10 b11 o2))) (fun b00 b01 b10 b11 b12 => (K (.ext 0) (fJ b00 b01 b10 b11 b12))))) from funext fun jw => funext fun kH => funext fun iZ => funext fun b00 => funext fun b01 => funext fun b10 => funext fun b11 => funext fun o2 => (oW K m).1 jw kH iZ b00 b01 b10 b11 o2, show (fun jw kH iZ b00 b01 b10 b11 b12 => (dX m (jO jw kH iZ b00 b01 b10 b11 b12) K)) = (fun jw kH iZ b00 b01 b10 b11 b12 => (jP m jw kH iZ b00 b01 b10 b11 b12 (fun b00 b01 b10 b11 o2 => (K (.ext 0) (fH b00 b01 b10 b11 o2))) (fun b00 b01 b10 b11 b12 => (K (.ext 0) (fJ b00 b01 b10 b11 b12))))) from funext fun jw => funext fun kH => funext fun iZ => funext fun b00 => funext fun b01 => funext fun b10 => funext fun b11 => funext fun b12 => (oW K m).2 jw kH iZ b00 b01 b10 b11 b12]; rfl))⟩
theorem UW : dJ Nv (aS F.uq 8) := by
 refine dh (n := 8) (F := BR) (by kernel_rfl) rfl (li := [6,10,35,36,37]) (lo := [6,7,10]) rfl (fun σ K r hr => ?_)
 unfold BR at hr
 split at hr
 ·rename_i d hd
  rw [Ss.dY hd]
  exact ⟨_, ((congrArg (fun z => dX _ z K) (XK _ _ _ _ _ _ _ _)).trans ((oW K _).1 _ _ _ _ _ _ _ _)).trans hr⟩
 ·split at hr
  ·rename_i d hd
   rw [Ss.dY hd]
   exact ⟨_, ((congrArg (fun z => dX _ z K) (XL _ _ _ _ _ _ _ _)).trans ((oW K _).2 _ _ _ _ _ _ _ _)).trans hr⟩
  ·cases hr
noncomputable def Nw (d : bT) (r : uD) (v : Int) (K : aj → Option aj) : Option aj := (bif ((cZ bH d) && (monoB (fun x => (decide ((zY x.1 r.2.1) < (0 : Int)))) d.2.2.2.2.1)) then (bif (!(J3 (fun x => (decide ((zY x.1 r.2.1) < (0 : Int)))) (fun x => ((zY x.1 r.2.1) == (0 : Int))) (aC.dflt) d.2.2.2.2.1)) then K ((.t [(.a [(.s (.int .i64 (0 : Int))), (.s (.int .i64 (0 : Int))), (.l .deep ah ([] : List Int))]), (.s (.int .i64 (2 : Int)))]), []) else (bif (aO r.2.2.2.2.2) then (bif (((cZ bH d) && (decide ((0 : Int) ≤ v))) && (decide (v ≤ (((List.length d.2.2.1) : Nat) : Int)))) then (bif ((aO (aU d.1 (bF (List.take (Int.toNat v) d.2.2.1))).1) && (aO r.2.2.2.2.2)) then (bif (!(fE (aU d.1 (bF (List.take (Int.toNat v) d.2.2.1))).1 (r.2.2.1, ((bif (r.1 != (3 : Int)) then (IntKind.wrap .i64 (r.2.2.2.1 - r.2.2.1)) else (0 : Int)), r.2.2.2.2.2)))) then K ((.t [(.a [(.s (.int .i64 (0 : Int))), (.s (.int .i64 (0 : Int))), (.l .deep ah ([] : List Int))]), (.s (.int .i64 (5 : Int)))]), []) else (bif ((decide ((0 : Int) ≤ v)) && (decide (v ≤ (((List.length d.2.2.1) : Nat) : Int)))) then (wU (List.drop (Int.toNat v) d.2.2.1) (((List.length (List.drop (Int.toNat v) d.2.2.1)) : Nat) : Int) (0 : Int) (0 : Int) (0 : Int) r.2.2.1 (bif (r.1 != (3 : Int)) then (IntKind.wrap .i64 (r.2.2.2.1 - r.2.2.1)) else (0 : Int)) r.2.2.2.2.2 (fun y0 y1 y2 y3 y4 => K ((.t [(.a [(.s (.int .i64 y2)), (.s (.int .i64 y3)), (.l .deep ah y4)]), (.s (.int .i64 (0 : Int)))]), [])) (fun y5 y6 y7 y8 y9 => K ((.t [(.a [(.s (.int .i64 y7)), (.s (.int .i64 y8)), (.l .no ah y9)]), (.s (.int .i64 (0 : Int)))]), []))) else none)) else none) else none) else none)) else none)
theorem aiA (d : bT) (r : uD) (v : Int) (K : aj → Option aj) : dL Nv false F.uq [.a (bH.cells .no d), .a (gV.cells .no r), .s (.int .i64 v)] K = Nw d r v K := by kernel_rfl
theorem agn {l : List aA} {e : ay} {k0 k1 : Int → Int → Int → Int → (List Int) → Option aj} (hl : l.length ≤ 1048576) (hs : ∀ k, k ≤ (bF l).length → aZ (((bF l).take k).foldl iW e) = true) (hb : ∀ b ∈ bF l, aZ b = true) : ∀ (m i : Nat), i ≤ l.length → l.length - i < m →
  jP m l ((l.length : Nat) : Int) ((i : Nat) : Int) 0 0 (((bF l).take i).foldl iW e).1 (((bF l).take i).foldl iW e).2.1 (((bF l).take i).foldl iW e).2.2 k0 k1 = k1 0 0 ((bF l).foldl iW e).1 ((bF l).foldl iW e).2.1 ((bF l).foldl iW e).2.2
 | 0, i, _, h => absurd h (by omega)
 | m + 1, i, h1, h2 => by
  have hll : (bF l).length = l.length := by unfold bF; rw [List.length_map]
  show wS l ((l.length : Nat) : Int) ((i : Nat) : Int) 0 0 _ _ _ _ _ _ _ = _
  unfold wS
  by_cases h : i < l.length
  ·have hi : i < (bF l).length := by omega
   have e1 : (l.getD i aF.dflt).2 = (bF l)[i] := by
    rw [getD_lt _ h]; exact (List.getElem_map _).symm
   have e2 : iW (((bF l).take i).foldl iW e) (bF l)[i] = ((bF l).take (i + 1)).foldl iW e := by
    rw [List.take_succ_eq_append_getElem hi, List.foldl_append]; rfl
   have q1 := hs i (by omega)
   have q2 := hb (bF l)[i] (List.getElem_mem hi)
   have q3 := agn (k0 := k0) (k1 := k1) hl hs hb m (i + 1) (by omega) (by omega)
   rw [← e2] at q3
   rw [decide_eq_true (show ((i : Nat) : Int) < ((l.length : Nat) : Int) by omega), decide_eq_true (show (0 : Int) ≤ ((i : Nat) : Int) by omega), Int.toNat_natCast, bW (by omega), e1]
   revert q1 q3
   generalize ((bF l).take i).foldl iW e = x
   intro q1 q3
   show (bif true && true then (bif aZ x && aZ (bF l)[i] then _ else none) else none) = _
   rw [q1, q2]
   exact q3
  ·obtain rfl : i = l.length := by omega
   rw [decide_eq_false (show ¬ ((l.length : Nat) : Int) < ((l.length : Nat) : Int) by omega), show List.take l.length (bF l) = bF l from by rw [← hll, List.take_length]]; rfl
def XP : Sm := bg [.a bH, .a gV, .i] (fun d => cZ bH d.1 && aO d.2.1.2.2.2.2.2 && jc d.1 && (decide (0 ≤ d.2.2.1) && decide (d.2.2.1 ≤ ((d.1.2.2.1.length : Nat) : Int)))) (fun d => (.t [.a (aB.cells .no (uU d.1 d.2.1 d.2.2.1).1), .s (.int .i64 (uU d.1 d.2.1 d.2.2.1).2)], []))
theorem aiB (d : bT) (r : uD) (v : Int) (h : (cZ bH d && aO r.2.2.2.2.2 && jc d && (decide (0 ≤ v) && decide (v ≤ ((d.2.2.1.length : Nat) : Int)))) = true) (K : aj → Option aj) : Nw d r v (noK K) = K (.t [.a (aB.cells .no (uU d r v).1), .s (.int .i64 (uU d r v).2)], []) := by
 simp only [Bool.and_eq_true, decide_eq_true_eq] at h
 obtain ⟨⟨⟨h0, h1⟩, h2⟩, q2, q3⟩ := h
 obtain ⟨f1, f2, f3, f4, f5⟩ := wu h0
 unfold jc at h2
 simp only [Bool.and_eq_true] at h2
 obtain ⟨⟨ht, hdn⟩, hu⟩ := h2
 have hup := as7 hu
 have hf := aqO (f := fun x : au => x.1) aC.dflt hup r.2.1
 have hmo := anI (f := fun x : au => x.1) hup r.2.1
 have hfa : aO (aU d.1 (bF (d.2.2.1.take v.toNat))).1 = true := AX f1 (AV (vS f3 _))
 have hat : (aU d.1 (bF (d.2.2.1.take v.toNat))).1.length ≤ 400 := ahf _ _
 have hsp := amr (k := v.toNat) ht hdn
 unfold Nw uU
 rw [hf, hmo, h0, h1, decide_eq_true q2, decide_eq_true q3, hfa]
 generalize (aU d.1 (bF (d.2.2.1.take v.toNat))).1 = tx at *
 cases hfo : J3 (fun x : au => decide (zY x.1 r.2.1 < 0)) (fun x : au => zY x.1 r.2.1 == 0) aC.dflt d.2.2.2.2.1 with
 | false => rfl
 | true =>
  rw [show decide ((bif true then (((zA (fun x : au => decide (zY x.1 r.2.1 < 0)) d.2.2.2.2.1) : Nat) : Int) else -1) ≥ 0) = true from decide_eq_true (Int.natCast_nonneg _)]
  show (bif !(fE tx (lY r)) then _ else _) = _
  cases hfi : fE tx (lY r) with
  | false => rfl
  | true =>
   have hin := aqP hfi
   obtain ⟨w1, w2, w3⟩ := aak (bF (d.2.2.1.drop v.toNat)) tx (lY r) hat hin hsp
   have hsm : wZ (lY r) (bF (d.2.2.1.drop v.toNat)) = ((bF (d.2.2.1.drop v.toNat)).foldl iW (lY r), true) := by
    unfold wZ
    rw [hin.small hat, cond_true, w1]
   rw [hsm]
   have hlen := dN (Ym f3 v.toNat)
   generalize List.drop v.toNat d.2.2.1 = l at *
   show wU l ((l.length : Nat) : Int) 0 0 0 (lY r).1 (lY r).2.1 (lY r).2.2 _ _ = _
   generalize lY r = e at *
   unfold wU
   show wR l ((l.length : Nat) : Int) 0 0 0 e.1 e.2.1 e.2.2 _ _ _ _ = _
   unfold wR
   cases l with
   | nil => rfl
   | cons c l' =>
    have z1 := w2 0 (Nat.zero_le _)
    have z2 := w3 c.2 (by simp [bF])
    rw [decide_eq_true (show (0 : Int) < (((c :: l').length : Nat) : Int) by simp)]
    show (bif true then (bif true && true then (bif aZ e && aZ c.2 then _ else none) else none) else _) = _
    rw [show aZ e = true from z1, z2]
    exact agn hlen w2 w3 _ 1 (by simp) (by omega)
theorem aer : aV prog I N.uq false XP := kD (aV.no (aW (fresh := false) (aY Zx (aY abC (aY aiw (aY NV (aY Zy bn))))) (l := TI) (p := TG) (ls := [(8, [6,10,35,36,37], [6,7,10], BR)]) (lend := []) (focus := false) (fuel := 0) (give := []) (fn := F.uq) (by kernel_rfl) (by kernel_rfl) (by kernel_rfl) (by kernel_rfl) (cs := [aS F.uq 8]) (by kernel_rfl) (dA UW aK))) (aI fun d K h => (aiA d.1 d.2.1 d.2.2.1 (noK K)).trans (aiB d.1 d.2.1 d.2.2.1 h K))
end Go.Ev.Seat
end
section
namespace Go.Ev.Seat
open Go.RowKit
set_option maxRecDepth 100000
set_option linter.unusedVariables false
set_option linter.unusedSimpArgs false
noncomputable abbrev agp : List (Nat × Bool × Sm) := [(N.Jk, true, agm), (N.Ag, true, QG), (N.G9, true, XF), (N.i_in, true, Dt), (N.qp, true, JJ), (N.uq, false, XP), (N.zK, true, Kz)]
noncomputable abbrev aq7 : Env := En agp [] [] [] false 0 []
noncomputable def aes (d : bT) (o : iP) (K : aj → Option aj) : Option aj := (bif (aO o.2.2.2.2.2.1) then (bif (!(dB (o.1, (o.2.1, (o.2.2.1, (o.2.2.2.1, (o.2.2.2.2.1, o.2.2.2.2.2.1))))))) then K ((.s (.bool false)), []) else (bif (aO o.2.2.2.2.2.2.2.2.2.2.2.2) then (bif (Bo o) then K ((.s (.bool true)), []) else (bif (!(fG o.1)) then K ((.s (.bool false)), []) else (bif (!((decide ((1 : Int) ≤ o.2.2.2.2.2.2.1)) && (decide (o.2.2.2.2.2.2.1 ≤ (2 : Int))))) then K ((.s (.bool false)), []) else (bif (!((decide ((0 : Int) ≤ o.2.2.2.2.2.2.2.1)) && (decide (o.2.2.2.2.2.2.2.1 ≤ o.2.2.2.2.2.2.2.2.1)))) then K ((.s (.bool false)), []) else (bif (!((decide ((0 : Int) ≤ o.2.2.2.2.2.2.2.2.1)) && (decide (o.2.2.2.2.2.2.2.2.1 ≤ (((List.length d.2.2.1) : Nat) : Int))))) then K ((.s (.bool false)), []) else (bif (!((decide ((0 : Int) ≤ o.2.2.2.2.2.2.2.2.2.1)) && (decide (o.2.2.2.2.2.2.2.2.2.1 ≤ (7 : Int))))) then K ((.s (.bool false)), []) else (bif ((decide ((0 : Int) ≤ o.2.2.2.2.2.2.2.2.1)) && (decide (o.2.2.2.2.2.2.2.2.1 ≤ (((List.length d.2.2.1) : Nat) : Int)))) then (bif ((((cZ bH (d.1, (d.2.1, ((List.take (Int.toNat o.2.2.2.2.2.2.2.2.1) d.2.2.1), d.2.2.2)))) && (aO o.2.2.2.2.2.1)) && (jc (d.1, (d.2.1, ((List.take (Int.toNat o.2.2.2.2.2.2.2.2.1) d.2.2.1), d.2.2.2))))) && ((decide ((0 : Int) ≤ o.2.2.2.2.2.2.2.1)) && (decide (o.2.2.2.2.2.2.2.1 ≤ (((List.length (List.take (Int.toNat o.2.2.2.2.2.2.2.2.1) d.2.2.1)) : Nat) : Int))))) then (bif ((uU (d.1, (d.2.1, ((List.take (Int.toNat o.2.2.2.2.2.2.2.2.1) d.2.2.1), d.2.2.2))) (o.1, (o.2.1, (o.2.2.1, (o.2.2.2.1, (o.2.2.2.2.1, o.2.2.2.2.2.1))))) o.2.2.2.2.2.2.2.1).2 == (0 : Int)) then (bif ((aO (uU (d.1, (d.2.1, ((List.take (Int.toNat o.2.2.2.2.2.2.2.2.1) d.2.2.1), d.2.2.2))) (o.1, (o.2.1, (o.2.2.1, (o.2.2.2.1, (o.2.2.2.2.1, o.2.2.2.2.2.1))))) o.2.2.2.2.2.2.2.1).1.2.2) && (aO o.2.2.2.2.2.2.2.2.2.2.2.2)) then K ((.s (.bool (iL (uU (d.1, (d.2.1, ((List.take (Int.toNat o.2.2.2.2.2.2.2.2.1) d.2.2.1), d.2.2.2))) (o.1, (o.2.1, (o.2.2.1, (o.2.2.2.1, (o.2.2.2.2.1, o.2.2.2.2.2.1))))) o.2.2.2.2.2.2.2.1).1 o.2.2.2.2.2.2.2.2.2.2))), []) else none) else K ((.s (.bool false)), [])) else none) else none))))))) else none)) else none)
theorem aq8 (d : bT) (o : iP) (K : aj → Option aj) : dL aq7 true F.acA [.a (bH.cells .no d), .a (bf.cells .no o)] K = aes d o K := by kernel_rfl
def ak9 : Sm := bg [.a bH, .a bf] (fun d => cZ bH d.1 && jc d.1 && cZ bf d.2.1) (fun d => (bl (Bv d.1 d.2.1), []))
theorem aq9 (d : bT) (o : iP) (h : (cZ bH d && jc d && cZ bf o) = true) (K : aj → Option aj) : aes d o K = K (bl (Bv d o), []) := by
 simp only [Bool.and_eq_true] at h
 obtain ⟨⟨h1, h2⟩, h3⟩ := h
 have t1 := ahS h3
 have t2 := aqQ h3
 have c1 := ar5 (v := bJ o) h1
 have c2 := amu (v := bJ o) h2
 have f1 := agf (d := Bq d (bJ o)) (v := bP o) t1
 unfold aes Bv
 change (bif aO (jZ o).2.2.2.2.2 then (bif !(dB (jZ o)) then _ else (bif aO (uV o).2.2 then (bif Bo o then _ else (bif !(fG o.1) then _ else (bif !(decide (1 ≤ gY o) && decide (gY o ≤ 2)) then _ else (bif !(decide (0 ≤ bP o) && decide (bP o ≤ bJ o)) then _ else (bif !(decide (0 ≤ bJ o) && decide (bJ o ≤ ((d.2.2.1.length : Nat) : Int))) then _ else (bif !(decide (0 ≤ jR o) && decide (jR o ≤ 7)) then _ else (bif (decide (0 ≤ bJ o) && decide (bJ o ≤ ((d.2.2.1.length : Nat) : Int))) then (bif cZ bH (Bq d (bJ o)) && aO (jZ o).2.2.2.2.2 && jc (Bq d (bJ o)) && (decide (0 ≤ bP o) && decide (bP o ≤ (((List.take (bJ o).toNat d.2.2.1).length : Nat) : Int))) then (bif (uU (Bq d (bJ o)) (jZ o) (bP o)).2 == 0 then (bif aO (uU (Bq d (bJ o)) (jZ o) (bP o)).1.2.2 && aO (uV o).2.2 then K (bl (iL (uU (Bq d (bJ o)) (jZ o) (bP o)).1 (uV o)), []) else none) else _) else none) else none))))))) else none)) else none) = _
 rw [t1, t2, c1, c2, f1]
 cases dB (jZ o)
 ·rfl
 cases Bo o
 case true => rfl
 cases fG o.1
 ·rfl
 cases (decide (1 ≤ gY o) && decide (gY o ≤ 2))
 ·rfl
 cases hf : (decide (0 ≤ bP o) && decide (bP o ≤ bJ o))
 ·rfl
 cases hb : (decide (0 ≤ bJ o) && decide (bJ o ≤ ((d.2.2.1.length : Nat) : Int)))
 ·rfl
 cases (decide (0 ≤ jR o) && decide (jR o ≤ 7))
 ·rfl
 simp only [Bool.and_eq_true, decide_eq_true_eq] at hf hb
 rw [decide_eq_true hf.1, decide_eq_true (show bP o ≤ (((List.take (bJ o).toNat d.2.2.1).length : Nat) : Int) by rw [List.length_take]; omega)]
 cases ((uU (Bq d (bJ o)) (jZ o) (bP o)).2 == 0) <;> rfl
theorem amL : aV prog I N.acA true ak9 := kD (aW (aY ak8 (aY Zt (aY aeh (aY qR (aY RF (aY aer (aY Oa bn))))))) (l := agp) (p := []) (ls := []) (lend := []) (focus := false) (fuel := 0) (give := []) (fn := F.acA) (by kernel_rfl) (by kernel_rfl) (by kernel_rfl) (by kernel_rfl) (cs := []) (by kernel_rfl) aK) (aI fun d K h => (aq8 d.1 d.2.1 K).trans (aq9 d.1 d.2.1 h K))
end Go.Ev.Seat
end
section
namespace Go.Ev.Seat
open Go.RowKit
set_option maxRecDepth 100000
set_option linter.unusedVariables false
set_option linter.unusedSimpArgs false
def BU (x2 : Bool) : St := { tm := ([.x, .x, (.s (.bool x2))] ++ List.replicate 38 .x), ob := [], nx := 0, io := [] }
def BX : St := { tm := ([] ++ List.replicate 41 .x), ob := [], nx := 0, io := [] }
def zn : Ss := { tm := (.cons (.x) (.cons (.pb 0 0) (.cons (.x) (.cons (.x) (.cons (.x) (.cons (.x) (.cons (.x) (.cons (.x) (.cons (.x) (.cons (.x) (.cons (.l .no bf) (.cons (.int .i64) (.cons (.int .i64) (Fj 28)))))))))))))), ob := (.box (.cons (.l .no ah) (.cons (.l .no ah) (.cons (.l .no aF) (.cons (.int .i64) (.cons (.l .no aC) (.cons (.l .no aH) (.cons (.l .no bf) .nil))))))) .nil), nx := 1, io := .nil }
def aeu (x10 : List iP) (x11 : Int) (x12 : Int) (b00 : List Int) (b01 : List Int) (b02 : List aA) (aJ : Int) (aN : List au) (aQ : List ak) (bD : List iP) : zn.T := (((), ((), ((), ((), ((), ((), ((), ((), ((), ((), (x10, (x11, (x12, xd 28))))))))))))), ((b00, (b01, (b02, (aJ, (aN, (aQ, (bD, ()))))))), ()), ())
def vC (x10 : List iP) (x11 : Int) (x12 : Int) (b00 : List Int) (b01 : List Int) (b02 : List aA) (aJ : Int) (aN : List au) (aQ : List ak) (bD : List iP) : St := { tm := ([.x, (.pb 0 0), .x, .x, .x, .x, .x, .x, .x, .x, (.l .no bf x10), (.s (.int .i64 x11)), (.s (.int .i64 x12))] ++ List.replicate 28 .x), ob := [(0, (.box [(.l .no ah b00), (.l .no ah b01), (.l .no aF b02), (.s (.int .i64 aJ)), (.l .no aC aN), (.l .no aH aQ), (.l .no bf bD)]))], nx := 1, io := [] }
theorem abE (x10 : List iP) (x11 : Int) (x12 : Int) (b00 : List Int) (b01 : List Int) (b02 : List aA) (aJ : Int) (aN : List au) (aQ : List ak) (bD : List iP) : zn.mk' (aeu x10 x11 x12 b00 b01 b02 aJ aN aQ bD) = (vC x10 x11 x12 b00 b01 b02 aJ aN aQ bD) := by kernel_rfl
def aev (d : zn.T) (f : (List iP) → Int → Int → (List Int) → (List Int) → (List aA) → Int → (List au) → (List ak) → (List iP) → Option aj) : Option aj := match d with | ((_, (_, (_, (_, (_, (_, (_, (_, (_, (_, (x10, (x11, (x12, _))))))))))))), ((b00, (b01, (b02, (aJ, (aN, (aQ, (bD, _))))))), _), _) => f x10 x11 x12 b00 b01 b02 aJ aN aQ bD
noncomputable def BZ (x10 : List iP) (x11 : Int) (x12 : Int) (b00 : List Int) (b01 : List Int) (b02 : List aA) (aJ : Int) (aN : List au) (aQ : List ak) (bD : List iP) (lC : (List iP) → Int → Int → (List Int) → (List Int) → (List aA) → Int → (List au) → (List ak) → (List iP) → Option aj) (k0 : Bool → Option aj) (k1 : Option aj) : Option aj := (bif (decide (x12 < x11)) then (bif ((decide ((0 : Int) ≤ x12)) && (decide (x12 < (((List.length x10) : Nat) : Int)))) then (bif (((cZ bH (b00, (b01, (b02, (aJ, (aN, aQ)))))) && (jc (b00, (b01, (b02, (aJ, (aN, aQ))))))) && (cZ bf (List.getD x10 (Int.toNat x12) (bf.dflt)))) then (bif (!(Bv (b00, (b01, (b02, (aJ, (aN, aQ))))) (List.getD x10 (Int.toNat x12) (bf.dflt)))) then (k0 false) else (bif (decide (x12 > (0 : Int))) then (bif ((decide ((0 : Int) ≤ (IntKind.wrap .i64 (x12 - (1 : Int))))) && (decide ((IntKind.wrap .i64 (x12 - (1 : Int))) < (((List.length bD) : Nat) : Int)))) then (bif (decide ((List.getD bD (Int.toNat (IntKind.wrap .i64 (x12 - (1 : Int)))) (bf.dflt)).2.1 ≥ (List.getD x10 (Int.toNat x12) (bf.dflt)).2.1)) then (k0 false) else (lC x10 x11 (IntKind.wrap .i64 (x12 + (1 : Int))) b00 b01 b02 aJ aN aQ bD)) else none) else (lC x10 x11 (IntKind.wrap .i64 (x12 + (1 : Int))) b00 b01 b02 aJ aN aQ bD))) else none) else none) else k1)
noncomputable def oZ : Nat → (List iP) → Int → Int → (List Int) → (List Int) → (List aA) → Int → (List au) → (List ak) → (List iP) → (Bool → Option aj) → (Option aj) → Option aj
 | 0, _, _, _, _, _, _, _, _, _, _, _, _ => none
 | m + 1, x10, x11, x12, b00, b01, b02, aJ, aN, aQ, bD, k0, k1 => BZ x10 x11 x12 b00 b01 b02 aJ aN aQ bD (fun x10 x11 x12 b00 b01 b02 aJ aN aQ bD => (oZ m x10 x11 x12 b00 b01 b02 aJ aN aQ bD k0 k1)) k0 k1
noncomputable def Cb (x10 : List iP) (x11 : Int) (x12 : Int) (b00 : List Int) (b01 : List Int) (b02 : List aA) (aJ : Int) (aN : List au) (aQ : List ak) (bD : List iP) (k0 : Bool → Option aj) (k1 : Option aj) : Option aj := oZ (List.length x10 + x11.toNat + x12.toNat + List.length b00 + List.length b01 + List.length b02 + aJ.toNat + List.length aN + List.length aQ + List.length bD + 2) x10 x11 x12 b00 b01 b02 aJ aN aQ bD k0 k1
noncomputable def Gi : dV := (fun (σ : St) (K : Ex → St → Option aj) => (match zn.un σ with | some d => aev d (fun x10 x11 x12 b00 b01 b02 aJ aN aQ bD => Cb x10 x11 x12 b00 b01 b02 aJ aN aQ bD (fun x2 => (K .ret (BU x2))) (K (.ext 0) BX)) | none => none))
noncomputable abbrev aaB : List (Nat × Plan × List Nat) := [(6, takeB [0, 1, 2] (.fork (.one 3 (takes [4, 5, 6, 7, 8, 9, 10, 11, 12, 13, 14, 15, 16, 17, 18, 19, 20, 21, 22]))), [])]
noncomputable abbrev aaC : List (Nat × Bool × Sm) := [(N.Vs, true, agk), (N.acA, true, ak9)]
noncomputable abbrev UY : Env := En aaC aaB [(4, [1,10,11,12], [2], Gi)] [] false 0 []
noncomputable abbrev Ce := rounds (run UY (aS F.Ej 4)) [1,10,11,12] [2]
theorem abG (m : Nat) (x10 : List iP) (x11 : Int) (x12 : Int) (b00 : List Int) (b01 : List Int) (b02 : List aA) (aJ : Int) (aN : List au) (aQ : List ak) (bD : List iP) (K : Ex → St → Option aj) : Ce (m + 1) (vC x10 x11 x12 b00 b01 b02 aJ aN aQ bD) K = BZ x10 x11 x12 b00 b01 b02 aJ aN aQ bD (fun x10 x11 x12 b00 b01 b02 aJ aN aQ bD => (Ce m (vC x10 x11 x12 b00 b01 b02 aJ aN aQ bD) K)) (fun x2 => (K .ret (BU x2))) (K (.ext 0) BX) := by kernel_rfl
theorem XQ (K : Ex → St → Option aj) : ∀ m : Nat, (∀ (x10 : List iP) (x11 : Int) (x12 : Int) (b00 : List Int) (b01 : List Int) (b02 : List aA) (aJ : Int) (aN : List au) (aQ : List ak) (bD : List iP), Ce m (vC x10 x11 x12 b00 b01 b02 aJ aN aQ bD) K = oZ m x10 x11 x12 b00 b01 b02 aJ aN aQ bD (fun x2 => (K .ret (BU x2))) (K (.ext 0) BX))
 | 0 => (fun _ _ _ _ _ _ _ _ _ _ => rfl)
 | m + 1 => (fun x10 x11 x12 b00 b01 b02 aJ aN aQ bD => (by rw [abG, show (fun x10 x11 x12 b00 b01 b02 aJ aN aQ bD => (Ce m (vC x10 x11 x12 b00 b01 b02 aJ aN aQ bD) K)) = (fun x10 x11 x12 b00 b01 b02 aJ aN aQ bD => (oZ m x10 x11 x12 b00 b01 b02 aJ aN aQ bD (fun x2 => (K .ret (BU x2))) (K (.ext 0) BX))) from funext fun x10 => funext fun x11 => funext fun x12 => funext fun b00 => funext fun b01 => funext fun b02 => funext fun aJ => funext fun aN => funext fun aQ => funext fun bD => (XQ K m) x10 x11 x12 b00 b01 b02 aJ aN aQ bD]; rfl))
theorem ZF : dJ UY (aS F.Ej 4) := by
 refine dh (n := 4) (F := Gi) (by kernel_rfl) rfl (li := [1,10,11,12]) (lo := [2]) rfl (fun σ K r hr => ?_)
 unfold Gi at hr
 split at hr
 ·rename_i d hd
  rw [Ss.dY hd]
  exact ⟨_, ((congrArg (fun z => Ce _ z K) (abE _ _ _ _ _ _ _ _ _ _)).trans ((XQ K _) _ _ _ _ _ _ _ _ _ _)).trans hr⟩
 ·cases hr
noncomputable def UZ (m : uF) (K : aj → Option aj) : Option aj := (bif (cZ bH (m.1, (m.2.1, (m.2.2.1, (m.2.2.2.1, (m.2.2.2.2.1, m.2.2.2.2.2.1)))))) then (bif (!(jk (m.1, (m.2.1, (m.2.2.1, (m.2.2.2.1, (m.2.2.2.2.1, m.2.2.2.2.2.1))))))) then K ((.s (.bool false)), []) else (Cb m.2.2.2.2.2.2 (((List.length m.2.2.2.2.2.2) : Nat) : Int) (0 : Int) m.1 m.2.1 m.2.2.1 m.2.2.2.1 m.2.2.2.2.1 m.2.2.2.2.2.1 m.2.2.2.2.2.2 (fun y0 => K ((.s (.bool y0)), [])) (K ((.s (.bool true)), [])))) else none)
theorem amM (m : uF) (K : aj → Option aj) : dL UY true F.Ej [.a (eY.cells .no m)] K = UZ m K := by kernel_rfl
theorem ala {m : uF} (h : cZ eY m = true) : cZ bH (sK m) = true ∧ fF (.sl bf) (opsOf m) = true := by
 have h1 := kR h
 have h2 := kR (aX h)
 have h3 := kR (aX (aX h))
 have h4 := kR (aX (aX (aX h)))
 have h5 := kR (aX (aX (aX (aX h))))
 have h6 := kR (aX (aX (aX (aX (aX h)))))
 have h7 := aX (aX (aX (aX (aX (aX h)))))
 exact ⟨(Bool.and_eq_true _ _).mpr ⟨h1, (Bool.and_eq_true _ _).mpr ⟨h2, (Bool.and_eq_true _ _).mpr ⟨h3, (Bool.and_eq_true _ _).mpr ⟨h4, (Bool.and_eq_true _ _).mpr ⟨h5, h6⟩⟩⟩⟩⟩, h7⟩
theorem agq {d : bT} {l : List iP} {k0 : Bool → Option aj} {k1 : Option aj} (h1 : cZ bH d = true) (h2 : jc d = true) (h3 : fF (.sl bf) l = true) : ∀ (f i : Nat), i ≤ l.length → l.length - i < f →
  oZ f l ((l.length : Nat) : Int) ((i : Nat) : Int) d.1 d.2.1 d.2.2.1 d.2.2.2.1 d.2.2.2.2.1 d.2.2.2.2.2 l k0 k1 = bif (List.range' i (l.length - i)).all (Lp d l) then k1 else k0 false
 | 0, i, _, h => absurd h (by omega)
 | f + 1, i, hi, hf => by
  have hl := dN h3
  show BZ l ((l.length : Nat) : Int) ((i : Nat) : Int) d.1 d.2.1 d.2.2.1 d.2.2.2.1 d.2.2.2.2.1 d.2.2.2.2.2 l _ _ _ = _
  unfold BZ
  by_cases h : i < l.length
  ·have ih := agq (k0 := k0) (k1 := k1) h1 h2 h3 f (i + 1) (by omega) (by omega)
   obtain ⟨n, hn⟩ : ∃ n, l.length - i = n + 1 := ⟨l.length - i - 1, by omega⟩
   rw [show l.length - (i + 1) = n by omega] at ih
   rw [hn, List.range'_succ, List.all_cons, decide_eq_true (show ((i : Nat) : Int) < ((l.length : Nat) : Int) by omega), decide_eq_true (show (0 : Int) ≤ ((i : Nat) : Int) by omega), Int.toNat_natCast, bW (by omega)]
   change (bif cZ bH d && jc d && cZ bf (l.getD i bf.dflt) then (bif !(Bv d (l.getD i bf.dflt)) then k0 false else (bif decide (((i : Nat) : Int) > 0) then _ else oZ f l ((l.length : Nat) : Int) ((i + 1 : Nat) : Int) d.1 d.2.1 d.2.2.1 d.2.2.2.1 d.2.2.2.2.1 d.2.2.2.2.2 l k0 k1)) else none) = _
   have e : Lp d l i = (Bv d (l.getD i bf.dflt) && (Nat.beq i 0 || decide ((l.getD (i - 1) bf.dflt).2.1 < (l.getD i bf.dflt).2.1))) := rfl
   rw [h1, h2, vP h3 rfl i, e]
   cases Bv d (l.getD i bf.dflt) with
   | false => rfl
   | true =>
    cases i with
    | zero => exact ih
    | succ j =>
     rw [decide_eq_true (show ((j + 1 : Nat) : Int) > 0 by omega), wrap_in (n := ((j + 1 : Nat) : Int) - 1) (by omega) (by omega), decide_eq_true (show (0 : Int) ≤ ((j + 1 : Nat) : Int) - 1 by omega), decide_eq_true (show ((j + 1 : Nat) : Int) - 1 < ((l.length : Nat) : Int) by omega), show (((j + 1 : Nat) : Int) - 1).toNat = j by omega]
     by_cases hc : (l.getD j bf.dflt).2.1 < (l.getD (j + 1) bf.dflt).2.1
     ·rw [decide_eq_true (show (l.getD (j + 1 - 1) bf.dflt).2.1 < (l.getD (j + 1) bf.dflt).2.1 from hc), decide_eq_false (show ¬ (l.getD j bf.dflt).2.1 ≥ (l.getD (j + 1) bf.dflt).2.1 by omega)]
      exact ih
     ·rw [decide_eq_false (show ¬ (l.getD (j + 1 - 1) bf.dflt).2.1 < (l.getD (j + 1) bf.dflt).2.1 from hc), decide_eq_true (show (l.getD j bf.dflt).2.1 ≥ (l.getD (j + 1) bf.dflt).2.1 by omega)]
      rfl
  ·obtain rfl : i = l.length := by omega
   rw [decide_eq_false (show ¬ ((l.length : Nat) : Int) < ((l.length : Nat) : Int) by omega), Nat.sub_self]; rfl
def aew : Sm := bg [.a eY] (fun d => cZ eY d.1) (fun d => (bl (wB d.1), []))
theorem amN (m : uF) (h : (cZ eY m) = true) (K : aj → Option aj) : UZ m K = K (bl (wB m), []) := by
 obtain ⟨h1, h2⟩ := ala h
 unfold UZ wB
 change (bif cZ bH (sK m) then (bif !(jk (sK m)) then _ else (Cb (opsOf m) (((opsOf m).length : Nat) : Int) 0 (sK m).1 (sK m).2.1 (sK m).2.2.1 (sK m).2.2.2.1 (sK m).2.2.2.2.1 (sK m).2.2.2.2.2 (opsOf m) _ _)) else none) = _
 rw [h1]
 cases hk : jk (sK m) with
 | false => rfl
 | true =>
  have q := agq (k0 := fun y0 => K ((.s (.bool y0)), [])) (k1 := K ((.s (.bool true)), [])) h1 (ams hk) h2
  unfold Cb
  refine (q _ 0 (Nat.zero_le _) (by omega)).trans ?_
  unfold Ar
  rw [Nat.sub_zero]
  cases (List.range' 0 (opsOf m).length).all (Lp (sK m) (opsOf m)) <;> rfl
theorem aiC : aV prog I N.Ej true aew := kD (aW (aY ak6 (aY amL bn)) (l := aaC) (p := aaB) (ls := [(4, [1,10,11,12], [2], Gi)]) (lend := []) (focus := false) (fuel := 0) (give := []) (fn := F.Ej) (by kernel_rfl) (by kernel_rfl) (by kernel_rfl) (by kernel_rfl) (cs := [aS F.Ej 4]) (by kernel_rfl) (dA ZF aK)) (aI fun d K h => (amM d.1 K).trans (amN d.1 h K))
end Go.Ev.Seat
end
section
namespace Go.Ev.Seat
open Go.RowKit
set_option maxRecDepth 100000
set_option linter.unusedVariables false
set_option linter.unusedSimpArgs false
def Ci (x2 : Bool) : St := { tm := ([.x, .x, (.s (.bool x2))] ++ List.replicate 117 .x), ob := [], nx := 0, io := [] }
def Cj : St := { tm := ([] ++ List.replicate 120 .x), ob := [], nx := 0, io := [] }
def zo : Ss := { tm := (.cons (.x) (.cons (.pb 0 0) (.cons (.x) (.cons (.int .i64) (Fj 116))))), ob := (.box (.cons (.l .no ah) (.cons (.l .no ah) (.cons (.l .no aF) (.cons (.int .i64) (.cons (.l .no aC) (.cons (.l .no aH) (.cons (.l .no bf) .nil))))))) .nil), nx := 1, io := .nil }
def aex (x3 : Int) (b00 : List Int) (b01 : List Int) (b02 : List aA) (aJ : Int) (aN : List au) (aQ : List ak) (bD : List iP) : zo.T := (((), ((), ((), (x3, xd 116)))), ((b00, (b01, (b02, (aJ, (aN, (aQ, (bD, ()))))))), ()), ())
def vF (x3 : Int) (b00 : List Int) (b01 : List Int) (b02 : List aA) (aJ : Int) (aN : List au) (aQ : List ak) (bD : List iP) : St := { tm := ([.x, (.pb 0 0), .x, (.s (.int .i64 x3))] ++ List.replicate 116 .x), ob := [(0, (.box [(.l .no ah b00), (.l .no ah b01), (.l .no aF b02), (.s (.int .i64 aJ)), (.l .no aC aN), (.l .no aH aQ), (.l .no bf bD)]))], nx := 1, io := [] }
theorem abH (x3 : Int) (b00 : List Int) (b01 : List Int) (b02 : List aA) (aJ : Int) (aN : List au) (aQ : List ak) (bD : List iP) : zo.mk' (aex x3 b00 b01 b02 aJ aN aQ bD) = (vF x3 b00 b01 b02 aJ aN aQ bD) := by kernel_rfl
def aey (d : zo.T) (f : Int → (List Int) → (List Int) → (List aA) → Int → (List au) → (List ak) → (List iP) → Option aj) : Option aj := match d with | ((_, (_, (_, (x3, _)))), ((b00, (b01, (b02, (aJ, (aN, (aQ, (bD, _))))))), _), _) => f x3 b00 b01 b02 aJ aN aQ bD
noncomputable def Cm (x3 : Int) (b00 : List Int) (b01 : List Int) (b02 : List aA) (aJ : Int) (aN : List au) (aQ : List ak) (bD : List iP) (lC : Int → (List Int) → (List Int) → (List aA) → Int → (List au) → (List ak) → (List iP) → Option aj) (k0 : Bool → Option aj) (k1 : Option aj) : Option aj := (bif (decide (x3 < (((List.length bD) : Nat) : Int))) then (bif ((decide ((0 : Int) ≤ x3)) && (decide (x3 < (((List.length bD) : Nat) : Int)))) then (bif (aO (List.getD bD (Int.toNat x3) (bf.dflt)).2.2.2.2.2.1) then (bif (!(dB ((List.getD bD (Int.toNat x3) (bf.dflt)).1, ((List.getD bD (Int.toNat x3) (bf.dflt)).2.1, ((List.getD bD (Int.toNat x3) (bf.dflt)).2.2.1, ((List.getD bD (Int.toNat x3) (bf.dflt)).2.2.2.1, ((List.getD bD (Int.toNat x3) (bf.dflt)).2.2.2.2.1, (List.getD bD (Int.toNat x3) (bf.dflt)).2.2.2.2.2.1))))))) then (k0 false) else (bif (decide (x3 > (0 : Int))) then (bif ((decide ((0 : Int) ≤ (IntKind.wrap .i64 (x3 - (1 : Int))))) && (decide ((IntKind.wrap .i64 (x3 - (1 : Int))) < (((List.length bD) : Nat) : Int)))) then (bif (decide ((List.getD bD (Int.toNat (IntKind.wrap .i64 (x3 - (1 : Int)))) (bf.dflt)).2.1 ≥ (List.getD bD (Int.toNat x3) (bf.dflt)).2.1)) then (k0 false) else (bif (aO (List.getD bD (Int.toNat x3) (bf.dflt)).2.2.2.2.2.2.2.2.2.2.2.2) then (bif (Bo (List.getD bD (Int.toNat x3) (bf.dflt))) then (lC (IntKind.wrap .i64 (x3 + (1 : Int))) b00 b01 b02 aJ aN aQ bD) else (bif (!(fG (List.getD bD (Int.toNat x3) (bf.dflt)).1)) then (k0 false) else (bif (decide ((List.getD bD (Int.toNat x3) (bf.dflt)).2.2.2.2.2.2.1 < (1 : Int))) then (k0 false) else (bif (decide ((List.getD bD (Int.toNat x3) (bf.dflt)).2.2.2.2.2.2.1 > (2 : Int))) then (k0 false) else (bif (decide ((List.getD bD (Int.toNat x3) (bf.dflt)).2.2.2.2.2.2.2.1 < (0 : Int))) then (k0 false) else (bif (decide ((List.getD bD (Int.toNat x3) (bf.dflt)).2.2.2.2.2.2.2.1 > (List.getD bD (Int.toNat x3) (bf.dflt)).2.2.2.2.2.2.2.2.1)) then (k0 false) else (bif (decide ((List.getD bD (Int.toNat x3) (bf.dflt)).2.2.2.2.2.2.2.2.1 > (((List.length b02) : Nat) : Int))) then (k0 false) else (bif (decide ((List.getD bD (Int.toNat x3) (bf.dflt)).2.2.2.2.2.2.2.2.2.1 < (0 : Int))) then (k0 false) else (bif (decide ((List.getD bD (Int.toNat x3) (bf.dflt)).2.2.2.2.2.2.2.2.2.1 ≥ (8 : Int))) then (k0 false) else (meet ((bif (((cZ bH (b00, (b01, (b02, (aJ, (aN, aQ)))))) && (decide ((0 : Int) ≤ (List.getD bD (Int.toNat x3) (bf.dflt)).2.2.2.2.2.2.2.2.1))) && (decide ((List.getD bD (Int.toNat x3) (bf.dflt)).2.2.2.2.2.2.2.2.1 ≤ (((List.length b02) : Nat) : Int)))) then (meet ((bif ((cZ bH (b00, ((aU b00 (bF (List.take (Int.toNat (List.getD bD (Int.toNat x3) (bf.dflt)).2.2.2.2.2.2.2.2.1) b02))).1, ((List.take (Int.toNat (List.getD bD (Int.toNat x3) (bf.dflt)).2.2.2.2.2.2.2.2.1) b02), (aJ, ((List.map xg aN), [])))))) && (aO (List.getD bD (Int.toNat x3) (bf.dflt)).2.2.2.2.2.1)) then (bif ((jv (b00, ((aU b00 (bF (List.take (Int.toNat (List.getD bD (Int.toNat x3) (bf.dflt)).2.2.2.2.2.2.2.2.1) b02))).1, ((List.take (Int.toNat (List.getD bD (Int.toNat x3) (bf.dflt)).2.2.2.2.2.2.2.2.1) b02), (aJ, ((List.map xg aN), []))))) ((List.getD bD (Int.toNat x3) (bf.dflt)).1, ((List.getD bD (Int.toNat x3) (bf.dflt)).2.1, ((List.getD bD (Int.toNat x3) (bf.dflt)).2.2.1, ((List.getD bD (Int.toNat x3) (bf.dflt)).2.2.2.1, ((List.getD bD (Int.toNat x3) (bf.dflt)).2.2.2.2.1, (List.getD bD (Int.toNat x3) (bf.dflt)).2.2.2.2.2.1))))) (List.getD bD (Int.toNat x3) (bf.dflt)).2.2.2.2.2.2.2.1).2 != (0 : Int)) then (k0 false) else (bif ((aO (jv (b00, ((aU b00 (bF (List.take (Int.toNat (List.getD bD (Int.toNat x3) (bf.dflt)).2.2.2.2.2.2.2.2.1) b02))).1, ((List.take (Int.toNat (List.getD bD (Int.toNat x3) (bf.dflt)).2.2.2.2.2.2.2.2.1) b02), (aJ, ((List.map xg aN), []))))) ((List.getD bD (Int.toNat x3) (bf.dflt)).1, ((List.getD bD (Int.toNat x3) (bf.dflt)).2.1, ((List.getD bD (Int.toNat x3) (bf.dflt)).2.2.1, ((List.getD bD (Int.toNat x3) (bf.dflt)).2.2.2.1, ((List.getD bD (Int.toNat x3) (bf.dflt)).2.2.2.2.1, (List.getD bD (Int.toNat x3) (bf.dflt)).2.2.2.2.2.1))))) (List.getD bD (Int.toNat x3) (bf.dflt)).2.2.2.2.2.2.2.1).1.2.2) && (aO (List.getD bD (Int.toNat x3) (bf.dflt)).2.2.2.2.2.2.2.2.2.2.2.2)) then (bif (!(iL (jv (b00, ((aU b00 (bF (List.take (Int.toNat (List.getD bD (Int.toNat x3) (bf.dflt)).2.2.2.2.2.2.2.2.1) b02))).1, ((List.take (Int.toNat (List.getD bD (Int.toNat x3) (bf.dflt)).2.2.2.2.2.2.2.2.1) b02), (aJ, ((List.map xg aN), []))))) ((List.getD bD (Int.toNat x3) (bf.dflt)).1, ((List.getD bD (Int.toNat x3) (bf.dflt)).2.1, ((List.getD bD (Int.toNat x3) (bf.dflt)).2.2.1, ((List.getD bD (Int.toNat x3) (bf.dflt)).2.2.2.1, ((List.getD bD (Int.toNat x3) (bf.dflt)).2.2.2.2.1, (List.getD bD (Int.toNat x3) (bf.dflt)).2.2.2.2.2.1))))) (List.getD bD (Int.toNat x3) (bf.dflt)).2.2.2.2.2.2.2.1).1 (List.getD bD (Int.toNat x3) (bf.dflt)).2.2.2.2.2.2.2.2.2.2)) then (k0 false) else (lC (IntKind.wrap .i64 (x3 + (1 : Int))) b00 b01 b02 aJ aN aQ bD)) else none)) else none)) ((bif ((cZ bH (b00, ((aU b00 (bF (List.take (Int.toNat (List.getD bD (Int.toNat x3) (bf.dflt)).2.2.2.2.2.2.2.2.1) b02))).1, ((List.take (Int.toNat (List.getD bD (Int.toNat x3) (bf.dflt)).2.2.2.2.2.2.2.2.1) b02), (aJ, ((List.map xg aN), [])))))) && (aO (List.getD bD (Int.toNat x3) (bf.dflt)).2.2.2.2.2.1)) then (bif ((jv (b00, ((aU b00 (bF (List.take (Int.toNat (List.getD bD (Int.toNat x3) (bf.dflt)).2.2.2.2.2.2.2.2.1) b02))).1, ((List.take (Int.toNat (List.getD bD (Int.toNat x3) (bf.dflt)).2.2.2.2.2.2.2.2.1) b02), (aJ, ((List.map xg aN), []))))) ((List.getD bD (Int.toNat x3) (bf.dflt)).1, ((List.getD bD (Int.toNat x3) (bf.dflt)).2.1, ((List.getD bD (Int.toNat x3) (bf.dflt)).2.2.1, ((List.getD bD (Int.toNat x3) (bf.dflt)).2.2.2.1, ((List.getD bD (Int.toNat x3) (bf.dflt)).2.2.2.2.1, (List.getD bD (Int.toNat x3) (bf.dflt)).2.2.2.2.2.1))))) (List.getD bD (Int.toNat x3) (bf.dflt)).2.2.2.2.2.2.2.1).2 != (0 : Int)) then (k0 false) else (bif ((aO (jv (b00, ((aU b00 (bF (List.take (Int.toNat (List.getD bD (Int.toNat x3) (bf.dflt)).2.2.2.2.2.2.2.2.1) b02))).1, ((List.take (Int.toNat (List.getD bD (Int.toNat x3) (bf.dflt)).2.2.2.2.2.2.2.2.1) b02), (aJ, ((List.map xg aN), []))))) ((List.getD bD (Int.toNat x3) (bf.dflt)).1, ((List.getD bD (Int.toNat x3) (bf.dflt)).2.1, ((List.getD bD (Int.toNat x3) (bf.dflt)).2.2.1, ((List.getD bD (Int.toNat x3) (bf.dflt)).2.2.2.1, ((List.getD bD (Int.toNat x3) (bf.dflt)).2.2.2.2.1, (List.getD bD (Int.toNat x3) (bf.dflt)).2.2.2.2.2.1))))) (List.getD bD (Int.toNat x3) (bf.dflt)).2.2.2.2.2.2.2.1).1.2.2) && (aO (List.getD bD (Int.toNat x3) (bf.dflt)).2.2.2.2.2.2.2.2.2.2.2.2)) then (bif (!(iL (jv (b00, ((aU b00 (bF (List.take (Int.toNat (List.getD bD (Int.toNat x3) (bf.dflt)).2.2.2.2.2.2.2.2.1) b02))).1, ((List.take (Int.toNat (List.getD bD (Int.toNat x3) (bf.dflt)).2.2.2.2.2.2.2.2.1) b02), (aJ, ((List.map xg aN), []))))) ((List.getD bD (Int.toNat x3) (bf.dflt)).1, ((List.getD bD (Int.toNat x3) (bf.dflt)).2.1, ((List.getD bD (Int.toNat x3) (bf.dflt)).2.2.1, ((List.getD bD (Int.toNat x3) (bf.dflt)).2.2.2.1, ((List.getD bD (Int.toNat x3) (bf.dflt)).2.2.2.2.1, (List.getD bD (Int.toNat x3) (bf.dflt)).2.2.2.2.2.1))))) (List.getD bD (Int.toNat x3) (bf.dflt)).2.2.2.2.2.2.2.1).1 (List.getD bD (Int.toNat x3) (bf.dflt)).2.2.2.2.2.2.2.2.2.2)) then (k0 false) else (lC (IntKind.wrap .i64 (x3 + (1 : Int))) b00 b01 b02 aJ aN aQ bD)) else none)) else none))) else none)) ((bif (((cZ bH (b00, (b01, (b02, (aJ, (aN, aQ)))))) && (decide ((0 : Int) ≤ (List.getD bD (Int.toNat x3) (bf.dflt)).2.2.2.2.2.2.2.2.1))) && (decide ((List.getD bD (Int.toNat x3) (bf.dflt)).2.2.2.2.2.2.2.2.1 ≤ (((List.length b02) : Nat) : Int)))) then (bif ((cZ bH (b00, ((aU b00 (bF (List.take (Int.toNat (List.getD bD (Int.toNat x3) (bf.dflt)).2.2.2.2.2.2.2.2.1) b02))).1, ((List.take (Int.toNat (List.getD bD (Int.toNat x3) (bf.dflt)).2.2.2.2.2.2.2.2.1) b02), (aJ, ((List.map xg aN), [])))))) && (aO (List.getD bD (Int.toNat x3) (bf.dflt)).2.2.2.2.2.1)) then (bif ((jv (b00, ((aU b00 (bF (List.take (Int.toNat (List.getD bD (Int.toNat x3) (bf.dflt)).2.2.2.2.2.2.2.2.1) b02))).1, ((List.take (Int.toNat (List.getD bD (Int.toNat x3) (bf.dflt)).2.2.2.2.2.2.2.2.1) b02), (aJ, ((List.map xg aN), []))))) ((List.getD bD (Int.toNat x3) (bf.dflt)).1, ((List.getD bD (Int.toNat x3) (bf.dflt)).2.1, ((List.getD bD (Int.toNat x3) (bf.dflt)).2.2.1, ((List.getD bD (Int.toNat x3) (bf.dflt)).2.2.2.1, ((List.getD bD (Int.toNat x3) (bf.dflt)).2.2.2.2.1, (List.getD bD (Int.toNat x3) (bf.dflt)).2.2.2.2.2.1))))) (List.getD bD (Int.toNat x3) (bf.dflt)).2.2.2.2.2.2.2.1).2 != (0 : Int)) then (k0 false) else (bif ((aO (jv (b00, ((aU b00 (bF (List.take (Int.toNat (List.getD bD (Int.toNat x3) (bf.dflt)).2.2.2.2.2.2.2.2.1) b02))).1, ((List.take (Int.toNat (List.getD bD (Int.toNat x3) (bf.dflt)).2.2.2.2.2.2.2.2.1) b02), (aJ, ((List.map xg aN), []))))) ((List.getD bD (Int.toNat x3) (bf.dflt)).1, ((List.getD bD (Int.toNat x3) (bf.dflt)).2.1, ((List.getD bD (Int.toNat x3) (bf.dflt)).2.2.1, ((List.getD bD (Int.toNat x3) (bf.dflt)).2.2.2.1, ((List.getD bD (Int.toNat x3) (bf.dflt)).2.2.2.2.1, (List.getD bD (Int.toNat x3) (bf.dflt)).2.2.2.2.2.1))))) (List.getD bD (Int.toNat x3) (bf.dflt)).2.2.2.2.2.2.2.1).1.2.2) && (aO (List.getD bD (Int.toNat x3) (bf.dflt)).2.2.2.2.2.2.2.2.2.2.2.2)) then (bif (!(iL (jv (b00, ((aU b00 (bF (List.take (Int.toNat (List.getD bD (Int.toNat x3) (bf.dflt)).2.2.2.2.2.2.2.2.1) b02))).1, ((List.take (Int.toNat (List.getD bD (Int.toNat x3) (bf.dflt)).2.2.2.2.2.2.2.2.1) b02), (aJ, ((List.map xg aN), []))))) ((List.getD bD (Int.toNat x3) (bf.dflt)).1, ((List.getD bD (Int.toNat x3) (bf.dflt)).2.1, ((List.getD bD (Int.toNat x3) (bf.dflt)).2.2.1, ((List.getD bD (Int.toNat x3) (bf.dflt)).2.2.2.1, ((List.getD bD (Int.toNat x3) (bf.dflt)).2.2.2.2.1, (List.getD bD (Int.toNat x3) (bf.dflt)).2.2.2.2.2.1))))) (List.getD bD (Int.toNat x3) (bf.dflt)).2.2.2.2.2.2.2.1).1 (List.getD bD (Int.toNat x3) (bf.dflt)).2.2.2.2.2.2.2.2.2.2)) then (k0 false) else (lC (IntKind.wrap .i64 (x3 + (1 : Int))) b00 b01 b02 aJ aN aQ bD)) else none)) else none) else none)))))))))))) else none)) else none) else (bif (aO (List.getD bD (Int.toNat x3) (bf.dflt)).2.2.2.2.2.2.2.2.2.2.2.2) then (bif (Bo (List.getD bD (Int.toNat x3) (bf.dflt))) then (lC (IntKind.wrap .i64 (x3 + (1 : Int))) b00 b01 b02 aJ aN aQ bD) else (bif (!(fG (List.getD bD (Int.toNat x3) (bf.dflt)).1)) then (k0 false) else (bif (decide ((List.getD bD (Int.toNat x3) (bf.dflt)).2.2.2.2.2.2.1 < (1 : Int))) then (k0 false) else (bif (decide ((List.getD bD (Int.toNat x3) (bf.dflt)).2.2.2.2.2.2.1 > (2 : Int))) then (k0 false) else (bif (decide ((List.getD bD (Int.toNat x3) (bf.dflt)).2.2.2.2.2.2.2.1 < (0 : Int))) then (k0 false) else (bif (decide ((List.getD bD (Int.toNat x3) (bf.dflt)).2.2.2.2.2.2.2.1 > (List.getD bD (Int.toNat x3) (bf.dflt)).2.2.2.2.2.2.2.2.1)) then (k0 false) else (bif (decide ((List.getD bD (Int.toNat x3) (bf.dflt)).2.2.2.2.2.2.2.2.1 > (((List.length b02) : Nat) : Int))) then (k0 false) else (bif (decide ((List.getD bD (Int.toNat x3) (bf.dflt)).2.2.2.2.2.2.2.2.2.1 < (0 : Int))) then (k0 false) else (bif (decide ((List.getD bD (Int.toNat x3) (bf.dflt)).2.2.2.2.2.2.2.2.2.1 ≥ (8 : Int))) then (k0 false) else (meet ((bif (((cZ bH (b00, (b01, (b02, (aJ, (aN, aQ)))))) && (decide ((0 : Int) ≤ (List.getD bD (Int.toNat x3) (bf.dflt)).2.2.2.2.2.2.2.2.1))) && (decide ((List.getD bD (Int.toNat x3) (bf.dflt)).2.2.2.2.2.2.2.2.1 ≤ (((List.length b02) : Nat) : Int)))) then (meet ((bif ((cZ bH (b00, ((aU b00 (bF (List.take (Int.toNat (List.getD bD (Int.toNat x3) (bf.dflt)).2.2.2.2.2.2.2.2.1) b02))).1, ((List.take (Int.toNat (List.getD bD (Int.toNat x3) (bf.dflt)).2.2.2.2.2.2.2.2.1) b02), (aJ, ((List.map xg aN), [])))))) && (aO (List.getD bD (Int.toNat x3) (bf.dflt)).2.2.2.2.2.1)) then (bif ((jv (b00, ((aU b00 (bF (List.take (Int.toNat (List.getD bD (Int.toNat x3) (bf.dflt)).2.2.2.2.2.2.2.2.1) b02))).1, ((List.take (Int.toNat (List.getD bD (Int.toNat x3) (bf.dflt)).2.2.2.2.2.2.2.2.1) b02), (aJ, ((List.map xg aN), []))))) ((List.getD bD (Int.toNat x3) (bf.dflt)).1, ((List.getD bD (Int.toNat x3) (bf.dflt)).2.1, ((List.getD bD (Int.toNat x3) (bf.dflt)).2.2.1, ((List.getD bD (Int.toNat x3) (bf.dflt)).2.2.2.1, ((List.getD bD (Int.toNat x3) (bf.dflt)).2.2.2.2.1, (List.getD bD (Int.toNat x3) (bf.dflt)).2.2.2.2.2.1))))) (List.getD bD (Int.toNat x3) (bf.dflt)).2.2.2.2.2.2.2.1).2 != (0 : Int)) then (k0 false) else (bif ((aO (jv (b00, ((aU b00 (bF (List.take (Int.toNat (List.getD bD (Int.toNat x3) (bf.dflt)).2.2.2.2.2.2.2.2.1) b02))).1, ((List.take (Int.toNat (List.getD bD (Int.toNat x3) (bf.dflt)).2.2.2.2.2.2.2.2.1) b02), (aJ, ((List.map xg aN), []))))) ((List.getD bD (Int.toNat x3) (bf.dflt)).1, ((List.getD bD (Int.toNat x3) (bf.dflt)).2.1, ((List.getD bD (Int.toNat x3) (bf.dflt)).2.2.1, ((List.getD bD (Int.toNat x3) (bf.dflt)).2.2.2.1, ((List.getD bD (Int.toNat x3) (bf.dflt)).2.2.2.2.1, (List.getD bD (Int.toNat x3) (bf.dflt)).2.2.2.2.2.1))))) (List.getD bD (Int.toNat x3) (bf.dflt)).2.2.2.2.2.2.2.1).1.2.2) && (aO (List.getD bD (Int.toNat x3) (bf.dflt)).2.2.2.2.2.2.2.2.2.2.2.2)) then (bif (!(iL (jv (b00, ((aU b00 (bF (List.take (Int.toNat (List.getD bD (Int.toNat x3) (bf.dflt)).2.2.2.2.2.2.2.2.1) b02))).1, ((List.take (Int.toNat (List.getD bD (Int.toNat x3) (bf.dflt)).2.2.2.2.2.2.2.2.1) b02), (aJ, ((List.map xg aN), []))))) ((List.getD bD (Int.toNat x3) (bf.dflt)).1, ((List.getD bD (Int.toNat x3) (bf.dflt)).2.1, ((List.getD bD (Int.toNat x3) (bf.dflt)).2.2.1, ((List.getD bD (Int.toNat x3) (bf.dflt)).2.2.2.1, ((List.getD bD (Int.toNat x3) (bf.dflt)).2.2.2.2.1, (List.getD bD (Int.toNat x3) (bf.dflt)).2.2.2.2.2.1))))) (List.getD bD (Int.toNat x3) (bf.dflt)).2.2.2.2.2.2.2.1).1 (List.getD bD (Int.toNat x3) (bf.dflt)).2.2.2.2.2.2.2.2.2.2)) then (k0 false) else (lC (IntKind.wrap .i64 (x3 + (1 : Int))) b00 b01 b02 aJ aN aQ bD)) else none)) else none)) ((bif ((cZ bH (b00, ((aU b00 (bF (List.take (Int.toNat (List.getD bD (Int.toNat x3) (bf.dflt)).2.2.2.2.2.2.2.2.1) b02))).1, ((List.take (Int.toNat (List.getD bD (Int.toNat x3) (bf.dflt)).2.2.2.2.2.2.2.2.1) b02), (aJ, ((List.map xg aN), [])))))) && (aO (List.getD bD (Int.toNat x3) (bf.dflt)).2.2.2.2.2.1)) then (bif ((jv (b00, ((aU b00 (bF (List.take (Int.toNat (List.getD bD (Int.toNat x3) (bf.dflt)).2.2.2.2.2.2.2.2.1) b02))).1, ((List.take (Int.toNat (List.getD bD (Int.toNat x3) (bf.dflt)).2.2.2.2.2.2.2.2.1) b02), (aJ, ((List.map xg aN), []))))) ((List.getD bD (Int.toNat x3) (bf.dflt)).1, ((List.getD bD (Int.toNat x3) (bf.dflt)).2.1, ((List.getD bD (Int.toNat x3) (bf.dflt)).2.2.1, ((List.getD bD (Int.toNat x3) (bf.dflt)).2.2.2.1, ((List.getD bD (Int.toNat x3) (bf.dflt)).2.2.2.2.1, (List.getD bD (Int.toNat x3) (bf.dflt)).2.2.2.2.2.1))))) (List.getD bD (Int.toNat x3) (bf.dflt)).2.2.2.2.2.2.2.1).2 != (0 : Int)) then (k0 false) else (bif ((aO (jv (b00, ((aU b00 (bF (List.take (Int.toNat (List.getD bD (Int.toNat x3) (bf.dflt)).2.2.2.2.2.2.2.2.1) b02))).1, ((List.take (Int.toNat (List.getD bD (Int.toNat x3) (bf.dflt)).2.2.2.2.2.2.2.2.1) b02), (aJ, ((List.map xg aN), []))))) ((List.getD bD (Int.toNat x3) (bf.dflt)).1, ((List.getD bD (Int.toNat x3) (bf.dflt)).2.1, ((List.getD bD (Int.toNat x3) (bf.dflt)).2.2.1, ((List.getD bD (Int.toNat x3) (bf.dflt)).2.2.2.1, ((List.getD bD (Int.toNat x3) (bf.dflt)).2.2.2.2.1, (List.getD bD (Int.toNat x3) (bf.dflt)).2.2.2.2.2.1))))) (List.getD bD (Int.toNat x3) (bf.dflt)).2.2.2.2.2.2.2.1).1.2.2) && (aO (List.getD bD (Int.toNat x3) (bf.dflt)).2.2.2.2.2.2.2.2.2.2.2.2)) then (bif (!(iL (jv (b00, ((aU b00 (bF (List.take (Int.toNat (List.getD bD (Int.toNat x3) (bf.dflt)).2.2.2.2.2.2.2.2.1) b02))).1, ((List.take (Int.toNat (List.getD bD (Int.toNat x3) (bf.dflt)).2.2.2.2.2.2.2.2.1) b02), (aJ, ((List.map xg aN), []))))) ((List.getD bD (Int.toNat x3) (bf.dflt)).1, ((List.getD bD (Int.toNat x3) (bf.dflt)).2.1, ((List.getD bD (Int.toNat x3) (bf.dflt)).2.2.1, ((List.getD bD (Int.toNat x3) (bf.dflt)).2.2.2.1, ((List.getD bD (Int.toNat x3) (bf.dflt)).2.2.2.2.1, (List.getD bD (Int.toNat x3) (bf.dflt)).2.2.2.2.2.1))))) (List.getD bD (Int.toNat x3) (bf.dflt)).2.2.2.2.2.2.2.1).1 (List.getD bD (Int.toNat x3) (bf.dflt)).2.2.2.2.2.2.2.2.2.2)) then (k0 false) else (lC (IntKind.wrap .i64 (x3 + (1 : Int))) b00 b01 b02 aJ aN aQ bD)) else none)) else none))) else none)) ((bif (((cZ bH (b00, (b01, (b02, (aJ, (aN, aQ)))))) && (decide ((0 : Int) ≤ (List.getD bD (Int.toNat x3) (bf.dflt)).2.2.2.2.2.2.2.2.1))) && (decide ((List.getD bD (Int.toNat x3) (bf.dflt)).2.2.2.2.2.2.2.2.1 ≤ (((List.length b02) : Nat) : Int)))) then (bif ((cZ bH (b00, ((aU b00 (bF (List.take (Int.toNat (List.getD bD (Int.toNat x3) (bf.dflt)).2.2.2.2.2.2.2.2.1) b02))).1, ((List.take (Int.toNat (List.getD bD (Int.toNat x3) (bf.dflt)).2.2.2.2.2.2.2.2.1) b02), (aJ, ((List.map xg aN), [])))))) && (aO (List.getD bD (Int.toNat x3) (bf.dflt)).2.2.2.2.2.1)) then (bif ((jv (b00, ((aU b00 (bF (List.take (Int.toNat (List.getD bD (Int.toNat x3) (bf.dflt)).2.2.2.2.2.2.2.2.1) b02))).1, ((List.take (Int.toNat (List.getD bD (Int.toNat x3) (bf.dflt)).2.2.2.2.2.2.2.2.1) b02), (aJ, ((List.map xg aN), []))))) ((List.getD bD (Int.toNat x3) (bf.dflt)).1, ((List.getD bD (Int.toNat x3) (bf.dflt)).2.1, ((List.getD bD (Int.toNat x3) (bf.dflt)).2.2.1, ((List.getD bD (Int.toNat x3) (bf.dflt)).2.2.2.1, ((List.getD bD (Int.toNat x3) (bf.dflt)).2.2.2.2.1, (List.getD bD (Int.toNat x3) (bf.dflt)).2.2.2.2.2.1))))) (List.getD bD (Int.toNat x3) (bf.dflt)).2.2.2.2.2.2.2.1).2 != (0 : Int)) then (k0 false) else (bif ((aO (jv (b00, ((aU b00 (bF (List.take (Int.toNat (List.getD bD (Int.toNat x3) (bf.dflt)).2.2.2.2.2.2.2.2.1) b02))).1, ((List.take (Int.toNat (List.getD bD (Int.toNat x3) (bf.dflt)).2.2.2.2.2.2.2.2.1) b02), (aJ, ((List.map xg aN), []))))) ((List.getD bD (Int.toNat x3) (bf.dflt)).1, ((List.getD bD (Int.toNat x3) (bf.dflt)).2.1, ((List.getD bD (Int.toNat x3) (bf.dflt)).2.2.1, ((List.getD bD (Int.toNat x3) (bf.dflt)).2.2.2.1, ((List.getD bD (Int.toNat x3) (bf.dflt)).2.2.2.2.1, (List.getD bD (Int.toNat x3) (bf.dflt)).2.2.2.2.2.1))))) (List.getD bD (Int.toNat x3) (bf.dflt)).2.2.2.2.2.2.2.1).1.2.2) && (aO (List.getD bD (Int.toNat x3) (bf.dflt)).2.2.2.2.2.2.2.2.2.2.2.2)) then (bif (!(iL (jv (b00, ((aU b00 (bF (List.take (Int.toNat (List.getD bD (Int.toNat x3) (bf.dflt)).2.2.2.2.2.2.2.2.1) b02))).1, ((List.take (Int.toNat (List.getD bD (Int.toNat x3) (bf.dflt)).2.2.2.2.2.2.2.2.1) b02), (aJ, ((List.map xg aN), []))))) ((List.getD bD (Int.toNat x3) (bf.dflt)).1, ((List.getD bD (Int.toNat x3) (bf.dflt)).2.1, ((List.getD bD (Int.toNat x3) (bf.dflt)).2.2.1, ((List.getD bD (Int.toNat x3) (bf.dflt)).2.2.2.1, ((List.getD bD (Int.toNat x3) (bf.dflt)).2.2.2.2.1, (List.getD bD (Int.toNat x3) (bf.dflt)).2.2.2.2.2.1))))) (List.getD bD (Int.toNat x3) (bf.dflt)).2.2.2.2.2.2.2.1).1 (List.getD bD (Int.toNat x3) (bf.dflt)).2.2.2.2.2.2.2.2.2.2)) then (k0 false) else (lC (IntKind.wrap .i64 (x3 + (1 : Int))) b00 b01 b02 aJ aN aQ bD)) else none)) else none) else none)))))))))))) else none))) else none) else none) else k1)
noncomputable def lT : Nat → Int → (List Int) → (List Int) → (List aA) → Int → (List au) → (List ak) → (List iP) → (Bool → Option aj) → (Option aj) → Option aj
 | 0, _, _, _, _, _, _, _, _, _, _ => none
 | m + 1, x3, b00, b01, b02, aJ, aN, aQ, bD, k0, k1 => Cm x3 b00 b01 b02 aJ aN aQ bD (fun x3 b00 b01 b02 aJ aN aQ bD => (lT m x3 b00 b01 b02 aJ aN aQ bD k0 k1)) k0 k1
noncomputable def CB (x3 : Int) (b00 : List Int) (b01 : List Int) (b02 : List aA) (aJ : Int) (aN : List au) (aQ : List ak) (bD : List iP) (k0 : Bool → Option aj) (k1 : Option aj) : Option aj := lT (x3.toNat + List.length b00 + List.length b01 + List.length b02 + aJ.toNat + List.length aN + List.length aQ + List.length bD + 2) x3 b00 b01 b02 aJ aN aQ bD k0 k1
noncomputable def Gj : dV := (fun (σ : St) (K : Ex → St → Option aj) => (match zo.un σ with | some d => aey d (fun x3 b00 b01 b02 aJ aN aQ bD => CB x3 b00 b01 b02 aJ aN aQ bD (fun x2 => (K .ret (Ci x2))) (K (.ext 0) Cj)) | none => none))
noncomputable abbrev aaD : List (Nat × Plan × List Nat) := [(7, takeB [0, 1] (.fork (.one 2 (takes [3, 4, 5, 6, 7, 8, 9, 10, 11, 12, 13, 14, 15, 16, 17, 18, 19, 20, 21]))), []), (12, takeB [0, 1, 2, 3, 5, 6, 7, 8] (.fork (.more 4 (.fork (.more 9 (takeB [10, 11, 12] (.fork (.one 13 (.fork (.one 14 (takes [15])))))) (.one 13 (.fork (.one 9 (takeB [10, 11, 12] (.fork (.one 14 (takes [15]))))))))) (.one 13 (.fork (.one 4 (.fork (.one 9 (takeB [10, 11, 12] (.fork (.one 14 (takes [15]))))))))))), [])]
noncomputable abbrev aaE : List (Nat × Bool × Sm) := [(N.lU, true, YI), (N.dw, true, Rh), (N.Gz, true, Wx), (N.Dc, true, Na), (N.OA, false, adG), (N.KG, true, aan), (N.Gm, true, PY)]
noncomputable abbrev U0 : Env := En aaE aaD [(4, [1,3], [2], Gj)] [] false 0 []
noncomputable abbrev CG := rounds (run U0 (aS F.Ei 4)) [1,3] [2]
theorem abI (m : Nat) (x3 : Int) (b00 : List Int) (b01 : List Int) (b02 : List aA) (aJ : Int) (aN : List au) (aQ : List ak) (bD : List iP) (K : Ex → St → Option aj) : CG (m + 1) (vF x3 b00 b01 b02 aJ aN aQ bD) K = Cm x3 b00 b01 b02 aJ aN aQ bD (fun x3 b00 b01 b02 aJ aN aQ bD => (CG m (vF x3 b00 b01 b02 aJ aN aQ bD) K)) (fun x2 => (K .ret (Ci x2))) (K (.ext 0) Cj) := by kernel_rfl
theorem XR (K : Ex → St → Option aj) : ∀ m : Nat, (∀ (x3 : Int) (b00 : List Int) (b01 : List Int) (b02 : List aA) (aJ : Int) (aN : List au) (aQ : List ak) (bD : List iP), CG m (vF x3 b00 b01 b02 aJ aN aQ bD) K = lT m x3 b00 b01 b02 aJ aN aQ bD (fun x2 => (K .ret (Ci x2))) (K (.ext 0) Cj))
 | 0 => (fun _ _ _ _ _ _ _ _ => rfl)
 | m + 1 => (fun x3 b00 b01 b02 aJ aN aQ bD => (by rw [abI, show (fun x3 b00 b01 b02 aJ aN aQ bD => (CG m (vF x3 b00 b01 b02 aJ aN aQ bD) K)) = (fun x3 b00 b01 b02 aJ aN aQ bD => (lT m x3 b00 b01 b02 aJ aN aQ bD (fun x2 => (K .ret (Ci x2))) (K (.ext 0) Cj))) from funext fun x3 => funext fun b00 => funext fun b01 => funext fun b02 => funext fun aJ => funext fun aN => funext fun aQ => funext fun bD => (XR K m) x3 b00 b01 b02 aJ aN aQ bD]; rfl))
theorem ZG : dJ U0 (aS F.Ei 4) := by
 refine dh (n := 4) (F := Gj) (by kernel_rfl) rfl (li := [1,3]) (lo := [2]) rfl (fun σ K r hr => ?_)
 unfold Gj at hr
 split at hr
 ·rename_i d hd
  rw [Ss.dY hd]
  exact ⟨_, ((congrArg (fun z => CG _ z K) (abH _ _ _ _ _ _ _ _)).trans ((XR K _) _ _ _ _ _ _ _ _)).trans hr⟩
 ·cases hr
noncomputable def U1 (m : uF) (K : aj → Option aj) : Option aj := (bif (cZ bH (m.1, (m.2.1, (m.2.2.1, (m.2.2.2.1, (m.2.2.2.2.1, m.2.2.2.2.2.1)))))) then (bif (!(jk (m.1, (m.2.1, (m.2.2.1, (m.2.2.2.1, (m.2.2.2.2.1, m.2.2.2.2.2.1))))))) then K ((.s (.bool false)), []) else (bif (decide ((((List.length m.2.2.2.2.2.2) : Nat) : Int) > (8 : Int))) then K ((.s (.bool false)), []) else (CB (0 : Int) m.1 m.2.1 m.2.2.1 m.2.2.2.1 m.2.2.2.2.1 m.2.2.2.2.2.1 m.2.2.2.2.2.2 (fun y0 => K ((.s (.bool y0)), [])) (K ((.s (.bool true)), []))))) else none)
theorem amO (m : uF) (K : aj → Option aj) : dL U0 true F.Ei [.a (eY.cells .no m)] K = U1 m K := by kernel_rfl
theorem asa {d : bT} {v : Int} (h : cZ bH d = true) : cZ bH (FZ d v) = true := by
 obtain ⟨f1, f2, f3, f4, f5⟩ := wu h
 have g2 : fF (.sl ah) (aU d.1 (bF (d.2.2.1.take v.toNat))).1 = true := AX f1 (AV (vS f3 _))
 have g4 : fF (.sl aC) (d.2.2.2.2.1.map xg) = true := anF (by rw [List.length_map]; exact dN f4) (fun x hx => by
  obtain ⟨m, _, rfl⟩ := List.mem_map.1 hx
  rfl)
 exact (Bool.and_eq_true _ _).mpr ⟨f1, (Bool.and_eq_true _ _).mpr ⟨g2, (Bool.and_eq_true _ _).mpr ⟨vS f3 _, (Bool.and_eq_true _ _).mpr ⟨rfl, (Bool.and_eq_true _ _).mpr ⟨g4, rfl⟩⟩⟩⟩⟩
theorem apg {d : bT} {r : uD} {v : Int} (h : aO r.2.2.2.2.2 = true) : aO (jv d r v).1.2.2 = true := by
 unfold jv
 cases (!(iQ d v && dB r && fG r.1)) with
 | true => rfl
 | false => exact agf h
noncomputable def opX (d : bT) (o : iP) (kf nx : Option aj) : Option aj :=
 bif cZ bH (FZ d (bJ o)) && aO (jZ o).2.2.2.2.2 then (bif (jv (FZ d (bJ o)) (jZ o) (bP o)).2 != (0 : Int) then kf else
  bif aO (jv (FZ d (bJ o)) (jZ o) (bP o)).1.2.2 && aO (uV o).2.2 then (bif !(iL (jv (FZ d (bJ o)) (jZ o) (bP o)).1 (uV o)) then kf else nx) else none) else none
noncomputable def aiD (d : bT) (o : iP) (kf nx : Option aj) : Option aj :=
 bif aO (uV o).2.2 then (bif Bo o then nx else bif !(fG o.1) then kf else bif decide (gY o < 1) then kf else bif decide (gY o > 2) then kf else bif decide (bP o < 0) then kf else bif decide (bP o > bJ o) then kf else
  bif decide (bJ o > ((d.2.2.1.length : Nat) : Int)) then kf else bif decide (jR o < 0) then kf else bif decide (jR o ≥ 8) then kf else
   meet (bif (cZ bH d && decide (0 ≤ bJ o)) && decide (bJ o ≤ ((d.2.2.1.length : Nat) : Int)) then meet (opX d o kf nx) (opX d o kf nx) else none) (bif (cZ bH d && decide (0 ≤ bJ o)) && decide (bJ o ≤ ((d.2.2.1.length : Nat) : Int)) then opX d o kf nx else none)) else none
theorem aph {d : bT} {o : iP} {kf nx : Option aj} (hd : jk d = true) (hf : cZ bH d = true) (ho : cZ bf o = true) (hr : dB (jZ o) = true) : aiD d o kf nx = bif Bv d o then nx else kf := by
 have t1 := ahS ho
 have t2 := aqQ ho
 rw [← aoV hd]
 have hX : opX d o kf nx = bif (jv (FZ d (bJ o)) (jZ o) (bP o)).2 != 0 then kf else bif iL (jv (FZ d (bJ o)) (jZ o) (bP o)).1 (uV o) then nx else kf := by
  unfold opX
  rw [asa hf, t1, apg t1, t2]
  cases ((jv (FZ d (bJ o)) (jZ o) (bP o)).2 != (0 : Int)) with
  | true => rfl
  | false => cases iL (jv (FZ d (bJ o)) (jZ o) (bP o)).1 (uV o) <;> rfl
 unfold aiD ahZ
 rw [t2, hr, hX, meet_self, meet_self, hf]
 cases Bo o with
 | true => rfl
 | false =>
 cases fG o.1 with
 | false => rfl
 | true =>
 cases decide (gY o < 1) with
 | true => rfl
 | false =>
 cases decide (gY o > 2) with
 | true => rfl
 | false =>
 by_cases h3 : bP o < 0
 ·rw [decide_eq_true h3]; rfl
 rw [decide_eq_false h3]
 by_cases h4 : bP o > bJ o
 ·rw [decide_eq_true h4]; rfl
 rw [decide_eq_false h4]
 by_cases h5 : bJ o > ((d.2.2.1.length : Nat) : Int)
 ·rw [decide_eq_true h5]; rfl
 rw [decide_eq_false h5, decide_eq_true (show 0 ≤ bJ o by omega), decide_eq_true (show bJ o ≤ ((d.2.2.1.length : Nat) : Int) by omega)]
 cases decide (jR o < 0) with
 | true => rfl
 | false =>
 cases decide (jR o ≥ 8) with
 | true => rfl
 | false =>
 cases ((jv (FZ d (bJ o)) (jZ o) (bP o)).2 != (0 : Int)) with
 | true => rfl
 | false => cases iL (jv (FZ d (bJ o)) (jZ o) (bP o)).1 (uV o) <;> rfl
theorem aez {d : bT} {l : List iP} {k0 : Bool → Option aj} {k1 : Option aj} (h1 : cZ bH d = true) (h2 : jk d = true) (h3 : fF (.sl bf) l = true) : ∀ (f i : Nat), i ≤ l.length → l.length - i < f →
  lT f ((i : Nat) : Int) d.1 d.2.1 d.2.2.1 d.2.2.2.1 d.2.2.2.2.1 d.2.2.2.2.2 l k0 k1 = bif (List.range' i (l.length - i)).all (Lp d l) then k1 else k0 false
 | 0, i, _, h => absurd h (by omega)
 | f + 1, i, hi, hf => by
  have hl := dN h3
  show Cm ((i : Nat) : Int) d.1 d.2.1 d.2.2.1 d.2.2.2.1 d.2.2.2.2.1 d.2.2.2.2.2 l _ _ _ = _
  unfold Cm
  by_cases h : i < l.length
  ·have ih := aez (k0 := k0) (k1 := k1) h1 h2 h3 f (i + 1) (by omega) (by omega)
   have ho := vP h3 rfl i
   obtain ⟨n, hn⟩ : ∃ n, l.length - i = n + 1 := ⟨l.length - i - 1, by omega⟩
   rw [show l.length - (i + 1) = n by omega] at ih
   rw [hn, List.range'_succ, List.all_cons, decide_eq_true (show ((i : Nat) : Int) < ((l.length : Nat) : Int) by omega), decide_eq_true (show (0 : Int) ≤ ((i : Nat) : Int) by omega), Int.toNat_natCast, bW (by omega)]
   change (bif aO (jZ (l.getD i bf.dflt)).2.2.2.2.2 then (bif !(dB (jZ (l.getD i bf.dflt))) then k0 false else (bif decide (((i : Nat) : Int) > 0) then (bif decide (0 ≤ IntKind.wrap .i64 (((i : Nat) : Int) - 1)) && decide (IntKind.wrap .i64 (((i : Nat) : Int) - 1) < ((l.length : Nat) : Int)) then (bif decide ((l.getD (Int.toNat (IntKind.wrap .i64 (((i : Nat) : Int) - 1))) bf.dflt).2.1 ≥ (l.getD i bf.dflt).2.1) then k0 false else aiD d (l.getD i bf.dflt) (k0 false) (lT f ((i + 1 : Nat) : Int) d.1 d.2.1 d.2.2.1 d.2.2.2.1 d.2.2.2.2.1 d.2.2.2.2.2 l k0 k1)) else none) else aiD d (l.getD i bf.dflt) (k0 false) (lT f ((i + 1 : Nat) : Int) d.1 d.2.1 d.2.2.1 d.2.2.2.1 d.2.2.2.2.1 d.2.2.2.2.2 l k0 k1))) else none) = _
   have e : Lp d l i = (Bv d (l.getD i bf.dflt) && (Nat.beq i 0 || decide ((l.getD (i - 1) bf.dflt).2.1 < (l.getD i bf.dflt).2.1))) := rfl
   rw [ahS ho, e]
   cases hr : dB (jZ (l.getD i bf.dflt)) with
   | false =>
    have : Bv d (l.getD i bf.dflt) = false := by unfold Bv; rw [hr]; rfl
    rw [this]; rfl
   | true =>
    rw [aph h2 h1 ho hr]
    cases i with
    | zero =>
     cases Bv d (l.getD 0 bf.dflt) with
     | false => rfl
     | true => exact ih
    | succ j =>
     rw [decide_eq_true (show ((j + 1 : Nat) : Int) > 0 by omega), wrap_in (n := ((j + 1 : Nat) : Int) - 1) (by omega) (by omega), decide_eq_true (show (0 : Int) ≤ ((j + 1 : Nat) : Int) - 1 by omega), decide_eq_true (show ((j + 1 : Nat) : Int) - 1 < ((l.length : Nat) : Int) by omega),
      show (((j + 1 : Nat) : Int) - 1).toNat = j by omega, show j + 1 - 1 = j from rfl]
     by_cases hc : (l.getD j bf.dflt).2.1 < (l.getD (j + 1) bf.dflt).2.1
     ·rw [decide_eq_true hc, decide_eq_false (show ¬ (l.getD j bf.dflt).2.1 ≥ (l.getD (j + 1) bf.dflt).2.1 by omega)]
      cases Bv d (l.getD (j + 1) bf.dflt) with
      | false => rfl
      | true => exact ih
     ·rw [decide_eq_false hc, decide_eq_true (show (l.getD j bf.dflt).2.1 ≥ (l.getD (j + 1) bf.dflt).2.1 by omega)]
      cases Bv d (l.getD (j + 1) bf.dflt) <;> rfl
  ·obtain rfl : i = l.length := by omega
   rw [decide_eq_false (show ¬ ((l.length : Nat) : Int) < ((l.length : Nat) : Int) by omega), Nat.sub_self]; rfl
def aeA : Sm := bg [.a eY] (fun d => cZ eY d.1) (fun d => (bl (wB d.1), []))
theorem amP (m : uF) (h : (cZ eY m) = true) (K : aj → Option aj) : U1 m K = K (bl (wB m), []) := by
 obtain ⟨h1, h2⟩ := ala h
 unfold U1 wB
 change (bif cZ bH (sK m) then (bif !(jk (sK m)) then _ else bif decide ((((opsOf m).length : Nat) : Int) > 8) then K ((.s (.bool false)), []) else (CB 0 (sK m).1 (sK m).2.1 (sK m).2.2.1 (sK m).2.2.2.1 (sK m).2.2.2.2.1 (sK m).2.2.2.2.2 (opsOf m) _ _)) else none) = _
 rw [h1]
 cases hk : jk (sK m) with
 | false => rfl
 | true =>
  by_cases h8 : (((opsOf m).length : Nat) : Int) > 8
  ·rw [decide_eq_true h8]
   have : Ar (opsOf m).length (Lp (sK m) (opsOf m)) = false := by
    rw [Bool.eq_false_iff]
    intro hh
    have := aoW hh
    omega
   rw [this]; rfl
  ·rw [decide_eq_false h8]
   have q := aez (k0 := fun y0 => K ((.s (.bool y0)), [])) (k1 := K ((.s (.bool true)), [])) h1 hk h2
   unfold CB
   refine (q _ 0 (Nat.zero_le _) (by omega)).trans ?_
   unfold Ar
   rw [Nat.sub_zero]
   cases (List.range' 0 (opsOf m).length).all (Lp (sK m) (opsOf m)) <;> rfl
theorem aiE : aV prog I N.Ei true aeA := kD (aW (aY aae (aY aaj (aY adE (aY PZ (aY ah6 (aY afd (aY Sv bn))))))) (l := aaE) (p := aaD) (ls := [(4, [1,3], [2], Gj)]) (lend := []) (focus := false) (fuel := 0) (give := []) (fn := F.Ei) (by kernel_rfl) (by kernel_rfl) (by kernel_rfl) (by kernel_rfl) (cs := [aS F.Ei 4]) (by kernel_rfl) (dA ZG aK)) (aI fun d K h => (amO d.1 K).trans (amP d.1 h K))
end Go.Ev.Seat
end
section
namespace Go.Ev.Seat
open Go.RowKit
set_option maxRecDepth 100000
set_option linter.unusedVariables false
set_option linter.unusedSimpArgs false
noncomputable abbrev aaF : List (Nat × Bool × Sm) := [(N.Ej, true, aew)]
noncomputable abbrev amQ : Env := En aaF [] [] [] false 0 []
noncomputable def U2 (m : uF) (K : aj → Option aj) : Option aj := (bif (cZ eY m) then K ((.s (.bool (wB m))), []) else none)
theorem amR (m : uF) (K : aj → Option aj) : dL amQ true F.Oy [.a (eY.cells .no m)] K = U2 m K := by kernel_rfl
def aeB : Sm := bg [.a eY] (fun d => cZ eY d.1) (fun d => (bl (wB d.1), []))
theorem amS (m : uF) (h : (cZ eY m) = true) (K : aj → Option aj) : U2 m K = K (bl (wB m), []) := by
 unfold U2
 rw [h]
 rfl
theorem aiF : aV prog I N.Oy true aeB := kD (aW (aY aiC bn) (l := aaF) (p := []) (ls := []) (lend := []) (focus := false) (fuel := 0) (give := []) (fn := F.Oy) (by kernel_rfl) (by kernel_rfl) (by kernel_rfl) (by kernel_rfl) (cs := []) (by kernel_rfl) aK) (aI fun d K h => (amR d.1 K).trans (amS d.1 h K))
end Go.Ev.Seat
end
section
namespace Go.Ev.Seat
open Go.RowKit
set_option maxRecDepth 100000
set_option linter.unusedVariables false
noncomputable abbrev agr (T : CU) : List (Nat × Bool × Sm) := [(N.Ei, true, aeA), (N.Oy, true, aeB), (N.Ox, true, su eY), (N.Oz, true, sD eY), (N.Ov, true, zN eY)]
noncomputable abbrev apj : List (Nat × Plan × List Nat) := [(10, takeB [0, 1] (.fork (.one 2 (.fork (.one 3 (takes [4]))))), [])]
noncomputable def aeC (T : CU) := dL (En (agr T) apj [] [] true) true F.EN
theorem apk (T : CU) : aV prog I N.EN true (aeC T) := aW (l := agr T) (aY aiE (aY aiF (aY alZ (aY al0 (aY al1 bn))))) (by kernel_rfl) (by kernel_rfl) (by kernel_rfl) (by kernel_rfl) (cs := []) (by kernel_rfl) aK
noncomputable def ags (T : CU) (m : uF) (K : aj → Option aj) : Option aj := (bif !((wB m) == (wB m)) then K (bl false, []) else K (bl true, []))
noncomputable def ZH (T : CU) (m : uF) (K : aj → Option aj) : Option aj := (bif eY.lim m then (bif (cZ eY m) then (bif !((wB m) == (wB m)) then K (bl false, []) else (bif eY.lim m then (bif eY.cnt m then (bif !(DL (m : uF) m) then K (bl false, []) else K (bl true, [])) else none) else none)) else none) else none)
theorem amT (T : CU) (m : uF) (K : aj → Option aj) (asb : eY.wf m) : aeC T [.a (eY.cells .no m)] K = K (bl true, []) := by
 have e : aeC T [.a (eY.cells .no m)] K = (bif lX (1048576 : Int) && eY.vG m then (bif decide (kZ (eY.w m) (1048576 : Int) < 0) then K (bl true, []) else (bif eY.lim m then (bif (cZ eY m) then (ZH T m K) else none) else none)) else none) := by kernel_rfl
 refine e.trans ?_
 have hz0 : eY.vG m = true := Rw.Gx eY m asb
 refine auc (show lX 1048576 = true by rfl) hz0 (fun n0 e0 s0 => ?_)
 have hw0 : eY.w m ≤ 1048576 := by omega
 have ara : eY.lim m = true := Rw.X9 eY m hw0
 have avI : eY.cnt m = true := Rw.Dj eY m ara
 have mk0 : eY.Hw m ≤ 32 * eY.w m := Rw.Lc eY rfl m
 have hpre : (cZ eY m) = true := ahm eY m asb ara
 have t1 : ags T m K = K (bl true, []) := by
  unfold ags
  exact (anw rfl)
 have t0 : ZH T m K = K (bl true, []) := by
  unfold ZH
  exact (jQ ara (jQ hpre (anw (jQ ara (aud avI rfl)))))
 exact (jQ ara (jQ hpre t0))
end Go.Ev.Seat
end
section
set_option linter.unusedVariables false
namespace Go.Ev
open Go.RowKit
mutual
def ccN (P : Program) : Nat → Cc → TypeId → Bool
 | 0, _, _ => false
 | n + 1, c, t => match c, P.underlying t with
  | .int k, some (.int k') => decide (k' = k)
  | .bool, some .bool => true
  | .str, some .string => true
  | .sl r, some (.slice e) => Nat.beq (P.cellsOf e) r.n && (match apl P n r.list e with
   | some [] => true
   | _ => false)
  | _, _ => false
def apl (P : Program) : Nat → List Cc → TypeId → Option (List Cc)
 | 0, _, _ => none
 | n + 1, cs, t => match cs with
  | [] => none
  | c :: rest => bif ccN P n c t then some rest else match P.underlying t with
   | some (.struct fs) => fsN P n (c :: rest) 0 fs.toList
   | _ => none
def fsN (P : Program) : Nat → List Cc → Nat → List Field → Option (List Cc)
 | 0, _, _, _ => none
 | n + 1, cs, i, fs => match fs with
  | [] => some cs
  | f :: rest => bif Nat.beq f.offset i then (match apl P n cs f.type with
   | some cs' => bif Nat.beq (P.cellsOf f.type + cs'.length) cs.length then fsN P n cs' (i + P.cellsOf f.type) rest else none
   | none => none) else none
end
theorem alb {P : Program} : ∀ (n : Nat), (∀ c t, ccN P n c t = true → ai1 P c t) ∧ (∀ cs t rest, apl P n cs t = some rest → ∃ pre, cs = pre ++ rest ∧ Vk P pre t) ∧ ∀ cs i fs rest, fsN P n cs i fs = some rest → ∃ pre, cs = pre ++ rest ∧ afX P pre i fs
 | 0 => ⟨fun _ _ h => by simp [ccN] at h, fun _ _ _ h => by simp [apl] at h, fun _ _ _ _ h => by simp [fsN] at h⟩
 | n + 1 => by
  obtain ⟨h1, h2, h3⟩ := alb (P := P) n
  refine ⟨fun c t h => ?_, fun cs t rest h => ?_, fun cs i fs rest h => ?_⟩
  ·simp only [ccN] at h
   split at h
   ·rename_i k k' hu
    have := of_decide_eq_true h
    subst this
    exact .int hu
   ·rename_i hu; exact .bool hu
   ·rename_i hu; exact .str hu
   ·rename_i r e hu
    simp only [Bool.and_eq_true] at h
    obtain ⟨g1, g2⟩ := h
    split at g2
    ·rename_i hl
     obtain ⟨pre, e1, e2⟩ := h2 _ _ _ hl
     rw [List.append_nil] at e1
     exact .sl hu (Nat.eq_of_beq_eq_true g1) (e1 ▸ e2)
    ·cases g2
   ·cases h
  ·simp only [apl] at h
   split at h
   ·cases h
   ·rename_i c rest'
    cases hc : ccN P n c t with
    | true =>
     rw [hc] at h
     cases h
     exact ⟨[c], rfl, .one (h1 _ _ hc)⟩
    | false =>
     rw [hc] at h
     simp only [cond_false] at h
     split at h
     ·rename_i fs hu
      obtain ⟨pre, e1, e2⟩ := h3 _ _ _ _ h
      exact ⟨pre, e1, .st hu e2⟩
     ·cases h
  ·simp only [fsN] at h
   split at h
   ·cases h
    exact ⟨[], rfl, .nil⟩
   ·rename_i f rest'
    cases ho : Nat.beq f.offset i with
    | false => rw [ho] at h; cases h
    | true =>
     rw [ho] at h
     simp only [cond_true] at h
     split at h
     ·rename_i cs' hl
      obtain ⟨pre, e1, e2⟩ := h2 _ _ _ hl
      cases hb : Nat.beq (P.cellsOf f.type + cs'.length) cs.length with
      | false => rw [hb] at h; cases h
      | true =>
       rw [hb] at h
       simp only [cond_true] at h
       have hlen := Nat.eq_of_beq_eq_true hb
       have hp : P.cellsOf f.type = pre.length := by rw [e1, List.length_append] at hlen; omega
       obtain ⟨pre2, e3, e4⟩ := h3 _ _ _ _ h
       rw [hp] at e4
       refine ⟨pre ++ pre2, by rw [e1, e3, List.append_assoc], .cons (Nat.eq_of_beq_eq_true ho) hp e2 e4⟩
     ·cases h
def rwB (P : Program) (r : Rw) (t : TypeId) : Bool := match apl P 100 r.list t with
 | some [] => true
 | _ => false
theorem atg {P : Program} (r : Rw) {t : TypeId} (h : rwB P r t = true) : at6 P r t := by
 unfold rwB at h
 split at h
 ·rename_i hl
  obtain ⟨pre, e1, e2⟩ := (alb 100).2.1 _ _ _ hl
  rw [List.append_nil] at e1
  show Vk P r.list t
  rw [e1]; exact e2
 ·cases h
end Go.Ev
end
section
set_option linter.unusedVariables false
namespace Go.Ev
end Go.Ev
end
section
set_option linter.unusedVariables false
namespace Go.Ev
open Go
variable {H : Type} {enc : TypeId × Value → H} {P : Program} {w : World} {base : Nat} {sp : Nat → Bool} {held : Bool}
theorem alc {fuel : Nat} {t e : TypeId} {n m : Nat} {cs : List Value} {ds : List (DataW H)} {p : List MemPlace}
  (ht : P.underlying t = some (.array n e)) (hce : P.cellsOf e = m) (hct : P.cellsOf t = n * m)
  (h : DataW.trod enc P w base sp held fuel t cs = some (.agg ds, p)) :
  cs.length = n * m ∧ ds.length = n ∧ ∀ (i : Nat) (d : DataW H), ds[i]? = some d → ∃ f q, DataW.trod enc P w base sp held f e ((cs.drop (i * m)).take m) = some (d, q) := by
 cases fuel with
 | zero => simp [DataW.trod] at h
 | succ fuel =>
  simp only [DataW.trod, ht, hce, hct] at h
  split at h
  ·rename_i hl
   obtain ⟨xs, hm, hx⟩ := Option.map_eq_some_iff.1 h
   have hxs : xs.map (·.1) = ds := by
    have := congrArg Prod.fst hx
    simpa using this
   have hxl : xs.length = n := by simpa using Lib.mapM_length hm
   refine ⟨by simpa using hl, by rw [← hxs]; simp [hxl], fun i d hd => ?_⟩
   rw [← hxs] at hd
   rw [List.getElem?_map, Option.map_eq_some_iff] at hd
   obtain ⟨b, hb, rfl⟩ := hd
   have hi : i < n := by
    have := (List.getElem?_eq_some_iff.1 hb).1
    omega
   obtain ⟨b', hb', hf⟩ := Lib.mapM_at hm i i (by simp [hi])
   obtain rfl := Option.some.inj (hb.symm.trans hb')
   exact ⟨fuel, b.2, hf⟩
  ·cases h
theorem aiG {fuel : Nat} {t : TypeId} {k : IntKind} {cs : List Value} {z : Int} {p : List MemPlace} (ht : P.underlying t = some (.int k))
  (h : DataW.trod enc P w base sp held fuel t cs = some (.lit (.int k z), p)) : cs = [.int k z] := by
 cases fuel with
 | zero => simp [DataW.trod] at h
 | succ fuel =>
  obtain ⟨z', hc, h2, _⟩ := DataW.trod_int ht h
  cases h2
  exact hc
theorem arb {fuel : Nat} {t : TypeId} {fs : Array Field} {f g : Field} {k : IntKind} {cs : List Value} {x y : Int} {p : List MemPlace}
  (ht : P.underlying t = some (.struct fs)) (hfs : fs.toList = [f, g]) (hc : P.cellsOf t = 2) (hf0 : f.offset = 0) (hg0 : g.offset = 1) (hf : P.underlying f.type = some (.int k)) (hg : P.underlying g.type = some (.int k))
  (hcf : P.cellsOf f.type = 1) (hcg : P.cellsOf g.type = 1)
  (h : DataW.trod enc P w base sp held fuel t cs = some (.agg [.lit (.int k x), .lit (.int k y)], p)) : cs = [.int k x, .int k y] := by
 cases fuel with
 | zero => simp [DataW.trod] at h
 | succ fuel =>
  simp only [DataW.trod, ht, hfs, hc, hf0, hg0, hcf, hcg] at h
  split at h
  ·rename_i hl
   obtain ⟨xs, hm, hx⟩ := Option.map_eq_some_iff.1 h
   have hxs : xs.map (·.1) = [.lit (.int k x), .lit (.int k y)] := by
    have := congrArg Prod.fst hx
    simpa using this
   obtain ⟨b0, hb0, h0⟩ := Lib.mapM_at hm 0 f rfl
   obtain ⟨b1, hb1, h1⟩ := Lib.mapM_at hm 1 g rfl
   have e0 : b0.1 = .lit (.int k x) := by
    have := congrArg (·[0]?) hxs
    simpa [hb0] using this
   have e1 : b1.1 = .lit (.int k y) := by
    have := congrArg (·[1]?) hxs
    simpa [hb1] using this
   obtain ⟨d0, q0⟩ := b0
   obtain ⟨d1, q1⟩ := b1
   simp only at e0 e1
   subst e0 e1
   rw [hf0, hcf] at h0
   rw [hg0, hcg] at h1
   have a0 := aiG hf h0
   have a1 := aiG hg h1
   match cs, hl, a0, a1 with
   | [u, v], _, a0, a1 =>
    simp at a0 a1
    rw [a0, a1]
   | [], hl, _, _ => simp at hl
   | [_], hl, _, _ => simp at hl
   | _ :: _ :: _ :: _, hl, _, _ => simp at hl
  ·cases h
theorem anP {laid : List (String × DataW Unit)} {W : World} {ps : List MemPlace} (h : DataW.LaidVars P W laid ps) {i : Nat} {name : String} {d : DataW Unit} (hi : laid[i]? = some (name, d)) {g : Nat} {t : TypeId}
  (hg : P.globalNamed name = some g) (hty : (P.globals[g]?).map (·.type) = some t) : ∃ cs fuel p, W.var? P name = some cs ∧ DataW.trod (fun _ => ()) P W 0 (fun _ => true) false fuel t cs.toList = some (d, p) := by
 induction laid generalizing ps i with
 | nil => simp at hi
 | cons x rest ih =>
  obtain ⟨n, d'⟩ := x
  obtain ⟨g', t', cs, fuel, p, q, hg', ht', hvar, hd, hr, _⟩ := h
  cases i with
  | zero =>
   simp only [List.getElem?_cons_zero, Option.some.injEq, Prod.mk.injEq] at hi
   obtain ⟨rfl, rfl⟩ := hi
   obtain rfl := Option.some.inj (hg.symm.trans hg')
   obtain rfl := Option.some.inj (hty.symm.trans ht')
   exact ⟨cs, fuel, p, hvar, hd⟩
  | succ i => exact ih hr (by simpa using hi)
theorem ard {W : World} {name : String} {g : Nat} {cs : Array Value} (hg : P.globalNamed name = some g) (h : W.var? P name = some cs) : g < W.heap.size := by
 unfold World.var? at h
 rw [hg] at h
 simp only [Option.bind_some] at h
 split at h
 ·rename_i hh
  exact (Array.getElem?_eq_some_iff.1 hh).1
 ·cases h
theorem apm {W : World} {d0 d1 : DataW Unit} (hm : laidMet P [("unicode/utf8.acceptRanges", d1), ("unicode/utf8.first", d0)] W)
  (hd0 : d0 = .agg (gG.map fun z => .lit (.int .u8 z))) (hd1 : d1 = .agg (jI.map fun z => .agg [.lit (.int .u8 z.1), .lit (.int .u8 z.2)]))
  {t0 t1 e0 e1 : TypeId} (hg0 : P.globalNamed "unicode/utf8.first" = some 0) (hg1 : P.globalNamed "unicode/utf8.acceptRanges" = some 1)
  (hy0 : (P.globals[0]?).map (·.type) = some t0) (hy1 : (P.globals[1]?).map (·.type) = some t1)
  (ht0 : P.underlying t0 = some (.array 256 e0)) (ht1 : P.underlying t1 = some (.array 16 e1)) (he0 : P.underlying e0 = some (.int .u8))
  {fs : Array Field} {f g : Field} (he1 : P.underlying e1 = some (.struct fs)) (hfs : fs.toList = [f, g]) (hf0 : f.offset = 0) (hgo : g.offset = 1) (hf : P.underlying f.type = some (.int .u8)) (hg : P.underlying g.type = some (.int .u8))
  (hcf : P.cellsOf f.type = 1) (hcg : P.cellsOf g.type = 1) (hc0 : P.cellsOf t0 = 256) (hc1 : P.cellsOf t1 = 32) (avJ : P.cellsOf e0 = 1) (auu : P.cellsOf e1 = 2) : ap2 abO W.heap.size W := by
 obtain ⟨ps, hL, _⟩ := hm
 obtain ⟨cs1, fu1, p1, hv1, hr1⟩ := anP hL (i := 0) rfl hg1 hy1
 obtain ⟨cs0, fu0, p0, hv0, hr0⟩ := anP hL (i := 1) rfl hg0 hy0
 subst hd0 hd1
 obtain ⟨l0, n0, r0⟩ := alc (n := 256) (m := 1) ht0 avJ hc0 hr0
 obtain ⟨l1, n1, r1⟩ := alc (n := 16) (m := 2) ht1 auu hc1 hr1
 intro gg r xs hgg
 unfold abO at hgg
 by_cases h0 : gg = 0
 ·subst h0
  simp only [Nat.beq, cond_true, Option.some.injEq, Sigma.mk.injEq] at hgg
  obtain ⟨rfl, hxs⟩ := hgg
  cases hxs
  refine ⟨ard hg0 hv0, fun i d hd => ?_⟩
  obtain ⟨f', q, hq⟩ := r0 i _ (by rw [List.getElem?_map, hd]; rfl)
  have hcs := aiG he0 hq
  refine ⟨[.int .u8 d], rfl, fun j v hj => ?_, fun C w => ⟨.int .u8 d, [], rfl, ⟨rfl, rfl⟩, rfl⟩⟩
  match j, hj with
  | 0, hj =>
   cases hj
   rw [World.var?_cell hg0 hv0]
   have := congrArg (·[0]?) hcs
   simpa [Rw.n, List.getElem?_take, List.getElem?_drop] using this
  | j + 1, hj => simp at hj
 ·by_cases h1 : gg = 1
  ·subst h1
   simp only [Nat.beq, cond_true, cond_false, Option.some.injEq, Sigma.mk.injEq] at hgg
   obtain ⟨rfl, hxs⟩ := hgg
   cases hxs
   refine ⟨ard hg1 hv1, fun i d hd => ?_⟩
   obtain ⟨f', q, hq⟩ := r1 i _ (by rw [List.getElem?_map, hd]; rfl)
   have hcs := arb he1 hfs auu hf0 hgo hf hg hcf hcg hq
   refine ⟨[.int .u8 d.1, .int .u8 d.2], rfl, fun j v hj => ?_, fun C w => ⟨.int .u8 d.1, [.int .u8 d.2], rfl, ⟨rfl, rfl⟩, ⟨.int .u8 d.2, [], rfl, ⟨rfl, rfl⟩, rfl⟩⟩⟩
   match j, hj with
   | 0, hj =>
    cases hj
    rw [World.var?_cell hg1 hv1]
    have := congrArg (·[0]?) hcs
    simpa [Rw.n, List.getElem?_take, List.getElem?_drop] using this
   | 1, hj =>
    cases hj
    rw [World.var?_cell hg1 hv1]
    have := congrArg (·[1]?) hcs
    simpa [Rw.n, List.getElem?_take, List.getElem?_drop] using this
   | j + 2, hj => simp at hj
  ·exfalso
   match gg, h0, h1 with
   | 0, h0, _ => exact h0 rfl
   | 1, _, h1 => exact h1 rfl
   | n + 2, _, _ => simp [Nat.beq] at hgg
def u8B (P : Program) (t : TypeId) : Bool := match P.underlying t with
 | some (.int .u8) => P.cellsOf t == 1
 | _ => false
theorem amU {t : TypeId} (h : u8B P t = true) : P.underlying t = some (.int .u8) ∧ P.cellsOf t = 1 := by
 unfold u8B at h
 split at h
 ·rename_i e; exact ⟨e, by simpa using h⟩
 ·cases h
def auw (P : Program) (t : TypeId) : Bool := match P.underlying t with
 | some (.struct fs) => match fs.toList with
  | [f, g] => f.offset == 0 && g.offset == 1 && u8B P f.type && u8B P g.type && P.cellsOf t == 2
  | _ => false
 | _ => false
def auy (P : Program) (t0 t1 e0 e1 : TypeId) : Bool :=
 P.globalNamed "unicode/utf8.first" == some 0 && P.globalNamed "unicode/utf8.acceptRanges" == some 1 && (P.globals[0]?).map (·.type) == some t0 && (P.globals[1]?).map (·.type) == some t1 &&
 P.cellsOf t0 == 256 && P.cellsOf t1 == 32 && u8B P e0 && auw P e1
theorem amV {W : World} {d0 d1 : DataW Unit} (hm : laidMet P [("unicode/utf8.acceptRanges", d1), ("unicode/utf8.first", d0)] W)
  (hd0 : d0 = .agg (gG.map fun z => .lit (.int .u8 z))) (hd1 : d1 = .agg (jI.map fun z => .agg [.lit (.int .u8 z.1), .lit (.int .u8 z.2)]))
  (t0 t1 e0 e1 : TypeId) (hB : auy P t0 t1 e0 e1 = true) (ht0 : P.underlying t0 = some (.array 256 e0)) (ht1 : P.underlying t1 = some (.array 16 e1)) : ap2 abO W.heap.size W := by
 unfold auy at hB
 simp only [Bool.and_eq_true, beq_iff_eq] at hB
 obtain ⟨⟨⟨⟨⟨⟨⟨a1, a2⟩, a3⟩, a4⟩, a5⟩, a6⟩, a7⟩, a8⟩ := hB
 unfold auw at a8
 split at a8
 ·rename_i fs hfs
  split at a8
  ·rename_i f g hfg
   simp only [Bool.and_eq_true, beq_iff_eq] at a8
   obtain ⟨⟨⟨⟨b1, b2⟩, b3⟩, b4⟩, b5⟩ := a8
   obtain ⟨c1, c2⟩ := amU b3
   obtain ⟨c3, c4⟩ := amU b4
   obtain ⟨c5, c6⟩ := amU a7
   exact apm hm hd0 hd1 a1 a2 a3 a4 ht0 ht1 c5 hfs hfg b1 b2 c1 c3 c2 c4 a5 a6 c6 b5
  ·cases a8
 ·cases a8
def lay (xs : List Value) : Obj → Obj
 | .cells _ t frozen => .cells xs.toArray t frozen
 | o => o
def ath (h : Array Obj) : Array Obj := (h.modify 0 (lay (gG.map fun z => .int .u8 z))).modify 1 (lay (jI.flatMap fun z => [.int .u8 z.1, .int .u8 z.2]))
end Go.Ev
end
