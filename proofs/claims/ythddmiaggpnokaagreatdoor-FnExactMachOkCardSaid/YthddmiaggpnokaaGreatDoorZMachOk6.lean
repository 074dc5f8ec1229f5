/- MachOk: parts FsDocPlan Futf8wordbytes Futf8Valid FiisText Fiin FiisSession FiareCommits1 FslicesIndexFuncCommit FslicesContainsFuncCommit FslicesClonebytesbyte FiEditcopied FieditsOf Futf8RuneStart FiisCut FiisEdit EvGrow EvConc FiEditdo FiEditsDo FbytesEqual FiareCommits FiisClock FiEditisSmall FiareStacked1 FslicesIndexFuncEdit FslicesContainsFuncEdit FiareStacked FiisStack FslicesGrowEdit FslicesConcatEdit FiEditfits FiareMembers1 FslicesIndexFuncEditFits FslicesContainsFuncEditFits FiareMembers FiisLease FcmpisNaNint FcmpCompareint FcmpOrint FicompareLeases FiareLeases FiLeaseisActive, packed by squash.py. -/
import Derived.Shelf.Spec.SlicesGrow
import Derived.Laws.AppendOwn
import Derived.Test.YthddmiaggpnokaaGreatDoorZMachOk0
import Derived.Test.YthddmiaggpnokaaGreatDoorZMachOk1
import Derived.Test.YthddmiaggpnokaaGreatDoorZMachOk2
import Derived.Test.YthddmiaggpnokaaGreatDoorZMachOk3
import Derived.Test.YthddmiaggpnokaaGreatDoorZMachOk4
import Derived.Test.YthddmiaggpnokaaGreatDoorZMachOk5
set_option linter.unusedVariables false
set_option linter.unusedSimpArgs false
section
namespace Go.Ev.Seat
open Go.RowKit
set_option maxRecDepth 100000
set_option linter.unusedVariables false
set_option linter.unusedSimpArgs false
noncomputable abbrev WV : List (Nat × Bool × Sm) := [(N.pO, true, Bz), (N.dw, true, Rh), (N.Dc, true, Na), (N.pq, true, SN), (N.Vr, true, agj), (N.GL, true, WM), (N.Gp, true, PO), (N.pz, true, S9)]
noncomputable abbrev akI : Env := En WV [] [] [] false 0 []
noncomputable def Qg (d : bT) (r : uD) (v : Int) (K : aj → Option aj) : Option aj := (bif (cZ bH d) then (bif (!(iQ d v)) then K ((.t [(.a [(.s (.int .i64 (0 : Int))), (.s (.int .i64 (0 : Int))), (.l .deep ah ([] : List Int))]), (.s (.int .i64 (1 : Int)))]), []) else (bif (aO r.2.2.2.2.2) then (bif (!(dB r)) then K ((.t [(.a [(.s (.int .i64 (0 : Int))), (.s (.int .i64 (0 : Int))), (.l .deep ah ([] : List Int))]), (.s (.int .i64 (1 : Int)))]), []) else (bif (!(fG r.1)) then K ((.t [(.a [(.s (.int .i64 (0 : Int))), (.s (.int .i64 (0 : Int))), (.l .deep ah ([] : List Int))]), (.s (.int .i64 (1 : Int)))]), []) else (bif (Nat.ble (List.length d.2.2.2.2.1) 1048576) then (bif (decide ((zW (fun m => (m.1 == r.2.1)) d.2.2.2.2.1) < (0 : Int))) then K ((.t [(.a [(.s (.int .i64 (0 : Int))), (.s (.int .i64 (0 : Int))), (.l .deep ah ([] : List Int))]), (.s (.int .i64 (2 : Int)))]), []) else (bif (cZ bH d) then (bif (cZ bH d) then (bif (r.1 == (3 : Int)) then (bif (((aO (zB d v)) && (aO r.2.2.2.2.2)) && (aT (zB d v))) then (bif (!(fE (zB d v) (r.2.2.1, ((0 : Int), r.2.2.2.2.2)))) then K ((.t [(.a [(.s (.int .i64 (0 : Int))), (.s (.int .i64 (0 : Int))), (.l .deep ah ([] : List Int))]), (.s (.int .i64 (5 : Int)))]), []) else (bif ((fF (Cc.sl aB) (kG d v)) && (Nat.ble (List.length r.2.2.2.2.2) 1048576)) then K ((.t [(.a [(.s (.int .i64 (wZ (r.2.2.1, ((0 : Int), r.2.2.2.2.2)) (kG d v)).1.1)), (.s (.int .i64 (wZ (r.2.2.1, ((0 : Int), r.2.2.2.2.2)) (kG d v)).1.2.1)), (.l .deep ah (wZ (r.2.2.1, ((0 : Int), r.2.2.2.2.2)) (kG d v)).1.2.2)]), (.s (.int .i64 (0 : Int)))]), []) else none)) else none) else (bif (((aO (zB d v)) && (aO r.2.2.2.2.2)) && (aT (zB d v))) then (bif (!(fE (zB d v) (r.2.2.1, ((IntKind.wrap .i64 (r.2.2.2.1 - r.2.2.1)), r.2.2.2.2.2)))) then K ((.t [(.a [(.s (.int .i64 (0 : Int))), (.s (.int .i64 (0 : Int))), (.l .deep ah ([] : List Int))]), (.s (.int .i64 (5 : Int)))]), []) else (bif ((fF (Cc.sl aB) (kG d v)) && (Nat.ble (List.length r.2.2.2.2.2) 1048576)) then K ((.t [(.a [(.s (.int .i64 (wZ (r.2.2.1, ((IntKind.wrap .i64 (r.2.2.2.1 - r.2.2.1)), r.2.2.2.2.2)) (kG d v)).1.1)), (.s (.int .i64 (wZ (r.2.2.1, ((IntKind.wrap .i64 (r.2.2.2.1 - r.2.2.1)), r.2.2.2.2.2)) (kG d v)).1.2.1)), (.l .deep ah (wZ (r.2.2.1, ((IntKind.wrap .i64 (r.2.2.2.1 - r.2.2.1)), r.2.2.2.2.2)) (kG d v)).1.2.2)]), (.s (.int .i64 (0 : Int)))]), []) else none)) else none)) else none) else none)) else none))) else none)) else none)
theorem akJ (d : bT) (r : uD) (v : Int) (K : aj → Option aj) : dL akI true F.KG [.a (bH.cells .no d), .a (gV.cells .no r), .s (.int .i64 v)] K = Qg d r v K := by kernel_rfl
def aan : Sm := bg [.a bH, .a gV, .i] (fun d => cZ bH d.1 && aO d.2.1.2.2.2.2.2) (fun d => (.t [.a (aB.cells .deep (jv d.1 d.2.1 d.2.2.1).1), .s (.int .i64 (jv d.1 d.2.1 d.2.2.1).2)], []))
theorem akK (d : bT) (r : uD) (v : Int) (h : (cZ bH d && aO r.2.2.2.2.2) = true) (K : aj → Option aj) : Qg d r v K = K (.t [.a (aB.cells .deep (jv d r v).1), .s (.int .i64 (jv d r v).2)], []) := by
 obtain ⟨h0, h1⟩ := (Bool.and_eq_true _ _).mp h
 obtain ⟨f1, f2, f3, f4, f5⟩ := wu h0
 unfold Qg jv uU
 rw [h0]
 cases h2 : iQ d v with
 | false => rfl
 | true =>
 rw [h1]
 cases h3 : dB r with
 | false => rfl
 | true =>
 cases h4 : fG r.1 with
 | false => rfl
 | true =>
 obtain ⟨q1, q2, q3⟩ := FY.1 h2
 have hat : zB d v = (aU d.1 (bF (d.2.2.1.take v.toNat))).1 := by unfold zB; rw [h2]; rfl
 have hsi : kG d v = bF (d.2.2.1.drop v.toNat) := by unfold kG; rw [h2]; rfl
 have hfa : aO (zB d v) = true := by rw [hat]; exact AX f1 (AV (vS f3 _))
 have hta : aT (zB d v) = true := by
  rw [hat]
  refine Ib _ ?_
  unfold jk at q1
  simp only [Bool.and_eq_true] at q1
  exact q1.1.1.1.1
 have hfs : fF (.sl aB) (kG d v) = true := by rw [hsi]; exact AV (Ym f3 _)
 rw [← hat, ← hsi, Nat.ble_eq_true_of_le (dN f4), hfa, hta, hfs, Nat.ble_eq_true_of_le (jW h1)]
 by_cases hi : zW (fun m : au => m.1 == r.2.1) d.2.2.2.2.1 ≥ 0
 ·rw [decide_eq_true hi, decide_eq_false (show ¬ zW (fun m : au => m.1 == r.2.1) d.2.2.2.2.1 < 0 by omega)]
  cases hk : (r.1 == (3 : Int)) with
  | true =>
   have hm : lY r = (r.2.2.1, ((0 : Int), r.2.2.2.2.2)) := by
    unfold lY
    rw [show (r.1 != (3 : Int)) = false from by unfold bne; rw [hk]; rfl]; rfl
   rw [hm]
   cases fE (zB d v) (r.2.2.1, ((0 : Int), r.2.2.2.2.2)) <;> rfl
  | false =>
   have hm : lY r = (r.2.2.1, ((IntKind.wrap .i64 (r.2.2.2.1 - r.2.2.1)), r.2.2.2.2.2)) := by
    unfold lY
    rw [show (r.1 != (3 : Int)) = true from by unfold bne; rw [hk]; rfl]; rfl
   rw [hm]
   cases fE (zB d v) (r.2.2.1, ((IntKind.wrap .i64 (r.2.2.2.1 - r.2.2.1)), r.2.2.2.2.2)) <;> rfl
 ·rw [decide_eq_false hi, decide_eq_true (show zW (fun m : au => m.1 == r.2.1) d.2.2.2.2.1 < 0 by omega)]
  rfl
theorem afd : aV prog I N.KG true aan := kD (aW (aY Dl (aY aaj (aY PZ (aY abe (aY akD (aY adM (aY RY (aY abf bn)))))))) (l := WV) (p := []) (ls := []) (lend := []) (focus := false) (fuel := 0) (give := []) (fn := F.KG) (by kernel_rfl) (by kernel_rfl) (by kernel_rfl) (by kernel_rfl) (cs := []) (by kernel_rfl) aK) (aI fun d K h => (akJ d.1 d.2.1 d.2.2.1 K).trans (akK d.1 d.2.1 d.2.2.1 h K))
end Go.Ev.Seat
end
section
namespace Go.Ev.Seat
open Go.RowKit
set_option maxRecDepth 100000
set_option linter.unusedVariables false
set_option linter.unusedSimpArgs false
def w8 (p : List Int) : Int := XT .u64 (XT .u64 (XT .u64 (XT .u64 (XT .u64 (XT .u64 (XT .u64 (IntKind.wrap .u64 (p.getD 0 0)) (Rl .u64 (IntKind.wrap .u64 (p.getD 1 0)) 8)) (Rl .u64 (IntKind.wrap .u64 (p.getD 2 0)) 16)) (Rl .u64 (IntKind.wrap .u64 (p.getD 3 0)) 24)) (Rl .u64 (IntKind.wrap .u64 (p.getD 4 0)) 32)) (Rl .u64 (IntKind.wrap .u64 (p.getD 5 0)) 40)) (Rl .u64 (IntKind.wrap .u64 (p.getD 6 0)) 48)) (Rl .u64 (IntKind.wrap .u64 (p.getD 7 0)) 56)
noncomputable abbrev Ii : List (Nat × Plan × List Nat) := [(1, takes [0, 1, 2, 3, 4, 5, 6, 7, 8, 9, 10, 11, 12, 13, 14, 15, 16, 17, 18, 19, 20, 21, 22], []), (2, takes [0, 1, 2, 3, 4, 5, 6, 7, 8, 9, 10, 11, 12, 13, 14, 15, 16, 17, 18, 19, 20, 21, 22, 23, 24, 25, 26, 27, 28, 29, 30, 31, 32, 33, 34, 35, 36, 37, 38, 39, 40, 41, 42, 43, 44, 45, 46], [])]
noncomputable abbrev WW : Env := En [] Ii [] [] false 0 []
noncomputable def BA (p : List Int) (K : aj → Option aj) : Option aj := (bif (decide ((0 : Int) < (((List.length p) : Nat) : Int))) then (bif (decide ((1 : Int) < (((List.length p) : Nat) : Int))) then (bif (decide ((2 : Int) < (((List.length p) : Nat) : Int))) then (bif (decide ((3 : Int) < (((List.length p) : Nat) : Int))) then (bif (decide ((4 : Int) < (((List.length p) : Nat) : Int))) then (bif (decide ((5 : Int) < (((List.length p) : Nat) : Int))) then (bif (decide ((6 : Int) < (((List.length p) : Nat) : Int))) then (bif (decide ((7 : Int) < (((List.length p) : Nat) : Int))) then K ((.s (.int .u64 (XT .u64 (XT .u64 (XT .u64 (XT .u64 (XT .u64 (XT .u64 (XT .u64 (IntKind.wrap .u64 (List.getD p 0 (0 : Int))) (Rl .u64 (IntKind.wrap .u64 (List.getD p 1 (0 : Int))) (8 : Int))) (Rl .u64 (IntKind.wrap .u64 (List.getD p 2 (0 : Int))) (16 : Int))) (Rl .u64 (IntKind.wrap .u64 (List.getD p 3 (0 : Int))) (24 : Int))) (Rl .u64 (IntKind.wrap .u64 (List.getD p 4 (0 : Int))) (32 : Int))) (Rl .u64 (IntKind.wrap .u64 (List.getD p 5 (0 : Int))) (40 : Int))) (Rl .u64 (IntKind.wrap .u64 (List.getD p 6 (0 : Int))) (48 : Int))) (Rl .u64 (IntKind.wrap .u64 (List.getD p 7 (0 : Int))) (56 : Int))))), []) else none) else none) else none) else none) else none) else none) else none) else none)
theorem WX (p : List Int) (K : aj → Option aj) : dL WW true F.qw [.l .no ah p] K = BA p K := by kernel_rfl
def Jz : Sm := bg [.l ah] (fun d => Nat.ble 8 d.1.length) (fun d => (.s (.int .u64 (w8 d.1)), []))
theorem WY (p : List Int) (h : (Nat.ble 8 p.length) = true) (K : aj → Option aj) : BA p K = K (.s (.int .u64 (w8 p)), []) := by
 have h' := Nat.le_of_ble_eq_true h
 unfold BA
 simp (disch := omega) only [decide_eq_true, Bool.true_and, cond_true]
 rfl
theorem Rt : aV prog I N.qw true Jz := kD (aW bn (l := []) (p := Ii) (ls := []) (lend := []) (focus := false) (fuel := 0) (give := []) (fn := F.qw) (by kernel_rfl) (by kernel_rfl) (by kernel_rfl) (by kernel_rfl) (cs := []) (by kernel_rfl) aK) (aI fun d K h => (WX d.1 K).trans (WY d.1 h K))
end Go.Ev.Seat
end
section
namespace Go.Ev.Seat
open Go.RowKit
set_option maxRecDepth 100000
set_option linter.unusedVariables false
set_option linter.unusedSimpArgs false
def sV (x0 : List Int) (x3 : Int) : St := { tm := ([(.l .no ah x0), .x, .x, (.s (.int .u8 x3))] ++ List.replicate 184 .x), ob := [], nx := 0, io := [] }
def qg : Ss := { tm := (.cons (.l .no ah) (.cons (.x) (.cons (.x) (.cons (.int .u8) (Fj 184))))), ob := .nil, nx := 0, io := .nil }
def WZ (x0 : List Int) (x3 : Int) : qg.T := ((x0, ((), ((), (x3, xd 184)))), (), ())
def nD (x0 : List Int) (x3 : Int) : St := { tm := ([(.l .no ah x0), .x, .x, (.s (.int .u8 x3))] ++ List.replicate 184 .x), ob := [], nx := 0, io := [] }
theorem Ut (x0 : List Int) (x3 : Int) : qg.mk' (WZ x0 x3) = (nD x0 x3) := by kernel_rfl
def W9 (d : qg.T) (f : (List Int) → Int → Option aj) : Option aj := match d with | ((x0, (_, (_, (x3, _)))), _, _) => f x0 x3
noncomputable def sW (x0 : List Int) (x3 : Int) (lC : (List Int) → Int → Option aj) (k0 : (List Int) → Int → Option aj) : Option aj := (bif (decide ((((List.length x0) : Nat) : Int) > (32 : Int))) then (bif (decide ((8 : Int) ≤ (((List.length x0) : Nat) : Int))) then (bif (decide ((16 : Int) ≤ (((List.length x0) : Nat) : Int))) then (bif (decide ((24 : Int) ≤ (((List.length x0) : Nat) : Int))) then (bif (Nat.ble 8 (List.length x0)) then (bif (Nat.ble 8 (List.length (List.drop 8 x0))) then (bif (Nat.ble 8 (List.length (List.drop 16 x0))) then (bif (Nat.ble 8 (List.length (List.drop 24 x0))) then (bif ((band .u64 (XT .u64 (XT .u64 (w8 x0) (w8 (List.drop 8 x0))) (XT .u64 (w8 (List.drop 16 x0)) (w8 (List.drop 24 x0)))) (9259542123273814144 : Int)) == (0 : Int)) then (bif (decide ((32 : Int) ≤ (((List.length x0) : Nat) : Int))) then (lC (List.drop 32 x0) x3) else none) else (k0 x0 x3)) else none) else none) else none) else none) else none) else none) else none) else (k0 x0 x3))
noncomputable def nG : Nat → (List Int) → Int → ((List Int) → Int → Option aj) → Option aj
 | 0, _, _, _ => none
 | m + 1, x0, x3, k0 => sW x0 x3 (fun x0 x3 => (nG m x0 x3 k0)) k0
noncomputable def BD (x0 : List Int) (x3 : Int) (k0 : (List Int) → Int → Option aj) : Option aj := nG (List.length x0 + x3.toNat + 2) x0 x3 k0
noncomputable def yT : dV := (fun (σ : St) (K : Ex → St → Option aj) => (match qg.un σ with | some d => W9 d (fun x0 x3 => BD x0 x3 (fun x0 x3 => (K (.ext 2) (sV x0 x3)))) | none => none))
def wG (x2 : Bool) : St := { tm := ([.x, .x, (.s (.bool x2))] ++ List.replicate 185 .x), ob := [], nx := 0, io := [] }
def wH : St := { tm := ([] ++ List.replicate 188 .x), ob := [], nx := 0, io := [] }
def sZ : Ss := { tm := (.cons (.l .no ah) (Fj 187)), ob := .nil, nx := 0, io := .nil }
def YS (x0 : List Int) : sZ.T := ((x0, xd 187), (), ())
def oK (x0 : List Int) : St := { tm := ([(.l .no ah x0)] ++ List.replicate 187 .x), ob := [], nx := 0, io := [] }
theorem Xa (x0 : List Int) : sZ.mk' (YS x0) = (oK x0) := by kernel_rfl
def YT (d : sZ.T) (f : (List Int) → Option aj) : Option aj := match d with | ((x0, _), _, _) => f x0
noncomputable def oL (x0 : List Int) (lC : (List Int) → Option aj) (k0 : Bool → Option aj) (k1 : Option aj) : Option aj := (bif (decide ((((List.length x0) : Nat) : Int) > (0 : Int))) then (bif (decide ((0 : Int) < (((List.length x0) : Nat) : Int))) then (bif (decide ((List.getD x0 0 (0 : Int)) < (128 : Int))) then (bif (decide ((1 : Int) ≤ (((List.length x0) : Nat) : Int))) then (bif (decide ((((List.length (List.drop 1 x0)) : Nat) : Int) > (8 : Int))) then (bif (Nat.ble 8 (List.length (List.drop 1 x0))) then (bif ((band .u64 (w8 (List.drop 1 x0)) (9259542123273814144 : Int)) == (0 : Int)) then (bif (decide ((8 : Int) ≤ (((List.length (List.drop 1 x0)) : Nat) : Int))) then (bif (decide ((((List.length (List.drop 8 (List.drop 1 x0))) : Nat) : Int) > (16 : Int))) then (bif (decide ((8 : Int) ≤ (((List.length (List.drop 8 (List.drop 1 x0))) : Nat) : Int))) then (bif (Nat.ble 8 (List.length (List.drop 8 (List.drop 1 x0)))) then (bif (Nat.ble 8 (List.length (List.drop 8 (List.drop 8 (List.drop 1 x0))))) then (bif ((band .u64 (XT .u64 (w8 (List.drop 8 (List.drop 1 x0))) (w8 (List.drop 8 (List.drop 8 (List.drop 1 x0))))) (9259542123273814144 : Int)) == (0 : Int)) then (bif (decide ((16 : Int) ≤ (((List.length (List.drop 8 (List.drop 1 x0))) : Nat) : Int))) then (BD (List.drop 16 (List.drop 8 (List.drop 1 x0))) (List.getD x0 0 (0 : Int)) (fun y0 y1 => (lC y0))) else none) else (lC (List.drop 8 (List.drop 1 x0)))) else none) else none) else none) else (lC (List.drop 8 (List.drop 1 x0)))) else none) else (lC (List.drop 1 x0))) else none) else (lC (List.drop 1 x0))) else none) else (bif ((decide ((0 : Int) ≤ (List.getD x0 0 (0 : Int)))) && (decide ((List.getD x0 0 (0 : Int)) < ((256 : Nat) : Int)))) then (bif (Nat.blt (Int.toNat (List.getD x0 0 (0 : Int))) (List.length gG)) then (bif ((decide ((0 : Int) ≤ (MF .u8 (List.getD gG (Int.toNat (List.getD x0 0 (0 : Int))) (0 : Int)) (4 : Int)))) && (decide ((MF .u8 (List.getD gG (Int.toNat (List.getD x0 0 (0 : Int))) (0 : Int)) (4 : Int)) < ((16 : Nat) : Int)))) then (bif (Nat.blt (Int.toNat (MF .u8 (List.getD gG (Int.toNat (List.getD x0 0 (0 : Int))) (0 : Int)) (4 : Int))) (List.length jI)) then (bif ((IntKind.wrap .i64 (band .u8 (List.getD gG (Int.toNat (List.getD x0 0 (0 : Int))) (0 : Int)) (7 : Int))) == (2 : Int)) then (bif (decide ((((List.length x0) : Nat) : Int) < (2 : Int))) then (k0 false) else (bif (decide ((1 : Int) < (((List.length x0) : Nat) : Int))) then (bif (decide ((List.getD x0 1 (0 : Int)) < (List.getD jI (Int.toNat (MF .u8 (List.getD gG (Int.toNat (List.getD x0 0 (0 : Int))) (0 : Int)) (4 : Int))) (alG.dflt)).1)) then (k0 false) else (bif (decide ((1 : Int) < (((List.length x0) : Nat) : Int))) then (bif (decide ((List.getD jI (Int.toNat (MF .u8 (List.getD gG (Int.toNat (List.getD x0 0 (0 : Int))) (0 : Int)) (4 : Int))) (alG.dflt)).2 < (List.getD x0 1 (0 : Int)))) then (k0 false) else (bif (decide ((2 : Int) ≤ (((List.length x0) : Nat) : Int))) then (lC (List.drop 2 x0)) else none)) else none)) else none)) else (bif ((IntKind.wrap .i64 (band .u8 (List.getD gG (Int.toNat (List.getD x0 0 (0 : Int))) (0 : Int)) (7 : Int))) == (3 : Int)) then (bif (decide ((((List.length x0) : Nat) : Int) < (3 : Int))) then (k0 false) else (bif (decide ((1 : Int) < (((List.length x0) : Nat) : Int))) then (bif (decide ((List.getD x0 1 (0 : Int)) < (List.getD jI (Int.toNat (MF .u8 (List.getD gG (Int.toNat (List.getD x0 0 (0 : Int))) (0 : Int)) (4 : Int))) (alG.dflt)).1)) then (k0 false) else (bif (decide ((1 : Int) < (((List.length x0) : Nat) : Int))) then (bif (decide ((List.getD jI (Int.toNat (MF .u8 (List.getD gG (Int.toNat (List.getD x0 0 (0 : Int))) (0 : Int)) (4 : Int))) (alG.dflt)).2 < (List.getD x0 1 (0 : Int)))) then (k0 false) else (bif (decide ((2 : Int) < (((List.length x0) : Nat) : Int))) then (bif (decide ((List.getD x0 2 (0 : Int)) < (128 : Int))) then (k0 false) else (bif (decide ((2 : Int) < (((List.length x0) : Nat) : Int))) then (bif (decide ((191 : Int) < (List.getD x0 2 (0 : Int)))) then (k0 false) else (bif (decide ((3 : Int) ≤ (((List.length x0) : Nat) : Int))) then (lC (List.drop 3 x0)) else none)) else none)) else none)) else none)) else none)) else (bif ((IntKind.wrap .i64 (band .u8 (List.getD gG (Int.toNat (List.getD x0 0 (0 : Int))) (0 : Int)) (7 : Int))) == (4 : Int)) then (bif (decide ((((List.length x0) : Nat) : Int) < (4 : Int))) then (k0 false) else (bif (decide ((1 : Int) < (((List.length x0) : Nat) : Int))) then (bif (decide ((List.getD x0 1 (0 : Int)) < (List.getD jI (Int.toNat (MF .u8 (List.getD gG (Int.toNat (List.getD x0 0 (0 : Int))) (0 : Int)) (4 : Int))) (alG.dflt)).1)) then (k0 false) else (bif (decide ((1 : Int) < (((List.length x0) : Nat) : Int))) then (bif (decide ((List.getD jI (Int.toNat (MF .u8 (List.getD gG (Int.toNat (List.getD x0 0 (0 : Int))) (0 : Int)) (4 : Int))) (alG.dflt)).2 < (List.getD x0 1 (0 : Int)))) then (k0 false) else (bif (decide ((2 : Int) < (((List.length x0) : Nat) : Int))) then (bif (decide ((List.getD x0 2 (0 : Int)) < (128 : Int))) then (k0 false) else (bif (decide ((2 : Int) < (((List.length x0) : Nat) : Int))) then (bif (decide ((191 : Int) < (List.getD x0 2 (0 : Int)))) then (k0 false) else (bif (decide ((3 : Int) < (((List.length x0) : Nat) : Int))) then (bif (decide ((List.getD x0 3 (0 : Int)) < (128 : Int))) then (k0 false) else (bif (decide ((3 : Int) < (((List.length x0) : Nat) : Int))) then (bif (decide ((191 : Int) < (List.getD x0 3 (0 : Int)))) then (k0 false) else (bif (decide ((4 : Int) ≤ (((List.length x0) : Nat) : Int))) then (lC (List.drop 4 x0)) else none)) else none)) else none)) else none)) else none)) else none)) else none)) else (k0 false)))) else none) else none) else none) else none)) else none) else k1)
noncomputable def oM : Nat → (List Int) → (Bool → Option aj) → (Option aj) → Option aj
 | 0, _, _, _ => none
 | m + 1, x0, k0, k1 => oL x0 (fun x0 => (oM m x0 k0 k1)) k0 k1
noncomputable def Dn (x0 : List Int) (k0 : Bool → Option aj) (k1 : Option aj) : Option aj := oM (List.length x0 + 2) x0 k0 k1
noncomputable def BF : dV := (fun (σ : St) (K : Ex → St → Option aj) => (match sZ.un σ with | some d => YT d (fun x0 => Dn x0 (fun x2 => (K .ret (wG x2))) (K (.ext 0) wH)) | none => none))
noncomputable abbrev Tc : List (Nat × Plan × List Nat) := [(8, takeB [0, 1, 2, 3, 4, 6, 7] (.fork (.one 5 (.fork (.one 8 (takes [9, 10, 11, 12]))))), []), (10, takeB [0, 1, 2, 3, 4, 6, 7, 10, 11, 13, 14] (.fork (.one 5 (.fork (.one 8 (takeB [9] (.fork (.one 12 (.fork (.one 15 (takes [16, 17, 18, 19, 20])))))))))), []), (18, takes [0, 1, 2, 3, 4, 5, 6, 7, 8, 9, 10, 11, 12, 13, 14, 15, 16, 17, 18], []), (22, takes [0, 1, 2, 3, 4, 5, 6, 7, 8, 9, 10, 11, 12, 13, 14, 15, 16, 17, 18, 19, 20, 21, 22, 23, 24, 25, 26, 27, 28, 29, 30], []), (26, takes [0, 1, 2, 3, 4, 5, 6, 7, 8, 9, 10, 11, 12, 13, 14, 15, 16, 17, 18, 19, 20, 21, 22, 23, 24, 25, 26, 27, 28, 29, 30, 31, 32, 33, 34, 35, 36, 37, 38, 39, 40, 41, 42], [])]
noncomputable abbrev Td : List (Nat × Bool × Sm) := [(N.qw, true, Jz)]
noncomputable abbrev BG : Env := En Td Tc [(10, [0,3], [0,2,3], yT), (2, [0], [2], BF)] [] false 0 []
noncomputable abbrev qQ := rounds (run BG (aS F.lI 10)) [0,3] [0,2,3]
theorem Uu (m : Nat) (x0 : List Int) (x3 : Int) (K : Ex → St → Option aj) : qQ (m + 1) (nD x0 x3) K = sW x0 x3 (fun x0 x3 => (qQ m (nD x0 x3) K)) (fun x0 x3 => (K (.ext 2) (sV x0 x3))) := by kernel_rfl
theorem NM (K : Ex → St → Option aj) : ∀ m : Nat, (∀ (x0 : List Int) (x3 : Int), qQ m (nD x0 x3) K = nG m x0 x3 (fun x0 x3 => (K (.ext 2) (sV x0 x3))))
 | 0 => (fun _ _ => rfl)
 | m + 1 => (fun x0 x3 => (by rw [Uu, show (fun x0 x3 => (qQ m (nD x0 x3) K)) = (fun x0 x3 => (nG m x0 x3 (fun x0 x3 => (K (.ext 2) (sV x0 x3))))) from funext fun x0 => funext fun x3 => (NM K m) x0 x3]; rfl))
theorem Ru : dJ BG (aS F.lI 10) := by
 refine dh (n := 10) (F := yT) (by kernel_rfl) rfl (li := [0,3]) (lo := [0,2,3]) rfl (fun σ K r hr => ?_)
 unfold yT at hr
 split at hr
 ·rename_i d hd
  rw [Ss.dY hd]
  exact ⟨_, ((congrArg (fun z => qQ _ z K) (Ut _ _)).trans ((NM K _) _ _)).trans hr⟩
 ·cases hr
noncomputable abbrev uX := rounds (run BG (aS F.lI 2)) [0] [2]
theorem Xb (m : Nat) (x0 : List Int) (K : Ex → St → Option aj) : uX (m + 1) (oK x0) K = oL x0 (fun x0 => (uX m (oK x0) K)) (fun x2 => (K .ret (wG x2))) (K (.ext 0) wH) := by kernel_rfl
theorem Qh (K : Ex → St → Option aj) : ∀ m : Nat, (∀ (x0 : List Int), uX m (oK x0) K = oM m x0 (fun x2 => (K .ret (wG x2))) (K (.ext 0) wH))
 | 0 => (fun _ => rfl)
 | m + 1 => (fun x0 => (by rw [Xb, show (fun x0 => (uX m (oK x0) K)) = (fun x0 => (oM m x0 (fun x2 => (K .ret (wG x2))) (K (.ext 0) wH))) from funext fun x0 => (Qh K m) x0]; rfl))
theorem Uw : dJ BG (aS F.lI 2) := by
 refine dh (n := 2) (F := BF) (by kernel_rfl) rfl (li := [0]) (lo := [2]) rfl (fun σ K r hr => ?_)
 unfold BF at hr
 split at hr
 ·rename_i d hd
  rw [Ss.dY hd]
  exact ⟨_, ((congrArg (fun z => uX _ z K) (Xa _)).trans ((Qh K _) _)).trans hr⟩
 ·cases hr
noncomputable def Np (p : List Int) (K : aj → Option aj) : Option aj := (bif ((decide ((((List.length p) : Nat) : Int) ≤ (((List.length p) : Nat) : Int))) && (decide ((((List.length p) : Nat) : Int) ≤ (((List.length p) : Nat) : Int)))) then (Dn (List.drop 0 (List.take (List.length p) p)) (fun y2 => K ((.s (.bool y2)), [])) (K ((.s (.bool true)), []))) else none)
theorem ain (p : List Int) (K : aj → Option aj) : dL BG true F.lI [.l .no ah p] K = Np p K := by kernel_rfl
theorem Uy {xs : List Int} (h : aO xs = true) : ∃ W : Nat, w8 xs = (W : Int) ∧ W < 18446744073709551616 ∧ (W &&& M8 = 0 ↔ ∀ i, i < 8 → xs.getD i 0 < 128) := by
 have hb : ∀ i : Nat, ∃ n : Nat, xs.getD i 0 = (n : Int) ∧ n < 256 := fun i => by
  have := Ap h i
  exact ⟨(xs.getD i 0).toNat, by omega, by omega⟩
 obtain ⟨n0, e0, l0⟩ := hb 0
 obtain ⟨n1, e1, l1⟩ := hb 1
 obtain ⟨n2, e2, l2⟩ := hb 2
 obtain ⟨n3, e3, l3⟩ := hb 3
 obtain ⟨n4, e4, l4⟩ := hb 4
 obtain ⟨n5, e5, l5⟩ := hb 5
 obtain ⟨n6, e6, l6⟩ := hb 6
 obtain ⟨n7, e7, l7⟩ := hb 7
 have o : ∀ {a b : Nat}, a < 18446744073709551616 → b < 18446744073709551616 → a ||| b < 18446744073709551616 := fun ha hb => Nat.or_lt_two_pow (n := 64) ha hb
 have s0 : n0 < 18446744073709551616 := by omega
 have s1 := TY l1 (show 1 < 8 by omega)
 have s2 := TY l2 (show 2 < 8 by omega)
 have s3 := TY l3 (show 3 < 8 by omega)
 have s4 := TY l4 (show 4 < 8 by omega)
 have s5 := TY l5 (show 5 < 8 by omega)
 have s6 := TY l6 (show 6 < 8 by omega)
 have s7 := TY l7 (show 7 < 8 by omega)
 refine ⟨((((((n0 ||| n1 * 2 ^ (8 * 1)) ||| n2 * 2 ^ (8 * 2)) ||| n3 * 2 ^ (8 * 3)) ||| n4 * 2 ^ (8 * 4)) ||| n5 * 2 ^ (8 * 5)) ||| n6 * 2 ^ (8 * 6)) ||| n7 * 2 ^ (8 * 7), ?_, o (o (o (o (o (o (o s0 s1) s2) s3) s4) s5) s6) s7, ?_⟩
 ·unfold w8
  rw [e0, e1, e2, e3, e4, e5, e6, e7]
  rw [show (8 : Int) = ((8 * 1 : Nat) : Int) from rfl, show (16 : Int) = ((8 * 2 : Nat) : Int) from rfl, show (24 : Int) = ((8 * 3 : Nat) : Int) from rfl, show (32 : Int) = ((8 * 4 : Nat) : Int) from rfl, show (40 : Int) = ((8 * 5 : Nat) : Int) from rfl, show (48 : Int) = ((8 * 6 : Nat) : Int) from rfl, show (56 : Int) = ((8 * 7 : Nat) : Int) from rfl]
  rw [acO l1 (by omega), acO l2 (by omega), acO l3 (by omega), acO l4 (by omega), acO l5 (by omega), acO l6 (by omega), acO l7 (by omega), wrap64 s0]
  rw [OW s0 s1, OW (o s0 s1) s2, OW (o (o s0 s1) s2) s3, OW (o (o (o s0 s1) s2) s3) s4, OW (o (o (o (o s0 s1) s2) s3) s4) s5, OW (o (o (o (o (o s0 s1) s2) s3) s4) s5) s6, OW (o (o (o (o (o (o s0 s1) s2) s3) s4) s5) s6) s7]
 ·rw [or_mask, or_mask, or_mask, or_mask, or_mask, or_mask, or_mask, ZR l1 (by omega), ZR l2 (by omega), ZR l3 (by omega), ZR l4 (by omega), ZR l5 (by omega), ZR l6 (by omega), ZR l7 (by omega)]
  have h0 := ZR l0 (show 0 < 8 by omega)
  rw [show n0 * 2 ^ (8 * 0) = n0 by simp] at h0
  rw [h0]
  constructor
  ·intro hh i hi
   have hc : i = 0 ∨ i = 1 ∨ i = 2 ∨ i = 3 ∨ i = 4 ∨ i = 5 ∨ i = 6 ∨ i = 7 := by omega
   rcases hc with rfl | rfl | rfl | rfl | rfl | rfl | rfl | rfl
   ·rw [e0]; omega
   ·rw [e1]; omega
   ·rw [e2]; omega
   ·rw [e3]; omega
   ·rw [e4]; omega
   ·rw [e5]; omega
   ·rw [e6]; omega
   ·rw [e7]; omega
  ·intro hh
   have g0 := hh 0 (by omega)
   have g1 := hh 1 (by omega)
   have g2 := hh 2 (by omega)
   have g3 := hh 3 (by omega)
   have g4 := hh 4 (by omega)
   have g5 := hh 5 (by omega)
   have g6 := hh 6 (by omega)
   have g7 := hh 7 (by omega)
   rw [e0] at g0; rw [e1] at g1; rw [e2] at g2; rw [e3] at g3; rw [e4] at g4; rw [e5] at g5; rw [e6] at g6; rw [e7] at g7
   omega
theorem aum {xs : List Int} (h : aO xs = true) (hm : (band .u64 (w8 xs) (9259542123273814144 : Int) == (0 : Int)) = true) : ∀ i, i < 8 → xs.getD i 0 < 128 := by
 obtain ⟨W, e, l, hw⟩ := Uy h
 rw [e, show (9259542123273814144 : Int) = ((M8 : Nat) : Int) from rfl, al3 l (by decide), beq_iff_eq] at hm
 exact hw.1 (by omega)
theorem aun {xs ys : List Int} (h : aO xs = true) (h2 : aO ys = true) (hm : (band .u64 (XT .u64 (w8 xs) (w8 ys)) (9259542123273814144 : Int) == (0 : Int)) = true) : (∀ i, i < 8 → xs.getD i 0 < 128) ∧ ∀ i, i < 8 → ys.getD i 0 < 128 := by
 obtain ⟨W, e, l, hw⟩ := Uy h
 obtain ⟨V, e2, l2, hv⟩ := Uy h2
 rw [e, e2, OW l l2, show (9259542123273814144 : Int) = ((M8 : Nat) : Int) from rfl, al3 (Nat.or_lt_two_pow (n := 64) l l2) (by decide), beq_iff_eq] at hm
 have : (W ||| V) &&& M8 = 0 := by omega
 rw [or_mask] at this
 exact ⟨hw.1 this.1, hv.1 this.2⟩
theorem auo {a b c d : List Int} (ha : aO a = true) (hb : aO b = true) (hc : aO c = true) (hd : aO d = true) (hm : (band .u64 (XT .u64 (XT .u64 (w8 a) (w8 b)) (XT .u64 (w8 c) (w8 d))) (9259542123273814144 : Int) == (0 : Int)) = true) :
  (∀ i, i < 8 → a.getD i 0 < 128) ∧ (∀ i, i < 8 → b.getD i 0 < 128) ∧ (∀ i, i < 8 → c.getD i 0 < 128) ∧ ∀ i, i < 8 → d.getD i 0 < 128 := by
 obtain ⟨A, e1, l1, h1⟩ := Uy ha
 obtain ⟨B, e2, l2, h2⟩ := Uy hb
 obtain ⟨C, e3, l3, h3⟩ := Uy hc
 obtain ⟨D, e4, l4, h4⟩ := Uy hd
 have o : ∀ {a b : Nat}, a < 18446744073709551616 → b < 18446744073709551616 → a ||| b < 18446744073709551616 := fun ha hb => Nat.or_lt_two_pow (n := 64) ha hb
 rw [e1, e2, e3, e4, OW l1 l2, OW l3 l4, OW (o l1 l2) (o l3 l4), show (9259542123273814144 : Int) = ((M8 : Nat) : Int) from rfl, al3 (o (o l1 l2) (o l3 l4)) (by decide), beq_iff_eq] at hm
 have : ((A ||| B) ||| (C ||| D)) &&& M8 = 0 := by omega
 rw [or_mask, or_mask, or_mask] at this
 exact ⟨h1.1 this.1.1, h2.1 this.1.2, h3.1 this.2.1, h4.1 this.2.2⟩
theorem Dp {xs : List Int} {n m : Nat} (h1 : ∀ i, i < n → xs.getD i 0 < 128) (h2 : ∀ i, i < m → (xs.drop n).getD i 0 < 128) : ∀ i, i < n + m → xs.getD i 0 < 128 := fun i hi => by
 by_cases h : i < n
 ·exact h1 i h
 ·have := h2 (i - n) (by omega)
  rw [getD_drop, show n + (i - n) = i by omega] at this
  exact this
theorem aq0 (k0 : List Int → Int → Option aj) (x3 : Int) : ∀ (m : Nat) (xs : List Int), aO xs = true → xs.length < m → ∃ ys, aO ys = true ∧ ys.length ≤ xs.length ∧ valid ys = valid xs ∧ nG m xs x3 k0 = k0 ys x3
 | 0, xs, _, h => absurd h (by omega)
 | m + 1, xs, hf, hl => by
  show ∃ ys, aO ys = true ∧ ys.length ≤ xs.length ∧ valid ys = valid xs ∧ sW xs x3 _ k0 = k0 ys x3
  unfold sW
  by_cases h32 : ((xs.length : Nat) : Int) > 32
  ·simp (disch := omega) only [decide_eq_true, decide_eq_false, Bool.true_and, cond_true, List.length_drop, Nat.ble_eq_true_of_le]
   cases hm : (band .u64 (XT .u64 (XT .u64 (w8 xs) (w8 (List.drop 8 xs))) (XT .u64 (w8 (List.drop 16 xs)) (w8 (List.drop 24 xs)))) (9259542123273814144 : Int) == (0 : Int)) with
   | false => exact ⟨xs, hf, Nat.le_refl _, rfl, rfl⟩
   | true =>
    obtain ⟨a1, a2, a3, a4⟩ := auo hf (og hf 8) (og hf 16) (og hf 24) hm
    have a := Dp (n := 24) (Dp (n := 16) (Dp (n := 8) a1 a2) a3) a4
    obtain ⟨ys, g1, g2, g3, g4⟩ := aq0 k0 x3 m (List.drop 32 xs) (og hf 32) (by simp; omega)
    exact ⟨ys, g1, by simp at g2; omega, g3.trans (MI 32 (by omega) a), g4⟩
  ·rw [decide_eq_false h32]
   exact ⟨xs, hf, Nat.le_refl _, rfl, rfl⟩
theorem step2 (x0 : List Int) (hx : aO x0 = true) (nx : List Int → Option aj) (k0 : Bool → Option aj) (k1 RES : Option aj)
  (hn : ∀ ys, aO ys = true → ys.length < x0.length → valid ys = valid x0 → nx ys = RES) (h1 : valid x0 = true → k1 = RES) (h0 : valid x0 = false → k0 false = RES) : oL x0 nx k0 k1 = RES := by
 unfold oL
 by_cases hl : ((x0.length : Nat) : Int) > 0
 case neg =>
  rw [decide_eq_false hl]
  have : x0 = [] := List.length_eq_zero_iff.1 (by omega)
  exact h1 (by rw [this]; exact Q8)
 case pos =>
 have hb := Ap hx 0
 by_cases hb1 : x0.getD 0 0 < 128
 ·have hd : ∀ n, 1 ≤ n → n ≤ x0.length → (∀ i, i < n → x0.getD i 0 < 128) → nx (x0.drop n) = RES := fun n hn1 hn2 ha => hn _ (og hx n) (by simp; omega) (MI n hn2 ha)
  have a0 : ∀ i, i < 1 → x0.getD i 0 < 128 := fun i hi => by rw [show i = 0 by omega]; exact hb1
  simp (disch := omega) only [decide_eq_true, Bool.true_and, cond_true, List.length_drop, List.drop_drop]
  by_cases h9 : ((x0.length - 1 : Nat) : Int) > 8
  case neg => rw [decide_eq_false h9]; exact hd 1 (by omega) (by omega) a0
  rw [decide_eq_true h9, Nat.ble_eq_true_of_le (show 8 ≤ x0.length - 1 by omega)]
  cases hm : (band .u64 (w8 (List.drop 1 x0)) (9259542123273814144 : Int) == (0 : Int)) with
  | false => exact hd 1 (by omega) (by omega) a0
  | true =>
  have a9 := Dp a0 (aum (og hx 1) hm)
  rw [decide_eq_true (show (8 : Int) ≤ ((x0.length - 1 : Nat) : Int) by omega)]
  simp only [cond_true]
  by_cases h17 : ((x0.length - (1 + 8) : Nat) : Int) > 16
  case neg => rw [decide_eq_false h17]; exact hd 9 (by omega) (by omega) a9
  simp (disch := omega) only [decide_eq_true, Nat.ble_eq_true_of_le, Bool.true_and, cond_true]
  cases hm2 : (band .u64 (XT .u64 (w8 (List.drop (1 + 8) x0)) (w8 (List.drop (1 + 8 + 8) x0))) (9259542123273814144 : Int) == (0 : Int)) with
  | false => exact hd 9 (by omega) (by omega) a9
  | true =>
  obtain ⟨m1, m2⟩ := aun (og hx _) (og hx _) hm2
  have a25 := Dp (Dp a9 m1) m2
  unfold BD
  obtain ⟨ys, g1, g2, g3, g4⟩ := aq0 (fun y0 y1 => nx y0) (x0.getD 0 0) ((List.drop (1 + 8 + 16) x0).length + (x0.getD 0 0).toNat + 2) (List.drop (1 + 8 + 16) x0) (og hx _) (by omega)
  refine g4.trans (hn ys g1 ?_ (g3.trans (MI 25 (by omega) a25)))
  simp at g2; omega
 ·have hsh := aqA hb.1 hb.2
  have hlen := aoA
  have hacc := al5
  have e1 : MF .u8 (List.getD gG (Int.toNat (List.getD x0 0 (0 : Int))) (0 : Int)) (4 : Int) = fsh (x0.getD 0 0) := rfl
  have e2 : IntKind.wrap .i64 (band .u8 (List.getD gG (Int.toNat (List.getD x0 0 (0 : Int))) (0 : Int)) (7 : Int)) = fsz (x0.getD 0 0) := rfl
  have e3 : List.getD jI (Int.toNat (fsh (x0.getD 0 0))) (Seat.alG.dflt) = fac (x0.getD 0 0) := rfl
  rw [e1, e2, e3]
  have c1 : Nat.blt (Int.toNat (List.getD x0 0 (0 : Int))) (List.length gG) = true := by rw [hlen, Nat.blt_eq]; omega
  have c2 : Nat.blt (Int.toNat (fsh (x0.getD 0 0))) (List.length jI) = true := by rw [hacc, Nat.blt_eq]; omega
  rw [c1, c2]
  simp (disch := omega) only [decide_eq_true, decide_eq_false, Bool.true_and, cond_true, cond_false]
  have stop : aP x0 = 0 → k0 false = RES := fun h => h0 (MH h (by omega))
  have go : ∀ n, aP x0 = n → 1 ≤ n → nx (x0.drop n) = RES := fun n h hn1 => by
   subst h
   exact hn _ (og hx _) (by have := mG x0; simp; omega) (zx (by omega)).symm
  by_cases r1 : x0.getD 0 0 < 194 ∨ 245 ≤ x0.getD 0 0
  ·rw [arW (by omega) hb.2 r1]
   refine stop ?_
   unfold aP
   repeat' split
   all_goals first | omega | rfl
  by_cases r2 : x0.getD 0 0 < 224
  ·obtain ⟨f1, f2⟩ := arX (by omega) r2
   rw [f1, f2]
   have er : aP x0 = if 2 ≤ x0.length ∧ 128 ≤ x0.getD 1 0 ∧ x0.getD 1 0 ≤ 191 then 2 else 0 := by
    unfold aP; rw [if_neg (by omega), if_neg (by omega), if_neg (by omega), if_pos r2]
   simp only [BEq.rfl, cond_true]
   by_cases c : ((x0.length : Nat) : Int) < 2
   ·rw [decide_eq_true c]; exact stop (by rw [er, if_neg (by omega)])
   rw [decide_eq_false c, decide_eq_true (show (1 : Int) < ((x0.length : Nat) : Int) by omega)]
   simp only [cond_true, cond_false]
   by_cases d1 : x0.getD 1 0 < 128
   ·rw [decide_eq_true d1]; exact stop (by rw [er, if_neg (by omega)])
   by_cases d2 : 191 < x0.getD 1 0
   ·rw [decide_eq_false d1, decide_eq_true d2]; exact stop (by rw [er, if_neg (by omega)])
   rw [decide_eq_false d1, decide_eq_false d2, decide_eq_true (show (2 : Int) ≤ ((x0.length : Nat) : Int) by omega)]
   exact go 2 (by rw [er, if_pos (by omega)]) (by omega)
  by_cases r3 : x0.getD 0 0 < 240
  ·obtain ⟨f1, f2⟩ := arY (by omega) r3
   rw [f1, f2]
   have er : aP x0 = if 3 ≤ x0.length ∧ lo3 (x0.getD 0 0) ≤ x0.getD 1 0 ∧ x0.getD 1 0 ≤ hi3 (x0.getD 0 0) ∧ 128 ≤ x0.getD 2 0 ∧ x0.getD 2 0 ≤ 191 then 3 else 0 := by
    unfold aP; rw [if_neg (by omega), if_neg (by omega), if_neg (by omega), if_neg (by omega), if_pos r3]
   rw [show ((3 : Int) == 2) = false from rfl]
   simp only [BEq.rfl, cond_true, cond_false]
   by_cases c : ((x0.length : Nat) : Int) < 3
   ·rw [decide_eq_true c]; exact stop (by rw [er, if_neg (by omega)])
   rw [decide_eq_false c, decide_eq_true (show (1 : Int) < ((x0.length : Nat) : Int) by omega), decide_eq_true (show (2 : Int) < ((x0.length : Nat) : Int) by omega), decide_eq_true (show (3 : Int) ≤ ((x0.length : Nat) : Int) by omega)]
   simp only [cond_true, cond_false]
   by_cases d1 : x0.getD 1 0 < lo3 (x0.getD 0 0)
   ·rw [decide_eq_true d1]; exact stop (by rw [er, if_neg (by omega)])
   by_cases d2 : hi3 (x0.getD 0 0) < x0.getD 1 0
   ·rw [decide_eq_false d1, decide_eq_true d2]; exact stop (by rw [er, if_neg (by omega)])
   by_cases d3 : x0.getD 2 0 < 128
   ·rw [decide_eq_false d1, decide_eq_false d2, decide_eq_true d3]; exact stop (by rw [er, if_neg (by omega)])
   by_cases d4 : 191 < x0.getD 2 0
   ·rw [decide_eq_false d1, decide_eq_false d2, decide_eq_false d3, decide_eq_true d4]; exact stop (by rw [er, if_neg (by omega)])
   rw [decide_eq_false d1, decide_eq_false d2, decide_eq_false d3, decide_eq_false d4]
   exact go 3 (by rw [er, if_pos (by omega)]) (by omega)
  ·obtain ⟨f1, f2⟩ := arZ (b := x0.getD 0 0) (by omega) (by omega)
   rw [f1, f2]
   have er : aP x0 = if 4 ≤ x0.length ∧ lo4 (x0.getD 0 0) ≤ x0.getD 1 0 ∧ x0.getD 1 0 ≤ hi4 (x0.getD 0 0) ∧ 128 ≤ x0.getD 2 0 ∧ x0.getD 2 0 ≤ 191 ∧ 128 ≤ x0.getD 3 0 ∧ x0.getD 3 0 ≤ 191 then 4 else 0 := by
    unfold aP; rw [if_neg (by omega), if_neg (by omega), if_neg (by omega), if_neg (by omega), if_neg r3, if_pos (by omega)]
   rw [show ((4 : Int) == 2) = false from rfl, show ((4 : Int) == 3) = false from rfl]
   simp only [BEq.rfl, cond_true, cond_false]
   by_cases c : ((x0.length : Nat) : Int) < 4
   ·rw [decide_eq_true c]; exact stop (by rw [er, if_neg (by omega)])
   rw [decide_eq_false c, decide_eq_true (show (1 : Int) < ((x0.length : Nat) : Int) by omega), decide_eq_true (show (2 : Int) < ((x0.length : Nat) : Int) by omega), decide_eq_true (show (3 : Int) < ((x0.length : Nat) : Int) by omega), decide_eq_true (show (4 : Int) ≤ ((x0.length : Nat) : Int) by omega)]
   simp only [cond_true, cond_false]
   by_cases d1 : x0.getD 1 0 < lo4 (x0.getD 0 0)
   ·rw [decide_eq_true d1]; exact stop (by rw [er, if_neg (by omega)])
   by_cases d2 : hi4 (x0.getD 0 0) < x0.getD 1 0
   ·rw [decide_eq_false d1, decide_eq_true d2]; exact stop (by rw [er, if_neg (by omega)])
   by_cases d3 : x0.getD 2 0 < 128
   ·rw [decide_eq_false d1, decide_eq_false d2, decide_eq_true d3]; exact stop (by rw [er, if_neg (by omega)])
   by_cases d4 : 191 < x0.getD 2 0
   ·rw [decide_eq_false d1, decide_eq_false d2, decide_eq_false d3, decide_eq_true d4]; exact stop (by rw [er, if_neg (by omega)])
   by_cases d5 : x0.getD 3 0 < 128
   ·rw [decide_eq_false d1, decide_eq_false d2, decide_eq_false d3, decide_eq_false d4, decide_eq_true d5]; exact stop (by rw [er, if_neg (by omega)])
   by_cases d6 : 191 < x0.getD 3 0
   ·rw [decide_eq_false d1, decide_eq_false d2, decide_eq_false d3, decide_eq_false d4, decide_eq_false d5, decide_eq_true d6]; exact stop (by rw [er, if_neg (by omega)])
   rw [decide_eq_false d1, decide_eq_false d2, decide_eq_false d3, decide_eq_false d4, decide_eq_false d5, decide_eq_false d6]
   exact go 4 (by rw [er, if_pos (by omega)]) (by omega)
theorem asl (k0 : Bool → Option aj) (k1 : Option aj) : ∀ (m : Nat) (xs : List Int), aO xs = true → xs.length < m → oM m xs k0 k1 = bif valid xs then k1 else k0 false
 | 0, xs, _, h => absurd h (by omega)
 | m + 1, xs, hf, hl => by
  show oL xs _ k0 k1 = _
  refine step2 xs hf _ k0 k1 _ (fun ys h1 h2 h3 => ?_) (fun h => by rw [h]; rfl) (fun h => by rw [h]; rfl)
  have := asl k0 k1 m ys h1 (by omega)
  rw [h3] at this
  exact this
def Xc : Sm := bg [.l ah] (fun d => aO d.1) (fun d => (bl (valid d.1), []))
theorem aio (p : List Int) (h : (aO p) = true) (K : aj → Option aj) : Np p K = K (bl (valid p), []) := by
 unfold Np Dn
 rw [decide_eq_true (Int.le_refl _), List.take_length]
 simp only [Bool.true_and, cond_true, List.drop_zero]
 rw [asl _ _ _ p h (by omega)]
 cases valid p <;> rfl
theorem adQ : aV prog I N.lI true Xc := kD (aW (aY Rt bn) (l := Td) (p := Tc) (ls := [(10, [0,3], [0,2,3], yT), (2, [0], [2], BF)]) (lend := []) (focus := false) (fuel := 0) (give := []) (fn := F.lI) (by kernel_rfl) (by kernel_rfl) (by kernel_rfl) (by kernel_rfl) (cs := [aS F.lI 2, aS F.lI 10]) (by kernel_rfl) (dA Uw (dA Ru aK))) (aI fun d K h => (ain d.1 K).trans (aio d.1 h K))
end Go.Ev.Seat
end
section
namespace Go.Ev.Seat
open Go.RowKit
set_option maxRecDepth 100000
set_option linter.unusedVariables false
set_option linter.unusedSimpArgs false
noncomputable abbrev aao : List (Nat × Bool × Sm) := [(N.lI, true, Xc)]
noncomputable abbrev amw : Env := En aao [] [] [] false 0 []
noncomputable def Uz (t : List Int) (K : aj → Option aj) : Option aj := (bif (decide ((((List.length t) : Nat) : Int) ≤ (400 : Int))) then (bif (aO t) then K ((.s (.bool (valid t))), []) else none) else K ((.s (.bool false)), []))
theorem amx (t : List Int) (K : aj → Option aj) : dL amw true F.Ae [.l .no ah t] K = Uz t K := by kernel_rfl
def Dq : Sm := bg [.l ah] (fun d => aO d.1) (fun d => (bl (aT d.1), []))
theorem amy (t : List Int) (h : (aO t) = true) (K : aj → Option aj) : Uz t K = K (bl (aT t), []) := by
 unfold Uz aT
 rw [h]
 by_cases hl : t.length ≤ 400
 ·rw [decide_eq_true (show ((t.length : Nat) : Int) ≤ 400 by omega), Nat.ble_eq_true_of_le hl]; rfl
 ·rw [decide_eq_false (show ¬ ((t.length : Nat) : Int) ≤ 400 by omega), Bool.eq_false_iff.2 (fun h => hl (Nat.le_of_ble_eq_true h))]; rfl
theorem BH : aV prog I N.Ae true Dq := kD (aW (aY adQ bn) (l := aao) (p := []) (ls := []) (lend := []) (focus := false) (fuel := 0) (give := []) (fn := F.Ae) (by kernel_rfl) (by kernel_rfl) (by kernel_rfl) (by kernel_rfl) (cs := []) (by kernel_rfl) aK) (aI fun d K h => (amx d.1 K).trans (amy d.1 h K))
end Go.Ev.Seat
end
section
namespace Go.Ev.Seat
open Go.RowKit
set_option maxRecDepth 100000
set_option linter.unusedVariables false
set_option linter.unusedSimpArgs false
noncomputable abbrev atb : Env := En [] [] [] [] false 0 []
noncomputable def amA (n : Int) (low : Int) (high : Int) (K : aj → Option aj) : Option aj := (bif (decide (low ≤ n)) then K ((.s (.bool (decide (n ≤ high)))), []) else K ((.s (.bool false)), []))
theorem atc (n : Int) (low : Int) (high : Int) (K : aj → Option aj) : dL atb true F.i_in [.s (.int .i64 n), .s (.int .i64 low), .s (.int .i64 high)] K = amA n low high K := by kernel_rfl
def Dt : Sm := bg [.i, .i, .i] (fun d => true) (fun d => (bl (decide (d.2.1 ≤ d.1) && decide (d.1 ≤ d.2.2.1)), []))
theorem atd (n : Int) (low : Int) (high : Int) (K : aj → Option aj) : amA n low high K = K (bl (decide (low ≤ n) && decide (n ≤ high)), []) := by
 unfold amA; cases decide (low ≤ n) <;> rfl
theorem qR : aV prog I N.i_in true Dt := kD (aW bn (l := []) (p := []) (ls := []) (lend := []) (focus := false) (fuel := 0) (give := []) (fn := F.i_in) (by kernel_rfl) (by kernel_rfl) (by kernel_rfl) (by kernel_rfl) (cs := []) (by kernel_rfl) aK) (aI fun d K h => (atc d.1 d.2.1 d.2.2.1 K).trans (atd d.1 d.2.1 d.2.2.1 K))
end Go.Ev.Seat
end
section
namespace Go.Ev.Seat
open Go.RowKit
set_option maxRecDepth 100000
set_option linter.unusedVariables false
set_option linter.unusedSimpArgs false
noncomputable abbrev Qi : List (Nat × Bool × Sm) := [(N.i_in, true, Dt)]
noncomputable abbrev afe : Env := En Qi [] [] [] false 0 []
noncomputable def Tf (k : Int) (K : aj → Option aj) : Option aj := K ((.s (.bool ((decide ((1 : Int) ≤ k)) && (decide (k ≤ (8 : Int)))))), [])
theorem aff (k : Int) (K : aj → Option aj) : dL afe true F.pF [.s (.int .i64 k)] K = Tf k K := by kernel_rfl
def xW : Sm := bg [.i] (fun d => true) (fun d => (bl (decide (1 ≤ d.1) && decide (d.1 ≤ 8)), []))
theorem afg (k : Int) (K : aj → Option aj) : Tf k K = K (bl (decide (1 ≤ k) && decide (k ≤ 8)), []) := by
 rfl
theorem yU : aV prog I N.pF true xW := kD (aW (aY qR bn) (l := Qi) (p := []) (ls := []) (lend := []) (focus := false) (fuel := 0) (give := []) (fn := F.pF) (by kernel_rfl) (by kernel_rfl) (by kernel_rfl) (by kernel_rfl) (cs := []) (by kernel_rfl) aK) (aI fun d K h => (aff d.1 K).trans (afg d.1 K))
end Go.Ev.Seat
end
section
namespace Go.Ev.Seat
open Go.RowKit
set_option maxRecDepth 100000
set_option linter.unusedVariables false
set_option linter.unusedSimpArgs false
noncomputable abbrev JA : List (Nat × Bool × Sm) := [(N.pF, true, xW)]
noncomputable abbrev YU : Env := En JA [] [] [] false 0 []
noncomputable def Lr (c : aA) (K : aj → Option aj) : Option aj := K ((.s (.bool (!((decide ((1 : Int) ≤ c.1)) && (decide (c.1 ≤ (8 : Int))))))), [])
theorem YV (c : aA) (K : aj → Option aj) : dL YU true F.je [.a (aF.cells .no c)] K = Lr c K := by kernel_rfl
def Ls : Sm := bg [.a aF] (fun d => true) (fun d => (bl (!(lV d.1.1)), []))
theorem YW (c : aA) (K : aj → Option aj) : Lr c K = K (bl (!(lV c.1)), []) := rfl
theorem UA : aV prog I N.je true Ls := kD (aW (aY yU bn) (l := JA) (p := []) (ls := []) (lend := []) (focus := false) (fuel := 0) (give := []) (fn := F.je) (by kernel_rfl) (by kernel_rfl) (by kernel_rfl) (by kernel_rfl) (cs := []) (by kernel_rfl) aK) (aI fun d K h => (YV d.1 K).trans (YW d.1 K))
end Go.Ev.Seat
end
section
namespace Go.Ev.Seat
open Go.RowKit
set_option maxRecDepth 100000
set_option linter.unusedVariables false
set_option linter.unusedSimpArgs false
def iD (x4 : Int) : St := { tm := ([.x, .x, .x, .x, (.s (.int .i64 x4))] ++ List.replicate 14 .x), ob := [], nx := 0, io := [] }
def iE : St := { tm := ([] ++ List.replicate 19 .x), ob := [], nx := 0, io := [] }
def gZ : Ss := { tm := (.cons (.l .no aF) (.cons (.f 142 .nil) (.cons (.x) (.cons (.x) (.cons (.x) (.cons (.x) (.cons (.x) (.cons (.int .i64) (.cons (.int .i64) (Fj 10)))))))))), ob := .nil, nx := 0, io := .nil }
def EF (x0 : List aA) (x7 : Int) (x8 : Int) : gZ.T := ((x0, ((), ((), ((), ((), ((), ((), (x7, (x8, xd 10))))))))), (), ())
def fB (x0 : List aA) (x7 : Int) (x8 : Int) : St := { tm := ([(.l .no aF x0), (.f 142 []), .x, .x, .x, .x, .x, (.s (.int .i64 x7)), (.s (.int .i64 x8))] ++ List.replicate 10 .x), ob := [], nx := 0, io := [] }
theorem Du (x0 : List aA) (x7 : Int) (x8 : Int) : gZ.mk' (EF x0 x7 x8) = (fB x0 x7 x8) := by kernel_rfl
def EG (d : gZ.T) (f : (List aA) → Int → Int → Option aj) : Option aj := match d with | ((x0, (_, (_, (_, (_, (_, (_, (x7, (x8, _))))))))), _, _) => f x0 x7 x8
noncomputable def dR (x0 : List aA) (x7 : Int) (x8 : Int) (lC : (List aA) → Int → Int → Option aj) (k0 : Int → Option aj) (k1 : Option aj) : Option aj := (bif (decide (x8 < x7)) then (bif ((decide ((0 : Int) ≤ x8)) && (decide (x8 < (((List.length x0) : Nat) : Int)))) then (bif (!(lV (List.getD x0 (Int.toNat x8) (aF.dflt)).1)) then (k0 x8) else (lC x0 x7 (IntKind.wrap .i64 (x8 + (1 : Int))))) else none) else k1)
noncomputable def fC : Nat → (List aA) → Int → Int → (Int → Option aj) → (Option aj) → Option aj
 | 0, _, _, _, _, _ => none
 | m + 1, x0, x7, x8, k0, k1 => dR x0 x7 x8 (fun x0 x7 x8 => (fC m x0 x7 x8 k0 k1)) k0 k1
noncomputable def pI (x0 : List aA) (x7 : Int) (x8 : Int) (k0 : Int → Option aj) (k1 : Option aj) : Option aj := fC (List.length x0 + x7.toNat + x8.toNat + 2) x0 x7 x8 k0 k1
noncomputable def iR : dV := (fun (σ : St) (K : Ex → St → Option aj) => (match gZ.un σ with | some d => EG d (fun x0 x7 x8 => pI x0 x7 x8 (fun x4 => (K .ret (iD x4))) (K (.ext 0) iE)) | none => none))
noncomputable abbrev uY : List (Nat × Bool × Sm) := [(N.je, true, Ls)]
noncomputable abbrev lZ : Env := En uY [] [(2, [0,1,7,8], [4], iR)] [] false 0 []
noncomputable abbrev fQ := rounds (run lZ (aS F.dQ 2)) [0,1,7,8] [4]
theorem Dv (m : Nat) (x0 : List aA) (x7 : Int) (x8 : Int) (K : Ex → St → Option aj) : fQ (m + 1) (fB x0 x7 x8) K = dR x0 x7 x8 (fun x0 x7 x8 => (fQ m (fB x0 x7 x8) K)) (fun x4 => (K .ret (iD x4))) (K (.ext 0) iE) := by kernel_rfl
theorem tq (K : Ex → St → Option aj) : ∀ m : Nat, (∀ (x0 : List aA) (x7 : Int) (x8 : Int), fQ m (fB x0 x7 x8) K = fC m x0 x7 x8 (fun x4 => (K .ret (iD x4))) (K (.ext 0) iE))
 | 0 => (fun _ _ _ => rfl)
 | m + 1 => (fun x0 x7 x8 => (by rw [Dv, show (fun x0 x7 x8 => (fQ m (fB x0 x7 x8) K)) = (fun x0 x7 x8 => (fC m x0 x7 x8 (fun x4 => (K .ret (iD x4))) (K (.ext 0) iE))) from funext fun x0 => funext fun x7 => funext fun x8 => (tq K m) x0 x7 x8]; rfl))
theorem CJ : dJ lZ (aS F.dQ 2) := by
 refine dh (n := 2) (F := iR) (by kernel_rfl) rfl (li := [0,1,7,8]) (lo := [4]) rfl (fun σ K r hr => ?_)
 unfold iR at hr
 split at hr
 ·rename_i d hd
  rw [Ss.dY hd]
  exact ⟨_, ((congrArg (fun z => fQ _ z K) (Du _ _ _)).trans ((tq K _) _ _ _)).trans hr⟩
 ·cases hr
noncomputable def l9 (l : List aA) (K : aj → Option aj) : Option aj := (pI l (((List.length l) : Nat) : Int) (0 : Int) (fun y0 => K ((.s (.int .i64 y0)), [])) (K ((.s (.int .i64 (-(1 : Int)))), [])))
theorem IX (l : List aA) (K : aj → Option aj) : dL lZ true F.dQ [.l .no aF l, .f N.je []] K = l9 l K := by kernel_rfl
def wV : Sm := bg [.l aF, .sh (.f N.je .nil)] (fun d => Nat.ble d.1.length 1048576) (fun d => (.s (.int .i64 (zW (fun x => !(lV x.1)) d.1)), []))
theorem IY (l : List aA) (h : (Nat.ble l.length 1048576) = true) (K : aj → Option aj) : l9 l K = K (.s (.int .i64 (zW (fun x => !(lV x.1)) l)), []) := by
 have hl := Nat.le_of_ble_eq_true h
 unfold l9
 have q := Lh (R := fun m i => fC m l ((l.length : Nat) : Int) i (fun y0 => K ((.s (.int .i64 y0)), [])) (K ((.s (.int .i64 (-(1 : Int)))), []))) (p := fun x => !(lV x.1)) (xs := l) (z := (aF).dflt) (kf := fun y0 => K ((.s (.int .i64 y0)), [])) (kt := K ((.s (.int .i64 (-(1 : Int)))), [])) (fun m i hi => by
  show dR l _ ((i : Nat) : Int) _ _ _ = _
  unfold dR
  rw [decide_eq_true (show ((i : Nat) : Int) < ((l.length : Nat) : Int) by omega), decide_eq_true (show (0 : Int) ≤ ((i : Nat) : Int) by omega), Int.toNat_natCast, bW (by omega)]
  rfl) (fun m => by
  show dR l _ ((l.length : Nat) : Int) _ _ _ = _
  unfold dR
  rw [decide_eq_false (show ¬ ((l.length : Nat) : Int) < ((l.length : Nat) : Int) by omega)]; rfl) (l.length + ((l.length : Nat) : Int).toNat + (0 : Int).toNat + 2) 0 (by omega) (by omega)
 refine Eq.trans q ?_
 rw [List.drop_zero]
 unfold zW
 cases l.findIdx? (fun x => !(lV x.1)) with
 | none => rfl
 | some j => show K (.s (.int .i64 ((0 + j : Nat) : Int)), []) = _; rw [Nat.zero_add]
theorem F7 : aV prog I N.dQ true wV := kD (aW (aY UA bn) (l := uY) (p := []) (ls := [(2, [0,1,7,8], [4], iR)]) (lend := []) (focus := false) (fuel := 0) (give := []) (fn := F.dQ) (by kernel_rfl) (by kernel_rfl) (by kernel_rfl) (by kernel_rfl) (cs := [aS F.dQ 2]) (by kernel_rfl) (dA CJ aK)) (aI fun d K h => (IX d.1 K).trans (IY d.1 h K))
end Go.Ev.Seat
end
section
namespace Go.Ev.Seat
open Go.RowKit
set_option maxRecDepth 100000
set_option linter.unusedVariables false
set_option linter.unusedSimpArgs false
noncomputable abbrev pJ : List (Nat × Bool × Sm) := [(N.dQ, true, wV)]
noncomputable abbrev ET : Env := En pJ [] [] [] false 0 []
noncomputable def kP (l : List aA) (K : aj → Option aj) : Option aj := (bif (Nat.ble (List.length l) 1048576) then K ((.s (.bool (decide ((zW (fun x => (!(lV x.1))) l) ≥ (0 : Int))))), []) else none)
theorem EU (l : List aA) (K : aj → Option aj) : dL ET true F.gI [.l .no aF l, .f N.je []] K = kP l K := by kernel_rfl
def qU : Sm := bg [.l aF, .sh (.f N.je .nil)] (fun d => Nat.ble d.1.length 1048576) (fun d => (bl (d.1.any (fun x => !(lV x.1))), []))
theorem EW (l : List aA) (h : (Nat.ble l.length 1048576) = true) (K : aj → Option aj) : kP l K = K (bl (l.any (fun x => !(lV x.1))), []) := by
 unfold kP
 first | rw [h] | skip
 rw [← acT]; rfl
theorem Dw : aV prog I N.gI true qU := kD (aW (aY F7 bn) (l := pJ) (p := []) (ls := []) (lend := []) (focus := false) (fuel := 0) (give := []) (fn := F.gI) (by kernel_rfl) (by kernel_rfl) (by kernel_rfl) (by kernel_rfl) (cs := []) (by kernel_rfl) aK) (aI fun d K h => (EU d.1 K).trans (EW d.1 h K))
end Go.Ev.Seat
end
section
namespace Go.Ev.Seat
open Go.RowKit
set_option maxRecDepth 100000
set_option linter.unusedVariables false
set_option linter.unusedSimpArgs false
noncomputable abbrev IZ : Env := En [] [] [] [] false 0 []
noncomputable def mg (l : List Int) (K : aj → Option aj) : Option aj := (bif (Nat.beq (List.length l) 0) then (meet (K ((.l .deep ah ([] : List Int)), [])) ((bif (Nat.ble (((List.length ([] : List Int)) + (List.length l)) * 1) 140737488355328) then K ((.l .deep ah (([] : List Int) ++ l)), []) else none))) else (bif (Nat.ble (((List.length ([] : List Int)) + (List.length l)) * 1) 140737488355328) then K ((.l .deep ah (([] : List Int) ++ l)), []) else none))
theorem I4 (l : List Int) (K : aj → Option aj) : dL IZ true F.eX [.l .no ah l] K = mg l K := by kernel_rfl
def jB : Sm := bg [.l ah] (fun d => Cc.lim (Cc.sl ah) d.1) (fun d => (.l .deep ah d.1, []))
theorem I5 (l : List Int) (h : (Cc.lim (Cc.sl ah) l) = true) (K : aj → Option aj) : mg l K = K (.l .deep ah l, []) := by
 have h1 : l.length ≤ 1048576 := by
  simp only [Cc.lim, Bool.and_eq_true] at h
  exact Nat.le_of_ble_eq_true h.1
 unfold mg
 rw [Nat.ble_eq_true_of_le (by simp; omega)]
 cases l with
 | nil => exact meet_self _
 | cons x xs => rfl
theorem kV : aV prog I N.eX true jB := kD (aW bn (l := []) (p := []) (ls := []) (lend := []) (focus := false) (fuel := 0) (give := []) (fn := F.eX) (by kernel_rfl) (by kernel_rfl) (by kernel_rfl) (by kernel_rfl) (cs := []) (by kernel_rfl) aK) (aI fun d K h => (I4 d.1 K).trans (I5 d.1 h K))
end Go.Ev.Seat
end
section
namespace Go.Ev.Seat
open Go.RowKit
set_option maxRecDepth 100000
set_option linter.unusedVariables false
set_option linter.unusedSimpArgs false
noncomputable abbrev Lu : List (Nat × Bool × Sm) := [(N.eX, true, jB)]
noncomputable abbrev abg : Env := En Lu [] [] [] false 0 []
noncomputable def EX (e : ay) (K : aj → Option aj) : Option aj := (bif (Cc.lim (Cc.sl ah) e.2.2) then K ((.a [(.s (.int .i64 e.1)), (.s (.int .i64 e.2.1)), (.l .deep ah e.2.2)]), []) else none)
theorem abh (e : ay) (K : aj → Option aj) : dL abg true F.xw [.a (aB.cells .no e)] K = EX e K := by kernel_rfl
def NP : Sm := bg [.a aB] (fun d => Nat.ble d.1.2.2.length 1048576) (fun d => (.a (aB.cells .deep d.1), []))
theorem abj (e : ay) (h : (Nat.ble e.2.2.length 1048576) = true) (K : aj → Option aj) : EX e K = K (.a (aB.cells .deep e), []) := by
 have hl := Nat.le_of_ble_eq_true h
 unfold EX
 first | rw [Nat.ble_eq_true_of_le (by simp; omega)] | rw [Q9 hl]
 rfl
theorem Xd : aV prog I N.xw true NP := kD (aW (aY kV bn) (l := Lu) (p := []) (ls := []) (lend := []) (focus := false) (fuel := 0) (give := []) (fn := F.xw) (by kernel_rfl) (by kernel_rfl) (by kernel_rfl) (by kernel_rfl) (cs := []) (by kernel_rfl) aK) (aI fun d K h => (abh d.1 K).trans (abj d.1 h K))
end Go.Ev.Seat
end
section
namespace Go.Ev.Seat
open Go.RowKit
set_option maxRecDepth 100000
set_option linter.unusedVariables false
set_option linter.unusedSimpArgs false
def yV (o0 : List ay) : St := { tm := ([.x, .x, .x, (.w 0)] ++ List.replicate 17 .x), ob := [(0, (.arr true true aB o0))], nx := 1, io := [] }
def wI : Ss := { tm := (.cons (.x) (.cons (.x) (.cons (.x) (.cons (.w 0) (.cons (.x) (.cons (.x) (.cons (.x) (.cons (.l .no aF) (.cons (.int .i64) (.cons (.int .i64) (Fj 11))))))))))), ob := (.arr true true aB .nil), nx := 1, io := .nil }
def abk (x7 : List aA) (x8 : Int) (x9 : Int) (o0 : List ay) : wI.T := (((), ((), ((), ((), ((), ((), ((), (x7, (x8, (x9, xd 11)))))))))), (o0, ()), ())
def qV (x7 : List aA) (x8 : Int) (x9 : Int) (o0 : List ay) : St := { tm := ([.x, .x, .x, (.w 0), .x, .x, .x, (.l .no aF x7), (.s (.int .i64 x8)), (.s (.int .i64 x9))] ++ List.replicate 11 .x), ob := [(0, (.arr true true aB o0))], nx := 1, io := [] }
theorem YX (x7 : List aA) (x8 : Int) (x9 : Int) (o0 : List ay) : wI.mk' (abk x7 x8 x9 o0) = (qV x7 x8 x9 o0) := by kernel_rfl
def abl (d : wI.T) (f : (List aA) → Int → Int → (List ay) → Option aj) : Option aj := match d with | ((_, (_, (_, (_, (_, (_, (_, (x7, (x8, (x9, _)))))))))), (o0, _), _) => f x7 x8 x9 o0
noncomputable def yX (x7 : List aA) (x8 : Int) (x9 : Int) (o0 : List ay) (lC : (List aA) → Int → Int → (List ay) → Option aj) (k0 : (List ay) → Option aj) : Option aj := (bif (decide (x9 < x8)) then (bif ((decide ((0 : Int) ≤ x9)) && (decide (x9 < (((List.length x7) : Nat) : Int)))) then (bif (Nat.ble (List.length (List.getD x7 (Int.toNat x9) (aF.dflt)).2.2.2) 1048576) then (bif (Nat.ble (((List.length o0) + (List.length ((List.getD x7 (Int.toNat x9) (aF.dflt)).2 :: []))) * 40) 140737488355328) then (lC x7 x8 (IntKind.wrap .i64 (x9 + (1 : Int))) (o0 ++ ((List.getD x7 (Int.toNat x9) (aF.dflt)).2 :: []))) else none) else none) else none) else (k0 o0))
noncomputable def qW : Nat → (List aA) → Int → Int → (List ay) → ((List ay) → Option aj) → Option aj
 | 0, _, _, _, _, _ => none
 | m + 1, x7, x8, x9, o0, k0 => yX x7 x8 x9 o0 (fun x7 x8 x9 o0 => (qW m x7 x8 x9 o0 k0)) k0
noncomputable def NQ (x7 : List aA) (x8 : Int) (x9 : Int) (o0 : List ay) (k0 : (List ay) → Option aj) : Option aj := qW (List.length x7 + x8.toNat + x9.toNat + List.length o0 + 2) x7 x8 x9 o0 k0
noncomputable def D9 : dV := (fun (σ : St) (K : Ex → St → Option aj) => (match wI.un σ with | some d => abl d (fun x7 x8 x9 o0 => NQ x7 x8 x9 o0 (fun o0 => (K (.ext 0) (yV o0)))) | none => none))
noncomputable abbrev Xe : List (Nat × Bool × Sm) := [(N.xw, true, NP)]
noncomputable abbrev Qj : Env := En Xe [] [(3, [3,7,8,9], [2,3], D9)] [] false 0 []
noncomputable abbrev xX := rounds (run Qj (aS F.vO 3)) [3,7,8,9] [2,3]
theorem YZ (m : Nat) (x7 : List aA) (x8 : Int) (x9 : Int) (o0 : List ay) (K : Ex → St → Option aj) : xX (m + 1) (qV x7 x8 x9 o0) K = yX x7 x8 x9 o0 (fun x7 x8 x9 o0 => (xX m (qV x7 x8 x9 o0) K)) (fun o0 => (K (.ext 0) (yV o0))) := by kernel_rfl
theorem Ti (K : Ex → St → Option aj) : ∀ m : Nat, (∀ (x7 : List aA) (x8 : Int) (x9 : Int) (o0 : List ay), xX m (qV x7 x8 x9 o0) K = qW m x7 x8 x9 o0 (fun o0 => (K (.ext 0) (yV o0))))
 | 0 => (fun _ _ _ _ => rfl)
 | m + 1 => (fun x7 x8 x9 o0 => (by rw [YZ, show (fun x7 x8 x9 o0 => (xX m (qV x7 x8 x9 o0) K)) = (fun x7 x8 x9 o0 => (qW m x7 x8 x9 o0 (fun o0 => (K (.ext 0) (yV o0))))) from funext fun x7 => funext fun x8 => funext fun x9 => funext fun o0 => (Ti K m) x7 x8 x9 o0]; rfl))
theorem Xf : dJ Qj (aS F.vO 3) := by
 refine dh (n := 3) (F := D9) (by kernel_rfl) rfl (li := [3,7,8,9]) (lo := [2,3]) rfl (fun σ K r hr => ?_)
 unfold D9 at hr
 split at hr
 ·rename_i d hd
  rw [Ss.dY hd]
  exact ⟨_, ((congrArg (fun z => xX _ z K) (YX _ _ _ _)).trans ((Ti K _) _ _ _ _)).trans hr⟩
 ·cases hr
noncomputable def Qk (l : List aA) (K : aj → Option aj) : Option aj := (NQ l (((List.length l) : Nat) : Int) (0 : Int) [] (fun y0 => K ((.l .deep aB y0), [])))
theorem akL (l : List aA) (K : aj → Option aj) : dL Qj true F.vO [.l .no aF l] K = Qk l K := by kernel_rfl
def Ql : Sm := bg [.l aF] (fun d => fF (.sl aF) d.1) (fun d => (.l .deep aB (bF d.1), []))
theorem akM (l : List aA) (h : (fF (.sl aF) l) = true) (K : aj → Option aj) : Qk l K = K (.l .deep aB (bF l), []) := by
 have hl := dN h
 unfold Qk
 have q : ∀ (m i : Nat), i ≤ l.length → l.length - i < m → qW m l ((l.length : Nat) : Int) ((i : Nat) : Int) (bF (l.take i)) (fun y0 => K ((.l .deep aB y0), [])) = K ((.l .deep aB (bF l)), []) := by
  intro m
  induction m with
  | zero => intro i _ hm; omega
  | succ m ih =>
   intro i hi hm
   show yX l _ ((i : Nat) : Int) _ _ _ = _
   unfold yX
   by_cases hlt : i < l.length
   ·have hx : aO (l.getD i aF.dflt).2.2.2 = true := acX (vP h rfl i)
    have ht : bF (l.take i) ++ [(l.getD i aF.dflt).2] = bF (l.take (i + 1)) := by
     rw [← take_snoc aF.dflt hlt]
     unfold bF
     rw [List.map_append]; rfl
    rw [decide_eq_true (show ((i : Nat) : Int) < ((l.length : Nat) : Int) by omega), decide_eq_true (show (0 : Int) ≤ ((i : Nat) : Int) by omega), Int.toNat_natCast, bW (by omega), Nat.ble_eq_true_of_le (jW hx), Nat.ble_eq_true_of_le (show ((bF (l.take i)).length + [(l.getD i aF.dflt).2].length) * 40 ≤ 140737488355328 by unfold bF; simp only [List.length_map, List.length_take, List.length_cons, List.length_nil]; omega), ht]
    exact ih (i + 1) (by omega) (by omega)
   ·obtain rfl : i = l.length := by omega
    rw [decide_eq_false (show ¬ ((l.length : Nat) : Int) < ((l.length : Nat) : Int) by omega), List.take_length]; rfl
 exact q _ 0 (by omega) (by omega)
theorem Tj : aV prog I N.vO true Ql := kD (aW (aY Xd bn) (l := Xe) (p := []) (ls := [(3, [3,7,8,9], [2,3], D9)]) (lend := []) (focus := false) (fuel := 0) (give := []) (fn := F.vO) (by kernel_rfl) (by kernel_rfl) (by kernel_rfl) (by kernel_rfl) (cs := [aS F.vO 3]) (by kernel_rfl) (dA Xf aK)) (aI fun d K h => (akL d.1 K).trans (akM d.1 h K))
end Go.Ev.Seat
end
section
namespace Go.Ev.Seat
open Go.RowKit
set_option maxRecDepth 100000
set_option linter.unusedVariables false
set_option linter.unusedSimpArgs false
noncomputable abbrev Y0 : Env := En [] [] [] [] false 0 []
noncomputable def LC (b : Int) (K : aj → Option aj) : Option aj := K ((.s (.bool ((band .u8 b (192 : Int)) != (128 : Int)))), [])
theorem Y1 (b : Int) (K : aj → Option aj) : dL Y0 true F.utf8_RuneStart [.s (.int .u8 b)] K = LC b K := by kernel_rfl
def LD : Sm := bg [.sc1 (.int .u8)] (fun d => true) (fun d => (bl (band .u8 d.1 192 != 128), []))
theorem Y2 (b : Int) (K : aj → Option aj) : LC b K = K (bl (band .u8 b 192 != 128), []) := rfl
theorem UC : aV prog I N.utf8_RuneStart true LD := kD (aW bn (l := []) (p := []) (ls := []) (lend := []) (focus := false) (fuel := 0) (give := []) (fn := F.utf8_RuneStart) (by kernel_rfl) (by kernel_rfl) (by kernel_rfl) (by kernel_rfl) (cs := []) (by kernel_rfl) aK) (aI fun d K h => (Y1 d.1 K).trans (Y2 d.1 K))
end Go.Ev.Seat
end
section
namespace Go.Ev.Seat
open Go.RowKit
set_option maxRecDepth 100000
set_option linter.unusedVariables false
set_option linter.unusedSimpArgs false
noncomputable abbrev adR : List (Nat × Bool × Sm) := [(N.i_in, true, Dt), (N.utf8_RuneStart, true, LD)]
noncomputable abbrev ao4 : Env := En adR [] [] [] false 0 []
noncomputable def Y3 (t : List Int) (k : Int) (K : aj → Option aj) : Option aj := (bif (k == (((List.length t) : Nat) : Int)) then K ((.s (.bool true)), []) else (bif ((decide ((0 : Int) ≤ k)) && (decide (k ≤ (IntKind.wrap .i64 ((((List.length t) : Nat) : Int) - (1 : Int)))))) then (bif ((decide ((0 : Int) ≤ k)) && (decide (k < (((List.length t) : Nat) : Int)))) then K ((.s (.bool ((band .u8 (List.getD t (Int.toNat k) (0 : Int)) (192 : Int)) != (128 : Int)))), []) else none) else K ((.s (.bool false)), [])))
theorem ao5 (t : List Int) (k : Int) (K : aj → Option aj) : dL ao4 true F.Jl [.l .no ah t, .s (.int .i64 k)] K = Y3 t k K := by kernel_rfl
def LG : Sm := bg [.l ah, .i] (fun d => aO d.1) (fun d => (bl (bY d.1 d.2.1), []))
theorem ao6 (t : List Int) (k : Int) (h : (aO t) = true) (K : aj → Option aj) : Y3 t k K = K (bl (bY t k), []) := by
 unfold Y3 bY
 have hl := jW h
 by_cases e : k = ((t.length : Nat) : Int)
 ·rw [beq_iff_eq.2 e]; rfl
 ·rw [beq_eq_false_iff_ne.2 e, wrap_in (by omega) (by omega)]
  simp only [cond_false, Bool.false_or]
  by_cases h1 : 0 ≤ k
  ·by_cases h2 : k < ((t.length : Nat) : Int)
   ·rw [decide_eq_true h1, decide_eq_true h2, decide_eq_true (show k ≤ ((t.length : Nat) : Int) - 1 by omega)]
    have hb := Ap h k.toNat
    rw [ar0 hb.1 hb.2]; rfl
   ·rw [decide_eq_true h1, decide_eq_false h2, decide_eq_false (show ¬ k ≤ ((t.length : Nat) : Int) - 1 by omega)]; rfl
  ·rw [decide_eq_false h1]; rfl
theorem JB : aV prog I N.Jl true LG := kD (aW (aY qR (aY UC bn)) (l := adR) (p := []) (ls := []) (lend := []) (focus := false) (fuel := 0) (give := []) (fn := F.Jl) (by kernel_rfl) (by kernel_rfl) (by kernel_rfl) (by kernel_rfl) (cs := []) (by kernel_rfl) aK) (aI fun d K h => (ao5 d.1 d.2.1 K).trans (ao6 d.1 d.2.1 h K))
end Go.Ev.Seat
end
section
namespace Go.Ev.Seat
open Go.RowKit
set_option maxRecDepth 100000
set_option linter.unusedVariables false
set_option linter.unusedSimpArgs false
noncomputable abbrev aap : List (Nat × Bool × Sm) := [(N.Ae, true, Dq), (N.Jl, true, LG), (N.i_in, true, Dt)]
noncomputable abbrev amB : Env := En aap [] [] [] false 0 []
noncomputable def UD (t : List Int) (e : ay) (K : aj → Option aj) : Option aj := (bif (aO t) then (bif (aT t) then (bif (aO t) then (bif (bY t e.1) then (bif ((decide ((0 : Int) ≤ e.2.1)) && (decide (e.2.1 ≤ (IntKind.wrap .i64 ((((List.length t) : Nat) : Int) - e.1))))) then (bif (aO t) then (bif (bY t (IntKind.wrap .i64 (e.1 + e.2.1))) then (bif (aO e.2.2) then (bif (aT e.2.2) then K ((.s (.bool (decide ((IntKind.wrap .i64 ((IntKind.wrap .i64 ((((List.length t) : Nat) : Int) - e.2.1)) + (((List.length e.2.2) : Nat) : Int))) ≤ (400 : Int))))), []) else K ((.s (.bool false)), [])) else none) else K ((.s (.bool false)), [])) else none) else K ((.s (.bool false)), [])) else K ((.s (.bool false)), [])) else none) else K ((.s (.bool false)), [])) else none)
theorem amC (t : List Int) (e : ay) (K : aj → Option aj) : dL amB true F.OG [.l .no ah t, .a (aB.cells .no e)] K = UD t e K := by kernel_rfl
def adS : Sm := bg [.l ah, .a aB] (fun d => aO d.1 && aO d.2.1.2.2) (fun d => (bl (iC d.1 d.2.1), []))
theorem amD (t : List Int) (e : ay) (h : (aO t && aO e.2.2) = true) (K : aj → Option aj) : UD t e K = K (bl (iC t e), []) := by
 rw [Bool.and_eq_true] at h
 obtain ⟨ht, he⟩ := h
 unfold UD iC
 rw [ht, he]
 cases c1 : aT t with
 | false => rfl
 | true =>
 have hl := ji c1
 cases c2 : bY t e.1 with
 | false => rfl
 | true =>
 have hr := eU c2
 simp only [Bool.true_and, Bool.not_true, cond_true, cond_false]
 by_cases d1 : 0 ≤ e.2.1
 case neg => rw [decide_eq_false d1]; rfl
 rw [decide_eq_true d1, wrap_in (n := ((t.length : Nat) : Int) - e.1) (by omega) (by omega)]
 by_cases d2 : e.2.1 ≤ ((t.length : Nat) : Int) - e.1
 case neg => rw [decide_eq_false d2]; rfl
 rw [decide_eq_true d2, wrap_in (n := e.1 + e.2.1) (by omega) (by omega)]
 cases c3 : bY t (e.1 + e.2.1) with
 | false => rfl
 | true =>
 cases c4 : aT e.2.2 with
 | false => rfl
 | true =>
 have hl2 := ji c4
 rw [wrap_in (n := ((t.length : Nat) : Int) - e.2.1) (by omega) (by omega), wrap_in (n := ((t.length : Nat) : Int) - e.2.1 + ((List.length e.2.2 : Nat) : Int)) (by omega) (by omega)]
 rfl
theorem aip : aV prog I N.OG true adS := kD (aW (aY BH (aY JB (aY qR bn))) (l := aap) (p := []) (ls := []) (lend := []) (focus := false) (fuel := 0) (give := []) (fn := F.OG) (by kernel_rfl) (by kernel_rfl) (by kernel_rfl) (by kernel_rfl) (cs := []) (by kernel_rfl) aK) (aI fun d K h => (amC d.1 d.2.1 K).trans (amD d.1 d.2.1 h K))
end Go.Ev.Seat
end
section
set_option linter.unusedVariables false
namespace Go.Ev
open Go.RowKit Go.Shelf Go.Proofs
def Ri (r : Rw) : Sm := fun vs K => match vs with
 | [.nl, .s (.int .i64 n)] => bif decide (0 ≤ n) && decide (n ≤ 1099511627776) then K (.l .deep r [], []) else none
 | _ => none
variable {P : Program} {I : Nat → World → Prop}
theorem anM {ρ : Ren} (L : Lays8.n4 P ρ) (hent : ∀ (args : Array Value) (w : World), (callFunc (ρ.f 4) args).run P w = .ok (.enter (ρ.f 4) args) w) {r : Rw} {i0 : TypeInfo} {z : Value} (hi0 : P.info? (ρ.t 25) = some i0) (hz0 : i0.zero = some z) (hs0 : 0 < i0.size) (hb : i0.bytes ≤ 64) (hn : z.cells.size = r.n) : aV P I (ρ.f 4) true (Ri r) := by
 refine ⟨hent, fun ws K q hq B0 w0 w N vs O M H hI hbel hB hargs hnd hO hM hH hN => ?_⟩
 unfold Ri at hq
 split at hq
 ·rename_i n
  cases hc : (decide (0 ≤ n) && decide (n ≤ 1099511627776)) with
  | false => rw [hc] at hq; cases hq
  | true =>
   rw [hc] at hq
   simp only [Bool.and_eq_true, decide_eq_true_eq] at hc
   obtain ⟨h0, h1⟩ := hc
   have hq' : K (.l .deep r [], []) = some q := hq
   obtain ⟨v1, vs1, O1, O2, M1, M2, H1, H2, rfl, rfl, rfl, rfl, a1, b1⟩ := hargs
   obtain ⟨v2, vs2, O3, O4, M3, M4, H3, H4, rfl, rfl, rfl, rfl, a2, b2⟩ := b1
   obtain ⟨rfl, rfl, rfl, rfl⟩ := b2
   have e1 : v1 = .slice none 0 0 := a1.1
   have e2 : v2 = .int .i64 n := a2.1.1
   subst e1 e2
   obtain ⟨k, rfl⟩ : ∃ k : Nat, n = (k : Int) := ⟨n.toNat, by omega⟩
   by_cases hk : k = 0
   ·subst hk
    refine Calls.mono (Any8.slices_Grow_room L none 0 0 0 w (Nat.le_refl _) (by omega) (by omega) (by omega)) ?_
    rintro e w' ⟨rfl, rfl⟩
    refine ⟨_, hq', ⟨⟨[], [], [], [], [], [], ⟨.inl ⟨rfl, rfl, none, 0, rfl, fun _ => ⟨rfl, rfl⟩⟩, rfl, rfl⟩, ⟨rfl, rfl, rfl, rfl⟩, List.nodup_nil, by simp, by simp, by simp⟩, hbel, Nat.le_refl _, fun _ _ _ => rfl⟩⟩
   ·have hmul : (0 + k) * i0.bytes ≤ 1099511627776 * 64 := Nat.mul_le_mul (by omega) hb
    refine Calls.mono (Any8.slices_Grow_grow L i0 z hi0 hz0 hs0 none 0 0 k [] w (Nat.le_refl _) (by omega) (by omega) (by omega) (by simp) (fun _ => rfl) (fun a h => nomatch h)) ?_
    rintro e w' ⟨rfl, rfl⟩
    have hsz : ∀ cs t, (w.drew.alloc (.cells cs t)).heap.size = w.heap.size + 1 := fun cs t => dZ w.drew _
    have hnew : ∀ cs t, (w.drew.alloc (.cells cs t)).heap[w.heap.size]? = some (.cells cs t (0, 0)) := fun cs t => CZ w.drew _
    refine ⟨_, hq', ⟨⟨[w.heap.size], [], [w.heap.size], [], [], [], ⟨.inr ⟨w.heap.size, 0, _, [], rfl, Nat.zero_le _, rfl, by rw [hsz]; omega, fun _ => ⟨_, _, hnew _ _, ?_⟩, rfl⟩, rfl, rfl⟩, ⟨rfl, rfl, rfl, rfl⟩, by simp, ?_, by simp, ?_⟩, (hbel.drew).alloc hB _, by rw [hsz]; omega, fun x hx _ => alloc_old w.drew _ x hx⟩⟩
    ·simp only [Array.size_append, size_zeroCells, hn]
     have : ∀ c : Nat, 0 + c * r.n ≤ ([] : List Value).toArray.size + (0 + k - 0) * r.n + (c - (0 + k)) * r.n := fun c => by
      rw [Nat.add_assoc, ← Nat.add_mul]
      have : c * r.n ≤ (0 + k - 0 + (c - (0 + k))) * r.n := Nat.mul_le_mul_right _ (by omega)
      omega
     exact this _
    ·intro x hx
     simp at hx
     subst hx
     exact ⟨.inr (Nat.le_refl _), by rw [hsz]; omega⟩
    ·intro x hx
     simp at hx
     subst hx
     exact ⟨by simp, fun h => by have := hN _ h; omega⟩
 ·cases hq
end Go.Ev
namespace Go.Proofs
open Go.Shelf
def Tryz.grow_ren : Go.Shelf.Ren := ⟨fun | 4 => 189 | n => n, fun | 22 => 22 | 25 => 5 | 3 => 3 | 4 => 4 | 9 => 9 | 20 => 20 | 0 => 0 | n => n, fun | n => n⟩
theorem Tryz.grow : Go.Proofs.Lays8.n4 Tryz.prog Tryz.grow_ren := {
 mixed := by kernel_rfl
 f4 := ⟨Tryz.f189.name, by decide, Tryz.func189.trans (congrArg some (by kernel_rfl))⟩
 t0 := Tryz.underlying0
 a0 := Tryz.isAgg0
 z0 := Tryz.sizeOf0
 v0 := Tryz.zeroValue0
 t3 := Tryz.underlying3
 a3 := Tryz.isAgg3
 z3 := Tryz.sizeOf3
 v3 := Tryz.zeroValue3
 t4 := Tryz.underlying4
 a4 := Tryz.isAgg4
 z4 := Tryz.sizeOf4
 v4 := Tryz.zeroValue4
 t9 := Tryz.underlying9
 a9 := Tryz.isAgg9
 z9 := Tryz.sizeOf9
 v9 := Tryz.zeroValue9
 t20 := Tryz.underlying20
 a20 := Tryz.isAgg20
 z20 := Tryz.sizeOf20
 v20 := Tryz.zeroValue20
 t22 := Tryz.underlying22
 a22 := Tryz.isAgg22
 z22 := Tryz.sizeOf22
 v22 := Tryz.zeroValue22 }
end Go.Proofs
namespace Go.Ev.Seat
open Go.RowKit
set_option maxRecDepth 100000
theorem aq1 : aV prog I N.jh true (Ri ah) := by
 refine anM (i0 := (prog.info? 5).getD default) (z := .int .u8 0) Go.Proofs.Tryz.grow (aW (l := []) (p := []) (ls := []) (lend := []) (focus := false) (fuel := 0) (give := []) (Rj := []) (fresh := true) bn (g := N.jh) (fn := F.jh) (by kernel_rfl) (by kernel_rfl) (by kernel_rfl) (by kernel_rfl) (cs := []) (by kernel_rfl) aK).1 (by kernel_rfl) (by kernel_rfl) (Nat.le_of_ble_eq_true (by kernel_rfl)) (Nat.le_of_ble_eq_true (by kernel_rfl)) rfl
end Go.Ev.Seat
end
section
namespace Go.Ev.Seat
open Go.RowKit
set_option maxRecDepth 100000
set_option linter.unusedVariables false
def adT : Ss := { tm := (.cons (.l .no rQ) (.cons (.x) (.cons (.x) (.cons (.int .i64) (.cons (.x) (.cons (.x) (.cons (.x) (.cons (.x) (.cons (.x) (.cons (.l .no rQ) (.cons (.int .i64) (.cons (.int .i64) (Fj 24))))))))))))), ob := .nil, nx := 0, io := .nil }
def aup (x0 : List (List (Int))) (x3 : Int) (x9 : List (List (Int))) (x10 : Int) (x11 : Int) : adT.T := ((x0, ((), ((), (x3, ((), ((), ((), ((), ((), (x9, (x10, (x11, xd 24)))))))))))), (), ())
def anN (x0 : List (List Int)) (x3 : Int) : St := { tm := ([(.l .no rQ x0), .x, .x, (.s (.int .i64 x3))] ++ List.replicate 32 .x), ob := [], nx := 0, io := [] }
def aq2 (d : adT.T) (K : Ex → St → Option aj) : Option aj := match d with
 | ((x0, (_, (_, (x3, (_, (_, (_, (_, (_, (x9, (x10, (x11, _)))))))))))), _, _) => bif (x11 == 0) && (x3 == 0) && (x10 == ((x9.length : Nat) : Int)) && Nat.ble x9.length 4611686018427387904 && Nat.ble (sumW List.length x9) 1099511627776 then K (.ext 0) (anN x0 ((sumW List.length x9 : Nat) : Int)) else none
def adU : Ss := { tm := (.cons (.x) (.cons (.x) (.cons (.x) (.cons (.x) (.cons (.x) (.cons (.x) (.cons (.w 0) (.cons (.x) (.cons (.x) (.cons (.x) (.cons (.x) (.cons (.x) (.cons (.x) (.cons (.x) (.cons (.x) (.cons (.x) (.cons (.x) (.cons (.x) (.cons (.x) (.cons (.x) (.cons (.x) (.cons (.x) (.cons (.x) (.cons (.x) (.cons (.x) (.cons (.l .no rQ) (.cons (.int .i64) (.cons (.int .i64) (Fj 8))))))))))))))))))))))))))))), ob := (.arr true true ah .nil), nx := 1, io := .nil }
def auq (x25 : List (List (Int))) (jA : Int) (x27 : Int) (o0 : List (Int)) : adU.T := (((), ((), ((), ((), ((), ((), ((), ((), ((), ((), ((), ((), ((), ((), ((), ((), ((), ((), ((), ((), ((), ((), ((), ((), ((), (x25, (jA, (x27, xd 8)))))))))))))))))))))))))))), (o0, ()), ())
def anO (o0 : List Int) : St := { tm := ([.x, .x, .x, .x, .x, .x, (.w 0)] ++ List.replicate 29 .x), ob := [(0, (.arr true true ah o0))], nx := 1, io := [] }
def aq3 (d : adU.T) (K : Ex → St → Option aj) : Option aj := match d with
 | ((_, (_, (_, (_, (_, (_, (_, (_, (_, (_, (_, (_, (_, (_, (_, (_, (_, (_, (_, (_, (_, (_, (_, (_, (_, (x25, (jA, (x27, _)))))))))))))))))))))))))))), (o0, _), _) => bif (x27 == 0) && (jA == ((x25.length : Nat) : Int)) && Nat.ble x25.length 4611686018427387904 && Nat.beq o0.length 0 && Nat.ble (sumW List.length x25) 1099511627776 then K (.ext 2) (anO x25.flatten) else none
noncomputable def aq4 : Env := En [(N.jh, true, Ri ah)] [] [(3, [0,3,9,10,11], [0,3], uz adT aq2), (11, [6,25,26,27], [6], uz adU aq3)]
noncomputable abbrev adV (n : Nat) (x0 : List (List Int)) (x3 : Int) (x9 : List (List (Int))) (x10 x11 : Int) (K : Ex → St → Option aj) : Option aj := rounds (run aq4 (aS F.bQ 3)) [0,3,9,10,11] [0,3] n (adT.mk' (aup x0 x3 x9 x10 x11)) K
noncomputable abbrev aaq (n : Nat) (x25 : List (List (Int))) (jA x27 : Int) (o0 : List Int) (K : Ex → St → Option aj) : Option aj := rounds (run aq4 (aS F.bQ 11)) [6,25,26,27] [6] n (adU.mk' (auq x25 jA x27 o0)) K
theorem akN (n : Nat) (x0 : List (List (Int))) (x3 : Int) (x9 : List (List (Int))) (x10 : Int) (x11 : Int) (K : Ex → St → Option aj) : adV (n + 1) x0 x3 x9 x10 x11 K =
 (bif decide (x11 < x10) then
 (bif (decide ((0 : Int) ≤ x11) && decide (x11 < (((List.length x9) : Nat) : Int))) then
  (bif decide ((IntKind.wrap .i64 (x3 + (((List.length (List.getD x9 (Int.toNat x11) (rQ.dflt))) : Nat) : Int))) < (0 : Int)) then
   none
   else adV n x0 (IntKind.wrap .i64 (x3 + (((List.length (List.getD x9 (Int.toNat x11) (rQ.dflt))) : Nat) : Int))) x9 x10 (IntKind.wrap .i64 (x11 + (1 : Int))) K)
  else none)
 else K (.ext 0) (anN x0 x3)) := by kernel_rfl
theorem akO (n : Nat) (x25 : List (List (Int))) (jA : Int) (x27 : Int) (o0 : List (Int)) (K : Ex → St → Option aj) : aaq (n + 1) x25 jA x27 o0 K =
 (bif decide (x27 < jA) then
 (bif (decide ((0 : Int) ≤ x27) && decide (x27 < (((List.length x25) : Nat) : Int))) then
  (bif (Nat.ble (((List.length o0) + (List.length (List.getD x25 (Int.toNat x27) (rQ.dflt)))) * 1) 140737488355328) then
   aaq n x25 jA (IntKind.wrap .i64 (x27 + (1 : Int))) (o0 ++ (List.getD x25 (Int.toNat x27) (rQ.dflt))) K
   else none)
  else none)
 else K (.ext 2) (anO o0)) := by kernel_rfl
theorem ate (x0 x9 : List (List Int)) (K : Ex → St → Option aj) (h1 : x9.length ≤ 4611686018427387904) (h2 : sumW List.length x9 ≤ 1099511627776) : adV (x9.length + 1) x0 0 x9 ((x9.length : Nat) : Int) 0 K = K (.ext 0) (anN x0 ((sumW List.length x9 : Nat) : Int)) := by
 have := ai4 (R := fun n i (s : Int) => adV n x0 s x9 ((x9.length : Nat) : Int) i K) (k := K (.ext 0) (anN x0 ((sumW List.length x9 : Nat) : Int))) (f := fun i => ((sumW List.length (x9.take i) : Nat) : Int)) x9.length (fun m i hi => by
  show adV (m + 1) x0 _ x9 _ i K = adV m x0 ((sumW List.length (x9.take (i + 1)) : Nat) : Int) x9 _ ((i + 1 : Nat) : Int) K
  have hs := KZ (g := List.length) (z := (rQ.dflt : List Int)) hi
  have hs' : sumW List.length (List.take (i + 1) x9) = sumW List.length (List.take i x9) + List.length (x9.getD i rQ.dflt) := hs
  have hle : sumW List.length (x9.take (i + 1)) ≤ sumW List.length x9 := Am
  rw [akN, decide_eq_true (show ((i : Nat) : Int) < ((x9.length : Nat) : Int) by omega), decide_eq_true (show (0 : Int) ≤ ((i : Nat) : Int) by omega), bW (show i ≤ 4611686018427387904 by omega), Int.toNat_natCast, abP (by omega) (by omega), hs', decide_eq_false (show ¬ ((((sumW List.length (List.take i x9) : Nat) : Int) + ((List.length (x9.getD i rQ.dflt) : Nat) : Int)) < 0) by omega), Int.natCast_add]
  rfl) (fun m => by
  show adV (m + 1) x0 _ x9 _ _ K = _
  rw [akN, decide_eq_false (show ¬ ((x9.length : Nat) : Int) < ((x9.length : Nat) : Int) by omega), List.take_length]; rfl)
 exact this
theorem atf (x25 : List (List Int)) (K : Ex → St → Option aj) (h1 : x25.length ≤ 4611686018427387904) (h2 : sumW List.length x25 ≤ 1099511627776) : aaq (x25.length + 1) x25 ((x25.length : Nat) : Int) 0 [] K = K (.ext 2) (anO x25.flatten) := by
 have := ai4 (R := fun n i (s : List Int) => aaq n x25 ((x25.length : Nat) : Int) i s K) (k := K (.ext 2) (anO x25.flatten)) (f := fun i => (x25.take i).flatten) x25.length (fun m i hi => by
  show aaq (m + 1) x25 _ i _ K = aaq m x25 _ ((i + 1 : Nat) : Int) (x25.take (i + 1)).flatten K
  have hs := KZ (g := List.length) (z := (rQ.dflt : List Int)) hi
  have hs' : sumW List.length (List.take (i + 1) x25) = sumW List.length (List.take i x25) + List.length (x25.getD i rQ.dflt) := hs
  have hle : sumW List.length (x25.take (i + 1)) ≤ sumW List.length x25 := Am
  have hfl := VE (x25.take i)
  rw [akO, decide_eq_true (show ((i : Nat) : Int) < ((x25.length : Nat) : Int) by omega), decide_eq_true (show (0 : Int) ≤ ((i : Nat) : Int) by omega), bW (show i ≤ 4611686018427387904 by omega), Int.toNat_natCast, Nat.ble_eq_true_of_le (show (((x25.take i).flatten.length + (x25.getD i rQ.dflt).length) * 1) ≤ 140737488355328 by omega)]
  show aaq m x25 _ _ ((x25.take i).flatten ++ x25.getD i rQ.dflt) K = _
  have hf2 : (x25.take (i + 1)).flatten = (x25.take i).flatten ++ x25.getD i rQ.dflt := MG hi
  rw [hf2]) (fun m => by
  show aaq (m + 1) x25 _ _ _ K = _
  rw [akO, decide_eq_false (show ¬ ((x25.length : Nat) : Int) < ((x25.length : Nat) : Int) by omega), List.take_length]; rfl)
 exact this
theorem aq5 : dJ aq4 (aS F.bQ 3) := by
 refine Ht (n := 3) (sh := adT) (R := aq2) (by kernel_rfl) rfl rfl (fun d K r hr => ?_)
 obtain ⟨⟨x0, u1, u2, x3, u4, u5, u6, u7, u8, x9, x10, x11, u12⟩, u13, u14⟩ := d
 unfold aq2 at hr
 simp only at hr
 cases hc : ((x11 == 0) && (x3 == 0) && (x10 == ((x9.length : Nat) : Int)) && Nat.ble x9.length 4611686018427387904 && Nat.ble (sumW List.length x9) 1099511627776) with
 | false => rw [hc] at hr; cases hr
 | true =>
  rw [hc] at hr
  simp only [Bool.and_eq_true, beq_iff_eq] at hc
  obtain ⟨⟨⟨⟨rfl, rfl⟩, rfl⟩, h1⟩, h2⟩ := hc
  exact ⟨x9.length + 1, (ate x0 x9 K (Nat.le_of_ble_eq_true h1) (Nat.le_of_ble_eq_true h2)).trans hr⟩
theorem aq6 : dJ aq4 (aS F.bQ 11) := by
 refine Ht (n := 11) (sh := adU) (R := aq3) (by kernel_rfl) rfl rfl (fun d K r hr => ?_)
 obtain ⟨⟨_, _, _, _, _, _, _, _, _, _, _, _, _, _, _, _, _, _, _, _, _, _, _, _, _, x25, jA, x27, u12⟩, ⟨o0, u13⟩, u14⟩ := d
 unfold aq3 at hr
 simp only at hr
 cases hc : ((x27 == 0) && (jA == ((x25.length : Nat) : Int)) && Nat.ble x25.length 4611686018427387904 && Nat.beq o0.length 0 && Nat.ble (sumW List.length x25) 1099511627776) with
 | false => rw [hc] at hr; cases hr
 | true =>
  rw [hc] at hr
  simp only [Bool.and_eq_true, beq_iff_eq] at hc
  obtain ⟨⟨⟨⟨rfl, rfl⟩, h1⟩, h3⟩, h2⟩ := hc
  have h3' : o0 = [] := List.eq_nil_of_length_eq_zero (Nat.eq_of_beq_eq_true h3)
  subst h3'
  exact ⟨x25.length + 1, (atf x25 K (Nat.le_of_ble_eq_true h1) (Nat.le_of_ble_eq_true h2)).trans hr⟩
noncomputable def akP := dL aq4 true F.bQ
theorem ao7 : aV prog I N.bQ true akP := aW (aY aq1 bn) (by kernel_rfl) (by kernel_rfl) (by kernel_rfl) (by kernel_rfl) (cs := [aS F.bQ 3, aS F.bQ 11]) (by kernel_rfl) (dA aq5 (dA aq6 aK))
def adW : Sm := fun vs K => match vs with
 | [v] => match (Cc.sl rQ).dec v with
  | some (xs : List (List Int)) => bif Nat.ble xs.length 4611686018427387904 && Nat.ble (sumW List.length xs) 1099511627776 then K (.l .deep ah xs.flatten, []) else none
  | none => none
 | _ => none
theorem amE : aV prog I N.bQ true adW := okW ao7 (by
  intro ws K q hr
  unfold adW at hr
  split at hr
  · split at hr
    · rename_i xs hx
      rw [Cc.iV _ hx]
      have e : akP [.l .no rQ xs] K = (bif ((0 : Int) == 0) && ((0 : Int) == 0) && (((List.length xs : Nat) : Int) == ((List.length xs : Nat) : Int)) && Nat.ble (List.length xs) 4611686018427387904 && Nat.ble (sumW List.length xs) 1099511627776 then
        (bif decide (0 ≤ ((sumW List.length xs : Nat) : Int)) && decide (((sumW List.length xs : Nat) : Int) ≤ 1099511627776) then
         (bif ((0 : Int) == 0) && (((List.length xs : Nat) : Int) == ((List.length xs : Nat) : Int)) && Nat.ble (List.length xs) 4611686018427387904 && Nat.beq 0 0 && Nat.ble (sumW List.length xs) 1099511627776 then K (.l .deep ah (List.flatten xs), []) else none)
         else none) else none) := by kernel_rfl
      cases hl : (Nat.ble xs.length 4611686018427387904 && Nat.ble (sumW List.length xs) 1099511627776) with
      | false => rw [hl] at hr; cases hr
      | true =>
        rw [hl] at hr
        simp only [Bool.and_eq_true] at hl
        refine e.trans (Eq.trans ?_ hr)
        rw [hl.1, hl.2, beq_self_eq_true, beq_self_eq_true, decide_eq_true (show (0 : Int) ≤ ((sumW List.length xs : Nat) : Int) by omega), decide_eq_true (show ((sumW List.length xs : Nat) : Int) ≤ 1099511627776 by have := Nat.le_of_ble_eq_true hl.2; omega)]
        rfl
    · cases hr
  · cases hr)
end Go.Ev.Seat
end
section
namespace Go.Ev.Seat
open Go.RowKit
set_option maxRecDepth 100000
set_option linter.unusedVariables false
set_option linter.unusedSimpArgs false
noncomputable abbrev Xg : List (Nat × Plan × List Nat) := [(1, takeB [0, 1, 2, 3, 4, 5, 6, 7, 8, 9, 10, 11, 12] (.fork (.one 13 (.fork (.one 14 (takes [15]))))), [])]
noncomputable abbrev Xh : List (Nat × Bool × Sm) := [(N.bQ, true, adW)]
noncomputable abbrev akQ : Env := En Xh Xg [] [] false 0 []
noncomputable def Qm (e : ay) (t : List Int) (K : aj → Option aj) : Option aj := (bif ((decide ((0 : Int) ≤ e.1)) && (decide (e.1 ≤ (((List.length t) : Nat) : Int)))) then (bif ((decide ((0 : Int) ≤ (IntKind.wrap .i64 (e.1 + e.2.1)))) && (decide ((IntKind.wrap .i64 (e.1 + e.2.1)) ≤ (((List.length t) : Nat) : Int)))) then (bif (Nat.ble (sumW List.length ((List.take (Int.toNat e.1) t) :: (e.2.2 :: ((List.drop (Int.toNat (IntKind.wrap .i64 (e.1 + e.2.1))) t) :: [])))) 1099511627776) then K ((.l .deep ah (List.flatten ((List.take (Int.toNat e.1) t) :: (e.2.2 :: ((List.drop (Int.toNat (IntKind.wrap .i64 (e.1 + e.2.1))) t) :: []))))), []) else none) else none) else none)
theorem akR (e : ay) (t : List Int) (K : aj → Option aj) : dL akQ true F.KW [.a (aB.cells .no e), .l .no ah t] K = Qm e t K := by kernel_rfl
def aar : Sm := bg [.a aB, .l ah] (fun d => decide (0 ≤ d.1.1) && decide (0 ≤ d.1.2.1) && decide (d.1.1 + d.1.2.1 ≤ ((d.2.1.length : Nat) : Int)) && Nat.ble d.2.1.length 1048576 && Nat.ble d.1.2.2.length 1048576) (fun d => (.l .deep ah (ZU d.1 d.2.1), []))
theorem akS (e : ay) (t : List Int) (h : (decide (0 ≤ e.1) && decide (0 ≤ e.2.1) && decide (e.1 + e.2.1 ≤ ((t.length : Nat) : Int)) && Nat.ble t.length 1048576 && Nat.ble e.2.2.length 1048576) = true) (K : aj → Option aj) : Qm e t K = K (.l .deep ah (ZU e t), []) := by
 simp only [Bool.and_eq_true, decide_eq_true_eq] at h
 obtain ⟨⟨⟨⟨h0, h1⟩, h2⟩, h3⟩, h4⟩ := h
 have h3' := Nat.le_of_ble_eq_true h3
 have h4' := Nat.le_of_ble_eq_true h4
 unfold Qm
 rw [wrap_in (n := e.1 + e.2.1) (by omega) (by omega), decide_eq_true h0, decide_eq_true (show e.1 ≤ ((t.length : Nat) : Int) by omega), decide_eq_true (show 0 ≤ e.1 + e.2.1 by omega), decide_eq_true h2]
 have hs : Nat.ble (sumW List.length [List.take (Int.toNat e.1) t, e.2.2, List.drop (Int.toNat (e.1 + e.2.1)) t]) 1099511627776 = true := Nat.ble_eq_true_of_le (by
  have e1 : (List.take (Int.toNat e.1) t).length ≤ 1048576 := by simp; omega
  have e2 : (List.drop (Int.toNat (e.1 + e.2.1)) t).length ≤ 1048576 := by simp; omega
  show _ + (_ + (_ + 0)) ≤ _
  omega)
 rw [hs]
 simp only [Bool.and_self, cond_true]
 rw [show [List.take (Int.toNat e.1) t, e.2.2, List.drop (Int.toNat (e.1 + e.2.1)) t].flatten = ZU e t by simp [ZU]]
theorem afh : aV prog I N.KW true aar := kD (aW (aY amE bn) (l := Xh) (p := Xg) (ls := []) (lend := []) (focus := false) (fuel := 0) (give := []) (fn := F.KW) (by kernel_rfl) (by kernel_rfl) (by kernel_rfl) (by kernel_rfl) (cs := []) (by kernel_rfl) aK) (aI fun d K h => (akR d.1 d.2.1 K).trans (akS d.1 d.2.1 h K))
end Go.Ev.Seat
end
section
namespace Go.Ev.Seat
open Go.RowKit
set_option maxRecDepth 100000
set_option linter.unusedVariables false
set_option linter.unusedSimpArgs false
def yY (x7 : Int) (o0 : List Int) : St := { tm := ([.x, .x, .x, .x, .x, .x, (.w 0), (.s (.int .i64 x7))] ++ List.replicate 25 .x), ob := [(0, (.arr true true ah o0))], nx := 1, io := [] }
def wJ : Ss := { tm := (.cons (.x) (.cons (.x) (.cons (.x) (.cons (.x) (.cons (.x) (.cons (.x) (.cons (.w 0) (.cons (.int .i64) (.cons (.x) (.cons (.x) (.cons (.x) (.cons (.x) (.cons (.x) (.cons (.x) (.cons (.x) (.cons (.l .no aB) (.cons (.int .i64) (.cons (.int .i64) (Fj 15))))))))))))))))))), ob := (.arr true true ah .nil), nx := 1, io := .nil }
def abm (x7 : Int) (x15 : List ay) (x16 : Int) (x17 : Int) (o0 : List Int) : wJ.T := (((), ((), ((), ((), ((), ((), ((), (x7, ((), ((), ((), ((), ((), ((), ((), (x15, (x16, (x17, xd 15)))))))))))))))))), (o0, ()), ())
def qX (x7 : Int) (x15 : List ay) (x16 : Int) (x17 : Int) (o0 : List Int) : St := { tm := ([.x, .x, .x, .x, .x, .x, (.w 0), (.s (.int .i64 x7)), .x, .x, .x, .x, .x, .x, .x, (.l .no aB x15), (.s (.int .i64 x16)), (.s (.int .i64 x17))] ++ List.replicate 15 .x), ob := [(0, (.arr true true ah o0))], nx := 1, io := [] }
theorem Y4 (x7 : Int) (x15 : List ay) (x16 : Int) (x17 : Int) (o0 : List Int) : wJ.mk' (abm x7 x15 x16 x17 o0) = (qX x7 x15 x16 x17 o0) := by kernel_rfl
def abn (d : wJ.T) (f : Int → (List ay) → Int → Int → (List Int) → Option aj) : Option aj := match d with | ((_, (_, (_, (_, (_, (_, (_, (x7, (_, (_, (_, (_, (_, (_, (_, (x15, (x16, (x17, _)))))))))))))))))), (o0, _), _) => f x7 x15 x16 x17 o0
noncomputable def yZ (x7 : Int) (x15 : List ay) (x16 : Int) (x17 : Int) (o0 : List Int) (lC : Int → (List ay) → Int → Int → (List Int) → Option aj) (k0 : Int → (List Int) → Option aj) : Option aj := (bif (decide (x17 < x16)) then (bif ((decide ((0 : Int) ≤ x17)) && (decide (x17 < (((List.length x15) : Nat) : Int)))) then (bif ((aO o0) && (aO (List.getD x15 (Int.toNat x17) (aB.dflt)).2.2)) then (bif (!(iC o0 (List.getD x15 (Int.toNat x17) (aB.dflt)))) then (k0 x7 o0) else (bif (((((decide ((0 : Int) ≤ (List.getD x15 (Int.toNat x17) (aB.dflt)).1)) && (decide ((0 : Int) ≤ (List.getD x15 (Int.toNat x17) (aB.dflt)).2.1))) && (decide (((List.getD x15 (Int.toNat x17) (aB.dflt)).1 + (List.getD x15 (Int.toNat x17) (aB.dflt)).2.1) ≤ (((List.length o0) : Nat) : Int)))) && (Nat.ble (List.length o0) 1048576)) && (Nat.ble (List.length (List.getD x15 (Int.toNat x17) (aB.dflt)).2.2) 1048576)) then (lC (IntKind.wrap .i64 (x7 + (1 : Int))) x15 x16 (IntKind.wrap .i64 (x17 + (1 : Int))) (ZU (List.getD x15 (Int.toNat x17) (aB.dflt)) o0)) else none)) else none) else none) else (k0 x7 o0))
noncomputable def qY : Nat → Int → (List ay) → Int → Int → (List Int) → (Int → (List Int) → Option aj) → Option aj
 | 0, _, _, _, _, _, _ => none
 | m + 1, x7, x15, x16, x17, o0, k0 => yZ x7 x15 x16 x17 o0 (fun x7 x15 x16 x17 o0 => (qY m x7 x15 x16 x17 o0 k0)) k0
noncomputable def NR (x7 : Int) (x15 : List ay) (x16 : Int) (x17 : Int) (o0 : List Int) (k0 : Int → (List Int) → Option aj) : Option aj := qY (x7.toNat + List.length x15 + x16.toNat + x17.toNat + List.length o0 + 2) x7 x15 x16 x17 o0 k0
noncomputable def Ea : dV := (fun (σ : St) (K : Ex → St → Option aj) => (match wJ.un σ with | some d => abn d (fun x7 x15 x16 x17 o0 => NR x7 x15 x16 x17 o0 (fun x7 o0 => (K (.ext 0) (yY x7 o0)))) | none => none))
noncomputable abbrev Xi : List (Nat × Bool × Sm) := [(N.Ae, true, Dq), (N.eX, true, jB), (N.OG, true, adS), (N.KW, true, aar)]
noncomputable abbrev Qn : Env := En Xi [] [(5, [6,7,15,16,17], [4,5,6,7], Ea)] [] false 0 []
noncomputable abbrev xY := rounds (run Qn (aS F.vN 5)) [6,7,15,16,17] [4,5,6,7]
theorem Y5 (m : Nat) (x7 : Int) (x15 : List ay) (x16 : Int) (x17 : Int) (o0 : List Int) (K : Ex → St → Option aj) : xY (m + 1) (qX x7 x15 x16 x17 o0) K = yZ x7 x15 x16 x17 o0 (fun x7 x15 x16 x17 o0 => (xY m (qX x7 x15 x16 x17 o0) K)) (fun x7 o0 => (K (.ext 0) (yY x7 o0))) := by kernel_rfl
theorem Tm (K : Ex → St → Option aj) : ∀ m : Nat, (∀ (x7 : Int) (x15 : List ay) (x16 : Int) (x17 : Int) (o0 : List Int), xY m (qX x7 x15 x16 x17 o0) K = qY m x7 x15 x16 x17 o0 (fun x7 o0 => (K (.ext 0) (yY x7 o0))))
 | 0 => (fun _ _ _ _ _ => rfl)
 | m + 1 => (fun x7 x15 x16 x17 o0 => (by rw [Y5, show (fun x7 x15 x16 x17 o0 => (xY m (qX x7 x15 x16 x17 o0) K)) = (fun x7 x15 x16 x17 o0 => (qY m x7 x15 x16 x17 o0 (fun x7 o0 => (K (.ext 0) (yY x7 o0))))) from funext fun x7 => funext fun x15 => funext fun x16 => funext fun x17 => funext fun o0 => (Tm K m) x7 x15 x16 x17 o0]; rfl))
theorem Xj : dJ Qn (aS F.vN 5) := by
 refine dh (n := 5) (F := Ea) (by kernel_rfl) rfl (li := [6,7,15,16,17]) (lo := [4,5,6,7]) rfl (fun σ K r hr => ?_)
 unfold Ea at hr
 split at hr
 ·rename_i d hd
  rw [Ss.dY hd]
  exact ⟨_, ((congrArg (fun z => xY _ z K) (Y4 _ _ _ _ _)).trans ((Tm K _) _ _ _ _ _)).trans hr⟩
 ·cases hr
noncomputable def Qo (t : List Int) (l : List ay) (K : aj → Option aj) : Option aj := (bif (aO t) then (bif (!(aT t)) then K ((.t [(.l .deep ah ([] : List Int)), (.s (.int .i64 (-(1 : Int))))]), []) else (bif (Cc.lim (Cc.sl ah) t) then (NR (0 : Int) l (((List.length l) : Nat) : Int) (0 : Int) t (fun y0 y1 => K ((.t [(.l .deep ah y1), (.s (.int .i64 y0))]), []))) else none)) else none)
theorem akT (t : List Int) (l : List ay) (K : aj → Option aj) : dL Qn true F.vN [.l .no ah t, .l .no aB l] K = Qo t l K := by kernel_rfl
def Qp : Sm := bg [.l ah, .l aB] (fun d => aO d.1 && fF (.sl aB) d.2.1) (fun d => (.t [.l .deep ah (aU d.1 d.2.1).1, .s (.int .i64 (aU d.1 d.2.1).2)], []))
theorem akU (t : List Int) (l : List ay) (h : (aO t && fF (.sl aB) l) = true) (K : aj → Option aj) : Qo t l K = K (.t [.l .deep ah (aU t l).1, .s (.int .i64 (aU t l).2)], []) := by
 have h1 := ((Bool.and_eq_true _ _).mp h).1
 have h2 := ((Bool.and_eq_true _ _).mp h).2
 unfold Qo aU
 rw [h1]
 cases ht : aT t with
 | false => rfl
 | true =>
 have lt := ji ht
 have hl := dN h2
 rw [Q9 (jW h1)]
 have q : ∀ (m i : Nat) (o : List Int), aO o = true → i ≤ l.length → l.length - i < m → qY m ((i : Nat) : Int) l (((List.length l) : Nat) : Int) ((i : Nat) : Int) o (fun y0 y1 => K ((.t [(.l .deep ah y1), (.s (.int .i64 y0))]), [])) =
   K ((.t [.l .deep ah (fO (l.drop i) o i).1, .s (.int .i64 (((fO (l.drop i) o i).2 : Nat) : Int))]), []) := by
  intro m
  induction m with
  | zero => intro i o _ _ hm; omega
  | succ m ih =>
   intro i o ho hi hm
   show yZ ((i : Nat) : Int) l _ ((i : Nat) : Int) o _ _ = _
   unfold yZ
   by_cases hlt : i < l.length
   ·have hg : l.getD i aB.dflt = l[i] := getD_lt _ hlt
    have hf : aO (l[i]).2.2 = true := Ey (aX (aX (H8 h2 (List.getElem_mem hlt))))
    have hd : l.drop i = l[i] :: l.drop (i + 1) := (List.getElem_cons_drop hlt).symm
    rw [decide_eq_true (show ((i : Nat) : Int) < ((l.length : Nat) : Int) by omega), decide_eq_true (show (0 : Int) ≤ ((i : Nat) : Int) by omega), Int.toNat_natCast, bW (by omega), ho, hg, hf, hd]
    cases he : iC o l[i] with
    | false => simp only [fO, he]; rfl
    | true =>
     have e1 : mX o l[i] = ZU l[i] o := by unfold mX; rw [he]; rfl
     have := ih (i + 1) (ZU l[i] o) (e1 ▸ MK ho hf) (by omega) (by omega)
     have qq := zO.1 he
     have r1 := eU qq.a
     have c0 := qq.c0
     have r2 := eU qq.b
     have l1 := ji qq.tx
     have l2 := ji qq.p
     rw [decide_eq_true r1.1, decide_eq_true c0, decide_eq_true r2.2, Nat.ble_eq_true_of_le (by omega), Nat.ble_eq_true_of_le (by omega)]
     simp only [fO, he]
     exact this
   ·obtain rfl : i = l.length := by omega
    rw [decide_eq_false (show ¬ ((l.length : Nat) : Int) < ((l.length : Nat) : Int) by omega), List.drop_length]; rfl
 refine Eq.trans (q _ 0 t h1 (by omega) (by omega)) ?_
 rw [List.drop_zero]; rfl
theorem Tn : aV prog I N.vN true Qp := kD (aW (aY BH (aY kV (aY aip (aY afh bn)))) (l := Xi) (p := []) (ls := [(5, [6,7,15,16,17], [4,5,6,7], Ea)]) (lend := []) (focus := false) (fuel := 0) (give := []) (fn := F.vN) (by kernel_rfl) (by kernel_rfl) (by kernel_rfl) (by kernel_rfl) (cs := [aS F.vN 5]) (by kernel_rfl) (dA Xj aK)) (aI fun d K h => (akT d.1 d.2.1 K).trans (akU d.1 d.2.1 h K))
end Go.Ev.Seat
end
section
namespace Go.Ev.Seat
open Go.RowKit
set_option maxRecDepth 100000
set_option linter.unusedVariables false
set_option linter.unusedSimpArgs false
noncomputable abbrev afi : Env := En [] [] [] [] false 0 []
noncomputable def J8 (a : List Int) (b : List Int) (K : aj → Option aj) : Option aj := K ((.s (.bool ((ByteArray.toList (lW a)) == (ByteArray.toList (lW b))))), [])
theorem afj (a : List Int) (b : List Int) (K : aj → Option aj) : dL afi true F.bytes_Equal [.l .no ah a, .l .no ah b] K = J8 a b K := by kernel_rfl
def Tq : Sm := bg [.l ah, .l ah] (fun d => aO d.1 && aO d.2.1) (fun d => (bl (decide (d.1 = d.2.1)), []))
theorem afk (a : List Int) (b : List Int) (h : (aO a && aO b) = true) (K : aj → Option aj) : J8 a b K = K (bl (decide (a = b)), []) := by
 obtain ⟨h1, h2⟩ := (Bool.and_eq_true _ _).mp h
 unfold J8
 rw [VH (fun x hx => mW h1 hx) (fun x hx => mW h2 hx)]
 rfl
theorem abo : aV prog I N.bytes_Equal true Tq := kD (aW bn (l := []) (p := []) (ls := []) (lend := []) (focus := false) (fuel := 0) (give := []) (fn := F.bytes_Equal) (by kernel_rfl) (by kernel_rfl) (by kernel_rfl) (by kernel_rfl) (cs := []) (by kernel_rfl) aK) (aI fun d K h => (afj d.1 d.2.1 K).trans (afk d.1 d.2.1 h K))
end Go.Ev.Seat
end
section
namespace Go.Ev.Seat
open Go.RowKit
set_option maxRecDepth 100000
set_option linter.unusedVariables false
set_option linter.unusedSimpArgs false
noncomputable abbrev NS : List (Nat × Plan × List Nat) := [(3, takeB [0, 1, 2, 3] (.fork (.one 4 (.fork (.one 5 (takes [6, 7, 8, 9, 10]))))), [])]
noncomputable abbrev NT : List (Nat × Bool × Sm) := [(N.gI, true, qU), (N.vO, true, Ql), (N.vN, true, Qp), (N.bytes_Equal, true, Tq)]
noncomputable abbrev adX : Env := En NT NS [] [] false 0 []
noncomputable def Ij (d : bT) (K : aj → Option aj) : Option aj := (bif (decide ((((List.length d.2.2.1) : Nat) : Int) > (60 : Int))) then K ((.s (.bool false)), []) else (bif (Nat.ble (List.length d.2.2.1) 1048576) then (bif (List.any d.2.2.1 (fun x => (!(lV x.1)))) then K ((.s (.bool false)), []) else (bif (fF (Cc.sl aF) d.2.2.1) then (bif ((aO d.1) && (fF (Cc.sl aB) (bF d.2.2.1))) then (bif ((aU d.1 (bF d.2.2.1)).2 == (((List.length d.2.2.1) : Nat) : Int)) then (bif ((aO (aU d.1 (bF d.2.2.1)).1) && (aO d.2.1)) then K ((.s (.bool (decide ((aU d.1 (bF d.2.2.1)).1 = d.2.1)))), []) else none) else K ((.s (.bool false)), [])) else none) else none)) else none))
theorem adY (d : bT) (K : aj → Option aj) : dL adX true F.Af [.a (bH.cells .no d)] K = Ij d K := by kernel_rfl
def Qq : Sm := bg [.a bH] (fun d => cZ bH d.1) (fun d => (bl (xG d.1.1 d.1.2.1 d.1.2.2.1), []))
theorem adZ (d : bT) (h : (cZ bH d) = true) (K : aj → Option aj) : Ij d K = K (bl (xG d.1 d.2.1 d.2.2.1), []) := by
 obtain ⟨h1, h2, h3, _, _⟩ := wu h
 have hl := dN h3
 unfold Ij xG
 rw [Nat.ble_eq_true_of_le hl, h1, h2, h3, AV h3, AX h1 (AV h3)]
 by_cases h6 : ((d.2.2.1.length : Nat) : Int) ≤ 60
 case neg => rw [decide_eq_false h6, decide_eq_true (show ((d.2.2.1.length : Nat) : Int) > 60 by omega)]; rfl
 rw [decide_eq_true h6, decide_eq_false (show ¬ ((d.2.2.1.length : Nat) : Int) > 60 by omega), List.all_eq_not_any_not]
 cases List.any d.2.2.1 (fun c => !(lV c.1))
 ·cases ((aU d.1 (bF d.2.2.1)).2 == ((d.2.2.1.length : Nat) : Int)) <;> rfl
 ·rfl
theorem Y6 : aV prog I N.Af true Qq := kD (aW (aY Dw (aY Tj (aY Tn (aY abo bn)))) (l := NT) (p := NS) (ls := []) (lend := []) (focus := false) (fuel := 0) (give := []) (fn := F.Af) (by kernel_rfl) (by kernel_rfl) (by kernel_rfl) (by kernel_rfl) (cs := []) (by kernel_rfl) aK) (aI fun d K h => (adY d.1 K).trans (adZ d.1 h K))
end Go.Ev.Seat
end
section
namespace Go.Ev.Seat
open Go.RowKit
set_option maxRecDepth 100000
set_option linter.unusedVariables false
set_option linter.unusedSimpArgs false
noncomputable abbrev Xk : List (Nat × Bool × Sm) := [(N.i_in, true, Dt)]
noncomputable abbrev akV : Env := En Xk [] [] [] false 0 []
noncomputable def aas (n : Int) (K : aj → Option aj) : Option aj := K ((.s (.bool ((decide ((0 : Int) ≤ n)) && (decide (n ≤ (1000 : Int)))))), [])
theorem akW (n : Int) (K : aj → Option aj) : dL akV true F.KN [.s (.int .i64 n)] K = aas n K := by kernel_rfl
def aat : Sm := bg [.i] (fun d => true) (fun d => (bl (JU d.1), []))
theorem akX (n : Int) (K : aj → Option aj) : aas n K = K (bl (JU n), []) := rfl
theorem afl : aV prog I N.KN true aat := kD (aW (aY qR bn) (l := Xk) (p := []) (ls := []) (lend := []) (focus := false) (fuel := 0) (give := []) (fn := F.KN) (by kernel_rfl) (by kernel_rfl) (by kernel_rfl) (by kernel_rfl) (cs := []) (by kernel_rfl) aK) (aI fun d K h => (akW d.1 K).trans (akX d.1 K))
end Go.Ev.Seat
end
section
namespace Go.Ev.Seat
open Go.RowKit
set_option maxRecDepth 100000
set_option linter.unusedVariables false
set_option linter.unusedSimpArgs false
noncomputable abbrev JC : List (Nat × Bool × Sm) := [(N.i_in, true, Dt)]
noncomputable abbrev Y7 : Env := En JC [] [] [] false 0 []
noncomputable def Dx (e : ay) (K : aj → Option aj) : Option aj := (bif ((decide ((0 : Int) ≤ e.1)) && (decide (e.1 ≤ (400 : Int)))) then (bif ((decide ((0 : Int) ≤ e.2.1)) && (decide (e.2.1 ≤ (400 : Int)))) then K ((.s (.bool (decide ((((List.length e.2.2) : Nat) : Int) ≤ (400 : Int))))), []) else K ((.s (.bool false)), [])) else K ((.s (.bool false)), []))
theorem Y8 (e : ay) (K : aj → Option aj) : dL Y7 true F.uw [.a (aB.cells .no e)] K = Dx e K := by kernel_rfl
def LH : Sm := bg [.a aB] (fun d => true) (fun d => (bl (aZ d.1), []))
theorem Y9 (e : ay) (K : aj → Option aj) : Dx e K = K (bl (aZ e), []) := by
 unfold Dx aZ Nz
 cases (decide (0 ≤ e.1) && decide (e.1 ≤ 400)) <;> cases (decide (0 ≤ e.2.1) && decide (e.2.1 ≤ 400)) <;> rfl
theorem UE : aV prog I N.uw true LH := kD (aW (aY qR bn) (l := JC) (p := []) (ls := []) (lend := []) (focus := false) (fuel := 0) (give := []) (fn := F.uw) (by kernel_rfl) (by kernel_rfl) (by kernel_rfl) (by kernel_rfl) (cs := []) (by kernel_rfl) aK) (aI fun d K h => (Y8 d.1 K).trans (Y9 d.1 K))
end Go.Ev.Seat
end
section
namespace Go.Ev.Seat
open Go.RowKit
set_option maxRecDepth 100000
set_option linter.unusedVariables false
set_option linter.unusedSimpArgs false
noncomputable abbrev JD : List (Nat × Bool × Sm) := [(N.uw, true, LH)]
noncomputable abbrev Za : Env := En JD [] [] [] false 0 []
noncomputable def LJ (e : ay) (K : aj → Option aj) : Option aj := K ((.s (.bool (!(aZ e)))), [])
theorem Zb (e : ay) (K : aj → Option aj) : dL Za true F.jg [.a (aB.cells .no e)] K = LJ e K := by kernel_rfl
def LK : Sm := bg [.a aB] (fun d => true) (fun d => (bl (!(aZ d.1)), []))
theorem Zc (e : ay) (K : aj → Option aj) : LJ e K = K (bl (!(aZ e)), []) := rfl
theorem UF : aV prog I N.jg true LK := kD (aW (aY UE bn) (l := JD) (p := []) (ls := []) (lend := []) (focus := false) (fuel := 0) (give := []) (fn := F.jg) (by kernel_rfl) (by kernel_rfl) (by kernel_rfl) (by kernel_rfl) (cs := []) (by kernel_rfl) aK) (aI fun d K h => (Zb d.1 K).trans (Zc d.1 K))
end Go.Ev.Seat
end
section
namespace Go.Ev.Seat
open Go.RowKit
set_option maxRecDepth 100000
set_option linter.unusedVariables false
set_option linter.unusedSimpArgs false
def iT (x4 : Int) : St := { tm := ([.x, .x, .x, .x, (.s (.int .i64 x4))] ++ List.replicate 14 .x), ob := [], nx := 0, io := [] }
def iU : St := { tm := ([] ++ List.replicate 19 .x), ob := [], nx := 0, io := [] }
def iM : Ss := { tm := (.cons (.l .no aB) (.cons (.f 185 .nil) (.cons (.x) (.cons (.x) (.cons (.x) (.cons (.x) (.cons (.x) (.cons (.int .i64) (.cons (.int .i64) (Fj 10)))))))))), ob := .nil, nx := 0, io := .nil }
def F8 (x0 : List ay) (x7 : Int) (x8 : Int) : iM.T := ((x0, ((), ((), ((), ((), ((), ((), (x7, (x8, xd 10))))))))), (), ())
def fU (x0 : List ay) (x7 : Int) (x8 : Int) : St := { tm := ([(.l .no aB x0), (.f 185 []), .x, .x, .x, .x, .x, (.s (.int .i64 x7)), (.s (.int .i64 x8))] ++ List.replicate 10 .x), ob := [], nx := 0, io := [] }
theorem EY (x0 : List ay) (x7 : Int) (x8 : Int) : iM.mk' (F8 x0 x7 x8) = (fU x0 x7 x8) := by kernel_rfl
def F9 (d : iM.T) (f : (List ay) → Int → Int → Option aj) : Option aj := match d with | ((x0, (_, (_, (_, (_, (_, (_, (x7, (x8, _))))))))), _, _) => f x0 x7 x8
noncomputable def eG (x0 : List ay) (x7 : Int) (x8 : Int) (lC : (List ay) → Int → Int → Option aj) (k0 : Int → Option aj) (k1 : Option aj) : Option aj := (bif (decide (x8 < x7)) then (bif ((decide ((0 : Int) ≤ x8)) && (decide (x8 < (((List.length x0) : Nat) : Int)))) then (bif (!(aZ (List.getD x0 (Int.toNat x8) (aB.dflt)))) then (k0 x8) else (lC x0 x7 (IntKind.wrap .i64 (x8 + (1 : Int))))) else none) else k1)
noncomputable def fV : Nat → (List ay) → Int → Int → (Int → Option aj) → (Option aj) → Option aj
 | 0, _, _, _, _, _ => none
 | m + 1, x0, x7, x8, k0, k1 => eG x0 x7 x8 (fun x0 x7 x8 => (fV m x0 x7 x8 k0 k1)) k0 k1
noncomputable def tC (x0 : List ay) (x7 : Int) (x8 : Int) (k0 : Int → Option aj) (k1 : Option aj) : Option aj := fV (List.length x0 + x7.toNat + x8.toNat + 2) x0 x7 x8 k0 k1
noncomputable def jC : dV := (fun (σ : St) (K : Ex → St → Option aj) => (match iM.un σ with | some d => F9 d (fun x0 x7 x8 => tC x0 x7 x8 (fun x4 => (K .ret (iT x4))) (K (.ext 0) iU)) | none => none))
noncomputable abbrev xZ : List (Nat × Bool × Sm) := [(N.jg, true, LK)]
noncomputable abbrev oN : Env := En xZ [] [(2, [0,1,7,8], [4], jC)] [] false 0 []
noncomputable abbrev ig := rounds (run oN (aS F.bG 2)) [0,1,7,8] [4]
theorem EZ (m : Nat) (x0 : List ay) (x7 : Int) (x8 : Int) (K : Ex → St → Option aj) : ig (m + 1) (fU x0 x7 x8) K = eG x0 x7 x8 (fun x0 x7 x8 => (ig m (fU x0 x7 x8) K)) (fun x4 => (K .ret (iT x4))) (K (.ext 0) iU) := by kernel_rfl
theorem wW (K : Ex → St → Option aj) : ∀ m : Nat, (∀ (x0 : List ay) (x7 : Int) (x8 : Int), ig m (fU x0 x7 x8) K = fV m x0 x7 x8 (fun x4 => (K .ret (iT x4))) (K (.ext 0) iU))
 | 0 => (fun _ _ _ => rfl)
 | m + 1 => (fun x0 x7 x8 => (by rw [EZ, show (fun x0 x7 x8 => (ig m (fU x0 x7 x8) K)) = (fun x0 x7 x8 => (fV m x0 x7 x8 (fun x4 => (K .ret (iT x4))) (K (.ext 0) iU))) from funext fun x0 => funext fun x7 => funext fun x8 => (wW K m) x0 x7 x8]; rfl))
theorem EH : dJ oN (aS F.bG 2) := by
 refine dh (n := 2) (F := jC) (by kernel_rfl) rfl (li := [0,1,7,8]) (lo := [4]) rfl (fun σ K r hr => ?_)
 unfold jC at hr
 split at hr
 ·rename_i d hd
  rw [Ss.dY hd]
  exact ⟨_, ((congrArg (fun z => ig _ z K) (EY _ _ _)).trans ((wW K _) _ _ _)).trans hr⟩
 ·cases hr
noncomputable def oO (l : List ay) (K : aj → Option aj) : Option aj := (tC l (((List.length l) : Nat) : Int) (0 : Int) (fun y0 => K ((.s (.int .i64 y0)), [])) (K ((.s (.int .i64 (-(1 : Int)))), [])))
theorem LM (l : List ay) (K : aj → Option aj) : dL oN true F.bG [.l .no aB l, .f N.jg []] K = oO l K := by kernel_rfl
def zU : Sm := bg [.l aB, .sh (.f N.jg .nil)] (fun d => Nat.ble d.1.length 1048576) (fun d => (.s (.int .i64 (zW (fun x => !(aZ x)) d.1)), []))
theorem LP (l : List ay) (h : (Nat.ble l.length 1048576) = true) (K : aj → Option aj) : oO l K = K (.s (.int .i64 (zW (fun x => !(aZ x)) l)), []) := by
 have hl := Nat.le_of_ble_eq_true h
 unfold oO
 refine Eq.trans (Lh (R := fun m i => fV m l ((l.length : Nat) : Int) i (fun y0 => K ((.s (.int .i64 y0)), [])) (K ((.s (.int .i64 (-(1 : Int)))), []))) (p := fun x => !(aZ x)) (xs := l) (z := (aB).dflt) (kf := fun y0 => K ((.s (.int .i64 y0)), [])) (kt := K ((.s (.int .i64 (-(1 : Int)))), [])) (fun m i hi => by
  show eG l _ ((i : Nat) : Int) _ _ _ = _
  unfold eG
  rw [decide_eq_true (show ((i : Nat) : Int) < ((l.length : Nat) : Int) by omega), decide_eq_true (show (0 : Int) ≤ ((i : Nat) : Int) by omega), Int.toNat_natCast, bW (by omega)]
  rfl) (fun m => by
  show eG l _ ((l.length : Nat) : Int) _ _ _ = _
  unfold eG
  rw [decide_eq_false (show ¬ ((l.length : Nat) : Int) < ((l.length : Nat) : Int) by omega)]; rfl) _ 0 (by omega) (by omega)) ?_
 rw [List.drop_zero]
 unfold zW
 cases l.findIdx? (fun x => !(aZ x)) with
 | none => rfl
 | some j => show K (.s (.int .i64 ((0 + j : Nat) : Int)), []) = _; rw [Nat.zero_add]
theorem I7 : aV prog I N.bG true zU := kD (aW (aY UF bn) (l := xZ) (p := []) (ls := [(2, [0,1,7,8], [4], jC)]) (lend := []) (focus := false) (fuel := 0) (give := []) (fn := F.bG) (by kernel_rfl) (by kernel_rfl) (by kernel_rfl) (by kernel_rfl) (cs := [aS F.bG 2]) (by kernel_rfl) (dA EH aK)) (aI fun d K h => (LM d.1 K).trans (LP d.1 h K))
end Go.Ev.Seat
end
section
namespace Go.Ev.Seat
open Go.RowKit
set_option maxRecDepth 100000
set_option linter.unusedVariables false
set_option linter.unusedSimpArgs false
noncomputable abbrev tH : List (Nat × Bool × Sm) := [(N.bG, true, zU)]
noncomputable abbrev Ik : Env := En tH [] [] [] false 0 []
noncomputable def lN (l : List ay) (K : aj → Option aj) : Option aj := (bif (Nat.ble (List.length l) 1048576) then K ((.s (.bool (decide ((zW (fun x => (!(aZ x))) l) ≥ (0 : Int))))), []) else none)
theorem Il (l : List ay) (K : aj → Option aj) : dL Ik true F.dD [.l .no aB l, .f N.jg []] K = lN l K := by kernel_rfl
def uZ : Sm := bg [.l aB, .sh (.f N.jg .nil)] (fun d => Nat.ble d.1.length 1048576) (fun d => (bl (d.1.any (fun x => !(aZ x))), []))
theorem Io (l : List ay) (h : (Nat.ble l.length 1048576) = true) (K : aj → Option aj) : lN l K = K (bl (l.any (fun x => !(aZ x))), []) := by
 unfold lN
 first | rw [h] | skip
 rw [← acT]; rfl
theorem E8 : aV prog I N.dD true uZ := kD (aW (aY I7 bn) (l := tH) (p := []) (ls := []) (lend := []) (focus := false) (fuel := 0) (give := []) (fn := F.dD) (by kernel_rfl) (by kernel_rfl) (by kernel_rfl) (by kernel_rfl) (cs := []) (by kernel_rfl) aK) (aI fun d K h => (Il d.1 K).trans (Io d.1 h K))
end Go.Ev.Seat
end
section
namespace Go.Ev.Seat
open Go.RowKit
set_option maxRecDepth 100000
set_option linter.unusedVariables false
set_option linter.unusedSimpArgs false
noncomputable abbrev NU : List (Nat × Bool × Sm) := [(N.dD, true, uZ)]
noncomputable abbrev ad1 : Env := En NU [] [] [] false 0 []
noncomputable def Ip (l : List ay) (K : aj → Option aj) : Option aj := (bif (decide ((((List.length l) : Nat) : Int) ≤ (6 : Int))) then (bif (Nat.ble (List.length l) 1048576) then K ((.s (.bool (!(List.any l (fun x => (!(aZ x))))))), []) else none) else K ((.s (.bool false)), []))
theorem ad2 (l : List ay) (K : aj → Option aj) : dL ad1 true F.Aj [.l .no aB l] K = Ip l K := by kernel_rfl
def Qr : Sm := bg [.l aB] (fun d => Nat.ble d.1.length 1048576) (fun d => (bl (okL d.1), []))
theorem ad3 (l : List ay) (h : (Nat.ble l.length 1048576) = true) (K : aj → Option aj) : Ip l K = K (bl (okL l), []) := by
 unfold Ip okL
 rw [h, List.all_eq_not_any_not]
 cases decide (((l.length : Nat) : Int) ≤ 6) <;> rfl
theorem Zd : aV prog I N.Aj true Qr := kD (aW (aY E8 bn) (l := NU) (p := []) (ls := []) (lend := []) (focus := false) (fuel := 0) (give := []) (fn := F.Aj) (by kernel_rfl) (by kernel_rfl) (by kernel_rfl) (by kernel_rfl) (cs := []) (by kernel_rfl) aK) (aI fun d K h => (ad2 d.1 K).trans (ad3 d.1 h K))
end Go.Ev.Seat
end
section
namespace Go.Ev.Seat
open Go.RowKit
set_option maxRecDepth 100000
set_option linter.unusedVariables false
set_option linter.unusedSimpArgs false
noncomputable abbrev Xl : List (Nat × Bool × Sm) := [(N.Aj, true, Qr)]
noncomputable abbrev akY : Env := En Xl [] [] [] false 0 []
noncomputable def Qs (s : FK) (K : aj → Option aj) : Option aj := (bif (Nat.ble (List.length s.1) 1048576) then (bif (okL s.1) then (bif (Nat.ble (List.length s.2) 1048576) then K ((.s (.bool (okL s.2))), []) else none) else K ((.s (.bool false)), [])) else none)
theorem akZ (s : FK) (K : aj → Option aj) : dL akY true F.KR [.a (gU.cells .no s)] K = Qs s K := by kernel_rfl
def aau : Sm := bg [.a gU] (fun d => Nat.ble d.1.1.length 1048576 && Nat.ble d.1.2.length 1048576) (fun d => (bl (jH d.1), []))
theorem ak0 (s : FK) (h : (Nat.ble s.1.length 1048576 && Nat.ble s.2.length 1048576) = true) (K : aj → Option aj) : Qs s K = K (bl (jH s), []) := by
 obtain ⟨h1, h2⟩ := (Bool.and_eq_true _ _).mp h
 unfold Qs jH
 rw [h1, h2]
 cases okL s.1 <;> rfl
theorem afm : aV prog I N.KR true aau := kD (aW (aY Zd bn) (l := Xl) (p := []) (ls := []) (lend := []) (focus := false) (fuel := 0) (give := []) (fn := F.KR) (by kernel_rfl) (by kernel_rfl) (by kernel_rfl) (by kernel_rfl) (cs := []) (by kernel_rfl) aK) (aI fun d K h => (akZ d.1 K).trans (ak0 d.1 h K))
end Go.Ev.Seat
end
section
namespace Go.Proofs
open Go.Shelf
def Tryz.growEdit_ren : Go.Shelf.Ren := ⟨fun | 4 => 175 | n => n, fun | 22 => 75 | 25 => 52 | 3 => 3 | 4 => 4 | 9 => 9 | 20 => 20 | 0 => 0 | n => n, fun | n => n⟩
theorem Tryz.growEdit : Go.Proofs.Lays8.n4 Tryz.prog Tryz.growEdit_ren := {
 mixed := by kernel_rfl
 f4 := ⟨Tryz.f175.name, by decide, Tryz.func175.trans (congrArg some (by kernel_rfl))⟩
 t0 := Tryz.underlying0
 a0 := Tryz.isAgg0
 z0 := Tryz.sizeOf0
 v0 := Tryz.zeroValue0
 t3 := Tryz.underlying3
 a3 := Tryz.isAgg3
 z3 := Tryz.sizeOf3
 v3 := Tryz.zeroValue3
 t4 := Tryz.underlying4
 a4 := Tryz.isAgg4
 z4 := Tryz.sizeOf4
 v4 := Tryz.zeroValue4
 t9 := Tryz.underlying9
 a9 := Tryz.isAgg9
 z9 := Tryz.sizeOf9
 v9 := Tryz.zeroValue9
 t20 := Tryz.underlying20
 a20 := Tryz.isAgg20
 z20 := Tryz.sizeOf20
 v20 := Tryz.zeroValue20
 t22 := Tryz.underlying75
 a22 := Tryz.isAgg75
 z22 := Tryz.sizeOf75
 v22 := Tryz.zeroValue75 }
end Go.Proofs
namespace Go.Ev.Seat
open Go.RowKit
set_option maxRecDepth 100000
theorem Qu : aV prog I N.nZ true (Ri aB) := by
 refine anM (i0 := (prog.info? 52).getD default) (z := .agg #[.int .i64 0, .int .i64 0, .slice none 0 0]) Go.Proofs.Tryz.growEdit (aW (l := []) (p := []) (ls := []) (lend := []) (focus := false) (fuel := 0) (give := []) (Rj := []) (fresh := true) bn (g := N.nZ) (fn := F.nZ) (by kernel_rfl) (by kernel_rfl) (by kernel_rfl) (by kernel_rfl) (cs := []) (by kernel_rfl) aK).1 (by kernel_rfl) (by kernel_rfl) (Nat.le_of_ble_eq_true (by kernel_rfl)) (Nat.le_of_ble_eq_true (by kernel_rfl)) rfl
end Go.Ev.Seat
end
section
namespace Go.Ev.Seat
open Go.RowKit
set_option maxRecDepth 100000
set_option linter.unusedVariables false
set_option linter.unusedSimpArgs false
def jS (x0 : List (List ay)) (x3 : Int) : St := { tm := ([(.l .no (.one (.sl aB)) x0), .x, .x, (.s (.int .i64 x3))] ++ List.replicate 32 .x), ob := [], nx := 0, io := [] }
def jD : Ss := { tm := (.cons (.l .no (.one (.sl aB))) (.cons (.x) (.cons (.x) (.cons (.int .i64) (.cons (.x) (.cons (.x) (.cons (.x) (.cons (.x) (.cons (.x) (.cons (.l .no (.one (.sl aB))) (.cons (.int .i64) (.cons (.int .i64) (Fj 24))))))))))))), ob := .nil, nx := 0, io := .nil }
def J9 (x0 : List (List ay)) (x3 : Int) (x9 : List (List ay)) (x10 : Int) (x11 : Int) : jD.T := ((x0, ((), ((), (x3, ((), ((), ((), ((), ((), (x9, (x10, (x11, xd 24)))))))))))), (), ())
def iJ (x0 : List (List ay)) (x3 : Int) (x9 : List (List ay)) (x10 : Int) (x11 : Int) : St := { tm := ([(.l .no (.one (.sl aB)) x0), .x, .x, (.s (.int .i64 x3)), .x, .x, .x, .x, .x, (.l .no (.one (.sl aB)) x9), (.s (.int .i64 x10)), (.s (.int .i64 x11))] ++ List.replicate 24 .x), ob := [], nx := 0, io := [] }
theorem I8 (x0 : List (List ay)) (x3 : Int) (x9 : List (List ay)) (x10 : Int) (x11 : Int) : jD.mk' (J9 x0 x3 x9 x10 x11) = (iJ x0 x3 x9 x10 x11) := by kernel_rfl
def Ko (d : jD.T) (f : (List (List ay)) → Int → (List (List ay)) → Int → Int → Option aj) : Option aj := match d with | ((x0, (_, (_, (x3, (_, (_, (_, (_, (_, (x9, (x10, (x11, _)))))))))))), _, _) => f x0 x3 x9 x10 x11
noncomputable def jT (x0 : List (List ay)) (x3 : Int) (x9 : List (List ay)) (x10 : Int) (x11 : Int) (lC : (List (List ay)) → Int → (List (List ay)) → Int → Int → Option aj) (k0 : (List (List ay)) → Int → Option aj) : Option aj := (bif (decide (x11 < x10)) then (bif ((decide ((0 : Int) ≤ x11)) && (decide (x11 < (((List.length x9) : Nat) : Int)))) then (bif (decide ((IntKind.wrap .i64 (x3 + (((List.length (List.getD x9 (Int.toNat x11) [])) : Nat) : Int))) < (0 : Int))) then none else (lC x0 (IntKind.wrap .i64 (x3 + (((List.length (List.getD x9 (Int.toNat x11) [])) : Nat) : Int))) x9 x10 (IntKind.wrap .i64 (x11 + (1 : Int))))) else none) else (k0 x0 x3))
noncomputable def iK : Nat → (List (List ay)) → Int → (List (List ay)) → Int → Int → ((List (List ay)) → Int → Option aj) → Option aj
 | 0, _, _, _, _, _, _ => none
 | m + 1, x0, x3, x9, x10, x11, k0 => jT x0 x3 x9 x10 x11 (fun x0 x3 x9 x10 x11 => (iK m x0 x3 x9 x10 x11 k0)) k0
noncomputable def yc (x0 : List (List ay)) (x3 : Int) (x9 : List (List ay)) (x10 : Int) (x11 : Int) (k0 : (List (List ay)) → Int → Option aj) : Option aj := iK (List.length x0 + x3.toNat + List.length x9 + x10.toNat + x11.toNat + 2) x0 x3 x9 x10 x11 k0
noncomputable def kW : dV := (fun (σ : St) (K : Ex → St → Option aj) => (match jD.un σ with | some d => Ko d (fun x0 x3 x9 x10 x11 => yc x0 x3 x9 x10 x11 (fun x0 x3 => (K (.ext 0) (jS x0 x3)))) | none => none))
def bU (o0 : List ay) : St := { tm := ([.x, .x, .x, .x, .x, .x, (.w 0)] ++ List.replicate 29 .x), ob := [(0, (.arr true true aB o0))], nx := 1, io := [] }
def bV (o0 : List ay) : St := { tm := ([.x, .x, .x, .x, .x, .x, (.w 0)] ++ List.replicate 29 .x), ob := [(0, (.arr true false aB o0))], nx := 1, io := [] }
def jm : Ss := { tm := (.cons (.x) (.cons (.x) (.cons (.x) (.cons (.x) (.cons (.x) (.cons (.x) (.cons (.w 0) (.cons (.x) (.cons (.x) (.cons (.x) (.cons (.x) (.cons (.x) (.cons (.x) (.cons (.x) (.cons (.x) (.cons (.x) (.cons (.x) (.cons (.x) (.cons (.x) (.cons (.x) (.cons (.x) (.cons (.x) (.cons (.x) (.cons (.x) (.cons (.x) (.cons (.l .no (.one (.sl aB))) (.cons (.int .i64) (.cons (.int .i64) (Fj 8))))))))))))))))))))))))))))), ob := (.arr true true aB .nil), nx := 1, io := .nil }
def I9 (x25 : List (List ay)) (jA : Int) (x27 : Int) (o0 : List ay) : jm.T := (((), ((), ((), ((), ((), ((), ((), ((), ((), ((), ((), ((), ((), ((), ((), ((), ((), ((), ((), ((), ((), ((), ((), ((), ((), (x25, (jA, (x27, xd 8)))))))))))))))))))))))))))), (o0, ()), ())
def dS (x25 : List (List ay)) (jA : Int) (x27 : Int) (o0 : List ay) : St := { tm := ([.x, .x, .x, .x, .x, .x, (.w 0), .x, .x, .x, .x, .x, .x, .x, .x, .x, .x, .x, .x, .x, .x, .x, .x, .x, .x, (.l .no (.one (.sl aB)) x25), (.s (.int .i64 jA)), (.s (.int .i64 x27))] ++ List.replicate 8 .x), ob := [(0, (.arr true true aB o0))], nx := 1, io := [] }
theorem Iq (x25 : List (List ay)) (jA : Int) (x27 : Int) (o0 : List ay) : jm.mk' (I9 x25 jA x27 o0) = (dS x25 jA x27 o0) := by kernel_rfl
def Ja (d : jm.T) (f : (List (List ay)) → Int → Int → (List ay) → Option aj) : Option aj := match d with | ((_, (_, (_, (_, (_, (_, (_, (_, (_, (_, (_, (_, (_, (_, (_, (_, (_, (_, (_, (_, (_, (_, (_, (_, (_, (x25, (jA, (x27, _)))))))))))))))))))))))))))), (o0, _), _) => f x25 jA x27 o0
noncomputable def jE (x25 : List (List ay)) (jA : Int) (x27 : Int) (o0 : List ay) (lC : (List (List ay)) → Int → Int → (List ay) → Option aj) (nx1 : (List (List ay)) → Int → Int → (List ay) → Option aj) (k0 : (List ay) → Option aj) (k1 : (List ay) → Option aj) : Option aj := (bif (decide (x27 < jA)) then (bif ((decide ((0 : Int) ≤ x27)) && (decide (x27 < (((List.length x25) : Nat) : Int)))) then (bif (Nat.ble (((List.length o0) + (List.length (List.getD x25 (Int.toNat x27) []))) * 40) 140737488355328) then (nx1 x25 jA (IntKind.wrap .i64 (x27 + (1 : Int))) (o0 ++ (List.getD x25 (Int.toNat x27) []))) else none) else none) else (k0 o0))
def jo : Ss := { tm := (.cons (.x) (.cons (.x) (.cons (.x) (.cons (.x) (.cons (.x) (.cons (.x) (.cons (.w 0) (.cons (.x) (.cons (.x) (.cons (.x) (.cons (.x) (.cons (.x) (.cons (.x) (.cons (.x) (.cons (.x) (.cons (.x) (.cons (.x) (.cons (.x) (.cons (.x) (.cons (.x) (.cons (.x) (.cons (.x) (.cons (.x) (.cons (.x) (.cons (.x) (.cons (.l .no (.one (.sl aB))) (.cons (.int .i64) (.cons (.int .i64) (Fj 8))))))))))))))))))))))))))))), ob := (.arr true false aB .nil), nx := 1, io := .nil }
def Jb (x25 : List (List ay)) (jA : Int) (x27 : Int) (o0 : List ay) : jo.T := (((), ((), ((), ((), ((), ((), ((), ((), ((), ((), ((), ((), ((), ((), ((), ((), ((), ((), ((), ((), ((), ((), ((), ((), ((), (x25, (jA, (x27, xd 8)))))))))))))))))))))))))))), (o0, ()), ())
def dU (x25 : List (List ay)) (jA : Int) (x27 : Int) (o0 : List ay) : St := { tm := ([.x, .x, .x, .x, .x, .x, (.w 0), .x, .x, .x, .x, .x, .x, .x, .x, .x, .x, .x, .x, .x, .x, .x, .x, .x, .x, (.l .no (.one (.sl aB)) x25), (.s (.int .i64 jA)), (.s (.int .i64 x27))] ++ List.replicate 8 .x), ob := [(0, (.arr true false aB o0))], nx := 1, io := [] }
theorem Ir (x25 : List (List ay)) (jA : Int) (x27 : Int) (o0 : List ay) : jo.mk' (Jb x25 jA x27 o0) = (dU x25 jA x27 o0) := by kernel_rfl
def Jc (d : jo.T) (f : (List (List ay)) → Int → Int → (List ay) → Option aj) : Option aj := match d with | ((_, (_, (_, (_, (_, (_, (_, (_, (_, (_, (_, (_, (_, (_, (_, (_, (_, (_, (_, (_, (_, (_, (_, (_, (_, (x25, (jA, (x27, _)))))))))))))))))))))))))))), (o0, _), _) => f x25 jA x27 o0
noncomputable def jF (x25 : List (List ay)) (jA : Int) (x27 : Int) (o0 : List ay) (lC : (List (List ay)) → Int → Int → (List ay) → Option aj) (nx1 : (List (List ay)) → Int → Int → (List ay) → Option aj) (k0 : (List ay) → Option aj) (k1 : (List ay) → Option aj) : Option aj := (bif (decide (x27 < jA)) then (bif ((decide ((0 : Int) ≤ x27)) && (decide (x27 < (((List.length x25) : Nat) : Int)))) then (bif (Nat.ble (((List.length o0) + (List.length (List.getD x25 (Int.toNat x27) []))) * 40) 140737488355328) then (nx1 x25 jA (IntKind.wrap .i64 (x27 + (1 : Int))) (o0 ++ (List.getD x25 (Int.toNat x27) []))) else none) else none) else (k1 o0))
mutual
noncomputable def dG : Nat → (List (List ay)) → Int → Int → (List ay) → ((List ay) → Option aj) → ((List ay) → Option aj) → Option aj
 | 0, _, _, _, _, _, _ => none
 | m + 1, x25, jA, x27, o0, k0, k1 => jE x25 jA x27 o0 (fun x25 jA x27 o0 => (dG m x25 jA x27 o0 k0 k1)) (fun x25 jA x27 o0 => (dH m x25 jA x27 o0 k0 k1)) k0 k1
noncomputable def dH : Nat → (List (List ay)) → Int → Int → (List ay) → ((List ay) → Option aj) → ((List ay) → Option aj) → Option aj
 | 0, _, _, _, _, _, _ => none
 | m + 1, x25, jA, x27, o0, k0, k1 => jF x25 jA x27 o0 (fun x25 jA x27 o0 => (dG m x25 jA x27 o0 k0 k1)) (fun x25 jA x27 o0 => (dH m x25 jA x27 o0 k0 k1)) k0 k1
end
noncomputable def mD (x25 : List (List ay)) (jA : Int) (x27 : Int) (o0 : List ay) (k0 : (List ay) → Option aj) (k1 : (List ay) → Option aj) : Option aj := dG (List.length x25 + jA.toNat + x27.toNat + List.length o0 + 2) x25 jA x27 o0 k0 k1
noncomputable def Jd (x25 : List (List ay)) (jA : Int) (x27 : Int) (o0 : List ay) (k0 : (List ay) → Option aj) (k1 : (List ay) → Option aj) : Option aj := dH (List.length x25 + jA.toNat + x27.toNat + List.length o0 + 2) x25 jA x27 o0 k0 k1
noncomputable def kK : dV := (fun (σ : St) (K : Ex → St → Option aj) => (match jm.un σ with | some d => Ja d (fun x25 jA x27 o0 => mD x25 jA x27 o0 (fun o0 => (K (.ext 2) (bU o0))) (fun o0 => (K (.ext 2) (bV o0)))) | none => (match jo.un σ with | some d => Jc d (fun x25 jA x27 o0 => Jd x25 jA x27 o0 (fun o0 => (K (.ext 2) (bU o0))) (fun o0 => (K (.ext 2) (bV o0)))) | none => none)))
noncomputable abbrev CX : List (Nat × Bool × Sm) := [(N.nZ, true, Ri aB)]
noncomputable abbrev ku : Env := En CX [] [(3, [0,3,9,10,11], [0,2,3], kW), (11, [6,25,26,27], [2,6], kK)] [] false 0 []
noncomputable abbrev jq := rounds (run ku (aS F.dM 3)) [0,3,9,10,11] [0,2,3]
theorem Je (m : Nat) (x0 : List (List ay)) (x3 : Int) (x9 : List (List ay)) (x10 : Int) (x11 : Int) (K : Ex → St → Option aj) : jq (m + 1) (iJ x0 x3 x9 x10 x11) K = jT x0 x3 x9 x10 x11 (fun x0 x3 x9 x10 x11 => (jq m (iJ x0 x3 x9 x10 x11) K)) (fun x0 x3 => (K (.ext 0) (jS x0 x3))) := by kernel_rfl
theorem BI (K : Ex → St → Option aj) : ∀ m : Nat, (∀ (x0 : List (List ay)) (x3 : Int) (x9 : List (List ay)) (x10 : Int) (x11 : Int), jq m (iJ x0 x3 x9 x10 x11) K = iK m x0 x3 x9 x10 x11 (fun x0 x3 => (K (.ext 0) (jS x0 x3))))
 | 0 => (fun _ _ _ _ _ => rfl)
 | m + 1 => (fun x0 x3 x9 x10 x11 => (by rw [Je, show (fun x0 x3 x9 x10 x11 => (jq m (iJ x0 x3 x9 x10 x11) K)) = (fun x0 x3 x9 x10 x11 => (iK m x0 x3 x9 x10 x11 (fun x0 x3 => (K (.ext 0) (jS x0 x3))))) from funext fun x0 => funext fun x3 => funext fun x9 => funext fun x10 => funext fun x11 => (BI K m) x0 x3 x9 x10 x11]; rfl))
theorem Iu : dJ ku (aS F.dM 3) := by
 refine dh (n := 3) (F := kW) (by kernel_rfl) rfl (li := [0,3,9,10,11]) (lo := [0,2,3]) rfl (fun σ K r hr => ?_)
 unfold kW at hr
 split at hr
 ·rename_i d hd
  rw [Ss.dY hd]
  exact ⟨_, ((congrArg (fun z => jq _ z K) (I8 _ _ _ _ _)).trans ((BI K _) _ _ _ _ _)).trans hr⟩
 ·cases hr
noncomputable abbrev bC := rounds (run ku (aS F.dM 11)) [6,25,26,27] [2,6]
theorem Iw (m : Nat) (x25 : List (List ay)) (jA : Int) (x27 : Int) (o0 : List ay) (K : Ex → St → Option aj) : bC (m + 1) (dS x25 jA x27 o0) K = jE x25 jA x27 o0 (fun x25 jA x27 o0 => (bC m (dS x25 jA x27 o0) K)) (fun x25 jA x27 o0 => (bC m (dU x25 jA x27 o0) K)) (fun o0 => (K (.ext 2) (bU o0))) (fun o0 => (K (.ext 2) (bV o0))) := by kernel_rfl
theorem Iy (m : Nat) (x25 : List (List ay)) (jA : Int) (x27 : Int) (o0 : List ay) (K : Ex → St → Option aj) : bC (m + 1) (dU x25 jA x27 o0) K = jF x25 jA x27 o0 (fun x25 jA x27 o0 => (bC m (dS x25 jA x27 o0) K)) (fun x25 jA x27 o0 => (bC m (dU x25 jA x27 o0) K)) (fun o0 => (K (.ext 2) (bU o0))) (fun o0 => (K (.ext 2) (bV o0))) := by kernel_rfl
theorem gu (K : Ex → St → Option aj) : ∀ m : Nat, (∀ (x25 : List (List ay)) (jA : Int) (x27 : Int) (o0 : List ay), bC m (dS x25 jA x27 o0) K = dG m x25 jA x27 o0 (fun o0 => (K (.ext 2) (bU o0))) (fun o0 => (K (.ext 2) (bV o0)))) ∧ (∀ (x25 : List (List ay)) (jA : Int) (x27 : Int) (o0 : List ay), bC m (dU x25 jA x27 o0) K = dH m x25 jA x27 o0 (fun o0 => (K (.ext 2) (bU o0))) (fun o0 => (K (.ext 2) (bV o0))))
 | 0 => ⟨(fun _ _ _ _ => rfl), (fun _ _ _ _ => rfl)⟩
 | m + 1 => ⟨(fun x25 jA x27 o0 => (by rw [Iw, show (fun x25 jA x27 o0 => (bC m (dS x25 jA x27 o0) K)) = (fun x25 jA x27 o0 => (dG m x25 jA x27 o0 (fun o0 => (K (.ext 2) (bU o0))) (fun o0 => (K (.ext 2) (bV o0))))) from funext fun x25 => funext fun jA => funext fun x27 => funext fun o0 => (gu K m).1 x25 jA x27 o0, show (fun x25 jA x27 o0 => (bC m (dU x25 jA x27 o0) K)) = (fun x25 jA x27 o0 => (dH m x25 jA x27 o0 (fun o0 => (K (.ext 2) (bU o0))) (fun o0 => (K (.ext 2) (bV o0))))) from funext fun x25 => funext fun jA => funext fun x27 => funext fun o0 => (gu K m).2 x25 jA x27 o0]; rfl)), (fun x25 jA x27 o0 => (by rw [Iy, show (fun x25 jA x27 o0 => (bC m (dS x25 jA x27 o0) K)) = (fun x25 jA x27 o0 => (dG m x25 jA x27 o0 (fun o0 => (K (.ext 2) (bU o0))) (fun o0 => (K (.ext 2) (bV o0))))) from funext fun x25 => funext fun jA => funext fun x27 => funext fun o0 => (gu K m).1 x25 jA x27 o0, show (fun x25 jA x27 o0 => (bC m (dU x25 jA x27 o0) K)) = (fun x25 jA x27 o0 => (dH m x25 jA x27 o0 (fun o0 => (K (.ext 2) (bU o0))) (fun o0 => (K (.ext 2) (bV o0))))) from funext fun x25 => funext fun jA => funext fun x27 => funext fun o0 => (gu K m).2 x25 jA x27 o0]; rfl))⟩
theorem Gf : dJ ku (aS F.dM 11) := by
 refine dh (n := 11) (F := kK) (by kernel_rfl) rfl (li := [6,25,26,27]) (lo := [2,6]) rfl (fun σ K r hr => ?_)
 unfold kK at hr
 split at hr
 ·rename_i d hd
  rw [Ss.dY hd]
  exact ⟨_, ((congrArg (fun z => bC _ z K) (Iq _ _ _ _)).trans ((gu K _).1 _ _ _ _)).trans hr⟩
 ·split at hr
  ·rename_i d hd
   rw [Ss.dY hd]
   exact ⟨_, ((congrArg (fun z => bC _ z K) (Ir _ _ _ _)).trans ((gu K _).2 _ _ _ _)).trans hr⟩
  ·cases hr
noncomputable def vg (l : List (List ay)) (K : aj → Option aj) : Option aj := (yc l (0 : Int) l (((List.length l) : Nat) : Int) (0 : Int) (fun y0 y1 => (bif ((decide ((0 : Int) ≤ y1)) && (decide (y1 ≤ (1099511627776 : Int)))) then (mD y0 (((List.length y0) : Nat) : Int) (0 : Int) [] (fun y2 => K ((.l .deep aB y2), [])) (fun y3 => K ((.l .top aB y3), []))) else none)))
theorem Qv (l : List (List ay)) (K : aj → Option aj) : dL ku false F.dM [.l .no (.one (.sl aB)) l] K = vg l K := by kernel_rfl
def EI : Sm := bg [.l (.one (.sl aB))] (fun d => Nat.ble 1 d.1.length && Nat.ble d.1.length 1048576 && Nat.ble (sumW List.length d.1) 1048576) (fun d => (.l .top aB d.1.flatten, []))
theorem Qw (l : List (List ay)) (h : (Nat.ble 1 l.length && Nat.ble l.length 1048576 && Nat.ble (sumW List.length l) 1048576) = true) (K : aj → Option aj) : vg l K = K (.l .top aB l.flatten, []) := by
 simp only [Bool.and_eq_true] at h
 have h1 := Nat.le_of_ble_eq_true h.1.1
 have h2 := Nat.le_of_ble_eq_true h.1.2
 have h3 := Nat.le_of_ble_eq_true h.2
 unfold vg
 have q3 : ∀ (k : List (List ay) → Int → Option aj) (m i : Nat), i ≤ l.length → l.length - i < m → iK m l ((sumW List.length (l.take i) : Nat) : Int) l ((l.length : Nat) : Int) ((i : Nat) : Int) k = k l ((sumW List.length l : Nat) : Int) := by
  intro k m
  induction m with
  | zero => intro i _ hm; omega
  | succ m ih =>
   intro i hi hm
   show jT l _ l _ ((i : Nat) : Int) _ _ = _
   unfold jT
   by_cases hlt : i < l.length
   ·have hs : sumW List.length (List.take (i + 1) l) = sumW List.length (List.take i l) + List.length (l.getD i []) := KZ (g := List.length) (z := []) hlt
    have hle : sumW List.length (l.take (i + 1)) ≤ sumW List.length l := Am
    have e0 : ∀ (z : List ay), l.getD i z = l.getD i [] := fun z => (getD_lt z hlt).trans (getD_lt [] hlt).symm
    rw [decide_eq_true (show ((i : Nat) : Int) < ((l.length : Nat) : Int) by omega), decide_eq_true (show (0 : Int) ≤ ((i : Nat) : Int) by omega), Int.toNat_natCast, bW (by omega), e0, wrap_in (n := ((sumW List.length (List.take i l) : Nat) : Int) + (((l.getD i []).length : Nat) : Int)) (by omega) (by omega), decide_eq_false (show ¬ ((sumW List.length (List.take i l) : Nat) : Int) + (((l.getD i []).length : Nat) : Int) < 0 by omega)]
    have := ih (i + 1) (by omega) (by omega)
    rw [hs, Int.natCast_add] at this
    exact this
   ·obtain rfl : i = l.length := by omega
    rw [decide_eq_false (show ¬ ((l.length : Nat) : Int) < ((l.length : Nat) : Int) by omega), List.take_length]; rfl
 have q11 : ∀ (k0 k1 : List ay → Option aj) (m i : Nat), i ≤ l.length → l.length - i < m → dH m l ((l.length : Nat) : Int) ((i : Nat) : Int) (l.take i).flatten k0 k1 = k1 l.flatten := by
  intro k0 k1 m
  induction m with
  | zero => intro i _ hm; omega
  | succ m ih =>
   intro i hi hm
   show jF l _ ((i : Nat) : Int) _ _ _ _ _ = _
   unfold jF
   by_cases hlt : i < l.length
   ·have hs : sumW List.length (List.take (i + 1) l) = sumW List.length (List.take i l) + List.length (l.getD i []) := KZ (g := List.length) (z := []) hlt
    have hle : sumW List.length (l.take (i + 1)) ≤ sumW List.length l := Am
    have hfl := VE (l.take i)
    have e0 : ∀ (z : List ay), l.getD i z = l.getD i [] := fun z => (getD_lt z hlt).trans (getD_lt [] hlt).symm
    have hf2 : (l.take (i + 1)).flatten = (l.take i).flatten ++ l.getD i [] := MG hlt
    rw [decide_eq_true (show ((i : Nat) : Int) < ((l.length : Nat) : Int) by omega), decide_eq_true (show (0 : Int) ≤ ((i : Nat) : Int) by omega), Int.toNat_natCast, bW (by omega), e0, Nat.ble_eq_true_of_le (by omega), ← hf2]
    exact ih (i + 1) (by omega) (by omega)
   ·obtain rfl : i = l.length := by omega
    rw [decide_eq_false (show ¬ ((l.length : Nat) : Int) < ((l.length : Nat) : Int) by omega), List.take_length]; rfl
 have e3 := q3 (fun y0 y1 => (bif ((decide ((0 : Int) ≤ y1)) && (decide (y1 ≤ (1099511627776 : Int)))) then (mD y0 (((List.length y0) : Nat) : Int) (0 : Int) [] (fun y2 => K ((.l .deep aB y2), [])) (fun y3 => K ((.l .top aB y3), []))) else none)) (List.length l + (0 : Int).toNat + List.length l + (((List.length l) : Nat) : Int).toNat + (0 : Int).toNat + 2) 0 (by omega) (by omega)
 refine e3.trans ?_
 rw [decide_eq_true (show (0 : Int) ≤ ((sumW List.length l : Nat) : Int) by omega), decide_eq_true (show ((sumW List.length l : Nat) : Int) ≤ 1099511627776 by omega)]
 have hq : ∀ (m : Nat) (k0 k1 : List ay → Option aj), dG (m + 1) l ((l.length : Nat) : Int) 0 [] k0 k1 = jE l ((l.length : Nat) : Int) 0 [] (fun a b c d => dG m a b c d k0 k1) (fun a b c d => dH m a b c d k0 k1) k0 k1 := fun _ _ _ => rfl
 refine (hq (List.length l + (((List.length l) : Nat) : Int).toNat + (0 : Int).toNat + List.length ([] : List ay) + 1) _ _).trans ?_
 unfold jE
 have e0 : ∀ (z : List ay), l.getD 0 z = l.getD 0 [] := fun z => (getD_lt z (by omega)).trans (getD_lt [] (by omega)).symm
 have hs : sumW List.length (List.take (0 + 1) l) = sumW List.length (List.take 0 l) + List.length (l.getD 0 []) := KZ (g := List.length) (z := []) (by omega)
 have hle : sumW List.length (l.take (0 + 1)) ≤ sumW List.length l := Am
 have hf2 : (l.take (0 + 1)).flatten = (l.take 0).flatten ++ l.getD 0 [] := MG (by omega)
 rw [decide_eq_true (show (0 : Int) < ((l.length : Nat) : Int) by omega), show Int.toNat 0 = 0 from rfl, e0, Nat.ble_eq_true_of_le (by simp only [List.length_nil]; omega)]
 have := q11 (fun y2 => K ((.l .deep aB y2), [])) (fun y3 => K ((.l .top aB y3), [])) (List.length l + (((List.length l) : Nat) : Int).toNat + (0 : Int).toNat + List.length ([] : List ay) + 1) 1 (by omega) (by omega)
 rw [hf2] at this
 exact this
theorem Nq : aV prog I N.dM false EI := kD (aW (aY Qu bn) (l := CX) (p := []) (ls := [(3, [0,3,9,10,11], [0,2,3], kW), (11, [6,25,26,27], [2,6], kK)]) (lend := []) (focus := false) (fuel := 0) (give := []) (fn := F.dM) (by kernel_rfl) (by kernel_rfl) (by kernel_rfl) (by kernel_rfl) (cs := [aS F.dM 3, aS F.dM 11]) (by kernel_rfl) (dA Iu (dA Gf aK))) (aI fun d K h => (Qv d.1 K).trans (Qw d.1 h K))
end Go.Ev.Seat
end
section
namespace Go.Ev.Seat
open Go.RowKit
set_option maxRecDepth 100000
set_option linter.unusedVariables false
set_option linter.unusedSimpArgs false
noncomputable abbrev Qx : List (Nat × Bool × Sm) := [(N.Jl, true, LG), (N.i_in, true, Dt), (N.Ae, true, Dq)]
noncomputable abbrev afn : Env := En Qx [] [] [] false 0 []
noncomputable def Kq (e : ay) (t : List Int) (K : aj → Option aj) : Option aj := (bif (aO t) then (bif (bY t e.1) then (bif ((decide ((0 : Int) ≤ e.2.1)) && (decide (e.2.1 ≤ (IntKind.wrap .i64 ((((List.length t) : Nat) : Int) - e.1))))) then (bif (aO t) then (bif (bY t (IntKind.wrap .i64 (e.1 + e.2.1))) then (bif (aO e.2.2) then K ((.s (.bool (aT e.2.2))), []) else none) else K ((.s (.bool false)), [])) else none) else K ((.s (.bool false)), [])) else K ((.s (.bool false)), [])) else none)
theorem afo (e : ay) (t : List Int) (K : aj → Option aj) : dL afn true F.zL [.a (aB.cells .no e), .l .no ah t] K = Kq e t K := by kernel_rfl
def Kr : Sm := bg [.a aB, .l ah] (fun d => aO d.2.1 && aO d.1.2.2) (fun d => (bl (fE d.2.1 d.1), []))
theorem afp (e : ay) (t : List Int) (h : (aO t && aO e.2.2) = true) (K : aj → Option aj) : Kq e t K = K (bl (fE t e), []) := by
 obtain ⟨h1, h2⟩ := (Bool.and_eq_true _ _).mp h
 have hl := jW h1
 unfold Kq fE
 rw [h1, h2]
 cases ha : bY t e.1 with
 | false => rfl
 | true =>
  have r1 := eU ha
  by_cases c0 : 0 ≤ e.2.1
  case neg => rw [decide_eq_false c0]; rfl
  rw [decide_eq_true c0, wrap_in (n := ((t.length : Nat) : Int) - e.1) (by omega) (by omega)]
  by_cases c1 : e.2.1 ≤ ((t.length : Nat) : Int) - e.1
  case neg => rw [decide_eq_false c1]; rfl
  rw [decide_eq_true c1, wrap_in (n := e.1 + e.2.1) (by omega) (by omega)]
  cases bY t (e.1 + e.2.1) <;> rfl
theorem NV : aV prog I N.zL true Kr := kD (aW (aY JB (aY qR (aY BH bn))) (l := Qx) (p := []) (ls := []) (lend := []) (focus := false) (fuel := 0) (give := []) (fn := F.zL) (by kernel_rfl) (by kernel_rfl) (by kernel_rfl) (by kernel_rfl) (cs := []) (by kernel_rfl) aK) (aI fun d K h => (afo d.1 d.2.1 K).trans (afp d.1 d.2.1 h K))
end Go.Ev.Seat
end
section
namespace Go.Ev.Seat
open Go.RowKit
set_option maxRecDepth 100000
set_option linter.unusedVariables false
set_option linter.unusedSimpArgs false
noncomputable abbrev JE : List (Nat × Bool × Sm) := [(N.zL, true, Kr)]
noncomputable abbrev Ze : Env := En JE [] [] [] false 0 []
noncomputable def Dy (e : ay) (t : List Int) (K : aj → Option aj) : Option aj := (bif ((aO t) && (aO e.2.2)) then K ((.s (.bool (!(fE t e)))), []) else none)
theorem Zf (e : ay) (t : List Int) (K : aj → Option aj) : dL Ze true F.jf [.a (aB.cells .no e), .qb [.l .no ah t] 0] K = Dy e t K := by kernel_rfl
def LQ : Sm := bg [.a aB, .sh (.qb (.cons (.l .no ah) .nil) 0)] (fun d => aO d.2.1.1 && aO d.1.2.2) (fun d => (bl (!(fE d.2.1.1 d.1)), []))
theorem Zg (e : ay) (t : List Int) (h : (aO t && aO e.2.2) = true) (K : aj → Option aj) : Dy e t K = K (bl (!(fE t e)), []) := by
 unfold Dy
 rw [h]; rfl
theorem UG : aV prog I N.jf true LQ := kD (aW (aY NV bn) (l := JE) (p := []) (ls := []) (lend := []) (focus := false) (fuel := 0) (give := []) (fn := F.jf) (by kernel_rfl) (by kernel_rfl) (by kernel_rfl) (by kernel_rfl) (cs := []) (by kernel_rfl) aK) (aI fun d K h => (Zf d.1 d.2.1.1 K).trans (Zg d.1 d.2.1.1 h K))
end Go.Ev.Seat
end
section
namespace Go.Ev.Seat
open Go.RowKit
set_option maxRecDepth 100000
set_option linter.unusedVariables false
set_option linter.unusedSimpArgs false
def gy (x4 : Int) : St := { tm := ([.x, .x, .x, .x, (.s (.int .i64 x4))] ++ List.replicate 14 .x), ob := [], nx := 0, io := [] }
def gB : St := { tm := ([] ++ List.replicate 19 .x), ob := [], nx := 0, io := [] }
def fZ : Ss := { tm := (.cons (.l .no aB) (.cons (.f 151 (.cons (.qb (.cons (.l .no ah) .nil) 0) .nil)) (.cons (.x) (.cons (.x) (.cons (.x) (.cons (.x) (.cons (.x) (.cons (.int .i64) (.cons (.int .i64) (Fj 10)))))))))), ob := .nil, nx := 0, io := .nil }
def CO (x0 : List ay) (x100 : List Int) (x7 : Int) (x8 : Int) : fZ.T := ((x0, (((x100, ()), ()), ((), ((), ((), ((), ((), (x7, (x8, xd 10))))))))), (), ())
def eH (x0 : List ay) (x100 : List Int) (x7 : Int) (x8 : Int) : St := { tm := ([(.l .no aB x0), (.f 151 [(.qb [(.l .no ah x100)] 0)]), .x, .x, .x, .x, .x, (.s (.int .i64 x7)), (.s (.int .i64 x8))] ++ List.replicate 10 .x), ob := [], nx := 0, io := [] }
theorem BJ (x0 : List ay) (x100 : List Int) (x7 : Int) (x8 : Int) : fZ.mk' (CO x0 x100 x7 x8) = (eH x0 x100 x7 x8) := by kernel_rfl
def CP (d : fZ.T) (f : (List ay) → (List Int) → Int → Int → Option aj) : Option aj := match d with | ((x0, (((x100, _), _), (_, (_, (_, (_, (_, (x7, (x8, _))))))))), _, _) => f x0 x100 x7 x8
noncomputable def dI (x0 : List ay) (x100 : List Int) (x7 : Int) (x8 : Int) (lC : (List ay) → (List Int) → Int → Int → Option aj) (k0 : Int → Option aj) (k1 : Option aj) : Option aj := (bif (decide (x8 < x7)) then (bif ((decide ((0 : Int) ≤ x8)) && (decide (x8 < (((List.length x0) : Nat) : Int)))) then (bif ((aO x100) && (aO (List.getD x0 (Int.toNat x8) (aB.dflt)).2.2)) then (bif (!(fE x100 (List.getD x0 (Int.toNat x8) (aB.dflt)))) then (k0 x8) else (lC x0 x100 x7 (IntKind.wrap .i64 (x8 + (1 : Int))))) else none) else none) else k1)
noncomputable def eP : Nat → (List ay) → (List Int) → Int → Int → (Int → Option aj) → (Option aj) → Option aj
 | 0, _, _, _, _, _, _ => none
 | m + 1, x0, x100, x7, x8, k0, k1 => dI x0 x100 x7 x8 (fun x0 x100 x7 x8 => (eP m x0 x100 x7 x8 k0 k1)) k0 k1
noncomputable def nN (x0 : List ay) (x100 : List Int) (x7 : Int) (x8 : Int) (k0 : Int → Option aj) (k1 : Option aj) : Option aj := eP (List.length x0 + List.length x100 + x7.toNat + x8.toNat + 2) x0 x100 x7 x8 k0 k1
noncomputable def iF : dV := (fun (σ : St) (K : Ex → St → Option aj) => (match fZ.un σ with | some d => CP d (fun x0 x100 x7 x8 => nN x0 x100 x7 x8 (fun x4 => (K .ret (gy x4))) (K (.ext 0) gB)) | none => none))
noncomputable abbrev qZ : List (Nat × Bool × Sm) := [(N.jf, true, LQ)]
noncomputable abbrev kX : Env := En qZ [] [(2, [0,1,7,8], [4], iF)] [] false 0 []
noncomputable abbrev fD := rounds (run kX (aS F.bG 2)) [0,1,7,8] [4]
theorem BK (m : Nat) (x0 : List ay) (x100 : List Int) (x7 : Int) (x8 : Int) (K : Ex → St → Option aj) : fD (m + 1) (eH x0 x100 x7 x8) K = dI x0 x100 x7 x8 (fun x0 x100 x7 x8 => (fD m (eH x0 x100 x7 x8) K)) (fun x4 => (K .ret (gy x4))) (K (.ext 0) gB) := by kernel_rfl
theorem pK (K : Ex → St → Option aj) : ∀ m : Nat, (∀ (x0 : List ay) (x100 : List Int) (x7 : Int) (x8 : Int), fD m (eH x0 x100 x7 x8) K = eP m x0 x100 x7 x8 (fun x4 => (K .ret (gy x4))) (K (.ext 0) gB))
 | 0 => (fun _ _ _ _ => rfl)
 | m + 1 => (fun x0 x100 x7 x8 => (by rw [BK, show (fun x0 x100 x7 x8 => (fD m (eH x0 x100 x7 x8) K)) = (fun x0 x100 x7 x8 => (eP m x0 x100 x7 x8 (fun x4 => (K .ret (gy x4))) (K (.ext 0) gB))) from funext fun x0 => funext fun x100 => funext fun x7 => funext fun x8 => (pK K m) x0 x100 x7 x8]; rfl))
theorem zX : dJ kX (aS F.bG 2) := by
 refine dh (n := 2) (F := iF) (by kernel_rfl) rfl (li := [0,1,7,8]) (lo := [4]) rfl (fun σ K r hr => ?_)
 unfold iF at hr
 split at hr
 ·rename_i d hd
  rw [Ss.dY hd]
  exact ⟨_, ((congrArg (fun z => fD _ z K) (BJ _ _ _ _)).trans ((pK K _) _ _ _ _)).trans hr⟩
 ·cases hr
noncomputable def kY (l : List ay) (t : List Int) (K : aj → Option aj) : Option aj := (nN l t (((List.length l) : Nat) : Int) (0 : Int) (fun y0 => K ((.s (.int .i64 y0)), [])) (K ((.s (.int .i64 (-(1 : Int)))), [])))
theorem Gg (l : List ay) (t : List Int) (K : aj → Option aj) : dL kX true F.bG [.l .no aB l, .f N.jf [.qb [.l .no ah t] 0]] K = kY l t K := by kernel_rfl
def tJ : Sm := bg [.l aB, .sh (.f N.jf (.cons (.qb (.cons (.l .no ah) .nil) 0) .nil))] (fun d => Nat.ble d.1.length 1048576 && d.1.all (fun x => aO d.2.1.1.1 && aO x.2.2)) (fun d => (.s (.int .i64 (zW (fun x => !(fE d.2.1.1.1 x)) d.1)), []))
theorem Gh (l : List ay) (t : List Int) (h : (Nat.ble l.length 1048576 && l.all (fun x => aO t && aO x.2.2)) = true) (K : aj → Option aj) : kY l t K = K (.s (.int .i64 (zW (fun x => !(fE t x)) l)), []) := by
 have hl := Nat.le_of_ble_eq_true ((Bool.and_eq_true _ _).mp h).1
 have ha := ((Bool.and_eq_true _ _).mp h).2
 rw [List.all_eq_true] at ha
 unfold kY
 refine Eq.trans (Lh (R := fun m i => eP m l t ((l.length : Nat) : Int) i (fun y0 => K ((.s (.int .i64 y0)), [])) (K ((.s (.int .i64 (-(1 : Int)))), []))) (p := fun x => !(fE t x)) (xs := l) (z := (aB).dflt) (kf := fun y0 => K ((.s (.int .i64 y0)), [])) (kt := K ((.s (.int .i64 (-(1 : Int)))), [])) (fun m i hi => by
  show dI l t _ ((i : Nat) : Int) _ _ _ = _
  unfold dI
  rw [decide_eq_true (show ((i : Nat) : Int) < ((l.length : Nat) : Int) by omega), decide_eq_true (show (0 : Int) ≤ ((i : Nat) : Int) by omega), Int.toNat_natCast, bW (by omega)]
  have hx := ha l[i] (List.getElem_mem hi)
  rw [← getD_lt (aB).dflt hi] at hx
  try dsimp only at hx
  rw [hx]
  rfl) (fun m => by
  show dI l t _ ((l.length : Nat) : Int) _ _ _ = _
  unfold dI
  rw [decide_eq_false (show ¬ ((l.length : Nat) : Int) < ((l.length : Nat) : Int) by omega)]; rfl) _ 0 (by omega) (by omega)) ?_
 rw [List.drop_zero]
 unfold zW
 cases l.findIdx? (fun x => !(fE t x)) with
 | none => rfl
 | some j => show K (.s (.int .i64 ((0 + j : Nat) : Int)), []) = _; rw [Nat.zero_add]
theorem EJ : aV prog I N.bG true tJ := kD (aW (aY UG bn) (l := qZ) (p := []) (ls := [(2, [0,1,7,8], [4], iF)]) (lend := []) (focus := false) (fuel := 0) (give := []) (fn := F.bG) (by kernel_rfl) (by kernel_rfl) (by kernel_rfl) (by kernel_rfl) (cs := [aS F.bG 2]) (by kernel_rfl) (dA zX aK)) (aI fun d K h => (Gg d.1 d.2.1.1.1 K).trans (Gh d.1 d.2.1.1.1 h K))
end Go.Ev.Seat
end
section
namespace Go.Ev.Seat
open Go.RowKit
set_option maxRecDepth 100000
set_option linter.unusedVariables false
set_option linter.unusedSimpArgs false
noncomputable abbrev nO : List (Nat × Bool × Sm) := [(N.bG, true, tJ)]
noncomputable abbrev Dz : Env := En nO [] [] [] false 0 []
noncomputable def jK (l : List ay) (t : List Int) (K : aj → Option aj) : Option aj := (bif ((Nat.ble (List.length l) 1048576) && (List.all l (fun x => ((aO t) && (aO x.2.2))))) then K ((.s (.bool (decide ((zW (fun x => (!(fE t x))) l) ≥ (0 : Int))))), []) else none)
theorem DC (l : List ay) (t : List Int) (K : aj → Option aj) : dL Dz true F.dD [.l .no aB l, .f N.jf [.qb [.l .no ah t] 0]] K = jK l t K := by kernel_rfl
def oP : Sm := bg [.l aB, .sh (.f N.jf (.cons (.qb (.cons (.l .no ah) .nil) 0) .nil))] (fun d => Nat.ble d.1.length 1048576 && d.1.all (fun x => aO d.2.1.1.1 && aO x.2.2)) (fun d => (bl (d.1.any (fun x => !(fE d.2.1.1.1 x))), []))
theorem DF (l : List ay) (t : List Int) (h : (Nat.ble l.length 1048576 && l.all (fun x => aO t && aO x.2.2)) = true) (K : aj → Option aj) : jK l t K = K (bl (l.any (fun x => !(fE t x))), []) := by
 unfold jK
 first | rw [h] | skip
 rw [← acT]; rfl
theorem BL : aV prog I N.dD true oP := kD (aW (aY EJ bn) (l := nO) (p := []) (ls := []) (lend := []) (focus := false) (fuel := 0) (give := []) (fn := F.dD) (by kernel_rfl) (by kernel_rfl) (by kernel_rfl) (by kernel_rfl) (cs := []) (by kernel_rfl) aK) (aI fun d K h => (DC d.1 d.2.1.1.1 K).trans (DF d.1 d.2.1.1.1 h K))
end Go.Ev.Seat
end
section
namespace Go.Ev.Seat
open Go.RowKit
set_option maxRecDepth 100000
set_option linter.unusedVariables false
set_option linter.unusedSimpArgs false
def qh (x0 : List au) (x4 : Bool) : St := { tm := ([(.l .no aC x0), .x, .x, .x, (.s (.bool x4))] ++ List.replicate 64 .x), ob := [], nx := 0, io := [] }
def qj (x0 : List au) : St := { tm := ([(.l .no aC x0)] ++ List.replicate 68 .x), ob := [], nx := 0, io := [] }
def nR : Ss := { tm := (.cons (.l .no aC) (.cons (.x) (.cons (.x) (.cons (.pb 0 0) (.cons (.x) (.cons (.x) (.cons (.x) (.cons (.l .no aC) (.cons (.int .i64) (.cons (.int .i64) (Fj 59))))))))))), ob := (.box (.cons (.l .no ah) .nil) .nil), nx := 1, io := .nil }
def UH (x0 : List au) (x7 : List au) (x8 : Int) (x9 : Int) (b00 : List Int) : nR.T := ((x0, ((), ((), ((), ((), ((), ((), (x7, (x8, (x9, xd 59)))))))))), ((b00, ()), ()), ())
def lQ (x0 : List au) (x7 : List au) (x8 : Int) (x9 : Int) (b00 : List Int) : St := { tm := ([(.l .no aC x0), .x, .x, (.pb 0 0), .x, .x, .x, (.l .no aC x7), (.s (.int .i64 x8)), (.s (.int .i64 x9))] ++ List.replicate 59 .x), ob := [(0, (.box [(.l .no ah b00)]))], nx := 1, io := [] }
theorem Rx (x0 : List au) (x7 : List au) (x8 : Int) (x9 : Int) (b00 : List Int) : nR.mk' (UH x0 x7 x8 x9 b00) = (lQ x0 x7 x8 x9 b00) := by kernel_rfl
def UJ (d : nR.T) (f : (List au) → (List au) → Int → Int → (List Int) → Option aj) : Option aj := match d with | ((x0, (_, (_, (_, (_, (_, (_, (x7, (x8, (x9, _)))))))))), ((b00, _), _), _) => f x0 x7 x8 x9 b00
noncomputable def jL (x0 : List au) (x7 : List au) (x8 : Int) (x9 : Int) (b00 : List Int) (lC : (List au) → (List au) → Int → Int → (List Int) → Option aj) (k0 : (List au) → Bool → Option aj) (k1 : (List au) → Option aj) : Option aj := (bif (decide (x9 < x8)) then (bif ((decide ((0 : Int) ≤ x9)) && (decide (x9 < (((List.length x7) : Nat) : Int)))) then (bif (!((decide ((1 : Int) ≤ (List.getD x7 (Int.toNat x9) (aC.dflt)).1)) && (decide ((List.getD x7 (Int.toNat x9) (aC.dflt)).1 ≤ (8 : Int))))) then (k0 x0 false) else (bif (decide (x9 > (0 : Int))) then (bif ((decide ((0 : Int) ≤ (IntKind.wrap .i64 (x9 - (1 : Int))))) && (decide ((IntKind.wrap .i64 (x9 - (1 : Int))) < (((List.length x0) : Nat) : Int)))) then (bif (decide ((List.getD x0 (Int.toNat (IntKind.wrap .i64 (x9 - (1 : Int)))) (aC.dflt)).1 ≥ (List.getD x7 (Int.toNat x9) (aC.dflt)).1)) then (k0 x0 false) else (bif (aO b00) then (bif (!(bY b00 (List.getD x7 (Int.toNat x9) (aC.dflt)).2.1)) then (k0 x0 false) else (bif (aO b00) then (bif (!(bY b00 (List.getD x7 (Int.toNat x9) (aC.dflt)).2.2.1)) then (k0 x0 false) else (bif ((Nat.ble (List.length (List.getD x7 (Int.toNat x9) (aC.dflt)).2.2.2.1) 1048576) && (Nat.ble (List.length (List.getD x7 (Int.toNat x9) (aC.dflt)).2.2.2.2) 1048576)) then (bif (!(jH (List.getD x7 (Int.toNat x9) (aC.dflt)).2.2.2)) then (k0 x0 false) else (bif (Nat.ble (sumW List.length ((List.getD x7 (Int.toNat x9) (aC.dflt)).2.2.2.1 :: ((List.getD x7 (Int.toNat x9) (aC.dflt)).2.2.2.2 :: []))) 1048576) then (bif ((Nat.ble (List.length (List.flatten ((List.getD x7 (Int.toNat x9) (aC.dflt)).2.2.2.1 :: ((List.getD x7 (Int.toNat x9) (aC.dflt)).2.2.2.2 :: [])))) 1048576) && (List.all (List.flatten ((List.getD x7 (Int.toNat x9) (aC.dflt)).2.2.2.1 :: ((List.getD x7 (Int.toNat x9) (aC.dflt)).2.2.2.2 :: []))) (fun x => ((aO b00) && (aO x.2.2))))) then (bif (List.any (List.flatten ((List.getD x7 (Int.toNat x9) (aC.dflt)).2.2.2.1 :: ((List.getD x7 (Int.toNat x9) (aC.dflt)).2.2.2.2 :: []))) (fun x => (!(fE b00 x)))) then (k0 x0 false) else (lC x0 x7 x8 (IntKind.wrap .i64 (x9 + (1 : Int))) b00)) else none) else none)) else none)) else none)) else none)) else none) else (bif (aO b00) then (bif (!(bY b00 (List.getD x7 (Int.toNat x9) (aC.dflt)).2.1)) then (k0 x0 false) else (bif (aO b00) then (bif (!(bY b00 (List.getD x7 (Int.toNat x9) (aC.dflt)).2.2.1)) then (k0 x0 false) else (bif ((Nat.ble (List.length (List.getD x7 (Int.toNat x9) (aC.dflt)).2.2.2.1) 1048576) && (Nat.ble (List.length (List.getD x7 (Int.toNat x9) (aC.dflt)).2.2.2.2) 1048576)) then (bif (!(jH (List.getD x7 (Int.toNat x9) (aC.dflt)).2.2.2)) then (k0 x0 false) else (bif (Nat.ble (sumW List.length ((List.getD x7 (Int.toNat x9) (aC.dflt)).2.2.2.1 :: ((List.getD x7 (Int.toNat x9) (aC.dflt)).2.2.2.2 :: []))) 1048576) then (bif ((Nat.ble (List.length (List.flatten ((List.getD x7 (Int.toNat x9) (aC.dflt)).2.2.2.1 :: ((List.getD x7 (Int.toNat x9) (aC.dflt)).2.2.2.2 :: [])))) 1048576) && (List.all (List.flatten ((List.getD x7 (Int.toNat x9) (aC.dflt)).2.2.2.1 :: ((List.getD x7 (Int.toNat x9) (aC.dflt)).2.2.2.2 :: []))) (fun x => ((aO b00) && (aO x.2.2))))) then (bif (List.any (List.flatten ((List.getD x7 (Int.toNat x9) (aC.dflt)).2.2.2.1 :: ((List.getD x7 (Int.toNat x9) (aC.dflt)).2.2.2.2 :: []))) (fun x => (!(fE b00 x)))) then (k0 x0 false) else (lC x0 x7 x8 (IntKind.wrap .i64 (x9 + (1 : Int))) b00)) else none) else none)) else none)) else none)) else none))) else none) else (k1 x0))
noncomputable def lS : Nat → (List au) → (List au) → Int → Int → (List Int) → ((List au) → Bool → Option aj) → ((List au) → Option aj) → Option aj
 | 0, _, _, _, _, _, _, _ => none
 | m + 1, x0, x7, x8, x9, b00, k0, k1 => jL x0 x7 x8 x9 b00 (fun x0 x7 x8 x9 b00 => (lS m x0 x7 x8 x9 b00 k0 k1)) k0 k1
noncomputable def Iz (x0 : List au) (x7 : List au) (x8 : Int) (x9 : Int) (b00 : List Int) (k0 : (List au) → Bool → Option aj) (k1 : (List au) → Option aj) : Option aj := lS (List.length x0 + List.length x7 + x8.toNat + x9.toNat + List.length b00 + 2) x0 x7 x8 x9 b00 k0 k1
noncomputable def wK : dV := (fun (σ : St) (K : Ex → St → Option aj) => (match nR.un σ with | some d => UJ d (fun x0 x7 x8 x9 b00 => Iz x0 x7 x8 x9 b00 (fun x0 x4 => (K .ret (qh x0 x4))) (fun x0 => (K (.ext 0) (qj x0)))) | none => none))
noncomputable abbrev NW : List (Nat × Plan × List Nat) := [(4, takeB [0, 1] (.fork (.one 2 (takeB [3, 4, 5, 6, 7, 8, 9, 10, 11, 12, 13, 14, 15, 16, 17, 18, 19, 20, 21, 22, 23] (.fork (.one 24 (takeB [25, 26, 27, 28, 29, 30, 31] (.fork (.one 32 (takeB [33, 34, 35, 36, 37] (.fork (.one 38 (takes [39, 40])))))))))))), [])]
noncomputable abbrev NY : List (Nat × Bool × Sm) := [(N.pF, true, xW), (N.Jl, true, LG), (N.KR, true, aau), (N.dM, false, EI), (N.dD, true, oP)]
noncomputable abbrev IB : Env := En NY NW [(2, [0,3,7,8,9], [0,4], wK)] [] false 0 []
noncomputable abbrev oQ := rounds (run IB (aS F.mV 2)) [0,3,7,8,9] [0,4]
theorem Ry (m : Nat) (x0 : List au) (x7 : List au) (x8 : Int) (x9 : Int) (b00 : List Int) (K : Ex → St → Option aj) : oQ (m + 1) (lQ x0 x7 x8 x9 b00) K = jL x0 x7 x8 x9 b00 (fun x0 x7 x8 x9 b00 => (oQ m (lQ x0 x7 x8 x9 b00) K)) (fun x0 x4 => (K .ret (qh x0 x4))) (fun x0 => (K (.ext 0) (qj x0))) := by kernel_rfl
theorem LU (K : Ex → St → Option aj) : ∀ m : Nat, (∀ (x0 : List au) (x7 : List au) (x8 : Int) (x9 : Int) (b00 : List Int), oQ m (lQ x0 x7 x8 x9 b00) K = lS m x0 x7 x8 x9 b00 (fun x0 x4 => (K .ret (qh x0 x4))) (fun x0 => (K (.ext 0) (qj x0))))
 | 0 => (fun _ _ _ _ _ => rfl)
 | m + 1 => (fun x0 x7 x8 x9 b00 => (by rw [Ry, show (fun x0 x7 x8 x9 b00 => (oQ m (lQ x0 x7 x8 x9 b00) K)) = (fun x0 x7 x8 x9 b00 => (lS m x0 x7 x8 x9 b00 (fun x0 x4 => (K .ret (qh x0 x4))) (fun x0 => (K (.ext 0) (qj x0))))) from funext fun x0 => funext fun x7 => funext fun x8 => funext fun x9 => funext fun b00 => (LU K m) x0 x7 x8 x9 b00]; rfl))
theorem Qy : dJ IB (aS F.mV 2) := by
 refine dh (n := 2) (F := wK) (by kernel_rfl) rfl (li := [0,3,7,8,9]) (lo := [0,4]) rfl (fun σ K r hr => ?_)
 unfold wK at hr
 split at hr
 ·rename_i d hd
  rw [Ss.dY hd]
  exact ⟨_, ((congrArg (fun z => oQ _ z K) (Rx _ _ _ _ _)).trans ((LU K _) _ _ _ _ _)).trans hr⟩
 ·cases hr
noncomputable def IC (l : List au) (t : List Int) (K : aj → Option aj) : Option aj := (Iz l l (((List.length l) : Nat) : Int) (0 : Int) t (fun y0 y1 => K ((.s (.bool y1)), [])) (fun y2 => K ((.s (.bool (decide ((((List.length y2) : Nat) : Int) ≤ (8 : Int))))), [])))
theorem ad4 (l : List au) (t : List Int) (K : aj → Option aj) : dL IB true F.mV [.l .no aC l, .l .no ah t] K = IC l t K := by kernel_rfl
def Qz : Sm := bg [.l aC, .l ah] (fun d => fF (.sl aC) d.1 && aO d.2.1) (fun d => (bl (uH d.2.1 d.1), []))
theorem ad5 (l : List au) (t : List Int) (h : (fF (.sl aC) l && aO t) = true) (K : aj → Option aj) : IC l t K = K (bl (uH t l), []) := by
 obtain ⟨h1, h2⟩ := (Bool.and_eq_true _ _).mp h
 have hl := dN h1
 unfold IC uH
 have q := Aq (R := fun m i => lS m l l ((l.length : Nat) : Int) i t (fun y0 y1 => K ((.s (.bool y1)), [])) (fun y2 => K ((.s (.bool (decide ((((List.length y2) : Nat) : Int) ≤ (8 : Int))))), []))) (p := ou t l) (n := l.length) (kt := K ((.s (.bool (decide (((l.length : Nat) : Int) ≤ 8)))), [])) (kf := K ((.s (.bool false)), [])) (fun m i hi => by
  show jL l l _ ((i : Nat) : Int) t _ _ _ = _
  unfold jL ou abR lV
  have hf := adi (m := l.getD i zQ) (vP h1 rfl i)
  rw [decide_eq_true (show ((i : Nat) : Int) < ((l.length : Nat) : Int) by omega), decide_eq_true (show (0 : Int) ≤ ((i : Nat) : Int) by omega), Int.toNat_natCast, bW (by omega), show l.getD i aC.dflt = l.getD i zQ from rfl, h2]
  generalize l.getD i zQ = x at *
  have n1 := dN hf.1
  have n2 := dN hf.2
  have key : ∀ (nx kf : Option aj), (bif true then (bif !(bY t x.2.1) then kf else (bif true then (bif !(bY t x.2.2.1) then kf else (bif (Nat.ble (List.length x.2.2.2.1) 1048576 && Nat.ble (List.length x.2.2.2.2) 1048576) then (bif !(jH x.2.2.2) then kf else (bif Nat.ble (sumW List.length (x.2.2.2.1 :: (x.2.2.2.2 :: []))) 1048576 then (bif (Nat.ble (List.length (List.flatten (x.2.2.2.1 :: (x.2.2.2.2 :: [])))) 1048576 && List.all (List.flatten (x.2.2.2.1 :: (x.2.2.2.2 :: []))) (fun y => (true && aO y.2.2))) then (bif List.any (List.flatten (x.2.2.2.1 :: (x.2.2.2.2 :: []))) (fun y => !(fE t y)) then kf else nx) else none) else none)) else none)) else none)) else none) =
    bif (bY t x.2.1 && bY t x.2.2.1 && jH x.2.2.2 && x.2.2.2.1.all (fE t) && x.2.2.2.2.all (fE t)) then nx else kf := by
   intro nx kf
   cases bY t x.2.1
   ·rfl
   cases bY t x.2.2.1
   ·rfl
   cases hk : jH x.2.2.2 with
   | false => rw [Nat.ble_eq_true_of_le n1, Nat.ble_eq_true_of_le n2]; rfl
   | true =>
    have hk' := hk
    unfold jH at hk'
    rw [Bool.and_eq_true] at hk'
    have m1 := anB hk'.1
    have m2 := anB hk'.2
    have hfl : List.flatten (x.2.2.2.1 :: (x.2.2.2.2 :: [])) = x.2.2.2.1 ++ x.2.2.2.2 := by simp
    have ha : List.all (x.2.2.2.1 ++ x.2.2.2.2) (fun y => (true && aO y.2.2)) = true := by
     rw [List.all_eq_true]
     intro y hy
     rcases List.mem_append.1 hy with hy | hy
     ·exact Ph (H8 hf.1 hy)
     ·exact Ph (H8 hf.2 hy)
    rw [Nat.ble_eq_true_of_le n1, Nat.ble_eq_true_of_le n2, hfl, ha, Nat.ble_eq_true_of_le (show sumW List.length (x.2.2.2.1 :: (x.2.2.2.2 :: [])) ≤ 1048576 by simp only [sumW]; omega), Nat.ble_eq_true_of_le (show (x.2.2.2.1 ++ x.2.2.2.2).length ≤ 1048576 by rw [List.length_append]; omega), List.any_append, List.all_eq_not_any_not, List.all_eq_not_any_not]
    cases List.any x.2.2.2.1 (fun y => !(fE t y)) <;> cases List.any x.2.2.2.2 (fun y => !(fE t y)) <;> rfl
  have avH : ∀ (s a b c d e p : Bool) (nx kf : Option aj), (bif (s && a && b && c && d && e && p) then nx else kf) = bif s then (bif p then (bif (a && b && c && d && e) then nx else kf) else kf) else kf := by
   intro s a b c d e p nx kf
   cases s <;> cases a <;> cases b <;> cases c <;> cases d <;> cases e <;> cases p <;> rfl
  rw [avH]
  cases i with
  | zero =>
   rw [decide_eq_false (show ¬ ((0 : Nat) : Int) > 0 by omega)]
   cases (decide (1 ≤ x.1) && decide (x.1 ≤ 8))
   ·rfl
   ·exact key _ _
  | succ i =>
   rw [wrap_in (n := ((i + 1 : Nat) : Int) - 1) (by omega) (by omega), decide_eq_true (show ((i + 1 : Nat) : Int) > 0 by omega), show ((i + 1 : Nat) : Int) - 1 = ((i : Nat) : Int) by omega, decide_eq_true (show (0 : Int) ≤ ((i : Nat) : Int) by omega), decide_eq_true (show ((i : Nat) : Int) < ((l.length : Nat) : Int) by omega), Int.toNat_natCast, show i + 1 - 1 = i from rfl, show l.getD i aC.dflt = l.getD i zQ from rfl]
   cases (decide (1 ≤ x.1) && decide (x.1 ≤ 8))
   ·rfl
   ·by_cases a3 : (l.getD i zQ).1 < x.1
    ·rw [decide_eq_true a3, decide_eq_false (show ¬ (l.getD i zQ).1 ≥ x.1 from Int.not_le.2 a3)]
     exact key _ _
    ·rw [decide_eq_false a3, decide_eq_true (show (l.getD i zQ).1 ≥ x.1 from Int.not_lt.1 a3)]; rfl) (fun m => by
  show jL l l _ ((l.length : Nat) : Int) t _ _ _ = _
  unfold jL
  rw [decide_eq_false (show ¬ ((l.length : Nat) : Int) < ((l.length : Nat) : Int) by omega)]; rfl) (List.length l + List.length l + ((l.length : Nat) : Int).toNat + (0 : Int).toNat + List.length t + 2) 0 (by omega) (by omega)
 refine Eq.trans q ?_
 rw [Nat.sub_zero]
 show (bif Ar l.length (ou t l) then _ else _) = _
 cases Ar l.length (ou t l) <;> cases decide (((l.length : Nat) : Int) ≤ 8) <;> rfl
theorem Zh : aV prog I N.mV true Qz := kD (aW (aY yU (aY JB (aY afm (aY Nq (aY BL bn))))) (l := NY) (p := NW) (ls := [(2, [0,3,7,8,9], [0,4], wK)]) (lend := []) (focus := false) (fuel := 0) (give := []) (fn := F.mV) (by kernel_rfl) (by kernel_rfl) (by kernel_rfl) (by kernel_rfl) (cs := [aS F.mV 2]) (by kernel_rfl) (dA Qy aK)) (aI fun d K h => (ad4 d.1 d.2.1 K).trans (ad5 d.1 d.2.1 h K))
end Go.Ev.Seat
end
section
namespace Go.Ev.Seat
open Go.RowKit
set_option maxRecDepth 100000
set_option linter.unusedVariables false
set_option linter.unusedSimpArgs false
noncomputable abbrev Xm : List (Nat × Bool × Sm) := [(N.i_in, true, Dt), (N.pF, true, xW)]
noncomputable abbrev ak1 : Env := En Xm [] [] [] false 0 []
noncomputable def QA (l : ak) (K : aj → Option aj) : Option aj := (bif ((decide ((0 : Int) ≤ l.1)) && (decide (l.1 ≤ l.2.1))) then (bif (decide (l.2.1 ≤ (400 : Int))) then (bif ((decide ((1 : Int) ≤ l.2.2.1)) && (decide (l.2.2.1 ≤ (8 : Int)))) then K ((.s (.bool ((decide ((1 : Int) ≤ l.2.2.2)) && (decide (l.2.2.2 ≤ (1000 : Int)))))), []) else K ((.s (.bool false)), [])) else K ((.s (.bool false)), [])) else K ((.s (.bool false)), []))
theorem ak2 (l : ak) (K : aj → Option aj) : dL ak1 true F.KX [.a (aH.cells .no l)] K = QA l K := by kernel_rfl
def aav : Sm := bg [.a aH] (fun d => true) (fun d => (bl (oh d.1), []))
theorem ak3 (l : ak) (K : aj → Option aj) : QA l K = K (bl (oh l), []) := by
 unfold QA oh lV aqH
 cases (decide (0 ≤ l.1) && decide (l.1 ≤ l.2.1)) <;> cases decide (l.2.1 ≤ 400) <;> cases (decide (1 ≤ l.2.2.1) && decide (l.2.2.1 ≤ 8)) <;> rfl
theorem afq : aV prog I N.KX true aav := kD (aW (aY qR (aY yU bn)) (l := Xm) (p := []) (ls := []) (lend := []) (focus := false) (fuel := 0) (give := []) (fn := F.KX) (by kernel_rfl) (by kernel_rfl) (by kernel_rfl) (by kernel_rfl) (cs := []) (by kernel_rfl) aK) (aI fun d K h => (ak2 d.1 K).trans (ak3 d.1 K))
end Go.Ev.Seat
end
section
namespace Go.Ev.Seat
open Go.RowKit
set_option maxRecDepth 100000
set_option linter.unusedVariables false
set_option linter.unusedSimpArgs false
noncomputable abbrev abp : Env := En [] [] [] [] false 0 []
noncomputable def NZ (a : Int) (K : aj → Option aj) : Option aj := K ((.s (.bool (a != a))), [])
theorem abq (a : Int) (K : aj → Option aj) : dL abp true F.cmp_isNaN_int [.s (.int .i64 a)] K = NZ a K := by kernel_rfl
def N7 : Sm := bg [.i] (fun d => true) (fun d => (bl (d.1 != d.1), []))
theorem abr (a : Int) (K : aj → Option aj) : NZ a K = K (bl (a != a), []) := rfl
theorem Xn : aV prog I N.cmp_isNaN_int true N7 := kD (aW bn (l := []) (p := []) (ls := []) (lend := []) (focus := false) (fuel := 0) (give := []) (fn := F.cmp_isNaN_int) (by kernel_rfl) (by kernel_rfl) (by kernel_rfl) (by kernel_rfl) (cs := []) (by kernel_rfl) aK) (aI fun d K h => (abq d.1 K).trans (abr d.1 K))
end Go.Ev.Seat
end
section
namespace Go.Ev.Seat
open Go.RowKit
set_option maxRecDepth 100000
set_option linter.unusedVariables false
set_option linter.unusedSimpArgs false
noncomputable abbrev IE : List (Nat × Bool × Sm) := [(N.cmp_isNaN_int, true, N7)]
noncomputable abbrev Xo : Env := En IE [] [] [] false 0 []
noncomputable def BM (a : Int) (b : Int) (K : aj → Option aj) : Option aj := (bif (a != a) then (bif (b != b) then K ((.s (.int .i64 (0 : Int))), []) else K ((.s (.int .i64 (-(1 : Int)))), [])) else (bif (b != b) then K ((.s (.int .i64 (1 : Int))), []) else (bif (decide (a < b)) then K ((.s (.int .i64 (-(1 : Int)))), []) else (bif (decide (a > b)) then K ((.s (.int .i64 (1 : Int))), []) else K ((.s (.int .i64 (0 : Int))), [])))))
theorem Xp (a : Int) (b : Int) (K : aj → Option aj) : dL Xo true F.cmp_Compare_int [.s (.int .i64 a), .s (.int .i64 b)] K = BM a b K := by kernel_rfl
def BN : Sm := bg [.i, .i] (fun d => true) (fun d => (.s (.int .i64 (zY d.1 d.2.1)), []))
theorem Xq (a : Int) (b : Int) (K : aj → Option aj) : BM a b K = K (.s (.int .i64 (zY a b)), []) := by
 unfold BM zY
 rw [anD (rfl : a = a), anD (rfl : b = b)]
 cases decide (a < b)
 ·cases decide (a > b) <;> rfl
 ·rfl
theorem Fp : aV prog I N.cmp_Compare_int true BN := kD (aW (aY Xn bn) (l := IE) (p := []) (ls := []) (lend := []) (focus := false) (fuel := 0) (give := []) (fn := F.cmp_Compare_int) (by kernel_rfl) (by kernel_rfl) (by kernel_rfl) (by kernel_rfl) (cs := []) (by kernel_rfl) aK) (aI fun d K h => (Xp d.1 d.2.1 K).trans (Xq d.1 d.2.1 K))
end Go.Ev.Seat
end
section
namespace Go.Ev.Seat
open Go.RowKit
set_option maxRecDepth 100000
set_option linter.unusedVariables false
set_option linter.unusedSimpArgs false
def wL (x2 : Int) (x3 : Int) : St := { tm := ([.x, .x, (.s (.int .i64 x2)), (.s (.int .i64 x3))] ++ List.replicate 14 .x), ob := [], nx := 0, io := [] }
def wM (x3 : Int) : St := { tm := ([.x, .x, .x, (.s (.int .i64 x3))] ++ List.replicate 14 .x), ob := [], nx := 0, io := [] }
def tK : Ss := { tm := (.cons (.x) (.cons (.x) (.cons (.x) (.cons (.int .i64) (.cons (.x) (.cons (.x) (.cons (.l .no Hu) (.cons (.int .i64) (.cons (.int .i64) (Fj 9)))))))))), ob := .nil, nx := 0, io := .nil }
def Zi (x3 : Int) (x6 : List Int) (x7 : Int) (x8 : Int) : tK.T := (((), ((), ((), (x3, ((), ((), (x6, (x7, (x8, xd 9))))))))), (), ())
def oU (x3 : Int) (x6 : List Int) (x7 : Int) (x8 : Int) : St := { tm := ([.x, .x, .x, (.s (.int .i64 x3)), .x, .x, (.l .no Hu x6), (.s (.int .i64 x7)), (.s (.int .i64 x8))] ++ List.replicate 9 .x), ob := [], nx := 0, io := [] }
theorem Xr (x3 : Int) (x6 : List Int) (x7 : Int) (x8 : Int) : tK.mk' (Zi x3 x6 x7 x8) = (oU x3 x6 x7 x8) := by kernel_rfl
def Zj (d : tK.T) (f : Int → (List Int) → Int → Int → Option aj) : Option aj := match d with | ((_, (_, (_, (x3, (_, (_, (x6, (x7, (x8, _))))))))), _, _) => f x3 x6 x7 x8
noncomputable def wO (x3 : Int) (x6 : List Int) (x7 : Int) (x8 : Int) (lC : Int → (List Int) → Int → Int → Option aj) (k0 : Int → Int → Option aj) (k1 : Int → Option aj) : Option aj := (bif (decide (x8 < x7)) then (bif ((decide ((0 : Int) ≤ x8)) && (decide (x8 < (((List.length x6) : Nat) : Int)))) then (bif ((List.getD x6 (Int.toNat x8) (0 : Int)) != x3) then (k0 (List.getD x6 (Int.toNat x8) (0 : Int)) x3) else (lC x3 x6 x7 (IntKind.wrap .i64 (x8 + (1 : Int))))) else none) else (k1 x3))
noncomputable def oV : Nat → Int → (List Int) → Int → Int → (Int → Int → Option aj) → (Int → Option aj) → Option aj
 | 0, _, _, _, _, _, _ => none
 | m + 1, x3, x6, x7, x8, k0, k1 => wO x3 x6 x7 x8 (fun x3 x6 x7 x8 => (oV m x3 x6 x7 x8 k0 k1)) k0 k1
noncomputable def LV (x3 : Int) (x6 : List Int) (x7 : Int) (x8 : Int) (k0 : Int → Int → Option aj) (k1 : Int → Option aj) : Option aj := oV (x3.toNat + List.length x6 + x7.toNat + x8.toNat + 2) x3 x6 x7 x8 k0 k1
noncomputable def BO : dV := (fun (σ : St) (K : Ex → St → Option aj) => (match tK.un σ with | some d => Zj d (fun x3 x6 x7 x8 => LV x3 x6 x7 x8 (fun x2 x3 => (K .ret (wL x2 x3))) (fun x3 => (K (.ext 0) (wM x3)))) | none => none))
noncomputable abbrev Nr : Env := En [] [] [(3, [3,6,7,8], [2,3], BO)] [] false 0 []
noncomputable abbrev vk := rounds (run Nr (aS F.uy 3)) [3,6,7,8] [2,3]
theorem Xt (m : Nat) (x3 : Int) (x6 : List Int) (x7 : Int) (x8 : Int) (K : Ex → St → Option aj) : vk (m + 1) (oU x3 x6 x7 x8) K = wO x3 x6 x7 x8 (fun x3 x6 x7 x8 => (vk m (oU x3 x6 x7 x8) K)) (fun x2 x3 => (K .ret (wL x2 x3))) (fun x3 => (K (.ext 0) (wM x3))) := by kernel_rfl
theorem QB (K : Ex → St → Option aj) : ∀ m : Nat, (∀ (x3 : Int) (x6 : List Int) (x7 : Int) (x8 : Int), vk m (oU x3 x6 x7 x8) K = oV m x3 x6 x7 x8 (fun x2 x3 => (K .ret (wL x2 x3))) (fun x3 => (K (.ext 0) (wM x3))))
 | 0 => (fun _ _ _ _ => rfl)
 | m + 1 => (fun x3 x6 x7 x8 => (by rw [Xt, show (fun x3 x6 x7 x8 => (vk m (oU x3 x6 x7 x8) K)) = (fun x3 x6 x7 x8 => (oV m x3 x6 x7 x8 (fun x2 x3 => (K .ret (wL x2 x3))) (fun x3 => (K (.ext 0) (wM x3))))) from funext fun x3 => funext fun x6 => funext fun x7 => funext fun x8 => (QB K m) x3 x6 x7 x8]; rfl))
theorem UK : dJ Nr (aS F.uy 3) := by
 refine dh (n := 3) (F := BO) (by kernel_rfl) rfl (li := [3,6,7,8]) (lo := [2,3]) rfl (fun σ K r hr => ?_)
 unfold BO at hr
 split at hr
 ·rename_i d hd
  rw [Ss.dY hd]
  exact ⟨_, ((congrArg (fun z => vk _ z K) (Xr _ _ _ _)).trans ((QB K _) _ _ _ _)).trans hr⟩
 ·cases hr
noncomputable def Ns (l : List Int) (K : aj → Option aj) : Option aj := (LV (0 : Int) l (((List.length l) : Nat) : Int) (0 : Int) (fun y0 y1 => K ((.s (.int .i64 y0)), [])) (fun y2 => K ((.s (.int .i64 y2)), [])))
theorem aiq (l : List Int) (K : aj → Option aj) : dL Nr true F.uy [.l .no Hu l] K = Ns l K := by kernel_rfl
def Xu : Sm := bg [.l Hu] (fun d => Nat.ble d.1.length 1048576) (fun d => (.s (.int .i64 (orD d.1)), []))
theorem air (l : List Int) (h : (Nat.ble l.length 1048576) = true) (K : aj → Option aj) : Ns l K = K (.s (.int .i64 (orD l)), []) := by
 have hl := Nat.le_of_ble_eq_true h
 unfold Ns orD
 have q : ∀ (m i : Nat), i ≤ l.length → l.length - i < m → oV m 0 l ((l.length : Nat) : Int) ((i : Nat) : Int) (fun y0 y1 => K ((.s (.int .i64 y0)), [])) (fun y2 => K ((.s (.int .i64 y2)), [])) = K ((.s (.int .i64 (((l.drop i).find? (fun c => c != 0)).getD 0))), []) := by
  intro m
  induction m with
  | zero => intro i _ hm; omega
  | succ m ih =>
   intro i hi hm
   show wO 0 l _ ((i : Nat) : Int) _ _ _ = _
   unfold wO
   by_cases hlt : i < l.length
   ·rw [decide_eq_true (show ((i : Nat) : Int) < ((l.length : Nat) : Int) by omega), decide_eq_true (show (0 : Int) ≤ ((i : Nat) : Int) by omega), Int.toNat_natCast, bW (by omega), List.drop_eq_getElem_cons hlt, ← getD_lt 0 hlt, List.find?_cons]
    dsimp only
    rw [ih (i + 1) (by omega) (by omega)]
    cases ((l.getD i 0) != 0) <;> rfl
   ·obtain rfl : i = l.length := by omega
    rw [decide_eq_false (show ¬ ((l.length : Nat) : Int) < ((l.length : Nat) : Int) by omega), List.drop_length]; rfl
 have := q ((0 : Int).toNat + List.length l + ((l.length : Nat) : Int).toNat + (0 : Int).toNat + 2) 0 (by omega) (by omega)
 rw [List.drop_zero] at this
 exact this
theorem ad6 : aV prog I N.uy true Xu := kD (aW bn (l := []) (p := []) (ls := [(3, [3,6,7,8], [2,3], BO)]) (lend := []) (focus := false) (fuel := 0) (give := []) (fn := F.uy) (by kernel_rfl) (by kernel_rfl) (by kernel_rfl) (by kernel_rfl) (cs := [aS F.uy 3]) (by kernel_rfl) (dA UK aK)) (aI fun d K h => (aiq d.1 K).trans (air d.1 h K))
end Go.Ev.Seat
end
section
namespace Go.Ev.Seat
open Go.RowKit
set_option maxRecDepth 100000
set_option linter.unusedVariables false
set_option linter.unusedSimpArgs false
noncomputable abbrev IG : List (Nat × Plan × List Nat) := [(1, takeB [0, 1, 2, 3, 5, 6, 7, 8, 10, 11, 12, 13] (.fork (.one 4 (.fork (.one 9 (.fork (.one 14 (.fork (.one 15 (.fork (.one 16 (takes [17]))))))))))), [])]
noncomputable abbrev II : List (Nat × Bool × Sm) := [(N.cmp_Compare_int, true, BN), (N.uy, true, Xu)]
noncomputable abbrev Xv : Env := En II IG [] [] false 0 []
noncomputable def BP (a : ak) (b : ak) (K : aj → Option aj) : Option aj := K ((.s (.int .i64 (orD ((zY a.1 b.1) :: ((zY a.2.1 b.2.1) :: ((zY a.2.2.1 b.2.2.1) :: ([] : List Int))))))), [])
theorem Xw (a : ak) (b : ak) (K : aj → Option aj) : dL Xv true F.qx [.a (aH.cells .no a), .a (aH.cells .no b)] K = BP a b K := by kernel_rfl
def JF : Sm := bg [.a aH, .a aH] (fun d => true) (fun d => (.s (.int .i64 (aoF d.1 d.2.1)), []))
theorem Xx (a : ak) (b : ak) (K : aj → Option aj) : BP a b K = K (.s (.int .i64 (aoF a b)), []) := by
 unfold BP orD aoF
 simp only [List.find?_cons, List.find?_nil]
 cases (zY a.1 b.1 != 0)
 ·cases (zY a.2.1 b.2.1 != 0)
  ·cases h3 : (zY a.2.2.1 b.2.2.1 != 0)
   ·have : zY a.2.2.1 b.2.2.1 = 0 := by simpa using h3
    rw [this]; rfl
   ·rfl
  ·rfl
 ·rfl
theorem Rz : aV prog I N.qx true JF := kD (aW (aY Fp (aY ad6 bn)) (l := II) (p := IG) (ls := []) (lend := []) (focus := false) (fuel := 0) (give := []) (fn := F.qx) (by kernel_rfl) (by kernel_rfl) (by kernel_rfl) (by kernel_rfl) (cs := []) (by kernel_rfl) aK) (aI fun d K h => (Xw d.1 d.2.1 K).trans (Xx d.1 d.2.1 K))
end Go.Ev.Seat
end
section
namespace Go.Ev.Seat
open Go.RowKit
set_option maxRecDepth 100000
set_option linter.unusedVariables false
set_option linter.unusedSimpArgs false
def tN (x0 : List ak) (x2 : Bool) : St := { tm := ([(.l .no aH x0), .x, (.s (.bool x2))] ++ List.replicate 30 .x), ob := [], nx := 0, io := [] }
def tV (x0 : List ak) : St := { tm := ([(.l .no aH x0)] ++ List.replicate 32 .x), ob := [], nx := 0, io := [] }
def ql : Ss := { tm := (.cons (.l .no aH) (.cons (.x) (.cons (.x) (.cons (.x) (.cons (.x) (.cons (.l .no aH) (.cons (.int .i64) (.cons (.int .i64) (Fj 25))))))))), ob := .nil, nx := 0, io := .nil }
def Xy (x0 : List ak) (x5 : List ak) (x6 : Int) (x7 : Int) : ql.T := ((x0, ((), ((), ((), ((), (x5, (x6, (x7, xd 25)))))))), (), ())
def nH (x0 : List ak) (x5 : List ak) (x6 : Int) (x7 : Int) : St := { tm := ([(.l .no aH x0), .x, .x, .x, .x, (.l .no aH x5), (.s (.int .i64 x6)), (.s (.int .i64 x7))] ++ List.replicate 25 .x), ob := [], nx := 0, io := [] }
theorem UL (x0 : List ak) (x5 : List ak) (x6 : Int) (x7 : Int) : ql.mk' (Xy x0 x5 x6 x7) = (nH x0 x5 x6 x7) := by kernel_rfl
def Xz (d : ql.T) (f : (List ak) → (List ak) → Int → Int → Option aj) : Option aj := match d with | ((x0, (_, (_, (_, (_, (x5, (x6, (x7, _)))))))), _, _) => f x0 x5 x6 x7
noncomputable def kL (x0 : List ak) (x5 : List ak) (x6 : Int) (x7 : Int) (lC : (List ak) → (List ak) → Int → Int → Option aj) (k0 : (List ak) → Bool → Option aj) (k1 : (List ak) → Option aj) : Option aj := (bif (decide (x7 < x6)) then (bif ((decide ((0 : Int) ≤ x7)) && (decide (x7 < (((List.length x5) : Nat) : Int)))) then (bif (!(oh (List.getD x5 (Int.toNat x7) (aH.dflt)))) then (k0 x0 false) else (bif (decide (x7 > (0 : Int))) then (bif ((decide ((0 : Int) ≤ (IntKind.wrap .i64 (x7 - (1 : Int))))) && (decide ((IntKind.wrap .i64 (x7 - (1 : Int))) < (((List.length x0) : Nat) : Int)))) then (bif (decide ((aoF (List.getD x0 (Int.toNat (IntKind.wrap .i64 (x7 - (1 : Int)))) (aH.dflt)) (List.getD x5 (Int.toNat x7) (aH.dflt))) ≥ (0 : Int))) then (k0 x0 false) else (lC x0 x5 x6 (IntKind.wrap .i64 (x7 + (1 : Int))))) else none) else (lC x0 x5 x6 (IntKind.wrap .i64 (x7 + (1 : Int)))))) else none) else (k1 x0))
noncomputable def nI : Nat → (List ak) → (List ak) → Int → Int → ((List ak) → Bool → Option aj) → ((List ak) → Option aj) → Option aj
 | 0, _, _, _, _, _, _ => none
 | m + 1, x0, x5, x6, x7, k0, k1 => kL x0 x5 x6 x7 (fun x0 x5 x6 x7 => (nI m x0 x5 x6 x7 k0 k1)) k0 k1
noncomputable def JG (x0 : List ak) (x5 : List ak) (x6 : Int) (x7 : Int) (k0 : (List ak) → Bool → Option aj) (k1 : (List ak) → Option aj) : Option aj := nI (List.length x0 + List.length x5 + x6.toNat + x7.toNat + 2) x0 x5 x6 x7 k0 k1
noncomputable def zf : dV := (fun (σ : St) (K : Ex → St → Option aj) => (match ql.un σ with | some d => Xz d (fun x0 x5 x6 x7 => JG x0 x5 x6 x7 (fun x0 x2 => (K .ret (tN x0 x2))) (fun x0 => (K (.ext 0) (tV x0)))) | none => none))
noncomputable abbrev QC : List (Nat × Plan × List Nat) := [(4, takeB [0] (.fork (.one 1 (takeB [2, 3, 4, 5, 6, 7, 8, 9, 10, 11, 12] (.fork (.one 13 (takes [14, 15, 16])))))), [])]
noncomputable abbrev QD : List (Nat × Bool × Sm) := [(N.KX, true, aav), (N.qx, true, JF)]
noncomputable abbrev Ku : Env := En QD QC [(2, [0,5,6,7], [0,2], zf)] [] false 0 []
noncomputable abbrev ru := rounds (run Ku (aS F.pG 2)) [0,5,6,7] [0,2]
theorem UM (m : Nat) (x0 : List ak) (x5 : List ak) (x6 : Int) (x7 : Int) (K : Ex → St → Option aj) : ru (m + 1) (nH x0 x5 x6 x7) K = kL x0 x5 x6 x7 (fun x0 x5 x6 x7 => (ru m (nH x0 x5 x6 x7) K)) (fun x0 x2 => (K .ret (tN x0 x2))) (fun x0 => (K (.ext 0) (tV x0))) := by kernel_rfl
theorem N8 (K : Ex → St → Option aj) : ∀ m : Nat, (∀ (x0 : List ak) (x5 : List ak) (x6 : Int) (x7 : Int), ru m (nH x0 x5 x6 x7) K = nI m x0 x5 x6 x7 (fun x0 x2 => (K .ret (tN x0 x2))) (fun x0 => (K (.ext 0) (tV x0))))
 | 0 => (fun _ _ _ _ => rfl)
 | m + 1 => (fun x0 x5 x6 x7 => (by rw [UM, show (fun x0 x5 x6 x7 => (ru m (nH x0 x5 x6 x7) K)) = (fun x0 x5 x6 x7 => (nI m x0 x5 x6 x7 (fun x0 x2 => (K .ret (tN x0 x2))) (fun x0 => (K (.ext 0) (tV x0))))) from funext fun x0 => funext fun x5 => funext fun x6 => funext fun x7 => (N8 K m) x0 x5 x6 x7]; rfl))
theorem RD : dJ Ku (aS F.pG 2) := by
 refine dh (n := 2) (F := zf) (by kernel_rfl) rfl (li := [0,5,6,7]) (lo := [0,2]) rfl (fun σ K r hr => ?_)
 unfold zf at hr
 split at hr
 ·rename_i d hd
  rw [Ss.dY hd]
  exact ⟨_, ((congrArg (fun z => ru _ z K) (UL _ _ _ _)).trans ((N8 K _) _ _ _ _)).trans hr⟩
 ·cases hr
noncomputable def Kv (l : List ak) (K : aj → Option aj) : Option aj := (JG l l (((List.length l) : Nat) : Int) (0 : Int) (fun y0 y1 => K ((.s (.bool y1)), [])) (fun y2 => K ((.s (.bool (decide ((((List.length y2) : Nat) : Int) ≤ (12 : Int))))), [])))
theorem afr (l : List ak) (K : aj → Option aj) : dL Ku true F.pG [.l .no aH l] K = Kv l K := by kernel_rfl
def Tt : Sm := bg [.l aH] (fun d => Nat.ble d.1.length 1048576) (fun d => (bl (oq d.1), []))
theorem afs (l : List ak) (h : (Nat.ble l.length 1048576) = true) (K : aj → Option aj) : Kv l K = K (bl (oq l), []) := by
 have hl := Nat.le_of_ble_eq_true h
 unfold Kv oq
 have q := Aq (R := fun m i => nI m l l ((l.length : Nat) : Int) i (fun y0 y1 => K ((.s (.bool y1)), [])) (fun y2 => K ((.s (.bool (decide ((((List.length y2) : Nat) : Int) ≤ (12 : Int))))), []))) (p := Au l) (n := l.length) (kt := K ((.s (.bool (decide (((l.length : Nat) : Int) ≤ 12)))), [])) (kf := K ((.s (.bool false)), [])) (fun m i hi => by
   show kL l l _ ((i : Nat) : Int) _ _ _ = _
   unfold kL Au
   rw [decide_eq_true (show ((i : Nat) : Int) < ((l.length : Nat) : Int) by omega), decide_eq_true (show (0 : Int) ≤ ((i : Nat) : Int) by omega), Int.toNat_natCast, bW (by omega), show l.getD i aH.dflt = l.getD i fA from rfl]
   cases i with
   | zero =>
    rw [decide_eq_false (show ¬ ((0 : Nat) : Int) > 0 by omega)]
    cases oh (l.getD 0 fA) <;> rfl
   | succ i =>
    rw [wrap_in (n := ((i + 1 : Nat) : Int) - 1) (by omega) (by omega), decide_eq_true (show ((i + 1 : Nat) : Int) > 0 by omega), show ((i + 1 : Nat) : Int) - 1 = ((i : Nat) : Int) by omega, decide_eq_true (show (0 : Int) ≤ ((i : Nat) : Int) by omega), decide_eq_true (show ((i : Nat) : Int) < ((l.length : Nat) : Int) by omega), Int.toNat_natCast, show i + 1 - 1 = i from rfl, show l.getD i aH.dflt = l.getD i fA from rfl, aqI]
    cases oh (l.getD (i + 1) fA) <;> cases VL (l.getD i fA) (l.getD (i + 1) fA) <;> rfl) (fun m => by
   show kL l l _ ((l.length : Nat) : Int) _ _ _ = _
   unfold kL
   rw [decide_eq_false (show ¬ ((l.length : Nat) : Int) < ((l.length : Nat) : Int) by omega)]; rfl) (List.length l + List.length l + ((l.length : Nat) : Int).toNat + (0 : Int).toNat + 2) 0 (by omega) (by omega)
 refine Eq.trans q ?_
 rw [Nat.sub_zero]
 show (bif Ar l.length (Au l) then _ else _) = _
 cases Ar l.length (Au l) <;> cases decide (((l.length : Nat) : Int) ≤ 12) <;> rfl
theorem abt : aV prog I N.pG true Tt := kD (aW (aY afq (aY Rz bn)) (l := QD) (p := QC) (ls := [(2, [0,5,6,7], [0,2], zf)]) (lend := []) (focus := false) (fuel := 0) (give := []) (fn := F.pG) (by kernel_rfl) (by kernel_rfl) (by kernel_rfl) (by kernel_rfl) (cs := [aS F.pG 2]) (by kernel_rfl) (dA RD aK)) (aI fun d K h => (afr d.1 K).trans (afs d.1 h K))
end Go.Ev.Seat
end
section
namespace Go.Ev.Seat
open Go.RowKit
set_option maxRecDepth 100000
set_option linter.unusedVariables false
set_option linter.unusedSimpArgs false
noncomputable abbrev UN : Env := En [] [] [] [] false 0 []
noncomputable def IJ (l : ak) (n : Int) (K : aj → Option aj) : Option aj := K ((.s (.bool (decide (l.2.2.2 > n)))), [])
theorem UO (l : ak) (n : Int) (K : aj → Option aj) : dL UN true F.nY [.a (aH.cells .no l), .s (.int .i64 n)] K = IJ l n K := by kernel_rfl
def IK : Sm := bg [.a aH, .i] (fun d => true) (fun d => (bl (decide (d.1.2.2.2 > d.2.1)), []))
theorem UQ (l : ak) (n : Int) (K : aj → Option aj) : IJ l n K = K (bl (decide (l.2.2.2 > n)), []) := rfl
theorem QE : aV prog I N.nY true IK := kD (aW bn (l := []) (p := []) (ls := []) (lend := []) (focus := false) (fuel := 0) (give := []) (fn := F.nY) (by kernel_rfl) (by kernel_rfl) (by kernel_rfl) (by kernel_rfl) (cs := []) (by kernel_rfl) aK) (aI fun d K h => (UO d.1 d.2.1 K).trans (UQ d.1 d.2.1 K))
end Go.Ev.Seat
end
