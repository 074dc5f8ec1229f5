/- DocPlan: parts FsDocAt Fsl08Edit Fsl08Copy FsDocSince Fsl06Place FsPosMove FsSpanMove FsEditMove FsEditMoves FsDocPlan Futf8wordbytes Futf8Valid FiisText Fiin FiisSession FiareCommits1 FslicesIndexFuncCommit FslicesContainsFuncCommit FslicesClonebytesbyte FiEditcopied FieditsOf Futf8RuneStart FiisCut FiisEdit EvGrow EvConc FiEditdo FiEditsDo FbytesEqual FiareCommits FiisClock FiEditisSmall FiareStacked1 FslicesIndexFuncEdit FslicesContainsFuncEdit FiareStacked FiisStack FslicesGrowEdit FslicesConcatEdit FiEditfits FiareMembers1 FslicesIndexFuncEditFits FslicesContainsFuncEditFits, packed by squash.py. -/
import Derived.Shelf.Spec.SlicesGrow
import Derived.Laws.AppendOwn
import Derived.Test.YtmdnlehoeilmfaaGreatDoorZDocPlan0
import Derived.Test.YtmdnlehoeilmfaaGreatDoorZDocPlan1
import Derived.Test.YtmdnlehoeilmfaaGreatDoorZDocPlan2
import Derived.Test.YtmdnlehoeilmfaaGreatDoorZDocPlan3
import Derived.Test.YtmdnlehoeilmfaaGreatDoorZDocPlan4
set_option linter.unusedVariables false
set_option linter.unusedSimpArgs false
section
namespace Go.Ev.Seat
open Go.RowKit
set_option maxRecDepth 100000
set_option linter.unusedVariables false
set_option linter.unusedSimpArgs false
noncomputable abbrev aky : Env := En [(N.kY, true, pF), (N.fK, false, yG), (N.jK, true, Dq)] [(3, takeB [0, 1, 2, 4] (.fork (.one 3 (takeB [5] (.fork (.one 6 (takes [7, 8, 9, 10, 11])))))), [])] [] [] false 0 []
noncomputable def Vm (d : eU) (v : Int) (K : aj → Option aj) : Option aj := (bif (iZ bT d) then (bif (!(fD d v)) then K ((.t [(.l .deep ah ([] : List Int)), (.s (.bool false))]), []) else (bif (Nat.ble (List.length d.2.2.1) 1048576) then (bif ((decide ((0 : Int) ≤ v)) && (decide (v ≤ (((List.length (dN d.2.2.1)) : Nat) : Int)))) then (bif ((aO d.1) && (iR (Cc.sl ay) (List.take (Int.toNat v) (dN d.2.2.1)))) then K ((.t [(.l .deep ah (bQ d.1 (List.take (Int.toNat v) (dN d.2.2.1))).1), (.s (.bool true))]), []) else none) else none) else none)) else none)
theorem akz (d : eU) (v : Int) (K : aj → Option aj) : dS aky true F.Ru [.a (bT.cells .no d), .s (.int .i64 v)] K = Vm d v K := by kernel_rfl
def acp : Sm := bD [.a bT, .i] (fun d => iZ bT d.1) (fun d => (.t [.l .deep ah (jS d.1 d.2.1), .s (.bool (fD d.1 d.2.1))], []))
theorem akA (d : eU) (v : Int) (h : (iZ bT d) = true) (K : aj → Option aj) : Vm d v K = K (.t [.l .deep ah (jS d v), .s (.bool (fD d v))], []) := by
 obtain ⟨h1, h2, h3, h4, h5⟩ := Eo h
 unfold Vm jS
 rw [h]
 cases hv : fD d v with
 | false => rfl
 | true =>
  obtain ⟨q1, q2, q3⟩ := zU.1 hv
  rw [Nat.ble_eq_true_of_le (iw h3), show ((dN d.2.2.1).length : Nat) = d.2.2.1.length by unfold dN; rw [List.length_map], decide_eq_true q2, decide_eq_true q3, h1, show List.take v.toNat (dN d.2.2.1) = dN (d.2.2.1.take v.toNat) by unfold dN; rw [List.map_take], Ej (Ju h3 _)]
  rfl
theorem agB : aT prog I N.Ru true acp := lN (aU (bf Bq (bf J9 (bf Pj bn))) (l := [(N.kY, true, pF), (N.fK, false, yG), (N.jK, true, Dq)]) (p := [(3, takeB [0, 1, 2, 4] (.fork (.one 3 (takeB [5] (.fork (.one 6 (takes [7, 8, 9, 10, 11])))))), [])]) (ls := []) (lend := []) (focus := false) (fuel := 0) (give := []) (fn := F.Ru) (by kernel_rfl) (by kernel_rfl) (by kernel_rfl) (by kernel_rfl) (cs := []) (by kernel_rfl) aJ) (aK fun d K h => (akz d.1 d.2.1 K).trans (akA d.1 d.2.1 h K))
end Go.Ev.Seat
end
section
namespace Go.Ev.Seat
open Go.RowKit
set_option maxRecDepth 100000
set_option linter.unusedVariables false
set_option linter.unusedSimpArgs false
noncomputable abbrev agC : Env := En [] [(1, takeB [0, 1, 2, 3, 5, 6] (.fork (.one 4 (.fork (.one 7 (takeB [8] (.fork (.one 9 (.done)))))))), [])] [] [] false 0 []
noncomputable def Ny (e : ak) (K : aj → Option aj) : Option aj := (bif (Nat.ble (((List.length ([] : List Int)) + (List.length e.2.2)) * 1) 140737488355328) then K ((.a [(.s (.int .i64 e.1)), (.s (.int .i64 e.2.1)), (.l .deep ah (([] : List Int) ++ e.2.2))]), []) else none)
theorem agD (e : ak) (K : aj → Option aj) : dS agC true F.Je [.a (ay.cells .no e)] K = Ny e K := by kernel_rfl
def WU : Sm := bD [.a ay] (fun d => Nat.ble d.1.2.2.length 1048576) (fun d => (.a (ay.cells .deep d.1), []))
theorem agE (e : ak) (h : (Nat.ble e.2.2.length 1048576) = true) (K : aj → Option aj) : Ny e K = K (.a (ay.cells .deep e), []) := by
 have hl := Nat.le_of_ble_eq_true h
 unfold Ny
 first | rw [Nat.ble_eq_true_of_le (by simp; omega)] | rw [OI hl]
 rfl
theorem abb : aT prog I N.Je true WU := lN (aU bn (l := []) (p := [(1, takeB [0, 1, 2, 3, 5, 6] (.fork (.one 4 (.fork (.one 7 (takeB [8] (.fork (.one 9 (.done)))))))), [])]) (ls := []) (lend := []) (focus := false) (fuel := 0) (give := []) (fn := F.Je) (by kernel_rfl) (by kernel_rfl) (by kernel_rfl) (by kernel_rfl) (cs := []) (by kernel_rfl) aJ) (aK fun d K h => (agD d.1 K).trans (agE d.1 h K))
end Go.Ev.Seat
end
section
namespace Go.Ev.Seat
open Go.RowKit
set_option maxRecDepth 100000
set_option linter.unusedVariables false
set_option linter.unusedSimpArgs false
def xQ (o0 : List ak) : St := { tm := ([.x, .x, .x, (.w 0)] ++ List.replicate 17 .x), ob := [(0, (.arr true true ay o0))], nx := 1, io := [] }
def vK : Ss := { tm := (.cons (.l .no ay) (.cons (.x) (.cons (.x) (.cons (.w 0) (.cons (.int .i64) (Ed 16)))))), ob := (.arr true true ay .nil), nx := 1, io := .nil }
def XD (x0 : List ak) (x4 : Int) (o0 : List ak) : vK.T := ((x0, ((), ((), ((), (x4, xd 16))))), (o0, ()), ())
def qU (x0 : List ak) (x4 : Int) (o0 : List ak) : St := { tm := ([(.l .no ay x0), .x, .x, (.w 0), (.s (.int .i64 x4))] ++ List.replicate 16 .x), ob := [(0, (.arr true true ay o0))], nx := 1, io := [] }
theorem Vo (x0 : List ak) (x4 : Int) (o0 : List ak) : vK.mk' (XD x0 x4 o0) = (qU x0 x4 o0) := by kernel_rfl
def XE (d : vK.T) (f : (List ak) → Int → (List ak) → Option aj) : Option aj := match d with | ((x0, (_, (_, (_, (x4, _))))), (o0, _), _) => f x0 x4 o0
noncomputable def xR (x0 : List ak) (x4 : Int) (o0 : List ak) (pW : (List ak) → Int → (List ak) → Option aj) (k0 : (List ak) → Option aj) : Option aj := (bif (decide (x4 < (((List.length x0) : Nat) : Int))) then (bif ((decide ((0 : Int) ≤ x4)) && (decide (x4 < (((List.length x0) : Nat) : Int)))) then (bif (Nat.ble (List.length (List.getD x0 (Int.toNat x4) (ay.dflt)).2.2) 1048576) then (bif (Nat.ble (((List.length o0) + (List.length ((List.getD x0 (Int.toNat x4) (ay.dflt)) :: []))) * 40) 140737488355328) then (pW x0 (IntKind.wrap .i64 (x4 + (1 : Int))) (o0 ++ ((List.getD x0 (Int.toNat x4) (ay.dflt)) :: []))) else none) else none) else none) else (k0 o0))
noncomputable def qV : Nat → (List ak) → Int → (List ak) → ((List ak) → Option aj) → Option aj
 | 0, _, _, _, _ => none
 | m + 1, x0, x4, o0, k0 => xR x0 x4 o0 (fun x0 x4 o0 => (qV m x0 x4 o0 k0)) k0
noncomputable def La (x0 : List ak) (x4 : Int) (o0 : List ak) (k0 : (List ak) → Option aj) : Option aj := qV (List.length x0 + x4.toNat + List.length o0 + 2) x0 x4 o0 k0
noncomputable def CQ : fG := (fun (σ : St) (K : Ex → St → Option aj) => (match vK.un σ with | some d => XE d (fun x0 x4 o0 => La x0 x4 o0 (fun o0 => (K (.ext 0) (xQ o0)))) | none => none))
noncomputable abbrev SV : List (Nat × Bool × Sm) := [(N.Je, true, WU)]
noncomputable abbrev Nz : Env := En SV [] [(3, [0,3,4], [2,3], CQ)] [] false 0 []
noncomputable abbrev wS := rounds (run Nz (aA F.uX 3)) [0,3,4] [2,3]
theorem Vp (m : Nat) (x0 : List ak) (x4 : Int) (o0 : List ak) (K : Ex → St → Option aj) : wS (m + 1) (qU x0 x4 o0) K = xR x0 x4 o0 (fun x0 x4 o0 => (wS m (qU x0 x4 o0) K)) (fun o0 => (K (.ext 0) (xQ o0))) := by kernel_rfl
theorem Py (K : Ex → St → Option aj) : ∀ m : Nat, (∀ (x0 : List ak) (x4 : Int) (o0 : List ak), wS m (qU x0 x4 o0) K = qV m x0 x4 o0 (fun o0 => (K (.ext 0) (xQ o0))))
 | 0 => (fun _ _ _ => rfl)
 | m + 1 => (fun x0 x4 o0 => (by rw [Vp, show (fun x0 x4 o0 => (wS m (qU x0 x4 o0) K)) = (fun x0 x4 o0 => (qV m x0 x4 o0 (fun o0 => (K (.ext 0) (xQ o0))))) from funext fun x0 => funext fun x4 => funext fun o0 => (Py K m) x0 x4 o0]; rfl))
theorem S9 : dL Nz (aA F.uX 3) := by
 refine dG (n := 3) (F := CQ) (by kernel_rfl) rfl (li := [0,3,4]) (lo := [2,3]) rfl (fun σ K r hr => ?_)
 unfold CQ at hr
 split at hr
 ·rename_i d hd
  rw [Ss.fF hd]
  exact ⟨_, ((congrArg (fun z => wS _ z K) (Vo _ _ _)).trans ((Py K _) _ _ _)).trans hr⟩
 ·cases hr
noncomputable def NC (l : List ak) (K : aj → Option aj) : Option aj := (La l (0 : Int) [] (fun y0 => K ((.l .deep ay y0), [])))
theorem agF (l : List ak) (K : aj → Option aj) : dS Nz true F.uX [.l .no ay l] K = NC l K := by kernel_rfl
def ND : Sm := bD [.l ay] (fun d => iR (.sl ay) d.1) (fun d => (.l .deep ay d.1, []))
theorem agG (l : List ak) (h : (iR (.sl ay) l) = true) (K : aj → Option aj) : NC l K = K (.l .deep ay l, []) := by
 have hl := iw h
 unfold NC
 have q : ∀ (m i : Nat), i ≤ l.length → l.length - i < m → qV m l ((i : Nat) : Int) (l.take i) (fun y0 => K ((.l .deep ay y0), [])) = K ((.l .deep ay l), []) := by
  intro m
  induction m with
  | zero => intro i _ hm; omega
  | succ m ih =>
   intro i hi hm
   show xR l ((i : Nat) : Int) (l.take i) _ _ = _
   unfold xR
   by_cases hlt : i < l.length
   ·have hx : iZ ay (l.getD i ay.dflt) = true := Jt h rfl i
    have hx2 : (fun x : ak => Nat.ble (List.length x.2.2) 1048576) (l.getD i ay.dflt) = true := (fun (x : ak) (hx : iZ ay x = true) => Nat.ble_eq_true_of_le (oP (MS hx))) _ hx
    have ht := take_snoc ay.dflt hlt
    dsimp only at hx2
    rw [decide_eq_true (show ((i : Nat) : Int) < ((l.length : Nat) : Int) by omega), decide_eq_true (show (0 : Int) ≤ ((i : Nat) : Int) by omega), Int.toNat_natCast, bY (by omega), hx2, Nat.ble_eq_true_of_le (show ((l.take i).length + [l.getD i ay.dflt].length) * 40 ≤ 140737488355328 by simp only [List.length_take, List.length_cons, List.length_nil]; omega), ht]
    exact ih (i + 1) (by omega) (by omega)
   ·obtain rfl : i = l.length := by omega
    rw [decide_eq_false (show ¬ ((l.length : Nat) : Int) < ((l.length : Nat) : Int) by omega), List.take_length]; rfl
 exact q _ 0 (by omega) (by omega)
theorem abd : aT prog I N.uX true ND := lN (aU (bf abb bn) (l := SV) (p := []) (ls := [(3, [0,3,4], [2,3], CQ)]) (lend := []) (focus := false) (fuel := 0) (give := []) (fn := F.uX) (by kernel_rfl) (by kernel_rfl) (by kernel_rfl) (by kernel_rfl) (cs := [aA F.uX 3]) (by kernel_rfl) (dw S9 aJ)) (aK fun d K h => (agF d.1 K).trans (agG d.1 h K))
end Go.Ev.Seat
end
section
namespace Go.Ev.Seat
open Go.RowKit
set_option maxRecDepth 100000
set_option linter.unusedVariables false
set_option linter.unusedSimpArgs false
noncomputable abbrev aef : Env := En [(N.kY, true, pF), (N.fK, false, yG), (N.uX, true, ND)] [] [] [] false 0 []
noncomputable def Ky (d : eU) (v : Int) (K : aj → Option aj) : Option aj := (bif (iZ bT d) then (bif (!(fD d v)) then K ((.t [(.l .deep ay []), (.s (.bool false))]), []) else (bif (Nat.ble (List.length d.2.2.1) 1048576) then (bif ((decide ((0 : Int) ≤ v)) && (decide (v ≤ (((List.length (dN d.2.2.1)) : Nat) : Int)))) then (bif (iR (Cc.sl ay) (List.drop (Int.toNat v) (dN d.2.2.1))) then K ((.t [(.l .deep ay (List.drop (Int.toNat v) (dN d.2.2.1))), (.s (.bool true))]), []) else none) else none) else none)) else none)
theorem aeg (d : eU) (v : Int) (K : aj → Option aj) : dS aef true F.Fh [.a (bT.cells .no d), .s (.int .i64 v)] K = Ky d v K := by kernel_rfl
def Tc : Sm := bD [.a bT, .i] (fun d => iZ bT d.1) (fun d => (.t [.l .deep ay (eH d.1 d.2.1), .s (.bool (fD d.1 d.2.1))], []))
theorem aeh (d : eU) (v : Int) (h : (iZ bT d) = true) (K : aj → Option aj) : Ky d v K = K (.t [.l .deep ay (eH d v), .s (.bool (fD d v))], []) := by
 obtain ⟨h1, h2, h3, h4, h5⟩ := Eo h
 unfold Ky eH
 rw [h]
 cases hv : fD d v with
 | false => rfl
 | true =>
  obtain ⟨q1, q2, q3⟩ := zU.1 hv
  rw [Nat.ble_eq_true_of_le (iw h3), show ((dN d.2.2.1).length : Nat) = d.2.2.1.length by unfold dN; rw [List.length_map], decide_eq_true q2, decide_eq_true q3, show List.drop v.toNat (dN d.2.2.1) = dN (d.2.2.1.drop v.toNat) by unfold dN; rw [List.map_drop], Ej (UR h3 _)]
  rfl
theorem ZT : aT prog I N.Fh true Tc := lN (aU (bf Bq (bf J9 (bf abd bn))) (l := [(N.kY, true, pF), (N.fK, false, yG), (N.uX, true, ND)]) (p := []) (ls := []) (lend := []) (focus := false) (fuel := 0) (give := []) (fn := F.Fh) (by kernel_rfl) (by kernel_rfl) (by kernel_rfl) (by kernel_rfl) (cs := []) (by kernel_rfl) aJ) (aK fun d K h => (aeg d.1 d.2.1 K).trans (aeh d.1 d.2.1 h K))
end Go.Ev.Seat
end
section
namespace Go.Ev.Seat
open Go.RowKit
set_option maxRecDepth 100000
set_option linter.unusedVariables false
set_option linter.unusedSimpArgs false
noncomputable abbrev aei : Env := En [] [] [] [] false 0 []
noncomputable def Kz (p : Int) (K : aj → Option aj) : Option aj := (bif (decide (p ≥ (0 : Int))) then K ((.s (.bool (decide (p ≤ (800 : Int))))), []) else K ((.s (.bool false)), []))
theorem aej (p : Int) (K : aj → Option aj) : dS aei true F.Bg [.s (.int .i64 p)] K = Kz p K := by kernel_rfl
def KA : Sm := bD [.i] (fun d => true) (fun d => (bl (gX d.1), []))
theorem aek (p : Int) (K : aj → Option aj) : Kz p K = K (bl (gX p), []) := by
 unfold Kz gX
 rw [show decide (p ≥ 0) = decide (0 ≤ p) from rfl]
 cases decide (0 ≤ p) <;> rfl
theorem ZU : aT prog I N.Bg true KA := lN (aU bn (l := []) (p := []) (ls := []) (lend := []) (focus := false) (fuel := 0) (give := []) (fn := F.Bg) (by kernel_rfl) (by kernel_rfl) (by kernel_rfl) (by kernel_rfl) (cs := []) (by kernel_rfl) aJ) (aK fun d K h => (aej d.1 K).trans (aek d.1 K))
end Go.Ev.Seat
end
section
namespace Go.Ev.Seat
open Go.RowKit
set_option maxRecDepth 100000
set_option linter.unusedVariables false
set_option linter.unusedSimpArgs false
noncomputable abbrev agH : Env := En [(N.Bg, true, KA), (N.lT, true, nD)] [] [] [] false 0 []
noncomputable def NG (p : Int) (r : Bool) (e : ak) (K : aj → Option aj) : Option aj := (bif (!(gX p)) then K ((.s (.int .i64 (-(1 : Int)))), []) else (bif (!(bg e)) then K ((.s (.int .i64 (-(1 : Int)))), []) else (bif (decide (p < e.1)) then K ((.s (.int .i64 p)), []) else (bif (p == e.1) then (bif r then K ((.s (.int .i64 (IntKind.wrap .i64 (e.1 + (((List.length e.2.2) : Nat) : Int))))), []) else K ((.s (.int .i64 e.1)), [])) else (bif (decide (p < (IntKind.wrap .i64 (e.1 + e.2.1)))) then (bif r then K ((.s (.int .i64 (IntKind.wrap .i64 (e.1 + (((List.length e.2.2) : Nat) : Int))))), []) else K ((.s (.int .i64 e.1)), [])) else K ((.s (.int .i64 (IntKind.wrap .i64 ((IntKind.wrap .i64 (p - e.2.1)) + (((List.length e.2.2) : Nat) : Int))))), []))))))
theorem agI (p : Int) (r : Bool) (e : ak) (K : aj → Option aj) : dS agH true F.EX [.s (.int .i64 p), .s (.bool r), .a (ay.cells .no e)] K = NG p r e K := by kernel_rfl
def NH : Sm := bD [.i, .b, .a ay] (fun d => true) (fun d => (.s (.int .i64 (bif gX d.1 && bg d.2.2.1 then bV d.2.2.1 d.1 d.2.1 else -1)), []))
theorem agJ (p : Int) (r : Bool) (e : ak) (K : aj → Option aj) : NG p r e K = K (.s (.int .i64 (bif gX p && bg e then bV e p r else -1)), []) := by
 unfold NG
 cases hp : gX p with
 | false => rfl
 | true =>
 cases HS : bg e with
 | false => rfl
 | true =>
 have hp' := og.1 hp
 have q := qo.1 HS
 rw [wrap_in (n := e.1 + ((e.2.2.length : Nat) : Int)) (by omega) (by omega), wrap_in (n := e.1 + e.2.1) (by omega) (by omega), wrap_in (n := p - e.2.1) (by omega) (by omega), wrap_in (n := p - e.2.1 + ((e.2.2.length : Nat) : Int)) (by omega) (by omega)]
 unfold bV
 cases decide (p < e.1)
 ·cases (p == e.1)
  ·cases decide (p < e.1 + e.2.1)
   ·rfl
   ·cases r <;> rfl
  ·cases r <;> rfl
 ·rfl
theorem abe : aT prog I N.EX true NH := lN (aU (bf ZU (bf zI bn)) (l := [(N.Bg, true, KA), (N.lT, true, nD)]) (p := []) (ls := []) (lend := []) (focus := false) (fuel := 0) (give := []) (fn := F.EX) (by kernel_rfl) (by kernel_rfl) (by kernel_rfl) (by kernel_rfl) (cs := []) (by kernel_rfl) aJ) (aK fun d K h => (agI d.1 d.2.1 d.2.2.1 K).trans (agJ d.1 d.2.1 d.2.2.1 K))
end Go.Ev.Seat
end
section
namespace Go.Ev.Seat
open Go.RowKit
set_option maxRecDepth 100000
set_option linter.unusedVariables false
set_option linter.unusedSimpArgs false
noncomputable abbrev ael : Env := En [(N.EX, true, NH)] [] [] [] false 0 []
noncomputable def KC (i : Int) (j : Int) (e : ak) (K : aj → Option aj) : Option aj := (bif (decide ((bif ((gX i) && (bg e)) then (bV e i true) else (-(1 : Int))) < (0 : Int))) then K ((.t [(.s (.int .i64 (-(1 : Int)))), (.s (.int .i64 (-(1 : Int))))]), []) else (bif (decide ((bif ((gX j) && (bg e)) then (bV e j false) else (-(1 : Int))) < (0 : Int))) then K ((.t [(.s (.int .i64 (-(1 : Int)))), (.s (.int .i64 (-(1 : Int))))]), []) else (bif (decide (j < i)) then K ((.t [(.s (.int .i64 (-(1 : Int)))), (.s (.int .i64 (-(1 : Int))))]), []) else (bif (i == j) then K ((.t [(.s (.int .i64 (bif ((gX i) && (bg e)) then (bV e i true) else (-(1 : Int))))), (.s (.int .i64 (bif ((gX i) && (bg e)) then (bV e i true) else (-(1 : Int)))))]), []) else K ((.t [(.s (.int .i64 (bif ((gX i) && (bg e)) then (bV e i true) else (-(1 : Int))))), (.s (.int .i64 (if (bif ((gX j) && (bg e)) then (bV e j false) else (-(1 : Int))) > (bif ((gX i) && (bg e)) then (bV e i true) else (-(1 : Int))) then (bif ((gX j) && (bg e)) then (bV e j false) else (-(1 : Int))) else (bif ((gX i) && (bg e)) then (bV e i true) else (-(1 : Int))))))]), [])))))
theorem aem (i : Int) (j : Int) (e : ak) (K : aj → Option aj) : dS ael true F.Bc [.s (.int .i64 i), .s (.int .i64 j), .a (ay.cells .no e)] K = KC i j e K := by kernel_rfl
def KD : Sm := bD [.i, .i, .a ay] (fun d => gX d.1 && gX d.2.1 && bg d.2.2.1 && decide (d.1 ≤ d.2.1)) (fun d => (.t [.s (.int .i64 (MO d.2.2.1 d.1 d.2.1).1), .s (.int .i64 (MO d.2.2.1 d.1 d.2.1).2)], []))
theorem aen (i : Int) (j : Int) (e : ak) (h : (gX i && gX j && bg e && decide (i ≤ j)) = true) (K : aj → Option aj) : KC i j e K = K (.t [.s (.int .i64 (MO e i j).1), .s (.int .i64 (MO e i j).2)], []) := by
 simp only [Bool.and_eq_true, decide_eq_true_eq] at h
 obtain ⟨⟨⟨hi, hj⟩, he⟩, hij⟩ := h
 have hi' := og.1 hi
 have hj' := og.1 hj
 have p1 := oh (p := i) true he (by omega)
 have p2 := oh (p := j) false he (by omega)
 unfold KC MO
 rw [hi, hj, he]
 simp only [Bool.and_self, cond_true]
 rw [decide_eq_false (show ¬ bV e i true < 0 by omega), decide_eq_false (show ¬ bV e j false < 0 by omega), decide_eq_false (show ¬ j < i by omega)]
 cases (i == j)
 ·show K (.t [_, .s (.int .i64 (if bV e j false > bV e i true then bV e j false else bV e i true))], []) = K (.t [_, .s (.int .i64 (max (bV e i true) (bV e j false)))], [])
  rw [show (if bV e j false > bV e i true then bV e j false else bV e i true) = max (bV e i true) (bV e j false) by split <;> omega]
 ·rfl
theorem ZV : aT prog I N.Bc true KD := lN (aU (bf abe bn) (l := [(N.EX, true, NH)]) (p := []) (ls := []) (lend := []) (focus := false) (fuel := 0) (give := []) (fn := F.Bc) (by kernel_rfl) (by kernel_rfl) (by kernel_rfl) (by kernel_rfl) (cs := []) (by kernel_rfl) aJ) (aK fun d K h => (aem d.1 d.2.1 d.2.2.1 K).trans (aen d.1 d.2.1 d.2.2.1 h K))
end Go.Ev.Seat
end
section
namespace Go.Ev.Seat
open Go.RowKit
set_option maxRecDepth 100000
set_option linter.unusedVariables false
set_option linter.unusedSimpArgs false
noncomputable abbrev aeo : Env := En [(N.lT, true, nD), (N.Bc, true, KD)] [] [] [] false 0 []
noncomputable def KE (e : ak) (b : ak) (K : aj → Option aj) : Option aj := (bif (!(bg e)) then K ((.t [(.a [(.s (.int .i64 (0 : Int))), (.s (.int .i64 (0 : Int))), (.l .deep ah ([] : List Int))]), (.s (.bool false))]), []) else (bif (!(bg b)) then K ((.t [(.a [(.s (.int .i64 (0 : Int))), (.s (.int .i64 (0 : Int))), (.l .deep ah ([] : List Int))]), (.s (.bool false))]), []) else (bif ((((gX e.1) && (gX (IntKind.wrap .i64 (e.1 + e.2.1)))) && (bg b)) && (decide (e.1 ≤ (IntKind.wrap .i64 (e.1 + e.2.1))))) then (bif (Nat.ble (((List.length ([] : List Int)) + (List.length e.2.2)) * 1) 140737488355328) then K ((.t [(.a [(.s (.int .i64 (bV b e.1 true))), (.s (.int .i64 (IntKind.wrap .i64 ((bif (e.1 == (IntKind.wrap .i64 (e.1 + e.2.1))) then (bV b e.1 true) else (Max.max (bV b e.1 true) (bV b (IntKind.wrap .i64 (e.1 + e.2.1)) false))) - (bV b e.1 true))))), (.l .deep ah (([] : List Int) ++ e.2.2))]), (.s (.bool true))]), []) else none) else none)))
theorem aep (e : ak) (b : ak) (K : aj → Option aj) : dS aeo true F.FM [.a (ay.cells .no e), .a (ay.cells .no b)] K = KE e b K := by kernel_rfl
def Td : Sm := bD [.a ay, .a ay] (fun d => Nat.ble d.1.2.2.length 1048576) (fun d => (.t [.a (ay.cells .deep (Az d.1 d.2.1).1), bl (Az d.1 d.2.1).2], []))
theorem aer (e : ak) (b : ak) (h : (Nat.ble e.2.2.length 1048576) = true) (K : aj → Option aj) : KE e b K = K (.t [.a (ay.cells .deep (Az e b).1), bl (Az e b).2], []) := by
 have hl := Nat.le_of_ble_eq_true h
 unfold KE Az
 cases ha : bg e with
 | false => rfl
 | true =>
 cases hb : bg b with
 | false => rfl
 | true =>
 have ha' := qo.1 ha
 have hb' := qo.1 hb
 have p1 := oh (p := e.1) true hb (by omega)
 have p2 := oh (p := e.1 + e.2.1) false hb (by omega)
 have hr := RZ ha hb
 have e3 : (jh e b).2.1 = (bif (e.1 == e.1 + e.2.1) then bV b e.1 true else max (bV b e.1 true) (bV b (e.1 + e.2.1) false)) - bV b e.1 true := rfl
 rw [e3] at hr
 rw [Nat.ble_eq_true_of_le (by simp; omega), wrap_in (n := e.1 + e.2.1) (by omega) (by omega), og.2 (show 0 ≤ e.1 ∧ e.1 ≤ 800 by omega), og.2 (show 0 ≤ e.1 + e.2.1 ∧ e.1 + e.2.1 ≤ 800 by omega), decide_eq_true (show e.1 ≤ e.1 + e.2.1 by omega), wrap_in (n := (bif (e.1 == e.1 + e.2.1) then bV b e.1 true else max (bV b e.1 true) (bV b (e.1 + e.2.1) false)) - bV b e.1 true) (by omega) (by omega)]
 rfl
theorem ZW : aT prog I N.FM true Td := lN (aU (bf zI (bf ZV bn)) (l := [(N.lT, true, nD), (N.Bc, true, KD)]) (p := []) (ls := []) (lend := []) (focus := false) (fuel := 0) (give := []) (fn := F.FM) (by kernel_rfl) (by kernel_rfl) (by kernel_rfl) (by kernel_rfl) (cs := []) (by kernel_rfl) aJ) (aK fun d K h => (aep d.1 d.2.1 K).trans (aer d.1 d.2.1 h K))
end Go.Ev.Seat
end
section
namespace Go.Ev.Seat
open Go.RowKit
set_option maxRecDepth 100000
set_option linter.unusedVariables false
set_option linter.unusedSimpArgs false
def sQ (x5 : Bool) (b00 : Int) (b01 : Int) (b10 : Int) (b11 : Int) (o2 : List Int) : St := { tm := ([.x, .x, .x, .x, (.pb 0 0), (.s (.bool x5)), (.pb 1 0)] ++ List.replicate 36 .x), ob := [(0, (.box [(.s (.int .i64 b00)), (.s (.int .i64 b01)), .nl])), (1, (.box [(.s (.int .i64 b10)), (.s (.int .i64 b11)), (.w 2)])), (2, (.arr true true ah o2))], nx := 3, io := [] }
def sS (b00 : Int) (b01 : Int) (b10 : Int) (b11 : Int) (o2 : List Int) : St := { tm := ([.x, .x, .x, .x, (.pb 0 0), .x, (.pb 1 0)] ++ List.replicate 36 .x), ob := [(0, (.box [(.s (.int .i64 b00)), (.s (.int .i64 b01)), .nl])), (1, (.box [(.s (.int .i64 b10)), (.s (.int .i64 b11)), (.w 2)])), (2, (.arr true true ah o2))], nx := 3, io := [] }
def qB : Ss := { tm := (.cons (.x) (.cons (.l .no ay) (.cons (.x) (.cons (.x) (.cons (.pb 0 0) (.cons (.x) (.cons (.pb 1 0) (.cons (.int .i64) (Ed 35))))))))), ob := (.box (.cons (.int .i64) (.cons (.int .i64) (.cons (.nl) .nil))) (.box (.cons (.int .i64) (.cons (.int .i64) (.cons (.w 2) .nil))) (.arr true true ah .nil))), nx := 3, io := .nil }
def Tf (x1 : List ak) (x7 : Int) (b00 : Int) (b01 : Int) (b10 : Int) (b11 : Int) (o2 : List Int) : qB.T := (((), (x1, ((), ((), ((), ((), ((), (x7, xd 35)))))))), ((b00, (b01, ((), ()))), ((b10, (b11, ((), ()))), (o2, ()))), ())
def nK (x1 : List ak) (x7 : Int) (b00 : Int) (b01 : Int) (b10 : Int) (b11 : Int) (o2 : List Int) : St := { tm := ([.x, (.l .no ay x1), .x, .x, (.pb 0 0), .x, (.pb 1 0), (.s (.int .i64 x7))] ++ List.replicate 35 .x), ob := [(0, (.box [(.s (.int .i64 b00)), (.s (.int .i64 b01)), .nl])), (1, (.box [(.s (.int .i64 b10)), (.s (.int .i64 b11)), (.w 2)])), (2, (.arr true true ah o2))], nx := 3, io := [] }
theorem Qy (x1 : List ak) (x7 : Int) (b00 : Int) (b01 : Int) (b10 : Int) (b11 : Int) (o2 : List Int) : qB.mk' (Tf x1 x7 b00 b01 b10 b11 o2) = (nK x1 x7 b00 b01 b10 b11 o2) := by kernel_rfl
def Ti (d : qB.T) (f : (List ak) → Int → Int → Int → Int → Int → (List Int) → Option aj) : Option aj := match d with | ((_, (x1, (_, (_, (_, (_, (_, (x7, _)))))))), ((b00, (b01, (_, _))), ((b10, (b11, (_, _))), (o2, _))), _) => f x1 x7 b00 b01 b10 b11 o2
noncomputable def sU (x1 : List ak) (x7 : Int) (b00 : Int) (b01 : Int) (b10 : Int) (b11 : Int) (o2 : List Int) (pW : (List ak) → Int → Int → Int → Int → Int → (List Int) → Option aj) (k0 : Bool → Int → Int → Int → Int → (List Int) → Option aj) (k1 : Int → Int → Int → Int → (List Int) → Option aj) : Option aj := (bif (decide (x7 < (((List.length x1) : Nat) : Int))) then (bif ((decide ((0 : Int) ≤ x7)) && (decide (x7 < (((List.length x1) : Nat) : Int)))) then (meet ((bif (Nat.ble (List.length o2) 1048576) then (bif (!(Az (b10, (b11, o2)) (List.getD x1 (Int.toNat x7) (ay.dflt))).2) then (k0 false (0 : Int) (0 : Int) b10 b11 o2) else (pW x1 (IntKind.wrap .i64 (x7 + (1 : Int))) b00 b01 (Az (b10, (b11, o2)) (List.getD x1 (Int.toNat x7) (ay.dflt))).1.1 (Az (b10, (b11, o2)) (List.getD x1 (Int.toNat x7) (ay.dflt))).1.2.1 (Az (b10, (b11, o2)) (List.getD x1 (Int.toNat x7) (ay.dflt))).1.2.2)) else none)) ((bif (Nat.ble (List.length o2) 1048576) then (bif (!(Az (b10, (b11, o2)) (List.getD x1 (Int.toNat x7) (ay.dflt))).2) then (k0 false (0 : Int) (0 : Int) b10 b11 o2) else (pW x1 (IntKind.wrap .i64 (x7 + (1 : Int))) b00 b01 (Az (b10, (b11, o2)) (List.getD x1 (Int.toNat x7) (ay.dflt))).1.1 (Az (b10, (b11, o2)) (List.getD x1 (Int.toNat x7) (ay.dflt))).1.2.1 (Az (b10, (b11, o2)) (List.getD x1 (Int.toNat x7) (ay.dflt))).1.2.2)) else none))) else none) else (k1 b00 b01 b10 b11 o2))
noncomputable def jo : Nat → (List ak) → Int → Int → Int → Int → Int → (List Int) → (Bool → Int → Int → Int → Int → (List Int) → Option aj) → (Int → Int → Int → Int → (List Int) → Option aj) → Option aj
 | 0, _, _, _, _, _, _, _, _, _ => none
 | m + 1, x1, x7, b00, b01, b10, b11, o2, k0, k1 => sU x1 x7 b00 b01 b10 b11 o2 (fun x1 x7 b00 b01 b10 b11 o2 => (jo m x1 x7 b00 b01 b10 b11 o2 k0 k1)) k0 k1
noncomputable def nM (x1 : List ak) (x7 : Int) (b00 : Int) (b01 : Int) (b10 : Int) (b11 : Int) (o2 : List Int) (k0 : Bool → Int → Int → Int → Int → (List Int) → Option aj) (k1 : Int → Int → Int → Int → (List Int) → Option aj) : Option aj := jo (List.length x1 + x7.toNat + b00.toNat + b01.toNat + b10.toNat + b11.toNat + List.length o2 + 2) x1 x7 b00 b01 b10 b11 o2 k0 k1
noncomputable def xU : fG := (fun (σ : St) (K : Ex → St → Option aj) => (match qB.un σ with | some d => Ti d (fun x1 x7 b00 b01 b10 b11 o2 => nM x1 x7 b00 b01 b10 b11 o2 (fun x5 b00 b01 b10 b11 o2 => (K .ret (sQ x5 b00 b01 b10 b11 o2))) (fun b00 b01 b10 b11 o2 => (K (.ext 0) (sS b00 b01 b10 b11 o2)))) | none => none))
noncomputable abbrev NI : List (Nat × Plan × List Nat) := [(3, takeB [0, 1, 2, 3, 5, 6] (.fork (.more 4 (.fork (.more 7 (takeB [8] (.fork (.one 9 (.fork (.one 10 (.done)))))) (.one 9 (.fork (.one 7 (takeB [8] (.fork (.one 10 (.done))))))))) (.one 9 (.fork (.one 4 (.fork (.one 7 (takeB [8] (.fork (.one 10 (.done))))))))))), []), (7, takeB [0, 1, 2, 3, 4] (.fork (.more 5 (takeB [6, 7, 8] (.fork (.one 9 (.fork (.one 10 (takes [11])))))) (.one 9 (.fork (.one 5 (takeB [6, 7, 8] (.fork (.one 10 (takes [11]))))))))), [])]
noncomputable abbrev NJ : List (Nat × Bool × Sm) := [(N.lT, true, nD), (N.FM, true, Td)]
noncomputable abbrev IE : Env := En NJ NI [(5, [1,4,6,7], [4,5,6], xU)] [] false 0 []
noncomputable abbrev qW := rounds (run IE (aA F.pY 5)) [1,4,6,7] [4,5,6]
theorem Qz (m : Nat) (x1 : List ak) (x7 : Int) (b00 : Int) (b01 : Int) (b10 : Int) (b11 : Int) (o2 : List Int) (K : Ex → St → Option aj) : qW (m + 1) (nK x1 x7 b00 b01 b10 b11 o2) K = sU x1 x7 b00 b01 b10 b11 o2 (fun x1 x7 b00 b01 b10 b11 o2 => (qW m (nK x1 x7 b00 b01 b10 b11 o2) K)) (fun x5 b00 b01 b10 b11 o2 => (K .ret (sQ x5 b00 b01 b10 b11 o2))) (fun b00 b01 b10 b11 o2 => (K (.ext 0) (sS b00 b01 b10 b11 o2))) := by kernel_rfl
theorem Lc (K : Ex → St → Option aj) : ∀ m : Nat, (∀ (x1 : List ak) (x7 : Int) (b00 : Int) (b01 : Int) (b10 : Int) (b11 : Int) (o2 : List Int), qW m (nK x1 x7 b00 b01 b10 b11 o2) K = jo m x1 x7 b00 b01 b10 b11 o2 (fun x5 b00 b01 b10 b11 o2 => (K .ret (sQ x5 b00 b01 b10 b11 o2))) (fun b00 b01 b10 b11 o2 => (K (.ext 0) (sS b00 b01 b10 b11 o2))))
 | 0 => (fun _ _ _ _ _ _ _ => rfl)
 | m + 1 => (fun x1 x7 b00 b01 b10 b11 o2 => (by rw [Qz, show (fun x1 x7 b00 b01 b10 b11 o2 => (qW m (nK x1 x7 b00 b01 b10 b11 o2) K)) = (fun x1 x7 b00 b01 b10 b11 o2 => (jo m x1 x7 b00 b01 b10 b11 o2 (fun x5 b00 b01 b10 b11 o2 => (K .ret (sQ x5 b00 b01 b10 b11 o2))) (fun b00 b01 b10 b11 o2 => (K (.ext 0) (sS b00 b01 b10 b11 o2))))) from funext fun x1 => funext fun x7 => funext fun b00 => funext fun b01 => funext fun b10 => funext fun b11 => funext fun o2 => (Lc K m) x1 x7 b00 b01 b10 b11 o2]; rfl))
theorem OT : dL IE (aA F.pY 5) := by
 refine dG (n := 5) (F := xU) (by kernel_rfl) rfl (li := [1,4,6,7]) (lo := [4,5,6]) rfl (fun σ K r hr => ?_)
 unfold xU at hr
 split at hr
 ·rename_i d hd
  rw [Ss.fF hd]
  exact ⟨_, ((congrArg (fun z => qW _ z K) (Qy _ _ _ _ _ _ _)).trans ((Lc K _) _ _ _ _ _ _ _)).trans hr⟩
 ·cases hr
noncomputable def IG (e : ak) (l : List ak) (K : aj → Option aj) : Option aj := (bif (!(bg e)) then K ((.t [(.a [(.s (.int .i64 (0 : Int))), (.s (.int .i64 (0 : Int))), (.l .deep ah ([] : List Int))]), (.s (.bool false))]), []) else (meet ((meet ((bif (Nat.ble (((List.length ([] : List Int)) + (List.length e.2.2)) * 1) 140737488355328) then (nM l (0 : Int) (0 : Int) (0 : Int) e.1 e.2.1 (([] : List Int) ++ e.2.2) (fun y0 y1 y2 y3 y4 y5 => K ((.t [(.a [(.s (.int .i64 y1)), (.s (.int .i64 y2)), (.l .deep ah ([] : List Int))]), (.s (.bool y0))]), [])) (fun y6 y7 y8 y9 y10 => K ((.t [(.a [(.s (.int .i64 y8)), (.s (.int .i64 y9)), (.l .deep ah y10)]), (.s (.bool true))]), []))) else none)) ((bif (Nat.ble (((List.length ([] : List Int)) + (List.length e.2.2)) * 1) 140737488355328) then (nM l (0 : Int) (0 : Int) (0 : Int) e.1 e.2.1 (([] : List Int) ++ e.2.2) (fun y11 y12 y13 y14 y15 y16 => K ((.t [(.a [(.s (.int .i64 y12)), (.s (.int .i64 y13)), (.l .deep ah ([] : List Int))]), (.s (.bool y11))]), [])) (fun y17 y18 y19 y20 y21 => K ((.t [(.a [(.s (.int .i64 y19)), (.s (.int .i64 y20)), (.l .deep ah y21)]), (.s (.bool true))]), []))) else none)))) ((bif (Nat.ble (((List.length ([] : List Int)) + (List.length e.2.2)) * 1) 140737488355328) then (nM l (0 : Int) (0 : Int) (0 : Int) e.1 e.2.1 (([] : List Int) ++ e.2.2) (fun y22 y23 y24 y25 y26 y27 => K ((.t [(.a [(.s (.int .i64 y23)), (.s (.int .i64 y24)), (.l .deep ah ([] : List Int))]), (.s (.bool y22))]), [])) (fun y28 y29 y30 y31 y32 => K ((.t [(.a [(.s (.int .i64 y30)), (.s (.int .i64 y31)), (.l .deep ah y32)]), (.s (.bool true))]), []))) else none))))
theorem abf (e : ak) (l : List ak) (K : aj → Option aj) : dS IE true F.pY [.a (ay.cells .no e), .l .no ay l] K = IG e l K := by kernel_rfl
theorem agK {l : List ak} {X : Option aj} {k0 : Bool → Int → Int → Int → Int → (List Int) → Option aj} {k1 : Int → Int → Int → Int → (List Int) → Option aj} (hX : ∀ a b c, k0 false 0 0 a b c = X) (hl : l.length ≤ 1048576) : ∀ (m i : Nat) (e : ak), i ≤ l.length → l.length - i < m → e.2.2.length ≤ 1048576 →
  jo m l (i : Int) 0 0 e.1 e.2.1 e.2.2 k0 k1 = bif (yF (l.drop i) e).2 then k1 0 0 (yF (l.drop i) e).1.1 (yF (l.drop i) e).1.2.1 (yF (l.drop i) e).1.2.2 else X
 | 0, i, e, _, h, _ => absurd h (by omega)
 | m + 1, i, e, h1, h2, h3 => by
  show sU l (i : Int) 0 0 e.1 e.2.1 e.2.2 _ _ _ = _
  unfold sU
  by_cases h : i < l.length
  ·rw [decide_eq_true (show ((i : Nat) : Int) < ((l.length : Nat) : Int) by omega), decide_eq_true (show (0 : Int) ≤ ((i : Nat) : Int) by omega), Int.toNat_natCast, bY (by omega), getD_lt _ h, meet_self, Nat.ble_eq_true_of_le h3, List.drop_eq_getElem_cons h]
   simp only [yF]
   show (bif !(Az e l[i]).2 then k0 false 0 0 e.1 e.2.1 e.2.2 else jo m l ((i + 1 : Nat) : Int) 0 0 (Az e l[i]).1.1 (Az e l[i]).1.2.1 (Az e l[i]).1.2.2 k0 k1) = _
   unfold Az
   cases hs : (bg e && bg l[i]) with
   | false => exact hX _ _ _
   | true => exact agK hX hl m (i + 1) (jh e l[i]) (by omega) (by omega) h3
  ·obtain rfl : i = l.length := by omega
   rw [decide_eq_false (show ¬ ((l.length : Nat) : Int) < ((l.length : Nat) : Int) by omega), List.drop_length]; rfl
def Pz : Sm := bD [.a ay, .l ay] (fun d => iR (.sl ay) d.2.1 && Nat.ble d.1.2.2.length 1048576) (fun d => (.t [.a (ay.cells .deep (wC d.1 d.2.1).1), bl (wC d.1 d.2.1).2], []))
theorem abg (e : ak) (l : List ak) (h : (iR (.sl ay) l && Nat.ble e.2.2.length 1048576) = true) (K : aj → Option aj) : IG e l K = K (.t [.a (ay.cells .deep (wC e l).1), bl (wC e l).2], []) := by
 obtain ⟨h1, h2⟩ := (Bool.and_eq_true _ _).mp h
 have hl := iw h1
 have hp := Nat.le_of_ble_eq_true h2
 unfold IG wC
 cases hs : bg e with
 | false => rfl
 | true =>
  have e0 : ∀ k0 k1, nM l 0 0 0 e.1 e.2.1 ([] ++ e.2.2) k0 k1 = jo (List.length l + (0 : Int).toNat + (0 : Int).toNat + (0 : Int).toNat + e.1.toNat + e.2.1.toNat + List.length ([] ++ e.2.2) + 2) l ((0 : Nat) : Int) 0 0 e.1 e.2.1 e.2.2 k0 k1 := fun _ _ => rfl
  simp only [meet_self, e0]
  rw [Nat.ble_eq_true_of_le (by simp only [List.length_nil]; omega), agK (X := K (.t [.a (ay.cells .deep aki.1), bl aki.2], [])) (fun _ _ _ => rfl) hl _ 0 e (by omega) (by omega) hp, List.drop_zero]
  simp only [Bool.not_true, cond_true, cond_false]
  have hb : ∀ (l : List ak) (e : ak), (yF l e).2 = false → yF l e = aki := by
   intro l
   induction l with
   | nil => intro e h; cases h
   | cons b l ih =>
    intro e h
    simp only [yF] at h ⊢
    cases hs : (bg e && bg b) with
    | false => rfl
    | true => rw [hs] at h; exact ih _ h
  cases hm : (yF l e).2 with
  | false => rw [hb l e hm]; rfl
  | true => rfl
theorem XF : aT prog I N.pY true Pz := lN (aU (bf zI (bf ZW bn)) (l := NJ) (p := NI) (ls := [(5, [1,4,6,7], [4,5,6], xU)]) (lend := []) (focus := false) (fuel := 0) (give := []) (fn := F.pY) (by kernel_rfl) (by kernel_rfl) (by kernel_rfl) (by kernel_rfl) (cs := [aA F.pY 5]) (by kernel_rfl) (dw OT aJ)) (aK fun d K h => (abf d.1 d.2.1 K).trans (abg d.1 d.2.1 h K))
end Go.Ev.Seat
end
section
namespace Go.Ev.Seat
open Go.RowKit
set_option maxRecDepth 100000
set_option linter.unusedVariables false
set_option linter.unusedSimpArgs false
noncomputable abbrev Tj : List (Nat × Bool × Sm) := [(N.kY, true, pF), (N.dn, true, Vl), (N.Fz, true, SN), (N.jA, true, Px), (N.Ru, true, acp), (N.Fh, true, Tc), (N.AY, true, HY), (N.pY, true, Pz)]
noncomputable abbrev agL : Env := En Tj [] [] [] false 0 []
noncomputable def NK (d : eU) (r : oO) (v : Int) (K : aj → Option aj) : Option aj := (bif (iZ bT d) then (bif (!(fD d v)) then K ((.t [(.a [(.s (.int .i64 (0 : Int))), (.s (.int .i64 (0 : Int))), (.l .deep ah ([] : List Int))]), (.s (.int .i64 (1 : Int)))]), []) else (bif (aO r.2.2.2.2.2) then (bif (!(dH r)) then K ((.t [(.a [(.s (.int .i64 (0 : Int))), (.s (.int .i64 (0 : Int))), (.l .deep ah ([] : List Int))]), (.s (.int .i64 (1 : Int)))]), []) else (bif (!(jw r.1)) then K ((.t [(.a [(.s (.int .i64 (0 : Int))), (.s (.int .i64 (0 : Int))), (.l .deep ah ([] : List Int))]), (.s (.int .i64 (1 : Int)))]), []) else (bif (Nat.ble (List.length d.2.2.2.2.1) 1048576) then (bif (decide ((Dl (fun m => (m.1 == r.2.1)) d.2.2.2.2.1) < (0 : Int))) then K ((.t [(.a [(.s (.int .i64 (0 : Int))), (.s (.int .i64 (0 : Int))), (.l .deep ah ([] : List Int))]), (.s (.int .i64 (2 : Int)))]), []) else (bif (iZ bT d) then (bif (iZ bT d) then (bif (r.1 == (3 : Int)) then (bif (((aO (jS d v)) && (aO r.2.2.2.2.2)) && (aS (jS d v))) then (bif (!(fU (jS d v) (r.2.2.1, ((0 : Int), r.2.2.2.2.2)))) then K ((.t [(.a [(.s (.int .i64 (0 : Int))), (.s (.int .i64 (0 : Int))), (.l .deep ah ([] : List Int))]), (.s (.int .i64 (5 : Int)))]), []) else (bif ((iR (Cc.sl ay) (eH d v)) && (Nat.ble (List.length r.2.2.2.2.2) 1048576)) then K ((.t [(.a [(.s (.int .i64 (wC (r.2.2.1, ((0 : Int), r.2.2.2.2.2)) (eH d v)).1.1)), (.s (.int .i64 (wC (r.2.2.1, ((0 : Int), r.2.2.2.2.2)) (eH d v)).1.2.1)), (.l .deep ah (wC (r.2.2.1, ((0 : Int), r.2.2.2.2.2)) (eH d v)).1.2.2)]), (.s (.int .i64 (0 : Int)))]), []) else none)) else none) else (bif (((aO (jS d v)) && (aO r.2.2.2.2.2)) && (aS (jS d v))) then (bif (!(fU (jS d v) (r.2.2.1, ((IntKind.wrap .i64 (r.2.2.2.1 - r.2.2.1)), r.2.2.2.2.2)))) then K ((.t [(.a [(.s (.int .i64 (0 : Int))), (.s (.int .i64 (0 : Int))), (.l .deep ah ([] : List Int))]), (.s (.int .i64 (5 : Int)))]), []) else (bif ((iR (Cc.sl ay) (eH d v)) && (Nat.ble (List.length r.2.2.2.2.2) 1048576)) then K ((.t [(.a [(.s (.int .i64 (wC (r.2.2.1, ((IntKind.wrap .i64 (r.2.2.2.1 - r.2.2.1)), r.2.2.2.2.2)) (eH d v)).1.1)), (.s (.int .i64 (wC (r.2.2.1, ((IntKind.wrap .i64 (r.2.2.2.1 - r.2.2.1)), r.2.2.2.2.2)) (eH d v)).1.2.1)), (.l .deep ah (wC (r.2.2.1, ((IntKind.wrap .i64 (r.2.2.2.1 - r.2.2.1)), r.2.2.2.2.2)) (eH d v)).1.2.2)]), (.s (.int .i64 (0 : Int)))]), []) else none)) else none)) else none) else none)) else none))) else none)) else none)
theorem agM (d : eU) (r : oO) (v : Int) (K : aj → Option aj) : dS agL true F.I8 [.a (bT.cells .no d), .a (dJ.cells .no r), .s (.int .i64 v)] K = NK d r v K := by kernel_rfl
def WV : Sm := bD [.a bT, .a dJ, .i] (fun d => iZ bT d.1 && aO d.2.1.2.2.2.2.2) (fun d => (.t [.a (ay.cells .deep (cO d.1 d.2.1 d.2.2.1).1), .s (.int .i64 (cO d.1 d.2.1 d.2.2.1).2)], []))
theorem agN (d : eU) (r : oO) (v : Int) (h : (iZ bT d && aO r.2.2.2.2.2) = true) (K : aj → Option aj) : NK d r v K = K (.t [.a (ay.cells .deep (cO d r v).1), .s (.int .i64 (cO d r v).2)], []) := by
 obtain ⟨h0, h1⟩ := (Bool.and_eq_true _ _).mp h
 obtain ⟨f1, f2, f3, f4, f5⟩ := Eo h0
 unfold NK cO
 rw [h0]
 cases h2 : fD d v with
 | false => rfl
 | true =>
 rw [h1]
 cases h3 : dH r with
 | false => rfl
 | true =>
 cases h4 : jw r.1 with
 | false => rfl
 | true =>
 obtain ⟨q1, q2, q3⟩ := zU.1 h2
 have hat : jS d v = (bQ d.1 (dN (d.2.2.1.take v.toNat))).1 := by unfold jS; rw [h2]; rfl
 have hsi : eH d v = dN (d.2.2.1.drop v.toNat) := by unfold eH; rw [h2]; rfl
 have hfa : aO (jS d v) = true := by rw [hat]; exact Em f1 (Ej (Ju f3 _))
 have hta : aS (jS d v) = true := by
  rw [hat]
  refine Nu _ ?_
  unfold um at q1
  simp only [Bool.and_eq_true] at q1
  exact q1.1.1.1.1
 have hfs : iR (.sl ay) (eH d v) = true := by rw [hsi]; exact Ej (UR f3 _)
 rw [Nat.ble_eq_true_of_le (iw f4), hfa, hta, hfs, Nat.ble_eq_true_of_le (oP h1)]
 by_cases hi : Dl (fun m : aB => m.1 == r.2.1) d.2.2.2.2.1 ≥ 0
 ·rw [decide_eq_true hi, decide_eq_false (show ¬ Dl (fun m : aB => m.1 == r.2.1) d.2.2.2.2.1 < 0 by omega)]
  cases hk : (r.1 == (3 : Int)) with
  | true =>
   have hm : mD r = (r.2.2.1, ((0 : Int), r.2.2.2.2.2)) := by
    unfold mD
    rw [show (r.1 != (3 : Int)) = false from by unfold bne; rw [hk]; rfl]; rfl
   rw [hm]
   cases fU (jS d v) (r.2.2.1, ((0 : Int), r.2.2.2.2.2)) <;> rfl
  | false =>
   have hm : mD r = (r.2.2.1, ((IntKind.wrap .i64 (r.2.2.2.1 - r.2.2.1)), r.2.2.2.2.2)) := by
    unfold mD
    rw [show (r.1 != (3 : Int)) = true from by unfold bne; rw [hk]; rfl]; rfl
   rw [hm]
   cases fU (jS d v) (r.2.2.1, ((IntKind.wrap .i64 (r.2.2.2.1 - r.2.2.1)), r.2.2.2.2.2)) <;> rfl
 ·rw [decide_eq_false hi, decide_eq_true (show Dl (fun m : aB => m.1 == r.2.1) d.2.2.2.2.1 < 0 by omega)]
  rfl
theorem abh : aT prog I N.I8 true WV := lN (aU (bf Bq (bf agz (bf ZR (bf XC (bf agB (bf ZT (bf Pm (bf XF bn)))))))) (l := Tj) (p := []) (ls := []) (lend := []) (focus := false) (fuel := 0) (give := []) (fn := F.I8) (by kernel_rfl) (by kernel_rfl) (by kernel_rfl) (by kernel_rfl) (cs := []) (by kernel_rfl) aJ) (aK fun d K h => (agM d.1 d.2.1 d.2.2.1 K).trans (agN d.1 d.2.1 d.2.2.1 h K))
end Go.Ev.Seat
end
section
namespace Go.Ev.Seat
open Go.RowKit
set_option maxRecDepth 100000
set_option linter.unusedVariables false
set_option linter.unusedSimpArgs false
def w8 (p : List Int) : Int := Uj .u64 (Uj .u64 (Uj .u64 (Uj .u64 (Uj .u64 (Uj .u64 (Uj .u64 (IntKind.wrap .u64 (p.getD 0 0)) (OM .u64 (IntKind.wrap .u64 (p.getD 1 0)) 8)) (OM .u64 (IntKind.wrap .u64 (p.getD 2 0)) 16)) (OM .u64 (IntKind.wrap .u64 (p.getD 3 0)) 24)) (OM .u64 (IntKind.wrap .u64 (p.getD 4 0)) 32)) (OM .u64 (IntKind.wrap .u64 (p.getD 5 0)) 40)) (OM .u64 (IntKind.wrap .u64 (p.getD 6 0)) 48)) (OM .u64 (IntKind.wrap .u64 (p.getD 7 0)) 56)
noncomputable abbrev Tm : Env := En [] [(1, takes [0, 1, 2, 3, 4, 5, 6, 7, 8, 9, 10, 11, 12, 13, 14, 15, 16, 17, 18, 19, 20, 21, 22], []), (2, takes [0, 1, 2, 3, 4, 5, 6, 7, 8, 9, 10, 11, 12, 13, 14, 15, 16, 17, 18, 19, 20, 21, 22, 23, 24, 25, 26, 27, 28, 29, 30, 31, 32, 33, 34, 35, 36, 37, 38, 39, 40, 41, 42, 43, 44, 45, 46], [])] [] [] false 0 []
noncomputable def zW (p : List Int) (K : aj → Option aj) : Option aj := (bif (decide ((0 : Int) < (((List.length p) : Nat) : Int))) then (bif (decide ((1 : Int) < (((List.length p) : Nat) : Int))) then (bif (decide ((2 : Int) < (((List.length p) : Nat) : Int))) then (bif (decide ((3 : Int) < (((List.length p) : Nat) : Int))) then (bif (decide ((4 : Int) < (((List.length p) : Nat) : Int))) then (bif (decide ((5 : Int) < (((List.length p) : Nat) : Int))) then (bif (decide ((6 : Int) < (((List.length p) : Nat) : Int))) then (bif (decide ((7 : Int) < (((List.length p) : Nat) : Int))) then K ((.s (.int .u64 (Uj .u64 (Uj .u64 (Uj .u64 (Uj .u64 (Uj .u64 (Uj .u64 (Uj .u64 (IntKind.wrap .u64 (List.getD p 0 (0 : Int))) (OM .u64 (IntKind.wrap .u64 (List.getD p 1 (0 : Int))) (8 : Int))) (OM .u64 (IntKind.wrap .u64 (List.getD p 2 (0 : Int))) (16 : Int))) (OM .u64 (IntKind.wrap .u64 (List.getD p 3 (0 : Int))) (24 : Int))) (OM .u64 (IntKind.wrap .u64 (List.getD p 4 (0 : Int))) (32 : Int))) (OM .u64 (IntKind.wrap .u64 (List.getD p 5 (0 : Int))) (40 : Int))) (OM .u64 (IntKind.wrap .u64 (List.getD p 6 (0 : Int))) (48 : Int))) (OM .u64 (IntKind.wrap .u64 (List.getD p 7 (0 : Int))) (56 : Int))))), []) else none) else none) else none) else none) else none) else none) else none) else none)
theorem Tn (p : List Int) (K : aj → Option aj) : dS Tm true F.mQ [.l .no ah p] K = zW p K := by kernel_rfl
def zX : Sm := bD [.l ah] (fun d => Nat.ble 8 d.1.length) (fun d => (.s (.int .u64 (w8 d.1)), []))
theorem Tq (p : List Int) (h : (Nat.ble 8 p.length) = true) (K : aj → Option aj) : zW p K = K (.s (.int .u64 (w8 p)), []) := by
 have h' := Nat.le_of_ble_eq_true h
 unfold zW
 simp (disch := omega) only [decide_eq_true, Bool.true_and, cond_true]
 rfl
theorem OU : aT prog I N.mQ true zX := lN (aU bn (l := []) (p := [(1, takes [0, 1, 2, 3, 4, 5, 6, 7, 8, 9, 10, 11, 12, 13, 14, 15, 16, 17, 18, 19, 20, 21, 22], []), (2, takes [0, 1, 2, 3, 4, 5, 6, 7, 8, 9, 10, 11, 12, 13, 14, 15, 16, 17, 18, 19, 20, 21, 22, 23, 24, 25, 26, 27, 28, 29, 30, 31, 32, 33, 34, 35, 36, 37, 38, 39, 40, 41, 42, 43, 44, 45, 46], [])]) (ls := []) (lend := []) (focus := false) (fuel := 0) (give := []) (fn := F.mQ) (by kernel_rfl) (by kernel_rfl) (by kernel_rfl) (by kernel_rfl) (cs := []) (by kernel_rfl) aJ) (aK fun d K h => (Tn d.1 K).trans (Tq d.1 h K))
end Go.Ev.Seat
end
section
namespace Go.Ev.Seat
open Go.RowKit
set_option maxRecDepth 100000
set_option linter.unusedVariables false
set_option linter.unusedSimpArgs false
def sV (x0 : List Int) (x3 : Int) : St := { tm := ([(.l .no ah x0), .x, .x, (.s (.int .u8 x3))] ++ List.replicate 184 .x), ob := [], nx := 0, io := [] }
def qC : Ss := { tm := (.cons (.l .no ah) (.cons (.x) (.cons (.x) (.cons (.int .u8) (Ed 184))))), ob := .nil, nx := 0, io := .nil }
def Tt (x0 : List Int) (x3 : Int) : qC.T := ((x0, ((), ((), (x3, xd 184)))), (), ())
def nN (x0 : List Int) (x3 : Int) : St := { tm := ([(.l .no ah x0), .x, .x, (.s (.int .u8 x3))] ++ List.replicate 184 .x), ob := [], nx := 0, io := [] }
theorem QA (x0 : List Int) (x3 : Int) : qC.mk' (Tt x0 x3) = (nN x0 x3) := by kernel_rfl
def Tv (d : qC.T) (f : (List Int) → Int → Option aj) : Option aj := match d with | ((x0, (_, (_, (x3, _)))), _, _) => f x0 x3
noncomputable def sW (x0 : List Int) (x3 : Int) (pW : (List Int) → Int → Option aj) (k0 : (List Int) → Int → Option aj) : Option aj := (bif (decide ((((List.length x0) : Nat) : Int) > (32 : Int))) then (bif (decide ((8 : Int) ≤ (((List.length x0) : Nat) : Int))) then (bif (decide ((16 : Int) ≤ (((List.length x0) : Nat) : Int))) then (bif (decide ((24 : Int) ≤ (((List.length x0) : Nat) : Int))) then (bif (Nat.ble 8 (List.length x0)) then (bif (Nat.ble 8 (List.length (List.drop 8 x0))) then (bif (Nat.ble 8 (List.length (List.drop 16 x0))) then (bif (Nat.ble 8 (List.length (List.drop 24 x0))) then (bif ((band .u64 (Uj .u64 (Uj .u64 (w8 x0) (w8 (List.drop 8 x0))) (Uj .u64 (w8 (List.drop 16 x0)) (w8 (List.drop 24 x0)))) (9259542123273814144 : Int)) == (0 : Int)) then (bif (decide ((32 : Int) ≤ (((List.length x0) : Nat) : Int))) then (pW (List.drop 32 x0) x3) else none) else (k0 x0 x3)) else none) else none) else none) else none) else none) else none) else none) else (k0 x0 x3))
noncomputable def nO : Nat → (List Int) → Int → ((List Int) → Int → Option aj) → Option aj
 | 0, _, _, _ => none
 | m + 1, x0, x3, k0 => sW x0 x3 (fun x0 x3 => (nO m x0 x3 k0)) k0
noncomputable def zY (x0 : List Int) (x3 : Int) (k0 : (List Int) → Int → Option aj) : Option aj := nO (List.length x0 + x3.toNat + 2) x0 x3 k0
noncomputable def xW : fG := (fun (σ : St) (K : Ex → St → Option aj) => (match qC.un σ with | some d => Tv d (fun x0 x3 => zY x0 x3 (fun x0 x3 => (K (.ext 2) (sV x0 x3)))) | none => none))
def vM (x2 : Bool) : St := { tm := ([.x, .x, (.s (.bool x2))] ++ List.replicate 185 .x), ob := [], nx := 0, io := [] }
def vN : St := { tm := ([] ++ List.replicate 188 .x), ob := [], nx := 0, io := [] }
def sZ : Ss := { tm := (.cons (.l .no ah) (Ed 187)), ob := .nil, nx := 0, io := .nil }
def Vq (x0 : List Int) : sZ.T := ((x0, xd 187), (), ())
def pG (x0 : List Int) : St := { tm := ([(.l .no ah x0)] ++ List.replicate 187 .x), ob := [], nx := 0, io := [] }
theorem Tz (x0 : List Int) : sZ.mk' (Vq x0) = (pG x0) := by kernel_rfl
def Vr (d : sZ.T) (f : (List Int) → Option aj) : Option aj := match d with | ((x0, _), _, _) => f x0
noncomputable def pI (x0 : List Int) (pW : (List Int) → Option aj) (k0 : Bool → Option aj) (k1 : Option aj) : Option aj := (bif (decide ((((List.length x0) : Nat) : Int) > (0 : Int))) then (bif (decide ((0 : Int) < (((List.length x0) : Nat) : Int))) then (bif (decide ((List.getD x0 0 (0 : Int)) < (128 : Int))) then (bif (decide ((1 : Int) ≤ (((List.length x0) : Nat) : Int))) then (bif (decide ((((List.length (List.drop 1 x0)) : Nat) : Int) > (8 : Int))) then (bif (Nat.ble 8 (List.length (List.drop 1 x0))) then (bif ((band .u64 (w8 (List.drop 1 x0)) (9259542123273814144 : Int)) == (0 : Int)) then (bif (decide ((8 : Int) ≤ (((List.length (List.drop 1 x0)) : Nat) : Int))) then (bif (decide ((((List.length (List.drop 8 (List.drop 1 x0))) : Nat) : Int) > (16 : Int))) then (bif (decide ((8 : Int) ≤ (((List.length (List.drop 8 (List.drop 1 x0))) : Nat) : Int))) then (bif (Nat.ble 8 (List.length (List.drop 8 (List.drop 1 x0)))) then (bif (Nat.ble 8 (List.length (List.drop 8 (List.drop 8 (List.drop 1 x0))))) then (bif ((band .u64 (Uj .u64 (w8 (List.drop 8 (List.drop 1 x0))) (w8 (List.drop 8 (List.drop 8 (List.drop 1 x0))))) (9259542123273814144 : Int)) == (0 : Int)) then (bif (decide ((16 : Int) ≤ (((List.length (List.drop 8 (List.drop 1 x0))) : Nat) : Int))) then (zY (List.drop 16 (List.drop 8 (List.drop 1 x0))) (List.getD x0 0 (0 : Int)) (fun y0 y1 => (pW y0))) else none) else (pW (List.drop 8 (List.drop 1 x0)))) else none) else none) else none) else (pW (List.drop 8 (List.drop 1 x0)))) else none) else (pW (List.drop 1 x0))) else none) else (pW (List.drop 1 x0))) else none) else (bif ((decide ((0 : Int) ≤ (List.getD x0 0 (0 : Int)))) && (decide ((List.getD x0 0 (0 : Int)) < ((256 : Nat) : Int)))) then (bif (Nat.blt (Int.toNat (List.getD x0 0 (0 : Int))) (List.length gU)) then (bif ((decide ((0 : Int) ≤ (JQ .u8 (List.getD gU (Int.toNat (List.getD x0 0 (0 : Int))) (0 : Int)) (4 : Int)))) && (decide ((JQ .u8 (List.getD gU (Int.toNat (List.getD x0 0 (0 : Int))) (0 : Int)) (4 : Int)) < ((16 : Nat) : Int)))) then (bif (Nat.blt (Int.toNat (JQ .u8 (List.getD gU (Int.toNat (List.getD x0 0 (0 : Int))) (0 : Int)) (4 : Int))) (List.length jJ)) then (bif ((IntKind.wrap .i64 (band .u8 (List.getD gU (Int.toNat (List.getD x0 0 (0 : Int))) (0 : Int)) (7 : Int))) == (2 : Int)) then (bif (decide ((((List.length x0) : Nat) : Int) < (2 : Int))) then (k0 false) else (bif (decide ((1 : Int) < (((List.length x0) : Nat) : Int))) then (bif (decide ((List.getD x0 1 (0 : Int)) < (List.getD jJ (Int.toNat (JQ .u8 (List.getD gU (Int.toNat (List.getD x0 0 (0 : Int))) (0 : Int)) (4 : Int))) (ahD.dflt)).1)) then (k0 false) else (bif (decide ((1 : Int) < (((List.length x0) : Nat) : Int))) then (bif (decide ((List.getD jJ (Int.toNat (JQ .u8 (List.getD gU (Int.toNat (List.getD x0 0 (0 : Int))) (0 : Int)) (4 : Int))) (ahD.dflt)).2 < (List.getD x0 1 (0 : Int)))) then (k0 false) else (bif (decide ((2 : Int) ≤ (((List.length x0) : Nat) : Int))) then (pW (List.drop 2 x0)) else none)) else none)) else none)) else (bif ((IntKind.wrap .i64 (band .u8 (List.getD gU (Int.toNat (List.getD x0 0 (0 : Int))) (0 : Int)) (7 : Int))) == (3 : Int)) then (bif (decide ((((List.length x0) : Nat) : Int) < (3 : Int))) then (k0 false) else (bif (decide ((1 : Int) < (((List.length x0) : Nat) : Int))) then (bif (decide ((List.getD x0 1 (0 : Int)) < (List.getD jJ (Int.toNat (JQ .u8 (List.getD gU (Int.toNat (List.getD x0 0 (0 : Int))) (0 : Int)) (4 : Int))) (ahD.dflt)).1)) then (k0 false) else (bif (decide ((1 : Int) < (((List.length x0) : Nat) : Int))) then (bif (decide ((List.getD jJ (Int.toNat (JQ .u8 (List.getD gU (Int.toNat (List.getD x0 0 (0 : Int))) (0 : Int)) (4 : Int))) (ahD.dflt)).2 < (List.getD x0 1 (0 : Int)))) then (k0 false) else (bif (decide ((2 : Int) < (((List.length x0) : Nat) : Int))) then (bif (decide ((List.getD x0 2 (0 : Int)) < (128 : Int))) then (k0 false) else (bif (decide ((2 : Int) < (((List.length x0) : Nat) : Int))) then (bif (decide ((191 : Int) < (List.getD x0 2 (0 : Int)))) then (k0 false) else (bif (decide ((3 : Int) ≤ (((List.length x0) : Nat) : Int))) then (pW (List.drop 3 x0)) else none)) else none)) else none)) else none)) else none)) else (bif ((IntKind.wrap .i64 (band .u8 (List.getD gU (Int.toNat (List.getD x0 0 (0 : Int))) (0 : Int)) (7 : Int))) == (4 : Int)) then (bif (decide ((((List.length x0) : Nat) : Int) < (4 : Int))) then (k0 false) else (bif (decide ((1 : Int) < (((List.length x0) : Nat) : Int))) then (bif (decide ((List.getD x0 1 (0 : Int)) < (List.getD jJ (Int.toNat (JQ .u8 (List.getD gU (Int.toNat (List.getD x0 0 (0 : Int))) (0 : Int)) (4 : Int))) (ahD.dflt)).1)) then (k0 false) else (bif (decide ((1 : Int) < (((List.length x0) : Nat) : Int))) then (bif (decide ((List.getD jJ (Int.toNat (JQ .u8 (List.getD gU (Int.toNat (List.getD x0 0 (0 : Int))) (0 : Int)) (4 : Int))) (ahD.dflt)).2 < (List.getD x0 1 (0 : Int)))) then (k0 false) else (bif (decide ((2 : Int) < (((List.length x0) : Nat) : Int))) then (bif (decide ((List.getD x0 2 (0 : Int)) < (128 : Int))) then (k0 false) else (bif (decide ((2 : Int) < (((List.length x0) : Nat) : Int))) then (bif (decide ((191 : Int) < (List.getD x0 2 (0 : Int)))) then (k0 false) else (bif (decide ((3 : Int) < (((List.length x0) : Nat) : Int))) then (bif (decide ((List.getD x0 3 (0 : Int)) < (128 : Int))) then (k0 false) else (bif (decide ((3 : Int) < (((List.length x0) : Nat) : Int))) then (bif (decide ((191 : Int) < (List.getD x0 3 (0 : Int)))) then (k0 false) else (bif (decide ((4 : Int) ≤ (((List.length x0) : Nat) : Int))) then (pW (List.drop 4 x0)) else none)) else none)) else none)) else none)) else none)) else none)) else none)) else (k0 false)))) else none) else none) else none) else none)) else none) else k1)
noncomputable def pJ : Nat → (List Int) → (Bool → Option aj) → (Option aj) → Option aj
 | 0, _, _, _ => none
 | m + 1, x0, k0, k1 => pI x0 (fun x0 => (pJ m x0 k0 k1)) k0 k1
noncomputable def Bz (x0 : List Int) (k0 : Bool → Option aj) (k1 : Option aj) : Option aj := pJ (List.length x0 + 2) x0 k0 k1
noncomputable def zZ : fG := (fun (σ : St) (K : Ex → St → Option aj) => (match sZ.un σ with | some d => Vr d (fun x0 => Bz x0 (fun x2 => (K .ret (vM x2))) (K (.ext 0) vN)) | none => none))
noncomputable abbrev gZ : Env := En [(N.mQ, true, zX)] [(8, takeB [0, 1, 2, 3, 4, 6, 7] (.fork (.one 5 (.fork (.one 8 (takes [9, 10, 11, 12]))))), []), (10, takeB [0, 1, 2, 3, 4, 6, 7, 10, 11, 13, 14] (.fork (.one 5 (.fork (.one 8 (takeB [9] (.fork (.one 12 (.fork (.one 15 (takes [16, 17, 18, 19, 20])))))))))), []), (18, takes [0, 1, 2, 3, 4, 5, 6, 7, 8, 9, 10, 11, 12, 13, 14, 15, 16, 17, 18], []), (22, takes [0, 1, 2, 3, 4, 5, 6, 7, 8, 9, 10, 11, 12, 13, 14, 15, 16, 17, 18, 19, 20, 21, 22, 23, 24, 25, 26, 27, 28, 29, 30], []), (26, takes [0, 1, 2, 3, 4, 5, 6, 7, 8, 9, 10, 11, 12, 13, 14, 15, 16, 17, 18, 19, 20, 21, 22, 23, 24, 25, 26, 27, 28, 29, 30, 31, 32, 33, 34, 35, 36, 37, 38, 39, 40, 41, 42], [])] [(10, [0,3], [0,2,3], xW), (2, [0], [2], zZ)] [] false 0 []
theorem QB (m : Nat) (x0 : List Int) (x3 : Int) (K : Ex → St → Option aj) : rounds (run gZ (aA F.fB 10)) [0,3] [0,2,3] (m + 1) (nN x0 x3) K = sW x0 x3 (fun x0 x3 => (rounds (run gZ (aA F.fB 10)) [0,3] [0,2,3] m (nN x0 x3) K)) (fun x0 x3 => (K (.ext 2) (sV x0 x3))) := by kernel_rfl
theorem Lh (K : Ex → St → Option aj) : ∀ m : Nat, (∀ (x0 : List Int) (x3 : Int), rounds (run gZ (aA F.fB 10)) [0,3] [0,2,3] m (nN x0 x3) K = nO m x0 x3 (fun x0 x3 => (K (.ext 2) (sV x0 x3))))
 | 0 => (fun _ _ => rfl)
 | m + 1 => (fun x0 x3 => (by rw [QB, show (fun x0 x3 => (rounds (run gZ (aA F.fB 10)) [0,3] [0,2,3] m (nN x0 x3) K)) = (fun x0 x3 => (nO m x0 x3 (fun x0 x3 => (K (.ext 2) (sV x0 x3))))) from funext fun x0 => funext fun x3 => (Lh K m) x0 x3]; rfl))
theorem OV : dL gZ (aA F.fB 10) := by
 refine dG (n := 10) (F := xW) (by kernel_rfl) rfl (li := [0,3]) (lo := [0,2,3]) rfl (fun σ K r hr => ?_)
 unfold xW at hr
 split at hr
 ·rename_i d hd
  rw [Ss.fF hd]
  exact ⟨_, ((congrArg (fun z => rounds (run gZ (aA F.fB 10)) [0,3] [0,2,3] _ z K) (QA _ _)).trans ((Lh K _) _ _)).trans hr⟩
 ·cases hr
theorem TA (m : Nat) (x0 : List Int) (K : Ex → St → Option aj) : rounds (run gZ (aA F.fB 2)) [0] [2] (m + 1) (pG x0) K = pI x0 (fun x0 => (rounds (run gZ (aA F.fB 2)) [0] [2] m (pG x0) K)) (fun x2 => (K .ret (vM x2))) (K (.ext 0) vN) := by kernel_rfl
theorem NM (K : Ex → St → Option aj) : ∀ m : Nat, (∀ (x0 : List Int), rounds (run gZ (aA F.fB 2)) [0] [2] m (pG x0) K = pJ m x0 (fun x2 => (K .ret (vM x2))) (K (.ext 0) vN))
 | 0 => (fun _ => rfl)
 | m + 1 => (fun x0 => (by rw [TA, show (fun x0 => (rounds (run gZ (aA F.fB 2)) [0] [2] m (pG x0) K)) = (fun x0 => (pJ m x0 (fun x2 => (K .ret (vM x2))) (K (.ext 0) vN))) from funext fun x0 => (NM K m) x0]; rfl))
theorem QC : dL gZ (aA F.fB 2) := by
 refine dG (n := 2) (F := zZ) (by kernel_rfl) rfl (li := [0]) (lo := [2]) rfl (fun σ K r hr => ?_)
 unfold zZ at hr
 split at hr
 ·rename_i d hd
  rw [Ss.fF hd]
  exact ⟨_, ((congrArg (fun z => rounds (run gZ (aA F.fB 2)) [0] [2] _ z K) (Tz _)).trans ((NM K _) _)).trans hr⟩
 ·cases hr
noncomputable def KF (p : List Int) (K : aj → Option aj) : Option aj := (bif ((decide ((((List.length p) : Nat) : Int) ≤ (((List.length p) : Nat) : Int))) && (decide ((((List.length p) : Nat) : Int) ≤ (((List.length p) : Nat) : Int)))) then (Bz (List.drop 0 (List.take (List.length p) p)) (fun y2 => K ((.s (.bool y2)), [])) (K ((.s (.bool true)), []))) else none)
theorem aes (p : List Int) (K : aj → Option aj) : dS gZ true F.fB [.l .no ah p] K = KF p K := by kernel_rfl
theorem QD {xs : List Int} (h : aO xs = true) : ∃ W : Nat, w8 xs = (W : Int) ∧ W < 18446744073709551616 ∧ (W &&& M8 = 0 ↔ ∀ i, i < 8 → xs.getD i 0 < 128) := by
 have hb : ∀ i : Nat, ∃ n : Nat, xs.getD i 0 = (n : Int) ∧ n < 256 := fun i => by
  have := zy h i
  exact ⟨(xs.getD i 0).toNat, by omega, by omega⟩
 obtain ⟨n0, e0, l0⟩ := hb 0
 obtain ⟨n1, e1, l1⟩ := hb 1
 obtain ⟨n2, e2, l2⟩ := hb 2
 obtain ⟨n3, e3, l3⟩ := hb 3
 obtain ⟨n4, e4, l4⟩ := hb 4
 obtain ⟨n5, e5, l5⟩ := hb 5
 obtain ⟨n6, e6, l6⟩ := hb 6
 obtain ⟨n7, e7, l7⟩ := hb 7
 have o : ∀ {a b : Nat}, a < 18446744073709551616 → b < 18446744073709551616 → a ||| b < 18446744073709551616 := fun ha hb => Nat.or_lt_two_pow (n := 64) ha hb
 have s0 : n0 < 18446744073709551616 := by omega
 have s1 := Qh l1 (show 1 < 8 by omega)
 have s2 := Qh l2 (show 2 < 8 by omega)
 have s3 := Qh l3 (show 3 < 8 by omega)
 have s4 := Qh l4 (show 4 < 8 by omega)
 have s5 := Qh l5 (show 5 < 8 by omega)
 have s6 := Qh l6 (show 6 < 8 by omega)
 have s7 := Qh l7 (show 7 < 8 by omega)
 refine ⟨((((((n0 ||| n1 * 2 ^ (8 * 1)) ||| n2 * 2 ^ (8 * 2)) ||| n3 * 2 ^ (8 * 3)) ||| n4 * 2 ^ (8 * 4)) ||| n5 * 2 ^ (8 * 5)) ||| n6 * 2 ^ (8 * 6)) ||| n7 * 2 ^ (8 * 7), ?_, o (o (o (o (o (o (o s0 s1) s2) s3) s4) s5) s6) s7, ?_⟩
 ·unfold w8
  rw [e0, e1, e2, e3, e4, e5, e6, e7]
  rw [show (8 : Int) = ((8 * 1 : Nat) : Int) from rfl, show (16 : Int) = ((8 * 2 : Nat) : Int) from rfl, show (24 : Int) = ((8 * 3 : Nat) : Int) from rfl, show (32 : Int) = ((8 * 4 : Nat) : Int) from rfl, show (40 : Int) = ((8 * 5 : Nat) : Int) from rfl, show (48 : Int) = ((8 * 6 : Nat) : Int) from rfl, show (56 : Int) = ((8 * 7 : Nat) : Int) from rfl]
  rw [Y8 l1 (by omega), Y8 l2 (by omega), Y8 l3 (by omega), Y8 l4 (by omega), Y8 l5 (by omega), Y8 l6 (by omega), Y8 l7 (by omega), wrap64 s0]
  rw [MF s0 s1, MF (o s0 s1) s2, MF (o (o s0 s1) s2) s3, MF (o (o (o s0 s1) s2) s3) s4, MF (o (o (o (o s0 s1) s2) s3) s4) s5, MF (o (o (o (o (o s0 s1) s2) s3) s4) s5) s6, MF (o (o (o (o (o (o s0 s1) s2) s3) s4) s5) s6) s7]
 ·rw [or_mask, or_mask, or_mask, or_mask, or_mask, or_mask, or_mask, WI l1 (by omega), WI l2 (by omega), WI l3 (by omega), WI l4 (by omega), WI l5 (by omega), WI l6 (by omega), WI l7 (by omega)]
  have h0 := WI l0 (show 0 < 8 by omega)
  rw [show n0 * 2 ^ (8 * 0) = n0 by simp] at h0
  rw [h0]
  constructor
  ·intro hh i hi
   have hc : i = 0 ∨ i = 1 ∨ i = 2 ∨ i = 3 ∨ i = 4 ∨ i = 5 ∨ i = 6 ∨ i = 7 := by omega
   rcases hc with rfl | rfl | rfl | rfl | rfl | rfl | rfl | rfl
   ·rw [e0]; omega
   ·rw [e1]; omega
   ·rw [e2]; omega
   ·rw [e3]; omega
   ·rw [e4]; omega
   ·rw [e5]; omega
   ·rw [e6]; omega
   ·rw [e7]; omega
  ·intro hh
   have g0 := hh 0 (by omega)
   have g1 := hh 1 (by omega)
   have g2 := hh 2 (by omega)
   have g3 := hh 3 (by omega)
   have g4 := hh 4 (by omega)
   have g5 := hh 5 (by omega)
   have g6 := hh 6 (by omega)
   have g7 := hh 7 (by omega)
   rw [e0] at g0; rw [e1] at g1; rw [e2] at g2; rw [e3] at g3; rw [e4] at g4; rw [e5] at g5; rw [e6] at g6; rw [e7] at g7
   omega
theorem aoT {xs : List Int} (h : aO xs = true) (hm : (band .u64 (w8 xs) (9259542123273814144 : Int) == (0 : Int)) = true) : ∀ i, i < 8 → xs.getD i 0 < 128 := by
 obtain ⟨W, e, l, hw⟩ := QD h
 rw [e, show (9259542123273814144 : Int) = ((M8 : Nat) : Int) from rfl, ah4 l (by decide), beq_iff_eq] at hm
 exact hw.1 (by omega)
theorem aoU {xs ys : List Int} (h : aO xs = true) (h2 : aO ys = true) (hm : (band .u64 (Uj .u64 (w8 xs) (w8 ys)) (9259542123273814144 : Int) == (0 : Int)) = true) : (∀ i, i < 8 → xs.getD i 0 < 128) ∧ ∀ i, i < 8 → ys.getD i 0 < 128 := by
 obtain ⟨W, e, l, hw⟩ := QD h
 obtain ⟨V, e2, l2, hv⟩ := QD h2
 rw [e, e2, MF l l2, show (9259542123273814144 : Int) = ((M8 : Nat) : Int) from rfl, ah4 (Nat.or_lt_two_pow (n := 64) l l2) (by decide), beq_iff_eq] at hm
 have : (W ||| V) &&& M8 = 0 := by omega
 rw [or_mask] at this
 exact ⟨hw.1 this.1, hv.1 this.2⟩
theorem aoV {a b c d : List Int} (ha : aO a = true) (hb : aO b = true) (hc : aO c = true) (hd : aO d = true) (hm : (band .u64 (Uj .u64 (Uj .u64 (w8 a) (w8 b)) (Uj .u64 (w8 c) (w8 d))) (9259542123273814144 : Int) == (0 : Int)) = true) :
  (∀ i, i < 8 → a.getD i 0 < 128) ∧ (∀ i, i < 8 → b.getD i 0 < 128) ∧ (∀ i, i < 8 → c.getD i 0 < 128) ∧ ∀ i, i < 8 → d.getD i 0 < 128 := by
 obtain ⟨A, e1, l1, h1⟩ := QD ha
 obtain ⟨B, e2, l2, h2⟩ := QD hb
 obtain ⟨C, e3, l3, h3⟩ := QD hc
 obtain ⟨D, e4, l4, h4⟩ := QD hd
 have o : ∀ {a b : Nat}, a < 18446744073709551616 → b < 18446744073709551616 → a ||| b < 18446744073709551616 := fun ha hb => Nat.or_lt_two_pow (n := 64) ha hb
 rw [e1, e2, e3, e4, MF l1 l2, MF l3 l4, MF (o l1 l2) (o l3 l4), show (9259542123273814144 : Int) = ((M8 : Nat) : Int) from rfl, ah4 (o (o l1 l2) (o l3 l4)) (by decide), beq_iff_eq] at hm
 have : ((A ||| B) ||| (C ||| D)) &&& M8 = 0 := by omega
 rw [or_mask, or_mask, or_mask] at this
 exact ⟨h1.1 this.1.1, h2.1 this.1.2, h3.1 this.2.1, h4.1 this.2.2⟩
theorem BA {xs : List Int} {n m : Nat} (h1 : ∀ i, i < n → xs.getD i 0 < 128) (h2 : ∀ i, i < m → (xs.drop n).getD i 0 < 128) : ∀ i, i < n + m → xs.getD i 0 < 128 := fun i hi => by
 by_cases h : i < n
 ·exact h1 i h
 ·have := h2 (i - n) (by omega)
  rw [getD_drop, show n + (i - n) = i by omega] at this
  exact this
theorem ame (k0 : List Int → Int → Option aj) (x3 : Int) : ∀ (m : Nat) (xs : List Int), aO xs = true → xs.length < m → ∃ ys, aO ys = true ∧ ys.length ≤ xs.length ∧ valid ys = valid xs ∧ nO m xs x3 k0 = k0 ys x3
 | 0, xs, _, h => absurd h (by omega)
 | m + 1, xs, hf, hl => by
  show ∃ ys, aO ys = true ∧ ys.length ≤ xs.length ∧ valid ys = valid xs ∧ sW xs x3 _ k0 = k0 ys x3
  unfold sW
  by_cases h32 : ((xs.length : Nat) : Int) > 32
  ·simp (disch := omega) only [decide_eq_true, decide_eq_false, Bool.true_and, cond_true, List.length_drop, Nat.ble_eq_true_of_le]
   cases hm : (band .u64 (Uj .u64 (Uj .u64 (w8 xs) (w8 (List.drop 8 xs))) (Uj .u64 (w8 (List.drop 16 xs)) (w8 (List.drop 24 xs)))) (9259542123273814144 : Int) == (0 : Int)) with
   | false => exact ⟨xs, hf, Nat.le_refl _, rfl, rfl⟩
   | true =>
    obtain ⟨a1, a2, a3, a4⟩ := aoV hf (oQ hf 8) (oQ hf 16) (oQ hf 24) hm
    have a := BA (n := 24) (BA (n := 16) (BA (n := 8) a1 a2) a3) a4
    obtain ⟨ys, g1, g2, g3, g4⟩ := ame k0 x3 m (List.drop 32 xs) (oQ hf 32) (by simp; omega)
    exact ⟨ys, g1, by simp at g2; omega, g3.trans (JX 32 (by omega) a), g4⟩
  ·rw [decide_eq_false h32]
   exact ⟨xs, hf, Nat.le_refl _, rfl, rfl⟩
theorem step2 (x0 : List Int) (hx : aO x0 = true) (nx : List Int → Option aj) (k0 : Bool → Option aj) (k1 RES : Option aj)
  (hn : ∀ ys, aO ys = true → ys.length < x0.length → valid ys = valid x0 → nx ys = RES) (h1 : valid x0 = true → k1 = RES) (h0 : valid x0 = false → k0 false = RES) : pI x0 nx k0 k1 = RES := by
 unfold pI
 by_cases hl : ((x0.length : Nat) : Int) > 0
 case neg =>
  rw [decide_eq_false hl]
  have : x0 = [] := List.length_eq_zero_iff.1 (by omega)
  exact h1 (by rw [this]; exact OG)
 case pos =>
 have hb := zy hx 0
 by_cases hb1 : x0.getD 0 0 < 128
 ·have hd : ∀ n, 1 ≤ n → n ≤ x0.length → (∀ i, i < n → x0.getD i 0 < 128) → nx (x0.drop n) = RES := fun n hn1 hn2 ha => hn _ (oQ hx n) (by simp; omega) (JX n hn2 ha)
  have a0 : ∀ i, i < 1 → x0.getD i 0 < 128 := fun i hi => by rw [show i = 0 by omega]; exact hb1
  simp (disch := omega) only [decide_eq_true, Bool.true_and, cond_true, List.length_drop, List.drop_drop]
  by_cases h9 : ((x0.length - 1 : Nat) : Int) > 8
  case neg => rw [decide_eq_false h9]; exact hd 1 (by omega) (by omega) a0
  rw [decide_eq_true h9, Nat.ble_eq_true_of_le (show 8 ≤ x0.length - 1 by omega)]
  cases hm : (band .u64 (w8 (List.drop 1 x0)) (9259542123273814144 : Int) == (0 : Int)) with
  | false => exact hd 1 (by omega) (by omega) a0
  | true =>
  have a9 := BA a0 (aoT (oQ hx 1) hm)
  rw [decide_eq_true (show (8 : Int) ≤ ((x0.length - 1 : Nat) : Int) by omega)]
  simp only [cond_true]
  by_cases h17 : ((x0.length - (1 + 8) : Nat) : Int) > 16
  case neg => rw [decide_eq_false h17]; exact hd 9 (by omega) (by omega) a9
  simp (disch := omega) only [decide_eq_true, Nat.ble_eq_true_of_le, Bool.true_and, cond_true]
  cases hm2 : (band .u64 (Uj .u64 (w8 (List.drop (1 + 8) x0)) (w8 (List.drop (1 + 8 + 8) x0))) (9259542123273814144 : Int) == (0 : Int)) with
  | false => exact hd 9 (by omega) (by omega) a9
  | true =>
  obtain ⟨m1, m2⟩ := aoU (oQ hx _) (oQ hx _) hm2
  have a25 := BA (BA a9 m1) m2
  unfold zY
  obtain ⟨ys, g1, g2, g3, g4⟩ := ame (fun y0 y1 => nx y0) (x0.getD 0 0) ((List.drop (1 + 8 + 16) x0).length + (x0.getD 0 0).toNat + 2) (List.drop (1 + 8 + 16) x0) (oQ hx _) (by omega)
  refine g4.trans (hn ys g1 ?_ (g3.trans (JX 25 (by omega) a25)))
  simp at g2; omega
 ·have hsh := alX hb.1 hb.2
  have hlen := ake
  have hacc := ah6
  have e1 : JQ .u8 (List.getD gU (Int.toNat (List.getD x0 0 (0 : Int))) (0 : Int)) (4 : Int) = fsh (x0.getD 0 0) := rfl
  have e2 : IntKind.wrap .i64 (band .u8 (List.getD gU (Int.toNat (List.getD x0 0 (0 : Int))) (0 : Int)) (7 : Int)) = fsz (x0.getD 0 0) := rfl
  have e3 : List.getD jJ (Int.toNat (fsh (x0.getD 0 0))) (Seat.ahD.dflt) = fac (x0.getD 0 0) := rfl
  rw [e1, e2, e3]
  have c1 : Nat.blt (Int.toNat (List.getD x0 0 (0 : Int))) (List.length gU) = true := by rw [hlen, Nat.blt_eq]; omega
  have c2 : Nat.blt (Int.toNat (fsh (x0.getD 0 0))) (List.length jJ) = true := by rw [hacc, Nat.blt_eq]; omega
  rw [c1, c2]
  simp (disch := omega) only [decide_eq_true, decide_eq_false, Bool.true_and, cond_true, cond_false]
  have stop : aN x0 = 0 → k0 false = RES := fun h => h0 (JW h (by omega))
  have go : ∀ n, aN x0 = n → 1 ≤ n → nx (x0.drop n) = RES := fun n h hn1 => by
   subst h
   exact hn _ (oQ hx _) (by have := mW x0; simp; omega) (yE (by omega)).symm
  by_cases r1 : x0.getD 0 0 < 194 ∨ 245 ≤ x0.getD 0 0
  ·rw [amR (by omega) hb.2 r1]
   refine stop ?_
   unfold aN
   repeat' split
   all_goals first | omega | rfl
  by_cases r2 : x0.getD 0 0 < 224
  ·obtain ⟨f1, f2⟩ := amS (by omega) r2
   rw [f1, f2]
   have er : aN x0 = if 2 ≤ x0.length ∧ 128 ≤ x0.getD 1 0 ∧ x0.getD 1 0 ≤ 191 then 2 else 0 := by
    unfold aN; rw [if_neg (by omega), if_neg (by omega), if_neg (by omega), if_pos r2]
   simp only [BEq.rfl, cond_true]
   by_cases c : ((x0.length : Nat) : Int) < 2
   ·rw [decide_eq_true c]; exact stop (by rw [er, if_neg (by omega)])
   rw [decide_eq_false c, decide_eq_true (show (1 : Int) < ((x0.length : Nat) : Int) by omega)]
   simp only [cond_true, cond_false]
   by_cases d1 : x0.getD 1 0 < 128
   ·rw [decide_eq_true d1]; exact stop (by rw [er, if_neg (by omega)])
   by_cases d2 : 191 < x0.getD 1 0
   ·rw [decide_eq_false d1, decide_eq_true d2]; exact stop (by rw [er, if_neg (by omega)])
   rw [decide_eq_false d1, decide_eq_false d2, decide_eq_true (show (2 : Int) ≤ ((x0.length : Nat) : Int) by omega)]
   exact go 2 (by rw [er, if_pos (by omega)]) (by omega)
  by_cases r3 : x0.getD 0 0 < 240
  ·obtain ⟨f1, f2⟩ := amT (by omega) r3
   rw [f1, f2]
   have er : aN x0 = if 3 ≤ x0.length ∧ lo3 (x0.getD 0 0) ≤ x0.getD 1 0 ∧ x0.getD 1 0 ≤ hi3 (x0.getD 0 0) ∧ 128 ≤ x0.getD 2 0 ∧ x0.getD 2 0 ≤ 191 then 3 else 0 := by
    unfold aN; rw [if_neg (by omega), if_neg (by omega), if_neg (by omega), if_neg (by omega), if_pos r3]
   rw [show ((3 : Int) == 2) = false from rfl]
   simp only [BEq.rfl, cond_true, cond_false]
   by_cases c : ((x0.length : Nat) : Int) < 3
   ·rw [decide_eq_true c]; exact stop (by rw [er, if_neg (by omega)])
   rw [decide_eq_false c, decide_eq_true (show (1 : Int) < ((x0.length : Nat) : Int) by omega), decide_eq_true (show (2 : Int) < ((x0.length : Nat) : Int) by omega), decide_eq_true (show (3 : Int) ≤ ((x0.length : Nat) : Int) by omega)]
   simp only [cond_true, cond_false]
   by_cases d1 : x0.getD 1 0 < lo3 (x0.getD 0 0)
   ·rw [decide_eq_true d1]; exact stop (by rw [er, if_neg (by omega)])
   by_cases d2 : hi3 (x0.getD 0 0) < x0.getD 1 0
   ·rw [decide_eq_false d1, decide_eq_true d2]; exact stop (by rw [er, if_neg (by omega)])
   by_cases d3 : x0.getD 2 0 < 128
   ·rw [decide_eq_false d1, decide_eq_false d2, decide_eq_true d3]; exact stop (by rw [er, if_neg (by omega)])
   by_cases d4 : 191 < x0.getD 2 0
   ·rw [decide_eq_false d1, decide_eq_false d2, decide_eq_false d3, decide_eq_true d4]; exact stop (by rw [er, if_neg (by omega)])
   rw [decide_eq_false d1, decide_eq_false d2, decide_eq_false d3, decide_eq_false d4]
   exact go 3 (by rw [er, if_pos (by omega)]) (by omega)
  ·obtain ⟨f1, f2⟩ := amU (b := x0.getD 0 0) (by omega) (by omega)
   rw [f1, f2]
   have er : aN x0 = if 4 ≤ x0.length ∧ lo4 (x0.getD 0 0) ≤ x0.getD 1 0 ∧ x0.getD 1 0 ≤ hi4 (x0.getD 0 0) ∧ 128 ≤ x0.getD 2 0 ∧ x0.getD 2 0 ≤ 191 ∧ 128 ≤ x0.getD 3 0 ∧ x0.getD 3 0 ≤ 191 then 4 else 0 := by
    unfold aN; rw [if_neg (by omega), if_neg (by omega), if_neg (by omega), if_neg (by omega), if_neg r3, if_pos (by omega)]
   rw [show ((4 : Int) == 2) = false from rfl, show ((4 : Int) == 3) = false from rfl]
   simp only [BEq.rfl, cond_true, cond_false]
   by_cases c : ((x0.length : Nat) : Int) < 4
   ·rw [decide_eq_true c]; exact stop (by rw [er, if_neg (by omega)])
   rw [decide_eq_false c, decide_eq_true (show (1 : Int) < ((x0.length : Nat) : Int) by omega), decide_eq_true (show (2 : Int) < ((x0.length : Nat) : Int) by omega), decide_eq_true (show (3 : Int) < ((x0.length : Nat) : Int) by omega), decide_eq_true (show (4 : Int) ≤ ((x0.length : Nat) : Int) by omega)]
   simp only [cond_true, cond_false]
   by_cases d1 : x0.getD 1 0 < lo4 (x0.getD 0 0)
   ·rw [decide_eq_true d1]; exact stop (by rw [er, if_neg (by omega)])
   by_cases d2 : hi4 (x0.getD 0 0) < x0.getD 1 0
   ·rw [decide_eq_false d1, decide_eq_true d2]; exact stop (by rw [er, if_neg (by omega)])
   by_cases d3 : x0.getD 2 0 < 128
   ·rw [decide_eq_false d1, decide_eq_false d2, decide_eq_true d3]; exact stop (by rw [er, if_neg (by omega)])
   by_cases d4 : 191 < x0.getD 2 0
   ·rw [decide_eq_false d1, decide_eq_false d2, decide_eq_false d3, decide_eq_true d4]; exact stop (by rw [er, if_neg (by omega)])
   by_cases d5 : x0.getD 3 0 < 128
   ·rw [decide_eq_false d1, decide_eq_false d2, decide_eq_false d3, decide_eq_false d4, decide_eq_true d5]; exact stop (by rw [er, if_neg (by omega)])
   by_cases d6 : 191 < x0.getD 3 0
   ·rw [decide_eq_false d1, decide_eq_false d2, decide_eq_false d3, decide_eq_false d4, decide_eq_false d5, decide_eq_true d6]; exact stop (by rw [er, if_neg (by omega)])
   rw [decide_eq_false d1, decide_eq_false d2, decide_eq_false d3, decide_eq_false d4, decide_eq_false d5, decide_eq_false d6]
   exact go 4 (by rw [er, if_pos (by omega)]) (by omega)
theorem ana (k0 : Bool → Option aj) (k1 : Option aj) : ∀ (m : Nat) (xs : List Int), aO xs = true → xs.length < m → pJ m xs k0 k1 = bif valid xs then k1 else k0 false
 | 0, xs, _, h => absurd h (by omega)
 | m + 1, xs, hf, hl => by
  show pI xs _ k0 k1 = _
  refine step2 xs hf _ k0 k1 _ (fun ys h1 h2 h3 => ?_) (fun h => by rw [h]; rfl) (fun h => by rw [h]; rfl)
  have := ana k0 k1 m ys h1 (by omega)
  rw [h3] at this
  exact this
def KG : Sm := bD [.l ah] (fun d => aO d.1) (fun d => (bl (valid d.1), []))
theorem aeu (p : List Int) (h : (aO p) = true) (K : aj → Option aj) : KF p K = K (bl (valid p), []) := by
 unfold KF Bz
 rw [decide_eq_true (Int.le_refl _), List.take_length]
 simp only [Bool.true_and, cond_true, List.drop_zero]
 rw [ana _ _ _ p h (by omega)]
 cases valid p <;> rfl
theorem ZX : aT prog I N.fB true KG := lN (aU (bf OU bn) (l := [(N.mQ, true, zX)]) (p := [(8, takeB [0, 1, 2, 3, 4, 6, 7] (.fork (.one 5 (.fork (.one 8 (takes [9, 10, 11, 12]))))), []), (10, takeB [0, 1, 2, 3, 4, 6, 7, 10, 11, 13, 14] (.fork (.one 5 (.fork (.one 8 (takeB [9] (.fork (.one 12 (.fork (.one 15 (takes [16, 17, 18, 19, 20])))))))))), []), (18, takes [0, 1, 2, 3, 4, 5, 6, 7, 8, 9, 10, 11, 12, 13, 14, 15, 16, 17, 18], []), (22, takes [0, 1, 2, 3, 4, 5, 6, 7, 8, 9, 10, 11, 12, 13, 14, 15, 16, 17, 18, 19, 20, 21, 22, 23, 24, 25, 26, 27, 28, 29, 30], []), (26, takes [0, 1, 2, 3, 4, 5, 6, 7, 8, 9, 10, 11, 12, 13, 14, 15, 16, 17, 18, 19, 20, 21, 22, 23, 24, 25, 26, 27, 28, 29, 30, 31, 32, 33, 34, 35, 36, 37, 38, 39, 40, 41, 42], [])]) (ls := [(10, [0,3], [0,2,3], xW), (2, [0], [2], zZ)]) (lend := []) (focus := false) (fuel := 0) (give := []) (fn := F.fB) (by kernel_rfl) (by kernel_rfl) (by kernel_rfl) (by kernel_rfl) (cs := [aA F.fB 2, aA F.fB 10]) (by kernel_rfl) (dw QC (dw OV aJ))) (aK fun d K h => (aes d.1 K).trans (aeu d.1 h K))
end Go.Ev.Seat
end
section
namespace Go.Ev.Seat
open Go.RowKit
set_option maxRecDepth 100000
set_option linter.unusedVariables false
set_option linter.unusedSimpArgs false
noncomputable abbrev aiw : Env := En [(N.fB, true, KG)] [] [] [] false 0 []
noncomputable def QE (t : List Int) (K : aj → Option aj) : Option aj := (bif (decide ((((List.length t) : Nat) : Int) ≤ (400 : Int))) then (bif (aO t) then K ((.s (.bool (valid t))), []) else none) else K ((.s (.bool false)), []))
theorem aix (t : List Int) (K : aj → Option aj) : dS aiw true F.ng [.l .no ah t] K = QE t K := by kernel_rfl
def lW : Sm := bD [.l ah] (fun d => aO d.1) (fun d => (bl (aS d.1), []))
theorem aiy (t : List Int) (h : (aO t) = true) (K : aj → Option aj) : QE t K = K (bl (aS t), []) := by
 unfold QE aS
 rw [h]
 by_cases hl : t.length ≤ 400
 ·rw [decide_eq_true (show ((t.length : Nat) : Int) ≤ 400 by omega), Nat.ble_eq_true_of_le hl]; rfl
 ·rw [decide_eq_false (show ¬ ((t.length : Nat) : Int) ≤ 400 by omega), Bool.eq_false_iff.2 (fun h => hl (Nat.le_of_ble_eq_true h))]; rfl
theorem Aa : aT prog I N.ng true lW := lN (aU (bf ZX bn) (l := [(N.fB, true, KG)]) (p := []) (ls := []) (lend := []) (focus := false) (fuel := 0) (give := []) (fn := F.ng) (by kernel_rfl) (by kernel_rfl) (by kernel_rfl) (by kernel_rfl) (cs := []) (by kernel_rfl) aJ) (aK fun d K h => (aix d.1 K).trans (aiy d.1 h K))
end Go.Ev.Seat
end
section
namespace Go.Ev.Seat
open Go.RowKit
set_option maxRecDepth 100000
set_option linter.unusedVariables false
set_option linter.unusedSimpArgs false
noncomputable abbrev anX : Env := En [] [] [] [] false 0 []
noncomputable def aiz (n : Int) (low : Int) (high : Int) (K : aj → Option aj) : Option aj := (bif (decide (low ≤ n)) then K ((.s (.bool (decide (n ≤ high)))), []) else K ((.s (.bool false)), []))
theorem anY (n : Int) (low : Int) (high : Int) (K : aj → Option aj) : dS anX true F.i_in [.s (.int .i64 n), .s (.int .i64 low), .s (.int .i64 high)] K = aiz n low high K := by kernel_rfl
def mF : Sm := bD [.i, .i, .i] (fun d => true) (fun d => (bl (decide (d.2.1 ≤ d.1) && decide (d.1 ≤ d.2.2.1)), []))
theorem anZ (n : Int) (low : Int) (high : Int) (K : aj → Option aj) : aiz n low high K = K (bl (decide (low ≤ n) && decide (n ≤ high)), []) := by
 unfold aiz; cases decide (low ≤ n) <;> rfl
theorem uM : aT prog I N.i_in true mF := lN (aU bn (l := []) (p := []) (ls := []) (lend := []) (focus := false) (fuel := 0) (give := []) (fn := F.i_in) (by kernel_rfl) (by kernel_rfl) (by kernel_rfl) (by kernel_rfl) (cs := []) (by kernel_rfl) aJ) (aK fun d K h => (anY d.1 d.2.1 d.2.2.1 K).trans (anZ d.1 d.2.1 d.2.2.1 K))
end Go.Ev.Seat
end
section
namespace Go.Ev.Seat
open Go.RowKit
set_option maxRecDepth 100000
set_option linter.unusedVariables false
set_option linter.unusedSimpArgs false
noncomputable abbrev abj : Env := En [(N.i_in, true, mF)] [] [] [] false 0 []
noncomputable def PD (k : Int) (K : aj → Option aj) : Option aj := K ((.s (.bool ((decide ((1 : Int) ≤ k)) && (decide (k ≤ (8 : Int)))))), [])
theorem abk (k : Int) (K : aj → Option aj) : dS abj true F.jB [.s (.int .i64 k)] K = PD k K := by kernel_rfl
def jZ : Sm := bD [.i] (fun d => true) (fun d => (bl (decide (1 ≤ d.1) && decide (d.1 ≤ 8)), []))
theorem abl (k : Int) (K : aj → Option aj) : PD k K = K (bl (decide (1 ≤ k) && decide (k ≤ 8)), []) := by
 rfl
theorem xX : aT prog I N.jB true jZ := lN (aU (bf uM bn) (l := [(N.i_in, true, mF)]) (p := []) (ls := []) (lend := []) (focus := false) (fuel := 0) (give := []) (fn := F.jB) (by kernel_rfl) (by kernel_rfl) (by kernel_rfl) (by kernel_rfl) (cs := []) (by kernel_rfl) aJ) (aK fun d K h => (abk d.1 K).trans (abl d.1 K))
end Go.Ev.Seat
end
section
namespace Go.Ev.Seat
open Go.RowKit
set_option maxRecDepth 100000
set_option linter.unusedVariables false
set_option linter.unusedSimpArgs false
noncomputable abbrev Vs : Env := En [(N.jB, true, jZ)] [] [] [] false 0 []
noncomputable def Jw (c : aC) (K : aj → Option aj) : Option aj := K ((.s (.bool (!((decide ((1 : Int) ≤ c.1)) && (decide (c.1 ≤ (8 : Int))))))), [])
theorem Vt (c : aC) (K : aj → Option aj) : dS Vs true F.iI [.a (aH.cells .no c)] K = Jw c K := by kernel_rfl
def BD : Sm := bD [.a aH] (fun d => true) (fun d => (bl (!(nC d.1.1)), []))
theorem Vu (c : aC) (K : aj → Option aj) : Jw c K = K (bl (!(nC c.1)), []) := rfl
theorem QF : aT prog I N.iI true BD := lN (aU (bf xX bn) (l := [(N.jB, true, jZ)]) (p := []) (ls := []) (lend := []) (focus := false) (fuel := 0) (give := []) (fn := F.iI) (by kernel_rfl) (by kernel_rfl) (by kernel_rfl) (by kernel_rfl) (cs := []) (by kernel_rfl) aJ) (aK fun d K h => (Vt d.1 K).trans (Vu d.1 K))
end Go.Ev.Seat
end
section
namespace Go.Ev.Seat
open Go.RowKit
set_option maxRecDepth 100000
set_option linter.unusedVariables false
set_option linter.unusedSimpArgs false
def iF (x4 : Int) : St := { tm := ([.x, .x, .x, .x, (.s (.int .i64 x4))] ++ List.replicate 14 .x), ob := [], nx := 0, io := [] }
def iG : St := { tm := ([] ++ List.replicate 19 .x), ob := [], nx := 0, io := [] }
def ig : Ss := { tm := (.cons (.l .no aH) (.cons (.f 179 .nil) (.cons (.x) (.cons (.x) (.cons (.x) (.cons (.x) (.cons (.x) (.cons (.int .i64) (.cons (.int .i64) (Ed 10)))))))))), ob := .nil, nx := 0, io := .nil }
def Dt (x0 : List aC) (x7 : Int) (x8 : Int) : ig.T := ((x0, ((), ((), ((), ((), ((), ((), (x7, (x8, xd 10))))))))), (), ())
def fO (x0 : List aC) (x7 : Int) (x8 : Int) : St := { tm := ([(.l .no aH x0), (.f 179 []), .x, .x, .x, .x, .x, (.s (.int .i64 x7)), (.s (.int .i64 x8))] ++ List.replicate 10 .x), ob := [], nx := 0, io := [] }
theorem BF (x0 : List aC) (x7 : Int) (x8 : Int) : ig.mk' (Dt x0 x7 x8) = (fO x0 x7 x8) := by kernel_rfl
def Du (d : ig.T) (f : (List aC) → Int → Int → Option aj) : Option aj := match d with | ((x0, (_, (_, (_, (_, (_, (_, (x7, (x8, _))))))))), _, _) => f x0 x7 x8
noncomputable def dQ (x0 : List aC) (x7 : Int) (x8 : Int) (pW : (List aC) → Int → Int → Option aj) (k0 : Int → Option aj) (k1 : Option aj) : Option aj := (bif (decide (x8 < x7)) then (bif ((decide ((0 : Int) ≤ x8)) && (decide (x8 < (((List.length x0) : Nat) : Int)))) then (bif (!(nC (List.getD x0 (Int.toNat x8) (aH.dflt)).1)) then (k0 x8) else (pW x0 x7 (IntKind.wrap .i64 (x8 + (1 : Int))))) else none) else k1)
noncomputable def fP : Nat → (List aC) → Int → Int → (Int → Option aj) → (Option aj) → Option aj
 | 0, _, _, _, _, _ => none
 | m + 1, x0, x7, x8, k0, k1 => dQ x0 x7 x8 (fun x0 x7 x8 => (fP m x0 x7 x8 k0 k1)) k0 k1
noncomputable def qc (x0 : List aC) (x7 : Int) (x8 : Int) (k0 : Int → Option aj) (k1 : Option aj) : Option aj := fP (List.length x0 + x7.toNat + x8.toNat + 2) x0 x7 x8 k0 k1
noncomputable def je : fG := (fun (σ : St) (K : Ex → St → Option aj) => (match ig.un σ with | some d => Du d (fun x0 x7 x8 => qc x0 x7 x8 (fun x4 => (K .ret (iF x4))) (K (.ext 0) iG)) | none => none))
noncomputable abbrev dU : Env := En [(N.iI, true, BD)] [] [(2, [0,1,7,8], [4], je)] [] false 0 []
theorem BG (m : Nat) (x0 : List aC) (x7 : Int) (x8 : Int) (K : Ex → St → Option aj) : rounds (run dU (aA F.bF 2)) [0,1,7,8] [4] (m + 1) (fO x0 x7 x8) K = dQ x0 x7 x8 (fun x0 x7 x8 => (rounds (run dU (aA F.bF 2)) [0,1,7,8] [4] m (fO x0 x7 x8) K)) (fun x4 => (K .ret (iF x4))) (K (.ext 0) iG) := by kernel_rfl
theorem tq (K : Ex → St → Option aj) : ∀ m : Nat, (∀ (x0 : List aC) (x7 : Int) (x8 : Int), rounds (run dU (aA F.bF 2)) [0,1,7,8] [4] m (fO x0 x7 x8) K = fP m x0 x7 x8 (fun x4 => (K .ret (iF x4))) (K (.ext 0) iG))
 | 0 => (fun _ _ _ => rfl)
 | m + 1 => (fun x0 x7 x8 => (by rw [BG, show (fun x0 x7 x8 => (rounds (run dU (aA F.bF 2)) [0,1,7,8] [4] m (fO x0 x7 x8) K)) = (fun x0 x7 x8 => (fP m x0 x7 x8 (fun x4 => (K .ret (iF x4))) (K (.ext 0) iG))) from funext fun x0 => funext fun x7 => funext fun x8 => (tq K m) x0 x7 x8]; rfl))
theorem Aq : dL dU (aA F.bF 2) := by
 refine dG (n := 2) (F := je) (by kernel_rfl) rfl (li := [0,1,7,8]) (lo := [4]) rfl (fun σ K r hr => ?_)
 unfold je at hr
 split at hr
 ·rename_i d hd
  rw [Ss.fF hd]
  exact ⟨_, ((congrArg (fun z => rounds (run dU (aA F.bF 2)) [0,1,7,8] [4] _ z K) (BF _ _ _)).trans ((tq K _) _ _ _)).trans hr⟩
 ·cases hr
noncomputable def mG (l : List aC) (K : aj → Option aj) : Option aj := (qc l (((List.length l) : Nat) : Int) (0 : Int) (fun y0 => K ((.s (.int .i64 y0)), [])) (K ((.s (.int .i64 (-(1 : Int)))), [])))
theorem GR (l : List aC) (K : aj → Option aj) : dS dU true F.bF [.l .no aH l, .f N.iI []] K = mG l K := by kernel_rfl
def mJ : Sm := bD [.l aH, .sh (.f N.iI .nil)] (fun d => Nat.ble d.1.length 1048576) (fun d => (.s (.int .i64 (Dl (fun x => !(nC x.1)) d.1)), []))
theorem GU (l : List aC) (h : (Nat.ble l.length 1048576) = true) (K : aj → Option aj) : mG l K = K (.s (.int .i64 (Dl (fun x => !(nC x.1)) l)), []) := by
 have hl := Nat.le_of_ble_eq_true h
 unfold mG
 have q := Jr (R := fun m i => fP m l ((l.length : Nat) : Int) i (fun y0 => K ((.s (.int .i64 y0)), [])) (K ((.s (.int .i64 (-(1 : Int)))), []))) (p := fun x => !(nC x.1)) (xs := l) (z := (aH).dflt) (kf := fun y0 => K ((.s (.int .i64 y0)), [])) (kt := K ((.s (.int .i64 (-(1 : Int)))), [])) (fun m i hi => by
  show dQ l _ ((i : Nat) : Int) _ _ _ = _
  unfold dQ
  rw [decide_eq_true (show ((i : Nat) : Int) < ((l.length : Nat) : Int) by omega), decide_eq_true (show (0 : Int) ≤ ((i : Nat) : Int) by omega), Int.toNat_natCast, bY (by omega)]
  rfl) (fun m => by
  show dQ l _ ((l.length : Nat) : Int) _ _ _ = _
  unfold dQ
  rw [decide_eq_false (show ¬ ((l.length : Nat) : Int) < ((l.length : Nat) : Int) by omega)]; rfl) (l.length + ((l.length : Nat) : Int).toNat + (0 : Int).toNat + 2) 0 (by omega) (by omega)
 refine Eq.trans q ?_
 rw [List.drop_zero]
 unfold Dl
 cases l.findIdx? (fun x => !(nC x.1)) with
 | none => rfl
 | some j => show K (.s (.int .i64 ((0 + j : Nat) : Int)), []) = _; rw [Nat.zero_add]
theorem Eu : aT prog I N.bF true mJ := lN (aU (bf QF bn) (l := [(N.iI, true, BD)]) (p := []) (ls := [(2, [0,1,7,8], [4], je)]) (lend := []) (focus := false) (fuel := 0) (give := []) (fn := F.bF) (by kernel_rfl) (by kernel_rfl) (by kernel_rfl) (by kernel_rfl) (cs := [aA F.bF 2]) (by kernel_rfl) (dw Aq aJ)) (aK fun d K h => (GR d.1 K).trans (GU d.1 h K))
end Go.Ev.Seat
end
section
namespace Go.Ev.Seat
open Go.RowKit
set_option maxRecDepth 100000
set_option linter.unusedVariables false
set_option linter.unusedSimpArgs false
noncomputable abbrev DF : Env := En [(N.bF, true, mJ)] [] [] [] false 0 []
noncomputable def kT (l : List aC) (K : aj → Option aj) : Option aj := (bif (Nat.ble (List.length l) 1048576) then K ((.s (.bool (decide ((Dl (fun x => (!(nC x.1))) l) ≥ (0 : Int))))), []) else none)
theorem DI (l : List aC) (K : aj → Option aj) : dS DF true F.fC [.l .no aH l, .f N.iI []] K = kT l K := by kernel_rfl
def kU : Sm := bD [.l aH, .sh (.f N.iI .nil)] (fun d => Nat.ble d.1.length 1048576) (fun d => (bl (d.1.any (fun x => !(nC x.1))), []))
theorem DJ (l : List aC) (h : (Nat.ble l.length 1048576) = true) (K : aj → Option aj) : kT l K = K (bl (l.any (fun x => !(nC x.1))), []) := by
 unfold kT
 first | rw [h] | skip
 rw [← Zd]; rfl
theorem BH : aT prog I N.fC true kU := lN (aU (bf Eu bn) (l := [(N.bF, true, mJ)]) (p := []) (ls := []) (lend := []) (focus := false) (fuel := 0) (give := []) (fn := F.fC) (by kernel_rfl) (by kernel_rfl) (by kernel_rfl) (by kernel_rfl) (cs := []) (by kernel_rfl) aJ) (aK fun d K h => (DI d.1 K).trans (DJ d.1 h K))
end Go.Ev.Seat
end
section
namespace Go.Ev.Seat
open Go.RowKit
set_option maxRecDepth 100000
set_option linter.unusedVariables false
set_option linter.unusedSimpArgs false
noncomputable abbrev GV : Env := En [] [] [] [] false 0 []
noncomputable def mM (l : List Int) (K : aj → Option aj) : Option aj := (bif (Nat.beq (List.length l) 0) then (meet (K ((.l .deep ah ([] : List Int)), [])) ((bif (Nat.ble (((List.length ([] : List Int)) + (List.length l)) * 1) 140737488355328) then K ((.l .deep ah (([] : List Int) ++ l)), []) else none))) else (bif (Nat.ble (((List.length ([] : List Int)) + (List.length l)) * 1) 140737488355328) then K ((.l .deep ah (([] : List Int) ++ l)), []) else none))
theorem GX (l : List Int) (K : aj → Option aj) : dS GV true F.dA [.l .no ah l] K = mM l K := by kernel_rfl
def fQ : Sm := bD [.l ah] (fun d => Cc.lim (Cc.sl ah) d.1) (fun d => (.l .deep ah d.1, []))
theorem GY (l : List Int) (h : (Cc.lim (Cc.sl ah) l) = true) (K : aj → Option aj) : mM l K = K (.l .deep ah l, []) := by
 have h1 : l.length ≤ 1048576 := by
  simp only [Cc.lim, Bool.and_eq_true] at h
  exact Nat.le_of_ble_eq_true h.1
 unfold mM
 rw [Nat.ble_eq_true_of_le (by simp; omega)]
 cases l with
 | nil => exact meet_self _
 | cons x xs => rfl
theorem kZ : aT prog I N.dA true fQ := lN (aU bn (l := []) (p := []) (ls := []) (lend := []) (focus := false) (fuel := 0) (give := []) (fn := F.dA) (by kernel_rfl) (by kernel_rfl) (by kernel_rfl) (by kernel_rfl) (cs := []) (by kernel_rfl) aJ) (aK fun d K h => (GX d.1 K).trans (GY d.1 h K))
end Go.Ev.Seat
end
section
namespace Go.Ev.Seat
open Go.RowKit
set_option maxRecDepth 100000
set_option linter.unusedVariables false
set_option linter.unusedSimpArgs false
noncomputable abbrev XG : Env := En [(N.dA, true, fQ)] [] [] [] false 0 []
noncomputable def DK (e : ak) (K : aj → Option aj) : Option aj := (bif (Cc.lim (Cc.sl ah) e.2.2) then K ((.a [(.s (.int .i64 e.1)), (.s (.int .i64 e.2.1)), (.l .deep ah e.2.2)]), []) else none)
theorem XH (e : ak) (K : aj → Option aj) : dS XG true F.nX [.a (ay.cells .no e)] K = DK e K := by kernel_rfl
def xY : Sm := bD [.a ay] (fun d => Nat.ble d.1.2.2.length 1048576) (fun d => (.a (ay.cells .deep d.1), []))
theorem XI (e : ak) (h : (Nat.ble e.2.2.length 1048576) = true) (K : aj → Option aj) : DK e K = K (.a (ay.cells .deep e), []) := by
 have hl := Nat.le_of_ble_eq_true h
 unfold DK
 first | rw [Nat.ble_eq_true_of_le (by simp; omega)] | rw [OI hl]
 rfl
theorem Ia : aT prog I N.nX true xY := lN (aU (bf kZ bn) (l := [(N.dA, true, fQ)]) (p := []) (ls := []) (lend := []) (focus := false) (fuel := 0) (give := []) (fn := F.nX) (by kernel_rfl) (by kernel_rfl) (by kernel_rfl) (by kernel_rfl) (cs := []) (by kernel_rfl) aJ) (aK fun d K h => (XH d.1 K).trans (XI d.1 h K))
end Go.Ev.Seat
end
section
namespace Go.Ev.Seat
open Go.RowKit
set_option maxRecDepth 100000
set_option linter.unusedVariables false
set_option linter.unusedSimpArgs false
def xZ (o0 : List ak) : St := { tm := ([.x, .x, .x, (.w 0)] ++ List.replicate 17 .x), ob := [(0, (.arr true true ay o0))], nx := 1, io := [] }
def vO : Ss := { tm := (.cons (.x) (.cons (.x) (.cons (.x) (.cons (.w 0) (.cons (.x) (.cons (.x) (.cons (.x) (.cons (.l .no aH) (.cons (.int .i64) (.cons (.int .i64) (Ed 11))))))))))), ob := (.arr true true ay .nil), nx := 1, io := .nil }
def XJ (x7 : List aC) (x8 : Int) (x9 : Int) (o0 : List ak) : vO.T := (((), ((), ((), ((), ((), ((), ((), (x7, (x8, (x9, xd 11)))))))))), (o0, ()), ())
def qX (x7 : List aC) (x8 : Int) (x9 : Int) (o0 : List ak) : St := { tm := ([.x, .x, .x, (.w 0), .x, .x, .x, (.l .no aH x7), (.s (.int .i64 x8)), (.s (.int .i64 x9))] ++ List.replicate 11 .x), ob := [(0, (.arr true true ay o0))], nx := 1, io := [] }
theorem Vw (x7 : List aC) (x8 : Int) (x9 : Int) (o0 : List ak) : vO.mk' (XJ x7 x8 x9 o0) = (qX x7 x8 x9 o0) := by kernel_rfl
def XK (d : vO.T) (f : (List aC) → Int → Int → (List ak) → Option aj) : Option aj := match d with | ((_, (_, (_, (_, (_, (_, (_, (x7, (x8, (x9, _)))))))))), (o0, _), _) => f x7 x8 x9 o0
noncomputable def yc (x7 : List aC) (x8 : Int) (x9 : Int) (o0 : List ak) (pW : (List aC) → Int → Int → (List ak) → Option aj) (k0 : (List ak) → Option aj) : Option aj := (bif (decide (x9 < x8)) then (bif ((decide ((0 : Int) ≤ x9)) && (decide (x9 < (((List.length x7) : Nat) : Int)))) then (bif (Nat.ble (List.length (List.getD x7 (Int.toNat x9) (aH.dflt)).2.2.2) 1048576) then (bif (Nat.ble (((List.length o0) + (List.length ((List.getD x7 (Int.toNat x9) (aH.dflt)).2 :: []))) * 40) 140737488355328) then (pW x7 x8 (IntKind.wrap .i64 (x9 + (1 : Int))) (o0 ++ ((List.getD x7 (Int.toNat x9) (aH.dflt)).2 :: []))) else none) else none) else none) else (k0 o0))
noncomputable def qY : Nat → (List aC) → Int → Int → (List ak) → ((List ak) → Option aj) → Option aj
 | 0, _, _, _, _, _ => none
 | m + 1, x7, x8, x9, o0, k0 => yc x7 x8 x9 o0 (fun x7 x8 x9 o0 => (qY m x7 x8 x9 o0 k0)) k0
noncomputable def Lj (x7 : List aC) (x8 : Int) (x9 : Int) (o0 : List ak) (k0 : (List ak) → Option aj) : Option aj := qY (List.length x7 + x8.toNat + x9.toNat + List.length o0 + 2) x7 x8 x9 o0 k0
noncomputable def CS : fG := (fun (σ : St) (K : Ex → St → Option aj) => (match vO.un σ with | some d => XK d (fun x7 x8 x9 o0 => Lj x7 x8 x9 o0 (fun o0 => (K (.ext 0) (xZ o0)))) | none => none))
noncomputable abbrev uN : Env := En [(N.nX, true, xY)] [] [(3, [3,7,8,9], [2,3], CS)] [] false 0 []
theorem Vx (m : Nat) (x7 : List aC) (x8 : Int) (x9 : Int) (o0 : List ak) (K : Ex → St → Option aj) : rounds (run uN (aA F.jL 3)) [3,7,8,9] [2,3] (m + 1) (qX x7 x8 x9 o0) K = yc x7 x8 x9 o0 (fun x7 x8 x9 o0 => (rounds (run uN (aA F.jL 3)) [3,7,8,9] [2,3] m (qX x7 x8 x9 o0) K)) (fun o0 => (K (.ext 0) (xZ o0))) := by kernel_rfl
theorem PE (K : Ex → St → Option aj) : ∀ m : Nat, (∀ (x7 : List aC) (x8 : Int) (x9 : Int) (o0 : List ak), rounds (run uN (aA F.jL 3)) [3,7,8,9] [2,3] m (qX x7 x8 x9 o0) K = qY m x7 x8 x9 o0 (fun o0 => (K (.ext 0) (xZ o0))))
 | 0 => (fun _ _ _ _ => rfl)
 | m + 1 => (fun x7 x8 x9 o0 => (by rw [Vx, show (fun x7 x8 x9 o0 => (rounds (run uN (aA F.jL 3)) [3,7,8,9] [2,3] m (qX x7 x8 x9 o0) K)) = (fun x7 x8 x9 o0 => (qY m x7 x8 x9 o0 (fun o0 => (K (.ext 0) (xZ o0))))) from funext fun x7 => funext fun x8 => funext fun x9 => funext fun o0 => (PE K m) x7 x8 x9 o0]; rfl))
theorem TB : dL uN (aA F.jL 3) := by
 refine dG (n := 3) (F := CS) (by kernel_rfl) rfl (li := [3,7,8,9]) (lo := [2,3]) rfl (fun σ K r hr => ?_)
 unfold CS at hr
 split at hr
 ·rename_i d hd
  rw [Ss.fF hd]
  exact ⟨_, ((congrArg (fun z => rounds (run uN (aA F.jL 3)) [3,7,8,9] [2,3] _ z K) (Vw _ _ _ _)).trans ((PE K _) _ _ _ _)).trans hr⟩
 ·cases hr
noncomputable def NP (l : List aC) (K : aj → Option aj) : Option aj := (Lj l (((List.length l) : Nat) : Int) (0 : Int) [] (fun y0 => K ((.l .deep ay y0), [])))
theorem agO (l : List aC) (K : aj → Option aj) : dS uN true F.jL [.l .no aH l] K = NP l K := by kernel_rfl
def Dv : Sm := bD [.l aH] (fun d => iR (.sl aH) d.1) (fun d => (.l .deep ay (dN d.1), []))
theorem agP (l : List aC) (h : (iR (.sl aH) l) = true) (K : aj → Option aj) : NP l K = K (.l .deep ay (dN l), []) := by
 have hl := iw h
 unfold NP
 have q : ∀ (m i : Nat), i ≤ l.length → l.length - i < m → qY m l ((l.length : Nat) : Int) ((i : Nat) : Int) (dN (l.take i)) (fun y0 => K ((.l .deep ay y0), [])) = K ((.l .deep ay (dN l)), []) := by
  intro m
  induction m with
  | zero => intro i _ hm; omega
  | succ m ih =>
   intro i hi hm
   show yc l _ ((i : Nat) : Int) _ _ _ = _
   unfold yc
   by_cases hlt : i < l.length
   ·have hx : aO (l.getD i aH.dflt).2.2.2 = true := aia (Jt h rfl i)
    have ht : dN (l.take i) ++ [(l.getD i aH.dflt).2] = dN (l.take (i + 1)) := by
     rw [← take_snoc aH.dflt hlt]
     unfold dN
     rw [List.map_append]; rfl
    rw [decide_eq_true (show ((i : Nat) : Int) < ((l.length : Nat) : Int) by omega), decide_eq_true (show (0 : Int) ≤ ((i : Nat) : Int) by omega), Int.toNat_natCast, bY (by omega), Nat.ble_eq_true_of_le (oP hx), Nat.ble_eq_true_of_le (show ((dN (l.take i)).length + [(l.getD i aH.dflt).2].length) * 40 ≤ 140737488355328 by unfold dN; simp only [List.length_map, List.length_take, List.length_cons, List.length_nil]; omega), ht]
    exact ih (i + 1) (by omega) (by omega)
   ·obtain rfl : i = l.length := by omega
    rw [decide_eq_false (show ¬ ((l.length : Nat) : Int) < ((l.length : Nat) : Int) by omega), List.take_length]; rfl
 exact q _ 0 (by omega) (by omega)
theorem PG : aT prog I N.jL true Dv := lN (aU (bf Ia bn) (l := [(N.nX, true, xY)]) (p := []) (ls := [(3, [3,7,8,9], [2,3], CS)]) (lend := []) (focus := false) (fuel := 0) (give := []) (fn := F.jL) (by kernel_rfl) (by kernel_rfl) (by kernel_rfl) (by kernel_rfl) (cs := [aA F.jL 3]) (by kernel_rfl) (dw TB aJ)) (aK fun d K h => (agO d.1 K).trans (agP d.1 h K))
end Go.Ev.Seat
end
section
namespace Go.Ev.Seat
open Go.RowKit
set_option maxRecDepth 100000
set_option linter.unusedVariables false
set_option linter.unusedSimpArgs false
noncomputable abbrev Vy : Env := En [] [] [] [] false 0 []
noncomputable def Jy (b : Int) (K : aj → Option aj) : Option aj := K ((.s (.bool ((band .u8 b (192 : Int)) != (128 : Int)))), [])
theorem Vz (b : Int) (K : aj → Option aj) : dS Vy true F.utf8_RuneStart [.s (.int .u8 b)] K = Jy b K := by kernel_rfl
def BI : Sm := bD [.sc1 (.int .u8)] (fun d => true) (fun d => (bl (band .u8 d.1 192 != 128), []))
theorem VA (b : Int) (K : aj → Option aj) : Jy b K = K (bl (band .u8 b 192 != 128), []) := rfl
theorem QG : aT prog I N.utf8_RuneStart true BI := lN (aU bn (l := []) (p := []) (ls := []) (lend := []) (focus := false) (fuel := 0) (give := []) (fn := F.utf8_RuneStart) (by kernel_rfl) (by kernel_rfl) (by kernel_rfl) (by kernel_rfl) (cs := []) (by kernel_rfl) aJ) (aK fun d K h => (Vz d.1 K).trans (VA d.1 K))
end Go.Ev.Seat
end
section
namespace Go.Ev.Seat
open Go.RowKit
set_option maxRecDepth 100000
set_option linter.unusedVariables false
set_option linter.unusedSimpArgs false
noncomputable abbrev akB : Env := En [(N.i_in, true, mF), (N.utf8_RuneStart, true, BI)] [] [] [] false 0 []
noncomputable def VB (t : List Int) (k : Int) (K : aj → Option aj) : Option aj := (bif (k == (((List.length t) : Nat) : Int)) then K ((.s (.bool true)), []) else (bif ((decide ((0 : Int) ≤ k)) && (decide (k ≤ (IntKind.wrap .i64 ((((List.length t) : Nat) : Int) - (1 : Int)))))) then (bif ((decide ((0 : Int) ≤ k)) && (decide (k < (((List.length t) : Nat) : Int)))) then K ((.s (.bool ((band .u8 (List.getD t (Int.toNat k) (0 : Int)) (192 : Int)) != (128 : Int)))), []) else none) else K ((.s (.bool false)), [])))
theorem akC (t : List Int) (k : Int) (K : aj → Option aj) : dS akB true F.xg [.l .no ah t, .s (.int .i64 k)] K = VB t k K := by kernel_rfl
def vP : Sm := bD [.l ah, .i] (fun d => aO d.1) (fun d => (bl (dh d.1 d.2.1), []))
theorem akD (t : List Int) (k : Int) (h : (aO t) = true) (K : aj → Option aj) : VB t k K = K (bl (dh t k), []) := by
 unfold VB dh
 have hl := oP h
 by_cases e : k = ((t.length : Nat) : Int)
 ·rw [beq_iff_eq.2 e]; rfl
 ·rw [beq_eq_false_iff_ne.2 e, wrap_in (by omega) (by omega)]
  simp only [cond_false, Bool.false_or]
  by_cases h1 : 0 ≤ k
  ·by_cases h2 : k < ((t.length : Nat) : Int)
   ·rw [decide_eq_true h1, decide_eq_true h2, decide_eq_true (show k ≤ ((t.length : Nat) : Int) - 1 by omega)]
    have hb := zy h k.toNat
    rw [amV hb.1 hb.2]; rfl
   ·rw [decide_eq_true h1, decide_eq_false h2, decide_eq_false (show ¬ k ≤ ((t.length : Nat) : Int) - 1 by omega)]; rfl
  ·rw [decide_eq_false h1]; rfl
theorem Ib : aT prog I N.xg true vP := lN (aU (bf uM (bf QG bn)) (l := [(N.i_in, true, mF), (N.utf8_RuneStart, true, BI)]) (p := []) (ls := []) (lend := []) (focus := false) (fuel := 0) (give := []) (fn := F.xg) (by kernel_rfl) (by kernel_rfl) (by kernel_rfl) (by kernel_rfl) (cs := []) (by kernel_rfl) aJ) (aK fun d K h => (akC d.1 d.2.1 K).trans (akD d.1 d.2.1 h K))
end Go.Ev.Seat
end
section
namespace Go.Ev.Seat
open Go.RowKit
set_option maxRecDepth 100000
set_option linter.unusedVariables false
set_option linter.unusedSimpArgs false
noncomputable abbrev aiA : Env := En [(N.ng, true, lW), (N.xg, true, vP), (N.i_in, true, mF)] [] [] [] false 0 []
noncomputable def QH (t : List Int) (e : ak) (K : aj → Option aj) : Option aj := (bif (aO t) then (bif (aS t) then (bif (aO t) then (bif (dh t e.1) then (bif ((decide ((0 : Int) ≤ e.2.1)) && (decide (e.2.1 ≤ (IntKind.wrap .i64 ((((List.length t) : Nat) : Int) - e.1))))) then (bif (aO t) then (bif (dh t (IntKind.wrap .i64 (e.1 + e.2.1))) then (bif (aO e.2.2) then (bif (aS e.2.2) then K ((.s (.bool (decide ((IntKind.wrap .i64 ((IntKind.wrap .i64 ((((List.length t) : Nat) : Int) - e.2.1)) + (((List.length e.2.2) : Nat) : Int))) ≤ (400 : Int))))), []) else K ((.s (.bool false)), [])) else none) else K ((.s (.bool false)), [])) else none) else K ((.s (.bool false)), [])) else K ((.s (.bool false)), [])) else none) else K ((.s (.bool false)), [])) else none)
theorem aiB (t : List Int) (e : ak) (K : aj → Option aj) : dS aiA true F.Jl [.l .no ah t, .a (ay.cells .no e)] K = QH t e K := by kernel_rfl
def QI : Sm := bD [.l ah, .a ay] (fun d => aO d.1 && aO d.2.1.2.2) (fun d => (bl (iE d.1 d.2.1), []))
theorem aiC (t : List Int) (e : ak) (h : (aO t && aO e.2.2) = true) (K : aj → Option aj) : QH t e K = K (bl (iE t e), []) := by
 rw [Bool.and_eq_true] at h
 obtain ⟨ht, he⟩ := h
 unfold QH iE
 rw [ht, he]
 cases c1 : aS t with
 | false => rfl
 | true =>
 have hl := jm c1
 cases c2 : dh t e.1 with
 | false => rfl
 | true =>
 have hr := fA c2
 simp only [Bool.true_and, Bool.not_true, cond_true, cond_false]
 by_cases d1 : 0 ≤ e.2.1
 case neg => rw [decide_eq_false d1]; rfl
 rw [decide_eq_true d1, wrap_in (n := ((t.length : Nat) : Int) - e.1) (by omega) (by omega)]
 by_cases d2 : e.2.1 ≤ ((t.length : Nat) : Int) - e.1
 case neg => rw [decide_eq_false d2]; rfl
 rw [decide_eq_true d2, wrap_in (n := e.1 + e.2.1) (by omega) (by omega)]
 cases c3 : dh t (e.1 + e.2.1) with
 | false => rfl
 | true =>
 cases c4 : aS e.2.2 with
 | false => rfl
 | true =>
 have hl2 := jm c4
 rw [wrap_in (n := ((t.length : Nat) : Int) - e.2.1) (by omega) (by omega), wrap_in (n := ((t.length : Nat) : Int) - e.2.1 + ((List.length e.2.2 : Nat) : Int)) (by omega) (by omega)]
 rfl
theorem aev : aT prog I N.Jl true QI := lN (aU (bf Aa (bf Ib (bf uM bn))) (l := [(N.ng, true, lW), (N.xg, true, vP), (N.i_in, true, mF)]) (p := []) (ls := []) (lend := []) (focus := false) (fuel := 0) (give := []) (fn := F.Jl) (by kernel_rfl) (by kernel_rfl) (by kernel_rfl) (by kernel_rfl) (cs := []) (by kernel_rfl) aJ) (aK fun d K h => (aiB d.1 d.2.1 K).trans (aiC d.1 d.2.1 h K))
end Go.Ev.Seat
end
section
set_option linter.unusedVariables false
namespace Go.Ev
open Go.RowKit Go.Shelf Go.Proofs
def KH (r : Rw) : Sm := fun vs K => match vs with
 | [.nl, .s (.int .i64 n)] => bif decide (0 ≤ n) && decide (n ≤ 1099511627776) then K (.l .deep r [], []) else none
 | _ => none
variable {P : Program} {I : Nat → World → Prop}
theorem ajw {ρ : Ren} (L : Lays8.n4 P ρ) (hent : ∀ (args : Array Value) (w : World), (callFunc (ρ.f 4) args).run P w = .ok (.enter (ρ.f 4) args) w) {r : Rw} {i0 : TypeInfo} {z : Value} (hi0 : P.info? (ρ.t 25) = some i0) (hz0 : i0.zero = some z) (hs0 : 0 < i0.size) (hb : i0.bytes ≤ 64) (hn : z.cells.size = r.n) : aT P I (ρ.f 4) true (KH r) := by
 refine ⟨hent, fun ws K q hq B0 w0 w N vs O M H hI hbel hB hargs hnd hO hM hH hN => ?_⟩
 unfold KH at hq
 split at hq
 ·rename_i n
  cases hc : (decide (0 ≤ n) && decide (n ≤ 1099511627776)) with
  | false => rw [hc] at hq; cases hq
  | true =>
   rw [hc] at hq
   simp only [Bool.and_eq_true, decide_eq_true_eq] at hc
   obtain ⟨h0, h1⟩ := hc
   have hq' : K (.l .deep r [], []) = some q := hq
   obtain ⟨v1, vs1, O1, O2, M1, M2, H1, H2, rfl, rfl, rfl, rfl, a1, b1⟩ := hargs
   obtain ⟨v2, vs2, O3, O4, M3, M4, H3, H4, rfl, rfl, rfl, rfl, a2, b2⟩ := b1
   obtain ⟨rfl, rfl, rfl, rfl⟩ := b2
   have e1 : v1 = .slice none 0 0 := a1.1
   have e2 : v2 = .int .i64 n := a2.1.1
   subst e1 e2
   obtain ⟨k, rfl⟩ : ∃ k : Nat, n = (k : Int) := ⟨n.toNat, by omega⟩
   by_cases hk : k = 0
   ·subst hk
    refine Calls.mono (Any8.slices_Grow_room L none 0 0 0 w (Nat.le_refl _) (by omega) (by omega) (by omega)) ?_
    rintro e w' ⟨rfl, rfl⟩
    refine ⟨_, hq', ⟨⟨[], [], [], [], [], [], ⟨.inl ⟨rfl, rfl, none, 0, rfl, fun _ => ⟨rfl, rfl⟩⟩, rfl, rfl⟩, ⟨rfl, rfl, rfl, rfl⟩, List.nodup_nil, by simp, by simp, by simp⟩, hbel, Nat.le_refl _, fun _ _ _ => rfl⟩⟩
   ·have hmul : (0 + k) * i0.bytes ≤ 1099511627776 * 64 := Nat.mul_le_mul (by omega) hb
    refine Calls.mono (Any8.slices_Grow_grow L i0 z hi0 hz0 hs0 none 0 0 k [] w (Nat.le_refl _) (by omega) (by omega) (by omega) (by simp) (fun _ => rfl) (fun a h => nomatch h)) ?_
    rintro e w' ⟨rfl, rfl⟩
    have hsz : ∀ cs t, (w.drew.alloc (.cells cs t)).heap.size = w.heap.size + 1 := fun cs t => qh w.drew _
    have hnew : ∀ cs t, (w.drew.alloc (.cells cs t)).heap[w.heap.size]? = some (.cells cs t (0, 0)) := fun cs t => Ur w.drew _
    refine ⟨_, hq', ⟨⟨[w.heap.size], [], [w.heap.size], [], [], [], ⟨.inr ⟨w.heap.size, 0, _, [], rfl, Nat.zero_le _, rfl, by rw [hsz]; omega, fun _ => ⟨_, _, hnew _ _, ?_⟩, rfl⟩, rfl, rfl⟩, ⟨rfl, rfl, rfl, rfl⟩, by simp, ?_, by simp, ?_⟩, (hbel.drew).alloc hB _, by rw [hsz]; omega, fun x hx _ => alloc_old w.drew _ x hx⟩⟩
    ·simp only [Array.size_append, size_zeroCells, hn]
     have : ∀ c : Nat, 0 + c * r.n ≤ ([] : List Value).toArray.size + (0 + k - 0) * r.n + (c - (0 + k)) * r.n := fun c => by
      rw [Nat.add_assoc, ← Nat.add_mul]
      have : c * r.n ≤ (0 + k - 0 + (c - (0 + k))) * r.n := Nat.mul_le_mul_right _ (by omega)
      omega
     exact this _
    ·intro x hx
     simp at hx
     subst hx
     exact ⟨.inr (Nat.le_refl _), by rw [hsz]; omega⟩
    ·intro x hx
     simp at hx
     subst hx
     exact ⟨by simp, fun h => by have := hN _ h; omega⟩
 ·cases hq
end Go.Ev
namespace Go.Proofs
open Go.Shelf
def Tryz.grow_ren : Go.Shelf.Ren := ⟨fun | 4 => 218 | n => n, fun | 22 => 22 | 25 => 5 | 3 => 3 | 4 => 4 | 9 => 9 | 20 => 20 | 0 => 0 | n => n, fun | n => n⟩
theorem Tryz.grow : Go.Proofs.Lays8.n4 Tryz.prog Tryz.grow_ren := {
 mixed := by kernel_rfl
 f4 := ⟨Tryz.f218.name, by decide, Tryz.func218.trans (congrArg some (by kernel_rfl))⟩
 t0 := Tryz.underlying0
 a0 := Tryz.isAgg0
 z0 := Tryz.sizeOf0
 v0 := Tryz.zeroValue0
 t3 := Tryz.underlying3
 a3 := Tryz.isAgg3
 z3 := Tryz.sizeOf3
 v3 := Tryz.zeroValue3
 t4 := Tryz.underlying4
 a4 := Tryz.isAgg4
 z4 := Tryz.sizeOf4
 v4 := Tryz.zeroValue4
 t9 := Tryz.underlying9
 a9 := Tryz.isAgg9
 z9 := Tryz.sizeOf9
 v9 := Tryz.zeroValue9
 t20 := Tryz.underlying20
 a20 := Tryz.isAgg20
 z20 := Tryz.sizeOf20
 v20 := Tryz.zeroValue20
 t22 := Tryz.underlying22
 a22 := Tryz.isAgg22
 z22 := Tryz.sizeOf22
 v22 := Tryz.zeroValue22 }
end Go.Proofs
namespace Go.Ev.Seat
open Go.RowKit
set_option maxRecDepth 100000
theorem amf : aT prog I N.jl true (KH ah) := by
 refine ajw (i0 := (prog.info? 5).getD default) (z := .int .u8 0) Go.Proofs.Tryz.grow (aU (l := []) (p := []) (ls := []) (lend := []) (focus := false) (fuel := 0) (give := []) (PX := []) (fresh := true) bn (g := N.jl) (fn := F.jl) (by kernel_rfl) (by kernel_rfl) (by kernel_rfl) (by kernel_rfl) (cs := []) (by kernel_rfl) aJ).1 (by kernel_rfl) (by kernel_rfl) (Nat.le_of_ble_eq_true (by kernel_rfl)) (Nat.le_of_ble_eq_true (by kernel_rfl)) rfl
end Go.Ev.Seat
end
section
namespace Go.Ev.Seat
open Go.RowKit
set_option maxRecDepth 100000
set_option linter.unusedVariables false
def ZY : Ss := { tm := (.cons (.l .no rX) (.cons (.x) (.cons (.x) (.cons (.int .i64) (.cons (.x) (.cons (.x) (.cons (.x) (.cons (.x) (.cons (.x) (.cons (.l .no rX) (.cons (.int .i64) (.cons (.int .i64) (Ed 24))))))))))))), ob := .nil, nx := 0, io := .nil }
def aoW (x0 : List (List (Int))) (x3 : Int) (x9 : List (List (Int))) (x10 : Int) (x11 : Int) : ZY.T := ((x0, ((), ((), (x3, ((), ((), ((), ((), ((), (x9, (x10, (x11, xd 24)))))))))))), (), ())
def ajx (x0 : List (List Int)) (x3 : Int) : St := { tm := ([(.l .no rX x0), .x, .x, (.s (.int .i64 x3))] ++ List.replicate 32 .x), ob := [], nx := 0, io := [] }
def amg (d : ZY.T) (K : Ex → St → Option aj) : Option aj := match d with
 | ((x0, (_, (_, (x3, (_, (_, (_, (_, (_, (x9, (x10, (x11, _)))))))))))), _, _) => bif (x11 == 0) && (x3 == 0) && (x10 == ((x9.length : Nat) : Int)) && Nat.ble x9.length 4611686018427387904 && Nat.ble (sumW List.length x9) 1099511627776 then K (.ext 0) (ajx x0 ((sumW List.length x9 : Nat) : Int)) else none
def Z4 : Ss := { tm := (.cons (.x) (.cons (.x) (.cons (.x) (.cons (.x) (.cons (.x) (.cons (.x) (.cons (.w 0) (.cons (.x) (.cons (.x) (.cons (.x) (.cons (.x) (.cons (.x) (.cons (.x) (.cons (.x) (.cons (.x) (.cons (.x) (.cons (.x) (.cons (.x) (.cons (.x) (.cons (.x) (.cons (.x) (.cons (.x) (.cons (.x) (.cons (.x) (.cons (.x) (.cons (.l .no rX) (.cons (.int .i64) (.cons (.int .i64) (Ed 8))))))))))))))))))))))))))))), ob := (.arr true true ah .nil), nx := 1, io := .nil }
def aoX (x25 : List (List (Int))) (kV : Int) (x27 : Int) (o0 : List (Int)) : Z4.T := (((), ((), ((), ((), ((), ((), ((), ((), ((), ((), ((), ((), ((), ((), ((), ((), ((), ((), ((), ((), ((), ((), ((), ((), ((), (x25, (kV, (x27, xd 8)))))))))))))))))))))))))))), (o0, ()), ())
def ajy (o0 : List Int) : St := { tm := ([.x, .x, .x, .x, .x, .x, (.w 0)] ++ List.replicate 29 .x), ob := [(0, (.arr true true ah o0))], nx := 1, io := [] }
def amh (d : Z4.T) (K : Ex → St → Option aj) : Option aj := match d with
 | ((_, (_, (_, (_, (_, (_, (_, (_, (_, (_, (_, (_, (_, (_, (_, (_, (_, (_, (_, (_, (_, (_, (_, (_, (_, (x25, (kV, (x27, _)))))))))))))))))))))))))))), (o0, _), _) => bif (x27 == 0) && (kV == ((x25.length : Nat) : Int)) && Nat.ble x25.length 4611686018427387904 && Nat.beq o0.length 0 && Nat.ble (sumW List.length x25) 1099511627776 then K (.ext 2) (ajy x25.flatten) else none
noncomputable def ami : Env := En [(N.jl, true, KH ah)] [] [(3, [0,3,9,10,11], [0,3], oN ZY amg), (11, [6,25,26,27], [6], oN Z4 amh)]
noncomputable abbrev Z5 (n : Nat) (x0 : List (List Int)) (x3 : Int) (x9 : List (List (Int))) (x10 x11 : Int) (K : Ex → St → Option aj) : Option aj := rounds (run ami (aA F.bG 3)) [0,3,9,10,11] [0,3] n (ZY.mk' (aoW x0 x3 x9 x10 x11)) K
noncomputable abbrev WW (n : Nat) (x25 : List (List (Int))) (kV x27 : Int) (o0 : List Int) (K : Ex → St → Option aj) : Option aj := rounds (run ami (aA F.bG 11)) [6,25,26,27] [6] n (Z4.mk' (aoX x25 kV x27 o0)) K
theorem agQ (n : Nat) (x0 : List (List (Int))) (x3 : Int) (x9 : List (List (Int))) (x10 : Int) (x11 : Int) (K : Ex → St → Option aj) : Z5 (n + 1) x0 x3 x9 x10 x11 K =
 (bif decide (x11 < x10) then
 (bif (decide ((0 : Int) ≤ x11) && decide (x11 < (((List.length x9) : Nat) : Int))) then
  (bif decide ((IntKind.wrap .i64 (x3 + (((List.length (List.getD x9 (Int.toNat x11) (rX.dflt))) : Nat) : Int))) < (0 : Int)) then
   none
   else Z5 n x0 (IntKind.wrap .i64 (x3 + (((List.length (List.getD x9 (Int.toNat x11) (rX.dflt))) : Nat) : Int))) x9 x10 (IntKind.wrap .i64 (x11 + (1 : Int))) K)
  else none)
 else K (.ext 0) (ajx x0 x3)) := by kernel_rfl
theorem agR (n : Nat) (x25 : List (List (Int))) (kV : Int) (x27 : Int) (o0 : List (Int)) (K : Ex → St → Option aj) : WW (n + 1) x25 kV x27 o0 K =
 (bif decide (x27 < kV) then
 (bif (decide ((0 : Int) ≤ x27) && decide (x27 < (((List.length x25) : Nat) : Int))) then
  (bif (Nat.ble (((List.length o0) + (List.length (List.getD x25 (Int.toNat x27) (rX.dflt)))) * 1) 140737488355328) then
   WW n x25 kV (IntKind.wrap .i64 (x27 + (1 : Int))) (o0 ++ (List.getD x25 (Int.toNat x27) (rX.dflt))) K
   else none)
  else none)
 else K (.ext 2) (ajy o0)) := by kernel_rfl
theorem an0 (x0 x9 : List (List Int)) (K : Ex → St → Option aj) (h1 : x9.length ≤ 4611686018427387904) (h2 : sumW List.length x9 ≤ 1099511627776) : Z5 (x9.length + 1) x0 0 x9 ((x9.length : Nat) : Int) 0 K = K (.ext 0) (ajx x0 ((sumW List.length x9 : Nat) : Int)) := by
 have := ae4 (R := fun n i (s : Int) => Z5 n x0 s x9 ((x9.length : Nat) : Int) i K) (k := K (.ext 0) (ajx x0 ((sumW List.length x9 : Nat) : Int))) (f := fun i => ((sumW List.length (x9.take i) : Nat) : Int)) x9.length (fun m i hi => by
  show Z5 (m + 1) x0 _ x9 _ i K = Z5 m x0 ((sumW List.length (x9.take (i + 1)) : Nat) : Int) x9 _ ((i + 1 : Nat) : Int) K
  have hs := Jm (g := List.length) (z := (rX.dflt : List Int)) hi
  have hs' : sumW List.length (List.take (i + 1) x9) = sumW List.length (List.take i x9) + List.length (x9.getD i rX.dflt) := hs
  have hle : sumW List.length (x9.take (i + 1)) ≤ sumW List.length x9 := zn
  rw [agQ, decide_eq_true (show ((i : Nat) : Int) < ((x9.length : Nat) : Int) by omega), decide_eq_true (show (0 : Int) ≤ ((i : Nat) : Int) by omega), bY (show i ≤ 4611686018427387904 by omega), Int.toNat_natCast, Yd (by omega) (by omega), hs', decide_eq_false (show ¬ ((((sumW List.length (List.take i x9) : Nat) : Int) + ((List.length (x9.getD i rX.dflt) : Nat) : Int)) < 0) by omega), Int.natCast_add]
  rfl) (fun m => by
  show Z5 (m + 1) x0 _ x9 _ _ K = _
  rw [agQ, decide_eq_false (show ¬ ((x9.length : Nat) : Int) < ((x9.length : Nat) : Int) by omega), List.take_length]; rfl)
 exact this
theorem an1 (x25 : List (List Int)) (K : Ex → St → Option aj) (h1 : x25.length ≤ 4611686018427387904) (h2 : sumW List.length x25 ≤ 1099511627776) : WW (x25.length + 1) x25 ((x25.length : Nat) : Int) 0 [] K = K (.ext 2) (ajy x25.flatten) := by
 have := ae4 (R := fun n i (s : List Int) => WW n x25 ((x25.length : Nat) : Int) i s K) (k := K (.ext 2) (ajy x25.flatten)) (f := fun i => (x25.take i).flatten) x25.length (fun m i hi => by
  show WW (m + 1) x25 _ i _ K = WW m x25 _ ((i + 1 : Nat) : Int) (x25.take (i + 1)).flatten K
  have hs := Jm (g := List.length) (z := (rX.dflt : List Int)) hi
  have hs' : sumW List.length (List.take (i + 1) x25) = sumW List.length (List.take i x25) + List.length (x25.getD i rX.dflt) := hs
  have hle : sumW List.length (x25.take (i + 1)) ≤ sumW List.length x25 := zn
  have hfl := RQ (x25.take i)
  rw [agR, decide_eq_true (show ((i : Nat) : Int) < ((x25.length : Nat) : Int) by omega), decide_eq_true (show (0 : Int) ≤ ((i : Nat) : Int) by omega), bY (show i ≤ 4611686018427387904 by omega), Int.toNat_natCast, Nat.ble_eq_true_of_le (show (((x25.take i).flatten.length + (x25.getD i rX.dflt).length) * 1) ≤ 140737488355328 by omega)]
  show WW m x25 _ _ ((x25.take i).flatten ++ x25.getD i rX.dflt) K = _
  have hf2 : (x25.take (i + 1)).flatten = (x25.take i).flatten ++ x25.getD i rX.dflt := JV hi
  rw [hf2]) (fun m => by
  show WW (m + 1) x25 _ _ _ K = _
  rw [agR, decide_eq_false (show ¬ ((x25.length : Nat) : Int) < ((x25.length : Nat) : Int) by omega), List.take_length]; rfl)
 exact this
theorem amj : dL ami (aA F.bG 3) := by
 refine wI (n := 3) (sh := ZY) (R := amg) (by kernel_rfl) rfl rfl (fun d K r hr => ?_)
 obtain ⟨⟨x0, u1, u2, x3, u4, u5, u6, u7, u8, x9, x10, x11, u12⟩, u13, u14⟩ := d
 unfold amg at hr
 simp only at hr
 cases hc : ((x11 == 0) && (x3 == 0) && (x10 == ((x9.length : Nat) : Int)) && Nat.ble x9.length 4611686018427387904 && Nat.ble (sumW List.length x9) 1099511627776) with
 | false => rw [hc] at hr; cases hr
 | true =>
  rw [hc] at hr
  simp only [Bool.and_eq_true, beq_iff_eq] at hc
  obtain ⟨⟨⟨⟨rfl, rfl⟩, rfl⟩, h1⟩, h2⟩ := hc
  exact ⟨x9.length + 1, (an0 x0 x9 K (Nat.le_of_ble_eq_true h1) (Nat.le_of_ble_eq_true h2)).trans hr⟩
theorem amk : dL ami (aA F.bG 11) := by
 refine wI (n := 11) (sh := Z4) (R := amh) (by kernel_rfl) rfl rfl (fun d K r hr => ?_)
 obtain ⟨⟨_, _, _, _, _, _, _, _, _, _, _, _, _, _, _, _, _, _, _, _, _, _, _, _, _, x25, kV, x27, u12⟩, ⟨o0, u13⟩, u14⟩ := d
 unfold amh at hr
 simp only at hr
 cases hc : ((x27 == 0) && (kV == ((x25.length : Nat) : Int)) && Nat.ble x25.length 4611686018427387904 && Nat.beq o0.length 0 && Nat.ble (sumW List.length x25) 1099511627776) with
 | false => rw [hc] at hr; cases hr
 | true =>
  rw [hc] at hr
  simp only [Bool.and_eq_true, beq_iff_eq] at hc
  obtain ⟨⟨⟨⟨rfl, rfl⟩, h1⟩, h3⟩, h2⟩ := hc
  have h3' : o0 = [] := List.eq_nil_of_length_eq_zero (Nat.eq_of_beq_eq_true h3)
  subst h3'
  exact ⟨x25.length + 1, (an1 x25 K (Nat.le_of_ble_eq_true h1) (Nat.le_of_ble_eq_true h2)).trans hr⟩
noncomputable def agS := dS ami true F.bG
theorem akE : aT prog I N.bG true agS := aU (bf amf bn) (by kernel_rfl) (by kernel_rfl) (by kernel_rfl) (by kernel_rfl) (cs := [aA F.bG 3, aA F.bG 11]) (by kernel_rfl) (dw amj (dw amk aJ))
def TD : Sm := fun vs K => match vs with
 | [v] => match (Cc.sl rX).dec v with
  | some (xs : List (List Int)) => bif Nat.ble xs.length 4611686018427387904 && Nat.ble (sumW List.length xs) 1099511627776 then K (.l .deep ah xs.flatten, []) else none
  | none => none
 | _ => none
theorem aiD : aT prog I N.bG true TD := okW akE (by
  intro ws K q hr
  unfold TD at hr
  split at hr
  · split at hr
    · rename_i xs hx
      rw [Cc.iL _ hx]
      have e : agS [.l .no rX xs] K = (bif ((0 : Int) == 0) && ((0 : Int) == 0) && (((List.length xs : Nat) : Int) == ((List.length xs : Nat) : Int)) && Nat.ble (List.length xs) 4611686018427387904 && Nat.ble (sumW List.length xs) 1099511627776 then
        (bif decide (0 ≤ ((sumW List.length xs : Nat) : Int)) && decide (((sumW List.length xs : Nat) : Int) ≤ 1099511627776) then
         (bif ((0 : Int) == 0) && (((List.length xs : Nat) : Int) == ((List.length xs : Nat) : Int)) && Nat.ble (List.length xs) 4611686018427387904 && Nat.beq 0 0 && Nat.ble (sumW List.length xs) 1099511627776 then K (.l .deep ah (List.flatten xs), []) else none)
         else none) else none) := by kernel_rfl
      cases hl : (Nat.ble xs.length 4611686018427387904 && Nat.ble (sumW List.length xs) 1099511627776) with
      | false => rw [hl] at hr; cases hr
      | true =>
        rw [hl] at hr
        simp only [Bool.and_eq_true] at hl
        refine e.trans (Eq.trans ?_ hr)
        rw [hl.1, hl.2, beq_self_eq_true, beq_self_eq_true, decide_eq_true (show (0 : Int) ≤ ((sumW List.length xs : Nat) : Int) by omega), decide_eq_true (show ((sumW List.length xs : Nat) : Int) ≤ 1099511627776 by have := Nat.le_of_ble_eq_true hl.2; omega)]
        rfl
    · cases hr
  · cases hr)
end Go.Ev.Seat
end
section
namespace Go.Ev.Seat
open Go.RowKit
set_option maxRecDepth 100000
set_option linter.unusedVariables false
set_option linter.unusedSimpArgs false
noncomputable abbrev agT : Env := En [(N.bG, true, TD)] [(1, takeB [0, 1, 2, 3, 4, 5, 6, 7, 8, 9, 10, 11, 12] (.fork (.one 13 (.fork (.one 14 (takes [15]))))), [])] [] [] false 0 []
noncomputable def NQ (e : ak) (t : List Int) (K : aj → Option aj) : Option aj := (bif ((decide ((0 : Int) ≤ e.1)) && (decide (e.1 ≤ (((List.length t) : Nat) : Int)))) then (bif ((decide ((0 : Int) ≤ (IntKind.wrap .i64 (e.1 + e.2.1)))) && (decide ((IntKind.wrap .i64 (e.1 + e.2.1)) ≤ (((List.length t) : Nat) : Int)))) then (bif (Nat.ble (sumW List.length ((List.take (Int.toNat e.1) t) :: (e.2.2 :: ((List.drop (Int.toNat (IntKind.wrap .i64 (e.1 + e.2.1))) t) :: [])))) 1099511627776) then K ((.l .deep ah (List.flatten ((List.take (Int.toNat e.1) t) :: (e.2.2 :: ((List.drop (Int.toNat (IntKind.wrap .i64 (e.1 + e.2.1))) t) :: []))))), []) else none) else none) else none)
theorem agU (e : ak) (t : List Int) (K : aj → Option aj) : dS agT true F.ER [.a (ay.cells .no e), .l .no ah t] K = NQ e t K := by kernel_rfl
def NR : Sm := bD [.a ay, .l ah] (fun d => decide (0 ≤ d.1.1) && decide (0 ≤ d.1.2.1) && decide (d.1.1 + d.1.2.1 ≤ ((d.2.1.length : Nat) : Int)) && Nat.ble d.2.1.length 1048576 && Nat.ble d.1.2.2.length 1048576) (fun d => (.l .deep ah (Xe d.1 d.2.1), []))
theorem agV (e : ak) (t : List Int) (h : (decide (0 ≤ e.1) && decide (0 ≤ e.2.1) && decide (e.1 + e.2.1 ≤ ((t.length : Nat) : Int)) && Nat.ble t.length 1048576 && Nat.ble e.2.2.length 1048576) = true) (K : aj → Option aj) : NQ e t K = K (.l .deep ah (Xe e t), []) := by
 simp only [Bool.and_eq_true, decide_eq_true_eq] at h
 obtain ⟨⟨⟨⟨h0, h1⟩, h2⟩, h3⟩, h4⟩ := h
 have h3' := Nat.le_of_ble_eq_true h3
 have h4' := Nat.le_of_ble_eq_true h4
 unfold NQ
 rw [wrap_in (n := e.1 + e.2.1) (by omega) (by omega), decide_eq_true h0, decide_eq_true (show e.1 ≤ ((t.length : Nat) : Int) by omega), decide_eq_true (show 0 ≤ e.1 + e.2.1 by omega), decide_eq_true h2]
 have hs : Nat.ble (sumW List.length [List.take (Int.toNat e.1) t, e.2.2, List.drop (Int.toNat (e.1 + e.2.1)) t]) 1099511627776 = true := Nat.ble_eq_true_of_le (by
  have e1 : (List.take (Int.toNat e.1) t).length ≤ 1048576 := by simp; omega
  have e2 : (List.drop (Int.toNat (e.1 + e.2.1)) t).length ≤ 1048576 := by simp; omega
  show _ + (_ + (_ + 0)) ≤ _
  omega)
 rw [hs]
 simp only [Bool.and_self, cond_true]
 rw [show [List.take (Int.toNat e.1) t, e.2.2, List.drop (Int.toNat (e.1 + e.2.1)) t].flatten = Xe e t by simp [Xe]]
theorem abm : aT prog I N.ER true NR := lN (aU (bf aiD bn) (l := [(N.bG, true, TD)]) (p := [(1, takeB [0, 1, 2, 3, 4, 5, 6, 7, 8, 9, 10, 11, 12] (.fork (.one 13 (.fork (.one 14 (takes [15]))))), [])]) (ls := []) (lend := []) (focus := false) (fuel := 0) (give := []) (fn := F.ER) (by kernel_rfl) (by kernel_rfl) (by kernel_rfl) (by kernel_rfl) (cs := []) (by kernel_rfl) aJ) (aK fun d K h => (agU d.1 d.2.1 K).trans (agV d.1 d.2.1 h K))
end Go.Ev.Seat
end
section
namespace Go.Ev.Seat
open Go.RowKit
set_option maxRecDepth 100000
set_option linter.unusedVariables false
set_option linter.unusedSimpArgs false
def yg (x7 : Int) (o0 : List Int) : St := { tm := ([.x, .x, .x, .x, .x, .x, (.w 0), (.s (.int .i64 x7))] ++ List.replicate 25 .x), ob := [(0, (.arr true true ah o0))], nx := 1, io := [] }
def vS : Ss := { tm := (.cons (.x) (.cons (.x) (.cons (.x) (.cons (.x) (.cons (.x) (.cons (.x) (.cons (.w 0) (.cons (.int .i64) (.cons (.x) (.cons (.x) (.cons (.x) (.cons (.x) (.cons (.x) (.cons (.x) (.cons (.x) (.cons (.l .no ay) (.cons (.int .i64) (.cons (.int .i64) (Ed 15))))))))))))))))))), ob := (.arr true true ah .nil), nx := 1, io := .nil }
def XL (x7 : Int) (x15 : List ak) (x16 : Int) (x17 : Int) (o0 : List Int) : vS.T := (((), ((), ((), ((), ((), ((), ((), (x7, ((), ((), ((), ((), ((), ((), ((), (x15, (x16, (x17, xd 15)))))))))))))))))), (o0, ()), ())
def qZ (x7 : Int) (x15 : List ak) (x16 : Int) (x17 : Int) (o0 : List Int) : St := { tm := ([.x, .x, .x, .x, .x, .x, (.w 0), (.s (.int .i64 x7)), .x, .x, .x, .x, .x, .x, .x, (.l .no ay x15), (.s (.int .i64 x16)), (.s (.int .i64 x17))] ++ List.replicate 15 .x), ob := [(0, (.arr true true ah o0))], nx := 1, io := [] }
theorem VD (x7 : Int) (x15 : List ak) (x16 : Int) (x17 : Int) (o0 : List Int) : vS.mk' (XL x7 x15 x16 x17 o0) = (qZ x7 x15 x16 x17 o0) := by kernel_rfl
def XM (d : vS.T) (f : Int → (List ak) → Int → Int → (List Int) → Option aj) : Option aj := match d with | ((_, (_, (_, (_, (_, (_, (_, (x7, (_, (_, (_, (_, (_, (_, (_, (x15, (x16, (x17, _)))))))))))))))))), (o0, _), _) => f x7 x15 x16 x17 o0
noncomputable def yh (x7 : Int) (x15 : List ak) (x16 : Int) (x17 : Int) (o0 : List Int) (pW : Int → (List ak) → Int → Int → (List Int) → Option aj) (k0 : Int → (List Int) → Option aj) : Option aj := (bif (decide (x17 < x16)) then (bif ((decide ((0 : Int) ≤ x17)) && (decide (x17 < (((List.length x15) : Nat) : Int)))) then (bif ((aO o0) && (aO (List.getD x15 (Int.toNat x17) (ay.dflt)).2.2)) then (bif (!(iE o0 (List.getD x15 (Int.toNat x17) (ay.dflt)))) then (k0 x7 o0) else (bif (((((decide ((0 : Int) ≤ (List.getD x15 (Int.toNat x17) (ay.dflt)).1)) && (decide ((0 : Int) ≤ (List.getD x15 (Int.toNat x17) (ay.dflt)).2.1))) && (decide (((List.getD x15 (Int.toNat x17) (ay.dflt)).1 + (List.getD x15 (Int.toNat x17) (ay.dflt)).2.1) ≤ (((List.length o0) : Nat) : Int)))) && (Nat.ble (List.length o0) 1048576)) && (Nat.ble (List.length (List.getD x15 (Int.toNat x17) (ay.dflt)).2.2) 1048576)) then (pW (IntKind.wrap .i64 (x7 + (1 : Int))) x15 x16 (IntKind.wrap .i64 (x17 + (1 : Int))) (Xe (List.getD x15 (Int.toNat x17) (ay.dflt)) o0)) else none)) else none) else none) else (k0 x7 o0))
noncomputable def ru : Nat → Int → (List ak) → Int → Int → (List Int) → (Int → (List Int) → Option aj) → Option aj
 | 0, _, _, _, _, _, _ => none
 | m + 1, x7, x15, x16, x17, o0, k0 => yh x7 x15 x16 x17 o0 (fun x7 x15 x16 x17 o0 => (ru m x7 x15 x16 x17 o0 k0)) k0
noncomputable def Ll (x7 : Int) (x15 : List ak) (x16 : Int) (x17 : Int) (o0 : List Int) (k0 : Int → (List Int) → Option aj) : Option aj := ru (x7.toNat + List.length x15 + x16.toNat + x17.toNat + List.length o0 + 2) x7 x15 x16 x17 o0 k0
noncomputable def CU : fG := (fun (σ : St) (K : Ex → St → Option aj) => (match vS.un σ with | some d => XM d (fun x7 x15 x16 x17 o0 => Ll x7 x15 x16 x17 o0 (fun x7 o0 => (K (.ext 0) (yg x7 o0)))) | none => none))
noncomputable abbrev uO : Env := En [(N.ng, true, lW), (N.dA, true, fQ), (N.Jl, true, QI), (N.ER, true, NR)] [] [(5, [6,7,15,16,17], [4,5,6,7], CU)] [] false 0 []
theorem VE (m : Nat) (x7 : Int) (x15 : List ak) (x16 : Int) (x17 : Int) (o0 : List Int) (K : Ex → St → Option aj) : rounds (run uO (aA F.jM 5)) [6,7,15,16,17] [4,5,6,7] (m + 1) (qZ x7 x15 x16 x17 o0) K = yh x7 x15 x16 x17 o0 (fun x7 x15 x16 x17 o0 => (rounds (run uO (aA F.jM 5)) [6,7,15,16,17] [4,5,6,7] m (qZ x7 x15 x16 x17 o0) K)) (fun x7 o0 => (K (.ext 0) (yg x7 o0))) := by kernel_rfl
theorem PI (K : Ex → St → Option aj) : ∀ m : Nat, (∀ (x7 : Int) (x15 : List ak) (x16 : Int) (x17 : Int) (o0 : List Int), rounds (run uO (aA F.jM 5)) [6,7,15,16,17] [4,5,6,7] m (qZ x7 x15 x16 x17 o0) K = ru m x7 x15 x16 x17 o0 (fun x7 o0 => (K (.ext 0) (yg x7 o0))))
 | 0 => (fun _ _ _ _ _ => rfl)
 | m + 1 => (fun x7 x15 x16 x17 o0 => (by rw [VE, show (fun x7 x15 x16 x17 o0 => (rounds (run uO (aA F.jM 5)) [6,7,15,16,17] [4,5,6,7] m (qZ x7 x15 x16 x17 o0) K)) = (fun x7 x15 x16 x17 o0 => (ru m x7 x15 x16 x17 o0 (fun x7 o0 => (K (.ext 0) (yg x7 o0))))) from funext fun x7 => funext fun x15 => funext fun x16 => funext fun x17 => funext fun o0 => (PI K m) x7 x15 x16 x17 o0]; rfl))
theorem TF : dL uO (aA F.jM 5) := by
 refine dG (n := 5) (F := CU) (by kernel_rfl) rfl (li := [6,7,15,16,17]) (lo := [4,5,6,7]) rfl (fun σ K r hr => ?_)
 unfold CU at hr
 split at hr
 ·rename_i d hd
  rw [Ss.fF hd]
  exact ⟨_, ((congrArg (fun z => rounds (run uO (aA F.jM 5)) [6,7,15,16,17] [4,5,6,7] _ z K) (VD _ _ _ _ _)).trans ((PI K _) _ _ _ _ _)).trans hr⟩
 ·cases hr
noncomputable def NS (t : List Int) (l : List ak) (K : aj → Option aj) : Option aj := (bif (aO t) then (bif (!(aS t)) then K ((.t [(.l .deep ah ([] : List Int)), (.s (.int .i64 (-(1 : Int))))]), []) else (bif (Cc.lim (Cc.sl ah) t) then (Ll (0 : Int) l (((List.length l) : Nat) : Int) (0 : Int) t (fun y0 y1 => K ((.t [(.l .deep ah y1), (.s (.int .i64 y0))]), []))) else none)) else none)
theorem agW (t : List Int) (l : List ak) (K : aj → Option aj) : dS uO true F.jM [.l .no ah t, .l .no ay l] K = NS t l K := by kernel_rfl
def Dw : Sm := bD [.l ah, .l ay] (fun d => aO d.1 && iR (.sl ay) d.2.1) (fun d => (.t [.l .deep ah (bQ d.1 d.2.1).1, .s (.int .i64 (bQ d.1 d.2.1).2)], []))
theorem agX (t : List Int) (l : List ak) (h : (aO t && iR (.sl ay) l) = true) (K : aj → Option aj) : NS t l K = K (.t [.l .deep ah (bQ t l).1, .s (.int .i64 (bQ t l).2)], []) := by
 have h1 := ((Bool.and_eq_true _ _).mp h).1
 have h2 := ((Bool.and_eq_true _ _).mp h).2
 unfold NS bQ
 rw [h1]
 cases ht : aS t with
 | false => rfl
 | true =>
 have lt := jm ht
 have hl := iw h2
 rw [OI (oP h1)]
 have q : ∀ (m i : Nat) (o : List Int), aO o = true → i ≤ l.length → l.length - i < m → ru m ((i : Nat) : Int) l (((List.length l) : Nat) : Int) ((i : Nat) : Int) o (fun y0 y1 => K ((.t [(.l .deep ah y1), (.s (.int .i64 y0))]), [])) =
   K ((.t [.l .deep ah (iq (l.drop i) o i).1, .s (.int .i64 (((iq (l.drop i) o i).2 : Nat) : Int))]), []) := by
  intro m
  induction m with
  | zero => intro i o _ _ hm; omega
  | succ m ih =>
   intro i o ho hi hm
   show yh ((i : Nat) : Int) l _ ((i : Nat) : Int) o _ _ = _
   unfold yh
   by_cases hlt : i < l.length
   ·have hg : l.getD i ay.dflt = l[i] := getD_lt _ hlt
    have hf : aO (l[i]).2.2 = true := FZ (dB (dB (F5 h2 (List.getElem_mem hlt))))
    have hd : l.drop i = l[i] :: l.drop (i + 1) := (List.getElem_cons_drop hlt).symm
    rw [decide_eq_true (show ((i : Nat) : Int) < ((l.length : Nat) : Int) by omega), decide_eq_true (show (0 : Int) ≤ ((i : Nat) : Int) by omega), Int.toNat_natCast, bY (by omega), ho, hg, hf, hd]
    cases he : iE o l[i] with
    | false => simp only [iq, he]; rfl
    | true =>
     have e1 : ny o l[i] = Xe l[i] o := by unfold ny; rw [he]; rfl
     have := ih (i + 1) (Xe l[i] o) (e1 ▸ JZ ho hf) (by omega) (by omega)
     have qq := yV.1 he
     have r1 := fA qq.a
     have c0 := qq.c0
     have r2 := fA qq.b
     have l1 := jm qq.tx
     have l2 := jm qq.p
     rw [decide_eq_true r1.1, decide_eq_true c0, decide_eq_true r2.2, Nat.ble_eq_true_of_le (by omega), Nat.ble_eq_true_of_le (by omega)]
     simp only [iq, he]
     exact this
   ·obtain rfl : i = l.length := by omega
    rw [decide_eq_false (show ¬ ((l.length : Nat) : Int) < ((l.length : Nat) : Int) by omega), List.drop_length]; rfl
 refine Eq.trans (q _ 0 t h1 (by omega) (by omega)) ?_
 rw [List.drop_zero]; rfl
theorem PK : aT prog I N.jM true Dw := lN (aU (bf Aa (bf kZ (bf aev (bf abm bn)))) (l := [(N.ng, true, lW), (N.dA, true, fQ), (N.Jl, true, QI), (N.ER, true, NR)]) (p := []) (ls := [(5, [6,7,15,16,17], [4,5,6,7], CU)]) (lend := []) (focus := false) (fuel := 0) (give := []) (fn := F.jM) (by kernel_rfl) (by kernel_rfl) (by kernel_rfl) (by kernel_rfl) (cs := [aA F.jM 5]) (by kernel_rfl) (dw TF aJ)) (aK fun d K h => (agW d.1 d.2.1 K).trans (agX d.1 d.2.1 h K))
end Go.Ev.Seat
end
section
namespace Go.Ev.Seat
open Go.RowKit
set_option maxRecDepth 100000
set_option linter.unusedVariables false
set_option linter.unusedSimpArgs false
noncomputable abbrev abn : Env := En [] [] [] [] false 0 []
noncomputable def II (a : List Int) (b : List Int) (K : aj → Option aj) : Option aj := K ((.s (.bool ((ByteArray.toList (oJ a)) == (ByteArray.toList (oJ b))))), [])
theorem abo (a : List Int) (b : List Int) (K : aj → Option aj) : dS abn true F.bytes_Equal [.l .no ah a, .l .no ah b] K = II a b K := by kernel_rfl
def IJ : Sm := bD [.l ah, .l ah] (fun d => aO d.1 && aO d.2.1) (fun d => (bl (decide (d.1 = d.2.1)), []))
theorem abp (a : List Int) (b : List Int) (h : (aO a && aO b) = true) (K : aj → Option aj) : II a b K = K (bl (decide (a = b)), []) := by
 obtain ⟨h1, h2⟩ := (Bool.and_eq_true _ _).mp h
 unfold II
 rw [adv (fun x hx => wL h1 hx) (fun x hx => wL h2 hx)]
 rfl
theorem XO : aT prog I N.bytes_Equal true IJ := lN (aU bn (l := []) (p := []) (ls := []) (lend := []) (focus := false) (fuel := 0) (give := []) (fn := F.bytes_Equal) (by kernel_rfl) (by kernel_rfl) (by kernel_rfl) (by kernel_rfl) (cs := []) (by kernel_rfl) aJ) (aK fun d K h => (abo d.1 d.2.1 K).trans (abp d.1 d.2.1 h K))
end Go.Ev.Seat
end
section
namespace Go.Ev.Seat
open Go.RowKit
set_option maxRecDepth 100000
set_option linter.unusedVariables false
set_option linter.unusedSimpArgs false
noncomputable abbrev Z7 : Env := En [(N.fC, true, kU), (N.jL, true, Dv), (N.jM, true, Dw), (N.bytes_Equal, true, IJ)] [(3, takeB [0, 1, 2, 3] (.fork (.one 4 (.fork (.one 5 (takes [6, 7, 8, 9, 10]))))), [])] [] [] false 0 []
noncomputable def Gh (d : eU) (K : aj → Option aj) : Option aj := (bif (decide ((((List.length d.2.2.1) : Nat) : Int) > (60 : Int))) then K ((.s (.bool false)), []) else (bif (Nat.ble (List.length d.2.2.1) 1048576) then (bif (List.any d.2.2.1 (fun x => (!(nC x.1)))) then K ((.s (.bool false)), []) else (bif (iR (Cc.sl aH) d.2.2.1) then (bif ((aO d.1) && (iR (Cc.sl ay) (dN d.2.2.1))) then (bif ((bQ d.1 (dN d.2.2.1)).2 == (((List.length d.2.2.1) : Nat) : Int)) then (bif ((aO (bQ d.1 (dN d.2.2.1)).1) && (aO d.2.1)) then K ((.s (.bool (decide ((bQ d.1 (dN d.2.2.1)).1 = d.2.1)))), []) else none) else K ((.s (.bool false)), [])) else none) else none)) else none))
theorem Z8 (d : eU) (K : aj → Option aj) : dS Z7 true F.uY [.a (bT.cells .no d)] K = Gh d K := by kernel_rfl
def Gi : Sm := bD [.a bT] (fun d => iZ bT d.1) (fun d => (bl (zC d.1.1 d.1.2.1 d.1.2.2.1), []))
theorem Z9 (d : eU) (h : (iZ bT d) = true) (K : aj → Option aj) : Gh d K = K (bl (zC d.1 d.2.1 d.2.2.1), []) := by
 obtain ⟨h1, h2, h3, _, _⟩ := Eo h
 have hl := iw h3
 unfold Gh zC
 rw [Nat.ble_eq_true_of_le hl, h1, h2, h3, Ej h3, Em h1 (Ej h3)]
 by_cases h6 : ((d.2.2.1.length : Nat) : Int) ≤ 60
 case neg => rw [decide_eq_false h6, decide_eq_true (show ((d.2.2.1.length : Nat) : Int) > 60 by omega)]; rfl
 rw [decide_eq_true h6, decide_eq_false (show ¬ ((d.2.2.1.length : Nat) : Int) > 60 by omega), List.all_eq_not_any_not]
 cases List.any d.2.2.1 (fun c => !(nC c.1))
 ·cases ((bQ d.1 (dN d.2.2.1)).2 == ((d.2.2.1.length : Nat) : Int)) <;> rfl
 ·rfl
theorem VF : aT prog I N.uY true Gi := lN (aU (bf BH (bf PG (bf PK (bf XO bn)))) (l := [(N.fC, true, kU), (N.jL, true, Dv), (N.jM, true, Dw), (N.bytes_Equal, true, IJ)]) (p := [(3, takeB [0, 1, 2, 3] (.fork (.one 4 (.fork (.one 5 (takes [6, 7, 8, 9, 10]))))), [])]) (ls := []) (lend := []) (focus := false) (fuel := 0) (give := []) (fn := F.uY) (by kernel_rfl) (by kernel_rfl) (by kernel_rfl) (by kernel_rfl) (cs := []) (by kernel_rfl) aJ) (aK fun d K h => (Z8 d.1 K).trans (Z9 d.1 h K))
end Go.Ev.Seat
end
section
namespace Go.Ev.Seat
open Go.RowKit
set_option maxRecDepth 100000
set_option linter.unusedVariables false
set_option linter.unusedSimpArgs false
noncomputable abbrev agY : Env := En [(N.i_in, true, mF)] [] [] [] false 0 []
noncomputable def WX (n : Int) (K : aj → Option aj) : Option aj := K ((.s (.bool ((decide ((0 : Int) ≤ n)) && (decide (n ≤ (1000 : Int)))))), [])
theorem agZ (n : Int) (K : aj → Option aj) : dS agY true F.EL [.s (.int .i64 n)] K = WX n K := by kernel_rfl
def NT : Sm := bD [.i] (fun d => true) (fun d => (bl (Iq d.1), []))
theorem ag0 (n : Int) (K : aj → Option aj) : WX n K = K (bl (Iq n), []) := rfl
theorem abq : aT prog I N.EL true NT := lN (aU (bf uM bn) (l := [(N.i_in, true, mF)]) (p := []) (ls := []) (lend := []) (focus := false) (fuel := 0) (give := []) (fn := F.EL) (by kernel_rfl) (by kernel_rfl) (by kernel_rfl) (by kernel_rfl) (cs := []) (by kernel_rfl) aJ) (aK fun d K h => (agZ d.1 K).trans (ag0 d.1 K))
end Go.Ev.Seat
end
section
namespace Go.Ev.Seat
open Go.RowKit
set_option maxRecDepth 100000
set_option linter.unusedVariables false
set_option linter.unusedSimpArgs false
noncomputable abbrev VG : Env := En [(N.i_in, true, mF)] [] [] [] false 0 []
noncomputable def BJ (e : ak) (K : aj → Option aj) : Option aj := (bif ((decide ((0 : Int) ≤ e.1)) && (decide (e.1 ≤ (400 : Int)))) then (bif ((decide ((0 : Int) ≤ e.2.1)) && (decide (e.2.1 ≤ (400 : Int)))) then K ((.s (.bool (decide ((((List.length e.2.2) : Nat) : Int) ≤ (400 : Int))))), []) else K ((.s (.bool false)), [])) else K ((.s (.bool false)), []))
theorem VH (e : ak) (K : aj → Option aj) : dS VG true F.oM [.a (ay.cells .no e)] K = BJ e K := by kernel_rfl
def BK : Sm := bD [.a ay] (fun d => true) (fun d => (bl (bg d.1), []))
theorem VI (e : ak) (K : aj → Option aj) : BJ e K = K (bl (bg e), []) := by
 unfold BJ bg KU
 cases (decide (0 ≤ e.1) && decide (e.1 ≤ 400)) <;> cases (decide (0 ≤ e.2.1) && decide (e.2.1 ≤ 400)) <;> rfl
theorem QJ : aT prog I N.oM true BK := lN (aU (bf uM bn) (l := [(N.i_in, true, mF)]) (p := []) (ls := []) (lend := []) (focus := false) (fuel := 0) (give := []) (fn := F.oM) (by kernel_rfl) (by kernel_rfl) (by kernel_rfl) (by kernel_rfl) (cs := []) (by kernel_rfl) aJ) (aK fun d K h => (VH d.1 K).trans (VI d.1 K))
end Go.Ev.Seat
end
section
namespace Go.Ev.Seat
open Go.RowKit
set_option maxRecDepth 100000
set_option linter.unusedVariables false
set_option linter.unusedSimpArgs false
noncomputable abbrev VJ : Env := En [(N.oM, true, BK)] [] [] [] false 0 []
noncomputable def Jz (e : ak) (K : aj → Option aj) : Option aj := K ((.s (.bool (!(bg e)))), [])
theorem VK (e : ak) (K : aj → Option aj) : dS VJ true F.iK [.a (ay.cells .no e)] K = Jz e K := by kernel_rfl
def BL : Sm := bD [.a ay] (fun d => true) (fun d => (bl (!(bg d.1)), []))
theorem VL (e : ak) (K : aj → Option aj) : Jz e K = K (bl (!(bg e)), []) := rfl
theorem QK : aT prog I N.iK true BL := lN (aU (bf QJ bn) (l := [(N.oM, true, BK)]) (p := []) (ls := []) (lend := []) (focus := false) (fuel := 0) (give := []) (fn := F.iK) (by kernel_rfl) (by kernel_rfl) (by kernel_rfl) (by kernel_rfl) (cs := []) (by kernel_rfl) aJ) (aK fun d K h => (VK d.1 K).trans (VL d.1 K))
end Go.Ev.Seat
end
section
namespace Go.Ev.Seat
open Go.RowKit
set_option maxRecDepth 100000
set_option linter.unusedVariables false
set_option linter.unusedSimpArgs false
def jf (x4 : Int) : St := { tm := ([.x, .x, .x, .x, (.s (.int .i64 x4))] ++ List.replicate 14 .x), ob := [], nx := 0, io := [] }
def jg : St := { tm := ([] ++ List.replicate 19 .x), ob := [], nx := 0, io := [] }
def iT : Ss := { tm := (.cons (.l .no ay) (.cons (.f 215 .nil) (.cons (.x) (.cons (.x) (.cons (.x) (.cons (.x) (.cons (.x) (.cons (.int .i64) (.cons (.int .i64) (Ed 10)))))))))), ob := .nil, nx := 0, io := .nil }
def Ew (x0 : List ak) (x7 : Int) (x8 : Int) : iT.T := ((x0, ((), ((), ((), ((), ((), ((), (x7, (x8, xd 10))))))))), (), ())
def gy (x0 : List ak) (x7 : Int) (x8 : Int) : St := { tm := ([(.l .no ay x0), (.f 215 []), .x, .x, .x, .x, .x, (.s (.int .i64 x7)), (.s (.int .i64 x8))] ++ List.replicate 10 .x), ob := [], nx := 0, io := [] }
theorem DL (x0 : List ak) (x7 : Int) (x8 : Int) : iT.mk' (Ew x0 x7 x8) = (gy x0 x7 x8) := by kernel_rfl
def Ey (d : iT.T) (f : (List ak) → Int → Int → Option aj) : Option aj := match d with | ((x0, (_, (_, (_, (_, (_, (_, (x7, (x8, _))))))))), _, _) => f x0 x7 x8
noncomputable def eP (x0 : List ak) (x7 : Int) (x8 : Int) (pW : (List ak) → Int → Int → Option aj) (k0 : Int → Option aj) (k1 : Option aj) : Option aj := (bif (decide (x8 < x7)) then (bif ((decide ((0 : Int) ≤ x8)) && (decide (x8 < (((List.length x0) : Nat) : Int)))) then (bif (!(bg (List.getD x0 (Int.toNat x8) (ay.dflt)))) then (k0 x8) else (pW x0 x7 (IntKind.wrap .i64 (x8 + (1 : Int))))) else none) else k1)
noncomputable def gB : Nat → (List ak) → Int → Int → (Int → Option aj) → (Option aj) → Option aj
 | 0, _, _, _, _, _ => none
 | m + 1, x0, x7, x8, k0, k1 => eP x0 x7 x8 (fun x0 x7 x8 => (gB m x0 x7 x8 k0 k1)) k0 k1
noncomputable def tC (x0 : List ak) (x7 : Int) (x8 : Int) (k0 : Int → Option aj) (k1 : Option aj) : Option aj := gB (List.length x0 + x7.toNat + x8.toNat + 2) x0 x7 x8 k0 k1
noncomputable def jD : fG := (fun (σ : St) (K : Ex → St → Option aj) => (match iT.un σ with | some d => Ey d (fun x0 x7 x8 => tC x0 x7 x8 (fun x4 => (K .ret (jf x4))) (K (.ext 0) jg)) | none => none))
noncomputable abbrev fE : Env := En [(N.iK, true, BL)] [] [(2, [0,1,7,8], [4], jD)] [] false 0 []
theorem DN (m : Nat) (x0 : List ak) (x7 : Int) (x8 : Int) (K : Ex → St → Option aj) : rounds (run fE (aA F.aP 2)) [0,1,7,8] [4] (m + 1) (gy x0 x7 x8) K = eP x0 x7 x8 (fun x0 x7 x8 => (rounds (run fE (aA F.aP 2)) [0,1,7,8] [4] m (gy x0 x7 x8) K)) (fun x4 => (K .ret (jf x4))) (K (.ext 0) jg) := by kernel_rfl
theorem wz (K : Ex → St → Option aj) : ∀ m : Nat, (∀ (x0 : List ak) (x7 : Int) (x8 : Int), rounds (run fE (aA F.aP 2)) [0,1,7,8] [4] m (gy x0 x7 x8) K = gB m x0 x7 x8 (fun x4 => (K .ret (jf x4))) (K (.ext 0) jg))
 | 0 => (fun _ _ _ => rfl)
 | m + 1 => (fun x0 x7 x8 => (by rw [DN, show (fun x0 x7 x8 => (rounds (run fE (aA F.aP 2)) [0,1,7,8] [4] m (gy x0 x7 x8) K)) = (fun x0 x7 x8 => (gB m x0 x7 x8 (fun x4 => (K .ret (jf x4))) (K (.ext 0) jg))) from funext fun x0 => funext fun x7 => funext fun x8 => (wz K m) x0 x7 x8]; rfl))
theorem Dx : dL fE (aA F.aP 2) := by
 refine dG (n := 2) (F := jD) (by kernel_rfl) rfl (li := [0,1,7,8]) (lo := [4]) rfl (fun σ K r hr => ?_)
 unfold jD at hr
 split at hr
 ·rename_i d hd
  rw [Ss.fF hd]
  exact ⟨_, ((congrArg (fun z => rounds (run fE (aA F.aP 2)) [0,1,7,8] [4] _ z K) (DL _ _ _)).trans ((wz K _) _ _ _)).trans hr⟩
 ·cases hr
noncomputable def pK (l : List ak) (K : aj → Option aj) : Option aj := (tC l (((List.length l) : Nat) : Int) (0 : Int) (fun y0 => K ((.s (.int .i64 y0)), [])) (K ((.s (.int .i64 (-(1 : Int)))), [])))
theorem JA (l : List ak) (K : aj → Option aj) : dS fE true F.aP [.l .no ay l, .f N.iK []] K = pK l K := by kernel_rfl
def pO : Sm := bD [.l ay, .sh (.f N.iK .nil)] (fun d => Nat.ble d.1.length 1048576) (fun d => (.s (.int .i64 (Dl (fun x => !(bg x)) d.1)), []))
theorem JB (l : List ak) (h : (Nat.ble l.length 1048576) = true) (K : aj → Option aj) : pK l K = K (.s (.int .i64 (Dl (fun x => !(bg x)) l)), []) := by
 have hl := Nat.le_of_ble_eq_true h
 unfold pK
 refine Eq.trans (Jr (R := fun m i => gB m l ((l.length : Nat) : Int) i (fun y0 => K ((.s (.int .i64 y0)), [])) (K ((.s (.int .i64 (-(1 : Int)))), []))) (p := fun x => !(bg x)) (xs := l) (z := (ay).dflt) (kf := fun y0 => K ((.s (.int .i64 y0)), [])) (kt := K ((.s (.int .i64 (-(1 : Int)))), [])) (fun m i hi => by
  show eP l _ ((i : Nat) : Int) _ _ _ = _
  unfold eP
  rw [decide_eq_true (show ((i : Nat) : Int) < ((l.length : Nat) : Int) by omega), decide_eq_true (show (0 : Int) ≤ ((i : Nat) : Int) by omega), Int.toNat_natCast, bY (by omega)]
  rfl) (fun m => by
  show eP l _ ((l.length : Nat) : Int) _ _ _ = _
  unfold eP
  rw [decide_eq_false (show ¬ ((l.length : Nat) : Int) < ((l.length : Nat) : Int) by omega)]; rfl) _ 0 (by omega) (by omega)) ?_
 rw [List.drop_zero]
 unfold Dl
 cases l.findIdx? (fun x => !(bg x)) with
 | none => rfl
 | some j => show K (.s (.int .i64 ((0 + j : Nat) : Int)), []) = _; rw [Nat.zero_add]
theorem GZ : aT prog I N.aP true pO := lN (aU (bf QK bn) (l := [(N.iK, true, BL)]) (p := []) (ls := [(2, [0,1,7,8], [4], jD)]) (lend := []) (focus := false) (fuel := 0) (give := []) (fn := F.aP) (by kernel_rfl) (by kernel_rfl) (by kernel_rfl) (by kernel_rfl) (cs := [aA F.aP 2]) (by kernel_rfl) (dw Dx aJ)) (aK fun d K h => (JA d.1 K).trans (JB d.1 h K))
end Go.Ev.Seat
end
section
namespace Go.Ev.Seat
open Go.RowKit
set_option maxRecDepth 100000
set_option linter.unusedVariables false
set_option linter.unusedSimpArgs false
noncomputable abbrev Gj : Env := En [(N.aP, true, pO)] [] [] [] false 0 []
noncomputable def lX (l : List ak) (K : aj → Option aj) : Option aj := (bif (Nat.ble (List.length l) 1048576) then K ((.s (.bool (decide ((Dl (fun x => (!(bg x))) l) ≥ (0 : Int))))), []) else none)
theorem Gl (l : List ak) (K : aj → Option aj) : dS Gj true F.bK [.l .no ay l, .f N.iK []] K = lX l K := by kernel_rfl
def lY : Sm := bD [.l ay, .sh (.f N.iK .nil)] (fun d => Nat.ble d.1.length 1048576) (fun d => (bl (d.1.any (fun x => !(bg x))), []))
theorem Gm (l : List ak) (h : (Nat.ble l.length 1048576) = true) (K : aj → Option aj) : lX l K = K (bl (l.any (fun x => !(bg x))), []) := by
 unfold lX
 first | rw [h] | skip
 rw [← Zd]; rfl
theorem DR : aT prog I N.bK true lY := lN (aU (bf GZ bn) (l := [(N.aP, true, pO)]) (p := []) (ls := []) (lend := []) (focus := false) (fuel := 0) (give := []) (fn := F.bK) (by kernel_rfl) (by kernel_rfl) (by kernel_rfl) (by kernel_rfl) (cs := []) (by kernel_rfl) aJ) (aK fun d K h => (Gl d.1 K).trans (Gm d.1 h K))
end Go.Ev.Seat
end
section
namespace Go.Ev.Seat
open Go.RowKit
set_option maxRecDepth 100000
set_option linter.unusedVariables false
set_option linter.unusedSimpArgs false
noncomputable abbrev aac : Env := En [(N.bK, true, lY)] [] [] [] false 0 []
noncomputable def Gn (l : List ak) (K : aj → Option aj) : Option aj := (bif (decide ((((List.length l) : Nat) : Int) ≤ (6 : Int))) then (bif (Nat.ble (List.length l) 1048576) then K ((.s (.bool (!(List.any l (fun x => (!(bg x))))))), []) else none) else K ((.s (.bool false)), []))
theorem aad (l : List ak) (K : aj → Option aj) : dS aac true F.vg [.l .no ay l] K = Gn l K := by kernel_rfl
def Gp : Sm := bD [.l ay] (fun d => Nat.ble d.1.length 1048576) (fun d => (bl (okL d.1), []))
theorem aae (l : List ak) (h : (Nat.ble l.length 1048576) = true) (K : aj → Option aj) : Gn l K = K (bl (okL l), []) := by
 unfold Gn okL
 rw [h, List.all_eq_not_any_not]
 cases decide (((l.length : Nat) : Int) ≤ 6) <;> rfl
theorem VN : aT prog I N.vg true Gp := lN (aU (bf DR bn) (l := [(N.bK, true, lY)]) (p := []) (ls := []) (lend := []) (focus := false) (fuel := 0) (give := []) (fn := F.vg) (by kernel_rfl) (by kernel_rfl) (by kernel_rfl) (by kernel_rfl) (cs := []) (by kernel_rfl) aJ) (aK fun d K h => (aad d.1 K).trans (aae d.1 h K))
end Go.Ev.Seat
end
section
namespace Go.Ev.Seat
open Go.RowKit
set_option maxRecDepth 100000
set_option linter.unusedVariables false
set_option linter.unusedSimpArgs false
noncomputable abbrev ag1 : Env := En [(N.vg, true, Gp)] [] [] [] false 0 []
noncomputable def NU (s : OC) (K : aj → Option aj) : Option aj := (bif (Nat.ble (List.length s.1) 1048576) then (bif (okL s.1) then (bif (Nat.ble (List.length s.2) 1048576) then K ((.s (.bool (okL s.2))), []) else none) else K ((.s (.bool false)), [])) else none)
theorem ag2 (s : OC) (K : aj → Option aj) : dS ag1 true F.EP [.a (kF.cells .no s)] K = NU s K := by kernel_rfl
def NV : Sm := bD [.a kF] (fun d => Nat.ble d.1.1.length 1048576 && Nat.ble d.1.2.length 1048576) (fun d => (bl (kG d.1), []))
theorem ag3 (s : OC) (h : (Nat.ble s.1.length 1048576 && Nat.ble s.2.length 1048576) = true) (K : aj → Option aj) : NU s K = K (bl (kG s), []) := by
 obtain ⟨h1, h2⟩ := (Bool.and_eq_true _ _).mp h
 unfold NU kG
 rw [h1, h2]
 cases okL s.1 <;> rfl
theorem abr : aT prog I N.EP true NV := lN (aU (bf VN bn) (l := [(N.vg, true, Gp)]) (p := []) (ls := []) (lend := []) (focus := false) (fuel := 0) (give := []) (fn := F.EP) (by kernel_rfl) (by kernel_rfl) (by kernel_rfl) (by kernel_rfl) (cs := []) (by kernel_rfl) aJ) (aK fun d K h => (ag2 d.1 K).trans (ag3 d.1 h K))
end Go.Ev.Seat
end
section
namespace Go.Proofs
open Go.Shelf
def Tryz.growEdit_ren : Go.Shelf.Ren := ⟨fun | 4 => 208 | n => n, fun | 22 => 42 | 25 => 63 | 3 => 3 | 4 => 4 | 9 => 9 | 20 => 20 | 0 => 0 | n => n, fun | n => n⟩
theorem Tryz.growEdit : Go.Proofs.Lays8.n4 Tryz.prog Tryz.growEdit_ren := {
 mixed := by kernel_rfl
 f4 := ⟨Tryz.f208.name, by decide, Tryz.func208.trans (congrArg some (by kernel_rfl))⟩
 t0 := Tryz.underlying0
 a0 := Tryz.isAgg0
 z0 := Tryz.sizeOf0
 v0 := Tryz.zeroValue0
 t3 := Tryz.underlying3
 a3 := Tryz.isAgg3
 z3 := Tryz.sizeOf3
 v3 := Tryz.zeroValue3
 t4 := Tryz.underlying4
 a4 := Tryz.isAgg4
 z4 := Tryz.sizeOf4
 v4 := Tryz.zeroValue4
 t9 := Tryz.underlying9
 a9 := Tryz.isAgg9
 z9 := Tryz.sizeOf9
 v9 := Tryz.zeroValue9
 t20 := Tryz.underlying20
 a20 := Tryz.isAgg20
 z20 := Tryz.sizeOf20
 v20 := Tryz.zeroValue20
 t22 := Tryz.underlying42
 a22 := Tryz.isAgg42
 z22 := Tryz.sizeOf42
 v22 := Tryz.zeroValue42 }
end Go.Proofs
namespace Go.Ev.Seat
open Go.RowKit
set_option maxRecDepth 100000
theorem NW : aT prog I N.lG true (KH ay) := by
 refine ajw (i0 := (prog.info? 63).getD default) (z := .agg #[.int .i64 0, .int .i64 0, .slice none 0 0]) Go.Proofs.Tryz.growEdit (aU (l := []) (p := []) (ls := []) (lend := []) (focus := false) (fuel := 0) (give := []) (PX := []) (fresh := true) bn (g := N.lG) (fn := F.lG) (by kernel_rfl) (by kernel_rfl) (by kernel_rfl) (by kernel_rfl) (cs := []) (by kernel_rfl) aJ).1 (by kernel_rfl) (by kernel_rfl) (Nat.le_of_ble_eq_true (by kernel_rfl)) (Nat.le_of_ble_eq_true (by kernel_rfl)) rfl
end Go.Ev.Seat
end
section
namespace Go.Ev.Seat
open Go.RowKit
set_option maxRecDepth 100000
set_option linter.unusedVariables false
set_option linter.unusedSimpArgs false
def ku (x0 : List (List ak)) (x3 : Int) : St := { tm := ([(.l .no (.one (.sl ay)) x0), .x, .x, (.s (.int .i64 x3))] ++ List.replicate 32 .x), ob := [], nx := 0, io := [] }
def jE : Ss := { tm := (.cons (.l .no (.one (.sl ay))) (.cons (.x) (.cons (.x) (.cons (.int .i64) (.cons (.x) (.cons (.x) (.cons (.x) (.cons (.x) (.cons (.x) (.cons (.l .no (.one (.sl ay))) (.cons (.int .i64) (.cons (.int .i64) (Ed 24))))))))))))), ob := .nil, nx := 0, io := .nil }
def IK (x0 : List (List ak)) (x3 : Int) (x9 : List (List ak)) (x10 : Int) (x11 : Int) : jE.T := ((x0, ((), ((), (x3, ((), ((), ((), ((), ((), (x9, (x10, (x11, xd 24)))))))))))), (), ())
def iP (x0 : List (List ak)) (x3 : Int) (x9 : List (List ak)) (x10 : Int) (x11 : Int) : St := { tm := ([(.l .no (.one (.sl ay)) x0), .x, .x, (.s (.int .i64 x3)), .x, .x, .x, .x, .x, (.l .no (.one (.sl ay)) x9), (.s (.int .i64 x10)), (.s (.int .i64 x11))] ++ List.replicate 24 .x), ob := [], nx := 0, io := [] }
theorem G5 (x0 : List (List ak)) (x3 : Int) (x9 : List (List ak)) (x10 : Int) (x11 : Int) : jE.mk' (IK x0 x3 x9 x10 x11) = (iP x0 x3 x9 x10 x11) := by kernel_rfl
def IL (d : jE.T) (f : (List (List ak)) → Int → (List (List ak)) → Int → Int → Option aj) : Option aj := match d with | ((x0, (_, (_, (x3, (_, (_, (_, (_, (_, (x9, (x10, (x11, _)))))))))))), _, _) => f x0 x3 x9 x10 x11
noncomputable def kC (x0 : List (List ak)) (x3 : Int) (x9 : List (List ak)) (x10 : Int) (x11 : Int) (pW : (List (List ak)) → Int → (List (List ak)) → Int → Int → Option aj) (k0 : (List (List ak)) → Int → Option aj) : Option aj := (bif (decide (x11 < x10)) then (bif ((decide ((0 : Int) ≤ x11)) && (decide (x11 < (((List.length x9) : Nat) : Int)))) then (bif (decide ((IntKind.wrap .i64 (x3 + (((List.length (List.getD x9 (Int.toNat x11) [])) : Nat) : Int))) < (0 : Int))) then none else (pW x0 (IntKind.wrap .i64 (x3 + (((List.length (List.getD x9 (Int.toNat x11) [])) : Nat) : Int))) x9 x10 (IntKind.wrap .i64 (x11 + (1 : Int))))) else none) else (k0 x0 x3))
noncomputable def iQ : Nat → (List (List ak)) → Int → (List (List ak)) → Int → Int → ((List (List ak)) → Int → Option aj) → Option aj
 | 0, _, _, _, _, _, _ => none
 | m + 1, x0, x3, x9, x10, x11, k0 => kC x0 x3 x9 x10 x11 (fun x0 x3 x9 x10 x11 => (iQ m x0 x3 x9 x10 x11 k0)) k0
noncomputable def wU (x0 : List (List ak)) (x3 : Int) (x9 : List (List ak)) (x10 : Int) (x11 : Int) (k0 : (List (List ak)) → Int → Option aj) : Option aj := iQ (List.length x0 + x3.toNat + List.length x9 + x10.toNat + x11.toNat + 2) x0 x3 x9 x10 x11 k0
noncomputable def lq : fG := (fun (σ : St) (K : Ex → St → Option aj) => (match jE.un σ with | some d => IL d (fun x0 x3 x9 x10 x11 => wU x0 x3 x9 x10 x11 (fun x0 x3 => (K (.ext 0) (ku x0 x3)))) | none => none))
def bM (o0 : List ak) : St := { tm := ([.x, .x, .x, .x, .x, .x, (.w 0)] ++ List.replicate 29 .x), ob := [(0, (.arr true true ay o0))], nx := 1, io := [] }
def bP (o0 : List ak) : St := { tm := ([.x, .x, .x, .x, .x, .x, (.w 0)] ++ List.replicate 29 .x), ob := [(0, (.arr true false ay o0))], nx := 1, io := [] }
def jq : Ss := { tm := (.cons (.x) (.cons (.x) (.cons (.x) (.cons (.x) (.cons (.x) (.cons (.x) (.cons (.w 0) (.cons (.x) (.cons (.x) (.cons (.x) (.cons (.x) (.cons (.x) (.cons (.x) (.cons (.x) (.cons (.x) (.cons (.x) (.cons (.x) (.cons (.x) (.cons (.x) (.cons (.x) (.cons (.x) (.cons (.x) (.cons (.x) (.cons (.x) (.cons (.x) (.cons (.l .no (.one (.sl ay))) (.cons (.int .i64) (.cons (.int .i64) (Ed 8))))))))))))))))))))))))))))), ob := (.arr true true ay .nil), nx := 1, io := .nil }
def G6 (x25 : List (List ak)) (kV : Int) (x27 : Int) (o0 : List ak) : jq.T := (((), ((), ((), ((), ((), ((), ((), ((), ((), ((), ((), ((), ((), ((), ((), ((), ((), ((), ((), ((), ((), ((), ((), ((), ((), (x25, (kV, (x27, xd 8)))))))))))))))))))))))))))), (o0, ()), ())
def dV (x25 : List (List ak)) (kV : Int) (x27 : Int) (o0 : List ak) : St := { tm := ([.x, .x, .x, .x, .x, .x, (.w 0), .x, .x, .x, .x, .x, .x, .x, .x, .x, .x, .x, .x, .x, .x, .x, .x, .x, .x, (.l .no (.one (.sl ay)) x25), (.s (.int .i64 kV)), (.s (.int .i64 x27))] ++ List.replicate 8 .x), ob := [(0, (.arr true true ay o0))], nx := 1, io := [] }
theorem Gq (x25 : List (List ak)) (kV : Int) (x27 : Int) (o0 : List ak) : jq.mk' (G6 x25 kV x27 o0) = (dV x25 kV x27 o0) := by kernel_rfl
def G7 (d : jq.T) (f : (List (List ak)) → Int → Int → (List ak) → Option aj) : Option aj := match d with | ((_, (_, (_, (_, (_, (_, (_, (_, (_, (_, (_, (_, (_, (_, (_, (_, (_, (_, (_, (_, (_, (_, (_, (_, (_, (x25, (kV, (x27, _)))))))))))))))))))))))))))), (o0, _), _) => f x25 kV x27 o0
noncomputable def jF (x25 : List (List ak)) (kV : Int) (x27 : Int) (o0 : List ak) (pW : (List (List ak)) → Int → Int → (List ak) → Option aj) (nx1 : (List (List ak)) → Int → Int → (List ak) → Option aj) (k0 : (List ak) → Option aj) (k1 : (List ak) → Option aj) : Option aj := (bif (decide (x27 < kV)) then (bif ((decide ((0 : Int) ≤ x27)) && (decide (x27 < (((List.length x25) : Nat) : Int)))) then (bif (Nat.ble (((List.length o0) + (List.length (List.getD x25 (Int.toNat x27) []))) * 40) 140737488355328) then (nx1 x25 kV (IntKind.wrap .i64 (x27 + (1 : Int))) (o0 ++ (List.getD x25 (Int.toNat x27) []))) else none) else none) else (k0 o0))
def jr : Ss := { tm := (.cons (.x) (.cons (.x) (.cons (.x) (.cons (.x) (.cons (.x) (.cons (.x) (.cons (.w 0) (.cons (.x) (.cons (.x) (.cons (.x) (.cons (.x) (.cons (.x) (.cons (.x) (.cons (.x) (.cons (.x) (.cons (.x) (.cons (.x) (.cons (.x) (.cons (.x) (.cons (.x) (.cons (.x) (.cons (.x) (.cons (.x) (.cons (.x) (.cons (.x) (.cons (.l .no (.one (.sl ay))) (.cons (.int .i64) (.cons (.int .i64) (Ed 8))))))))))))))))))))))))))))), ob := (.arr true false ay .nil), nx := 1, io := .nil }
def G8 (x25 : List (List ak)) (kV : Int) (x27 : Int) (o0 : List ak) : jr.T := (((), ((), ((), ((), ((), ((), ((), ((), ((), ((), ((), ((), ((), ((), ((), ((), ((), ((), ((), ((), ((), ((), ((), ((), ((), (x25, (kV, (x27, xd 8)))))))))))))))))))))))))))), (o0, ()), ())
def dW (x25 : List (List ak)) (kV : Int) (x27 : Int) (o0 : List ak) : St := { tm := ([.x, .x, .x, .x, .x, .x, (.w 0), .x, .x, .x, .x, .x, .x, .x, .x, .x, .x, .x, .x, .x, .x, .x, .x, .x, .x, (.l .no (.one (.sl ay)) x25), (.s (.int .i64 kV)), (.s (.int .i64 x27))] ++ List.replicate 8 .x), ob := [(0, (.arr true false ay o0))], nx := 1, io := [] }
theorem Gs (x25 : List (List ak)) (kV : Int) (x27 : Int) (o0 : List ak) : jr.mk' (G8 x25 kV x27 o0) = (dW x25 kV x27 o0) := by kernel_rfl
def G9 (d : jr.T) (f : (List (List ak)) → Int → Int → (List ak) → Option aj) : Option aj := match d with | ((_, (_, (_, (_, (_, (_, (_, (_, (_, (_, (_, (_, (_, (_, (_, (_, (_, (_, (_, (_, (_, (_, (_, (_, (_, (x25, (kV, (x27, _)))))))))))))))))))))))))))), (o0, _), _) => f x25 kV x27 o0
noncomputable def jG (x25 : List (List ak)) (kV : Int) (x27 : Int) (o0 : List ak) (pW : (List (List ak)) → Int → Int → (List ak) → Option aj) (nx1 : (List (List ak)) → Int → Int → (List ak) → Option aj) (k0 : (List ak) → Option aj) (k1 : (List ak) → Option aj) : Option aj := (bif (decide (x27 < kV)) then (bif ((decide ((0 : Int) ≤ x27)) && (decide (x27 < (((List.length x25) : Nat) : Int)))) then (bif (Nat.ble (((List.length o0) + (List.length (List.getD x25 (Int.toNat x27) []))) * 40) 140737488355328) then (nx1 x25 kV (IntKind.wrap .i64 (x27 + (1 : Int))) (o0 ++ (List.getD x25 (Int.toNat x27) []))) else none) else none) else (k1 o0))
mutual
noncomputable def dD : Nat → (List (List ak)) → Int → Int → (List ak) → ((List ak) → Option aj) → ((List ak) → Option aj) → Option aj
 | 0, _, _, _, _, _, _ => none
 | m + 1, x25, kV, x27, o0, k0, k1 => jF x25 kV x27 o0 (fun x25 kV x27 o0 => (dD m x25 kV x27 o0 k0 k1)) (fun x25 kV x27 o0 => (dF m x25 kV x27 o0 k0 k1)) k0 k1
noncomputable def dF : Nat → (List (List ak)) → Int → Int → (List ak) → ((List ak) → Option aj) → ((List ak) → Option aj) → Option aj
 | 0, _, _, _, _, _, _ => none
 | m + 1, x25, kV, x27, o0, k0, k1 => jG x25 kV x27 o0 (fun x25 kV x27 o0 => (dD m x25 kV x27 o0 k0 k1)) (fun x25 kV x27 o0 => (dF m x25 kV x27 o0 k0 k1)) k0 k1
end
noncomputable def mO (x25 : List (List ak)) (kV : Int) (x27 : Int) (o0 : List ak) (k0 : (List ak) → Option aj) (k1 : (List ak) → Option aj) : Option aj := dD (List.length x25 + kV.toNat + x27.toNat + List.length o0 + 2) x25 kV x27 o0 k0 k1
noncomputable def He (x25 : List (List ak)) (kV : Int) (x27 : Int) (o0 : List ak) (k0 : (List ak) → Option aj) (k1 : (List ak) → Option aj) : Option aj := dF (List.length x25 + kV.toNat + x27.toNat + List.length o0 + 2) x25 kV x27 o0 k0 k1
noncomputable def kQ : fG := (fun (σ : St) (K : Ex → St → Option aj) => (match jq.un σ with | some d => G7 d (fun x25 kV x27 o0 => mO x25 kV x27 o0 (fun o0 => (K (.ext 2) (bM o0))) (fun o0 => (K (.ext 2) (bP o0)))) | none => (match jr.un σ with | some d => G9 d (fun x25 kV x27 o0 => He x25 kV x27 o0 (fun o0 => (K (.ext 2) (bM o0))) (fun o0 => (K (.ext 2) (bP o0)))) | none => none)))
noncomputable abbrev aZ : Env := En [(N.lG, true, KH ay)] [] [(3, [0,3,9,10,11], [0,2,3], lq), (11, [6,25,26,27], [2,6], kQ)] [] false 0 []
theorem Hf (m : Nat) (x0 : List (List ak)) (x3 : Int) (x9 : List (List ak)) (x10 : Int) (x11 : Int) (K : Ex → St → Option aj) : rounds (run aZ (aA F.aQ 3)) [0,3,9,10,11] [0,2,3] (m + 1) (iP x0 x3 x9 x10 x11) K = kC x0 x3 x9 x10 x11 (fun x0 x3 x9 x10 x11 => (rounds (run aZ (aA F.aQ 3)) [0,3,9,10,11] [0,2,3] m (iP x0 x3 x9 x10 x11) K)) (fun x0 x3 => (K (.ext 0) (ku x0 x3))) := by kernel_rfl
theorem Ac (K : Ex → St → Option aj) : ∀ m : Nat, (∀ (x0 : List (List ak)) (x3 : Int) (x9 : List (List ak)) (x10 : Int) (x11 : Int), rounds (run aZ (aA F.aQ 3)) [0,3,9,10,11] [0,2,3] m (iP x0 x3 x9 x10 x11) K = iQ m x0 x3 x9 x10 x11 (fun x0 x3 => (K (.ext 0) (ku x0 x3))))
 | 0 => (fun _ _ _ _ _ => rfl)
 | m + 1 => (fun x0 x3 x9 x10 x11 => (by rw [Hf, show (fun x0 x3 x9 x10 x11 => (rounds (run aZ (aA F.aQ 3)) [0,3,9,10,11] [0,2,3] m (iP x0 x3 x9 x10 x11) K)) = (fun x0 x3 x9 x10 x11 => (iQ m x0 x3 x9 x10 x11 (fun x0 x3 => (K (.ext 0) (ku x0 x3))))) from funext fun x0 => funext fun x3 => funext fun x9 => funext fun x10 => funext fun x11 => (Ac K m) x0 x3 x9 x10 x11]; rfl))
theorem Gt : dL aZ (aA F.aQ 3) := by
 refine dG (n := 3) (F := lq) (by kernel_rfl) rfl (li := [0,3,9,10,11]) (lo := [0,2,3]) rfl (fun σ K r hr => ?_)
 unfold lq at hr
 split at hr
 ·rename_i d hd
  rw [Ss.fF hd]
  exact ⟨_, ((congrArg (fun z => rounds (run aZ (aA F.aQ 3)) [0,3,9,10,11] [0,2,3] _ z K) (G5 _ _ _ _ _)).trans ((Ac K _) _ _ _ _ _)).trans hr⟩
 ·cases hr
theorem Gu (m : Nat) (x25 : List (List ak)) (kV : Int) (x27 : Int) (o0 : List ak) (K : Ex → St → Option aj) : rounds (run aZ (aA F.aQ 11)) [6,25,26,27] [2,6] (m + 1) (dV x25 kV x27 o0) K = jF x25 kV x27 o0 (fun x25 kV x27 o0 => (rounds (run aZ (aA F.aQ 11)) [6,25,26,27] [2,6] m (dV x25 kV x27 o0) K)) (fun x25 kV x27 o0 => (rounds (run aZ (aA F.aQ 11)) [6,25,26,27] [2,6] m (dW x25 kV x27 o0) K)) (fun o0 => (K (.ext 2) (bM o0))) (fun o0 => (K (.ext 2) (bP o0))) := by kernel_rfl
theorem Gv (m : Nat) (x25 : List (List ak)) (kV : Int) (x27 : Int) (o0 : List ak) (K : Ex → St → Option aj) : rounds (run aZ (aA F.aQ 11)) [6,25,26,27] [2,6] (m + 1) (dW x25 kV x27 o0) K = jG x25 kV x27 o0 (fun x25 kV x27 o0 => (rounds (run aZ (aA F.aQ 11)) [6,25,26,27] [2,6] m (dV x25 kV x27 o0) K)) (fun x25 kV x27 o0 => (rounds (run aZ (aA F.aQ 11)) [6,25,26,27] [2,6] m (dW x25 kV x27 o0) K)) (fun o0 => (K (.ext 2) (bM o0))) (fun o0 => (K (.ext 2) (bP o0))) := by kernel_rfl
theorem gJ (K : Ex → St → Option aj) : ∀ m : Nat, (∀ (x25 : List (List ak)) (kV : Int) (x27 : Int) (o0 : List ak), rounds (run aZ (aA F.aQ 11)) [6,25,26,27] [2,6] m (dV x25 kV x27 o0) K = dD m x25 kV x27 o0 (fun o0 => (K (.ext 2) (bM o0))) (fun o0 => (K (.ext 2) (bP o0)))) ∧ (∀ (x25 : List (List ak)) (kV : Int) (x27 : Int) (o0 : List ak), rounds (run aZ (aA F.aQ 11)) [6,25,26,27] [2,6] m (dW x25 kV x27 o0) K = dF m x25 kV x27 o0 (fun o0 => (K (.ext 2) (bM o0))) (fun o0 => (K (.ext 2) (bP o0))))
 | 0 => ⟨(fun _ _ _ _ => rfl), (fun _ _ _ _ => rfl)⟩
 | m + 1 => ⟨(fun x25 kV x27 o0 => (by rw [Gu, show (fun x25 kV x27 o0 => (rounds (run aZ (aA F.aQ 11)) [6,25,26,27] [2,6] m (dV x25 kV x27 o0) K)) = (fun x25 kV x27 o0 => (dD m x25 kV x27 o0 (fun o0 => (K (.ext 2) (bM o0))) (fun o0 => (K (.ext 2) (bP o0))))) from funext fun x25 => funext fun kV => funext fun x27 => funext fun o0 => (gJ K m).1 x25 kV x27 o0, show (fun x25 kV x27 o0 => (rounds (run aZ (aA F.aQ 11)) [6,25,26,27] [2,6] m (dW x25 kV x27 o0) K)) = (fun x25 kV x27 o0 => (dF m x25 kV x27 o0 (fun o0 => (K (.ext 2) (bM o0))) (fun o0 => (K (.ext 2) (bP o0))))) from funext fun x25 => funext fun kV => funext fun x27 => funext fun o0 => (gJ K m).2 x25 kV x27 o0]; rfl)), (fun x25 kV x27 o0 => (by rw [Gv, show (fun x25 kV x27 o0 => (rounds (run aZ (aA F.aQ 11)) [6,25,26,27] [2,6] m (dV x25 kV x27 o0) K)) = (fun x25 kV x27 o0 => (dD m x25 kV x27 o0 (fun o0 => (K (.ext 2) (bM o0))) (fun o0 => (K (.ext 2) (bP o0))))) from funext fun x25 => funext fun kV => funext fun x27 => funext fun o0 => (gJ K m).1 x25 kV x27 o0, show (fun x25 kV x27 o0 => (rounds (run aZ (aA F.aQ 11)) [6,25,26,27] [2,6] m (dW x25 kV x27 o0) K)) = (fun x25 kV x27 o0 => (dF m x25 kV x27 o0 (fun o0 => (K (.ext 2) (bM o0))) (fun o0 => (K (.ext 2) (bP o0))))) from funext fun x25 => funext fun kV => funext fun x27 => funext fun o0 => (gJ K m).2 x25 kV x27 o0]; rfl))⟩
theorem Ez : dL aZ (aA F.aQ 11) := by
 refine dG (n := 11) (F := kQ) (by kernel_rfl) rfl (li := [6,25,26,27]) (lo := [2,6]) rfl (fun σ K r hr => ?_)
 unfold kQ at hr
 split at hr
 ·rename_i d hd
  rw [Ss.fF hd]
  exact ⟨_, ((congrArg (fun z => rounds (run aZ (aA F.aQ 11)) [6,25,26,27] [2,6] _ z K) (Gq _ _ _ _)).trans ((gJ K _).1 _ _ _ _)).trans hr⟩
 ·split at hr
  ·rename_i d hd
   rw [Ss.fF hd]
   exact ⟨_, ((congrArg (fun z => rounds (run aZ (aA F.aQ 11)) [6,25,26,27] [2,6] _ z K) (Gs _ _ _ _)).trans ((gJ K _).2 _ _ _ _)).trans hr⟩
  ·cases hr
noncomputable def uP (l : List (List ak)) (K : aj → Option aj) : Option aj := (wU l (0 : Int) l (((List.length l) : Nat) : Int) (0 : Int) (fun y0 y1 => (bif ((decide ((0 : Int) ≤ y1)) && (decide (y1 ≤ (1099511627776 : Int)))) then (mO y0 (((List.length y0) : Nat) : Int) (0 : Int) [] (fun y2 => K ((.l .deep ay y2), [])) (fun y3 => K ((.l .top ay y3), []))) else none)))
theorem NY (l : List (List ak)) (K : aj → Option aj) : dS aZ false F.aQ [.l .no (.one (.sl ay)) l] K = uP l K := by kernel_rfl
def uQ : Sm := bD [.l (.one (.sl ay))] (fun d => Nat.ble 1 d.1.length && Nat.ble d.1.length 1048576 && Nat.ble (sumW List.length d.1) 1048576) (fun d => (.l .top ay d.1.flatten, []))
theorem NZ (l : List (List ak)) (h : (Nat.ble 1 l.length && Nat.ble l.length 1048576 && Nat.ble (sumW List.length l) 1048576) = true) (K : aj → Option aj) : uP l K = K (.l .top ay l.flatten, []) := by
 simp only [Bool.and_eq_true] at h
 have h1 := Nat.le_of_ble_eq_true h.1.1
 have h2 := Nat.le_of_ble_eq_true h.1.2
 have h3 := Nat.le_of_ble_eq_true h.2
 unfold uP
 have q3 : ∀ (k : List (List ak) → Int → Option aj) (m i : Nat), i ≤ l.length → l.length - i < m → iQ m l ((sumW List.length (l.take i) : Nat) : Int) l ((l.length : Nat) : Int) ((i : Nat) : Int) k = k l ((sumW List.length l : Nat) : Int) := by
  intro k m
  induction m with
  | zero => intro i _ hm; omega
  | succ m ih =>
   intro i hi hm
   show kC l _ l _ ((i : Nat) : Int) _ _ = _
   unfold kC
   by_cases hlt : i < l.length
   ·have hs : sumW List.length (List.take (i + 1) l) = sumW List.length (List.take i l) + List.length (l.getD i []) := Jm (g := List.length) (z := []) hlt
    have hle : sumW List.length (l.take (i + 1)) ≤ sumW List.length l := zn
    have e0 : ∀ (z : List ak), l.getD i z = l.getD i [] := fun z => (getD_lt z hlt).trans (getD_lt [] hlt).symm
    rw [decide_eq_true (show ((i : Nat) : Int) < ((l.length : Nat) : Int) by omega), decide_eq_true (show (0 : Int) ≤ ((i : Nat) : Int) by omega), Int.toNat_natCast, bY (by omega), e0, wrap_in (n := ((sumW List.length (List.take i l) : Nat) : Int) + (((l.getD i []).length : Nat) : Int)) (by omega) (by omega), decide_eq_false (show ¬ ((sumW List.length (List.take i l) : Nat) : Int) + (((l.getD i []).length : Nat) : Int) < 0 by omega)]
    have := ih (i + 1) (by omega) (by omega)
    rw [hs, Int.natCast_add] at this
    exact this
   ·obtain rfl : i = l.length := by omega
    rw [decide_eq_false (show ¬ ((l.length : Nat) : Int) < ((l.length : Nat) : Int) by omega), List.take_length]; rfl
 have q11 : ∀ (k0 k1 : List ak → Option aj) (m i : Nat), i ≤ l.length → l.length - i < m → dF m l ((l.length : Nat) : Int) ((i : Nat) : Int) (l.take i).flatten k0 k1 = k1 l.flatten := by
  intro k0 k1 m
  induction m with
  | zero => intro i _ hm; omega
  | succ m ih =>
   intro i hi hm
   show jG l _ ((i : Nat) : Int) _ _ _ _ _ = _
   unfold jG
   by_cases hlt : i < l.length
   ·have hs : sumW List.length (List.take (i + 1) l) = sumW List.length (List.take i l) + List.length (l.getD i []) := Jm (g := List.length) (z := []) hlt
    have hle : sumW List.length (l.take (i + 1)) ≤ sumW List.length l := zn
    have hfl := RQ (l.take i)
    have e0 : ∀ (z : List ak), l.getD i z = l.getD i [] := fun z => (getD_lt z hlt).trans (getD_lt [] hlt).symm
    have hf2 : (l.take (i + 1)).flatten = (l.take i).flatten ++ l.getD i [] := JV hlt
    rw [decide_eq_true (show ((i : Nat) : Int) < ((l.length : Nat) : Int) by omega), decide_eq_true (show (0 : Int) ≤ ((i : Nat) : Int) by omega), Int.toNat_natCast, bY (by omega), e0, Nat.ble_eq_true_of_le (by omega), ← hf2]
    exact ih (i + 1) (by omega) (by omega)
   ·obtain rfl : i = l.length := by omega
    rw [decide_eq_false (show ¬ ((l.length : Nat) : Int) < ((l.length : Nat) : Int) by omega), List.take_length]; rfl
 have e3 := q3 (fun y0 y1 => (bif ((decide ((0 : Int) ≤ y1)) && (decide (y1 ≤ (1099511627776 : Int)))) then (mO y0 (((List.length y0) : Nat) : Int) (0 : Int) [] (fun y2 => K ((.l .deep ay y2), [])) (fun y3 => K ((.l .top ay y3), []))) else none)) (List.length l + (0 : Int).toNat + List.length l + (((List.length l) : Nat) : Int).toNat + (0 : Int).toNat + 2) 0 (by omega) (by omega)
 refine e3.trans ?_
 rw [decide_eq_true (show (0 : Int) ≤ ((sumW List.length l : Nat) : Int) by omega), decide_eq_true (show ((sumW List.length l : Nat) : Int) ≤ 1099511627776 by omega)]
 have hq : ∀ (m : Nat) (k0 k1 : List ak → Option aj), dD (m + 1) l ((l.length : Nat) : Int) 0 [] k0 k1 = jF l ((l.length : Nat) : Int) 0 [] (fun a b c d => dD m a b c d k0 k1) (fun a b c d => dF m a b c d k0 k1) k0 k1 := fun _ _ _ => rfl
 refine (hq (List.length l + (((List.length l) : Nat) : Int).toNat + (0 : Int).toNat + List.length ([] : List ak) + 1) _ _).trans ?_
 unfold jF
 have e0 : ∀ (z : List ak), l.getD 0 z = l.getD 0 [] := fun z => (getD_lt z (by omega)).trans (getD_lt [] (by omega)).symm
 have hs : sumW List.length (List.take (0 + 1) l) = sumW List.length (List.take 0 l) + List.length (l.getD 0 []) := Jm (g := List.length) (z := []) (by omega)
 have hle : sumW List.length (l.take (0 + 1)) ≤ sumW List.length l := zn
 have hf2 : (l.take (0 + 1)).flatten = (l.take 0).flatten ++ l.getD 0 [] := JV (by omega)
 rw [decide_eq_true (show (0 : Int) < ((l.length : Nat) : Int) by omega), show Int.toNat 0 = 0 from rfl, e0, Nat.ble_eq_true_of_le (by simp only [List.length_nil]; omega)]
 have := q11 (fun y2 => K ((.l .deep ay y2), [])) (fun y3 => K ((.l .top ay y3), [])) (List.length l + (((List.length l) : Nat) : Int).toNat + (0 : Int).toNat + List.length ([] : List ak) + 1) 1 (by omega) (by omega)
 rw [hf2] at this
 exact this
theorem KI : aT prog I N.aQ false uQ := lN (aU (bf NW bn) (l := [(N.lG, true, KH ay)]) (p := []) (ls := [(3, [0,3,9,10,11], [0,2,3], lq), (11, [6,25,26,27], [2,6], kQ)]) (lend := []) (focus := false) (fuel := 0) (give := []) (fn := F.aQ) (by kernel_rfl) (by kernel_rfl) (by kernel_rfl) (by kernel_rfl) (cs := [aA F.aQ 3, aA F.aQ 11]) (by kernel_rfl) (dw Gt (dw Ez aJ))) (aK fun d K h => (NY d.1 K).trans (NZ d.1 h K))
end Go.Ev.Seat
end
section
namespace Go.Ev.Seat
open Go.RowKit
set_option maxRecDepth 100000
set_option linter.unusedVariables false
set_option linter.unusedSimpArgs false
noncomputable abbrev abt : Env := En [(N.xg, true, vP), (N.i_in, true, mF), (N.ng, true, lW)] [] [] [] false 0 []
noncomputable def IQ (e : ak) (t : List Int) (K : aj → Option aj) : Option aj := (bif (aO t) then (bif (dh t e.1) then (bif ((decide ((0 : Int) ≤ e.2.1)) && (decide (e.2.1 ≤ (IntKind.wrap .i64 ((((List.length t) : Nat) : Int) - e.1))))) then (bif (aO t) then (bif (dh t (IntKind.wrap .i64 (e.1 + e.2.1))) then (bif (aO e.2.2) then K ((.s (.bool (aS e.2.2))), []) else none) else K ((.s (.bool false)), [])) else none) else K ((.s (.bool false)), [])) else K ((.s (.bool false)), [])) else none)
theorem abu (e : ak) (t : List Int) (K : aj → Option aj) : dS abt true F.ug [.a (ay.cells .no e), .l .no ah t] K = IQ e t K := by kernel_rfl
def CV : Sm := bD [.a ay, .l ah] (fun d => aO d.2.1 && aO d.1.2.2) (fun d => (bl (fU d.2.1 d.1), []))
theorem abv (e : ak) (t : List Int) (h : (aO t && aO e.2.2) = true) (K : aj → Option aj) : IQ e t K = K (bl (fU t e), []) := by
 obtain ⟨h1, h2⟩ := (Bool.and_eq_true _ _).mp h
 have hl := oP h1
 unfold IQ fU
 rw [h1, h2]
 cases ha : dh t e.1 with
 | false => rfl
 | true =>
  have r1 := fA ha
  by_cases c0 : 0 ≤ e.2.1
  case neg => rw [decide_eq_false c0]; rfl
  rw [decide_eq_true c0, wrap_in (n := ((t.length : Nat) : Int) - e.1) (by omega) (by omega)]
  by_cases c1 : e.2.1 ≤ ((t.length : Nat) : Int) - e.1
  case neg => rw [decide_eq_false c1]; rfl
  rw [decide_eq_true c1, wrap_in (n := e.1 + e.2.1) (by omega) (by omega)]
  cases dh t (e.1 + e.2.1) <;> rfl
theorem Lm : aT prog I N.ug true CV := lN (aU (bf Ib (bf uM (bf Aa bn))) (l := [(N.xg, true, vP), (N.i_in, true, mF), (N.ng, true, lW)]) (p := []) (ls := []) (lend := []) (focus := false) (fuel := 0) (give := []) (fn := F.ug) (by kernel_rfl) (by kernel_rfl) (by kernel_rfl) (by kernel_rfl) (cs := []) (by kernel_rfl) aJ) (aK fun d K h => (abu d.1 d.2.1 K).trans (abv d.1 d.2.1 h K))
end Go.Ev.Seat
end
section
namespace Go.Ev.Seat
open Go.RowKit
set_option maxRecDepth 100000
set_option linter.unusedVariables false
set_option linter.unusedSimpArgs false
noncomputable abbrev VO : Env := En [(N.ug, true, CV)] [] [] [] false 0 []
noncomputable def BM (e : ak) (t : List Int) (K : aj → Option aj) : Option aj := (bif ((aO t) && (aO e.2.2)) then K ((.s (.bool (!(fU t e)))), []) else none)
theorem VP (e : ak) (t : List Int) (K : aj → Option aj) : dS VO true F.iJ [.a (ay.cells .no e), .qb [.l .no ah t] 0] K = BM e t K := by kernel_rfl
def BN : Sm := bD [.a ay, .sh (.qb (.cons (.l .no ah) .nil) 0)] (fun d => aO d.2.1.1 && aO d.1.2.2) (fun d => (bl (!(fU d.2.1.1 d.1)), []))
theorem VQ (e : ak) (t : List Int) (h : (aO t && aO e.2.2) = true) (K : aj → Option aj) : BM e t K = K (bl (!(fU t e)), []) := by
 unfold BM
 rw [h]; rfl
theorem QL : aT prog I N.iJ true BN := lN (aU (bf Lm bn) (l := [(N.ug, true, CV)]) (p := []) (ls := []) (lend := []) (focus := false) (fuel := 0) (give := []) (fn := F.iJ) (by kernel_rfl) (by kernel_rfl) (by kernel_rfl) (by kernel_rfl) (cs := []) (by kernel_rfl) aJ) (aK fun d K h => (VP d.1 d.2.1.1 K).trans (VQ d.1 d.2.1.1 h K))
end Go.Ev.Seat
end
section
namespace Go.Ev.Seat
open Go.RowKit
set_option maxRecDepth 100000
set_option linter.unusedVariables false
set_option linter.unusedSimpArgs false
def gK (x4 : Int) : St := { tm := ([.x, .x, .x, .x, (.s (.int .i64 x4))] ++ List.replicate 14 .x), ob := [], nx := 0, io := [] }
def gQ : St := { tm := ([] ++ List.replicate 19 .x), ob := [], nx := 0, io := [] }
def gG : Ss := { tm := (.cons (.l .no ay) (.cons (.f 185 (.cons (.qb (.cons (.l .no ah) .nil) 0) .nil)) (.cons (.x) (.cons (.x) (.cons (.x) (.cons (.x) (.cons (.x) (.cons (.int .i64) (.cons (.int .i64) (Ed 10)))))))))), ob := .nil, nx := 0, io := .nil }
def Ar (x0 : List ak) (x100 : List Int) (x7 : Int) (x8 : Int) : gG.T := ((x0, (((x100, ()), ()), ((), ((), ((), ((), ((), (x7, (x8, xd 10))))))))), (), ())
def eX (x0 : List ak) (x100 : List Int) (x7 : Int) (x8 : Int) : St := { tm := ([(.l .no ay x0), (.f 185 [(.qb [(.l .no ah x100)] 0)]), .x, .x, .x, .x, .x, (.s (.int .i64 x7)), (.s (.int .i64 x8))] ++ List.replicate 10 .x), ob := [], nx := 0, io := [] }
theorem Ad (x0 : List ak) (x100 : List Int) (x7 : Int) (x8 : Int) : gG.mk' (Ar x0 x100 x7 x8) = (eX x0 x100 x7 x8) := by kernel_rfl
def Au (d : gG.T) (f : (List ak) → (List Int) → Int → Int → Option aj) : Option aj := match d with | ((x0, (((x100, _), _), (_, (_, (_, (_, (_, (x7, (x8, _))))))))), _, _) => f x0 x100 x7 x8
noncomputable def dI (x0 : List ak) (x100 : List Int) (x7 : Int) (x8 : Int) (pW : (List ak) → (List Int) → Int → Int → Option aj) (k0 : Int → Option aj) (k1 : Option aj) : Option aj := (bif (decide (x8 < x7)) then (bif ((decide ((0 : Int) ≤ x8)) && (decide (x8 < (((List.length x0) : Nat) : Int)))) then (bif ((aO x100) && (aO (List.getD x0 (Int.toNat x8) (ay.dflt)).2.2)) then (bif (!(fU x100 (List.getD x0 (Int.toNat x8) (ay.dflt)))) then (k0 x8) else (pW x0 x100 x7 (IntKind.wrap .i64 (x8 + (1 : Int))))) else none) else none) else k1)
noncomputable def eY : Nat → (List ak) → (List Int) → Int → Int → (Int → Option aj) → (Option aj) → Option aj
 | 0, _, _, _, _, _, _ => none
 | m + 1, x0, x100, x7, x8, k0, k1 => dI x0 x100 x7 x8 (fun x0 x100 x7 x8 => (eY m x0 x100 x7 x8 k0 k1)) k0 k1
noncomputable def oC (x0 : List ak) (x100 : List Int) (x7 : Int) (x8 : Int) (k0 : Int → Option aj) (k1 : Option aj) : Option aj := eY (List.length x0 + List.length x100 + x7.toNat + x8.toNat + 2) x0 x100 x7 x8 k0 k1
noncomputable def iH : fG := (fun (σ : St) (K : Ex → St → Option aj) => (match gG.un σ with | some d => Au d (fun x0 x100 x7 x8 => oC x0 x100 x7 x8 (fun x4 => (K .ret (gK x4))) (K (.ext 0) gQ)) | none => none))
noncomputable abbrev dK : Env := En [(N.iJ, true, BN)] [] [(2, [0,1,7,8], [4], iH)] [] false 0 []
theorem Ae (m : Nat) (x0 : List ak) (x100 : List Int) (x7 : Int) (x8 : Int) (K : Ex → St → Option aj) : rounds (run dK (aA F.aP 2)) [0,1,7,8] [4] (m + 1) (eX x0 x100 x7 x8) K = dI x0 x100 x7 x8 (fun x0 x100 x7 x8 => (rounds (run dK (aA F.aP 2)) [0,1,7,8] [4] m (eX x0 x100 x7 x8) K)) (fun x4 => (K .ret (gK x4))) (K (.ext 0) gQ) := by kernel_rfl
theorem qg (K : Ex → St → Option aj) : ∀ m : Nat, (∀ (x0 : List ak) (x100 : List Int) (x7 : Int) (x8 : Int), rounds (run dK (aA F.aP 2)) [0,1,7,8] [4] m (eX x0 x100 x7 x8) K = eY m x0 x100 x7 x8 (fun x4 => (K .ret (gK x4))) (K (.ext 0) gQ))
 | 0 => (fun _ _ _ _ => rfl)
 | m + 1 => (fun x0 x100 x7 x8 => (by rw [Ae, show (fun x0 x100 x7 x8 => (rounds (run dK (aA F.aP 2)) [0,1,7,8] [4] m (eX x0 x100 x7 x8) K)) = (fun x0 x100 x7 x8 => (eY m x0 x100 x7 x8 (fun x4 => (K .ret (gK x4))) (K (.ext 0) gQ))) from funext fun x0 => funext fun x100 => funext fun x7 => funext fun x8 => (qg K m) x0 x100 x7 x8]; rfl))
theorem yY : dL dK (aA F.aP 2) := by
 refine dG (n := 2) (F := iH) (by kernel_rfl) rfl (li := [0,1,7,8]) (lo := [4]) rfl (fun σ K r hr => ?_)
 unfold iH at hr
 split at hr
 ·rename_i d hd
  rw [Ss.fF hd]
  exact ⟨_, ((congrArg (fun z => rounds (run dK (aA F.aP 2)) [0,1,7,8] [4] _ z K) (Ad _ _ _ _)).trans ((qg K _) _ _ _ _)).trans hr⟩
 ·cases hr
noncomputable def lu (l : List ak) (t : List Int) (K : aj → Option aj) : Option aj := (oC l t (((List.length l) : Nat) : Int) (0 : Int) (fun y0 => K ((.s (.int .i64 y0)), [])) (K ((.s (.int .i64 (-(1 : Int)))), [])))
theorem EC (l : List ak) (t : List Int) (K : aj → Option aj) : dS dK true F.aP [.l .no ay l, .f N.iJ [.qb [.l .no ah t] 0]] K = lu l t K := by kernel_rfl
def lC : Sm := bD [.l ay, .sh (.f N.iJ (.cons (.qb (.cons (.l .no ah) .nil) 0) .nil))] (fun d => Nat.ble d.1.length 1048576 && d.1.all (fun x => aO d.2.1.1.1 && aO x.2.2)) (fun d => (.s (.int .i64 (Dl (fun x => !(fU d.2.1.1.1 x)) d.1)), []))
theorem ED (l : List ak) (t : List Int) (h : (Nat.ble l.length 1048576 && l.all (fun x => aO t && aO x.2.2)) = true) (K : aj → Option aj) : lu l t K = K (.s (.int .i64 (Dl (fun x => !(fU t x)) l)), []) := by
 have hl := Nat.le_of_ble_eq_true ((Bool.and_eq_true _ _).mp h).1
 have ha := ((Bool.and_eq_true _ _).mp h).2
 rw [List.all_eq_true] at ha
 unfold lu
 refine Eq.trans (Jr (R := fun m i => eY m l t ((l.length : Nat) : Int) i (fun y0 => K ((.s (.int .i64 y0)), [])) (K ((.s (.int .i64 (-(1 : Int)))), []))) (p := fun x => !(fU t x)) (xs := l) (z := (ay).dflt) (kf := fun y0 => K ((.s (.int .i64 y0)), [])) (kt := K ((.s (.int .i64 (-(1 : Int)))), [])) (fun m i hi => by
  show dI l t _ ((i : Nat) : Int) _ _ _ = _
  unfold dI
  rw [decide_eq_true (show ((i : Nat) : Int) < ((l.length : Nat) : Int) by omega), decide_eq_true (show (0 : Int) ≤ ((i : Nat) : Int) by omega), Int.toNat_natCast, bY (by omega)]
  have hx := ha l[i] (List.getElem_mem hi)
  rw [← getD_lt (ay).dflt hi] at hx
  try dsimp only at hx
  rw [hx]
  rfl) (fun m => by
  show dI l t _ ((l.length : Nat) : Int) _ _ _ = _
  unfold dI
  rw [decide_eq_false (show ¬ ((l.length : Nat) : Int) < ((l.length : Nat) : Int) by omega)]; rfl) _ 0 (by omega) (by omega)) ?_
 rw [List.drop_zero]
 unfold Dl
 cases l.findIdx? (fun x => !(fU t x)) with
 | none => rfl
 | some j => show K (.s (.int .i64 ((0 + j : Nat) : Int)), []) = _; rw [Nat.zero_add]
theorem Dy : aT prog I N.aP true lC := lN (aU (bf QL bn) (l := [(N.iJ, true, BN)]) (p := []) (ls := [(2, [0,1,7,8], [4], iH)]) (lend := []) (focus := false) (fuel := 0) (give := []) (fn := F.aP) (by kernel_rfl) (by kernel_rfl) (by kernel_rfl) (by kernel_rfl) (cs := [aA F.aP 2]) (by kernel_rfl) (dw yY aJ)) (aK fun d K h => (EC d.1 d.2.1.1.1 K).trans (ED d.1 d.2.1.1.1 h K))
end Go.Ev.Seat
end
section
namespace Go.Ev.Seat
open Go.RowKit
set_option maxRecDepth 100000
set_option linter.unusedVariables false
set_option linter.unusedSimpArgs false
noncomputable abbrev BO : Env := En [(N.aP, true, lC)] [] [] [] false 0 []
noncomputable def jT (l : List ak) (t : List Int) (K : aj → Option aj) : Option aj := (bif ((Nat.ble (List.length l) 1048576) && (List.all l (fun x => ((aO t) && (aO x.2.2))))) then K ((.s (.bool (decide ((Dl (fun x => (!(fU t x))) l) ≥ (0 : Int))))), []) else none)
theorem BP (l : List ak) (t : List Int) (K : aj → Option aj) : dS BO true F.bK [.l .no ay l, .f N.iJ [.qb [.l .no ah t] 0]] K = jT l t K := by kernel_rfl
def jU : Sm := bD [.l ay, .sh (.f N.iJ (.cons (.qb (.cons (.l .no ah) .nil) 0) .nil))] (fun d => Nat.ble d.1.length 1048576 && d.1.all (fun x => aO d.2.1.1.1 && aO x.2.2)) (fun d => (bl (d.1.any (fun x => !(fU d.2.1.1.1 x))), []))
theorem BQ (l : List ak) (t : List Int) (h : (Nat.ble l.length 1048576 && l.all (fun x => aO t && aO x.2.2)) = true) (K : aj → Option aj) : jT l t K = K (bl (l.any (fun x => !(fU t x))), []) := by
 unfold jT
 first | rw [h] | skip
 rw [← Zd]; rfl
theorem Af : aT prog I N.bK true jU := lN (aU (bf Dy bn) (l := [(N.aP, true, lC)]) (p := []) (ls := []) (lend := []) (focus := false) (fuel := 0) (give := []) (fn := F.bK) (by kernel_rfl) (by kernel_rfl) (by kernel_rfl) (by kernel_rfl) (cs := []) (by kernel_rfl) aJ) (aK fun d K h => (BP d.1 d.2.1.1.1 K).trans (BQ d.1 d.2.1.1.1 h K))
end Go.Ev.Seat
end
