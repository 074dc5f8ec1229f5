/- DocPlan: parts FiareMembers FiisLease FcmpisNaNint FcmpCompareint FcmpOrint FicompareLeases FiareLeases FiLeaseisActive FiareHeld FiisDoc FiisPut FiisWord FiusedNumbers FiisReq FireqEdits FiDocisVersion FiDocmember1 FslicesBinarySearchFuncMemberint FiDocmember FiReqmeant FiDocat FiEditpos FiEditspan FiEditmoved FiDocplan FiDocPlan EvLDocPlan EvKind EvOne EvTab, packed by squash.py. -/
import GoSem.ClaimWide
import Derived.Lib.LaidTab
import GoSem.PinnedTables
import Derived.Test.YtmdnlehoeilmfaaGreatDoorZDocPlan0
import Derived.Test.YtmdnlehoeilmfaaGreatDoorZDocPlan1
import Derived.Test.YtmdnlehoeilmfaaGreatDoorZDocPlan2
import Derived.Test.YtmdnlehoeilmfaaGreatDoorZDocPlan3
import Derived.Test.YtmdnlehoeilmfaaGreatDoorZDocPlan4
import Derived.Test.YtmdnlehoeilmfaaGreatDoorZDocPlan5
set_option linter.unusedVariables false
set_option linter.unusedSimpArgs false
section
namespace Go.Ev.Seat
open Go.RowKit
set_option maxRecDepth 100000
set_option linter.unusedVariables false
set_option linter.unusedSimpArgs false
def qE (x0 : List aB) (x4 : Bool) : St := { tm := ([(.l .no aF x0), .x, .x, .x, (.s (.bool x4))] ++ List.replicate 64 .x), ob := [], nx := 0, io := [] }
def qF (x0 : List aB) : St := { tm := ([(.l .no aF x0)] ++ List.replicate 68 .x), ob := [], nx := 0, io := [] }
def oH : Ss := { tm := (.cons (.l .no aF) (.cons (.x) (.cons (.x) (.cons (.pb 0 0) (.cons (.x) (.cons (.x) (.cons (.x) (.cons (.l .no aF) (.cons (.int .i64) (.cons (.int .i64) (Ed 59))))))))))), ob := (.box (.cons (.l .no ah) .nil) .nil), nx := 1, io := .nil }
def QM (x0 : List aB) (x7 : List aB) (x8 : Int) (x9 : Int) (b00 : List Int) : oH.T := ((x0, ((), ((), ((), ((), ((), ((), (x7, (x8, (x9, xd 59)))))))))), ((b00, ()), ()), ())
def lZ (x0 : List aB) (x7 : List aB) (x8 : Int) (x9 : Int) (b00 : List Int) : St := { tm := ([(.l .no aF x0), .x, .x, (.pb 0 0), .x, .x, .x, (.l .no aF x7), (.s (.int .i64 x8)), (.s (.int .i64 x9))] ++ List.replicate 59 .x), ob := [(0, (.box [(.l .no ah b00)]))], nx := 1, io := [] }
theorem OW (x0 : List aB) (x7 : List aB) (x8 : Int) (x9 : Int) (b00 : List Int) : oH.mk' (QM x0 x7 x8 x9 b00) = (lZ x0 x7 x8 x9 b00) := by kernel_rfl
def QN (d : oH.T) (f : (List aB) → (List aB) → Int → Int → (List Int) → Option aj) : Option aj := match d with | ((x0, (_, (_, (_, (_, (_, (_, (x7, (x8, (x9, _)))))))))), ((b00, _), _), _) => f x0 x7 x8 x9 b00
noncomputable def jV (x0 : List aB) (x7 : List aB) (x8 : Int) (x9 : Int) (b00 : List Int) (pW : (List aB) → (List aB) → Int → Int → (List Int) → Option aj) (k0 : (List aB) → Bool → Option aj) (k1 : (List aB) → Option aj) : Option aj := (bif (decide (x9 < x8)) then (bif ((decide ((0 : Int) ≤ x9)) && (decide (x9 < (((List.length x7) : Nat) : Int)))) then (bif (!((decide ((1 : Int) ≤ (List.getD x7 (Int.toNat x9) (aF.dflt)).1)) && (decide ((List.getD x7 (Int.toNat x9) (aF.dflt)).1 ≤ (8 : Int))))) then (k0 x0 false) else (bif (decide (x9 > (0 : Int))) then (bif ((decide ((0 : Int) ≤ (IntKind.wrap .i64 (x9 - (1 : Int))))) && (decide ((IntKind.wrap .i64 (x9 - (1 : Int))) < (((List.length x0) : Nat) : Int)))) then (bif (decide ((List.getD x0 (Int.toNat (IntKind.wrap .i64 (x9 - (1 : Int)))) (aF.dflt)).1 ≥ (List.getD x7 (Int.toNat x9) (aF.dflt)).1)) then (k0 x0 false) else (bif (aO b00) then (bif (!(dh b00 (List.getD x7 (Int.toNat x9) (aF.dflt)).2.1)) then (k0 x0 false) else (bif (aO b00) then (bif (!(dh b00 (List.getD x7 (Int.toNat x9) (aF.dflt)).2.2.1)) then (k0 x0 false) else (bif ((Nat.ble (List.length (List.getD x7 (Int.toNat x9) (aF.dflt)).2.2.2.1) 1048576) && (Nat.ble (List.length (List.getD x7 (Int.toNat x9) (aF.dflt)).2.2.2.2) 1048576)) then (bif (!(kG (List.getD x7 (Int.toNat x9) (aF.dflt)).2.2.2)) then (k0 x0 false) else (bif (Nat.ble (sumW List.length ((List.getD x7 (Int.toNat x9) (aF.dflt)).2.2.2.1 :: ((List.getD x7 (Int.toNat x9) (aF.dflt)).2.2.2.2 :: []))) 1048576) then (bif ((Nat.ble (List.length (List.flatten ((List.getD x7 (Int.toNat x9) (aF.dflt)).2.2.2.1 :: ((List.getD x7 (Int.toNat x9) (aF.dflt)).2.2.2.2 :: [])))) 1048576) && (List.all (List.flatten ((List.getD x7 (Int.toNat x9) (aF.dflt)).2.2.2.1 :: ((List.getD x7 (Int.toNat x9) (aF.dflt)).2.2.2.2 :: []))) (fun x => ((aO b00) && (aO x.2.2))))) then (bif (List.any (List.flatten ((List.getD x7 (Int.toNat x9) (aF.dflt)).2.2.2.1 :: ((List.getD x7 (Int.toNat x9) (aF.dflt)).2.2.2.2 :: []))) (fun x => (!(fU b00 x)))) then (k0 x0 false) else (pW x0 x7 x8 (IntKind.wrap .i64 (x9 + (1 : Int))) b00)) else none) else none)) else none)) else none)) else none)) else none) else (bif (aO b00) then (bif (!(dh b00 (List.getD x7 (Int.toNat x9) (aF.dflt)).2.1)) then (k0 x0 false) else (bif (aO b00) then (bif (!(dh b00 (List.getD x7 (Int.toNat x9) (aF.dflt)).2.2.1)) then (k0 x0 false) else (bif ((Nat.ble (List.length (List.getD x7 (Int.toNat x9) (aF.dflt)).2.2.2.1) 1048576) && (Nat.ble (List.length (List.getD x7 (Int.toNat x9) (aF.dflt)).2.2.2.2) 1048576)) then (bif (!(kG (List.getD x7 (Int.toNat x9) (aF.dflt)).2.2.2)) then (k0 x0 false) else (bif (Nat.ble (sumW List.length ((List.getD x7 (Int.toNat x9) (aF.dflt)).2.2.2.1 :: ((List.getD x7 (Int.toNat x9) (aF.dflt)).2.2.2.2 :: []))) 1048576) then (bif ((Nat.ble (List.length (List.flatten ((List.getD x7 (Int.toNat x9) (aF.dflt)).2.2.2.1 :: ((List.getD x7 (Int.toNat x9) (aF.dflt)).2.2.2.2 :: [])))) 1048576) && (List.all (List.flatten ((List.getD x7 (Int.toNat x9) (aF.dflt)).2.2.2.1 :: ((List.getD x7 (Int.toNat x9) (aF.dflt)).2.2.2.2 :: []))) (fun x => ((aO b00) && (aO x.2.2))))) then (bif (List.any (List.flatten ((List.getD x7 (Int.toNat x9) (aF.dflt)).2.2.2.1 :: ((List.getD x7 (Int.toNat x9) (aF.dflt)).2.2.2.2 :: []))) (fun x => (!(fU b00 x)))) then (k0 x0 false) else (pW x0 x7 x8 (IntKind.wrap .i64 (x9 + (1 : Int))) b00)) else none) else none)) else none)) else none)) else none))) else none) else (k1 x0))
noncomputable def l9 : Nat → (List aB) → (List aB) → Int → Int → (List Int) → ((List aB) → Bool → Option aj) → ((List aB) → Option aj) → Option aj
 | 0, _, _, _, _, _, _, _ => none
 | m + 1, x0, x7, x8, x9, b00, k0, k1 => jV x0 x7 x8 x9 b00 (fun x0 x7 x8 x9 b00 => (l9 m x0 x7 x8 x9 b00 k0 k1)) k0 k1
noncomputable def Gw (x0 : List aB) (x7 : List aB) (x8 : Int) (x9 : Int) (b00 : List Int) (k0 : (List aB) → Bool → Option aj) (k1 : (List aB) → Option aj) : Option aj := l9 (List.length x0 + List.length x7 + x8.toNat + x9.toNat + List.length b00 + 2) x0 x7 x8 x9 b00 k0 k1
noncomputable def vT : fG := (fun (σ : St) (K : Ex → St → Option aj) => (match oH.un σ with | some d => QN d (fun x0 x7 x8 x9 b00 => Gw x0 x7 x8 x9 b00 (fun x0 x4 => (K .ret (qE x0 x4))) (fun x0 => (K (.ext 0) (qF x0)))) | none => none))
noncomputable abbrev mg : Env := En [(N.jB, true, jZ), (N.xg, true, vP), (N.EP, true, NV), (N.aQ, false, uQ), (N.bK, true, jU)] [(4, takeB [0, 1] (.fork (.one 2 (takeB [3, 4, 5, 6, 7, 8, 9, 10, 11, 12, 13, 14, 15, 16, 17, 18, 19, 20, 21, 22, 23] (.fork (.one 24 (takeB [25, 26, 27, 28, 29, 30, 31] (.fork (.one 32 (takeB [33, 34, 35, 36, 37] (.fork (.one 38 (takes [39, 40])))))))))))), [])] [(2, [0,3,7,8,9], [0,4], vT)] [] false 0 []
theorem OX (m : Nat) (x0 : List aB) (x7 : List aB) (x8 : Int) (x9 : Int) (b00 : List Int) (K : Ex → St → Option aj) : rounds (run mg (aA F.gW 2)) [0,3,7,8,9] [0,4] (m + 1) (lZ x0 x7 x8 x9 b00) K = jV x0 x7 x8 x9 b00 (fun x0 x7 x8 x9 b00 => (rounds (run mg (aA F.gW 2)) [0,3,7,8,9] [0,4] m (lZ x0 x7 x8 x9 b00) K)) (fun x0 x4 => (K .ret (qE x0 x4))) (fun x0 => (K (.ext 0) (qF x0))) := by kernel_rfl
theorem JC (K : Ex → St → Option aj) : ∀ m : Nat, (∀ (x0 : List aB) (x7 : List aB) (x8 : Int) (x9 : Int) (b00 : List Int), rounds (run mg (aA F.gW 2)) [0,3,7,8,9] [0,4] m (lZ x0 x7 x8 x9 b00) K = l9 m x0 x7 x8 x9 b00 (fun x0 x4 => (K .ret (qE x0 x4))) (fun x0 => (K (.ext 0) (qF x0))))
 | 0 => (fun _ _ _ _ _ => rfl)
 | m + 1 => (fun x0 x7 x8 x9 b00 => (by rw [OX, show (fun x0 x7 x8 x9 b00 => (rounds (run mg (aA F.gW 2)) [0,3,7,8,9] [0,4] m (lZ x0 x7 x8 x9 b00) K)) = (fun x0 x7 x8 x9 b00 => (l9 m x0 x7 x8 x9 b00 (fun x0 x4 => (K .ret (qE x0 x4))) (fun x0 => (K (.ext 0) (qF x0))))) from funext fun x0 => funext fun x7 => funext fun x8 => funext fun x9 => funext fun b00 => (JC K m) x0 x7 x8 x9 b00]; rfl))
theorem N7 : dL mg (aA F.gW 2) := by
 refine dG (n := 2) (F := vT) (by kernel_rfl) rfl (li := [0,3,7,8,9]) (lo := [0,4]) rfl (fun σ K r hr => ?_)
 unfold vT at hr
 split at hr
 ·rename_i d hd
  rw [Ss.fF hd]
  exact ⟨_, ((congrArg (fun z => rounds (run mg (aA F.gW 2)) [0,3,7,8,9] [0,4] _ z K) (OW _ _ _ _ _)).trans ((JC K _) _ _ _ _ _)).trans hr⟩
 ·cases hr
noncomputable def Gx (l : List aB) (t : List Int) (K : aj → Option aj) : Option aj := (Gw l l (((List.length l) : Nat) : Int) (0 : Int) t (fun y0 y1 => K ((.s (.bool y1)), [])) (fun y2 => K ((.s (.bool (decide ((((List.length y2) : Nat) : Int) ≤ (8 : Int))))), [])))
theorem aaf (l : List aB) (t : List Int) (K : aj → Option aj) : dS mg true F.gW [.l .no aF l, .l .no ah t] K = Gx l t K := by kernel_rfl
def Gy : Sm := bD [.l aF, .l ah] (fun d => iR (.sl aF) d.1 && aO d.2.1) (fun d => (bl (wM d.2.1 d.1), []))
theorem aag (l : List aB) (t : List Int) (h : (iR (.sl aF) l && aO t) = true) (K : aj → Option aj) : Gx l t K = K (bl (wM t l), []) := by
 obtain ⟨h1, h2⟩ := (Bool.and_eq_true _ _).mp h
 have hl := iw h1
 unfold Gx wM
 have q := zA (R := fun m i => l9 m l l ((l.length : Nat) : Int) i t (fun y0 y1 => K ((.s (.bool y1)), [])) (fun y2 => K ((.s (.bool (decide ((((List.length y2) : Nat) : Int) ≤ (8 : Int))))), []))) (p := rP t l) (n := l.length) (kt := K ((.s (.bool (decide (((l.length : Nat) : Int) ≤ 8)))), [])) (kf := K ((.s (.bool false)), [])) (fun m i hi => by
  show jV l l _ ((i : Nat) : Int) t _ _ _ = _
  unfold jV rP ady nC
  have hf := Zv (m := l.getD i Dn) (Jt h1 rfl i)
  rw [decide_eq_true (show ((i : Nat) : Int) < ((l.length : Nat) : Int) by omega), decide_eq_true (show (0 : Int) ≤ ((i : Nat) : Int) by omega), Int.toNat_natCast, bY (by omega), show l.getD i aF.dflt = l.getD i Dn from rfl, h2]
  generalize l.getD i Dn = x at *
  have n1 := iw hf.1
  have n2 := iw hf.2
  have key : ∀ (nx kf : Option aj), (bif true then (bif !(dh t x.2.1) then kf else (bif true then (bif !(dh t x.2.2.1) then kf else (bif (Nat.ble (List.length x.2.2.2.1) 1048576 && Nat.ble (List.length x.2.2.2.2) 1048576) then (bif !(kG x.2.2.2) then kf else (bif Nat.ble (sumW List.length (x.2.2.2.1 :: (x.2.2.2.2 :: []))) 1048576 then (bif (Nat.ble (List.length (List.flatten (x.2.2.2.1 :: (x.2.2.2.2 :: [])))) 1048576 && List.all (List.flatten (x.2.2.2.1 :: (x.2.2.2.2 :: []))) (fun y => (true && aO y.2.2))) then (bif List.any (List.flatten (x.2.2.2.1 :: (x.2.2.2.2 :: []))) (fun y => !(fU t y)) then kf else nx) else none) else none)) else none)) else none)) else none) =
    bif (dh t x.2.1 && dh t x.2.2.1 && kG x.2.2.2 && x.2.2.2.1.all (fU t) && x.2.2.2.2.all (fU t)) then nx else kf := by
   intro nx kf
   cases dh t x.2.1
   ·rfl
   cases dh t x.2.2.1
   ·rfl
   cases hk : kG x.2.2.2 with
   | false => rw [Nat.ble_eq_true_of_le n1, Nat.ble_eq_true_of_le n2]; rfl
   | true =>
    have hk' := hk
    unfold kG at hk'
    rw [Bool.and_eq_true] at hk'
    have m1 := ajn hk'.1
    have m2 := ajn hk'.2
    have hfl : List.flatten (x.2.2.2.1 :: (x.2.2.2.2 :: [])) = x.2.2.2.1 ++ x.2.2.2.2 := by simp
    have ha : List.all (x.2.2.2.1 ++ x.2.2.2.2) (fun y => (true && aO y.2.2)) = true := by
     rw [List.all_eq_true]
     intro y hy
     rcases List.mem_append.1 hy with hy | hy
     ·exact MS (F5 hf.1 hy)
     ·exact MS (F5 hf.2 hy)
    rw [Nat.ble_eq_true_of_le n1, Nat.ble_eq_true_of_le n2, hfl, ha, Nat.ble_eq_true_of_le (show sumW List.length (x.2.2.2.1 :: (x.2.2.2.2 :: [])) ≤ 1048576 by simp only [sumW]; omega), Nat.ble_eq_true_of_le (show (x.2.2.2.1 ++ x.2.2.2.2).length ≤ 1048576 by rw [List.length_append]; omega), List.any_append, List.all_eq_not_any_not, List.all_eq_not_any_not]
    cases List.any x.2.2.2.1 (fun y => !(fU t y)) <;> cases List.any x.2.2.2.2 (fun y => !(fU t y)) <;> rfl
  have ap1 : ∀ (s a b c d e p : Bool) (nx kf : Option aj), (bif (s && a && b && c && d && e && p) then nx else kf) = bif s then (bif p then (bif (a && b && c && d && e) then nx else kf) else kf) else kf := by
   intro s a b c d e p nx kf
   cases s <;> cases a <;> cases b <;> cases c <;> cases d <;> cases e <;> cases p <;> rfl
  rw [ap1]
  cases i with
  | zero =>
   rw [decide_eq_false (show ¬ ((0 : Nat) : Int) > 0 by omega)]
   cases (decide (1 ≤ x.1) && decide (x.1 ≤ 8))
   ·rfl
   ·exact key _ _
  | succ i =>
   rw [wrap_in (n := ((i + 1 : Nat) : Int) - 1) (by omega) (by omega), decide_eq_true (show ((i + 1 : Nat) : Int) > 0 by omega), show ((i + 1 : Nat) : Int) - 1 = ((i : Nat) : Int) by omega, decide_eq_true (show (0 : Int) ≤ ((i : Nat) : Int) by omega), decide_eq_true (show ((i : Nat) : Int) < ((l.length : Nat) : Int) by omega), Int.toNat_natCast, show i + 1 - 1 = i from rfl, show l.getD i aF.dflt = l.getD i Dn from rfl]
   cases (decide (1 ≤ x.1) && decide (x.1 ≤ 8))
   ·rfl
   ·by_cases a3 : (l.getD i Dn).1 < x.1
    ·rw [decide_eq_true a3, decide_eq_false (show ¬ (l.getD i Dn).1 ≥ x.1 from Int.not_le.2 a3)]
     exact key _ _
    ·rw [decide_eq_false a3, decide_eq_true (show (l.getD i Dn).1 ≥ x.1 from Int.not_lt.1 a3)]; rfl) (fun m => by
  show jV l l _ ((l.length : Nat) : Int) t _ _ _ = _
  unfold jV
  rw [decide_eq_false (show ¬ ((l.length : Nat) : Int) < ((l.length : Nat) : Int) by omega)]; rfl) (List.length l + List.length l + ((l.length : Nat) : Int).toNat + (0 : Int).toNat + List.length t + 2) 0 (by omega) (by omega)
 refine Eq.trans q ?_
 rw [Nat.sub_zero]
 show (bif GN l.length (rP t l) then _ else _) = _
 cases GN l.length (rP t l) <;> cases decide (((l.length : Nat) : Int) ≤ 8) <;> rfl
theorem VT : aT prog I N.gW true Gy := lN (aU (bf xX (bf Ib (bf abr (bf KI (bf Af bn))))) (l := [(N.jB, true, jZ), (N.xg, true, vP), (N.EP, true, NV), (N.aQ, false, uQ), (N.bK, true, jU)]) (p := [(4, takeB [0, 1] (.fork (.one 2 (takeB [3, 4, 5, 6, 7, 8, 9, 10, 11, 12, 13, 14, 15, 16, 17, 18, 19, 20, 21, 22, 23] (.fork (.one 24 (takeB [25, 26, 27, 28, 29, 30, 31] (.fork (.one 32 (takeB [33, 34, 35, 36, 37] (.fork (.one 38 (takes [39, 40])))))))))))), [])]) (ls := [(2, [0,3,7,8,9], [0,4], vT)]) (lend := []) (focus := false) (fuel := 0) (give := []) (fn := F.gW) (by kernel_rfl) (by kernel_rfl) (by kernel_rfl) (by kernel_rfl) (cs := [aA F.gW 2]) (by kernel_rfl) (dw N7 aJ)) (aK fun d K h => (aaf d.1 d.2.1 K).trans (aag d.1 d.2.1 h K))
end Go.Ev.Seat
end
section
namespace Go.Ev.Seat
open Go.RowKit
set_option maxRecDepth 100000
set_option linter.unusedVariables false
set_option linter.unusedSimpArgs false
noncomputable abbrev ag4 : Env := En [(N.i_in, true, mF), (N.jB, true, jZ)] [] [] [] false 0 []
noncomputable def N8 (l : au) (K : aj → Option aj) : Option aj := (bif ((decide ((0 : Int) ≤ l.1)) && (decide (l.1 ≤ l.2.1))) then (bif (decide (l.2.1 ≤ (400 : Int))) then (bif ((decide ((1 : Int) ≤ l.2.2.1)) && (decide (l.2.2.1 ≤ (8 : Int)))) then K ((.s (.bool ((decide ((1 : Int) ≤ l.2.2.2)) && (decide (l.2.2.2 ≤ (1000 : Int)))))), []) else K ((.s (.bool false)), [])) else K ((.s (.bool false)), [])) else K ((.s (.bool false)), []))
theorem ag5 (l : au) (K : aj → Option aj) : dS ag4 true F.EW [.a (aI.cells .no l)] K = N8 l K := by kernel_rfl
def N9 : Sm := bD [.a aI] (fun d => true) (fun d => (bl (oU d.1), []))
theorem ag6 (l : au) (K : aj → Option aj) : N8 l K = K (bl (oU l), []) := by
 unfold N8 oU nC al5
 cases (decide (0 ≤ l.1) && decide (l.1 ≤ l.2.1)) <;> cases decide (l.2.1 ≤ 400) <;> cases (decide (1 ≤ l.2.2.1) && decide (l.2.2.1 ≤ 8)) <;> rfl
theorem abw : aT prog I N.EW true N9 := lN (aU (bf uM (bf xX bn)) (l := [(N.i_in, true, mF), (N.jB, true, jZ)]) (p := []) (ls := []) (lend := []) (focus := false) (fuel := 0) (give := []) (fn := F.EW) (by kernel_rfl) (by kernel_rfl) (by kernel_rfl) (by kernel_rfl) (cs := []) (by kernel_rfl) aJ) (aK fun d K h => (ag5 d.1 K).trans (ag6 d.1 K))
end Go.Ev.Seat
end
section
namespace Go.Ev.Seat
open Go.RowKit
set_option maxRecDepth 100000
set_option linter.unusedVariables false
set_option linter.unusedSimpArgs false
noncomputable abbrev XP : Env := En [] [] [] [] false 0 []
noncomputable def Lp (a : Int) (K : aj → Option aj) : Option aj := K ((.s (.bool (a != a))), [])
theorem XQ (a : Int) (K : aj → Option aj) : dS XP true F.cmp_isNaN_int [.s (.int .i64 a)] K = Lp a K := by kernel_rfl
def DT : Sm := bD [.i] (fun d => true) (fun d => (bl (d.1 != d.1), []))
theorem XR (a : Int) (K : aj → Option aj) : Lp a K = K (bl (a != a), []) := rfl
theorem TG : aT prog I N.cmp_isNaN_int true DT := lN (aU bn (l := []) (p := []) (ls := []) (lend := []) (focus := false) (fuel := 0) (give := []) (fn := F.cmp_isNaN_int) (by kernel_rfl) (by kernel_rfl) (by kernel_rfl) (by kernel_rfl) (cs := []) (by kernel_rfl) aJ) (aK fun d K h => (XQ d.1 K).trans (XR d.1 K))
end Go.Ev.Seat
end
section
namespace Go.Ev.Seat
open Go.RowKit
set_option maxRecDepth 100000
set_option linter.unusedVariables false
set_option linter.unusedSimpArgs false
noncomputable abbrev TI : Env := En [(N.cmp_isNaN_int, true, DT)] [] [] [] false 0 []
noncomputable def Ag (a : Int) (b : Int) (K : aj → Option aj) : Option aj := (bif (a != a) then (bif (b != b) then K ((.s (.int .i64 (0 : Int))), []) else K ((.s (.int .i64 (-(1 : Int)))), [])) else (bif (b != b) then K ((.s (.int .i64 (1 : Int))), []) else (bif (decide (a < b)) then K ((.s (.int .i64 (-(1 : Int)))), []) else (bif (decide (a > b)) then K ((.s (.int .i64 (1 : Int))), []) else K ((.s (.int .i64 (0 : Int))), [])))))
theorem TJ (a : Int) (b : Int) (K : aj → Option aj) : dS TI true F.cmp_Compare_int [.s (.int .i64 a), .s (.int .i64 b)] K = Ag a b K := by kernel_rfl
def nP : Sm := bD [.i, .i] (fun d => true) (fun d => (.s (.int .i64 (zf d.1 d.2.1)), []))
theorem TK (a : Int) (b : Int) (K : aj → Option aj) : Ag a b K = K (.s (.int .i64 (zf a b)), []) := by
 unfold Ag zf
 rw [ajp (rfl : a = a), ajp (rfl : b = b)]
 cases decide (a < b)
 ·cases decide (a > b) <;> rfl
 ·rfl
theorem DY : aT prog I N.cmp_Compare_int true nP := lN (aU (bf TG bn) (l := [(N.cmp_isNaN_int, true, DT)]) (p := []) (ls := []) (lend := []) (focus := false) (fuel := 0) (give := []) (fn := F.cmp_Compare_int) (by kernel_rfl) (by kernel_rfl) (by kernel_rfl) (by kernel_rfl) (cs := []) (by kernel_rfl) aJ) (aK fun d K h => (TJ d.1 d.2.1 K).trans (TK d.1 d.2.1 K))
end Go.Ev.Seat
end
section
namespace Go.Ev.Seat
open Go.RowKit
set_option maxRecDepth 100000
set_option linter.unusedVariables false
set_option linter.unusedSimpArgs false
def vU (x2 : Int) (x3 : Int) : St := { tm := ([.x, .x, (.s (.int .i64 x2)), (.s (.int .i64 x3))] ++ List.replicate 14 .x), ob := [], nx := 0, io := [] }
def vV (x3 : Int) : St := { tm := ([.x, .x, .x, (.s (.int .i64 x3))] ++ List.replicate 14 .x), ob := [], nx := 0, io := [] }
def tH : Ss := { tm := (.cons (.x) (.cons (.x) (.cons (.x) (.cons (.int .i64) (.cons (.x) (.cons (.x) (.cons (.l .no FN) (.cons (.int .i64) (.cons (.int .i64) (Ed 9)))))))))), ob := .nil, nx := 0, io := .nil }
def VU (x3 : Int) (x6 : List Int) (x7 : Int) (x8 : Int) : tH.T := (((), ((), ((), (x3, ((), ((), (x6, (x7, (x8, xd 9))))))))), (), ())
def pR (x3 : Int) (x6 : List Int) (x7 : Int) (x8 : Int) : St := { tm := ([.x, .x, .x, (.s (.int .i64 x3)), .x, .x, (.l .no FN x6), (.s (.int .i64 x7)), (.s (.int .i64 x8))] ++ List.replicate 9 .x), ob := [], nx := 0, io := [] }
theorem TL (x3 : Int) (x6 : List Int) (x7 : Int) (x8 : Int) : tH.mk' (VU x3 x6 x7 x8) = (pR x3 x6 x7 x8) := by kernel_rfl
def VW (d : tH.T) (f : Int → (List Int) → Int → Int → Option aj) : Option aj := match d with | ((_, (_, (_, (x3, (_, (_, (x6, (x7, (x8, _))))))))), _, _) => f x3 x6 x7 x8
noncomputable def vW (x3 : Int) (x6 : List Int) (x7 : Int) (x8 : Int) (pW : Int → (List Int) → Int → Int → Option aj) (k0 : Int → Int → Option aj) (k1 : Int → Option aj) : Option aj := (bif (decide (x8 < x7)) then (bif ((decide ((0 : Int) ≤ x8)) && (decide (x8 < (((List.length x6) : Nat) : Int)))) then (bif ((List.getD x6 (Int.toNat x8) (0 : Int)) != x3) then (k0 (List.getD x6 (Int.toNat x8) (0 : Int)) x3) else (pW x3 x6 x7 (IntKind.wrap .i64 (x8 + (1 : Int))))) else none) else (k1 x3))
noncomputable def pU : Nat → Int → (List Int) → Int → Int → (Int → Int → Option aj) → (Int → Option aj) → Option aj
 | 0, _, _, _, _, _, _ => none
 | m + 1, x3, x6, x7, x8, k0, k1 => vW x3 x6 x7 x8 (fun x3 x6 x7 x8 => (pU m x3 x6 x7 x8 k0 k1)) k0 k1
noncomputable def JD (x3 : Int) (x6 : List Int) (x7 : Int) (x8 : Int) (k0 : Int → Int → Option aj) (k1 : Int → Option aj) : Option aj := pU (x3.toNat + List.length x6 + x7.toNat + x8.toNat + 2) x3 x6 x7 x8 k0 k1
noncomputable def Ah : fG := (fun (σ : St) (K : Ex → St → Option aj) => (match tH.un σ with | some d => VW d (fun x3 x6 x7 x8 => JD x3 x6 x7 x8 (fun x2 x3 => (K .ret (vU x2 x3))) (fun x3 => (K (.ext 0) (vV x3)))) | none => none))
noncomputable abbrev qG : Env := En [] [] [(3, [3,6,7,8], [2,3], Ah)] [] false 0 []
theorem TM (m : Nat) (x3 : Int) (x6 : List Int) (x7 : Int) (x8 : Int) (K : Ex → St → Option aj) : rounds (run qG (aA F.jQ 3)) [3,6,7,8] [2,3] (m + 1) (pR x3 x6 x7 x8) K = vW x3 x6 x7 x8 (fun x3 x6 x7 x8 => (rounds (run qG (aA F.jQ 3)) [3,6,7,8] [2,3] m (pR x3 x6 x7 x8) K)) (fun x2 x3 => (K .ret (vU x2 x3))) (fun x3 => (K (.ext 0) (vV x3))) := by kernel_rfl
theorem Oa (K : Ex → St → Option aj) : ∀ m : Nat, (∀ (x3 : Int) (x6 : List Int) (x7 : Int) (x8 : Int), rounds (run qG (aA F.jQ 3)) [3,6,7,8] [2,3] m (pR x3 x6 x7 x8) K = pU m x3 x6 x7 x8 (fun x2 x3 => (K .ret (vU x2 x3))) (fun x3 => (K (.ext 0) (vV x3))))
 | 0 => (fun _ _ _ _ => rfl)
 | m + 1 => (fun x3 x6 x7 x8 => (by rw [TM, show (fun x3 x6 x7 x8 => (rounds (run qG (aA F.jQ 3)) [3,6,7,8] [2,3] m (pR x3 x6 x7 x8) K)) = (fun x3 x6 x7 x8 => (pU m x3 x6 x7 x8 (fun x2 x3 => (K .ret (vU x2 x3))) (fun x3 => (K (.ext 0) (vV x3))))) from funext fun x3 => funext fun x6 => funext fun x7 => funext fun x8 => (Oa K m) x3 x6 x7 x8]; rfl))
theorem QO : dL qG (aA F.jQ 3) := by
 refine dG (n := 3) (F := Ah) (by kernel_rfl) rfl (li := [3,6,7,8]) (lo := [2,3]) rfl (fun σ K r hr => ?_)
 unfold Ah at hr
 split at hr
 ·rename_i d hd
  rw [Ss.fF hd]
  exact ⟨_, ((congrArg (fun z => rounds (run qG (aA F.jQ 3)) [3,6,7,8] [2,3] _ z K) (TL _ _ _ _)).trans ((Oa K _) _ _ _ _)).trans hr⟩
 ·cases hr
noncomputable def KJ (l : List Int) (K : aj → Option aj) : Option aj := (JD (0 : Int) l (((List.length l) : Nat) : Int) (0 : Int) (fun y0 y1 => K ((.s (.int .i64 y0)), [])) (fun y2 => K ((.s (.int .i64 y2)), [])))
theorem aew (l : List Int) (K : aj → Option aj) : dS qG true F.jQ [.l .no FN l] K = KJ l K := by kernel_rfl
def KL : Sm := bD [.l FN] (fun d => Nat.ble d.1.length 1048576) (fun d => (.s (.int .i64 (orD d.1)), []))
theorem aex (l : List Int) (h : (Nat.ble l.length 1048576) = true) (K : aj → Option aj) : KJ l K = K (.s (.int .i64 (orD l)), []) := by
 have hl := Nat.le_of_ble_eq_true h
 unfold KJ orD
 have q : ∀ (m i : Nat), i ≤ l.length → l.length - i < m → pU m 0 l ((l.length : Nat) : Int) ((i : Nat) : Int) (fun y0 y1 => K ((.s (.int .i64 y0)), [])) (fun y2 => K ((.s (.int .i64 y2)), [])) = K ((.s (.int .i64 (((l.drop i).find? (fun c => c != 0)).getD 0))), []) := by
  intro m
  induction m with
  | zero => intro i _ hm; omega
  | succ m ih =>
   intro i hi hm
   show vW 0 l _ ((i : Nat) : Int) _ _ _ = _
   unfold vW
   by_cases hlt : i < l.length
   ·rw [decide_eq_true (show ((i : Nat) : Int) < ((l.length : Nat) : Int) by omega), decide_eq_true (show (0 : Int) ≤ ((i : Nat) : Int) by omega), Int.toNat_natCast, bY (by omega), List.drop_eq_getElem_cons hlt, ← getD_lt 0 hlt, List.find?_cons]
    dsimp only
    rw [ih (i + 1) (by omega) (by omega)]
    cases ((l.getD i 0) != 0) <;> rfl
   ·obtain rfl : i = l.length := by omega
    rw [decide_eq_false (show ¬ ((l.length : Nat) : Int) < ((l.length : Nat) : Int) by omega), List.drop_length]; rfl
 have := q ((0 : Int).toNat + List.length l + ((l.length : Nat) : Int).toNat + (0 : Int).toNat + 2) 0 (by omega) (by omega)
 rw [List.drop_zero] at this
 exact this
theorem aah : aT prog I N.jQ true KL := lN (aU bn (l := []) (p := []) (ls := [(3, [3,6,7,8], [2,3], Ah)]) (lend := []) (focus := false) (fuel := 0) (give := []) (fn := F.jQ) (by kernel_rfl) (by kernel_rfl) (by kernel_rfl) (by kernel_rfl) (cs := [aA F.jQ 3]) (by kernel_rfl) (dw QO aJ)) (aK fun d K h => (aew d.1 K).trans (aex d.1 h K))
end Go.Ev.Seat
end
section
namespace Go.Ev.Seat
open Go.RowKit
set_option maxRecDepth 100000
set_option linter.unusedVariables false
set_option linter.unusedSimpArgs false
noncomputable abbrev TN : Env := En [(N.cmp_Compare_int, true, nP), (N.jQ, true, KL)] [(1, takeB [0, 1, 2, 3, 5, 6, 7, 8, 10, 11, 12, 13] (.fork (.one 4 (.fork (.one 9 (.fork (.one 14 (.fork (.one 15 (.fork (.one 16 (takes [17]))))))))))), [])] [] [] false 0 []
noncomputable def Ai (a : au) (b : au) (K : aj → Option aj) : Option aj := K ((.s (.int .i64 (orD ((zf a.1 b.1) :: ((zf a.2.1 b.2.1) :: ((zf a.2.2.1 b.2.2.1) :: ([] : List Int))))))), [])
theorem TP (a : au) (b : au) (K : aj → Option aj) : dS TN true F.mV [.a (aI.cells .no a), .a (aI.cells .no b)] K = Ai a b K := by kernel_rfl
def Aj : Sm := bD [.a aI, .a aI] (fun d => true) (fun d => (.s (.int .i64 (akj d.1 d.2.1)), []))
theorem TQ (a : au) (b : au) (K : aj → Option aj) : Ai a b K = K (.s (.int .i64 (akj a b)), []) := by
 unfold Ai orD akj
 simp only [List.find?_cons, List.find?_nil]
 cases (zf a.1 b.1 != 0)
 ·cases (zf a.2.1 b.2.1 != 0)
  ·cases h3 : (zf a.2.2.1 b.2.2.1 != 0)
   ·have : zf a.2.2.1 b.2.2.1 = 0 := by simpa using h3
    rw [this]; rfl
   ·rfl
  ·rfl
 ·rfl
theorem OY : aT prog I N.mV true Aj := lN (aU (bf DY (bf aah bn)) (l := [(N.cmp_Compare_int, true, nP), (N.jQ, true, KL)]) (p := [(1, takeB [0, 1, 2, 3, 5, 6, 7, 8, 10, 11, 12, 13] (.fork (.one 4 (.fork (.one 9 (.fork (.one 14 (.fork (.one 15 (.fork (.one 16 (takes [17]))))))))))), [])]) (ls := []) (lend := []) (focus := false) (fuel := 0) (give := []) (fn := F.mV) (by kernel_rfl) (by kernel_rfl) (by kernel_rfl) (by kernel_rfl) (cs := []) (by kernel_rfl) aJ) (aK fun d K h => (TP d.1 d.2.1 K).trans (TQ d.1 d.2.1 K))
end Go.Ev.Seat
end
section
namespace Go.Ev.Seat
open Go.RowKit
set_option maxRecDepth 100000
set_option linter.unusedVariables false
set_option linter.unusedSimpArgs false
def tJ (x0 : List au) (x2 : Bool) : St := { tm := ([(.l .no aI x0), .x, (.s (.bool x2))] ++ List.replicate 30 .x), ob := [], nx := 0, io := [] }
def tK (x0 : List au) : St := { tm := ([(.l .no aI x0)] ++ List.replicate 32 .x), ob := [], nx := 0, io := [] }
def qH : Ss := { tm := (.cons (.l .no aI) (.cons (.x) (.cons (.x) (.cons (.x) (.cons (.x) (.cons (.l .no aI) (.cons (.int .i64) (.cons (.int .i64) (Ed 25))))))))), ob := .nil, nx := 0, io := .nil }
def TR (x0 : List au) (x5 : List au) (x6 : Int) (x7 : Int) : qH.T := ((x0, ((), ((), ((), ((), (x5, (x6, (x7, xd 25)))))))), (), ())
def nR (x0 : List au) (x5 : List au) (x6 : Int) (x7 : Int) : St := { tm := ([(.l .no aI x0), .x, .x, .x, .x, (.l .no aI x5), (.s (.int .i64 x6)), (.s (.int .i64 x7))] ++ List.replicate 25 .x), ob := [], nx := 0, io := [] }
theorem QS (x0 : List au) (x5 : List au) (x6 : Int) (x7 : Int) : qH.mk' (TR x0 x5 x6 x7) = (nR x0 x5 x6 x7) := by kernel_rfl
def TS (d : qH.T) (f : (List au) → (List au) → Int → Int → Option aj) : Option aj := match d with | ((x0, (_, (_, (_, (_, (x5, (x6, (x7, _)))))))), _, _) => f x0 x5 x6 x7
noncomputable def kR (x0 : List au) (x5 : List au) (x6 : Int) (x7 : Int) (pW : (List au) → (List au) → Int → Int → Option aj) (k0 : (List au) → Bool → Option aj) (k1 : (List au) → Option aj) : Option aj := (bif (decide (x7 < x6)) then (bif ((decide ((0 : Int) ≤ x7)) && (decide (x7 < (((List.length x5) : Nat) : Int)))) then (bif (!(oU (List.getD x5 (Int.toNat x7) (aI.dflt)))) then (k0 x0 false) else (bif (decide (x7 > (0 : Int))) then (bif ((decide ((0 : Int) ≤ (IntKind.wrap .i64 (x7 - (1 : Int))))) && (decide ((IntKind.wrap .i64 (x7 - (1 : Int))) < (((List.length x0) : Nat) : Int)))) then (bif (decide ((akj (List.getD x0 (Int.toNat (IntKind.wrap .i64 (x7 - (1 : Int)))) (aI.dflt)) (List.getD x5 (Int.toNat x7) (aI.dflt))) ≥ (0 : Int))) then (k0 x0 false) else (pW x0 x5 x6 (IntKind.wrap .i64 (x7 + (1 : Int))))) else none) else (pW x0 x5 x6 (IntKind.wrap .i64 (x7 + (1 : Int)))))) else none) else (k1 x0))
noncomputable def nS : Nat → (List au) → (List au) → Int → Int → ((List au) → Bool → Option aj) → ((List au) → Option aj) → Option aj
 | 0, _, _, _, _, _, _ => none
 | m + 1, x0, x5, x6, x7, k0, k1 => kR x0 x5 x6 x7 (fun x0 x5 x6 x7 => (nS m x0 x5 x6 x7 k0 k1)) k0 k1
noncomputable def Ic (x0 : List au) (x5 : List au) (x6 : Int) (x7 : Int) (k0 : (List au) → Bool → Option aj) (k1 : (List au) → Option aj) : Option aj := nS (List.length x0 + List.length x5 + x6.toNat + x7.toNat + 2) x0 x5 x6 x7 k0 k1
noncomputable def yj : fG := (fun (σ : St) (K : Ex → St → Option aj) => (match qH.un σ with | some d => TS d (fun x0 x5 x6 x7 => Ic x0 x5 x6 x7 (fun x0 x2 => (K .ret (tJ x0 x2))) (fun x0 => (K (.ext 0) (tK x0)))) | none => none))
noncomputable abbrev oz : Env := En [(N.EW, true, N9), (N.mV, true, Aj)] [(4, takeB [0] (.fork (.one 1 (takeB [2, 3, 4, 5, 6, 7, 8, 9, 10, 11, 12] (.fork (.one 13 (takes [14, 15, 16])))))), [])] [(2, [0,5,6,7], [0,2], yj)] [] false 0 []
theorem QT (m : Nat) (x0 : List au) (x5 : List au) (x6 : Int) (x7 : Int) (K : Ex → St → Option aj) : rounds (run oz (aA F.iY 2)) [0,5,6,7] [0,2] (m + 1) (nR x0 x5 x6 x7) K = kR x0 x5 x6 x7 (fun x0 x5 x6 x7 => (rounds (run oz (aA F.iY 2)) [0,5,6,7] [0,2] m (nR x0 x5 x6 x7) K)) (fun x0 x2 => (K .ret (tJ x0 x2))) (fun x0 => (K (.ext 0) (tK x0))) := by kernel_rfl
theorem Lr (K : Ex → St → Option aj) : ∀ m : Nat, (∀ (x0 : List au) (x5 : List au) (x6 : Int) (x7 : Int), rounds (run oz (aA F.iY 2)) [0,5,6,7] [0,2] m (nR x0 x5 x6 x7) K = nS m x0 x5 x6 x7 (fun x0 x2 => (K .ret (tJ x0 x2))) (fun x0 => (K (.ext 0) (tK x0))))
 | 0 => (fun _ _ _ _ => rfl)
 | m + 1 => (fun x0 x5 x6 x7 => (by rw [QT, show (fun x0 x5 x6 x7 => (rounds (run oz (aA F.iY 2)) [0,5,6,7] [0,2] m (nR x0 x5 x6 x7) K)) = (fun x0 x5 x6 x7 => (nS m x0 x5 x6 x7 (fun x0 x2 => (K .ret (tJ x0 x2))) (fun x0 => (K (.ext 0) (tK x0))))) from funext fun x0 => funext fun x5 => funext fun x6 => funext fun x7 => (Lr K m) x0 x5 x6 x7]; rfl))
theorem OZ : dL oz (aA F.iY 2) := by
 refine dG (n := 2) (F := yj) (by kernel_rfl) rfl (li := [0,5,6,7]) (lo := [0,2]) rfl (fun σ K r hr => ?_)
 unfold yj at hr
 split at hr
 ·rename_i d hd
  rw [Ss.fF hd]
  exact ⟨_, ((congrArg (fun z => rounds (run oz (aA F.iY 2)) [0,5,6,7] [0,2] _ z K) (QS _ _ _ _)).trans ((Lr K _) _ _ _ _)).trans hr⟩
 ·cases hr
noncomputable def IU (l : List au) (K : aj → Option aj) : Option aj := (Ic l l (((List.length l) : Nat) : Int) (0 : Int) (fun y0 y1 => K ((.s (.bool y1)), [])) (fun y2 => K ((.s (.bool (decide ((((List.length y2) : Nat) : Int) ≤ (12 : Int))))), [])))
theorem abx (l : List au) (K : aj → Option aj) : dS oz true F.iY [.l .no aI l] K = IU l K := by kernel_rfl
def IV : Sm := bD [.l aI] (fun d => Nat.ble d.1.length 1048576) (fun d => (bl (oV d.1), []))
theorem aby (l : List au) (h : (Nat.ble l.length 1048576) = true) (K : aj → Option aj) : IU l K = K (bl (oV l), []) := by
 have hl := Nat.le_of_ble_eq_true h
 unfold IU oV
 have q := zA (R := fun m i => nS m l l ((l.length : Nat) : Int) i (fun y0 y1 => K ((.s (.bool y1)), [])) (fun y2 => K ((.s (.bool (decide ((((List.length y2) : Nat) : Int) ≤ (12 : Int))))), []))) (p := zB l) (n := l.length) (kt := K ((.s (.bool (decide (((l.length : Nat) : Int) ≤ 12)))), [])) (kf := K ((.s (.bool false)), [])) (fun m i hi => by
   show kR l l _ ((i : Nat) : Int) _ _ _ = _
   unfold kR zB
   rw [decide_eq_true (show ((i : Nat) : Int) < ((l.length : Nat) : Int) by omega), decide_eq_true (show (0 : Int) ≤ ((i : Nat) : Int) by omega), Int.toNat_natCast, bY (by omega), show l.getD i aI.dflt = l.getD i fM from rfl]
   cases i with
   | zero =>
    rw [decide_eq_false (show ¬ ((0 : Nat) : Int) > 0 by omega)]
    cases oU (l.getD 0 fM) <;> rfl
   | succ i =>
    rw [wrap_in (n := ((i + 1 : Nat) : Int) - 1) (by omega) (by omega), decide_eq_true (show ((i + 1 : Nat) : Int) > 0 by omega), show ((i + 1 : Nat) : Int) - 1 = ((i : Nat) : Int) by omega, decide_eq_true (show (0 : Int) ≤ ((i : Nat) : Int) by omega), decide_eq_true (show ((i : Nat) : Int) < ((l.length : Nat) : Int) by omega), Int.toNat_natCast, show i + 1 - 1 = i from rfl, show l.getD i aI.dflt = l.getD i fM from rfl, al6]
    cases oU (l.getD (i + 1) fM) <;> cases Si (l.getD i fM) (l.getD (i + 1) fM) <;> rfl) (fun m => by
   show kR l l _ ((l.length : Nat) : Int) _ _ _ = _
   unfold kR
   rw [decide_eq_false (show ¬ ((l.length : Nat) : Int) < ((l.length : Nat) : Int) by omega)]; rfl) (List.length l + List.length l + ((l.length : Nat) : Int).toNat + (0 : Int).toNat + 2) 0 (by omega) (by omega)
 refine Eq.trans q ?_
 rw [Nat.sub_zero]
 show (bif GN l.length (zB l) then _ else _) = _
 cases GN l.length (zB l) <;> cases decide (((l.length : Nat) : Int) ≤ 12) <;> rfl
theorem XT : aT prog I N.iY true IV := lN (aU (bf abw (bf OY bn)) (l := [(N.EW, true, N9), (N.mV, true, Aj)]) (p := [(4, takeB [0] (.fork (.one 1 (takeB [2, 3, 4, 5, 6, 7, 8, 9, 10, 11, 12] (.fork (.one 13 (takes [14, 15, 16])))))), [])]) (ls := [(2, [0,5,6,7], [0,2], yj)]) (lend := []) (focus := false) (fuel := 0) (give := []) (fn := F.iY) (by kernel_rfl) (by kernel_rfl) (by kernel_rfl) (by kernel_rfl) (cs := [aA F.iY 2]) (by kernel_rfl) (dw OZ aJ)) (aK fun d K h => (abx d.1 K).trans (aby d.1 h K))
end Go.Ev.Seat
end
section
namespace Go.Ev.Seat
open Go.RowKit
set_option maxRecDepth 100000
set_option linter.unusedVariables false
set_option linter.unusedSimpArgs false
noncomputable abbrev QU : Env := En [] [] [] [] false 0 []
noncomputable def Gz (l : au) (n : Int) (K : aj → Option aj) : Option aj := K ((.s (.bool (decide (l.2.2.2 > n)))), [])
theorem QV (l : au) (n : Int) (K : aj → Option aj) : dS QU true F.lD [.a (aI.cells .no l), .s (.int .i64 n)] K = Gz l n K := by kernel_rfl
def yJ : Sm := bD [.a aI, .i] (fun d => true) (fun d => (bl (decide (d.1.2.2.2 > d.2.1)), []))
theorem QW (l : au) (n : Int) (K : aj → Option aj) : Gz l n K = K (bl (decide (l.2.2.2 > n)), []) := rfl
theorem Ob : aT prog I N.lD true yJ := lN (aU bn (l := []) (p := []) (ls := []) (lend := []) (focus := false) (fuel := 0) (give := []) (fn := F.lD) (by kernel_rfl) (by kernel_rfl) (by kernel_rfl) (by kernel_rfl) (cs := []) (by kernel_rfl) aJ) (aK fun d K h => (QV d.1 d.2.1 K).trans (QW d.1 d.2.1 K))
end Go.Ev.Seat
end
section
namespace Go.Ev.Seat
open Go.RowKit
set_option maxRecDepth 100000
set_option linter.unusedVariables false
set_option linter.unusedSimpArgs false
def yt (x0 : List au) (x1 : List Int) (x2 : Int) (x6 : Bool) (x14 : List au) (x15 : Int) (x16 : Int) : St := { tm := ([(.l .no aI x0), (.l .no ah x1), (.s (.int .i64 x2)), .x, .x, .x, (.s (.bool x6)), .x, .x, .x, .x, .x, .x, .x, (.l .no aI x14), (.s (.int .i64 x15)), (.s (.int .i64 x16))] ++ List.replicate 50 .x), ob := [], nx := 0, io := [] }
def yu (x0 : List au) (x1 : List Int) (x2 : Int) (x14 : List au) (x15 : Int) (x16 : Int) : St := { tm := ([(.l .no aI x0), (.l .no ah x1), (.s (.int .i64 x2)), .x, .x, .x, .x, .x, .x, .x, .x, .x, .x, .x, (.l .no aI x14), (.s (.int .i64 x15)), (.s (.int .i64 x16))] ++ List.replicate 50 .x), ob := [], nx := 0, io := [] }
def vX : Ss := { tm := (.cons (.l .no aI) (.cons (.l .no ah) (.cons (.int .i64) (.cons (.x) (.cons (.x) (.cons (.x) (.cons (.x) (.cons (.x) (.cons (.pb 0 0) (.cons (.x) (.cons (.x) (.cons (.x) (.cons (.x) (.cons (.x) (.cons (.l .no aI) (.cons (.int .i64) (.cons (.int .i64) (.cons (.x) (.cons (.x) (.cons (.x) (.cons (.x) (.cons (.x) (.cons (.x) (.cons (.x) (.cons (.x) (.cons (.x) (.cons (.x) (.cons (.x) (.cons (.x) (.cons (.x) (.cons (.x) (.cons (.x) (.cons (.x) (.cons (.x) (.cons (.x) (.cons (.x) (.cons (.x) (.cons (.x) (.cons (.x) (.cons (.x) (.cons (.x) (.cons (.l .no aI) (.cons (.int .i64) (.cons (.int .i64) (Ed 23))))))))))))))))))))))))))))))))))))))))))))), ob := (.box (.cons (.int .i64) (.cons (.int .i64) (.cons (.int .i64) (.cons (.int .i64) .nil)))) .nil), nx := 1, io := .nil }
def XU (x0 : List au) (x1 : List Int) (x2 : Int) (x14 : List au) (x15 : Int) (x16 : Int) (x41 : List au) (Lu : Int) (x43 : Int) (b00 : Int) (b01 : Int) (b02 : Int) (aW : Int) : vX.T := ((x0, (x1, (x2, ((), ((), ((), ((), ((), ((), ((), ((), ((), ((), ((), (x14, (x15, (x16, ((), ((), ((), ((), ((), ((), ((), ((), ((), ((), ((), ((), ((), ((), ((), ((), ((), ((), ((), ((), ((), ((), ((), ((), (x41, (Lu, (x43, xd 23)))))))))))))))))))))))))))))))))))))))))))), ((b00, (b01, (b02, (aW, ())))), ()), ())
def rC (x0 : List au) (x1 : List Int) (x2 : Int) (x14 : List au) (x15 : Int) (x16 : Int) (x41 : List au) (Lu : Int) (x43 : Int) (b00 : Int) (b01 : Int) (b02 : Int) (aW : Int) : St := { tm := ([(.l .no aI x0), (.l .no ah x1), (.s (.int .i64 x2)), .x, .x, .x, .x, .x, (.pb 0 0), .x, .x, .x, .x, .x, (.l .no aI x14), (.s (.int .i64 x15)), (.s (.int .i64 x16)), .x, .x, .x, .x, .x, .x, .x, .x, .x, .x, .x, .x, .x, .x, .x, .x, .x, .x, .x, .x, .x, .x, .x, .x, (.l .no aI x41), (.s (.int .i64 Lu)), (.s (.int .i64 x43))] ++ List.replicate 23 .x), ob := [(0, (.box [(.s (.int .i64 b00)), (.s (.int .i64 b01)), (.s (.int .i64 b02)), (.s (.int .i64 aW))]))], nx := 1, io := [] }
theorem VX (x0 : List au) (x1 : List Int) (x2 : Int) (x14 : List au) (x15 : Int) (x16 : Int) (x41 : List au) (Lu : Int) (x43 : Int) (b00 : Int) (b01 : Int) (b02 : Int) (aW : Int) : vX.mk' (XU x0 x1 x2 x14 x15 x16 x41 Lu x43 b00 b01 b02 aW) = (rC x0 x1 x2 x14 x15 x16 x41 Lu x43 b00 b01 b02 aW) := by kernel_rfl
def XV (d : vX.T) (f : (List au) → (List Int) → Int → (List au) → Int → Int → (List au) → Int → Int → Int → Int → Int → Int → Option aj) : Option aj := match d with | ((x0, (x1, (x2, (_, (_, (_, (_, (_, (_, (_, (_, (_, (_, (_, (x14, (x15, (x16, (_, (_, (_, (_, (_, (_, (_, (_, (_, (_, (_, (_, (_, (_, (_, (_, (_, (_, (_, (_, (_, (_, (_, (_, (x41, (Lu, (x43, _)))))))))))))))))))))))))))))))))))))))))))), ((b00, (b01, (b02, (aW, _)))), _), _) => f x0 x1 x2 x14 x15 x16 x41 Lu x43 b00 b01 b02 aW
noncomputable def mY (x0 : List au) (x1 : List Int) (x2 : Int) (x14 : List au) (x15 : Int) (x16 : Int) (x41 : List au) (Lu : Int) (x43 : Int) (b00 : Int) (b01 : Int) (b02 : Int) (aW : Int) (pW : (List au) → (List Int) → Int → (List au) → Int → Int → (List au) → Int → Int → Int → Int → Int → Int → Option aj) (k0 : (List au) → (List Int) → Int → Bool → (List au) → Int → Int → Option aj) (k1 : (List au) → (List Int) → Int → (List au) → Int → Int → Option aj) : Option aj := (bif (decide (x43 < Lu)) then (bif ((decide ((0 : Int) ≤ x43)) && (decide (x43 < (((List.length x41) : Nat) : Int)))) then (bif ((List.getD x41 (Int.toNat x43) (aI.dflt)).2.2.1 != b02) then (bif (decide ((if b00 > (List.getD x41 (Int.toNat x43) (aI.dflt)).1 then b00 else (List.getD x41 (Int.toNat x43) (aI.dflt)).1) < (if b01 < (List.getD x41 (Int.toNat x43) (aI.dflt)).2.1 then b01 else (List.getD x41 (Int.toNat x43) (aI.dflt)).2.1))) then (k0 x0 x1 x2 false x14 x15 x16) else (pW x0 x1 x2 x14 x15 x16 x41 Lu (IntKind.wrap .i64 (x43 + (1 : Int))) b00 b01 b02 aW)) else (pW x0 x1 x2 x14 x15 x16 x41 Lu (IntKind.wrap .i64 (x43 + (1 : Int))) b00 b01 b02 aW)) else none) else (k1 x0 x1 x2 x14 x15 x16))
noncomputable def rD : Nat → (List au) → (List Int) → Int → (List au) → Int → Int → (List au) → Int → Int → Int → Int → Int → Int → ((List au) → (List Int) → Int → Bool → (List au) → Int → Int → Option aj) → ((List au) → (List Int) → Int → (List au) → Int → Int → Option aj) → Option aj
 | 0, _, _, _, _, _, _, _, _, _, _, _, _, _, _, _ => none
 | m + 1, x0, x1, x2, x14, x15, x16, x41, Lu, x43, b00, b01, b02, aW, k0, k1 => mY x0 x1 x2 x14 x15 x16 x41 Lu x43 b00 b01 b02 aW (fun x0 x1 x2 x14 x15 x16 x41 Lu x43 b00 b01 b02 aW => (rD m x0 x1 x2 x14 x15 x16 x41 Lu x43 b00 b01 b02 aW k0 k1)) k0 k1
noncomputable def DU (x0 : List au) (x1 : List Int) (x2 : Int) (x14 : List au) (x15 : Int) (x16 : Int) (x41 : List au) (Lu : Int) (x43 : Int) (b00 : Int) (b01 : Int) (b02 : Int) (aW : Int) (k0 : (List au) → (List Int) → Int → Bool → (List au) → Int → Int → Option aj) (k1 : (List au) → (List Int) → Int → (List au) → Int → Int → Option aj) : Option aj := rD (List.length x0 + List.length x1 + x2.toNat + List.length x14 + x15.toNat + x16.toNat + List.length x41 + Lu.toNat + x43.toNat + b00.toNat + b01.toNat + b02.toNat + aW.toNat + 2) x0 x1 x2 x14 x15 x16 x41 Lu x43 b00 b01 b02 aW k0 k1
noncomputable def CW : fG := (fun (σ : St) (K : Ex → St → Option aj) => (match vX.un σ with | some d => XV d (fun x0 x1 x2 x14 x15 x16 x41 Lu x43 b00 b01 b02 aW => DU x0 x1 x2 x14 x15 x16 x41 Lu x43 b00 b01 b02 aW (fun x0 x1 x2 x6 x14 x15 x16 => (K .ret (yt x0 x1 x2 x6 x14 x15 x16))) (fun x0 x1 x2 x14 x15 x16 => (K (.ext 2) (yu x0 x1 x2 x14 x15 x16)))) | none => none))
def yw (x6 : Bool) : St := { tm := ([.x, .x, .x, .x, .x, .x, (.s (.bool x6))] ++ List.replicate 60 .x), ob := [], nx := 0, io := [] }
def yx : St := { tm := ([] ++ List.replicate 67 .x), ob := [], nx := 0, io := [] }
def vY : Ss := { tm := (.cons (.l .no aI) (.cons (.l .no ah) (.cons (.int .i64) (.cons (.x) (.cons (.x) (.cons (.x) (.cons (.x) (.cons (.x) (.cons (.x) (.cons (.x) (.cons (.x) (.cons (.x) (.cons (.x) (.cons (.x) (.cons (.l .no aI) (.cons (.int .i64) (.cons (.int .i64) (Ed 50)))))))))))))))))), ob := .nil, nx := 0, io := .nil }
def XW (x0 : List au) (x1 : List Int) (x2 : Int) (x14 : List au) (x15 : Int) (x16 : Int) : vY.T := ((x0, (x1, (x2, ((), ((), ((), ((), ((), ((), ((), ((), ((), ((), ((), (x14, (x15, (x16, xd 50))))))))))))))))), (), ())
def rE (x0 : List au) (x1 : List Int) (x2 : Int) (x14 : List au) (x15 : Int) (x16 : Int) : St := { tm := ([(.l .no aI x0), (.l .no ah x1), (.s (.int .i64 x2)), .x, .x, .x, .x, .x, .x, .x, .x, .x, .x, .x, (.l .no aI x14), (.s (.int .i64 x15)), (.s (.int .i64 x16))] ++ List.replicate 50 .x), ob := [], nx := 0, io := [] }
theorem VY (x0 : List au) (x1 : List Int) (x2 : Int) (x14 : List au) (x15 : Int) (x16 : Int) : vY.mk' (XW x0 x1 x2 x14 x15 x16) = (rE x0 x1 x2 x14 x15 x16) := by kernel_rfl
def XY (d : vY.T) (f : (List au) → (List Int) → Int → (List au) → Int → Int → Option aj) : Option aj := match d with | ((x0, (x1, (x2, (_, (_, (_, (_, (_, (_, (_, (_, (_, (_, (_, (x14, (x15, (x16, _))))))))))))))))), _, _) => f x0 x1 x2 x14 x15 x16
noncomputable def mZ (x0 : List au) (x1 : List Int) (x2 : Int) (x14 : List au) (x15 : Int) (x16 : Int) (pW : (List au) → (List Int) → Int → (List au) → Int → Int → Option aj) (k0 : Bool → Option aj) (k1 : Option aj) : Option aj := (bif (decide (x16 < x15)) then (bif ((decide ((0 : Int) ≤ x16)) && (decide (x16 < (((List.length x14) : Nat) : Int)))) then (bif (!(decide ((List.getD x14 (Int.toNat x16) (aI.dflt)).2.2.2 > x2))) then (k0 false) else (bif (aO x1) then (bif (!(dh x1 (List.getD x14 (Int.toNat x16) (aI.dflt)).1)) then (k0 false) else (bif (aO x1) then (bif (!(dh x1 (List.getD x14 (Int.toNat x16) (aI.dflt)).2.1)) then (k0 false) else (bif ((decide ((0 : Int) ≤ x16)) && (decide (x16 ≤ (((List.length x0) : Nat) : Int)))) then (DU x0 x1 x2 x14 x15 x16 (List.take (Int.toNat x16) x0) (((List.length (List.take (Int.toNat x16) x0)) : Nat) : Int) (0 : Int) (List.getD x14 (Int.toNat x16) (aI.dflt)).1 (List.getD x14 (Int.toNat x16) (aI.dflt)).2.1 (List.getD x14 (Int.toNat x16) (aI.dflt)).2.2.1 (List.getD x14 (Int.toNat x16) (aI.dflt)).2.2.2 (fun y0 y1 y2 y3 y4 y5 y6 => (k0 y3)) (fun y7 y8 y9 y10 y11 y12 => (pW y7 y8 y9 y10 y11 (IntKind.wrap .i64 (y12 + (1 : Int)))))) else none)) else none)) else none)) else none) else k1)
noncomputable def rF : Nat → (List au) → (List Int) → Int → (List au) → Int → Int → (Bool → Option aj) → (Option aj) → Option aj
 | 0, _, _, _, _, _, _, _, _ => none
 | m + 1, x0, x1, x2, x14, x15, x16, k0, k1 => mZ x0 x1 x2 x14 x15 x16 (fun x0 x1 x2 x14 x15 x16 => (rF m x0 x1 x2 x14 x15 x16 k0 k1)) k0 k1
noncomputable def DV (x0 : List au) (x1 : List Int) (x2 : Int) (x14 : List au) (x15 : Int) (x16 : Int) (k0 : Bool → Option aj) (k1 : Option aj) : Option aj := rF (List.length x0 + List.length x1 + x2.toNat + List.length x14 + x15.toNat + x16.toNat + 2) x0 x1 x2 x14 x15 x16 k0 k1
noncomputable def CX : fG := (fun (σ : St) (K : Ex → St → Option aj) => (match vY.un σ with | some d => XY d (fun x0 x1 x2 x14 x15 x16 => DV x0 x1 x2 x14 x15 x16 (fun x6 => (K .ret (yw x6))) (K (.ext 0) yx)) | none => none))
noncomputable abbrev jc : Env := En [(N.iY, true, IV), (N.lD, true, yJ), (N.xg, true, vP)] [] [(9, [0,1,2,8,14,15,16,41,42,43], [0,1,2,6,14,15,16], CW), (4, [0,1,2,14,15,16], [6], CX)] [] false 0 []
theorem VZ (m : Nat) (x0 : List au) (x1 : List Int) (x2 : Int) (x14 : List au) (x15 : Int) (x16 : Int) (x41 : List au) (Lu : Int) (x43 : Int) (b00 : Int) (b01 : Int) (b02 : Int) (aW : Int) (K : Ex → St → Option aj) : rounds (run jc (aA F.gI 9)) [0,1,2,8,14,15,16,41,42,43] [0,1,2,6,14,15,16] (m + 1) (rC x0 x1 x2 x14 x15 x16 x41 Lu x43 b00 b01 b02 aW) K = mY x0 x1 x2 x14 x15 x16 x41 Lu x43 b00 b01 b02 aW (fun x0 x1 x2 x14 x15 x16 x41 Lu x43 b00 b01 b02 aW => (rounds (run jc (aA F.gI 9)) [0,1,2,8,14,15,16,41,42,43] [0,1,2,6,14,15,16] m (rC x0 x1 x2 x14 x15 x16 x41 Lu x43 b00 b01 b02 aW) K)) (fun x0 x1 x2 x6 x14 x15 x16 => (K .ret (yt x0 x1 x2 x6 x14 x15 x16))) (fun x0 x1 x2 x14 x15 x16 => (K (.ext 2) (yu x0 x1 x2 x14 x15 x16))) := by kernel_rfl
theorem PL (K : Ex → St → Option aj) : ∀ m : Nat, (∀ (x0 : List au) (x1 : List Int) (x2 : Int) (x14 : List au) (x15 : Int) (x16 : Int) (x41 : List au) (Lu : Int) (x43 : Int) (b00 : Int) (b01 : Int) (b02 : Int) (aW : Int), rounds (run jc (aA F.gI 9)) [0,1,2,8,14,15,16,41,42,43] [0,1,2,6,14,15,16] m (rC x0 x1 x2 x14 x15 x16 x41 Lu x43 b00 b01 b02 aW) K = rD m x0 x1 x2 x14 x15 x16 x41 Lu x43 b00 b01 b02 aW (fun x0 x1 x2 x6 x14 x15 x16 => (K .ret (yt x0 x1 x2 x6 x14 x15 x16))) (fun x0 x1 x2 x14 x15 x16 => (K (.ext 2) (yu x0 x1 x2 x14 x15 x16))))
 | 0 => (fun _ _ _ _ _ _ _ _ _ _ _ _ _ => rfl)
 | m + 1 => (fun x0 x1 x2 x14 x15 x16 x41 Lu x43 b00 b01 b02 aW => (by rw [VZ, show (fun x0 x1 x2 x14 x15 x16 x41 Lu x43 b00 b01 b02 aW => (rounds (run jc (aA F.gI 9)) [0,1,2,8,14,15,16,41,42,43] [0,1,2,6,14,15,16] m (rC x0 x1 x2 x14 x15 x16 x41 Lu x43 b00 b01 b02 aW) K)) = (fun x0 x1 x2 x14 x15 x16 x41 Lu x43 b00 b01 b02 aW => (rD m x0 x1 x2 x14 x15 x16 x41 Lu x43 b00 b01 b02 aW (fun x0 x1 x2 x6 x14 x15 x16 => (K .ret (yt x0 x1 x2 x6 x14 x15 x16))) (fun x0 x1 x2 x14 x15 x16 => (K (.ext 2) (yu x0 x1 x2 x14 x15 x16))))) from funext fun x0 => funext fun x1 => funext fun x2 => funext fun x14 => funext fun x15 => funext fun x16 => funext fun x41 => funext fun Lu => funext fun x43 => funext fun b00 => funext fun b01 => funext fun b02 => funext fun aW => (PL K m) x0 x1 x2 x14 x15 x16 x41 Lu x43 b00 b01 b02 aW]; rfl))
theorem TT : dL jc (aA F.gI 9) := by
 refine dG (n := 9) (F := CW) (by kernel_rfl) rfl (li := [0,1,2,8,14,15,16,41,42,43]) (lo := [0,1,2,6,14,15,16]) rfl (fun σ K r hr => ?_)
 unfold CW at hr
 split at hr
 ·rename_i d hd
  rw [Ss.fF hd]
  exact ⟨_, ((congrArg (fun z => rounds (run jc (aA F.gI 9)) [0,1,2,8,14,15,16,41,42,43] [0,1,2,6,14,15,16] _ z K) (VX _ _ _ _ _ _ _ _ _ _ _ _ _)).trans ((PL K _) _ _ _ _ _ _ _ _ _ _ _ _ _)).trans hr⟩
 ·cases hr
theorem V3 (m : Nat) (x0 : List au) (x1 : List Int) (x2 : Int) (x14 : List au) (x15 : Int) (x16 : Int) (K : Ex → St → Option aj) : rounds (run jc (aA F.gI 4)) [0,1,2,14,15,16] [6] (m + 1) (rE x0 x1 x2 x14 x15 x16) K = mZ x0 x1 x2 x14 x15 x16 (fun x0 x1 x2 x14 x15 x16 => (rounds (run jc (aA F.gI 4)) [0,1,2,14,15,16] [6] m (rE x0 x1 x2 x14 x15 x16) K)) (fun x6 => (K .ret (yw x6))) (K (.ext 0) yx) := by kernel_rfl
theorem PN (K : Ex → St → Option aj) : ∀ m : Nat, (∀ (x0 : List au) (x1 : List Int) (x2 : Int) (x14 : List au) (x15 : Int) (x16 : Int), rounds (run jc (aA F.gI 4)) [0,1,2,14,15,16] [6] m (rE x0 x1 x2 x14 x15 x16) K = rF m x0 x1 x2 x14 x15 x16 (fun x6 => (K .ret (yw x6))) (K (.ext 0) yx))
 | 0 => (fun _ _ _ _ _ _ => rfl)
 | m + 1 => (fun x0 x1 x2 x14 x15 x16 => (by rw [V3, show (fun x0 x1 x2 x14 x15 x16 => (rounds (run jc (aA F.gI 4)) [0,1,2,14,15,16] [6] m (rE x0 x1 x2 x14 x15 x16) K)) = (fun x0 x1 x2 x14 x15 x16 => (rF m x0 x1 x2 x14 x15 x16 (fun x6 => (K .ret (yw x6))) (K (.ext 0) yx))) from funext fun x0 => funext fun x1 => funext fun x2 => funext fun x14 => funext fun x15 => funext fun x16 => (PN K m) x0 x1 x2 x14 x15 x16]; rfl))
theorem TU : dL jc (aA F.gI 4) := by
 refine dG (n := 4) (F := CX) (by kernel_rfl) rfl (li := [0,1,2,14,15,16]) (lo := [6]) rfl (fun σ K r hr => ?_)
 unfold CX at hr
 split at hr
 ·rename_i d hd
  rw [Ss.fF hd]
  exact ⟨_, ((congrArg (fun z => rounds (run jc (aA F.gI 4)) [0,1,2,14,15,16] [6] _ z K) (VY _ _ _ _ _ _)).trans ((PN K _) _ _ _ _ _ _)).trans hr⟩
 ·cases hr
noncomputable def Oc (l : List au) (t : List Int) (c : Int) (K : aj → Option aj) : Option aj := (bif (Nat.ble (List.length l) 1048576) then (bif (!(oV l)) then K ((.s (.bool false)), []) else (DV l t c l (((List.length l) : Nat) : Int) (0 : Int) (fun y13 => K ((.s (.bool y13)), [])) (K ((.s (.bool true)), [])))) else none)
theorem ag7 (l : List au) (t : List Int) (c : Int) (K : aj → Option aj) : dS jc true F.gI [.l .no aI l, .l .no ah t, .s (.int .i64 c)] K = Oc l t c K := by kernel_rfl
def Oe : Sm := bD [.l aI, .l ah, .i] (fun d => iR (.sl aI) d.1 && aO d.2.1) (fun d => (bl (ach d.2.1 d.2.2.1 d.1), []))
theorem ag8 (l : List au) (t : List Int) (c : Int) (h : (iR (.sl aI) l && aO t) = true) (K : aj → Option aj) : Oc l t c K = K (bl (ach t c l), []) := by
 obtain ⟨h1, h2⟩ := (Bool.and_eq_true _ _).mp h
 have hl := iw h1
 unfold Oc ach
 rw [Nat.ble_eq_true_of_le hl]
 cases oV l
 ·rfl
 have q9 : ∀ (i : Nat) (hi : i ≤ l.length) (y : au) (n : Int) (k0 : List au → List Int → Int → Bool → List au → Int → Int → Option aj) (k1 : List au → List Int → Int → List au → Int → Int → Option aj), DU l t c l n ((i : Nat) : Int) (List.take i l) (((List.length (List.take i l)) : Nat) : Int) 0 y.1 y.2.1 y.2.2.1 y.2.2.2 k0 k1 =
   bif GN i (fun k => !(((l.getD k fM).2.2.1 != y.2.2.1) && Hy (l.getD k fM) y)) then k1 l t c l n ((i : Nat) : Int) else k0 l t c false l n ((i : Nat) : Int) := by
  intro i hi y n k0 k1
  have hlen : (List.take i l).length = i := by rw [List.length_take]; omega
  rw [hlen]
  refine Eq.trans (zA (R := fun m j => rD m l t c l n ((i : Nat) : Int) (List.take i l) ((i : Nat) : Int) j y.1 y.2.1 y.2.2.1 y.2.2.2 k0 k1) (p := fun k => !(((l.getD k fM).2.2.1 != y.2.2.1) && Hy (l.getD k fM) y)) (n := i) (kt := k1 l t c l n ((i : Nat) : Int)) (kf := k0 l t c false l n ((i : Nat) : Int)) (fun m j hj => by
   show mY l t c l n ((i : Nat) : Int) (List.take i l) ((i : Nat) : Int) ((j : Nat) : Int) y.1 y.2.1 y.2.2.1 y.2.2.2 _ _ _ = _
   unfold mY Hy
   have eg : (List.take i l).getD j aI.dflt = l.getD j fM := by
    rw [getD_lt _ (by omega), getD_lt _ (by omega), List.getElem_take]
   rw [hlen, decide_eq_true (show ((j : Nat) : Int) < ((i : Nat) : Int) by omega), decide_eq_true (show (0 : Int) ≤ ((j : Nat) : Int) by omega), Int.toNat_natCast, bY (by omega), eg]
   generalize l.getD j fM = o
   rw [show (if y.1 > o.1 then y.1 else o.1) = max o.1 y.1 by split <;> omega, show (if y.2.1 < o.2.1 then y.2.1 else o.2.1) = min o.2.1 y.2.1 by split <;> omega]
   cases (o.2.2.1 != y.2.2.1) <;> cases decide (max o.1 y.1 < min o.2.1 y.2.1) <;> rfl) (fun m => by
   show mY l t c l n ((i : Nat) : Int) (List.take i l) ((i : Nat) : Int) ((i : Nat) : Int) y.1 y.2.1 y.2.2.1 y.2.2.2 _ _ _ = _
   unfold mY
   rw [decide_eq_false (show ¬ ((i : Nat) : Int) < ((i : Nat) : Int) by omega)]; rfl) _ 0 (by omega) (by omega)) ?_
  rw [Nat.sub_zero]; rfl
 have q4 : ∀ (k0 : Bool → Option aj) (k1 : Option aj), DV l t c l ((l.length : Nat) : Int) 0 k0 k1 = bif GN l.length (Ee t c l) then k1 else k0 false := by
  intro k0 k1
  refine Eq.trans (zA (R := fun m i => rF m l t c l ((l.length : Nat) : Int) i k0 k1) (p := Ee t c l) (n := l.length) (kt := k1) (kf := k0 false) (fun m i hi => by
   show mZ l t c l _ ((i : Nat) : Int) _ _ _ = _
   unfold mZ Ee
   rw [decide_eq_true (show ((i : Nat) : Int) < ((l.length : Nat) : Int) by omega), decide_eq_true (show (0 : Int) ≤ ((i : Nat) : Int) by omega), Int.toNat_natCast, show l.getD i aI.dflt = l.getD i fM from rfl, h2, decide_eq_true (show ((i : Nat) : Int) ≤ ((l.length : Nat) : Int) by omega), q9 i (by omega), bY (by omega)]
   cases decide ((l.getD i fM).2.2.2 > c)
   ·rfl
   cases dh t (l.getD i fM).1
   ·rfl
   cases dh t (l.getD i fM).2.1
   ·rfl
   cases GN i (fun k => !(((l.getD k fM).2.2.1 != (l.getD i fM).2.2.1) && Hy (l.getD k fM) (l.getD i fM))) <;> rfl) (fun m => by
   show mZ l t c l _ ((l.length : Nat) : Int) _ _ _ = _
   unfold mZ
   rw [decide_eq_false (show ¬ ((l.length : Nat) : Int) < ((l.length : Nat) : Int) by omega)]; rfl) _ 0 (by omega) (by omega)) ?_
  rw [Nat.sub_zero]; rfl
 rw [cond_true, Bool.not_true, cond_false, q4]
 cases GN l.length (Ee t c l) <;> rfl
theorem abz : aT prog I N.gI true Oe := lN (aU (bf XT (bf Ob (bf Ib bn))) (l := [(N.iY, true, IV), (N.lD, true, yJ), (N.xg, true, vP)]) (p := []) (ls := [(9, [0,1,2,8,14,15,16,41,42,43], [0,1,2,6,14,15,16], CW), (4, [0,1,2,14,15,16], [6], CX)]) (lend := []) (focus := false) (fuel := 0) (give := []) (fn := F.gI) (by kernel_rfl) (by kernel_rfl) (by kernel_rfl) (by kernel_rfl) (cs := [aA F.gI 4, aA F.gI 9]) (by kernel_rfl) (dw TU (dw TT aJ))) (aK fun d K h => (ag7 d.1 d.2.1 d.2.2.1 K).trans (ag8 d.1 d.2.1 d.2.2.1 h K))
end Go.Ev.Seat
end
section
namespace Go.Ev.Seat
open Go.RowKit
set_option maxRecDepth 100000
set_option linter.unusedVariables false
set_option linter.unusedSimpArgs false
noncomputable abbrev akF : Env := En [(N.ng, true, lW), (N.uY, true, Gi), (N.EL, true, NT), (N.gW, true, Gy), (N.gI, true, Oe)] [] [] [] false 0 []
noncomputable def V4 (d : eU) (K : aj → Option aj) : Option aj := (bif (aO d.1) then (bif (aS d.1) then (bif (iZ bT d) then (bif (zC d.1 d.2.1 d.2.2.1) then (bif (Iq d.2.2.2.1) then (bif ((iR (Cc.sl aF) d.2.2.2.2.1) && (aO d.2.1)) then (bif (wM d.2.1 d.2.2.2.2.1) then (bif ((iR (Cc.sl aI) d.2.2.2.2.2) && (aO d.2.1)) then K ((.s (.bool (ach d.2.1 d.2.2.2.1 d.2.2.2.2.2))), []) else none) else K ((.s (.bool false)), [])) else none) else K ((.s (.bool false)), [])) else K ((.s (.bool false)), [])) else none) else K ((.s (.bool false)), [])) else none)
theorem akG (d : eU) (K : aj → Option aj) : dS akF true F.RG [.a (bT.cells .no d)] K = V4 d K := by kernel_rfl
def acr : Sm := bD [.a bT] (fun d => iZ bT d.1) (fun d => (bl (um d.1), []))
theorem akH (d : eU) (h : (iZ bT d) = true) (K : aj → Option aj) : V4 d K = K (bl (um d), []) := by
 obtain ⟨h1, h2, h3, h4, h5⟩ := Eo h
 unfold V4 um
 rw [h, h1, h2, h4, h5]
 cases aS d.1 <;> cases zC d.1 d.2.1 d.2.2.1 <;> cases Iq d.2.2.2.1 <;> cases wM d.2.1 d.2.2.2.2.1 <;> rfl
theorem ag9 : aT prog I N.RG true acr := lN (aU (bf Aa (bf VF (bf abq (bf VT (bf abz bn))))) (l := [(N.ng, true, lW), (N.uY, true, Gi), (N.EL, true, NT), (N.gW, true, Gy), (N.gI, true, Oe)]) (p := []) (ls := []) (lend := []) (focus := false) (fuel := 0) (give := []) (fn := F.RG) (by kernel_rfl) (by kernel_rfl) (by kernel_rfl) (by kernel_rfl) (cs := []) (by kernel_rfl) aJ) (aK fun d K h => (akG d.1 K).trans (akH d.1 h K))
end Go.Ev.Seat
end
section
namespace Go.Ev.Seat
open Go.RowKit
set_option maxRecDepth 100000
set_option linter.unusedVariables false
set_option linter.unusedSimpArgs false
noncomputable abbrev akI : Env := En [(N.ng, true, lW)] [] [] [] false 0 []
noncomputable def V5 (t : List Int) (K : aj → Option aj) : Option aj := (bif (decide ((((List.length t) : Nat) : Int) ≤ (100 : Int))) then (bif (aO t) then K ((.s (.bool (aS t))), []) else none) else K ((.s (.bool false)), []))
theorem akJ (t : List Int) (K : aj → Option aj) : dS akI true F.Oy [.l .no ah t] K = V5 t K := by kernel_rfl
def V6 : Sm := bD [.l ah] (fun d => aO d.1) (fun d => (bl (decide (((d.1.length : Nat) : Int) ≤ 100) && aS d.1), []))
theorem akK (t : List Int) (h : (aO t) = true) (K : aj → Option aj) : V5 t K = K (bl (decide (((t.length : Nat) : Int) ≤ 100) && aS t), []) := by
 unfold V5
 rw [h]
 cases decide (((t.length : Nat) : Int) ≤ 100) <;> rfl
theorem aha : aT prog I N.Oy true V6 := lN (aU (bf Aa bn) (l := [(N.ng, true, lW)]) (p := []) (ls := []) (lend := []) (focus := false) (fuel := 0) (give := []) (fn := F.Oy) (by kernel_rfl) (by kernel_rfl) (by kernel_rfl) (by kernel_rfl) (cs := []) (by kernel_rfl) aJ) (aK fun d K h => (akJ d.1 K).trans (akK d.1 h K))
end Go.Ev.Seat
end
section
namespace Go.Ev.Seat
open Go.RowKit
set_option maxRecDepth 100000
set_option linter.unusedVariables false
set_option linter.unusedSimpArgs false
noncomputable abbrev aiE : Env := En [(N.i_in, true, mF)] [] [] [] false 0 []
noncomputable def aai (n : Int) (K : aj → Option aj) : Option aj := K ((.s (.bool ((decide ((0 : Int) ≤ n)) && (decide (n ≤ (65535 : Int)))))), [])
theorem aiF (n : Int) (K : aj → Option aj) : dS aiE true F.Jf [.s (.int .i64 n)] K = aai n K := by kernel_rfl
def QX : Sm := bD [.i] (fun d => true) (fun d => (bl (aG d.1), []))
theorem aiG (n : Int) (K : aj → Option aj) : aai n K = K (bl (aG n), []) := rfl
theorem aey : aT prog I N.Jf true QX := lN (aU (bf uM bn) (l := [(N.i_in, true, mF)]) (p := []) (ls := []) (lend := []) (focus := false) (fuel := 0) (give := []) (fn := F.Jf) (by kernel_rfl) (by kernel_rfl) (by kernel_rfl) (by kernel_rfl) (cs := []) (by kernel_rfl) aJ) (aK fun d K h => (aiF d.1 K).trans (aiG d.1 K))
end Go.Ev.Seat
end
section
namespace Go.Ev.Seat
open Go.RowKit
set_option maxRecDepth 100000
set_option linter.unusedVariables false
set_option linter.unusedSimpArgs false
noncomputable abbrev XZ : Env := En [] [] [] [] false 0 []
noncomputable def DW (k : Int) (K : aj → Option aj) : Option aj := (bif (k == (3 : Int)) then (bif (k == (3 : Int)) then K ((.s (.int .i64 (1 : Int))), []) else (bif (k == (4 : Int)) then (bif (k == (4 : Int)) then K ((.s (.int .i64 (2 : Int))), []) else (bif (k == (12 : Int)) then (bif (k == (12 : Int)) then K ((.s (.int .i64 (3 : Int))), []) else K ((.s (.int .i64 (0 : Int))), [])) else (bif (k == (13 : Int)) then K ((.s (.int .i64 (3 : Int))), []) else K ((.s (.int .i64 (0 : Int))), [])))) else (bif (k == (5 : Int)) then (bif (k == (5 : Int)) then K ((.s (.int .i64 (2 : Int))), []) else (bif (k == (12 : Int)) then (bif (k == (12 : Int)) then K ((.s (.int .i64 (3 : Int))), []) else K ((.s (.int .i64 (0 : Int))), [])) else (bif (k == (13 : Int)) then K ((.s (.int .i64 (3 : Int))), []) else K ((.s (.int .i64 (0 : Int))), [])))) else (bif (k == (6 : Int)) then (bif (k == (6 : Int)) then K ((.s (.int .i64 (2 : Int))), []) else (bif (k == (12 : Int)) then (bif (k == (12 : Int)) then K ((.s (.int .i64 (3 : Int))), []) else K ((.s (.int .i64 (0 : Int))), [])) else (bif (k == (13 : Int)) then K ((.s (.int .i64 (3 : Int))), []) else K ((.s (.int .i64 (0 : Int))), [])))) else (bif (k == (10 : Int)) then (bif (k == (10 : Int)) then K ((.s (.int .i64 (2 : Int))), []) else (bif (k == (12 : Int)) then (bif (k == (12 : Int)) then K ((.s (.int .i64 (3 : Int))), []) else K ((.s (.int .i64 (0 : Int))), [])) else (bif (k == (13 : Int)) then K ((.s (.int .i64 (3 : Int))), []) else K ((.s (.int .i64 (0 : Int))), [])))) else (bif (k == (11 : Int)) then (bif (k == (11 : Int)) then K ((.s (.int .i64 (2 : Int))), []) else (bif (k == (12 : Int)) then (bif (k == (12 : Int)) then K ((.s (.int .i64 (3 : Int))), []) else K ((.s (.int .i64 (0 : Int))), [])) else (bif (k == (13 : Int)) then K ((.s (.int .i64 (3 : Int))), []) else K ((.s (.int .i64 (0 : Int))), [])))) else (bif (k == (14 : Int)) then K ((.s (.int .i64 (2 : Int))), []) else (bif (k == (12 : Int)) then (bif (k == (12 : Int)) then K ((.s (.int .i64 (3 : Int))), []) else K ((.s (.int .i64 (0 : Int))), [])) else (bif (k == (13 : Int)) then K ((.s (.int .i64 (3 : Int))), []) else K ((.s (.int .i64 (0 : Int))), [])))))))))) else (bif (k == (7 : Int)) then (bif (k == (7 : Int)) then K ((.s (.int .i64 (1 : Int))), []) else (bif (k == (4 : Int)) then (bif (k == (4 : Int)) then K ((.s (.int .i64 (2 : Int))), []) else (bif (k == (12 : Int)) then (bif (k == (12 : Int)) then K ((.s (.int .i64 (3 : Int))), []) else K ((.s (.int .i64 (0 : Int))), [])) else (bif (k == (13 : Int)) then K ((.s (.int .i64 (3 : Int))), []) else K ((.s (.int .i64 (0 : Int))), [])))) else (bif (k == (5 : Int)) then (bif (k == (5 : Int)) then K ((.s (.int .i64 (2 : Int))), []) else (bif (k == (12 : Int)) then (bif (k == (12 : Int)) then K ((.s (.int .i64 (3 : Int))), []) else K ((.s (.int .i64 (0 : Int))), [])) else (bif (k == (13 : Int)) then K ((.s (.int .i64 (3 : Int))), []) else K ((.s (.int .i64 (0 : Int))), [])))) else (bif (k == (6 : Int)) then (bif (k == (6 : Int)) then K ((.s (.int .i64 (2 : Int))), []) else (bif (k == (12 : Int)) then (bif (k == (12 : Int)) then K ((.s (.int .i64 (3 : Int))), []) else K ((.s (.int .i64 (0 : Int))), [])) else (bif (k == (13 : Int)) then K ((.s (.int .i64 (3 : Int))), []) else K ((.s (.int .i64 (0 : Int))), [])))) else (bif (k == (10 : Int)) then (bif (k == (10 : Int)) then K ((.s (.int .i64 (2 : Int))), []) else (bif (k == (12 : Int)) then (bif (k == (12 : Int)) then K ((.s (.int .i64 (3 : Int))), []) else K ((.s (.int .i64 (0 : Int))), [])) else (bif (k == (13 : Int)) then K ((.s (.int .i64 (3 : Int))), []) else K ((.s (.int .i64 (0 : Int))), [])))) else (bif (k == (11 : Int)) then (bif (k == (11 : Int)) then K ((.s (.int .i64 (2 : Int))), []) else (bif (k == (12 : Int)) then (bif (k == (12 : Int)) then K ((.s (.int .i64 (3 : Int))), []) else K ((.s (.int .i64 (0 : Int))), [])) else (bif (k == (13 : Int)) then K ((.s (.int .i64 (3 : Int))), []) else K ((.s (.int .i64 (0 : Int))), [])))) else (bif (k == (14 : Int)) then K ((.s (.int .i64 (2 : Int))), []) else (bif (k == (12 : Int)) then (bif (k == (12 : Int)) then K ((.s (.int .i64 (3 : Int))), []) else K ((.s (.int .i64 (0 : Int))), [])) else (bif (k == (13 : Int)) then K ((.s (.int .i64 (3 : Int))), []) else K ((.s (.int .i64 (0 : Int))), [])))))))))) else (bif (k == (8 : Int)) then (bif (k == (8 : Int)) then K ((.s (.int .i64 (1 : Int))), []) else (bif (k == (4 : Int)) then (bif (k == (4 : Int)) then K ((.s (.int .i64 (2 : Int))), []) else (bif (k == (12 : Int)) then (bif (k == (12 : Int)) then K ((.s (.int .i64 (3 : Int))), []) else K ((.s (.int .i64 (0 : Int))), [])) else (bif (k == (13 : Int)) then K ((.s (.int .i64 (3 : Int))), []) else K ((.s (.int .i64 (0 : Int))), [])))) else (bif (k == (5 : Int)) then (bif (k == (5 : Int)) then K ((.s (.int .i64 (2 : Int))), []) else (bif (k == (12 : Int)) then (bif (k == (12 : Int)) then K ((.s (.int .i64 (3 : Int))), []) else K ((.s (.int .i64 (0 : Int))), [])) else (bif (k == (13 : Int)) then K ((.s (.int .i64 (3 : Int))), []) else K ((.s (.int .i64 (0 : Int))), [])))) else (bif (k == (6 : Int)) then (bif (k == (6 : Int)) then K ((.s (.int .i64 (2 : Int))), []) else (bif (k == (12 : Int)) then (bif (k == (12 : Int)) then K ((.s (.int .i64 (3 : Int))), []) else K ((.s (.int .i64 (0 : Int))), [])) else (bif (k == (13 : Int)) then K ((.s (.int .i64 (3 : Int))), []) else K ((.s (.int .i64 (0 : Int))), [])))) else (bif (k == (10 : Int)) then (bif (k == (10 : Int)) then K ((.s (.int .i64 (2 : Int))), []) else (bif (k == (12 : Int)) then (bif (k == (12 : Int)) then K ((.s (.int .i64 (3 : Int))), []) else K ((.s (.int .i64 (0 : Int))), [])) else (bif (k == (13 : Int)) then K ((.s (.int .i64 (3 : Int))), []) else K ((.s (.int .i64 (0 : Int))), [])))) else (bif (k == (11 : Int)) then (bif (k == (11 : Int)) then K ((.s (.int .i64 (2 : Int))), []) else (bif (k == (12 : Int)) then (bif (k == (12 : Int)) then K ((.s (.int .i64 (3 : Int))), []) else K ((.s (.int .i64 (0 : Int))), [])) else (bif (k == (13 : Int)) then K ((.s (.int .i64 (3 : Int))), []) else K ((.s (.int .i64 (0 : Int))), [])))) else (bif (k == (14 : Int)) then K ((.s (.int .i64 (2 : Int))), []) else (bif (k == (12 : Int)) then (bif (k == (12 : Int)) then K ((.s (.int .i64 (3 : Int))), []) else K ((.s (.int .i64 (0 : Int))), [])) else (bif (k == (13 : Int)) then K ((.s (.int .i64 (3 : Int))), []) else K ((.s (.int .i64 (0 : Int))), [])))))))))) else (bif (k == (9 : Int)) then K ((.s (.int .i64 (1 : Int))), []) else (bif (k == (4 : Int)) then (bif (k == (4 : Int)) then K ((.s (.int .i64 (2 : Int))), []) else (bif (k == (12 : Int)) then (bif (k == (12 : Int)) then K ((.s (.int .i64 (3 : Int))), []) else K ((.s (.int .i64 (0 : Int))), [])) else (bif (k == (13 : Int)) then K ((.s (.int .i64 (3 : Int))), []) else K ((.s (.int .i64 (0 : Int))), [])))) else (bif (k == (5 : Int)) then (bif (k == (5 : Int)) then K ((.s (.int .i64 (2 : Int))), []) else (bif (k == (12 : Int)) then (bif (k == (12 : Int)) then K ((.s (.int .i64 (3 : Int))), []) else K ((.s (.int .i64 (0 : Int))), [])) else (bif (k == (13 : Int)) then K ((.s (.int .i64 (3 : Int))), []) else K ((.s (.int .i64 (0 : Int))), [])))) else (bif (k == (6 : Int)) then (bif (k == (6 : Int)) then K ((.s (.int .i64 (2 : Int))), []) else (bif (k == (12 : Int)) then (bif (k == (12 : Int)) then K ((.s (.int .i64 (3 : Int))), []) else K ((.s (.int .i64 (0 : Int))), [])) else (bif (k == (13 : Int)) then K ((.s (.int .i64 (3 : Int))), []) else K ((.s (.int .i64 (0 : Int))), [])))) else (bif (k == (10 : Int)) then (bif (k == (10 : Int)) then K ((.s (.int .i64 (2 : Int))), []) else (bif (k == (12 : Int)) then (bif (k == (12 : Int)) then K ((.s (.int .i64 (3 : Int))), []) else K ((.s (.int .i64 (0 : Int))), [])) else (bif (k == (13 : Int)) then K ((.s (.int .i64 (3 : Int))), []) else K ((.s (.int .i64 (0 : Int))), [])))) else (bif (k == (11 : Int)) then (bif (k == (11 : Int)) then K ((.s (.int .i64 (2 : Int))), []) else (bif (k == (12 : Int)) then (bif (k == (12 : Int)) then K ((.s (.int .i64 (3 : Int))), []) else K ((.s (.int .i64 (0 : Int))), [])) else (bif (k == (13 : Int)) then K ((.s (.int .i64 (3 : Int))), []) else K ((.s (.int .i64 (0 : Int))), [])))) else (bif (k == (14 : Int)) then K ((.s (.int .i64 (2 : Int))), []) else (bif (k == (12 : Int)) then (bif (k == (12 : Int)) then K ((.s (.int .i64 (3 : Int))), []) else K ((.s (.int .i64 (0 : Int))), [])) else (bif (k == (13 : Int)) then K ((.s (.int .i64 (3 : Int))), []) else K ((.s (.int .i64 (0 : Int))), [])))))))))))))
theorem X0 (k : Int) (K : aj → Option aj) : dS XZ true F.rO [.s (.int .i64 k)] K = DW k K := by kernel_rfl
def DX : Sm := bD [.i] (fun d => true) (fun d => (.s (.int .i64 (Hw d.1)), []))
theorem X3 (k : Int) (K : aj → Option aj) : DW k K = K (.s (.int .i64 (Hw k)), []) := by
 unfold DW
 by_cases h3 : k = 3
 ·subst h3; rfl
 by_cases h7 : k = 7
 ·subst h7; rfl
 by_cases h8 : k = 8
 ·subst h8; rfl
 by_cases h9 : k = 9
 ·subst h9; rfl
 by_cases h4 : k = 4
 ·subst h4; rfl
 by_cases h5 : k = 5
 ·subst h5; rfl
 by_cases h6 : k = 6
 ·subst h6; rfl
 by_cases h10 : k = 10
 ·subst h10; rfl
 by_cases h11 : k = 11
 ·subst h11; rfl
 by_cases h14 : k = 14
 ·subst h14; rfl
 by_cases h12 : k = 12
 ·subst h12; rfl
 by_cases h13 : k = 13
 ·subst h13; rfl
 have e : ∀ c, k ≠ c → (k == c) = false := fun c h => by simpa using h
 unfold Hw
 simp only [e _ h3, e _ h7, e _ h8, e _ h9, e _ h4, e _ h5, e _ h6, e _ h10, e _ h11, e _ h14, e _ h12, e _ h13, cond_false, Bool.or_false]
theorem TV : aT prog I N.rO true DX := lN (aU bn (l := []) (p := []) (ls := []) (lend := []) (focus := false) (fuel := 0) (give := []) (fn := F.rO) (by kernel_rfl) (by kernel_rfl) (by kernel_rfl) (by kernel_rfl) (cs := []) (by kernel_rfl) aJ) (aK fun d K h => (X0 d.1 K).trans (X3 d.1 K))
end Go.Ev.Seat
end
section
namespace Go.Ev.Seat
open Go.RowKit
set_option maxRecDepth 100000
set_option linter.unusedVariables false
set_option linter.unusedSimpArgs false
def CY (x2 : Bool) (b00 : Int) (b01 : Int) (b02 : Int) (aW : Int) (aX : Int) (aY : List Int) : St := { tm := ([.x, (.pb 0 0), (.s (.bool x2))] ++ List.replicate 62 .x), ob := [(0, (.box [(.s (.int .i64 b00)), (.s (.int .i64 b01)), (.s (.int .i64 b02)), (.s (.int .i64 aW)), (.s (.int .i64 aX)), (.l .no ah aY)]))], nx := 1, io := [] }
def CZ (b00 : Int) (b01 : Int) (b02 : Int) (aW : Int) (aX : Int) (aY : List Int) : St := { tm := ([.x, (.pb 0 0)] ++ List.replicate 63 .x), ob := [(0, (.box [(.s (.int .i64 b00)), (.s (.int .i64 b01)), (.s (.int .i64 b02)), (.s (.int .i64 aW)), (.s (.int .i64 aX)), (.l .no ah aY)]))], nx := 1, io := [] }
def Am : Ss := { tm := (.cons (.x) (.cons (.pb 0 0) (.cons (.x) (.cons (.x) (.cons (.x) (.cons (.x) (.cons (.x) (.cons (.x) (.cons (.x) (.cons (.x) (.cons (.x) (.cons (.x) (.cons (.x) (.cons (.x) (.cons (.x) (.cons (.x) (.cons (.x) (.cons (.x) (.cons (.x) (.cons (.x) (.cons (.x) (.cons (.x) (.cons (.x) (.cons (.x) (.cons (.x) (.cons (.x) (.cons (.x) (.cons (.w 1) (.cons (.int .i64) (.cons (.int .i64) (Ed 35))))))))))))))))))))))))))))))), ob := (.box (.cons (.int .i64) (.cons (.int .i64) (.cons (.int .i64) (.cons (.int .i64) (.cons (.int .i64) (.cons (.l .no ah) .nil)))))) (.arr true true FN .nil)), nx := 2, io := .nil }
def abA (x28 : Int) (x29 : Int) (b00 : Int) (b01 : Int) (b02 : Int) (aW : Int) (aX : Int) (aY : List Int) (o1 : List Int) : Am.T := (((), ((), ((), ((), ((), ((), ((), ((), ((), ((), ((), ((), ((), ((), ((), ((), ((), ((), ((), ((), ((), ((), ((), ((), ((), ((), ((), ((), (x28, (x29, xd 35)))))))))))))))))))))))))))))), ((b00, (b01, (b02, (aW, (aX, (aY, ())))))), (o1, ())), ())
def wV (x28 : Int) (x29 : Int) (b00 : Int) (b01 : Int) (b02 : Int) (aW : Int) (aX : Int) (aY : List Int) (o1 : List Int) : St := { tm := ([.x, (.pb 0 0), .x, .x, .x, .x, .x, .x, .x, .x, .x, .x, .x, .x, .x, .x, .x, .x, .x, .x, .x, .x, .x, .x, .x, .x, .x, (.w 1), (.s (.int .i64 x28)), (.s (.int .i64 x29))] ++ List.replicate 35 .x), ob := [(0, (.box [(.s (.int .i64 b00)), (.s (.int .i64 b01)), (.s (.int .i64 b02)), (.s (.int .i64 aW)), (.s (.int .i64 aX)), (.l .no ah aY)])), (1, (.arr true true FN o1))], nx := 2, io := [] }
theorem aaj (x28 : Int) (x29 : Int) (b00 : Int) (b01 : Int) (b02 : Int) (aW : Int) (aX : Int) (aY : List Int) (o1 : List Int) : Am.mk' (abA x28 x29 b00 b01 b02 aW aX aY o1) = (wV x28 x29 b00 b01 b02 aW aX aY o1) := by kernel_rfl
def abB (d : Am.T) (f : Int → Int → Int → Int → Int → Int → Int → (List Int) → (List Int) → Option aj) : Option aj := match d with | ((_, (_, (_, (_, (_, (_, (_, (_, (_, (_, (_, (_, (_, (_, (_, (_, (_, (_, (_, (_, (_, (_, (_, (_, (_, (_, (_, (_, (x28, (x29, _)))))))))))))))))))))))))))))), ((b00, (b01, (b02, (aW, (aX, (aY, _)))))), (o1, _)), _) => f x28 x29 b00 b01 b02 aW aX aY o1
noncomputable def PO (x28 : Int) (x29 : Int) (b00 : Int) (b01 : Int) (b02 : Int) (aW : Int) (aX : Int) (aY : List Int) (o1 : List Int) (pW : Int → Int → Int → Int → Int → Int → Int → (List Int) → (List Int) → Option aj) (k0 : Bool → Int → Int → Int → Int → Int → (List Int) → Option aj) (k1 : Int → Int → Int → Int → Int → (List Int) → Option aj) : Option aj := (bif (decide (x29 < x28)) then (bif ((decide ((0 : Int) ≤ x29)) && (decide (x29 < (((List.length o1) : Nat) : Int)))) then (bif (!(aG (List.getD o1 (Int.toNat x29) (0 : Int)))) then (k0 false b00 b01 b02 aW aX aY) else (bif (decide (x29 ≥ (Hw b00))) then (bif ((List.getD o1 (Int.toNat x29) (0 : Int)) != (0 : Int)) then (k0 false b00 b01 b02 aW aX aY) else (pW x28 (IntKind.wrap .i64 (x29 + (1 : Int))) b00 b01 b02 aW aX aY o1)) else (pW x28 (IntKind.wrap .i64 (x29 + (1 : Int))) b00 b01 b02 aW aX aY o1))) else none) else (k1 b00 b01 b02 aW aX aY))
noncomputable def wW : Nat → Int → Int → Int → Int → Int → Int → Int → (List Int) → (List Int) → (Bool → Int → Int → Int → Int → Int → (List Int) → Option aj) → (Int → Int → Int → Int → Int → (List Int) → Option aj) → Option aj
 | 0, _, _, _, _, _, _, _, _, _, _, _ => none
 | m + 1, x28, x29, b00, b01, b02, aW, aX, aY, o1, k0, k1 => PO x28 x29 b00 b01 b02 aW aX aY o1 (fun x28 x29 b00 b01 b02 aW aX aY o1 => (wW m x28 x29 b00 b01 b02 aW aX aY o1 k0 k1)) k0 k1
noncomputable def IW (x28 : Int) (x29 : Int) (b00 : Int) (b01 : Int) (b02 : Int) (aW : Int) (aX : Int) (aY : List Int) (o1 : List Int) (k0 : Bool → Int → Int → Int → Int → Int → (List Int) → Option aj) (k1 : Int → Int → Int → Int → Int → (List Int) → Option aj) : Option aj := wW (x28.toNat + x29.toNat + b00.toNat + b01.toNat + b02.toNat + aW.toNat + aX.toNat + List.length aY + List.length o1 + 2) x28 x29 b00 b01 b02 aW aX aY o1 k0 k1
noncomputable def Ie : fG := (fun (σ : St) (K : Ex → St → Option aj) => (match Am.un σ with | some d => abB d (fun x28 x29 b00 b01 b02 aW aX aY o1 => IW x28 x29 b00 b01 b02 aW aX aY o1 (fun x2 b00 b01 b02 aW aX aY => (K .ret (CY x2 b00 b01 b02 aW aX aY))) (fun b00 b01 b02 aW aX aY => (K (.ext 0) (CZ b00 b01 b02 aW aX aY)))) | none => none))
noncomputable abbrev BR : Env := En [(N.i_in, true, mF), (N.jB, true, jZ), (N.Oy, true, V6), (N.Jf, true, QX), (N.rO, true, DX)] [] [(4, [1,27,28,29], [1,2], Ie)] [] false 0 []
theorem aak (m : Nat) (x28 : Int) (x29 : Int) (b00 : Int) (b01 : Int) (b02 : Int) (aW : Int) (aX : Int) (aY : List Int) (o1 : List Int) (K : Ex → St → Option aj) : rounds (run BR (aA F.wY 4)) [1,27,28,29] [1,2] (m + 1) (wV x28 x29 b00 b01 b02 aW aX aY o1) K = PO x28 x29 b00 b01 b02 aW aX aY o1 (fun x28 x29 b00 b01 b02 aW aX aY o1 => (rounds (run BR (aA F.wY 4)) [1,27,28,29] [1,2] m (wV x28 x29 b00 b01 b02 aW aX aY o1) K)) (fun x2 b00 b01 b02 aW aX aY => (K .ret (CY x2 b00 b01 b02 aW aX aY))) (fun b00 b01 b02 aW aX aY => (K (.ext 0) (CZ b00 b01 b02 aW aX aY))) := by kernel_rfl
theorem WY (K : Ex → St → Option aj) : ∀ m : Nat, (∀ (x28 : Int) (x29 : Int) (b00 : Int) (b01 : Int) (b02 : Int) (aW : Int) (aX : Int) (aY : List Int) (o1 : List Int), rounds (run BR (aA F.wY 4)) [1,27,28,29] [1,2] m (wV x28 x29 b00 b01 b02 aW aX aY o1) K = wW m x28 x29 b00 b01 b02 aW aX aY o1 (fun x2 b00 b01 b02 aW aX aY => (K .ret (CY x2 b00 b01 b02 aW aX aY))) (fun b00 b01 b02 aW aX aY => (K (.ext 0) (CZ b00 b01 b02 aW aX aY))))
 | 0 => (fun _ _ _ _ _ _ _ _ _ => rfl)
 | m + 1 => (fun x28 x29 b00 b01 b02 aW aX aY o1 => (by rw [aak, show (fun x28 x29 b00 b01 b02 aW aX aY o1 => (rounds (run BR (aA F.wY 4)) [1,27,28,29] [1,2] m (wV x28 x29 b00 b01 b02 aW aX aY o1) K)) = (fun x28 x29 b00 b01 b02 aW aX aY o1 => (wW m x28 x29 b00 b01 b02 aW aX aY o1 (fun x2 b00 b01 b02 aW aX aY => (K .ret (CY x2 b00 b01 b02 aW aX aY))) (fun b00 b01 b02 aW aX aY => (K (.ext 0) (CZ b00 b01 b02 aW aX aY))))) from funext fun x28 => funext fun x29 => funext fun b00 => funext fun b01 => funext fun b02 => funext fun aW => funext fun aX => funext fun aY => funext fun o1 => (WY K m) x28 x29 b00 b01 b02 aW aX aY o1]; rfl))
theorem X4 : dL BR (aA F.wY 4) := by
 refine dG (n := 4) (F := Ie) (by kernel_rfl) rfl (li := [1,27,28,29]) (lo := [1,2]) rfl (fun σ K r hr => ?_)
 unfold Ie at hr
 split at hr
 ·rename_i d hd
  rw [Ss.fF hd]
  exact ⟨_, ((congrArg (fun z => rounds (run BR (aA F.wY 4)) [1,27,28,29] [1,2] _ z K) (aaj _ _ _ _ _ _ _ _ _)).trans ((WY K _) _ _ _ _ _ _ _ _ _)).trans hr⟩
 ·cases hr
noncomputable def V7 (r : oO) (K : aj → Option aj) : Option aj := (bif (!((decide ((1 : Int) ≤ r.1)) && (decide (r.1 ≤ (16 : Int))))) then K ((.s (.bool false)), []) else (bif (!((decide ((1 : Int) ≤ r.2.1)) && (decide (r.2.1 ≤ (8 : Int))))) then K ((.s (.bool false)), []) else (bif (aO r.2.2.2.2.2) then (bif (!((decide ((((List.length r.2.2.2.2.2) : Nat) : Int) ≤ (100 : Int))) && (aS r.2.2.2.2.2))) then K ((.s (.bool false)), []) else (IW (((List.length (r.2.2.1 :: (r.2.2.2.1 :: (r.2.2.2.2.1 :: ([] : List Int))))) : Nat) : Int) (0 : Int) r.1 r.2.1 r.2.2.1 r.2.2.2.1 r.2.2.2.2.1 r.2.2.2.2.2 (r.2.2.1 :: (r.2.2.2.1 :: (r.2.2.2.2.1 :: ([] : List Int)))) (fun y0 y1 y2 y3 y4 y5 y6 => K ((.s (.bool y0)), [])) (fun y7 y8 y9 y10 y11 y12 => (bif (y7 == (3 : Int)) then (bif (y7 == (3 : Int)) then K ((.s (.bool true)), []) else (bif (y7 == (7 : Int)) then (bif (y7 == (7 : Int)) then K ((.s (.bool (decide ((((List.length y12) : Nat) : Int) > (0 : Int))))), []) else K ((.s (.bool ((((List.length y12) : Nat) : Int) == (0 : Int)))), [])) else (bif (y7 == (8 : Int)) then K ((.s (.bool (decide ((((List.length y12) : Nat) : Int) > (0 : Int))))), []) else K ((.s (.bool ((((List.length y12) : Nat) : Int) == (0 : Int)))), [])))) else (bif (y7 == (5 : Int)) then K ((.s (.bool true)), []) else (bif (y7 == (7 : Int)) then (bif (y7 == (7 : Int)) then K ((.s (.bool (decide ((((List.length y12) : Nat) : Int) > (0 : Int))))), []) else K ((.s (.bool ((((List.length y12) : Nat) : Int) == (0 : Int)))), [])) else (bif (y7 == (8 : Int)) then K ((.s (.bool (decide ((((List.length y12) : Nat) : Int) > (0 : Int))))), []) else K ((.s (.bool ((((List.length y12) : Nat) : Int) == (0 : Int)))), [])))))))) else none)))
theorem akL (r : oO) (K : aj → Option aj) : dS BR true F.wY [.a (dJ.cells .no r)] K = V7 r K := by kernel_rfl
def acs : Sm := bD [.a dJ] (fun d => aO d.1.2.2.2.2.2) (fun d => (bl (dH d.1), []))
theorem akM (r : oO) (h : (aO r.2.2.2.2.2) = true) (K : aj → Option aj) : V7 r K = K (bl (dH r), []) := by
  obtain ⟨k, s, a, b, d, t⟩ := r
  unfold V7 dH
  simp only [h]
  cases hk : (decide (1 ≤ k) && decide (k ≤ 16)) with
  | false => rfl
  | true =>
  cases hs : (decide (1 ≤ s) && decide (s ≤ 8)) with
  | false => rfl
  | true =>
  cases hp : (decide (((t.length : Nat) : Int) ≤ 100) && aS t) with
  | false => rfl
  | true =>
  rw [Bool.and_eq_true, decide_eq_true_iff, decide_eq_true_iff] at hk
  have hk := kinds hk.1 hk.2
  unfold IW
  generalize hF : (_ + 2 : Nat) = F
  obtain ⟨m, rfl⟩ : ∃ m, F = m + 4 := ⟨F - 4, by simp only [List.length_cons, List.length_nil] at hF; omega⟩
  have q : ∀ (k0 : Bool → Int → Int → Int → Int → Int → List Int → Option aj) (k1 : Int → Int → Int → Int → Int → List Int → Option aj), wW (m + 4) 3 0 k s a b d t [a, b, d] k0 k1 =
      (bif !aG a then k0 false k s a b d t else bif decide ((0 : Int) ≥ Hw k) then (bif a != 0 then k0 false k s a b d t else
       (bif !aG b then k0 false k s a b d t else bif decide ((1 : Int) ≥ Hw k) then (bif b != 0 then k0 false k s a b d t else
        (bif !aG d then k0 false k s a b d t else bif decide ((2 : Int) ≥ Hw k) then (bif d != 0 then k0 false k s a b d t else k1 k s a b d t) else k1 k s a b d t)) else
        (bif !aG d then k0 false k s a b d t else bif decide ((2 : Int) ≥ Hw k) then (bif d != 0 then k0 false k s a b d t else k1 k s a b d t) else k1 k s a b d t))) else
       (bif !aG b then k0 false k s a b d t else bif decide ((1 : Int) ≥ Hw k) then (bif b != 0 then k0 false k s a b d t else
        (bif !aG d then k0 false k s a b d t else bif decide ((2 : Int) ≥ Hw k) then (bif d != 0 then k0 false k s a b d t else k1 k s a b d t) else k1 k s a b d t)) else
        (bif !aG d then k0 false k s a b d t else bif decide ((2 : Int) ≥ Hw k) then (bif d != 0 then k0 false k s a b d t else k1 k s a b d t) else k1 k s a b d t))) := fun _ _ => rfl
  simp only [Bool.not_true, cond_true, cond_false]
  refine Eq.trans (q _ _) ?_
  have e0 : (((t.length : Nat) : Int) == 0) = !decide (((t.length : Nat) : Int) > 0) := by
    by_cases h0 : ((t.length : Nat) : Int) > 0
    · rw [decide_eq_true h0]; exact beq_false_of_ne (by omega)
    · rw [decide_eq_false h0]; exact beq_iff_eq.2 (by omega)
  simp only [bne, e0, ap0]
  refine congrArg (fun q => K ((.s (.bool q)), [])) ?_
  unfold jI
  generalize decide (((t.length : Nat) : Int) > 0) = n
  generalize (a == 0) = x
  generalize (b == 0) = y
  generalize (d == 0) = z
  generalize aG a = u
  generalize aG b = v
  generalize aG d = w
  clear hF q e0 hs hp h
  rcases hk with rfl | rfl | rfl | rfl | rfl | rfl | rfl | rfl | rfl | rfl | rfl | rfl | rfl | rfl | rfl | rfl <;> cases u <;> first | rfl | (cases x <;> first | rfl | (cases v <;> first | rfl | (cases y <;> first | rfl | (cases w <;> first | rfl | (cases z <;> first | rfl | (cases n <;> rfl))))))
theorem ahb : aT prog I N.wY true acs := lN (aU (bf uM (bf xX (bf aha (bf aey (bf TV bn))))) (l := [(N.i_in, true, mF), (N.jB, true, jZ), (N.Oy, true, V6), (N.Jf, true, QX), (N.rO, true, DX)]) (p := []) (ls := [(4, [1,27,28,29], [1,2], Ie)]) (lend := []) (focus := false) (fuel := 0) (give := []) (fn := F.wY) (by kernel_rfl) (by kernel_rfl) (by kernel_rfl) (by kernel_rfl) (cs := [aA F.wY 4]) (by kernel_rfl) (dw X4 aJ)) (aK fun d K h => (akL d.1 K).trans (akM d.1 h K))
end Go.Ev.Seat
end
section
namespace Go.Ev.Seat
open Go.RowKit
set_option maxRecDepth 100000
set_option linter.unusedVariables false
set_option linter.unusedSimpArgs false
noncomputable abbrev PS : List (Nat × Bool × Sm) := [(N.i_in, true, mF)]
noncomputable abbrev aez : Env := En PS [] [] [] false 0 []
noncomputable def TW (k : Int) (K : aj → Option aj) : Option aj := K ((.s (.bool ((decide ((3 : Int) ≤ k)) && (decide (k ≤ (5 : Int)))))), [])
theorem aeA (k : Int) (K : aj → Option aj) : dS aez true F.FB [.s (.int .i64 k)] K = TW k K := by kernel_rfl
def TY : Sm := bD [.i] (fun d => true) (fun d => (bl (jw d.1), []))
theorem aeB (k : Int) (K : aj → Option aj) : TW k K = K (bl (jw k), []) := by
 rfl
theorem aal : aT prog I N.FB true TY := lN (aU (bf uM bn) (l := PS) (p := []) (ls := []) (lend := []) (focus := false) (fuel := 0) (give := []) (fn := F.FB) (by kernel_rfl) (by kernel_rfl) (by kernel_rfl) (by kernel_rfl) (cs := []) (by kernel_rfl) aJ) (aK fun d K h => (aeA d.1 K).trans (aeB d.1 K))
end Go.Ev.Seat
end
section
namespace Go.Ev.Seat
open Go.RowKit
set_option maxRecDepth 100000
set_option linter.unusedVariables false
set_option linter.unusedSimpArgs false
noncomputable abbrev Ua : Env := En [(N.i_in, true, mF)] [] [] [] false 0 []
noncomputable def Ig (d : eU) (v : Int) (K : aj → Option aj) : Option aj := K ((.s (.bool ((decide ((0 : Int) ≤ v)) && (decide (v ≤ (((List.length d.2.2.1) : Nat) : Int)))))), [])
theorem Ub (d : eU) (v : Int) (K : aj → Option aj) : dS Ua true F.qJ [.a (bT.cells .no d), .s (.int .i64 v)] K = Ig d v K := by kernel_rfl
def Ih : Sm := bD [.a bT, .i] (fun d => true) (fun d => (bl (decide (0 ≤ d.2.1) && decide (d.2.1 ≤ ((d.1.2.2.1.length : Nat) : Int))), []))
theorem Uc (d : eU) (v : Int) (K : aj → Option aj) : Ig d v K = K (bl (decide (0 ≤ v) && decide (v ≤ ((d.2.2.1.length : Nat) : Int))), []) := rfl
theorem O5 : aT prog I N.qJ true Ih := lN (aU (bf uM bn) (l := [(N.i_in, true, mF)]) (p := []) (ls := []) (lend := []) (focus := false) (fuel := 0) (give := []) (fn := F.qJ) (by kernel_rfl) (by kernel_rfl) (by kernel_rfl) (by kernel_rfl) (cs := []) (by kernel_rfl) aJ) (aK fun d K h => (Ub d.1 d.2.1 K).trans (Uc d.1 d.2.1 K))
end Go.Ev.Seat
end
section
namespace Go.Ev.Seat
open Go.RowKit
set_option maxRecDepth 100000
set_option linter.unusedVariables false
set_option linter.unusedSimpArgs false
noncomputable abbrev V8 : Env := En [(N.cmp_Compare_int, true, nP)] [] [] [] false 0 []
noncomputable def JE (m : aB) (s : Int) (K : aj → Option aj) : Option aj := K ((.s (.int .i64 (zf m.1 s))), [])
theorem V9 (m : aB) (s : Int) (K : aj → Option aj) : dS V8 true F.kE [.a (aF.cells .no m), .s (.int .i64 s)] K = JE m s K := by kernel_rfl
def BU : Sm := bD [.a aF, .i] (fun d => true) (fun d => (.s (.int .i64 (zf d.1.1 d.2.1)), []))
theorem Wh (m : aB) (s : Int) (K : aj → Option aj) : JE m s K = K (.s (.int .i64 (zf m.1 s)), []) := rfl
theorem QY : aT prog I N.kE true BU := lN (aU (bf DY bn) (l := [(N.cmp_Compare_int, true, nP)]) (p := []) (ls := []) (lend := []) (focus := false) (fuel := 0) (give := []) (fn := F.kE) (by kernel_rfl) (by kernel_rfl) (by kernel_rfl) (by kernel_rfl) (cs := []) (by kernel_rfl) aJ) (aK fun d K h => (V9 d.1 d.2.1 K).trans (Wh d.1 d.2.1 K))
end Go.Ev.Seat
end
section
namespace Go.Ev.Seat
open Go.RowKit
set_option maxRecDepth 100000
set_option linter.unusedVariables false
set_option linter.unusedSimpArgs false
def dP (x0 : List aB) (x1 : Int) (x8 : Int) (x9 : Int) : St := { tm := ([(.l .no aF x0), (.s (.int .i64 x1)), (.f 144 []), .x, .x, .x, .x, .x, (.s (.int .i64 x8)), (.s (.int .i64 x9))] ++ List.replicate 39 .x), ob := [], nx := 0, io := [] }
def dM : Ss := { tm := (.cons (.l .no aF) (.cons (.int .i64) (.cons (.f 144 .nil) (.cons (.x) (.cons (.x) (.cons (.x) (.cons (.x) (.cons (.x) (.cons (.int .i64) (.cons (.int .i64) (.cons (.int .i64) (Ed 38)))))))))))), ob := .nil, nx := 0, io := .nil }
def rY (x0 : List aB) (x1 : Int) (x8 : Int) (x9 : Int) (x10 : Int) : dM.T := ((x0, (x1, ((), ((), ((), ((), ((), ((), (x8, (x9, (x10, xd 38))))))))))), (), ())
def cZ (x0 : List aB) (x1 : Int) (x8 : Int) (x9 : Int) (x10 : Int) : St := { tm := ([(.l .no aF x0), (.s (.int .i64 x1)), (.f 144 []), .x, .x, .x, .x, .x, (.s (.int .i64 x8)), (.s (.int .i64 x9)), (.s (.int .i64 x10))] ++ List.replicate 38 .x), ob := [], nx := 0, io := [] }
theorem rG (x0 : List aB) (x1 : Int) (x8 : Int) (x9 : Int) (x10 : Int) : dM.mk' (rY x0 x1 x8 x9 x10) = (cZ x0 x1 x8 x9 x10) := by kernel_rfl
def rZ (d : dM.T) (f : (List aB) → Int → Int → Int → Int → Option aj) : Option aj := match d with | ((x0, (x1, (_, (_, (_, (_, (_, (_, (x8, (x9, (x10, _))))))))))), _, _) => f x0 x1 x8 x9 x10
noncomputable def bI (x0 : List aB) (x1 : Int) (x8 : Int) (x9 : Int) (x10 : Int) (pW : (List aB) → Int → Int → Int → Int → Option aj) (k0 : (List aB) → Int → Int → Int → Option aj) : Option aj := (bif (decide (x9 < x10)) then (bif ((decide ((0 : Int) ≤ (IntKind.wrap .i64 (JQ .u64 (IntKind.wrap .u64 (IntKind.wrap .i64 (x9 + x10))) (1 : Int))))) && (decide ((IntKind.wrap .i64 (JQ .u64 (IntKind.wrap .u64 (IntKind.wrap .i64 (x9 + x10))) (1 : Int))) < (((List.length x0) : Nat) : Int)))) then (bif (decide ((zf (List.getD x0 (Int.toNat (IntKind.wrap .i64 (JQ .u64 (IntKind.wrap .u64 (IntKind.wrap .i64 (x9 + x10))) (1 : Int)))) (aF.dflt)).1 x1) < (0 : Int))) then (pW x0 x1 x8 (IntKind.wrap .i64 ((IntKind.wrap .i64 (JQ .u64 (IntKind.wrap .u64 (IntKind.wrap .i64 (x9 + x10))) (1 : Int))) + (1 : Int))) x10) else (pW x0 x1 x8 x9 (IntKind.wrap .i64 (JQ .u64 (IntKind.wrap .u64 (IntKind.wrap .i64 (x9 + x10))) (1 : Int))))) else none) else (k0 x0 x1 x8 x9))
noncomputable def bJ : Nat → (List aB) → Int → Int → Int → Int → ((List aB) → Int → Int → Int → Option aj) → Option aj
 | 0, _, _, _, _, _, _ => none
 | m + 1, x0, x1, x8, x9, x10, k0 => bI x0 x1 x8 x9 x10 (fun x0 x1 x8 x9 x10 => (bJ m x0 x1 x8 x9 x10 k0)) k0
noncomputable def gu (x0 : List aB) (x1 : Int) (x8 : Int) (x9 : Int) (x10 : Int) (k0 : (List aB) → Int → Int → Int → Option aj) : Option aj := bJ (List.length x0 + x1.toNat + x8.toNat + x9.toNat + x10.toNat + 2) x0 x1 x8 x9 x10 k0
noncomputable def dY : fG := (fun (σ : St) (K : Ex → St → Option aj) => (match dM.un σ with | some d => rZ d (fun x0 x1 x8 x9 x10 => gu x0 x1 x8 x9 x10 (fun x0 x1 x8 x9 => (K (.ext 0) (dP x0 x1 x8 x9)))) | none => none))
noncomputable abbrev bH : Env := En [(N.kE, true, BU)] [] [(3, [0,1,2,8,9,10], [0,1,2,6,7,8,9], dY)] [] false 0 []
theorem rH (m : Nat) (x0 : List aB) (x1 : Int) (x8 : Int) (x9 : Int) (x10 : Int) (K : Ex → St → Option aj) : rounds (run bH (aA F.aV 3)) [0,1,2,8,9,10] [0,1,2,6,7,8,9] (m + 1) (cZ x0 x1 x8 x9 x10) K = bI x0 x1 x8 x9 x10 (fun x0 x1 x8 x9 x10 => (rounds (run bH (aA F.aV 3)) [0,1,2,8,9,10] [0,1,2,6,7,8,9] m (cZ x0 x1 x8 x9 x10) K)) (fun x0 x1 x8 x9 => (K (.ext 0) (dP x0 x1 x8 x9))) := by kernel_rfl
theorem kK (K : Ex → St → Option aj) : ∀ m : Nat, (∀ (x0 : List aB) (x1 : Int) (x8 : Int) (x9 : Int) (x10 : Int), rounds (run bH (aA F.aV 3)) [0,1,2,8,9,10] [0,1,2,6,7,8,9] m (cZ x0 x1 x8 x9 x10) K = bJ m x0 x1 x8 x9 x10 (fun x0 x1 x8 x9 => (K (.ext 0) (dP x0 x1 x8 x9))))
 | 0 => (fun _ _ _ _ _ => rfl)
 | m + 1 => (fun x0 x1 x8 x9 x10 => (by rw [rH, show (fun x0 x1 x8 x9 x10 => (rounds (run bH (aA F.aV 3)) [0,1,2,8,9,10] [0,1,2,6,7,8,9] m (cZ x0 x1 x8 x9 x10) K)) = (fun x0 x1 x8 x9 x10 => (bJ m x0 x1 x8 x9 x10 (fun x0 x1 x8 x9 => (K (.ext 0) (dP x0 x1 x8 x9))))) from funext fun x0 => funext fun x1 => funext fun x8 => funext fun x9 => funext fun x10 => (kK K m) x0 x1 x8 x9 x10]; rfl))
theorem qI : dL bH (aA F.aV 3) := by
 refine dG (n := 3) (F := dY) (by kernel_rfl) rfl (li := [0,1,2,8,9,10]) (lo := [0,1,2,6,7,8,9]) rfl (fun σ K r hr => ?_)
 unfold dY at hr
 split at hr
 ·rename_i d hd
  rw [Ss.fF hd]
  exact ⟨_, ((congrArg (fun z => rounds (run bH (aA F.aV 3)) [0,1,2,8,9,10] [0,1,2,6,7,8,9] _ z K) (rG _ _ _ _ _)).trans ((kK K _) _ _ _ _ _)).trans hr⟩
 ·cases hr
noncomputable def iC (l : List aB) (s : Int) (K : aj → Option aj) : Option aj := (gu l s (((List.length l) : Nat) : Int) (0 : Int) (((List.length l) : Nat) : Int) (fun y0 y1 y2 y3 => (bif (decide (y3 < y2)) then (bif ((decide ((0 : Int) ≤ y3)) && (decide (y3 < (((List.length y0) : Nat) : Int)))) then K ((.t [(.s (.int .i64 y3)), (.s (.bool ((zf (List.getD y0 (Int.toNat y3) (aF.dflt)).1 y1) == (0 : Int))))]), []) else none) else K ((.t [(.s (.int .i64 y3)), (.s (.bool false))]), []))))
theorem wE (l : List aB) (s : Int) (K : aj → Option aj) : dS bH true F.aV [.l .no aF l, .s (.int .i64 s), .f N.kE []] K = iC l s K := by kernel_rfl
def iD : Sm := bD [.l aF, .i, .sh (.f N.kE .nil)] (fun d => Nat.ble d.1.length 1048576 && monoB (fun x => decide (zf x.1 d.2.1 < 0)) d.1) (fun d => (.t [.s (.int .i64 ((yI (fun x => decide (zf x.1 d.2.1 < 0)) d.1 : Nat) : Int)), .s (.bool (IB (fun x => decide (zf x.1 d.2.1 < 0)) (fun x => zf x.1 d.2.1 == 0) (aF).dflt d.1))], []))
theorem wF (l : List aB) (s : Int) (h : (Nat.ble l.length 1048576 && monoB (fun x => decide (zf x.1 s < 0)) l) = true) (K : aj → Option aj) : iC l s K = K (.t [.s (.int .i64 ((yI (fun x => decide (zf x.1 s < 0)) l : Nat) : Int)), .s (.bool (IB (fun x => decide (zf x.1 s < 0)) (fun x => zf x.1 s == 0) (aF).dflt l))], []) := by
 have hpp : ∃ p : aB → Bool, p = (fun x => decide (zf x.1 s < 0)) := ⟨_, rfl⟩
 obtain ⟨p, hp⟩ := hpp
 rw [← hp] at h ⊢
 simp only [Bool.and_eq_true] at h
 have hl := Nat.le_of_ble_eq_true h.1
 have hm : monoB p l = true := h.2
 have hc := ajs p l
 unfold iC gu
 have q : ∀ (k0 : List aB → Int → Int → Int → Option aj) (m : Nat), l.length < m → bJ m l s ((l.length : Nat) : Int) ((0 : Nat) : Int) ((l.length : Nat) : Int) k0 = k0 l s ((l.length : Nat) : Int) ((yI p l : Nat) : Int) := by
  intro k0 m hmm
  refine adW (R := fun m i j => bJ m l s ((l.length : Nat) : Int) i j k0) (p := p) (kt := fun i => k0 l s ((l.length : Nat) : Int) i) (l := l) (z := (aF).dflt) (fun m i j hij hj => ?_) (fun m i hi => ?_) hm m 0 l.length (Nat.zero_le _) hc (Nat.le_refl _) (by omega)
  ·show bI l s ((l.length : Nat) : Int) ((i : Nat) : Int) ((j : Nat) : Int) _ _ = _
   unfold bI
   rw [decide_eq_true (show ((i : Nat) : Int) < ((j : Nat) : Int) by omega), amZ (by omega), decide_eq_true (show (0 : Int) ≤ (((i + j) / 2 : Nat) : Int) by omega), decide_eq_true (show (((i + j) / 2 : Nat) : Int) < ((l.length : Nat) : Int) by omega), Int.toNat_natCast, bY (by omega)]
   rw [hp]; rfl
  ·show bI l s ((l.length : Nat) : Int) ((i : Nat) : Int) ((i : Nat) : Int) _ _ = _
   unfold bI
   rw [decide_eq_false (show ¬ ((i : Nat) : Int) < ((i : Nat) : Int) by omega)]; rfl
 refine (q _ _ (by omega)).trans ?_
 unfold IB
 by_cases hlt : yI p l < l.length
 ·rw [decide_eq_true (show ((yI p l : Nat) : Int) < ((l.length : Nat) : Int) by omega), decide_eq_true (show (0 : Int) ≤ ((yI p l : Nat) : Int) by omega), Int.toNat_natCast, show Nat.blt (yI p l) l.length = true from Nat.ble_eq_true_of_le hlt]
  rfl
 ·rw [decide_eq_false (show ¬ ((yI p l : Nat) : Int) < ((l.length : Nat) : Int) by omega), show Nat.blt (yI p l) l.length = false from Bool.eq_false_iff.2 (fun q => hlt (Nat.le_of_ble_eq_true q))]
  rfl
theorem uS : aT prog I N.aV true iD := lN (aU (bf QY bn) (l := [(N.kE, true, BU)]) (p := []) (ls := [(3, [0,1,2,8,9,10], [0,1,2,6,7,8,9], dY)]) (lend := []) (focus := false) (fuel := 0) (give := []) (fn := F.aV) (by kernel_rfl) (by kernel_rfl) (by kernel_rfl) (by kernel_rfl) (cs := [aA F.aV 3]) (by kernel_rfl) (dw qI aJ)) (aK fun d K h => (wE d.1 d.2.1 K).trans (wF d.1 d.2.1 h K))
end Go.Ev.Seat
end
section
namespace Go.Ev.Seat
open Go.RowKit
set_option maxRecDepth 100000
set_option linter.unusedVariables false
set_option linter.unusedSimpArgs false
noncomputable abbrev aam : Env := En [(N.aV, true, iD)] [] [] [] false 0 []
noncomputable def GH (d : eU) (s : Int) (K : aj → Option aj) : Option aj := (bif ((Nat.ble (List.length d.2.2.2.2.1) 1048576) && (monoB (fun x => (decide ((zf x.1 s) < (0 : Int)))) d.2.2.2.2.1)) then K ((.t [(.s (.int .i64 (((yI (fun x => (decide ((zf x.1 s) < (0 : Int)))) d.2.2.2.2.1) : Nat) : Int))), (.s (.bool (IB (fun x => (decide ((zf x.1 s) < (0 : Int)))) (fun x => ((zf x.1 s) == (0 : Int))) (aF.dflt) d.2.2.2.2.1)))]), []) else none)
theorem aan (d : eU) (s : Int) (K : aj → Option aj) : dS aam true F.zk [.a (bT.cells .no d), .s (.int .i64 s)] K = GH d s K := by kernel_rfl
def Og : Sm := bD [.a bT, .i] (fun d => iZ bT d.1 && monoB (fun x => decide (zf x.1 d.2.1 < 0)) d.1.2.2.2.2.1) (fun d => (.t [.s (.int .i64 ((yI (fun x : aB => decide (zf x.1 d.2.1 < 0)) d.1.2.2.2.2.1 : Nat) : Int)), .s (.bool (IB (fun x : aB => decide (zf x.1 d.2.1 < 0)) (fun x : aB => zf x.1 d.2.1 == 0) (aF).dflt d.1.2.2.2.2.1))], []))
theorem aao (d : eU) (s : Int) (h : (iZ bT d && monoB (fun x => decide (zf x.1 s < 0)) d.2.2.2.2.1) = true) (K : aj → Option aj) : GH d s K = K (.t [.s (.int .i64 ((yI (fun x : aB => decide (zf x.1 s < 0)) d.2.2.2.2.1 : Nat) : Int)), .s (.bool (IB (fun x : aB => decide (zf x.1 s < 0)) (fun x : aB => zf x.1 s == 0) (aF).dflt d.2.2.2.2.1))], []) := by
 obtain ⟨h0, h1⟩ := (Bool.and_eq_true _ _).mp h
 obtain ⟨_, _, _, h4, _⟩ := Eo h0
 unfold GH
 rw [Nat.ble_eq_true_of_le (iw h4), h1]
 rfl
theorem Wi : aT prog I N.zk true Og := lN (aU (bf uS bn) (l := [(N.aV, true, iD)]) (p := []) (ls := []) (lend := []) (focus := false) (fuel := 0) (give := []) (fn := F.zk) (by kernel_rfl) (by kernel_rfl) (by kernel_rfl) (by kernel_rfl) (cs := []) (by kernel_rfl) aJ) (aK fun d K h => (aan d.1 d.2.1 K).trans (aao d.1 d.2.1 h K))
end Go.Ev.Seat
end
section
namespace Go.Ev.Seat
open Go.RowKit
set_option maxRecDepth 100000
set_option linter.unusedVariables false
set_option linter.unusedSimpArgs false
noncomputable abbrev Oi : List (Nat × Plan × List Nat) := [(1, takeB [0, 1, 2, 3] (.fork (.more 4 (takeB [5] (.fork (.one 6 (.fork (.one 7 (.done)))))) (.one 6 (.fork (.one 4 (takeB [5] (.fork (.one 7 (.done))))))))), [])]
noncomputable abbrev Oj : List (Nat × Bool × Sm) := [(N.dA, true, fQ)]
noncomputable abbrev abC : Env := En Oj Oi [] [] false 0 []
noncomputable def IX (r : oO) (K : aj → Option aj) : Option aj := (meet ((bif (Cc.lim (Cc.sl ah) r.2.2.2.2.2) then (bif (r.1 != (3 : Int)) then K ((.a [(.s (.int .i64 r.2.2.1)), (.s (.int .i64 (IntKind.wrap .i64 (r.2.2.2.1 - r.2.2.1)))), (.l .deep ah r.2.2.2.2.2)]), []) else K ((.a [(.s (.int .i64 r.2.2.1)), (.s (.int .i64 (0 : Int))), (.l .deep ah r.2.2.2.2.2)]), [])) else none)) ((bif (Cc.lim (Cc.sl ah) r.2.2.2.2.2) then (bif (r.1 != (3 : Int)) then K ((.a [(.s (.int .i64 r.2.2.1)), (.s (.int .i64 (IntKind.wrap .i64 (r.2.2.2.1 - r.2.2.1)))), (.l .deep ah r.2.2.2.2.2)]), []) else K ((.a [(.s (.int .i64 r.2.2.1)), (.s (.int .i64 (0 : Int))), (.l .deep ah r.2.2.2.2.2)]), [])) else none)))
theorem abD (r : oO) (K : aj → Option aj) : dS abC true F.Df [.a (dJ.cells .no r)] K = IX r K := by kernel_rfl
def PU : Sm := bD [.a dJ] (fun d => aO d.1.2.2.2.2.2) (fun d => (.a (ay.cells .deep (mD d.1)), []))
theorem abE (r : oO) (h : (aO r.2.2.2.2.2) = true) (K : aj → Option aj) : IX r K = K (.a (ay.cells .deep (mD r)), []) := by
 obtain ⟨k, s, a, b, d, t⟩ := r
 have hl : Cc.lim (Cc.sl ah) t = true := OI (oP h)
 unfold IX mD
 simp only [hl, meet_self, cond_true]
 cases (k != (3 : Int)) <;> rfl
theorem X5 : aT prog I N.Df true PU := lN (aU (bf kZ bn) (l := Oj) (p := Oi) (ls := []) (lend := []) (focus := false) (fuel := 0) (give := []) (fn := F.Df) (by kernel_rfl) (by kernel_rfl) (by kernel_rfl) (by kernel_rfl) (cs := []) (by kernel_rfl) aJ) (aK fun d K h => (abD d.1 K).trans (abE d.1 h K))
end Go.Ev.Seat
end
section
namespace Go.Ev.Seat
open Go.RowKit
set_option maxRecDepth 100000
set_option linter.unusedVariables false
set_option linter.unusedSimpArgs false
noncomputable abbrev aiH : Env := En [(N.jL, true, Dv), (N.jM, true, Dw)] [(1, takeB [0, 1, 2, 3, 4, 5] (.fork (.one 6 (.fork (.one 7 (takes [8, 9, 10, 11, 12]))))), [])] [] [] false 0 []
noncomputable def QZ (d : eU) (v : Int) (K : aj → Option aj) : Option aj := (bif ((decide ((0 : Int) ≤ v)) && (decide (v ≤ (((List.length d.2.2.1) : Nat) : Int)))) then (bif (iR (Cc.sl aH) (List.take (Int.toNat v) d.2.2.1)) then (bif ((aO d.1) && (iR (Cc.sl ay) (dN (List.take (Int.toNat v) d.2.2.1)))) then K ((.l .deep ah (bQ d.1 (dN (List.take (Int.toNat v) d.2.2.1))).1), []) else none) else none) else none)
theorem aiI (d : eU) (v : Int) (K : aj → Option aj) : dS aiH true F.LU [.a (bT.cells .no d), .s (.int .i64 v)] K = QZ d v K := by kernel_rfl
def aap : Sm := bD [.a bT, .i] (fun d => iZ bT d.1 && decide (0 ≤ d.2.1) && decide (d.2.1 ≤ ((d.1.2.2.1.length : Nat) : Int))) (fun d => (.l .deep ah (bQ d.1.1 (dN (d.1.2.2.1.take d.2.1.toNat))).1, []))
theorem aiJ (d : eU) (v : Int) (h : (iZ bT d && decide (0 ≤ v) && decide (v ≤ ((d.2.2.1.length : Nat) : Int))) = true) (K : aj → Option aj) : QZ d v K = K (.l .deep ah (bQ d.1 (dN (d.2.2.1.take v.toNat))).1, []) := by
 simp only [Bool.and_eq_true, decide_eq_true_eq] at h
 obtain ⟨⟨h0, q2⟩, q3⟩ := h
 obtain ⟨h1, h2, h3, h4, h5⟩ := Eo h0
 unfold QZ
 rw [decide_eq_true q2, decide_eq_true q3, Ju h3, h1, Ej (Ju h3 _)]
 rfl
theorem aeC : aT prog I N.LU true aap := lN (aU (bf PG (bf PK bn)) (l := [(N.jL, true, Dv), (N.jM, true, Dw)]) (p := [(1, takeB [0, 1, 2, 3, 4, 5] (.fork (.one 6 (.fork (.one 7 (takes [8, 9, 10, 11, 12]))))), [])]) (ls := []) (lend := []) (focus := false) (fuel := 0) (give := []) (fn := F.LU) (by kernel_rfl) (by kernel_rfl) (by kernel_rfl) (by kernel_rfl) (cs := []) (by kernel_rfl) aJ) (aK fun d K h => (aiI d.1 d.2.1 K).trans (aiJ d.1 d.2.1 h K))
end Go.Ev.Seat
end
section
namespace Go.Ev.Seat
open Go.RowKit
set_option maxRecDepth 100000
set_option linter.unusedVariables false
set_option linter.unusedSimpArgs false
noncomputable abbrev aeD : Env := En [] [] [] [] false 0 []
noncomputable def KN (e : ak) (p : Int) (r : Bool) (K : aj → Option aj) : Option aj := (bif (decide (p < e.1)) then K ((.s (.int .i64 p)), []) else (bif (p == e.1) then (bif r then K ((.s (.int .i64 (IntKind.wrap .i64 (e.1 + (((List.length e.2.2) : Nat) : Int))))), []) else K ((.s (.int .i64 e.1)), [])) else (bif (decide (p < (IntKind.wrap .i64 (e.1 + e.2.1)))) then (bif r then K ((.s (.int .i64 (IntKind.wrap .i64 (e.1 + (((List.length e.2.2) : Nat) : Int))))), []) else K ((.s (.int .i64 e.1)), [])) else K ((.s (.int .i64 (IntKind.wrap .i64 ((IntKind.wrap .i64 (p - e.2.1)) + (((List.length e.2.2) : Nat) : Int))))), []))))
theorem aeE (e : ak) (p : Int) (r : Bool) (K : aj → Option aj) : dS aeD true F.Bf [.a (ay.cells .no e), .s (.int .i64 p), .s (.bool r)] K = KN e p r K := by kernel_rfl
def KO : Sm := bD [.a ay, .i, .b] (fun d => gX d.2.1 && bg d.1) (fun d => (.s (.int .i64 (bV d.1 d.2.1 d.2.2.1)), []))
theorem aeF (e : ak) (p : Int) (r : Bool) (h : (gX p && bg e) = true) (K : aj → Option aj) : KN e p r K = K (.s (.int .i64 (bV e p r)), []) := by
 obtain ⟨hp, HS⟩ := (Bool.and_eq_true _ _).mp h
 have hp' := og.1 hp
 unfold KN
 have q := qo.1 HS
 rw [wrap_in (n := e.1 + ((e.2.2.length : Nat) : Int)) (by omega) (by omega), wrap_in (n := e.1 + e.2.1) (by omega) (by omega), wrap_in (n := p - e.2.1) (by omega) (by omega), wrap_in (n := p - e.2.1 + ((e.2.2.length : Nat) : Int)) (by omega) (by omega)]
 unfold bV
 cases decide (p < e.1)
 ·cases (p == e.1)
  ·cases decide (p < e.1 + e.2.1)
   ·rfl
   ·cases r <;> rfl
  ·cases r <;> rfl
 ·rfl
theorem aaq : aT prog I N.Bf true KO := lN (aU bn (l := []) (p := []) (ls := []) (lend := []) (focus := false) (fuel := 0) (give := []) (fn := F.Bf) (by kernel_rfl) (by kernel_rfl) (by kernel_rfl) (by kernel_rfl) (cs := []) (by kernel_rfl) aJ) (aK fun d K h => (aeE d.1 d.2.1 d.2.2.1 K).trans (aeF d.1 d.2.1 d.2.2.1 h K))
end Go.Ev.Seat
end
section
namespace Go.Ev.Seat
open Go.RowKit
set_option maxRecDepth 100000
set_option linter.unusedVariables false
set_option linter.unusedSimpArgs false
noncomputable abbrev abG : Env := En [(N.Bf, true, KO)] [(1, takeB [0, 1, 3, 4] (.fork (.one 2 (.fork (.one 5 (takes [6, 7]))))), [])] [] [] false 0 []
noncomputable def IY (e : ak) (i : Int) (j : Int) (K : aj → Option aj) : Option aj := (bif ((gX i) && (bg e)) then (bif ((gX j) && (bg e)) then (bif (decide ((bV e j false) < (bV e i true))) then K ((.t [(.s (.int .i64 (bV e i true))), (.s (.int .i64 (bV e i true)))]), []) else (bif (i == j) then K ((.t [(.s (.int .i64 (bV e i true))), (.s (.int .i64 (bV e i true)))]), []) else K ((.t [(.s (.int .i64 (bV e i true))), (.s (.int .i64 (bV e j false)))]), []))) else none) else none)
theorem abH (e : ak) (i : Int) (j : Int) (K : aj → Option aj) : dS abG true F.yQ [.a (ay.cells .no e), .s (.int .i64 i), .s (.int .i64 j)] K = IY e i j K := by kernel_rfl
def IZ : Sm := bD [.a ay, .i, .i] (fun d => gX d.2.1 && gX d.2.2.1 && bg d.1 && decide (d.2.1 ≤ d.2.2.1)) (fun d => (.t [.s (.int .i64 (MO d.1 d.2.1 d.2.2.1).1), .s (.int .i64 (MO d.1 d.2.1 d.2.2.1).2)], []))
theorem abI (e : ak) (i : Int) (j : Int) (h : (gX i && gX j && bg e && decide (i ≤ j)) = true) (K : aj → Option aj) : IY e i j K = K (.t [.s (.int .i64 (MO e i j).1), .s (.int .i64 (MO e i j).2)], []) := by
 simp only [Bool.and_eq_true, decide_eq_true_eq] at h
 obtain ⟨⟨⟨hi, hj⟩, he⟩, hij⟩ := h
 have hi' := og.1 hi
 have hj' := og.1 hj
 have p1 := oh (p := i) true he (by omega)
 have p2 := oh (p := j) false he (by omega)
 unfold IY MO
 rw [hi, hj, he]
 cases (i == j) with
 | true => cases decide (bV e j false < bV e i true) <;> rfl
 | false =>
  by_cases hlt : bV e j false < bV e i true
  ·rw [decide_eq_true hlt]
   show K (.t [_, .s (.int .i64 (bV e i true))], []) = K (.t [_, .s (.int .i64 (max (bV e i true) (bV e j false)))], [])
   rw [show max (bV e i true) (bV e j false) = bV e i true by omega]
  ·rw [decide_eq_false hlt]
   show K (.t [_, .s (.int .i64 (bV e j false))], []) = K (.t [_, .s (.int .i64 (max (bV e i true) (bV e j false)))], [])
   rw [show max (bV e i true) (bV e j false) = bV e j false by omega]
theorem X6 : aT prog I N.yQ true IZ := lN (aU (bf aaq bn) (l := [(N.Bf, true, KO)]) (p := [(1, takeB [0, 1, 3, 4] (.fork (.one 2 (.fork (.one 5 (takes [6, 7]))))), [])]) (ls := []) (lend := []) (focus := false) (fuel := 0) (give := []) (fn := F.yQ) (by kernel_rfl) (by kernel_rfl) (by kernel_rfl) (by kernel_rfl) (cs := []) (by kernel_rfl) aJ) (aK fun d K h => (abH d.1 d.2.1 d.2.2.1 K).trans (abI d.1 d.2.1 d.2.2.1 h K))
end Go.Ev.Seat
end
section
namespace Go.Ev.Seat
open Go.RowKit
set_option maxRecDepth 100000
set_option linter.unusedVariables false
set_option linter.unusedSimpArgs false
noncomputable abbrev aar : Env := En [(N.yQ, true, IZ)] [] [] [] false 0 []
noncomputable def GI (e : ak) (b : ak) (K : aj → Option aj) : Option aj := (bif ((((gX e.1) && (gX (IntKind.wrap .i64 (e.1 + e.2.1)))) && (bg b)) && (decide (e.1 ≤ (IntKind.wrap .i64 (e.1 + e.2.1))))) then K ((.a [(.s (.int .i64 (bV b e.1 true))), (.s (.int .i64 (IntKind.wrap .i64 ((bif (e.1 == (IntKind.wrap .i64 (e.1 + e.2.1))) then (bV b e.1 true) else (Max.max (bV b e.1 true) (bV b (IntKind.wrap .i64 (e.1 + e.2.1)) false))) - (bV b e.1 true))))), (.l .no ah e.2.2)]), []) else none)
theorem aas (e : ak) (b : ak) (K : aj → Option aj) : dS aar false F.zl [.a (ay.cells .no e), .a (ay.cells .no b)] K = GI e b K := by kernel_rfl
def Ol : Sm := bD [.a ay, .a ay] (fun d => bg d.1 && bg d.2.1) (fun d => (.a (ay.cells .no (jh d.1 d.2.1)), []))
theorem aat (e : ak) (b : ak) (h : (bg e && bg b) = true) (K : aj → Option aj) : GI e b K = K (.a (ay.cells .no (jh e b)), []) := by
 obtain ⟨ha, hb⟩ := (Bool.and_eq_true _ _).mp h
 have ha' := qo.1 ha
 have hb' := qo.1 hb
 have p1 := oh (p := e.1) true hb (by omega)
 have p2 := oh (p := e.1 + e.2.1) false hb (by omega)
 have hr := RZ ha hb
 have e3 : (jh e b).2.1 = (bif (e.1 == e.1 + e.2.1) then bV b e.1 true else max (bV b e.1 true) (bV b (e.1 + e.2.1) false)) - bV b e.1 true := rfl
 rw [e3] at hr
 unfold GI
 rw [wrap_in (n := e.1 + e.2.1) (by omega) (by omega), og.2 (show 0 ≤ e.1 ∧ e.1 ≤ 800 by omega), og.2 (show 0 ≤ e.1 + e.2.1 ∧ e.1 + e.2.1 ≤ 800 by omega), hb, decide_eq_true (show e.1 ≤ e.1 + e.2.1 by omega), wrap_in (n := (bif (e.1 == e.1 + e.2.1) then bV b e.1 true else max (bV b e.1 true) (bV b (e.1 + e.2.1) false)) - bV b e.1 true) (by omega) (by omega)]
 rfl
theorem Wj : aT prog I N.zl false Ol := lN (aU (bf X6 bn) (l := [(N.yQ, true, IZ)]) (p := []) (ls := []) (lend := []) (focus := false) (fuel := 0) (give := []) (fn := F.zl) (by kernel_rfl) (by kernel_rfl) (by kernel_rfl) (by kernel_rfl) (cs := []) (by kernel_rfl) aJ) (aK fun d K h => (aas d.1 d.2.1 K).trans (aat d.1 d.2.1 h K))
end Go.Ev.Seat
end
section
namespace Go.Ev.Seat
open Go.RowKit
set_option maxRecDepth 100000
set_option linter.unusedVariables false
set_option linter.unusedSimpArgs false
def fV (b00 : Int) (b01 : Int) (b10 : Int) (b11 : Int) (o2 : List Int) : St := { tm := ([.x, .x, .x, .x, .x, .x, (.pb 0 0), .x, .x, .x, (.pb 1 0)] ++ List.replicate 36 .x), ob := [(0, (.box [(.s (.int .i64 b00)), (.s (.int .i64 b01)), .nl])), (1, (.box [(.s (.int .i64 b10)), (.s (.int .i64 b11)), (.w 2)])), (2, (.arr true true ah o2))], nx := 3, io := [] }
def fZ (b00 : Int) (b01 : Int) (b10 : Int) (b11 : Int) (b12 : List Int) : St := { tm := ([.x, .x, .x, .x, .x, .x, (.pb 0 0), .x, .x, .x, (.pb 1 0)] ++ List.replicate 36 .x), ob := [(0, (.box [(.s (.int .i64 b00)), (.s (.int .i64 b01)), .nl])), (1, (.box [(.s (.int .i64 b10)), (.s (.int .i64 b11)), (.l .no ah b12)]))], nx := 2, io := [] }
def tN : Ss := { tm := (.cons (.x) (.cons (.x) (.cons (.x) (.cons (.x) (.cons (.x) (.cons (.x) (.cons (.pb 0 0) (.cons (.x) (.cons (.x) (.cons (.x) (.cons (.pb 1 0) (.cons (.x) (.cons (.x) (.cons (.x) (.cons (.x) (.cons (.x) (.cons (.x) (.cons (.x) (.cons (.x) (.cons (.x) (.cons (.x) (.cons (.x) (.cons (.x) (.cons (.x) (.cons (.x) (.cons (.x) (.cons (.x) (.cons (.x) (.cons (.x) (.cons (.x) (.cons (.x) (.cons (.x) (.cons (.x) (.cons (.x) (.cons (.x) (.cons (.l .no aH) (.cons (.int .i64) (.cons (.int .i64) (Ed 9))))))))))))))))))))))))))))))))))))))), ob := (.box (.cons (.int .i64) (.cons (.int .i64) (.cons (.nl) .nil))) (.box (.cons (.int .i64) (.cons (.int .i64) (.cons (.w 2) .nil))) (.arr true true ah .nil))), nx := 3, io := .nil }
def Wn (kW : List aC) (mP : Int) (kL : Int) (b00 : Int) (b01 : Int) (b10 : Int) (b11 : Int) (o2 : List Int) : tN.T := (((), ((), ((), ((), ((), ((), ((), ((), ((), ((), ((), ((), ((), ((), ((), ((), ((), ((), ((), ((), ((), ((), ((), ((), ((), ((), ((), ((), ((), ((), ((), ((), ((), ((), ((), (kW, (mP, (kL, xd 9)))))))))))))))))))))))))))))))))))))), ((b00, (b01, ((), ()))), ((b10, (b11, ((), ()))), (o2, ()))), ())
def jW (kW : List aC) (mP : Int) (kL : Int) (b00 : Int) (b01 : Int) (b10 : Int) (b11 : Int) (o2 : List Int) : St := { tm := ([.x, .x, .x, .x, .x, .x, (.pb 0 0), .x, .x, .x, (.pb 1 0), .x, .x, .x, .x, .x, .x, .x, .x, .x, .x, .x, .x, .x, .x, .x, .x, .x, .x, .x, .x, .x, .x, .x, .x, (.l .no aH kW), (.s (.int .i64 mP)), (.s (.int .i64 kL))] ++ List.replicate 9 .x), ob := [(0, (.box [(.s (.int .i64 b00)), (.s (.int .i64 b01)), .nl])), (1, (.box [(.s (.int .i64 b10)), (.s (.int .i64 b11)), (.w 2)])), (2, (.arr true true ah o2))], nx := 3, io := [] }
theorem Ud (kW : List aC) (mP : Int) (kL : Int) (b00 : Int) (b01 : Int) (b10 : Int) (b11 : Int) (o2 : List Int) : tN.mk' (Wn kW mP kL b00 b01 b10 b11 o2) = (jW kW mP kL b00 b01 b10 b11 o2) := by kernel_rfl
def Wp (d : tN.T) (f : (List aC) → Int → Int → Int → Int → Int → Int → (List Int) → Option aj) : Option aj := match d with | ((_, (_, (_, (_, (_, (_, (_, (_, (_, (_, (_, (_, (_, (_, (_, (_, (_, (_, (_, (_, (_, (_, (_, (_, (_, (_, (_, (_, (_, (_, (_, (_, (_, (_, (_, (kW, (mP, (kL, _)))))))))))))))))))))))))))))))))))))), ((b00, (b01, (_, _))), ((b10, (b11, (_, _))), (o2, _))), _) => f kW mP kL b00 b01 b10 b11 o2
noncomputable def vZ (kW : List aC) (mP : Int) (kL : Int) (b00 : Int) (b01 : Int) (b10 : Int) (b11 : Int) (o2 : List Int) (pW : (List aC) → Int → Int → Int → Int → Int → Int → (List Int) → Option aj) (nx1 : (List aC) → Int → Int → Int → Int → Int → Int → (List Int) → Option aj) (k0 : Int → Int → Int → Int → (List Int) → Option aj) (k1 : Int → Int → Int → Int → (List Int) → Option aj) : Option aj := (bif (decide (kL < mP)) then (bif ((decide ((0 : Int) ≤ kL)) && (decide (kL < (((List.length kW) : Nat) : Int)))) then (bif ((bg (b10, (b11, o2))) && (bg (List.getD kW (Int.toNat kL) (aH.dflt)).2)) then (nx1 kW mP (IntKind.wrap .i64 (kL + (1 : Int))) b00 b01 (bV (List.getD kW (Int.toNat kL) (aH.dflt)).2 b10 true) ((bif (b10 == (b10 + b11)) then (bV (List.getD kW (Int.toNat kL) (aH.dflt)).2 b10 true) else (Max.max (bV (List.getD kW (Int.toNat kL) (aH.dflt)).2 b10 true) (bV (List.getD kW (Int.toNat kL) (aH.dflt)).2 (b10 + b11) false))) - (bV (List.getD kW (Int.toNat kL) (aH.dflt)).2 b10 true)) o2) else none) else none) else (k0 b00 b01 b10 b11 o2))
def tV : Ss := { tm := (.cons (.x) (.cons (.x) (.cons (.x) (.cons (.x) (.cons (.x) (.cons (.x) (.cons (.pb 0 0) (.cons (.x) (.cons (.x) (.cons (.x) (.cons (.pb 1 0) (.cons (.x) (.cons (.x) (.cons (.x) (.cons (.x) (.cons (.x) (.cons (.x) (.cons (.x) (.cons (.x) (.cons (.x) (.cons (.x) (.cons (.x) (.cons (.x) (.cons (.x) (.cons (.x) (.cons (.x) (.cons (.x) (.cons (.x) (.cons (.x) (.cons (.x) (.cons (.x) (.cons (.x) (.cons (.x) (.cons (.x) (.cons (.x) (.cons (.l .no aH) (.cons (.int .i64) (.cons (.int .i64) (Ed 9))))))))))))))))))))))))))))))))))))))), ob := (.box (.cons (.int .i64) (.cons (.int .i64) (.cons (.nl) .nil))) (.box (.cons (.int .i64) (.cons (.int .i64) (.cons (.l .no ah) .nil))) .nil)), nx := 2, io := .nil }
def Wq (kW : List aC) (mP : Int) (kL : Int) (b00 : Int) (b01 : Int) (b10 : Int) (b11 : Int) (b12 : List Int) : tV.T := (((), ((), ((), ((), ((), ((), ((), ((), ((), ((), ((), ((), ((), ((), ((), ((), ((), ((), ((), ((), ((), ((), ((), ((), ((), ((), ((), ((), ((), ((), ((), ((), ((), ((), ((), (kW, (mP, (kL, xd 9)))))))))))))))))))))))))))))))))))))), ((b00, (b01, ((), ()))), ((b10, (b11, (b12, ()))), ())), ())
def jX (kW : List aC) (mP : Int) (kL : Int) (b00 : Int) (b01 : Int) (b10 : Int) (b11 : Int) (b12 : List Int) : St := { tm := ([.x, .x, .x, .x, .x, .x, (.pb 0 0), .x, .x, .x, (.pb 1 0), .x, .x, .x, .x, .x, .x, .x, .x, .x, .x, .x, .x, .x, .x, .x, .x, .x, .x, .x, .x, .x, .x, .x, .x, (.l .no aH kW), (.s (.int .i64 mP)), (.s (.int .i64 kL))] ++ List.replicate 9 .x), ob := [(0, (.box [(.s (.int .i64 b00)), (.s (.int .i64 b01)), .nl])), (1, (.box [(.s (.int .i64 b10)), (.s (.int .i64 b11)), (.l .no ah b12)]))], nx := 2, io := [] }
theorem Ue (kW : List aC) (mP : Int) (kL : Int) (b00 : Int) (b01 : Int) (b10 : Int) (b11 : Int) (b12 : List Int) : tV.mk' (Wq kW mP kL b00 b01 b10 b11 b12) = (jX kW mP kL b00 b01 b10 b11 b12) := by kernel_rfl
def Ws (d : tV.T) (f : (List aC) → Int → Int → Int → Int → Int → Int → (List Int) → Option aj) : Option aj := match d with | ((_, (_, (_, (_, (_, (_, (_, (_, (_, (_, (_, (_, (_, (_, (_, (_, (_, (_, (_, (_, (_, (_, (_, (_, (_, (_, (_, (_, (_, (_, (_, (_, (_, (_, (_, (kW, (mP, (kL, _)))))))))))))))))))))))))))))))))))))), ((b00, (b01, (_, _))), ((b10, (b11, (b12, _))), _)), _) => f kW mP kL b00 b01 b10 b11 b12
noncomputable def wo (kW : List aC) (mP : Int) (kL : Int) (b00 : Int) (b01 : Int) (b10 : Int) (b11 : Int) (b12 : List Int) (pW : (List aC) → Int → Int → Int → Int → Int → Int → (List Int) → Option aj) (nx1 : (List aC) → Int → Int → Int → Int → Int → Int → (List Int) → Option aj) (k0 : Int → Int → Int → Int → (List Int) → Option aj) (k1 : Int → Int → Int → Int → (List Int) → Option aj) : Option aj := (bif (decide (kL < mP)) then (bif ((decide ((0 : Int) ≤ kL)) && (decide (kL < (((List.length kW) : Nat) : Int)))) then (bif ((bg (b10, (b11, b12))) && (bg (List.getD kW (Int.toNat kL) (aH.dflt)).2)) then (nx1 kW mP (IntKind.wrap .i64 (kL + (1 : Int))) b00 b01 (bV (List.getD kW (Int.toNat kL) (aH.dflt)).2 b10 true) ((bif (b10 == (b10 + b11)) then (bV (List.getD kW (Int.toNat kL) (aH.dflt)).2 b10 true) else (Max.max (bV (List.getD kW (Int.toNat kL) (aH.dflt)).2 b10 true) (bV (List.getD kW (Int.toNat kL) (aH.dflt)).2 (b10 + b11) false))) - (bV (List.getD kW (Int.toNat kL) (aH.dflt)).2 b10 true)) b12) else none) else none) else (k1 b00 b01 b10 b11 b12))
mutual
noncomputable def lM : Nat → (List aC) → Int → Int → Int → Int → Int → Int → (List Int) → (Int → Int → Int → Int → (List Int) → Option aj) → (Int → Int → Int → Int → (List Int) → Option aj) → Option aj
 | 0, _, _, _, _, _, _, _, _, _, _ => none
 | m + 1, kW, mP, kL, b00, b01, b10, b11, o2, k0, k1 => vZ kW mP kL b00 b01 b10 b11 o2 (fun kW mP kL b00 b01 b10 b11 o2 => (lM m kW mP kL b00 b01 b10 b11 o2 k0 k1)) (fun kW mP kL b00 b01 b10 b11 b12 => (jY m kW mP kL b00 b01 b10 b11 b12 k0 k1)) k0 k1
noncomputable def jY : Nat → (List aC) → Int → Int → Int → Int → Int → Int → (List Int) → (Int → Int → Int → Int → (List Int) → Option aj) → (Int → Int → Int → Int → (List Int) → Option aj) → Option aj
 | 0, _, _, _, _, _, _, _, _, _, _ => none
 | m + 1, kW, mP, kL, b00, b01, b10, b11, b12, k0, k1 => wo kW mP kL b00 b01 b10 b11 b12 (fun kW mP kL b00 b01 b10 b11 o2 => (lM m kW mP kL b00 b01 b10 b11 o2 k0 k1)) (fun kW mP kL b00 b01 b10 b11 b12 => (jY m kW mP kL b00 b01 b10 b11 b12 k0 k1)) k0 k1
end
noncomputable def wu (kW : List aC) (mP : Int) (kL : Int) (b00 : Int) (b01 : Int) (b10 : Int) (b11 : Int) (o2 : List Int) (k0 : Int → Int → Int → Int → (List Int) → Option aj) (k1 : Int → Int → Int → Int → (List Int) → Option aj) : Option aj := lM (List.length kW + mP.toNat + kL.toNat + b00.toNat + b01.toNat + b10.toNat + b11.toNat + List.length o2 + 2) kW mP kL b00 b01 b10 b11 o2 k0 k1
noncomputable def Wu (kW : List aC) (mP : Int) (kL : Int) (b00 : Int) (b01 : Int) (b10 : Int) (b11 : Int) (b12 : List Int) (k0 : Int → Int → Int → Int → (List Int) → Option aj) (k1 : Int → Int → Int → Int → (List Int) → Option aj) : Option aj := jY (List.length kW + mP.toNat + kL.toNat + b00.toNat + b01.toNat + b10.toNat + b11.toNat + List.length b12 + 2) kW mP kL b00 b01 b10 b11 b12 k0 k1
noncomputable def Ap : fG := (fun (σ : St) (K : Ex → St → Option aj) => (match tN.un σ with | some d => Wp d (fun kW mP kL b00 b01 b10 b11 o2 => wu kW mP kL b00 b01 b10 b11 o2 (fun b00 b01 b10 b11 o2 => (K (.ext 0) (fV b00 b01 b10 b11 o2))) (fun b00 b01 b10 b11 b12 => (K (.ext 0) (fZ b00 b01 b10 b11 b12)))) | none => (match tV.un σ with | some d => Ws d (fun kW mP kL b00 b01 b10 b11 b12 => Wu kW mP kL b00 b01 b10 b11 b12 (fun b00 b01 b10 b11 o2 => (K (.ext 0) (fV b00 b01 b10 b11 o2))) (fun b00 b01 b10 b11 b12 => (K (.ext 0) (fZ b00 b01 b10 b11 b12)))) | none => none)))
noncomputable abbrev PV : List (Nat × Plan × List Nat) := [(5, takeB [0, 1, 2] (.fork (.one 3 (.fork (.one 4 (takes [5]))))), [])]
noncomputable abbrev PW : List (Nat × Bool × Sm) := [(N.zk, true, Og), (N.Df, true, PU), (N.LU, true, aap), (N.ug, true, CV), (N.zl, false, Ol)]
noncomputable abbrev KP : Env := En PW PV [(8, [6,10,35,36,37], [6,7,10], Ap)] [] false 0 []
noncomputable abbrev dZ := rounds (run KP (aA F.uf 8)) [6,10,35,36,37] [6,7,10]
theorem Uf (m : Nat) (kW : List aC) (mP : Int) (kL : Int) (b00 : Int) (b01 : Int) (b10 : Int) (b11 : Int) (o2 : List Int) (K : Ex → St → Option aj) : dZ (m + 1) (jW kW mP kL b00 b01 b10 b11 o2) K = vZ kW mP kL b00 b01 b10 b11 o2 (fun kW mP kL b00 b01 b10 b11 o2 => (dZ m (jW kW mP kL b00 b01 b10 b11 o2) K)) (fun kW mP kL b00 b01 b10 b11 b12 => (dZ m (jX kW mP kL b00 b01 b10 b11 b12) K)) (fun b00 b01 b10 b11 o2 => (K (.ext 0) (fV b00 b01 b10 b11 o2))) (fun b00 b01 b10 b11 b12 => (K (.ext 0) (fZ b00 b01 b10 b11 b12))) := by kernel_rfl
theorem Ug (m : Nat) (kW : List aC) (mP : Int) (kL : Int) (b00 : Int) (b01 : Int) (b10 : Int) (b11 : Int) (b12 : List Int) (K : Ex → St → Option aj) : dZ (m + 1) (jX kW mP kL b00 b01 b10 b11 b12) K = wo kW mP kL b00 b01 b10 b11 b12 (fun kW mP kL b00 b01 b10 b11 o2 => (dZ m (jW kW mP kL b00 b01 b10 b11 o2) K)) (fun kW mP kL b00 b01 b10 b11 b12 => (dZ m (jX kW mP kL b00 b01 b10 b11 b12) K)) (fun b00 b01 b10 b11 o2 => (K (.ext 0) (fV b00 b01 b10 b11 o2))) (fun b00 b01 b10 b11 b12 => (K (.ext 0) (fZ b00 b01 b10 b11 b12))) := by kernel_rfl
theorem pV (K : Ex → St → Option aj) : ∀ m : Nat, (∀ (kW : List aC) (mP : Int) (kL : Int) (b00 : Int) (b01 : Int) (b10 : Int) (b11 : Int) (o2 : List Int), dZ m (jW kW mP kL b00 b01 b10 b11 o2) K = lM m kW mP kL b00 b01 b10 b11 o2 (fun b00 b01 b10 b11 o2 => (K (.ext 0) (fV b00 b01 b10 b11 o2))) (fun b00 b01 b10 b11 b12 => (K (.ext 0) (fZ b00 b01 b10 b11 b12)))) ∧ (∀ (kW : List aC) (mP : Int) (kL : Int) (b00 : Int) (b01 : Int) (b10 : Int) (b11 : Int) (b12 : List Int), dZ m (jX kW mP kL b00 b01 b10 b11 b12) K = jY m kW mP kL b00 b01 b10 b11 b12 (fun b00 b01 b10 b11 o2 => (K (.ext 0) (fV b00 b01 b10 b11 o2))) (fun b00 b01 b10 b11 b12 => (K (.ext 0) (fZ b00 b01 b10 b11 b12))))
 | 0 => ⟨(fun _ _ _ _ _ _ _ _ => rfl), (fun _ _ _ _ _ _ _ _ => rfl)⟩
 | m + 1 => ⟨(fun kW mP kL b00 b01 b10 b11 o2 => (by rw [Uf, show (fun kW mP kL b00 b01 b10 b11 o2 => (dZ m (jW kW mP kL b00 b01 b10 b11 o2) K)) = (fun kW mP kL b00 b01 b10 b11 o2 => (lM m kW mP kL b00 b01 b10 b11 o2 (fun b00 b01 b10 b11 o2 => (K (.ext 0) (fV b00 b01 b10 b11 o2))) (fun b00 b01 b10 b11 b12 => (K (.ext 0) (fZ b00 b01 b10 b11 b12))))) from funext fun kW => funext fun mP => funext fun kL => funext fun b00 => funext fun b01 => funext fun b10 => funext fun b11 => funext fun o2 => (pV K m).1 kW mP kL b00 b01 b10 b11 o2, show (fun kW mP kL b00 b01 b10 b11 b12 => (dZ m (jX kW mP kL b00 b01 b10 b11 b12) K)) = (fun kW mP kL b00 b01 b10 b11 b12 => (jY m kW mP kL b00 b01 b10 b11 b12 (fun b00 b01 b10 b11 o2 => (K (.ext 0) (fV b00 b01 b10 b11 o2))) (fun b00 b01 b10 b11 b12 => (K (.ext 0) (fZ b00 b01 b10 b11 b12))))) from funext fun kW => funext fun mP => funext fun kL => funext fun b00 => funext fun b01 => funext fun b10 => funext fun b11 => funext fun b12 => (pV K m).2 kW mP kL b00 b01 b10 b11 b12]; rfl)), (fun kW mP kL b00 b01 b10 b11 b12 => (by rw [Ug, show (fun kW mP kL b00 b01 b10 b11 o2 => (dZ m (jW kW mP kL b00 b01 b10 b11 o2) K)) = (fun kW mP kL b00 b01 b10 b11 o2 => (lM m kW mP kL b00 b01 b10 b11 o2 (fun b00 b01 b10 b11 o2 => (K (.ext 0) (fV b00 b01 b10 b11 o2))) (fun b00 b01 b10 b11 b12 => (K (.ext 0) (fZ b00 b01 b10 b11 b12))))) from funext fun kW => funext fun mP => funext fun kL => funext fun b00 => funext fun b01 => funext fun b10 => funext fun b11 => funext fun o2 => (pV K m).1 kW mP kL b00 b01 b10 b11 o2, show (fun kW mP kL b00 b01 b10 b11 b12 => (dZ m (jX kW mP kL b00 b01 b10 b11 b12) K)) = (fun kW mP kL b00 b01 b10 b11 b12 => (jY m kW mP kL b00 b01 b10 b11 b12 (fun b00 b01 b10 b11 o2 => (K (.ext 0) (fV b00 b01 b10 b11 o2))) (fun b00 b01 b10 b11 b12 => (K (.ext 0) (fZ b00 b01 b10 b11 b12))))) from funext fun kW => funext fun mP => funext fun kL => funext fun b00 => funext fun b01 => funext fun b10 => funext fun b11 => funext fun b12 => (pV K m).2 kW mP kL b00 b01 b10 b11 b12]; rfl))⟩
theorem Q5 : dL KP (aA F.uf 8) := by
 refine dG (n := 8) (F := Ap) (by kernel_rfl) rfl (li := [6,10,35,36,37]) (lo := [6,7,10]) rfl (fun σ K r hr => ?_)
 unfold Ap at hr
 split at hr
 ·rename_i d hd
  rw [Ss.fF hd]
  exact ⟨_, ((congrArg (fun z => dZ _ z K) (Ud _ _ _ _ _ _ _ _)).trans ((pV K _).1 _ _ _ _ _ _ _ _)).trans hr⟩
 ·split at hr
  ·rename_i d hd
   rw [Ss.fF hd]
   exact ⟨_, ((congrArg (fun z => dZ _ z K) (Ue _ _ _ _ _ _ _ _)).trans ((pV K _).2 _ _ _ _ _ _ _ _)).trans hr⟩
  ·cases hr
noncomputable def KQ (d : eU) (r : oO) (v : Int) (K : aj → Option aj) : Option aj := (bif ((iZ bT d) && (monoB (fun x => (decide ((zf x.1 r.2.1) < (0 : Int)))) d.2.2.2.2.1)) then (bif (!(IB (fun x => (decide ((zf x.1 r.2.1) < (0 : Int)))) (fun x => ((zf x.1 r.2.1) == (0 : Int))) (aF.dflt) d.2.2.2.2.1)) then K ((.t [(.a [(.s (.int .i64 (0 : Int))), (.s (.int .i64 (0 : Int))), (.l .deep ah ([] : List Int))]), (.s (.int .i64 (2 : Int)))]), []) else (bif (aO r.2.2.2.2.2) then (bif (((iZ bT d) && (decide ((0 : Int) ≤ v))) && (decide (v ≤ (((List.length d.2.2.1) : Nat) : Int)))) then (bif ((aO (bQ d.1 (dN (List.take (Int.toNat v) d.2.2.1))).1) && (aO r.2.2.2.2.2)) then (bif (!(fU (bQ d.1 (dN (List.take (Int.toNat v) d.2.2.1))).1 (r.2.2.1, ((bif (r.1 != (3 : Int)) then (IntKind.wrap .i64 (r.2.2.2.1 - r.2.2.1)) else (0 : Int)), r.2.2.2.2.2)))) then K ((.t [(.a [(.s (.int .i64 (0 : Int))), (.s (.int .i64 (0 : Int))), (.l .deep ah ([] : List Int))]), (.s (.int .i64 (5 : Int)))]), []) else (bif ((decide ((0 : Int) ≤ v)) && (decide (v ≤ (((List.length d.2.2.1) : Nat) : Int)))) then (wu (List.drop (Int.toNat v) d.2.2.1) (((List.length (List.drop (Int.toNat v) d.2.2.1)) : Nat) : Int) (0 : Int) (0 : Int) (0 : Int) r.2.2.1 (bif (r.1 != (3 : Int)) then (IntKind.wrap .i64 (r.2.2.2.1 - r.2.2.1)) else (0 : Int)) r.2.2.2.2.2 (fun y0 y1 y2 y3 y4 => K ((.t [(.a [(.s (.int .i64 y2)), (.s (.int .i64 y3)), (.l .deep ah y4)]), (.s (.int .i64 (0 : Int)))]), [])) (fun y5 y6 y7 y8 y9 => K ((.t [(.a [(.s (.int .i64 y7)), (.s (.int .i64 y8)), (.l .no ah y9)]), (.s (.int .i64 (0 : Int)))]), []))) else none)) else none) else none) else none)) else none)
theorem aeG (d : eU) (r : oO) (v : Int) (K : aj → Option aj) : dS KP false F.uf [.a (bT.cells .no d), .a (dJ.cells .no r), .s (.int .i64 v)] K = KQ d r v K := by kernel_rfl
theorem acu {l : List aC} {e : ak} {k0 k1 : Int → Int → Int → Int → (List Int) → Option aj} (hl : l.length ≤ 1048576) (hs : ∀ k, k ≤ (dN l).length → bg (((dN l).take k).foldl jh e) = true) (hb : ∀ b ∈ dN l, bg b = true) : ∀ (m i : Nat), i ≤ l.length → l.length - i < m →
  jY m l ((l.length : Nat) : Int) ((i : Nat) : Int) 0 0 (((dN l).take i).foldl jh e).1 (((dN l).take i).foldl jh e).2.1 (((dN l).take i).foldl jh e).2.2 k0 k1 = k1 0 0 ((dN l).foldl jh e).1 ((dN l).foldl jh e).2.1 ((dN l).foldl jh e).2.2
 | 0, i, _, h => absurd h (by omega)
 | m + 1, i, h1, h2 => by
  have hll : (dN l).length = l.length := by unfold dN; rw [List.length_map]
  show wo l ((l.length : Nat) : Int) ((i : Nat) : Int) 0 0 _ _ _ _ _ _ _ = _
  unfold wo
  by_cases h : i < l.length
  ·have hi : i < (dN l).length := by omega
   have e1 : (l.getD i aH.dflt).2 = (dN l)[i] := by
    rw [getD_lt _ h]; exact (List.getElem_map _).symm
   have e2 : jh (((dN l).take i).foldl jh e) (dN l)[i] = ((dN l).take (i + 1)).foldl jh e := by
    rw [List.take_succ_eq_append_getElem hi, List.foldl_append]; rfl
   have q1 := hs i (by omega)
   have q2 := hb (dN l)[i] (List.getElem_mem hi)
   have q3 := acu (k0 := k0) (k1 := k1) hl hs hb m (i + 1) (by omega) (by omega)
   rw [← e2] at q3
   rw [decide_eq_true (show ((i : Nat) : Int) < ((l.length : Nat) : Int) by omega), decide_eq_true (show (0 : Int) ≤ ((i : Nat) : Int) by omega), Int.toNat_natCast, bY (by omega), e1]
   revert q1 q3
   generalize ((dN l).take i).foldl jh e = x
   intro q1 q3
   show (bif true && true then (bif bg x && bg (dN l)[i] then _ else none) else none) = _
   rw [q1, q2]
   exact q3
  ·obtain rfl : i = l.length := by omega
   rw [decide_eq_false (show ¬ ((l.length : Nat) : Int) < ((l.length : Nat) : Int) by omega), show List.take l.length (dN l) = dN l from by rw [← hll, List.take_length]]; rfl
def Uh : Sm := bD [.a bT, .a dJ, .i] (fun d => iZ bT d.1 && aO d.2.1.2.2.2.2.2 && (fD d.1 d.2.2.1 && dH d.2.1 && jw d.2.1.1)) (fun d => (.t [.a (ay.cells .no (cO d.1 d.2.1 d.2.2.1).1), .s (.int .i64 (cO d.1 d.2.1 d.2.2.1).2)], []))
theorem aeH (d : eU) (r : oO) (v : Int) (h : (iZ bT d && aO r.2.2.2.2.2 && (fD d v && dH r && jw r.1)) = true) (K : aj → Option aj) : KQ d r v (noK K) = K (.t [.a (ay.cells .no (cO d r v).1), .s (.int .i64 (cO d r v).2)], []) := by
 simp only [Bool.and_eq_true] at h
 obtain ⟨⟨h0, h1⟩, ⟨h2, h3⟩, h4⟩ := h
 obtain ⟨f1, f2, f3, f4, f5⟩ := Eo h0
 obtain ⟨q1, q2, q3⟩ := zU.1 h2
 have hup := aiu (agA q1)
 have hf := amc (f := fun x : aB => x.1) aF.dflt hup r.2.1
 have hmo := aju (f := fun x : aB => x.1) hup r.2.1
 have hat : jS d v = (bQ d.1 (dN (d.2.2.1.take v.toNat))).1 := by unfold jS; rw [h2]; rfl
 have hsi : eH d v = dN (d.2.2.1.drop v.toNat) := by unfold eH; rw [h2]; rfl
 have hfa : aO (jS d v) = true := by rw [hat]; exact Em f1 (Ej (Ju f3 _))
 unfold KQ cO
 rw [hf, hmo, h0, h1, h2, h3, h4, decide_eq_true q2, decide_eq_true q3, ← hat, hfa]
 cases hfo : IB (fun x : aB => decide (zf x.1 r.2.1 < 0)) (fun x : aB => zf x.1 r.2.1 == 0) aF.dflt d.2.2.2.2.1 with
 | false => rfl
 | true =>
  rw [show decide ((bif true then (((yI (fun x : aB => decide (zf x.1 r.2.1 < 0)) d.2.2.2.2.1) : Nat) : Int) else -1) ≥ 0) = true from decide_eq_true (Int.natCast_nonneg _)]
  show (bif !(fU (jS d v) (mD r)) then _ else _) = _
  cases hfi : fU (jS d v) (mD r) with
  | false => rfl
  | true =>
   have hin := amd hfi
   obtain ⟨w1, w2, w3⟩ := WT (eH d v) (jS d v) (mD r) (acn d v) hin (akx h2)
   have hsm : wC (mD r) (eH d v) = ((eH d v).foldl jh (mD r), true) := by
    unfold wC
    rw [hin.small (acn d v), cond_true, w1]
   rw [hsm]
   rw [hsi] at w2 w3 ⊢
   have hlen := iw (UR f3 v.toNat)
   generalize List.drop v.toNat d.2.2.1 = l at *
   show wu l ((l.length : Nat) : Int) 0 0 0 (mD r).1 (mD r).2.1 (mD r).2.2 _ _ = _
   generalize mD r = e at *
   unfold wu
   show vZ l ((l.length : Nat) : Int) 0 0 0 e.1 e.2.1 e.2.2 _ _ _ _ = _
   unfold vZ
   cases l with
   | nil => rfl
   | cons c l' =>
    have z1 := w2 0 (Nat.zero_le _)
    have z2 := w3 c.2 (by simp [dN])
    rw [decide_eq_true (show (0 : Int) < (((c :: l').length : Nat) : Int) by simp)]
    show (bif true then (bif true && true then (bif bg e && bg c.2 then _ else none) else none) else _) = _
    rw [show bg e = true from z1, z2]
    exact acu hlen w2 w3 _ 1 (by simp) (by omega)
theorem aau : aT prog I N.uf false Uh := lN (aT.no (aU (fresh := false) (bf Wi (bf X5 (bf aeC (bf Lm (bf Wj bn))))) (l := PW) (p := PV) (ls := [(8, [6,10,35,36,37], [6,7,10], Ap)]) (lend := []) (focus := false) (fuel := 0) (give := []) (fn := F.uf) (by kernel_rfl) (by kernel_rfl) (by kernel_rfl) (by kernel_rfl) (cs := [aA F.uf 8]) (by kernel_rfl) (dw Q5 aJ))) (aK fun d K h => (aeG d.1 d.2.1 d.2.2.1 (noK K)).trans (aeH d.1 d.2.1 d.2.2.1 h K))
end Go.Ev.Seat
end
section
namespace Go.Ev.Seat
open Go.RowKit
set_option maxRecDepth 100000
set_option linter.unusedVariables false
set_option linter.unusedSimpArgs false
noncomputable abbrev Ui : List (Nat × Bool × Sm) := [(N.RG, true, acr), (N.wY, true, acs), (N.FB, true, TY), (N.qJ, true, Ih), (N.uf, false, Uh), (N.nX, true, xY)]
noncomputable abbrev ahc : Env := En Ui [] [] [] false 0 []
noncomputable def Om (d : eU) (r : oO) (v : Int) (K : aj → Option aj) : Option aj := (bif (iZ bT d) then (bif (!(um d)) then K ((.t [(.a [(.s (.int .i64 (0 : Int))), (.s (.int .i64 (0 : Int))), (.l .deep ah ([] : List Int))]), (.s (.int .i64 (1 : Int)))]), []) else (bif (aO r.2.2.2.2.2) then (bif (!(dH r)) then K ((.t [(.a [(.s (.int .i64 (0 : Int))), (.s (.int .i64 (0 : Int))), (.l .deep ah ([] : List Int))]), (.s (.int .i64 (1 : Int)))]), []) else (bif (!(jw r.1)) then K ((.t [(.a [(.s (.int .i64 (0 : Int))), (.s (.int .i64 (0 : Int))), (.l .deep ah ([] : List Int))]), (.s (.int .i64 (1 : Int)))]), []) else (bif (!((decide ((0 : Int) ≤ v)) && (decide (v ≤ (((List.length d.2.2.1) : Nat) : Int))))) then K ((.t [(.a [(.s (.int .i64 (0 : Int))), (.s (.int .i64 (0 : Int))), (.l .deep ah ([] : List Int))]), (.s (.int .i64 (1 : Int)))]), []) else (bif (((iZ bT d) && (aO r.2.2.2.2.2)) && (((fD d v) && (dH r)) && (jw r.1))) then (bif (Nat.ble (List.length (cO d r v).1.2.2) 1048576) then K ((.t [(.a [(.s (.int .i64 (cO d r v).1.1)), (.s (.int .i64 (cO d r v).1.2.1)), (.l .deep ah (cO d r v).1.2.2)]), (.s (.int .i64 (cO d r v).2))]), []) else none) else none)))) else none)) else none)
theorem ahd (d : eU) (r : oO) (v : Int) (K : aj → Option aj) : dS ahc true F.I9 [.a (bT.cells .no d), .a (dJ.cells .no r), .s (.int .i64 v)] K = Om d r v K := by kernel_rfl
def WZ : Sm := bD [.a bT, .a dJ, .i] (fun d => iZ bT d.1 && aO d.2.1.2.2.2.2.2) (fun d => (.t [.a (ay.cells .deep (cO d.1 d.2.1 d.2.2.1).1), .s (.int .i64 (cO d.1 d.2.1 d.2.2.1).2)], []))
theorem ahe (d : eU) (r : oO) (v : Int) (h : (iZ bT d && aO r.2.2.2.2.2) = true) (K : aj → Option aj) : Om d r v K = K (.t [.a (ay.cells .deep (cO d r v).1), .s (.int .i64 (cO d r v).2)], []) := by
 obtain ⟨h0, h1⟩ := (Bool.and_eq_true _ _).mp h
 have hp := aco d r v
 have hv : fD d v = (um d && (decide (0 ≤ v) && decide (v ≤ ((d.2.2.1.length : Nat) : Int)))) := by unfold fD; rw [Bool.and_assoc]
 have hz : fD d v = false ∨ dH r = false ∨ jw r.1 = false → cO d r v = ((0, 0, []), 1) := fun hq => by
  unfold cO
  rcases hq with hq | hq | hq <;> rw [hq] <;> simp
 unfold Om
 rw [h0, h1]
 cases ho : um d with
 | false => rw [hz (.inl (by rw [hv, ho]; rfl))]; rfl
 | true =>
 cases h3 : dH r with
 | false => rw [hz (.inr (.inl h3))]; rfl
 | true =>
 cases h4 : jw r.1 with
 | false => rw [hz (.inr (.inr h4))]; rfl
 | true =>
 cases h5 : (decide ((0 : Int) ≤ v) && decide (v ≤ ((d.2.2.1.length : Nat) : Int))) with
 | false => rw [hz (.inl (by rw [hv, ho, h5]; rfl))]; rfl
 | true =>
 rw [hv, ho, h5, Nat.ble_eq_true_of_le (Nat.le_trans hp (oP h1))]
 rfl
theorem abJ : aT prog I N.I9 true WZ := lN (aU (bf ag9 (bf ahb (bf aal (bf O5 (bf aau (bf Ia bn)))))) (l := Ui) (p := []) (ls := []) (lend := []) (focus := false) (fuel := 0) (give := []) (fn := F.I9) (by kernel_rfl) (by kernel_rfl) (by kernel_rfl) (by kernel_rfl) (cs := []) (by kernel_rfl) aJ) (aK fun d K h => (ahd d.1 d.2.1 d.2.2.1 K).trans (ahe d.1 d.2.1 d.2.2.1 h K))
end Go.Ev.Seat
end
section
namespace Go.Ev.Seat
open Go.RowKit
set_option maxRecDepth 100000
set_option linter.unusedVariables false
noncomputable abbrev aav (T : dO) : List (Nat × Bool × Sm) := [(N.I8, true, WV), (N.I9, true, WZ), (N.Rx, true, zo bT), (N.Ry, true, yS bT), (N.Rt, true, FV bT), (N.EI, true, Hq T bT), (N.RD, true, zo dJ), (N.RF, true, yS dJ), (N.Rz, true, FV dJ), (N.EK, true, Hq T dJ), (N.Fp, true, yS ay), (N.AQ, true, Hq T ay), (N.Fq, true, Yf T ay)]
noncomputable abbrev aiK : List (Nat × Plan × List Nat) := [(8, takeB [0, 2, 4] (.fork (.more 1 (.fork (.more 3 (.fork (.more 5 (takeB [6, 7, 8] (.fork (.one 9 (.fork (.one 10 (takes [11])))))) (.one 9 (.fork (.one 5 (takeB [6, 7, 8] (.fork (.one 10 (takes [11]))))))))) (.one 9 (.fork (.one 3 (.fork (.one 5 (takeB [6, 7, 8] (.fork (.one 10 (takes [11]))))))))))) (.one 9 (.fork (.one 1 (.fork (.one 3 (.fork (.one 5 (takeB [6, 7, 8] (.fork (.one 10 (takes [11]))))))))))))), []), (14, takeB [0, 1] (.fork (.one 2 (.fork (.one 3 (takes [4]))))), []), (16, takeB [0, 1] (.fork (.one 2 (.fork (.one 3 (takes [4]))))), []), (31, takeB [0, 2, 4] (.fork (.more 1 (.fork (.more 3 (.fork (.more 5 (takeB [6, 7, 8] (.fork (.one 9 (.fork (.one 10 (takes [11])))))) (.one 9 (.fork (.one 5 (takeB [6, 7, 8] (.fork (.one 10 (takes [11]))))))))) (.one 9 (.fork (.one 3 (.fork (.one 5 (takeB [6, 7, 8] (.fork (.one 10 (takes [11]))))))))))) (.one 9 (.fork (.one 1 (.fork (.one 3 (.fork (.one 5 (takeB [6, 7, 8] (.fork (.one 10 (takes [11]))))))))))))), [])]
noncomputable def Wv (T : dO) := dS (En (aav T) aiK [] [N.EI, N.AQ, N.EK] true) true F.AP
theorem aiL (T : dO) : aT prog I N.AP true (Wv T) := aU (l := aav T) (bf abh (bf abJ (bf aj8 (bf aj9 (bf akb (bf (afG T) (bf aj3 (bf aj6 (bf aj7 (bf (aft T) (bf Qe (bf (ac5 T) (bf (ac6 T) bn))))))))))))) (by kernel_rfl) (by kernel_rfl) (by kernel_rfl) (by kernel_rfl) (cs := []) (by kernel_rfl) aJ
noncomputable def BX (T : dO) (d : eU) (r : oO) (v : Int) (K : aj → Option aj) : Option aj := (bif ay.cnt (cO d r v).1 then (bif !(wG ((cO d r v).1 : ak) (cO d r v).1) then K (bl false, []) else (bif ((cO d r v).2 : Int) != (cO d r v).2 then K (bl false, []) else (bif (wG (ay.bU T (ay.bU T (cO d r v).1 (1 : Int)).1 (1 : Int)).1 (ay.bU T (cO d r v).1 (1 : Int)).1) && (ay.cnt (ay.bU T (cO d r v).1 (1 : Int)).1 && decide ((0 : Int) ≤ (1 : Int)) && decide ((1 : Int) + ((ay.gV (ay.bU T (cO d r v).1 (1 : Int)).1 : Nat) : Int) ≤ 4611686018427387904)) then (bif decide ((ay.bU T (ay.bU T (cO d r v).1 (1 : Int)).1 (1 : Int)).2 < 0) then K (bl false, []) else (bif (ay.bU T (ay.bU T (cO d r v).1 (1 : Int)).1 (1 : Int)).2 != (ay.bU T (cO d r v).1 (1 : Int)).2 then K (bl false, []) else K (bl true, []))) else none))) else none)
noncomputable def BZ (T : dO) (d : eU) (r : oO) (v : Int) (K : aj → Option aj) : Option aj := (bif bT.lim d then (bif dJ.lim r then (bif (iZ bT d && aO r.2.2.2.2.2) then (bif ay.cnt (cO d r v).1 then (bif !(wG ((cO d r v).1 : ak) (cO d r v).1) then K (bl false, []) else (bif ((cO d r v).2 : Int) != (cO d r v).2 then K (bl false, []) else (bif bT.lim d then (bif bT.cnt d then (bif !(wG (d : eU) d) then K (bl false, []) else (bif dJ.lim r then (bif dJ.cnt r then (bif !(wG (r : oO) r) then K (bl false, []) else (bif bT.cnt d then (bif dJ.cnt r then (bif decide ((dJ.bU T r (bT.bU T d (1 : Int)).2).2 < 0) then K (bl false, []) else (bif ay.cnt (cO d r v).1 then (bif !(wG ((cO d r v).1 : ak) (cO d r v).1) then K (bl false, []) else (bif ((cO d r v).2 : Int) != (cO d r v).2 then K (bl false, []) else (bif ay.cnt (cO d r v).1 then (bif (wG (ay.bU T (ay.bU T (cO d r v).1 (1 : Int)).1 (1 : Int)).1 (ay.bU T (cO d r v).1 (1 : Int)).1) && (ay.cnt (ay.bU T (cO d r v).1 (1 : Int)).1 && decide ((0 : Int) ≤ (1 : Int)) && decide ((1 : Int) + ((ay.gV (ay.bU T (cO d r v).1 (1 : Int)).1 : Nat) : Int) ≤ 4611686018427387904)) then (bif decide ((ay.bU T (ay.bU T (cO d r v).1 (1 : Int)).1 (1 : Int)).2 < 0) then K (bl false, []) else (bif (ay.bU T (ay.bU T (cO d r v).1 (1 : Int)).1 (1 : Int)).2 != (ay.bU T (cO d r v).1 (1 : Int)).2 then K (bl false, []) else (meet (bif bT.lim d then (meet (bif dJ.lim r then (meet (bif (iZ bT d && aO r.2.2.2.2.2) then (BX T d r v K) else none) (bif (iZ bT d && aO r.2.2.2.2.2) then (BX T d r v K) else none)) else none) (bif dJ.lim r then (bif (iZ bT d && aO r.2.2.2.2.2) then (BX T d r v K) else none) else none)) else none) (bif bT.lim d then (bif dJ.lim r then (bif (iZ bT d && aO r.2.2.2.2.2) then (BX T d r v K) else none) else none) else none)))) else none) else none))) else none)) else none) else none)) else none) else none)) else none) else none))) else none) else none) else none) else none)
theorem ahf (T : dO) (d : eU) (r : oO) (v : Int) (K : aj → Option aj) (am0 : bT.wf d) (am1 : dJ.wf r) : Wv T [.a (bT.cells .no d), .a (dJ.cells .no r), .s (.int .i64 v)] K = K (bl true, []) := by
 have e : Wv T [.a (bT.cells .no d), .a (dJ.cells .no r), .s (.int .i64 v)] K = (bif oD (1048576 : Int) && bT.Dh d then (bif decide (nY (bT.w d) (1048576 : Int) < 0) then K (bl true, []) else (bif oD (nY (bT.w d) (1048576 : Int)) && dJ.Dh r then (bif decide (nY (dJ.w r) (nY (bT.w d) (1048576 : Int)) < 0) then K (bl true, []) else (meet (bif bT.lim d then (meet (bif dJ.lim r then (meet (bif (iZ bT d && aO r.2.2.2.2.2) then (BZ T d r v K) else none) (bif (iZ bT d && aO r.2.2.2.2.2) then (BZ T d r v K) else none)) else none) (bif dJ.lim r then (bif (iZ bT d && aO r.2.2.2.2.2) then (BZ T d r v K) else none) else none)) else none) (bif bT.lim d then (bif dJ.lim r then (bif (iZ bT d && aO r.2.2.2.2.2) then (BZ T d r v K) else none) else none) else none))) else none)) else none) := by kernel_rfl
 refine e.trans ?_
 have hz0 : bT.Dh d = true := Rw.Bj bT d am0
 have hz1 : dJ.Dh r = true := Rw.Bj dJ r am1
 refine am7 (show oD 1048576 = true by rfl) hz0 (fun n0 e0 s0 => ?_)
 refine am7 s0 hz1 (fun n1 e1 s1 => ?_)
 have hw0 : bT.w d ≤ 1048576 := by omega
 have ahg : bT.lim d = true := Rw.Qa bT d hw0
 have aoY : bT.cnt d = true := Rw.yD bT d ahg
 have mk0 : bT.gV d ≤ 32 * bT.w d := Rw.Bl bT rfl d
 have hw1 : dJ.w r ≤ 1048576 := by omega
 have abK : dJ.lim r = true := Rw.Qa dJ r hw1
 have cnt1 : dJ.cnt r = true := Rw.yD dJ r abK
 have mk1 : dJ.gV r ≤ 32 * dJ.w r := Rw.Bl dJ rfl r
 have hpre : (iZ bT d && aO r.2.2.2.2.2) = true := (Bool.and_eq_true _ _).mpr ⟨Yg bT d am0 ahg, FZ (dB (dB (dB (dB (dB (Yg dJ r am1 abK))))))⟩
 have rw0 : ay.w (cO d r v).1 ≤ 1099511627776 := anW hw1
 have ahh : ay.cnt (cO d r v).1 = true := Rw.Jq ay (cO d r v).1 (by omega)
 have aqU : ay.gV (cO d r v).1 ≤ 32 * ay.w (cO d r v).1 := Rw.Bl ay rfl (cO d r v).1
 have k0 := Rw.Bh T bT d (1 : Int) (by omega) (by omega)
 have k1 := Rw.Bh T dJ r (bT.bU T d (1 : Int)).2 (by omega) (by omega)
 have pk2 : 0 ≤ (dJ.bU T r (bT.bU T d (1 : Int)).2).2 := by omega
 have mm0 := Rw.Bh T ay (cO d r v).1 (1 : Int) (by omega) (by omega)
 have hq0 : (1 : Int) = 1 := rfl
 have id0 : ay.bU T (ay.bU T (cO d r v).1 (1 : Int)).1 (1 : Int) = ay.bU T (cO d r v).1 (1 : Int) := Rw.FP T ay (cO d r v).1 (1 : Int)
 have hq1 : (ay.bU T (ay.bU T (cO d r v).1 (1 : Int)).1 (1 : Int)).2 = (ay.bU T (cO d r v).1 (1 : Int)).2 := congrArg Prod.snd id0
 have hg0 : wG (ay.bU T (ay.bU T (cO d r v).1 (1 : Int)).1 (1 : Int)).1 (ay.bU T (cO d r v).1 (1 : Int)).1 = true := JU.2 (congrArg Prod.fst id0)
 have anb : ay.cnt (ay.bU T (cO d r v).1 (1 : Int)).1 = true := (Rw.RV T ay (cO d r v).1 (1 : Int)).trans ahh
 have aqW : ay.gV (ay.bU T (cO d r v).1 (1 : Int)).1 = ay.gV (cO d r v).1 := Rw.Dk T ay (cO d r v).1 (1 : Int)
 have pq0 : 0 ≤ (1 : Int) := by omega
 have bq0 : (1 : Int) + ((ay.gV (ay.bU T (cO d r v).1 (1 : Int)).1 : Nat) : Int) ≤ 4611686018427387904 := by omega
 have pq1 : 0 ≤ (ay.bU T (ay.bU T (cO d r v).1 (1 : Int)).1 (1 : Int)).2 := by omega
 have t1 : BX T d r v K = K (bl true, []) := by
  unfold BX
  exact (afH ahh (ah3 (ajj hg0 anb pq0 bq0 (alQ pq1 (aji hq1 rfl)))))
 have t0 : BZ T d r v K = K (bl true, []) := by
  unfold BZ
  exact (bZ ahg (bZ abK (bZ hpre (afH ahh (ah3 (bZ ahg (afH aoY (bZ abK (afH cnt1 (bZ aoY (bZ cnt1 (alQ pk2 (afH ahh (ah3 (bZ ahh (ajj hg0 anb pq0 bq0 (alQ pq1 (aji hq1 (OD (bZ ahg (OD (bZ abK (OD (bZ hpre t1) (bZ hpre t1))) (bZ abK (bZ hpre t1)))) (bZ ahg (bZ abK (bZ hpre t1))))))))))))))))))))))
 exact (OD (bZ ahg (OD (bZ abK (OD (bZ hpre t0) (bZ hpre t0))) (bZ abK (bZ hpre t0)))) (bZ ahg (bZ abK (bZ hpre t0))))
end Go.Ev.Seat
end
section
set_option linter.unusedVariables false
namespace Go.Ev
open Go.RowKit
mutual
def ccN (P : Program) : Nat → Cc → TypeId → Bool
 | 0, _, _ => false
 | n + 1, c, t => match c, P.underlying t with
  | .int k, some (.int k') => decide (k' = k)
  | .bool, some .bool => true
  | .str, some .string => true
  | .sl r, some (.slice e) => Nat.beq (P.cellsOf e) r.n && (match akN P n r.list e with
   | some [] => true
   | _ => false)
  | _, _ => false
def akN (P : Program) : Nat → List Cc → TypeId → Option (List Cc)
 | 0, _, _ => none
 | n + 1, cs, t => match cs with
  | [] => none
  | c :: rest => bif ccN P n c t then some rest else match P.underlying t with
   | some (.struct fs) => fsN P n (c :: rest) 0 fs.toList
   | _ => none
def fsN (P : Program) : Nat → List Cc → Nat → List Field → Option (List Cc)
 | 0, _, _, _ => none
 | n + 1, cs, i, fs => match fs with
  | [] => some cs
  | f :: rest => bif Nat.beq f.offset i then (match akN P n cs f.type with
   | some cs' => bif Nat.beq (P.cellsOf f.type + cs'.length) cs.length then fsN P n cs' (i + P.cellsOf f.type) rest else none
   | none => none) else none
end
theorem aaw {P : Program} : ∀ (n : Nat), (∀ c t, ccN P n c t = true → YI P c t) ∧ (∀ cs t rest, akN P n cs t = some rest → ∃ pre, cs = pre ++ rest ∧ Ro P pre t) ∧ ∀ cs i fs rest, fsN P n cs i fs = some rest → ∃ pre, cs = pre ++ rest ∧ ab2 P pre i fs
 | 0 => ⟨fun _ _ h => by simp [ccN] at h, fun _ _ _ h => by simp [akN] at h, fun _ _ _ _ h => by simp [fsN] at h⟩
 | n + 1 => by
  obtain ⟨h1, h2, h3⟩ := aaw (P := P) n
  refine ⟨fun c t h => ?_, fun cs t rest h => ?_, fun cs i fs rest h => ?_⟩
  ·simp only [ccN] at h
   split at h
   ·rename_i k k' hu
    have := of_decide_eq_true h
    subst this
    exact .int hu
   ·rename_i hu; exact .bool hu
   ·rename_i hu; exact .str hu
   ·rename_i r e hu
    simp only [Bool.and_eq_true] at h
    obtain ⟨g1, g2⟩ := h
    split at g2
    ·rename_i hl
     obtain ⟨pre, e1, e2⟩ := h2 _ _ _ hl
     rw [List.append_nil] at e1
     exact .sl hu (Nat.eq_of_beq_eq_true g1) (e1 ▸ e2)
    ·cases g2
   ·cases h
  ·simp only [akN] at h
   split at h
   ·cases h
   ·rename_i c rest'
    cases hc : ccN P n c t with
    | true =>
     rw [hc] at h
     cases h
     exact ⟨[c], rfl, .one (h1 _ _ hc)⟩
    | false =>
     rw [hc] at h
     simp only [cond_false] at h
     split at h
     ·rename_i fs hu
      obtain ⟨pre, e1, e2⟩ := h3 _ _ _ _ h
      exact ⟨pre, e1, .st hu e2⟩
     ·cases h
  ·simp only [fsN] at h
   split at h
   ·cases h
    exact ⟨[], rfl, .nil⟩
   ·rename_i f rest'
    cases ho : Nat.beq f.offset i with
    | false => rw [ho] at h; cases h
    | true =>
     rw [ho] at h
     simp only [cond_true] at h
     split at h
     ·rename_i cs' hl
      obtain ⟨pre, e1, e2⟩ := h2 _ _ _ hl
      cases hb : Nat.beq (P.cellsOf f.type + cs'.length) cs.length with
      | false => rw [hb] at h; cases h
      | true =>
       rw [hb] at h
       simp only [cond_true] at h
       have hlen := Nat.eq_of_beq_eq_true hb
       have hp : P.cellsOf f.type = pre.length := by rw [e1, List.length_append] at hlen; omega
       obtain ⟨pre2, e3, e4⟩ := h3 _ _ _ _ h
       rw [hp] at e4
       refine ⟨pre ++ pre2, by rw [e1, e3, List.append_assoc], .cons (Nat.eq_of_beq_eq_true ho) hp e2 e4⟩
     ·cases h
def ccB (P : Program) (c : Cc) (t : TypeId) : Bool := ccN P 100 c t
def rwB (P : Program) (r : Rw) (t : TypeId) : Bool := match akN P 100 r.list t with
 | some [] => true
 | _ => false
theorem an2 {P : Program} (c : Cc) {t : TypeId} (h : ccB P c t = true) : YI P c t := (aaw 100).1 c t h
theorem aml {P : Program} (r : Rw) {t : TypeId} (h : rwB P r t = true) : anB P r t := by
 unfold rwB at h
 split at h
 ·rename_i hl
  obtain ⟨pre, e1, e2⟩ := (aaw 100).2.1 _ _ _ hl
  rw [List.append_nil] at e1
  show Ro P r.list t
  rw [e1]; exact e2
 ·cases h
end Go.Ev
end
section
set_option linter.unusedVariables false
namespace Go.Ev
theorem cells_one {P : Program} {W : World} {r : Reach} {base : Nat} {c : Cc} {t : TypeId} {v : Value} (h : YI P c t) (ok : Value.okWide P W r base t v) : v.cells.toList = [v] := by
 cases v with
 | agg cs =>
  exfalso
  unfold Value.okWide at ok
  cases h with
  | int h => rw [h] at ok; simp [Cell.okWide, Cell.ok, h] at ok
  | bool h => rw [h] at ok; simp [Cell.okWide, Cell.ok, h] at ok
  | str h => rw [h] at ok; simp [Cell.okWide, Cell.ok, h] at ok
  | sl h _ _ => rw [h] at ok; simp [Cell.okWide, Cell.ok, h] at ok
 | _ => rfl
end Go.Ev
end
section
set_option linter.unusedVariables false
namespace Go.Ev
open Go
variable {H : Type} {enc : TypeId × Value → H} {P : Program} {w : World} {base : Nat} {sp : Nat → Bool} {held : Bool}
theorem ahi {fuel : Nat} {t e : TypeId} {n m : Nat} {cs : List Value} {ds : List (DataW H)} {p : List MemPlace}
  (ht : P.underlying t = some (.array n e)) (hce : P.cellsOf e = m) (hct : P.cellsOf t = n * m)
  (h : DataW.trod enc P w base sp held fuel t cs = some (.agg ds, p)) :
  cs.length = n * m ∧ ds.length = n ∧ ∀ (i : Nat) (d : DataW H), ds[i]? = some d → ∃ f q, DataW.trod enc P w base sp held f e ((cs.drop (i * m)).take m) = some (d, q) := by
 cases fuel with
 | zero => simp [DataW.trod] at h
 | succ fuel =>
  simp only [DataW.trod, ht, hce, hct] at h
  split at h
  ·rename_i hl
   obtain ⟨xs, hm, hx⟩ := Option.map_eq_some_iff.1 h
   have hxs : xs.map (·.1) = ds := by
    have := congrArg Prod.fst hx
    simpa using this
   have hxl : xs.length = n := by simpa using Lib.mapM_length hm
   refine ⟨by simpa using hl, by rw [← hxs]; simp [hxl], fun i d hd => ?_⟩
   rw [← hxs] at hd
   rw [List.getElem?_map, Option.map_eq_some_iff] at hd
   obtain ⟨b, hb, rfl⟩ := hd
   have hi : i < n := by
    have := (List.getElem?_eq_some_iff.1 hb).1
    omega
   obtain ⟨b', hb', hf⟩ := Lib.mapM_at hm i i (by simp [hi])
   obtain rfl := Option.some.inj (hb.symm.trans hb')
   exact ⟨fuel, b.2, hf⟩
  ·cases h
theorem aeI {fuel : Nat} {t : TypeId} {k : IntKind} {cs : List Value} {z : Int} {p : List MemPlace} (ht : P.underlying t = some (.int k))
  (h : DataW.trod enc P w base sp held fuel t cs = some (.lit (.int k z), p)) : cs = [.int k z] := by
 cases fuel with
 | zero => simp [DataW.trod] at h
 | succ fuel =>
  obtain ⟨z', hc, h2, _⟩ := DataW.trod_int ht h
  cases h2
  exact hc
theorem amm {fuel : Nat} {t : TypeId} {fs : Array Field} {f g : Field} {k : IntKind} {cs : List Value} {x y : Int} {p : List MemPlace}
  (ht : P.underlying t = some (.struct fs)) (hfs : fs.toList = [f, g]) (hc : P.cellsOf t = 2) (hf0 : f.offset = 0) (hg0 : g.offset = 1) (hf : P.underlying f.type = some (.int k)) (hg : P.underlying g.type = some (.int k))
  (hcf : P.cellsOf f.type = 1) (hcg : P.cellsOf g.type = 1)
  (h : DataW.trod enc P w base sp held fuel t cs = some (.agg [.lit (.int k x), .lit (.int k y)], p)) : cs = [.int k x, .int k y] := by
 cases fuel with
 | zero => simp [DataW.trod] at h
 | succ fuel =>
  simp only [DataW.trod, ht, hfs, hc, hf0, hg0, hcf, hcg] at h
  split at h
  ·rename_i hl
   obtain ⟨xs, hm, hx⟩ := Option.map_eq_some_iff.1 h
   have hxs : xs.map (·.1) = [.lit (.int k x), .lit (.int k y)] := by
    have := congrArg Prod.fst hx
    simpa using this
   obtain ⟨b0, hb0, h0⟩ := Lib.mapM_at hm 0 f rfl
   obtain ⟨b1, hb1, h1⟩ := Lib.mapM_at hm 1 g rfl
   have e0 : b0.1 = .lit (.int k x) := by
    have := congrArg (·[0]?) hxs
    simpa [hb0] using this
   have e1 : b1.1 = .lit (.int k y) := by
    have := congrArg (·[1]?) hxs
    simpa [hb1] using this
   obtain ⟨d0, q0⟩ := b0
   obtain ⟨d1, q1⟩ := b1
   simp only at e0 e1
   subst e0 e1
   rw [hf0, hcf] at h0
   rw [hg0, hcg] at h1
   have a0 := aeI hf h0
   have a1 := aeI hg h1
   match cs, hl, a0, a1 with
   | [u, v], _, a0, a1 =>
    simp at a0 a1
    rw [a0, a1]
   | [], hl, _, _ => simp at hl
   | [_], hl, _, _ => simp at hl
   | _ :: _ :: _ :: _, hl, _, _ => simp at hl
  ·cases h
theorem ajz {laid : List (String × DataW Unit)} {W : World} {ps : List MemPlace} (h : DataW.LaidVars P W laid ps) {i : Nat} {name : String} {d : DataW Unit} (hi : laid[i]? = some (name, d)) {g : Nat} {t : TypeId}
  (hg : P.globalNamed name = some g) (hty : (P.globals[g]?).map (·.type) = some t) : ∃ cs fuel p, W.var? P name = some cs ∧ DataW.trod (fun _ => ()) P W 0 (fun _ => true) false fuel t cs.toList = some (d, p) := by
 induction laid generalizing ps i with
 | nil => simp at hi
 | cons x rest ih =>
  obtain ⟨n, d'⟩ := x
  obtain ⟨g', t', cs, fuel, p, q, hg', ht', hvar, hd, hr, _⟩ := h
  cases i with
  | zero =>
   simp only [List.getElem?_cons_zero, Option.some.injEq, Prod.mk.injEq] at hi
   obtain ⟨rfl, rfl⟩ := hi
   obtain rfl := Option.some.inj (hg.symm.trans hg')
   obtain rfl := Option.some.inj (hty.symm.trans ht')
   exact ⟨cs, fuel, p, hvar, hd⟩
  | succ i => exact ih hr (by simpa using hi)
theorem amn {W : World} {name : String} {g : Nat} {cs : Array Value} (hg : P.globalNamed name = some g) (h : W.var? P name = some cs) : g < W.heap.size := by
 unfold World.var? at h
 rw [hg] at h
 simp only [Option.bind_some] at h
 split at h
 ·rename_i hh
  exact (Array.getElem?_eq_some_iff.1 hh).1
 ·cases h
theorem akO {W : World} {d0 d1 : DataW Unit} (hm : laidMet P [("unicode/utf8.acceptRanges", d1), ("unicode/utf8.first", d0)] W)
  (hd0 : d0 = .agg (gU.map fun z => .lit (.int .u8 z))) (hd1 : d1 = .agg (jJ.map fun z => .agg [.lit (.int .u8 z.1), .lit (.int .u8 z.2)]))
  {t0 t1 e0 e1 : TypeId} (hg0 : P.globalNamed "unicode/utf8.first" = some 0) (hg1 : P.globalNamed "unicode/utf8.acceptRanges" = some 1)
  (hy0 : (P.globals[0]?).map (·.type) = some t0) (hy1 : (P.globals[1]?).map (·.type) = some t1)
  (ht0 : P.underlying t0 = some (.array 256 e0)) (ht1 : P.underlying t1 = some (.array 16 e1)) (he0 : P.underlying e0 = some (.int .u8))
  {fs : Array Field} {f g : Field} (he1 : P.underlying e1 = some (.struct fs)) (hfs : fs.toList = [f, g]) (hf0 : f.offset = 0) (hgo : g.offset = 1) (hf : P.underlying f.type = some (.int .u8)) (hg : P.underlying g.type = some (.int .u8))
  (hcf : P.cellsOf f.type = 1) (hcg : P.cellsOf g.type = 1) (hc0 : P.cellsOf t0 = 256) (hc1 : P.cellsOf t1 = 32) (ap2 : P.cellsOf e0 = 1) (ao0 : P.cellsOf e1 = 2) : als Yc W.heap.size W := by
 obtain ⟨ps, hL, _⟩ := hm
 obtain ⟨cs1, fu1, p1, hv1, hr1⟩ := ajz hL (i := 0) rfl hg1 hy1
 obtain ⟨cs0, fu0, p0, hv0, hr0⟩ := ajz hL (i := 1) rfl hg0 hy0
 subst hd0 hd1
 obtain ⟨l0, n0, r0⟩ := ahi (n := 256) (m := 1) ht0 ap2 hc0 hr0
 obtain ⟨l1, n1, r1⟩ := ahi (n := 16) (m := 2) ht1 ao0 hc1 hr1
 intro gg r xs hgg
 unfold Yc at hgg
 by_cases h0 : gg = 0
 ·subst h0
  simp only [Nat.beq, cond_true, Option.some.injEq, Sigma.mk.injEq] at hgg
  obtain ⟨rfl, hxs⟩ := hgg
  cases hxs
  refine ⟨amn hg0 hv0, fun i d hd => ?_⟩
  obtain ⟨f', q, hq⟩ := r0 i _ (by rw [List.getElem?_map, hd]; rfl)
  have hcs := aeI he0 hq
  refine ⟨[.int .u8 d], rfl, fun j v hj => ?_, fun C w => ⟨.int .u8 d, [], rfl, ⟨rfl, rfl⟩, rfl⟩⟩
  match j, hj with
  | 0, hj =>
   cases hj
   rw [World.var?_cell hg0 hv0]
   have := congrArg (·[0]?) hcs
   simpa [Rw.n, List.getElem?_take, List.getElem?_drop] using this
  | j + 1, hj => simp at hj
 ·by_cases h1 : gg = 1
  ·subst h1
   simp only [Nat.beq, cond_true, cond_false, Option.some.injEq, Sigma.mk.injEq] at hgg
   obtain ⟨rfl, hxs⟩ := hgg
   cases hxs
   refine ⟨amn hg1 hv1, fun i d hd => ?_⟩
   obtain ⟨f', q, hq⟩ := r1 i _ (by rw [List.getElem?_map, hd]; rfl)
   have hcs := amm he1 hfs ao0 hf0 hgo hf hg hcf hcg hq
   refine ⟨[.int .u8 d.1, .int .u8 d.2], rfl, fun j v hj => ?_, fun C w => ⟨.int .u8 d.1, [.int .u8 d.2], rfl, ⟨rfl, rfl⟩, ⟨.int .u8 d.2, [], rfl, ⟨rfl, rfl⟩, rfl⟩⟩⟩
   match j, hj with
   | 0, hj =>
    cases hj
    rw [World.var?_cell hg1 hv1]
    have := congrArg (·[0]?) hcs
    simpa [Rw.n, List.getElem?_take, List.getElem?_drop] using this
   | 1, hj =>
    cases hj
    rw [World.var?_cell hg1 hv1]
    have := congrArg (·[1]?) hcs
    simpa [Rw.n, List.getElem?_take, List.getElem?_drop] using this
   | j + 2, hj => simp at hj
  ·exfalso
   match gg, h0, h1 with
   | 0, h0, _ => exact h0 rfl
   | 1, _, h1 => exact h1 rfl
   | n + 2, _, _ => simp [Nat.beq] at hgg
def u8B (P : Program) (t : TypeId) : Bool := match P.underlying t with
 | some (.int .u8) => P.cellsOf t == 1
 | _ => false
theorem aiM {t : TypeId} (h : u8B P t = true) : P.underlying t = some (.int .u8) ∧ P.cellsOf t = 1 := by
 unfold u8B at h
 split at h
 ·rename_i e; exact ⟨e, by simpa using h⟩
 ·cases h
def ao2 (P : Program) (t : TypeId) : Bool := match P.underlying t with
 | some (.struct fs) => match fs.toList with
  | [f, g] => f.offset == 0 && g.offset == 1 && u8B P f.type && u8B P g.type && P.cellsOf t == 2
  | _ => false
 | _ => false
def ao3 (P : Program) (t0 t1 e0 e1 : TypeId) : Bool :=
 P.globalNamed "unicode/utf8.first" == some 0 && P.globalNamed "unicode/utf8.acceptRanges" == some 1 && (P.globals[0]?).map (·.type) == some t0 && (P.globals[1]?).map (·.type) == some t1 &&
 P.cellsOf t0 == 256 && P.cellsOf t1 == 32 && u8B P e0 && ao2 P e1
theorem aiN {W : World} {d0 d1 : DataW Unit} (hm : laidMet P [("unicode/utf8.acceptRanges", d1), ("unicode/utf8.first", d0)] W)
  (hd0 : d0 = .agg (gU.map fun z => .lit (.int .u8 z))) (hd1 : d1 = .agg (jJ.map fun z => .agg [.lit (.int .u8 z.1), .lit (.int .u8 z.2)]))
  (t0 t1 e0 e1 : TypeId) (hB : ao3 P t0 t1 e0 e1 = true) (ht0 : P.underlying t0 = some (.array 256 e0)) (ht1 : P.underlying t1 = some (.array 16 e1)) : als Yc W.heap.size W := by
 unfold ao3 at hB
 simp only [Bool.and_eq_true, beq_iff_eq] at hB
 obtain ⟨⟨⟨⟨⟨⟨⟨a1, a2⟩, a3⟩, a4⟩, a5⟩, a6⟩, a7⟩, a8⟩ := hB
 unfold ao2 at a8
 split at a8
 ·rename_i fs hfs
  split at a8
  ·rename_i f g hfg
   simp only [Bool.and_eq_true, beq_iff_eq] at a8
   obtain ⟨⟨⟨⟨b1, b2⟩, b3⟩, b4⟩, b5⟩ := a8
   obtain ⟨c1, c2⟩ := aiM b3
   obtain ⟨c3, c4⟩ := aiM b4
   obtain ⟨c5, c6⟩ := aiM a7
   exact akO hm hd0 hd1 a1 a2 a3 a4 ht0 ht1 c5 hfs hfg b1 b2 c1 c3 c2 c4 a5 a6 c6 b5
  ·cases a8
 ·cases a8
def lay (xs : List Value) : Obj → Obj
 | .cells _ t frozen => .cells xs.toArray t frozen
 | o => o
def an3 (h : Array Obj) : Array Obj := (h.modify 0 (lay (gU.map fun z => .int .u8 z))).modify 1 (lay (jJ.flatMap fun z => [.int .u8 z.1, .int .u8 z.2]))
end Go.Ev
end
