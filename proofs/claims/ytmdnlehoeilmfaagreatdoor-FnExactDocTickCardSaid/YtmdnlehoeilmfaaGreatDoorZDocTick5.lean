/- DocTick: parts Futf8Valid FiisText Fiin FiisSession FiareCommits1 FslicesIndexFuncCommit FslicesContainsFuncCommit FslicesClonebytesbyte FiEditcopied FieditsOf Futf8RuneStart FiisCut FiisEdit EvGrow EvConc FiEditdo FiEditsDo FbytesEqual FiareCommits FiisClock FiEditisSmall FiareStacked1 FslicesIndexFuncEdit FslicesContainsFuncEdit FiareStacked FiisStack FslicesGrowEdit FslicesConcatEdit FiEditfits FiareMembers1 FslicesIndexFuncEditFits FslicesContainsFuncEditFits FiareMembers FiisLease FcmpisNaNint FcmpCompareint FcmpOrint FicompareLeases FiareLeases FiLeaseisActive, packed by squash.py. -/
import Derived.Shelf.Spec.SlicesGrow
import Derived.Laws.AppendOwn
import Derived.Test.YtmdnlehoeilmfaaGreatDoorZDocTick0
import Derived.Test.YtmdnlehoeilmfaaGreatDoorZDocTick1
import Derived.Test.YtmdnlehoeilmfaaGreatDoorZDocTick2
import Derived.Test.YtmdnlehoeilmfaaGreatDoorZDocTick3
import Derived.Test.YtmdnlehoeilmfaaGreatDoorZDocTick4
set_option linter.unusedVariables false
set_option linter.unusedSimpArgs false
section
/- utf8_Valid: its contract. -/
namespace Go.Ev.Seat
open Go.RowKit
set_option maxRecDepth 100000
set_option linter.unusedVariables false
set_option linter.unusedSimpArgs false
def z_utf8_Valid_10_0 (x0 : List Int) (x3 : Int) : St := { tm := ([(.l .no bytesR x0), .x, .x, (.s (.int .u8 x3))] ++ List.replicate 184 .x), ob := [], nx := 0, io := [] }
def sh_utf8_Valid_10_0 : Ss := { tm := (.cons (.l .no bytesR) (.cons (.x) (.cons (.x) (.cons (.int .u8) (xsh 184))))), ob := .nil, nx := 0, io := .nil }
def d_utf8_Valid_10_0 (x0 : List Int) (x3 : Int) : sh_utf8_Valid_10_0.T := ((x0, ((), ((), (x3, xd 184)))), (), ())
def s_utf8_Valid_10_0 (x0 : List Int) (x3 : Int) : St := { tm := ([(.l .no bytesR x0), .x, .x, (.s (.int .u8 x3))] ++ List.replicate 184 .x), ob := [], nx := 0, io := [] }
theorem se_utf8_Valid_10_0 (x0 : List Int) (x3 : Int) : sh_utf8_Valid_10_0.mk' (d_utf8_Valid_10_0 x0 x3) = (s_utf8_Valid_10_0 x0 x3) := by kernel_rfl
def w_utf8_Valid_10_0 (d : sh_utf8_Valid_10_0.T) (f : (List Int) → Int → Option Ret) : Option Ret := match d with | ((x0, (_, (_, (x3, _)))), _, _) => f x0 x3
noncomputable def P_utf8_Valid_10_0 (x0 : List Int) (x3 : Int) (nx0 : (List Int) → Int → Option Ret) (k0 : (List Int) → Int → Option Ret) : Option Ret := (bif (decide ((((List.length x0) : Nat) : Int) > (32 : Int))) then (bif (decide ((8 : Int) ≤ (((List.length x0) : Nat) : Int))) then (bif (decide ((16 : Int) ≤ (((List.length x0) : Nat) : Int))) then (bif (decide ((24 : Int) ≤ (((List.length x0) : Nat) : Int))) then (bif (Nat.ble 8 (List.length x0)) then (bif (Nat.ble 8 (List.length (List.drop 8 x0))) then (bif (Nat.ble 8 (List.length (List.drop 16 x0))) then (bif (Nat.ble 8 (List.length (List.drop 24 x0))) then (bif ((band .u64 (bor .u64 (bor .u64 (w8 x0) (w8 (List.drop 8 x0))) (bor .u64 (w8 (List.drop 16 x0)) (w8 (List.drop 24 x0)))) (9259542123273814144 : Int)) == (0 : Int)) then (bif (decide ((32 : Int) ≤ (((List.length x0) : Nat) : Int))) then (nx0 (List.drop 32 x0) x3) else none) else (k0 x0 x3)) else none) else none) else none) else none) else none) else none) else none) else (k0 x0 x3))
noncomputable def Q_utf8_Valid_10_0 : Nat → (List Int) → Int → ((List Int) → Int → Option Ret) → Option Ret
  | 0, _, _, _ => none
  | m + 1, x0, x3, k0 => P_utf8_Valid_10_0 x0 x3 (fun x0 x3 => (Q_utf8_Valid_10_0 m x0 x3 k0)) k0
noncomputable def R_utf8_Valid_10_0 (x0 : List Int) (x3 : Int) (k0 : (List Int) → Int → Option Ret) : Option Ret := Q_utf8_Valid_10_0 (List.length x0 + x3.toNat + 2) x0 x3 k0
noncomputable def W_utf8_Valid_10 : LoopFn := (fun (σ : St) (K : Ex → St → Option Ret) => (match sh_utf8_Valid_10_0.un σ with | some d => w_utf8_Valid_10_0 d (fun x0 x3 => R_utf8_Valid_10_0 x0 x3 (fun x0 x3 => (K (.ext 2) (z_utf8_Valid_10_0 x0 x3)))) | none => none))
def z_utf8_Valid_2_0 (x2 : Bool) : St := { tm := ([.x, .x, (.s (.bool x2))] ++ List.replicate 185 .x), ob := [], nx := 0, io := [] }
def z_utf8_Valid_2_1 : St := { tm := ([] ++ List.replicate 188 .x), ob := [], nx := 0, io := [] }
def sh_utf8_Valid_2_0 : Ss := { tm := (.cons (.l .no bytesR) (xsh 187)), ob := .nil, nx := 0, io := .nil }
def d_utf8_Valid_2_0 (x0 : List Int) : sh_utf8_Valid_2_0.T := ((x0, xd 187), (), ())
def s_utf8_Valid_2_0 (x0 : List Int) : St := { tm := ([(.l .no bytesR x0)] ++ List.replicate 187 .x), ob := [], nx := 0, io := [] }
theorem se_utf8_Valid_2_0 (x0 : List Int) : sh_utf8_Valid_2_0.mk' (d_utf8_Valid_2_0 x0) = (s_utf8_Valid_2_0 x0) := by kernel_rfl
def w_utf8_Valid_2_0 (d : sh_utf8_Valid_2_0.T) (f : (List Int) → Option Ret) : Option Ret := match d with | ((x0, _), _, _) => f x0
noncomputable def P_utf8_Valid_2_0 (x0 : List Int) (nx0 : (List Int) → Option Ret) (k0 : Bool → Option Ret) (k1 : Option Ret) : Option Ret := (bif (decide ((((List.length x0) : Nat) : Int) > (0 : Int))) then (bif (decide ((0 : Int) < (((List.length x0) : Nat) : Int))) then (bif (decide ((List.getD x0 0 (0 : Int)) < (128 : Int))) then (bif (decide ((1 : Int) ≤ (((List.length x0) : Nat) : Int))) then (bif (decide ((((List.length (List.drop 1 x0)) : Nat) : Int) > (8 : Int))) then (bif (Nat.ble 8 (List.length (List.drop 1 x0))) then (bif ((band .u64 (w8 (List.drop 1 x0)) (9259542123273814144 : Int)) == (0 : Int)) then (bif (decide ((8 : Int) ≤ (((List.length (List.drop 1 x0)) : Nat) : Int))) then (bif (decide ((((List.length (List.drop 8 (List.drop 1 x0))) : Nat) : Int) > (16 : Int))) then (bif (decide ((8 : Int) ≤ (((List.length (List.drop 8 (List.drop 1 x0))) : Nat) : Int))) then (bif (Nat.ble 8 (List.length (List.drop 8 (List.drop 1 x0)))) then (bif (Nat.ble 8 (List.length (List.drop 8 (List.drop 8 (List.drop 1 x0))))) then (bif ((band .u64 (bor .u64 (w8 (List.drop 8 (List.drop 1 x0))) (w8 (List.drop 8 (List.drop 8 (List.drop 1 x0))))) (9259542123273814144 : Int)) == (0 : Int)) then (bif (decide ((16 : Int) ≤ (((List.length (List.drop 8 (List.drop 1 x0))) : Nat) : Int))) then (R_utf8_Valid_10_0 (List.drop 16 (List.drop 8 (List.drop 1 x0))) (List.getD x0 0 (0 : Int)) (fun y0 y1 => (nx0 y0))) else none) else (nx0 (List.drop 8 (List.drop 1 x0)))) else none) else none) else none) else (nx0 (List.drop 8 (List.drop 1 x0)))) else none) else (nx0 (List.drop 1 x0))) else none) else (nx0 (List.drop 1 x0))) else none) else (bif ((decide ((0 : Int) ≤ (List.getD x0 0 (0 : Int)))) && (decide ((List.getD x0 0 (0 : Int)) < ((256 : Nat) : Int)))) then (bif (Nat.blt (Int.toNat (List.getD x0 0 (0 : Int))) (List.length utfFirst)) then (bif ((decide ((0 : Int) ≤ (shrI .u8 (List.getD utfFirst (Int.toNat (List.getD x0 0 (0 : Int))) (0 : Int)) (4 : Int)))) && (decide ((shrI .u8 (List.getD utfFirst (Int.toNat (List.getD x0 0 (0 : Int))) (0 : Int)) (4 : Int)) < ((16 : Nat) : Int)))) then (bif (Nat.blt (Int.toNat (shrI .u8 (List.getD utfFirst (Int.toNat (List.getD x0 0 (0 : Int))) (0 : Int)) (4 : Int))) (List.length utfAccept)) then (bif ((IntKind.wrap .i64 (band .u8 (List.getD utfFirst (Int.toNat (List.getD x0 0 (0 : Int))) (0 : Int)) (7 : Int))) == (2 : Int)) then (bif (decide ((((List.length x0) : Nat) : Int) < (2 : Int))) then (k0 false) else (bif (decide ((1 : Int) < (((List.length x0) : Nat) : Int))) then (bif (decide ((List.getD x0 1 (0 : Int)) < (List.getD utfAccept (Int.toNat (shrI .u8 (List.getD utfFirst (Int.toNat (List.getD x0 0 (0 : Int))) (0 : Int)) (4 : Int))) (accR.dflt)).1)) then (k0 false) else (bif (decide ((1 : Int) < (((List.length x0) : Nat) : Int))) then (bif (decide ((List.getD utfAccept (Int.toNat (shrI .u8 (List.getD utfFirst (Int.toNat (List.getD x0 0 (0 : Int))) (0 : Int)) (4 : Int))) (accR.dflt)).2 < (List.getD x0 1 (0 : Int)))) then (k0 false) else (bif (decide ((2 : Int) ≤ (((List.length x0) : Nat) : Int))) then (nx0 (List.drop 2 x0)) else none)) else none)) else none)) else (bif ((IntKind.wrap .i64 (band .u8 (List.getD utfFirst (Int.toNat (List.getD x0 0 (0 : Int))) (0 : Int)) (7 : Int))) == (3 : Int)) then (bif (decide ((((List.length x0) : Nat) : Int) < (3 : Int))) then (k0 false) else (bif (decide ((1 : Int) < (((List.length x0) : Nat) : Int))) then (bif (decide ((List.getD x0 1 (0 : Int)) < (List.getD utfAccept (Int.toNat (shrI .u8 (List.getD utfFirst (Int.toNat (List.getD x0 0 (0 : Int))) (0 : Int)) (4 : Int))) (accR.dflt)).1)) then (k0 false) else (bif (decide ((1 : Int) < (((List.length x0) : Nat) : Int))) then (bif (decide ((List.getD utfAccept (Int.toNat (shrI .u8 (List.getD utfFirst (Int.toNat (List.getD x0 0 (0 : Int))) (0 : Int)) (4 : Int))) (accR.dflt)).2 < (List.getD x0 1 (0 : Int)))) then (k0 false) else (bif (decide ((2 : Int) < (((List.length x0) : Nat) : Int))) then (bif (decide ((List.getD x0 2 (0 : Int)) < (128 : Int))) then (k0 false) else (bif (decide ((2 : Int) < (((List.length x0) : Nat) : Int))) then (bif (decide ((191 : Int) < (List.getD x0 2 (0 : Int)))) then (k0 false) else (bif (decide ((3 : Int) ≤ (((List.length x0) : Nat) : Int))) then (nx0 (List.drop 3 x0)) else none)) else none)) else none)) else none)) else none)) else (bif ((IntKind.wrap .i64 (band .u8 (List.getD utfFirst (Int.toNat (List.getD x0 0 (0 : Int))) (0 : Int)) (7 : Int))) == (4 : Int)) then (bif (decide ((((List.length x0) : Nat) : Int) < (4 : Int))) then (k0 false) else (bif (decide ((1 : Int) < (((List.length x0) : Nat) : Int))) then (bif (decide ((List.getD x0 1 (0 : Int)) < (List.getD utfAccept (Int.toNat (shrI .u8 (List.getD utfFirst (Int.toNat (List.getD x0 0 (0 : Int))) (0 : Int)) (4 : Int))) (accR.dflt)).1)) then (k0 false) else (bif (decide ((1 : Int) < (((List.length x0) : Nat) : Int))) then (bif (decide ((List.getD utfAccept (Int.toNat (shrI .u8 (List.getD utfFirst (Int.toNat (List.getD x0 0 (0 : Int))) (0 : Int)) (4 : Int))) (accR.dflt)).2 < (List.getD x0 1 (0 : Int)))) then (k0 false) else (bif (decide ((2 : Int) < (((List.length x0) : Nat) : Int))) then (bif (decide ((List.getD x0 2 (0 : Int)) < (128 : Int))) then (k0 false) else (bif (decide ((2 : Int) < (((List.length x0) : Nat) : Int))) then (bif (decide ((191 : Int) < (List.getD x0 2 (0 : Int)))) then (k0 false) else (bif (decide ((3 : Int) < (((List.length x0) : Nat) : Int))) then (bif (decide ((List.getD x0 3 (0 : Int)) < (128 : Int))) then (k0 false) else (bif (decide ((3 : Int) < (((List.length x0) : Nat) : Int))) then (bif (decide ((191 : Int) < (List.getD x0 3 (0 : Int)))) then (k0 false) else (bif (decide ((4 : Int) ≤ (((List.length x0) : Nat) : Int))) then (nx0 (List.drop 4 x0)) else none)) else none)) else none)) else none)) else none)) else none)) else none)) else (k0 false)))) else none) else none) else none) else none)) else none) else k1)
noncomputable def Q_utf8_Valid_2_0 : Nat → (List Int) → (Bool → Option Ret) → (Option Ret) → Option Ret
  | 0, _, _, _ => none
  | m + 1, x0, k0, k1 => P_utf8_Valid_2_0 x0 (fun x0 => (Q_utf8_Valid_2_0 m x0 k0 k1)) k0 k1
noncomputable def R_utf8_Valid_2_0 (x0 : List Int) (k0 : Bool → Option Ret) (k1 : Option Ret) : Option Ret := Q_utf8_Valid_2_0 (List.length x0 + 2) x0 k0 k1
noncomputable def W_utf8_Valid_2 : LoopFn := (fun (σ : St) (K : Ex → St → Option Ret) => (match sh_utf8_Valid_2_0.un σ with | some d => w_utf8_Valid_2_0 d (fun x0 => R_utf8_Valid_2_0 x0 (fun x2 => (K .ret (z_utf8_Valid_2_0 x2))) (K (.ext 0) z_utf8_Valid_2_1)) | none => none))
noncomputable abbrev E_utf8_Valid : Env := En [(N.utf8_word_bytes, true, S_utf8_word_bytes)] [(8, takeB [0, 1, 2, 3, 4, 6, 7] (.fork (.one 5 (.fork (.one 8 (takes [9, 10, 11, 12]))))), []), (10, takeB [0, 1, 2, 3, 4, 6, 7, 10, 11, 13, 14] (.fork (.one 5 (.fork (.one 8 (takeB [9] (.fork (.one 12 (.fork (.one 15 (takes [16, 17, 18, 19, 20])))))))))), []), (18, takes [0, 1, 2, 3, 4, 5, 6, 7, 8, 9, 10, 11, 12, 13, 14, 15, 16, 17, 18], []), (22, takes [0, 1, 2, 3, 4, 5, 6, 7, 8, 9, 10, 11, 12, 13, 14, 15, 16, 17, 18, 19, 20, 21, 22, 23, 24, 25, 26, 27, 28, 29, 30], []), (26, takes [0, 1, 2, 3, 4, 5, 6, 7, 8, 9, 10, 11, 12, 13, 14, 15, 16, 17, 18, 19, 20, 21, 22, 23, 24, 25, 26, 27, 28, 29, 30, 31, 32, 33, 34, 35, 36, 37, 38, 39, 40, 41, 42], [])] [(10, [0,3], [0,2,3], W_utf8_Valid_10), (2, [0], [2], W_utf8_Valid_2)] [] false 0 []
theorem st_utf8_Valid_10_0 (m : Nat) (x0 : List Int) (x3 : Int) (K : Ex → St → Option Ret) : rounds (run E_utf8_Valid (bodyOf F.utf8_Valid 10)) [0,3] [0,2,3] (m + 1) (s_utf8_Valid_10_0 x0 x3) K = P_utf8_Valid_10_0 x0 x3 (fun x0 x3 => (rounds (run E_utf8_Valid (bodyOf F.utf8_Valid 10)) [0,3] [0,2,3] m (s_utf8_Valid_10_0 x0 x3) K)) (fun x0 x3 => (K (.ext 2) (z_utf8_Valid_10_0 x0 x3))) := by kernel_rfl
theorem q_utf8_Valid_10 (K : Ex → St → Option Ret) : ∀ m : Nat, (∀ (x0 : List Int) (x3 : Int), rounds (run E_utf8_Valid (bodyOf F.utf8_Valid 10)) [0,3] [0,2,3] m (s_utf8_Valid_10_0 x0 x3) K = Q_utf8_Valid_10_0 m x0 x3 (fun x0 x3 => (K (.ext 2) (z_utf8_Valid_10_0 x0 x3))))
  | 0 => (fun _ _ => rfl)
  | m + 1 => (fun x0 x3 => (by rw [st_utf8_Valid_10_0, show (fun x0 x3 => (rounds (run E_utf8_Valid (bodyOf F.utf8_Valid 10)) [0,3] [0,2,3] m (s_utf8_Valid_10_0 x0 x3) K)) = (fun x0 x3 => (Q_utf8_Valid_10_0 m x0 x3 (fun x0 x3 => (K (.ext 2) (z_utf8_Valid_10_0 x0 x3))))) from funext fun x0 => funext fun x3 => (q_utf8_Valid_10 K m) x0 x3]; rfl))
theorem loopK_utf8_Valid_10 : LoopOk E_utf8_Valid (bodyOf F.utf8_Valid 10) := by
  refine loopW_ok (n := 10) (F := W_utf8_Valid_10) (by kernel_rfl) rfl (li := [0,3]) (lo := [0,2,3]) rfl (fun σ K r hr => ?_)
  unfold W_utf8_Valid_10 at hr
  split at hr
  · rename_i d hd
    rw [Ss.un_mk hd]
    exact ⟨_, ((congrArg (fun z => rounds (run E_utf8_Valid (bodyOf F.utf8_Valid 10)) [0,3] [0,2,3] _ z K) (se_utf8_Valid_10_0 _ _)).trans ((q_utf8_Valid_10 K _) _ _)).trans hr⟩
  · cases hr
theorem st_utf8_Valid_2_0 (m : Nat) (x0 : List Int) (K : Ex → St → Option Ret) : rounds (run E_utf8_Valid (bodyOf F.utf8_Valid 2)) [0] [2] (m + 1) (s_utf8_Valid_2_0 x0) K = P_utf8_Valid_2_0 x0 (fun x0 => (rounds (run E_utf8_Valid (bodyOf F.utf8_Valid 2)) [0] [2] m (s_utf8_Valid_2_0 x0) K)) (fun x2 => (K .ret (z_utf8_Valid_2_0 x2))) (K (.ext 0) z_utf8_Valid_2_1) := by kernel_rfl
theorem q_utf8_Valid_2 (K : Ex → St → Option Ret) : ∀ m : Nat, (∀ (x0 : List Int), rounds (run E_utf8_Valid (bodyOf F.utf8_Valid 2)) [0] [2] m (s_utf8_Valid_2_0 x0) K = Q_utf8_Valid_2_0 m x0 (fun x2 => (K .ret (z_utf8_Valid_2_0 x2))) (K (.ext 0) z_utf8_Valid_2_1))
  | 0 => (fun _ => rfl)
  | m + 1 => (fun x0 => (by rw [st_utf8_Valid_2_0, show (fun x0 => (rounds (run E_utf8_Valid (bodyOf F.utf8_Valid 2)) [0] [2] m (s_utf8_Valid_2_0 x0) K)) = (fun x0 => (Q_utf8_Valid_2_0 m x0 (fun x2 => (K .ret (z_utf8_Valid_2_0 x2))) (K (.ext 0) z_utf8_Valid_2_1))) from funext fun x0 => (q_utf8_Valid_2 K m) x0]; rfl))
theorem loopK_utf8_Valid_2 : LoopOk E_utf8_Valid (bodyOf F.utf8_Valid 2) := by
  refine loopW_ok (n := 2) (F := W_utf8_Valid_2) (by kernel_rfl) rfl (li := [0]) (lo := [2]) rfl (fun σ K r hr => ?_)
  unfold W_utf8_Valid_2 at hr
  split at hr
  · rename_i d hd
    rw [Ss.un_mk hd]
    exact ⟨_, ((congrArg (fun z => rounds (run E_utf8_Valid (bodyOf F.utf8_Valid 2)) [0] [2] _ z K) (se_utf8_Valid_2_0 _)).trans ((q_utf8_Valid_2 K _) _)).trans hr⟩
  · cases hr
noncomputable def T_utf8_Valid (p : List Int) (K : Ret → Option Ret) : Option Ret := (bif ((decide ((((List.length p) : Nat) : Int) ≤ (((List.length p) : Nat) : Int))) && (decide ((((List.length p) : Nat) : Int) ≤ (((List.length p) : Nat) : Int)))) then (R_utf8_Valid_2_0 (List.drop 0 (List.take (List.length p) p)) (fun y2 => K ((.s (.bool y2)), [])) (K ((.s (.bool true)), []))) else none)
theorem e_utf8_Valid (p : List Int) (K : Ret → Option Ret) : evF E_utf8_Valid true F.utf8_Valid [.l .no bytesR p] K = T_utf8_Valid p K := by kernel_rfl
theorem w8_nat {xs : List Int} (h : fitB xs = true) : ∃ W : Nat, w8 xs = (W : Int) ∧ W < 18446744073709551616 ∧ (W &&& M8 = 0 ↔ ∀ i, i < 8 → xs.getD i 0 < 128) := by
  have hb : ∀ i : Nat, ∃ n : Nat, xs.getD i 0 = (n : Int) ∧ n < 256 := fun i => by
    have := fitB_get h i
    exact ⟨(xs.getD i 0).toNat, by omega, by omega⟩
  obtain ⟨n0, e0, l0⟩ := hb 0
  obtain ⟨n1, e1, l1⟩ := hb 1
  obtain ⟨n2, e2, l2⟩ := hb 2
  obtain ⟨n3, e3, l3⟩ := hb 3
  obtain ⟨n4, e4, l4⟩ := hb 4
  obtain ⟨n5, e5, l5⟩ := hb 5
  obtain ⟨n6, e6, l6⟩ := hb 6
  obtain ⟨n7, e7, l7⟩ := hb 7
  have o : ∀ {a b : Nat}, a < 18446744073709551616 → b < 18446744073709551616 → a ||| b < 18446744073709551616 := fun ha hb => Nat.or_lt_two_pow (n := 64) ha hb
  have s0 : n0 < 18446744073709551616 := by omega
  have s1 := shl_lt l1 (show 1 < 8 by omega)
  have s2 := shl_lt l2 (show 2 < 8 by omega)
  have s3 := shl_lt l3 (show 3 < 8 by omega)
  have s4 := shl_lt l4 (show 4 < 8 by omega)
  have s5 := shl_lt l5 (show 5 < 8 by omega)
  have s6 := shl_lt l6 (show 6 < 8 by omega)
  have s7 := shl_lt l7 (show 7 < 8 by omega)
  refine ⟨((((((n0 ||| n1 * 2 ^ (8 * 1)) ||| n2 * 2 ^ (8 * 2)) ||| n3 * 2 ^ (8 * 3)) ||| n4 * 2 ^ (8 * 4)) ||| n5 * 2 ^ (8 * 5)) ||| n6 * 2 ^ (8 * 6)) ||| n7 * 2 ^ (8 * 7), ?_, o (o (o (o (o (o (o s0 s1) s2) s3) s4) s5) s6) s7, ?_⟩
  · unfold w8
    rw [e0, e1, e2, e3, e4, e5, e6, e7]
    rw [show (8 : Int) = ((8 * 1 : Nat) : Int) from rfl, show (16 : Int) = ((8 * 2 : Nat) : Int) from rfl, show (24 : Int) = ((8 * 3 : Nat) : Int) from rfl, show (32 : Int) = ((8 * 4 : Nat) : Int) from rfl, show (40 : Int) = ((8 * 5 : Nat) : Int) from rfl, show (48 : Int) = ((8 * 6 : Nat) : Int) from rfl, show (56 : Int) = ((8 * 7 : Nat) : Int) from rfl]
    rw [shl64 l1 (by omega), shl64 l2 (by omega), shl64 l3 (by omega), shl64 l4 (by omega), shl64 l5 (by omega), shl64 l6 (by omega), shl64 l7 (by omega), wrap64 s0]
    rw [bor64 s0 s1, bor64 (o s0 s1) s2, bor64 (o (o s0 s1) s2) s3, bor64 (o (o (o s0 s1) s2) s3) s4, bor64 (o (o (o (o s0 s1) s2) s3) s4) s5, bor64 (o (o (o (o (o s0 s1) s2) s3) s4) s5) s6, bor64 (o (o (o (o (o (o s0 s1) s2) s3) s4) s5) s6) s7]
  · rw [or_mask, or_mask, or_mask, or_mask, or_mask, or_mask, or_mask, hi_ok l1 (by omega), hi_ok l2 (by omega), hi_ok l3 (by omega), hi_ok l4 (by omega), hi_ok l5 (by omega), hi_ok l6 (by omega), hi_ok l7 (by omega)]
    have h0 := hi_ok l0 (show 0 < 8 by omega)
    rw [show n0 * 2 ^ (8 * 0) = n0 by simp] at h0
    rw [h0]
    constructor
    · intro hh i hi
      have hc : i = 0 ∨ i = 1 ∨ i = 2 ∨ i = 3 ∨ i = 4 ∨ i = 5 ∨ i = 6 ∨ i = 7 := by omega
      rcases hc with rfl | rfl | rfl | rfl | rfl | rfl | rfl | rfl
      · rw [e0]; omega
      · rw [e1]; omega
      · rw [e2]; omega
      · rw [e3]; omega
      · rw [e4]; omega
      · rw [e5]; omega
      · rw [e6]; omega
      · rw [e7]; omega
    · intro hh
      have g0 := hh 0 (by omega)
      have g1 := hh 1 (by omega)
      have g2 := hh 2 (by omega)
      have g3 := hh 3 (by omega)
      have g4 := hh 4 (by omega)
      have g5 := hh 5 (by omega)
      have g6 := hh 6 (by omega)
      have g7 := hh 7 (by omega)
      rw [e0] at g0; rw [e1] at g1; rw [e2] at g2; rw [e3] at g3; rw [e4] at g4; rw [e5] at g5; rw [e6] at g6; rw [e7] at g7
      omega
theorem mask1 {xs : List Int} (h : fitB xs = true) (hm : (band .u64 (w8 xs) (9259542123273814144 : Int) == (0 : Int)) = true) : ∀ i, i < 8 → xs.getD i 0 < 128 := by
  obtain ⟨W, e, l, hw⟩ := w8_nat h
  rw [e, show (9259542123273814144 : Int) = ((M8 : Nat) : Int) from rfl, band64 l (by decide), beq_iff_eq] at hm
  exact hw.1 (by omega)
theorem mask2 {xs ys : List Int} (h : fitB xs = true) (h2 : fitB ys = true) (hm : (band .u64 (bor .u64 (w8 xs) (w8 ys)) (9259542123273814144 : Int) == (0 : Int)) = true) : (∀ i, i < 8 → xs.getD i 0 < 128) ∧ ∀ i, i < 8 → ys.getD i 0 < 128 := by
  obtain ⟨W, e, l, hw⟩ := w8_nat h
  obtain ⟨V, e2, l2, hv⟩ := w8_nat h2
  rw [e, e2, bor64 l l2, show (9259542123273814144 : Int) = ((M8 : Nat) : Int) from rfl, band64 (Nat.or_lt_two_pow (n := 64) l l2) (by decide), beq_iff_eq] at hm
  have : (W ||| V) &&& M8 = 0 := by omega
  rw [or_mask] at this
  exact ⟨hw.1 this.1, hv.1 this.2⟩
theorem mask4 {a b c d : List Int} (ha : fitB a = true) (hb : fitB b = true) (hc : fitB c = true) (hd : fitB d = true) (hm : (band .u64 (bor .u64 (bor .u64 (w8 a) (w8 b)) (bor .u64 (w8 c) (w8 d))) (9259542123273814144 : Int) == (0 : Int)) = true) :
    (∀ i, i < 8 → a.getD i 0 < 128) ∧ (∀ i, i < 8 → b.getD i 0 < 128) ∧ (∀ i, i < 8 → c.getD i 0 < 128) ∧ ∀ i, i < 8 → d.getD i 0 < 128 := by
  obtain ⟨A, e1, l1, h1⟩ := w8_nat ha
  obtain ⟨B, e2, l2, h2⟩ := w8_nat hb
  obtain ⟨C, e3, l3, h3⟩ := w8_nat hc
  obtain ⟨D, e4, l4, h4⟩ := w8_nat hd
  have o : ∀ {a b : Nat}, a < 18446744073709551616 → b < 18446744073709551616 → a ||| b < 18446744073709551616 := fun ha hb => Nat.or_lt_two_pow (n := 64) ha hb
  rw [e1, e2, e3, e4, bor64 l1 l2, bor64 l3 l4, bor64 (o l1 l2) (o l3 l4), show (9259542123273814144 : Int) = ((M8 : Nat) : Int) from rfl, band64 (o (o l1 l2) (o l3 l4)) (by decide), beq_iff_eq] at hm
  have : ((A ||| B) ||| (C ||| D)) &&& M8 = 0 := by omega
  rw [or_mask, or_mask, or_mask] at this
  exact ⟨h1.1 this.1.1, h2.1 this.1.2, h3.1 this.2.1, h4.1 this.2.2⟩
theorem ascii_more {xs : List Int} {n m : Nat} (h1 : ∀ i, i < n → xs.getD i 0 < 128) (h2 : ∀ i, i < m → (xs.drop n).getD i 0 < 128) : ∀ i, i < n + m → xs.getD i 0 < 128 := fun i hi => by
  by_cases h : i < n
  · exact h1 i h
  · have := h2 (i - n) (by omega)
    rw [getD_drop, show n + (i - n) = i by omega] at this
    exact this
theorem loop10 (k0 : List Int → Int → Option Ret) (x3 : Int) : ∀ (m : Nat) (xs : List Int), fitB xs = true → xs.length < m → ∃ ys, fitB ys = true ∧ ys.length ≤ xs.length ∧ valid ys = valid xs ∧ Q_utf8_Valid_10_0 m xs x3 k0 = k0 ys x3
  | 0, xs, _, h => absurd h (by omega)
  | m + 1, xs, hf, hl => by
    show ∃ ys, fitB ys = true ∧ ys.length ≤ xs.length ∧ valid ys = valid xs ∧ P_utf8_Valid_10_0 xs x3 _ k0 = k0 ys x3
    unfold P_utf8_Valid_10_0
    by_cases h32 : ((xs.length : Nat) : Int) > 32
    · simp (disch := omega) only [decide_eq_true, decide_eq_false, Bool.true_and, cond_true, List.length_drop, Nat.ble_eq_true_of_le]
      cases hm : (band .u64 (bor .u64 (bor .u64 (w8 xs) (w8 (List.drop 8 xs))) (bor .u64 (w8 (List.drop 16 xs)) (w8 (List.drop 24 xs)))) (9259542123273814144 : Int) == (0 : Int)) with
      | false => exact ⟨xs, hf, Nat.le_refl _, rfl, rfl⟩
      | true =>
        obtain ⟨a1, a2, a3, a4⟩ := mask4 hf (fitB_drop hf 8) (fitB_drop hf 16) (fitB_drop hf 24) hm
        have a := ascii_more (n := 24) (ascii_more (n := 16) (ascii_more (n := 8) a1 a2) a3) a4
        obtain ⟨ys, g1, g2, g3, g4⟩ := loop10 k0 x3 m (List.drop 32 xs) (fitB_drop hf 32) (by simp; omega)
        exact ⟨ys, g1, by simp at g2; omega, g3.trans (valid_drop 32 (by omega) a), g4⟩
    · rw [decide_eq_false h32]
      exact ⟨xs, hf, Nat.le_refl _, rfl, rfl⟩
theorem step2 (x0 : List Int) (hx : fitB x0 = true) (nx : List Int → Option Ret) (k0 : Bool → Option Ret) (k1 RES : Option Ret)
    (hn : ∀ ys, fitB ys = true → ys.length < x0.length → valid ys = valid x0 → nx ys = RES) (h1 : valid x0 = true → k1 = RES) (h0 : valid x0 = false → k0 false = RES) : P_utf8_Valid_2_0 x0 nx k0 k1 = RES := by
  unfold P_utf8_Valid_2_0
  by_cases hl : ((x0.length : Nat) : Int) > 0
  case neg =>
    rw [decide_eq_false hl]
    have : x0 = [] := List.length_eq_zero_iff.1 (by omega)
    exact h1 (by rw [this]; exact valid_nil)
  case pos =>
  have hb := fitB_get hx 0
  by_cases hb1 : x0.getD 0 0 < 128
  · have hd : ∀ n, 1 ≤ n → n ≤ x0.length → (∀ i, i < n → x0.getD i 0 < 128) → nx (x0.drop n) = RES := fun n hn1 hn2 ha => hn _ (fitB_drop hx n) (by simp; omega) (valid_drop n hn2 ha)
    have a0 : ∀ i, i < 1 → x0.getD i 0 < 128 := fun i hi => by rw [show i = 0 by omega]; exact hb1
    simp (disch := omega) only [decide_eq_true, Bool.true_and, cond_true, List.length_drop, List.drop_drop]
    by_cases h9 : ((x0.length - 1 : Nat) : Int) > 8
    case neg => rw [decide_eq_false h9]; exact hd 1 (by omega) (by omega) a0
    rw [decide_eq_true h9, Nat.ble_eq_true_of_le (show 8 ≤ x0.length - 1 by omega)]
    cases hm : (band .u64 (w8 (List.drop 1 x0)) (9259542123273814144 : Int) == (0 : Int)) with
    | false => exact hd 1 (by omega) (by omega) a0
    | true =>
    have a9 := ascii_more a0 (mask1 (fitB_drop hx 1) hm)
    rw [decide_eq_true (show (8 : Int) ≤ ((x0.length - 1 : Nat) : Int) by omega)]
    simp only [cond_true]
    by_cases h17 : ((x0.length - (1 + 8) : Nat) : Int) > 16
    case neg => rw [decide_eq_false h17]; exact hd 9 (by omega) (by omega) a9
    simp (disch := omega) only [decide_eq_true, Nat.ble_eq_true_of_le, Bool.true_and, cond_true]
    cases hm2 : (band .u64 (bor .u64 (w8 (List.drop (1 + 8) x0)) (w8 (List.drop (1 + 8 + 8) x0))) (9259542123273814144 : Int) == (0 : Int)) with
    | false => exact hd 9 (by omega) (by omega) a9
    | true =>
    obtain ⟨m1, m2⟩ := mask2 (fitB_drop hx _) (fitB_drop hx _) hm2
    have a25 := ascii_more (ascii_more a9 m1) m2
    unfold R_utf8_Valid_10_0
    obtain ⟨ys, g1, g2, g3, g4⟩ := loop10 (fun y0 y1 => nx y0) (x0.getD 0 0) ((List.drop (1 + 8 + 16) x0).length + (x0.getD 0 0).toNat + 2) (List.drop (1 + 8 + 16) x0) (fitB_drop hx _) (by omega)
    refine g4.trans (hn ys g1 ?_ (g3.trans (valid_drop 25 (by omega) a25)))
    simp at g2; omega
  · have hsh := first_sh hb.1 hb.2
    have hlen := first_len
    have hacc := accept_len
    have e1 : shrI .u8 (List.getD utfFirst (Int.toNat (List.getD x0 0 (0 : Int))) (0 : Int)) (4 : Int) = fsh (x0.getD 0 0) := rfl
    have e2 : IntKind.wrap .i64 (band .u8 (List.getD utfFirst (Int.toNat (List.getD x0 0 (0 : Int))) (0 : Int)) (7 : Int)) = fsz (x0.getD 0 0) := rfl
    have e3 : List.getD utfAccept (Int.toNat (fsh (x0.getD 0 0))) (Seat.accR.dflt) = fac (x0.getD 0 0) := rfl
    rw [e1, e2, e3]
    have c1 : Nat.blt (Int.toNat (List.getD x0 0 (0 : Int))) (List.length utfFirst) = true := by rw [hlen, Nat.blt_eq]; omega
    have c2 : Nat.blt (Int.toNat (fsh (x0.getD 0 0))) (List.length utfAccept) = true := by rw [hacc, Nat.blt_eq]; omega
    rw [c1, c2]
    simp (disch := omega) only [decide_eq_true, decide_eq_false, Bool.true_and, cond_true, cond_false]
    have stop : runeSz x0 = 0 → k0 false = RES := fun h => h0 (valid_stop h (by omega))
    have go : ∀ n, runeSz x0 = n → 1 ≤ n → nx (x0.drop n) = RES := fun n h hn1 => by
      subst h
      exact hn _ (fitB_drop hx _) (by have := runeSz_le x0; simp; omega) (valid_step (by omega)).symm
    by_cases r1 : x0.getD 0 0 < 194 ∨ 245 ≤ x0.getD 0 0
    · rw [first_1 (by omega) hb.2 r1]
      refine stop ?_
      unfold runeSz
      repeat' split
      all_goals first | omega | rfl
    by_cases r2 : x0.getD 0 0 < 224
    · obtain ⟨f1, f2⟩ := first_2 (by omega) r2
      rw [f1, f2]
      have er : runeSz x0 = if 2 ≤ x0.length ∧ 128 ≤ x0.getD 1 0 ∧ x0.getD 1 0 ≤ 191 then 2 else 0 := by
        unfold runeSz; rw [if_neg (by omega), if_neg (by omega), if_neg (by omega), if_pos r2]
      simp only [BEq.rfl, cond_true]
      by_cases c : ((x0.length : Nat) : Int) < 2
      · rw [decide_eq_true c]; exact stop (by rw [er, if_neg (by omega)])
      rw [decide_eq_false c, decide_eq_true (show (1 : Int) < ((x0.length : Nat) : Int) by omega)]
      simp only [cond_true, cond_false]
      by_cases d1 : x0.getD 1 0 < 128
      · rw [decide_eq_true d1]; exact stop (by rw [er, if_neg (by omega)])
      by_cases d2 : 191 < x0.getD 1 0
      · rw [decide_eq_false d1, decide_eq_true d2]; exact stop (by rw [er, if_neg (by omega)])
      rw [decide_eq_false d1, decide_eq_false d2, decide_eq_true (show (2 : Int) ≤ ((x0.length : Nat) : Int) by omega)]
      exact go 2 (by rw [er, if_pos (by omega)]) (by omega)
    by_cases r3 : x0.getD 0 0 < 240
    · obtain ⟨f1, f2⟩ := first_3 (by omega) r3
      rw [f1, f2]
      have er : runeSz x0 = if 3 ≤ x0.length ∧ lo3 (x0.getD 0 0) ≤ x0.getD 1 0 ∧ x0.getD 1 0 ≤ hi3 (x0.getD 0 0) ∧ 128 ≤ x0.getD 2 0 ∧ x0.getD 2 0 ≤ 191 then 3 else 0 := by
        unfold runeSz; rw [if_neg (by omega), if_neg (by omega), if_neg (by omega), if_neg (by omega), if_pos r3]
      rw [show ((3 : Int) == 2) = false from rfl]
      simp only [BEq.rfl, cond_true, cond_false]
      by_cases c : ((x0.length : Nat) : Int) < 3
      · rw [decide_eq_true c]; exact stop (by rw [er, if_neg (by omega)])
      rw [decide_eq_false c, decide_eq_true (show (1 : Int) < ((x0.length : Nat) : Int) by omega), decide_eq_true (show (2 : Int) < ((x0.length : Nat) : Int) by omega), decide_eq_true (show (3 : Int) ≤ ((x0.length : Nat) : Int) by omega)]
      simp only [cond_true, cond_false]
      by_cases d1 : x0.getD 1 0 < lo3 (x0.getD 0 0)
      · rw [decide_eq_true d1]; exact stop (by rw [er, if_neg (by omega)])
      by_cases d2 : hi3 (x0.getD 0 0) < x0.getD 1 0
      · rw [decide_eq_false d1, decide_eq_true d2]; exact stop (by rw [er, if_neg (by omega)])
      by_cases d3 : x0.getD 2 0 < 128
      · rw [decide_eq_false d1, decide_eq_false d2, decide_eq_true d3]; exact stop (by rw [er, if_neg (by omega)])
      by_cases d4 : 191 < x0.getD 2 0
      · rw [decide_eq_false d1, decide_eq_false d2, decide_eq_false d3, decide_eq_true d4]; exact stop (by rw [er, if_neg (by omega)])
      rw [decide_eq_false d1, decide_eq_false d2, decide_eq_false d3, decide_eq_false d4]
      exact go 3 (by rw [er, if_pos (by omega)]) (by omega)
    · obtain ⟨f1, f2⟩ := first_4 (b := x0.getD 0 0) (by omega) (by omega)
      rw [f1, f2]
      have er : runeSz x0 = if 4 ≤ x0.length ∧ lo4 (x0.getD 0 0) ≤ x0.getD 1 0 ∧ x0.getD 1 0 ≤ hi4 (x0.getD 0 0) ∧ 128 ≤ x0.getD 2 0 ∧ x0.getD 2 0 ≤ 191 ∧ 128 ≤ x0.getD 3 0 ∧ x0.getD 3 0 ≤ 191 then 4 else 0 := by
        unfold runeSz; rw [if_neg (by omega), if_neg (by omega), if_neg (by omega), if_neg (by omega), if_neg r3, if_pos (by omega)]
      rw [show ((4 : Int) == 2) = false from rfl, show ((4 : Int) == 3) = false from rfl]
      simp only [BEq.rfl, cond_true, cond_false]
      by_cases c : ((x0.length : Nat) : Int) < 4
      · rw [decide_eq_true c]; exact stop (by rw [er, if_neg (by omega)])
      rw [decide_eq_false c, decide_eq_true (show (1 : Int) < ((x0.length : Nat) : Int) by omega), decide_eq_true (show (2 : Int) < ((x0.length : Nat) : Int) by omega), decide_eq_true (show (3 : Int) < ((x0.length : Nat) : Int) by omega), decide_eq_true (show (4 : Int) ≤ ((x0.length : Nat) : Int) by omega)]
      simp only [cond_true, cond_false]
      by_cases d1 : x0.getD 1 0 < lo4 (x0.getD 0 0)
      · rw [decide_eq_true d1]; exact stop (by rw [er, if_neg (by omega)])
      by_cases d2 : hi4 (x0.getD 0 0) < x0.getD 1 0
      · rw [decide_eq_false d1, decide_eq_true d2]; exact stop (by rw [er, if_neg (by omega)])
      by_cases d3 : x0.getD 2 0 < 128
      · rw [decide_eq_false d1, decide_eq_false d2, decide_eq_true d3]; exact stop (by rw [er, if_neg (by omega)])
      by_cases d4 : 191 < x0.getD 2 0
      · rw [decide_eq_false d1, decide_eq_false d2, decide_eq_false d3, decide_eq_true d4]; exact stop (by rw [er, if_neg (by omega)])
      by_cases d5 : x0.getD 3 0 < 128
      · rw [decide_eq_false d1, decide_eq_false d2, decide_eq_false d3, decide_eq_false d4, decide_eq_true d5]; exact stop (by rw [er, if_neg (by omega)])
      by_cases d6 : 191 < x0.getD 3 0
      · rw [decide_eq_false d1, decide_eq_false d2, decide_eq_false d3, decide_eq_false d4, decide_eq_false d5, decide_eq_true d6]; exact stop (by rw [er, if_neg (by omega)])
      rw [decide_eq_false d1, decide_eq_false d2, decide_eq_false d3, decide_eq_false d4, decide_eq_false d5, decide_eq_false d6]
      exact go 4 (by rw [er, if_pos (by omega)]) (by omega)
theorem loop2 (k0 : Bool → Option Ret) (k1 : Option Ret) : ∀ (m : Nat) (xs : List Int), fitB xs = true → xs.length < m → Q_utf8_Valid_2_0 m xs k0 k1 = bif valid xs then k1 else k0 false
  | 0, xs, _, h => absurd h (by omega)
  | m + 1, xs, hf, hl => by
    show P_utf8_Valid_2_0 xs _ k0 k1 = _
    refine step2 xs hf _ k0 k1 _ (fun ys h1 h2 h3 => ?_) (fun h => by rw [h]; rfl) (fun h => by rw [h]; rfl)
    have := loop2 k0 k1 m ys h1 (by omega)
    rw [h3] at this
    exact this
def S_utf8_Valid : Sm := S_fnR [.l bytesR] (fun d => fitB d.1) (fun d => (bl (valid d.1), []))
theorem v_utf8_Valid (p : List Int) (h : (fitB p) = true) (K : Ret → Option Ret) : T_utf8_Valid p K = K (bl (valid p), []) := by
  unfold T_utf8_Valid R_utf8_Valid_2_0
  rw [decide_eq_true (Int.le_refl _), List.take_length]
  simp only [Bool.true_and, cond_true, List.drop_zero]
  rw [loop2 _ _ _ p h (by omega)]
  cases valid p <;> rfl
theorem okS_utf8_Valid : OkFn prog I N.utf8_Valid true S_utf8_Valid := okN (ok_fn (memc okS_utf8_word_bytes mem0) (l := [(N.utf8_word_bytes, true, S_utf8_word_bytes)]) (p := [(8, takeB [0, 1, 2, 3, 4, 6, 7] (.fork (.one 5 (.fork (.one 8 (takes [9, 10, 11, 12]))))), []), (10, takeB [0, 1, 2, 3, 4, 6, 7, 10, 11, 13, 14] (.fork (.one 5 (.fork (.one 8 (takeB [9] (.fork (.one 12 (.fork (.one 15 (takes [16, 17, 18, 19, 20])))))))))), []), (18, takes [0, 1, 2, 3, 4, 5, 6, 7, 8, 9, 10, 11, 12, 13, 14, 15, 16, 17, 18], []), (22, takes [0, 1, 2, 3, 4, 5, 6, 7, 8, 9, 10, 11, 12, 13, 14, 15, 16, 17, 18, 19, 20, 21, 22, 23, 24, 25, 26, 27, 28, 29, 30], []), (26, takes [0, 1, 2, 3, 4, 5, 6, 7, 8, 9, 10, 11, 12, 13, 14, 15, 16, 17, 18, 19, 20, 21, 22, 23, 24, 25, 26, 27, 28, 29, 30, 31, 32, 33, 34, 35, 36, 37, 38, 39, 40, 41, 42], [])]) (ls := [(10, [0,3], [0,2,3], W_utf8_Valid_10), (2, [0], [2], W_utf8_Valid_2)]) (lend := []) (focus := false) (fuel := 0) (give := []) (fn := F.utf8_Valid) (by kernel_rfl) (by kernel_rfl) (by kernel_rfl) (by kernel_rfl) (cs := [bodyOf F.utf8_Valid 2, bodyOf F.utf8_Valid 10]) (by kernel_rfl) (loopsc loopK_utf8_Valid_2 (loopsc loopK_utf8_Valid_10 loops0))) (S_fnR_of fun d K h => (e_utf8_Valid d.1 K).trans (v_utf8_Valid d.1 h K))
end Go.Ev.Seat
end
section
/- i_isText: its contract. -/
namespace Go.Ev.Seat
open Go.RowKit
set_option maxRecDepth 100000
set_option linter.unusedVariables false
set_option linter.unusedSimpArgs false
noncomputable abbrev E_i_isText : Env := En [(N.utf8_Valid, true, S_utf8_Valid)] [] [] [] false 0 []
noncomputable def T_i_isText (t : List Int) (K : Ret → Option Ret) : Option Ret := (bif (decide ((((List.length t) : Nat) : Int) ≤ (400 : Int))) then (bif (fitB t) then K ((.s (.bool (valid t))), []) else none) else K ((.s (.bool false)), []))
theorem e_i_isText (t : List Int) (K : Ret → Option Ret) : evF E_i_isText true F.i_isText [.l .no bytesR t] K = T_i_isText t K := by kernel_rfl
def S_i_isText : Sm := S_fnR [.l bytesR] (fun d => fitB d.1) (fun d => (bl (textOk d.1), []))
theorem v_i_isText (t : List Int) (h : (fitB t) = true) (K : Ret → Option Ret) : T_i_isText t K = K (bl (textOk t), []) := by
  unfold T_i_isText textOk
  rw [h]
  by_cases hl : t.length ≤ 400
  · rw [decide_eq_true (show ((t.length : Nat) : Int) ≤ 400 by omega), Nat.ble_eq_true_of_le hl]; rfl
  · rw [decide_eq_false (show ¬ ((t.length : Nat) : Int) ≤ 400 by omega), Bool.eq_false_iff.2 (fun h => hl (Nat.le_of_ble_eq_true h))]; rfl
theorem okS_i_isText : OkFn prog I N.i_isText true S_i_isText := okN (ok_fn (memc okS_utf8_Valid mem0) (l := [(N.utf8_Valid, true, S_utf8_Valid)]) (p := []) (ls := []) (lend := []) (focus := false) (fuel := 0) (give := []) (fn := F.i_isText) (by kernel_rfl) (by kernel_rfl) (by kernel_rfl) (by kernel_rfl) (cs := []) (by kernel_rfl) loops0) (S_fnR_of fun d K h => (e_i_isText d.1 K).trans (v_i_isText d.1 h K))
end Go.Ev.Seat
end
section
/- i_in: its contract. -/
namespace Go.Ev.Seat
open Go.RowKit
set_option maxRecDepth 100000
set_option linter.unusedVariables false
set_option linter.unusedSimpArgs false
noncomputable abbrev E_i_in : Env := En [] [] [] [] false 0 []
noncomputable def T_i_in (n : Int) (low : Int) (high : Int) (K : Ret → Option Ret) : Option Ret := (bif (decide (low ≤ n)) then K ((.s (.bool (decide (n ≤ high)))), []) else K ((.s (.bool false)), []))
theorem e_i_in (n : Int) (low : Int) (high : Int) (K : Ret → Option Ret) : evF E_i_in true F.i_in [.s (.int .i64 n), .s (.int .i64 low), .s (.int .i64 high)] K = T_i_in n low high K := by kernel_rfl
def S_i_in : Sm := S_fnR [.i, .i, .i] (fun d => true) (fun d => (bl (decide (d.2.1 ≤ d.1) && decide (d.1 ≤ d.2.2.1)), []))
theorem v_i_in (n : Int) (low : Int) (high : Int) (K : Ret → Option Ret) : T_i_in n low high K = K (bl (decide (low ≤ n) && decide (n ≤ high)), []) := by
  unfold T_i_in; cases decide (low ≤ n) <;> rfl
theorem okS_i_in : OkFn prog I N.i_in true S_i_in := okN (ok_fn mem0 (l := []) (p := []) (ls := []) (lend := []) (focus := false) (fuel := 0) (give := []) (fn := F.i_in) (by kernel_rfl) (by kernel_rfl) (by kernel_rfl) (by kernel_rfl) (cs := []) (by kernel_rfl) loops0) (S_fnR_of fun d K h => (e_i_in d.1 d.2.1 d.2.2.1 K).trans (v_i_in d.1 d.2.1 d.2.2.1 K))
end Go.Ev.Seat
end
section
/- i_isSession: its contract. -/
namespace Go.Ev.Seat
open Go.RowKit
set_option maxRecDepth 100000
set_option linter.unusedVariables false
set_option linter.unusedSimpArgs false
noncomputable abbrev E_i_isSession : Env := En [(N.i_in, true, S_i_in)] [] [] [] false 0 []
noncomputable def T_i_isSession (k : Int) (K : Ret → Option Ret) : Option Ret := K ((.s (.bool ((decide ((1 : Int) ≤ k)) && (decide (k ≤ (8 : Int)))))), [])
theorem e_i_isSession (k : Int) (K : Ret → Option Ret) : evF E_i_isSession true F.i_isSession [.s (.int .i64 k)] K = T_i_isSession k K := by kernel_rfl
def S_i_isSession : Sm := S_fnR [.i] (fun d => true) (fun d => (bl (decide (1 ≤ d.1) && decide (d.1 ≤ 8)), []))
theorem v_i_isSession (k : Int) (K : Ret → Option Ret) : T_i_isSession k K = K (bl (decide (1 ≤ k) && decide (k ≤ 8)), []) := by
  rfl
theorem okS_i_isSession : OkFn prog I N.i_isSession true S_i_isSession := okN (ok_fn (memc okS_i_in mem0) (l := [(N.i_in, true, S_i_in)]) (p := []) (ls := []) (lend := []) (focus := false) (fuel := 0) (give := []) (fn := F.i_isSession) (by kernel_rfl) (by kernel_rfl) (by kernel_rfl) (by kernel_rfl) (cs := []) (by kernel_rfl) loops0) (S_fnR_of fun d K h => (e_i_isSession d.1 K).trans (v_i_isSession d.1 K))
end Go.Ev.Seat
end
section
/- i_areCommits_1: its contract. -/
namespace Go.Ev.Seat
open Go.RowKit
set_option maxRecDepth 100000
set_option linter.unusedVariables false
set_option linter.unusedSimpArgs false
noncomputable abbrev E_i_areCommits_1 : Env := En [(N.i_isSession, true, S_i_isSession)] [] [] [] false 0 []
noncomputable def T_i_areCommits_1 (c : T_Commit) (K : Ret → Option Ret) : Option Ret := K ((.s (.bool (!((decide ((1 : Int) ≤ c.1)) && (decide (c.1 ≤ (8 : Int))))))), [])
theorem e_i_areCommits_1 (c : T_Commit) (K : Ret → Option Ret) : evF E_i_areCommits_1 true F.i_areCommits_1 [.a (commitR.cells .no c)] K = T_i_areCommits_1 c K := by kernel_rfl
def S_i_areCommits_1 : Sm := S_fnR [.a commitR] (fun d => true) (fun d => (bl (!(sessD d.1.1)), []))
theorem v_i_areCommits_1 (c : T_Commit) (K : Ret → Option Ret) : T_i_areCommits_1 c K = K (bl (!(sessD c.1)), []) := rfl
theorem okS_i_areCommits_1 : OkFn prog I N.i_areCommits_1 true S_i_areCommits_1 := okN (ok_fn (memc okS_i_isSession mem0) (l := [(N.i_isSession, true, S_i_isSession)]) (p := []) (ls := []) (lend := []) (focus := false) (fuel := 0) (give := []) (fn := F.i_areCommits_1) (by kernel_rfl) (by kernel_rfl) (by kernel_rfl) (by kernel_rfl) (cs := []) (by kernel_rfl) loops0) (S_fnR_of fun d K h => (e_i_areCommits_1 d.1 K).trans (v_i_areCommits_1 d.1 K))
end Go.Ev.Seat
end
section
/- slices_IndexFunc_Commit: its contract. -/
namespace Go.Ev.Seat
open Go.RowKit
set_option maxRecDepth 100000
set_option linter.unusedVariables false
set_option linter.unusedSimpArgs false
def z_slices_IndexFunc_Commit_2_0 (x4 : Int) : St := { tm := ([.x, .x, .x, .x, (.s (.int .i64 x4))] ++ List.replicate 14 .x), ob := [], nx := 0, io := [] }
def z_slices_IndexFunc_Commit_2_1 : St := { tm := ([] ++ List.replicate 19 .x), ob := [], nx := 0, io := [] }
def sh_slices_IndexFunc_Commit_2_0 : Ss := { tm := (.cons (.l .no commitR) (.cons (.f 179 .nil) (.cons (.x) (.cons (.x) (.cons (.x) (.cons (.x) (.cons (.x) (.cons (.int .i64) (.cons (.int .i64) (xsh 10)))))))))), ob := .nil, nx := 0, io := .nil }
def d_slices_IndexFunc_Commit_2_0 (x0 : List T_Commit) (x7 : Int) (x8 : Int) : sh_slices_IndexFunc_Commit_2_0.T := ((x0, ((), ((), ((), ((), ((), ((), (x7, (x8, xd 10))))))))), (), ())
def s_slices_IndexFunc_Commit_2_0 (x0 : List T_Commit) (x7 : Int) (x8 : Int) : St := { tm := ([(.l .no commitR x0), (.f 179 []), .x, .x, .x, .x, .x, (.s (.int .i64 x7)), (.s (.int .i64 x8))] ++ List.replicate 10 .x), ob := [], nx := 0, io := [] }
theorem se_slices_IndexFunc_Commit_2_0 (x0 : List T_Commit) (x7 : Int) (x8 : Int) : sh_slices_IndexFunc_Commit_2_0.mk' (d_slices_IndexFunc_Commit_2_0 x0 x7 x8) = (s_slices_IndexFunc_Commit_2_0 x0 x7 x8) := by kernel_rfl
def w_slices_IndexFunc_Commit_2_0 (d : sh_slices_IndexFunc_Commit_2_0.T) (f : (List T_Commit) → Int → Int → Option Ret) : Option Ret := match d with | ((x0, (_, (_, (_, (_, (_, (_, (x7, (x8, _))))))))), _, _) => f x0 x7 x8
noncomputable def P_slices_IndexFunc_Commit_2_0 (x0 : List T_Commit) (x7 : Int) (x8 : Int) (nx0 : (List T_Commit) → Int → Int → Option Ret) (k0 : Int → Option Ret) (k1 : Option Ret) : Option Ret := (bif (decide (x8 < x7)) then (bif ((decide ((0 : Int) ≤ x8)) && (decide (x8 < (((List.length x0) : Nat) : Int)))) then (bif (!(sessD (List.getD x0 (Int.toNat x8) (commitR.dflt)).1)) then (k0 x8) else (nx0 x0 x7 (IntKind.wrap .i64 (x8 + (1 : Int))))) else none) else k1)
noncomputable def Q_slices_IndexFunc_Commit_2_0 : Nat → (List T_Commit) → Int → Int → (Int → Option Ret) → (Option Ret) → Option Ret
  | 0, _, _, _, _, _ => none
  | m + 1, x0, x7, x8, k0, k1 => P_slices_IndexFunc_Commit_2_0 x0 x7 x8 (fun x0 x7 x8 => (Q_slices_IndexFunc_Commit_2_0 m x0 x7 x8 k0 k1)) k0 k1
noncomputable def R_slices_IndexFunc_Commit_2_0 (x0 : List T_Commit) (x7 : Int) (x8 : Int) (k0 : Int → Option Ret) (k1 : Option Ret) : Option Ret := Q_slices_IndexFunc_Commit_2_0 (List.length x0 + x7.toNat + x8.toNat + 2) x0 x7 x8 k0 k1
noncomputable def W_slices_IndexFunc_Commit_2 : LoopFn := (fun (σ : St) (K : Ex → St → Option Ret) => (match sh_slices_IndexFunc_Commit_2_0.un σ with | some d => w_slices_IndexFunc_Commit_2_0 d (fun x0 x7 x8 => R_slices_IndexFunc_Commit_2_0 x0 x7 x8 (fun x4 => (K .ret (z_slices_IndexFunc_Commit_2_0 x4))) (K (.ext 0) z_slices_IndexFunc_Commit_2_1)) | none => none))
noncomputable abbrev E_slices_IndexFunc_Commit : Env := En [(N.i_areCommits_1, true, S_i_areCommits_1)] [] [(2, [0,1,7,8], [4], W_slices_IndexFunc_Commit_2)] [] false 0 []
theorem st_slices_IndexFunc_Commit_2_0 (m : Nat) (x0 : List T_Commit) (x7 : Int) (x8 : Int) (K : Ex → St → Option Ret) : rounds (run E_slices_IndexFunc_Commit (bodyOf F.slices_IndexFunc_Commit 2)) [0,1,7,8] [4] (m + 1) (s_slices_IndexFunc_Commit_2_0 x0 x7 x8) K = P_slices_IndexFunc_Commit_2_0 x0 x7 x8 (fun x0 x7 x8 => (rounds (run E_slices_IndexFunc_Commit (bodyOf F.slices_IndexFunc_Commit 2)) [0,1,7,8] [4] m (s_slices_IndexFunc_Commit_2_0 x0 x7 x8) K)) (fun x4 => (K .ret (z_slices_IndexFunc_Commit_2_0 x4))) (K (.ext 0) z_slices_IndexFunc_Commit_2_1) := by kernel_rfl
theorem q_slices_IndexFunc_Commit_2 (K : Ex → St → Option Ret) : ∀ m : Nat, (∀ (x0 : List T_Commit) (x7 : Int) (x8 : Int), rounds (run E_slices_IndexFunc_Commit (bodyOf F.slices_IndexFunc_Commit 2)) [0,1,7,8] [4] m (s_slices_IndexFunc_Commit_2_0 x0 x7 x8) K = Q_slices_IndexFunc_Commit_2_0 m x0 x7 x8 (fun x4 => (K .ret (z_slices_IndexFunc_Commit_2_0 x4))) (K (.ext 0) z_slices_IndexFunc_Commit_2_1))
  | 0 => (fun _ _ _ => rfl)
  | m + 1 => (fun x0 x7 x8 => (by rw [st_slices_IndexFunc_Commit_2_0, show (fun x0 x7 x8 => (rounds (run E_slices_IndexFunc_Commit (bodyOf F.slices_IndexFunc_Commit 2)) [0,1,7,8] [4] m (s_slices_IndexFunc_Commit_2_0 x0 x7 x8) K)) = (fun x0 x7 x8 => (Q_slices_IndexFunc_Commit_2_0 m x0 x7 x8 (fun x4 => (K .ret (z_slices_IndexFunc_Commit_2_0 x4))) (K (.ext 0) z_slices_IndexFunc_Commit_2_1))) from funext fun x0 => funext fun x7 => funext fun x8 => (q_slices_IndexFunc_Commit_2 K m) x0 x7 x8]; rfl))
theorem loopK_slices_IndexFunc_Commit_2 : LoopOk E_slices_IndexFunc_Commit (bodyOf F.slices_IndexFunc_Commit 2) := by
  refine loopW_ok (n := 2) (F := W_slices_IndexFunc_Commit_2) (by kernel_rfl) rfl (li := [0,1,7,8]) (lo := [4]) rfl (fun σ K r hr => ?_)
  unfold W_slices_IndexFunc_Commit_2 at hr
  split at hr
  · rename_i d hd
    rw [Ss.un_mk hd]
    exact ⟨_, ((congrArg (fun z => rounds (run E_slices_IndexFunc_Commit (bodyOf F.slices_IndexFunc_Commit 2)) [0,1,7,8] [4] _ z K) (se_slices_IndexFunc_Commit_2_0 _ _ _)).trans ((q_slices_IndexFunc_Commit_2 K _) _ _ _)).trans hr⟩
  · cases hr
noncomputable def T_slices_IndexFunc_Commit (l : List T_Commit) (K : Ret → Option Ret) : Option Ret := (R_slices_IndexFunc_Commit_2_0 l (((List.length l) : Nat) : Int) (0 : Int) (fun y0 => K ((.s (.int .i64 y0)), [])) (K ((.s (.int .i64 (-(1 : Int)))), [])))
theorem e_slices_IndexFunc_Commit (l : List T_Commit) (K : Ret → Option Ret) : evF E_slices_IndexFunc_Commit true F.slices_IndexFunc_Commit [.l .no commitR l, .f N.i_areCommits_1 []] K = T_slices_IndexFunc_Commit l K := by kernel_rfl
def S_slices_IndexFunc_Commit : Sm := S_fnR [.l commitR, .sh (.f N.i_areCommits_1 .nil)] (fun d => Nat.ble d.1.length 1048576) (fun d => (.s (.int .i64 (idxF (fun x => !(sessD x.1)) d.1)), []))
theorem v_slices_IndexFunc_Commit (l : List T_Commit) (h : (Nat.ble l.length 1048576) = true) (K : Ret → Option Ret) : T_slices_IndexFunc_Commit l K = K (.s (.int .i64 (idxF (fun x => !(sessD x.1)) l)), []) := by
  have hl := Nat.le_of_ble_eq_true h
  unfold T_slices_IndexFunc_Commit
  have q := idx_find (R := fun m i => Q_slices_IndexFunc_Commit_2_0 m l ((l.length : Nat) : Int) i (fun y0 => K ((.s (.int .i64 y0)), [])) (K ((.s (.int .i64 (-(1 : Int)))), []))) (p := fun x => !(sessD x.1)) (xs := l) (z := (commitR).dflt) (kf := fun y0 => K ((.s (.int .i64 y0)), [])) (kt := K ((.s (.int .i64 (-(1 : Int)))), [])) (fun m i hi => by
    show P_slices_IndexFunc_Commit_2_0 l _ ((i : Nat) : Int) _ _ _ = _
    unfold P_slices_IndexFunc_Commit_2_0
    rw [decide_eq_true (show ((i : Nat) : Int) < ((l.length : Nat) : Int) by omega), decide_eq_true (show (0 : Int) ≤ ((i : Nat) : Int) by omega), Int.toNat_natCast, wrap_nat (by omega)]
    rfl) (fun m => by
    show P_slices_IndexFunc_Commit_2_0 l _ ((l.length : Nat) : Int) _ _ _ = _
    unfold P_slices_IndexFunc_Commit_2_0
    rw [decide_eq_false (show ¬ ((l.length : Nat) : Int) < ((l.length : Nat) : Int) by omega)]; rfl) (l.length + ((l.length : Nat) : Int).toNat + (0 : Int).toNat + 2) 0 (by omega) (by omega)
  refine Eq.trans q ?_
  rw [List.drop_zero]
  unfold idxF
  cases l.findIdx? (fun x => !(sessD x.1)) with
  | none => rfl
  | some j => show K (.s (.int .i64 ((0 + j : Nat) : Int)), []) = _; rw [Nat.zero_add]
theorem okS_slices_IndexFunc_Commit : OkFn prog I N.slices_IndexFunc_Commit true S_slices_IndexFunc_Commit := okN (ok_fn (memc okS_i_areCommits_1 mem0) (l := [(N.i_areCommits_1, true, S_i_areCommits_1)]) (p := []) (ls := [(2, [0,1,7,8], [4], W_slices_IndexFunc_Commit_2)]) (lend := []) (focus := false) (fuel := 0) (give := []) (fn := F.slices_IndexFunc_Commit) (by kernel_rfl) (by kernel_rfl) (by kernel_rfl) (by kernel_rfl) (cs := [bodyOf F.slices_IndexFunc_Commit 2]) (by kernel_rfl) (loopsc loopK_slices_IndexFunc_Commit_2 loops0)) (S_fnR_of fun d K h => (e_slices_IndexFunc_Commit d.1 K).trans (v_slices_IndexFunc_Commit d.1 h K))
end Go.Ev.Seat
end
section
/- slices_ContainsFunc_Commit: its contract. -/
namespace Go.Ev.Seat
open Go.RowKit
set_option maxRecDepth 100000
set_option linter.unusedVariables false
set_option linter.unusedSimpArgs false
noncomputable abbrev E_slices_ContainsFunc_Commit : Env := En [(N.slices_IndexFunc_Commit, true, S_slices_IndexFunc_Commit)] [] [] [] false 0 []
noncomputable def T_slices_ContainsFunc_Commit (l : List T_Commit) (K : Ret → Option Ret) : Option Ret := (bif (Nat.ble (List.length l) 1048576) then K ((.s (.bool (decide ((idxF (fun x => (!(sessD x.1))) l) ≥ (0 : Int))))), []) else none)
theorem e_slices_ContainsFunc_Commit (l : List T_Commit) (K : Ret → Option Ret) : evF E_slices_ContainsFunc_Commit true F.slices_ContainsFunc_Commit [.l .no commitR l, .f N.i_areCommits_1 []] K = T_slices_ContainsFunc_Commit l K := by kernel_rfl
def S_slices_ContainsFunc_Commit : Sm := S_fnR [.l commitR, .sh (.f N.i_areCommits_1 .nil)] (fun d => Nat.ble d.1.length 1048576) (fun d => (bl (d.1.any (fun x => !(sessD x.1))), []))
theorem v_slices_ContainsFunc_Commit (l : List T_Commit) (h : (Nat.ble l.length 1048576) = true) (K : Ret → Option Ret) : T_slices_ContainsFunc_Commit l K = K (bl (l.any (fun x => !(sessD x.1))), []) := by
  unfold T_slices_ContainsFunc_Commit
  first | rw [h] | skip
  rw [← idxF_any]; rfl
theorem okS_slices_ContainsFunc_Commit : OkFn prog I N.slices_ContainsFunc_Commit true S_slices_ContainsFunc_Commit := okN (ok_fn (memc okS_slices_IndexFunc_Commit mem0) (l := [(N.slices_IndexFunc_Commit, true, S_slices_IndexFunc_Commit)]) (p := []) (ls := []) (lend := []) (focus := false) (fuel := 0) (give := []) (fn := F.slices_ContainsFunc_Commit) (by kernel_rfl) (by kernel_rfl) (by kernel_rfl) (by kernel_rfl) (cs := []) (by kernel_rfl) loops0) (S_fnR_of fun d K h => (e_slices_ContainsFunc_Commit d.1 K).trans (v_slices_ContainsFunc_Commit d.1 h K))
end Go.Ev.Seat
end
section
/- slices_Clone_bytes_byte: its contract. -/
namespace Go.Ev.Seat
open Go.RowKit
set_option maxRecDepth 100000
set_option linter.unusedVariables false
set_option linter.unusedSimpArgs false
noncomputable abbrev E_slices_Clone_bytes_byte : Env := En [] [] [] [] false 0 []
noncomputable def T_slices_Clone_bytes_byte (l : List Int) (K : Ret → Option Ret) : Option Ret := (bif (Nat.beq (List.length l) 0) then (meet (K ((.l .deep bytesR ([] : List Int)), [])) ((bif (Nat.ble (((List.length ([] : List Int)) + (List.length l)) * 1) 140737488355328) then K ((.l .deep bytesR (([] : List Int) ++ l)), []) else none))) else (bif (Nat.ble (((List.length ([] : List Int)) + (List.length l)) * 1) 140737488355328) then K ((.l .deep bytesR (([] : List Int) ++ l)), []) else none))
theorem e_slices_Clone_bytes_byte (l : List Int) (K : Ret → Option Ret) : evF E_slices_Clone_bytes_byte true F.slices_Clone_bytes_byte [.l .no bytesR l] K = T_slices_Clone_bytes_byte l K := by kernel_rfl
def S_slices_Clone_bytes_byte : Sm := S_fnR [.l bytesR] (fun d => Cc.lim (Cc.sl bytesR) d.1) (fun d => (.l .deep bytesR d.1, []))
theorem v_slices_Clone_bytes_byte (l : List Int) (h : (Cc.lim (Cc.sl bytesR) l) = true) (K : Ret → Option Ret) : T_slices_Clone_bytes_byte l K = K (.l .deep bytesR l, []) := by
  have h1 : l.length ≤ 1048576 := by
    simp only [Cc.lim, Bool.and_eq_true] at h
    exact Nat.le_of_ble_eq_true h.1
  unfold T_slices_Clone_bytes_byte
  rw [Nat.ble_eq_true_of_le (by simp; omega)]
  cases l with
  | nil => exact meet_self _
  | cons x xs => rfl
theorem okS_slices_Clone_bytes_byte : OkFn prog I N.slices_Clone_bytes_byte true S_slices_Clone_bytes_byte := okN (ok_fn mem0 (l := []) (p := []) (ls := []) (lend := []) (focus := false) (fuel := 0) (give := []) (fn := F.slices_Clone_bytes_byte) (by kernel_rfl) (by kernel_rfl) (by kernel_rfl) (by kernel_rfl) (cs := []) (by kernel_rfl) loops0) (S_fnR_of fun d K h => (e_slices_Clone_bytes_byte d.1 K).trans (v_slices_Clone_bytes_byte d.1 h K))
end Go.Ev.Seat
end
section
/- i_Edit_copied: its contract. -/
namespace Go.Ev.Seat
open Go.RowKit
set_option maxRecDepth 100000
set_option linter.unusedVariables false
set_option linter.unusedSimpArgs false
noncomputable abbrev E_i_Edit_copied : Env := En [(N.slices_Clone_bytes_byte, true, S_slices_Clone_bytes_byte)] [] [] [] false 0 []
noncomputable def T_i_Edit_copied (e : T_Edit) (K : Ret → Option Ret) : Option Ret := (bif (Cc.lim (Cc.sl bytesR) e.2.2) then K ((.a [(.s (.int .i64 e.1)), (.s (.int .i64 e.2.1)), (.l .deep bytesR e.2.2)]), []) else none)
theorem e_i_Edit_copied (e : T_Edit) (K : Ret → Option Ret) : evF E_i_Edit_copied true F.i_Edit_copied [.a (editR.cells .no e)] K = T_i_Edit_copied e K := by kernel_rfl
def S_i_Edit_copied : Sm := S_fnR [.a editR] (fun d => Nat.ble d.1.2.2.length 1048576) (fun d => (.a (editR.cells .deep d.1), []))
theorem v_i_Edit_copied (e : T_Edit) (h : (Nat.ble e.2.2.length 1048576) = true) (K : Ret → Option Ret) : T_i_Edit_copied e K = K (.a (editR.cells .deep e), []) := by
  have hl := Nat.le_of_ble_eq_true h
  unfold T_i_Edit_copied
  first | rw [Nat.ble_eq_true_of_le (by simp; omega)] | rw [bytes_lim hl]
  rfl
theorem okS_i_Edit_copied : OkFn prog I N.i_Edit_copied true S_i_Edit_copied := okN (ok_fn (memc okS_slices_Clone_bytes_byte mem0) (l := [(N.slices_Clone_bytes_byte, true, S_slices_Clone_bytes_byte)]) (p := []) (ls := []) (lend := []) (focus := false) (fuel := 0) (give := []) (fn := F.i_Edit_copied) (by kernel_rfl) (by kernel_rfl) (by kernel_rfl) (by kernel_rfl) (cs := []) (by kernel_rfl) loops0) (S_fnR_of fun d K h => (e_i_Edit_copied d.1 K).trans (v_i_Edit_copied d.1 h K))
end Go.Ev.Seat
end
section
/- i_editsOf: its contract. -/
namespace Go.Ev.Seat
open Go.RowKit
set_option maxRecDepth 100000
set_option linter.unusedVariables false
set_option linter.unusedSimpArgs false
def z_i_editsOf_3_0 (o0 : List T_Edit) : St := { tm := ([.x, .x, .x, (.w 0)] ++ List.replicate 17 .x), ob := [(0, (.arr true true editR o0))], nx := 1, io := [] }
def sh_i_editsOf_3_0 : Ss := { tm := (.cons (.x) (.cons (.x) (.cons (.x) (.cons (.w 0) (.cons (.x) (.cons (.x) (.cons (.x) (.cons (.l .no commitR) (.cons (.int .i64) (.cons (.int .i64) (xsh 11))))))))))), ob := (.arr true true editR .nil), nx := 1, io := .nil }
def d_i_editsOf_3_0 (x7 : List T_Commit) (x8 : Int) (x9 : Int) (o0 : List T_Edit) : sh_i_editsOf_3_0.T := (((), ((), ((), ((), ((), ((), ((), (x7, (x8, (x9, xd 11)))))))))), (o0, ()), ())
def s_i_editsOf_3_0 (x7 : List T_Commit) (x8 : Int) (x9 : Int) (o0 : List T_Edit) : St := { tm := ([.x, .x, .x, (.w 0), .x, .x, .x, (.l .no commitR x7), (.s (.int .i64 x8)), (.s (.int .i64 x9))] ++ List.replicate 11 .x), ob := [(0, (.arr true true editR o0))], nx := 1, io := [] }
theorem se_i_editsOf_3_0 (x7 : List T_Commit) (x8 : Int) (x9 : Int) (o0 : List T_Edit) : sh_i_editsOf_3_0.mk' (d_i_editsOf_3_0 x7 x8 x9 o0) = (s_i_editsOf_3_0 x7 x8 x9 o0) := by kernel_rfl
def w_i_editsOf_3_0 (d : sh_i_editsOf_3_0.T) (f : (List T_Commit) → Int → Int → (List T_Edit) → Option Ret) : Option Ret := match d with | ((_, (_, (_, (_, (_, (_, (_, (x7, (x8, (x9, _)))))))))), (o0, _), _) => f x7 x8 x9 o0
noncomputable def P_i_editsOf_3_0 (x7 : List T_Commit) (x8 : Int) (x9 : Int) (o0 : List T_Edit) (nx0 : (List T_Commit) → Int → Int → (List T_Edit) → Option Ret) (k0 : (List T_Edit) → Option Ret) : Option Ret := (bif (decide (x9 < x8)) then (bif ((decide ((0 : Int) ≤ x9)) && (decide (x9 < (((List.length x7) : Nat) : Int)))) then (bif (Nat.ble (List.length (List.getD x7 (Int.toNat x9) (commitR.dflt)).2.2.2) 1048576) then (bif (Nat.ble (((List.length o0) + (List.length ((List.getD x7 (Int.toNat x9) (commitR.dflt)).2 :: []))) * 40) 140737488355328) then (nx0 x7 x8 (IntKind.wrap .i64 (x9 + (1 : Int))) (o0 ++ ((List.getD x7 (Int.toNat x9) (commitR.dflt)).2 :: []))) else none) else none) else none) else (k0 o0))
noncomputable def Q_i_editsOf_3_0 : Nat → (List T_Commit) → Int → Int → (List T_Edit) → ((List T_Edit) → Option Ret) → Option Ret
  | 0, _, _, _, _, _ => none
  | m + 1, x7, x8, x9, o0, k0 => P_i_editsOf_3_0 x7 x8 x9 o0 (fun x7 x8 x9 o0 => (Q_i_editsOf_3_0 m x7 x8 x9 o0 k0)) k0
noncomputable def R_i_editsOf_3_0 (x7 : List T_Commit) (x8 : Int) (x9 : Int) (o0 : List T_Edit) (k0 : (List T_Edit) → Option Ret) : Option Ret := Q_i_editsOf_3_0 (List.length x7 + x8.toNat + x9.toNat + List.length o0 + 2) x7 x8 x9 o0 k0
noncomputable def W_i_editsOf_3 : LoopFn := (fun (σ : St) (K : Ex → St → Option Ret) => (match sh_i_editsOf_3_0.un σ with | some d => w_i_editsOf_3_0 d (fun x7 x8 x9 o0 => R_i_editsOf_3_0 x7 x8 x9 o0 (fun o0 => (K (.ext 0) (z_i_editsOf_3_0 o0)))) | none => none))
noncomputable abbrev E_i_editsOf : Env := En [(N.i_Edit_copied, true, S_i_Edit_copied)] [] [(3, [3,7,8,9], [2,3], W_i_editsOf_3)] [] false 0 []
theorem st_i_editsOf_3_0 (m : Nat) (x7 : List T_Commit) (x8 : Int) (x9 : Int) (o0 : List T_Edit) (K : Ex → St → Option Ret) : rounds (run E_i_editsOf (bodyOf F.i_editsOf 3)) [3,7,8,9] [2,3] (m + 1) (s_i_editsOf_3_0 x7 x8 x9 o0) K = P_i_editsOf_3_0 x7 x8 x9 o0 (fun x7 x8 x9 o0 => (rounds (run E_i_editsOf (bodyOf F.i_editsOf 3)) [3,7,8,9] [2,3] m (s_i_editsOf_3_0 x7 x8 x9 o0) K)) (fun o0 => (K (.ext 0) (z_i_editsOf_3_0 o0))) := by kernel_rfl
theorem q_i_editsOf_3 (K : Ex → St → Option Ret) : ∀ m : Nat, (∀ (x7 : List T_Commit) (x8 : Int) (x9 : Int) (o0 : List T_Edit), rounds (run E_i_editsOf (bodyOf F.i_editsOf 3)) [3,7,8,9] [2,3] m (s_i_editsOf_3_0 x7 x8 x9 o0) K = Q_i_editsOf_3_0 m x7 x8 x9 o0 (fun o0 => (K (.ext 0) (z_i_editsOf_3_0 o0))))
  | 0 => (fun _ _ _ _ => rfl)
  | m + 1 => (fun x7 x8 x9 o0 => (by rw [st_i_editsOf_3_0, show (fun x7 x8 x9 o0 => (rounds (run E_i_editsOf (bodyOf F.i_editsOf 3)) [3,7,8,9] [2,3] m (s_i_editsOf_3_0 x7 x8 x9 o0) K)) = (fun x7 x8 x9 o0 => (Q_i_editsOf_3_0 m x7 x8 x9 o0 (fun o0 => (K (.ext 0) (z_i_editsOf_3_0 o0))))) from funext fun x7 => funext fun x8 => funext fun x9 => funext fun o0 => (q_i_editsOf_3 K m) x7 x8 x9 o0]; rfl))
theorem loopK_i_editsOf_3 : LoopOk E_i_editsOf (bodyOf F.i_editsOf 3) := by
  refine loopW_ok (n := 3) (F := W_i_editsOf_3) (by kernel_rfl) rfl (li := [3,7,8,9]) (lo := [2,3]) rfl (fun σ K r hr => ?_)
  unfold W_i_editsOf_3 at hr
  split at hr
  · rename_i d hd
    rw [Ss.un_mk hd]
    exact ⟨_, ((congrArg (fun z => rounds (run E_i_editsOf (bodyOf F.i_editsOf 3)) [3,7,8,9] [2,3] _ z K) (se_i_editsOf_3_0 _ _ _ _)).trans ((q_i_editsOf_3 K _) _ _ _ _)).trans hr⟩
  · cases hr
noncomputable def T_i_editsOf (l : List T_Commit) (K : Ret → Option Ret) : Option Ret := (R_i_editsOf_3_0 l (((List.length l) : Nat) : Int) (0 : Int) [] (fun y0 => K ((.l .deep editR y0), [])))
theorem e_i_editsOf (l : List T_Commit) (K : Ret → Option Ret) : evF E_i_editsOf true F.i_editsOf [.l .no commitR l] K = T_i_editsOf l K := by kernel_rfl
def S_i_editsOf : Sm := S_fnR [.l commitR] (fun d => fitC (.sl commitR) d.1) (fun d => (.l .deep editR (logD d.1), []))
theorem v_i_editsOf (l : List T_Commit) (h : (fitC (.sl commitR) l) = true) (K : Ret → Option Ret) : T_i_editsOf l K = K (.l .deep editR (logD l), []) := by
  have hl := fitC_len h
  unfold T_i_editsOf
  have q : ∀ (m i : Nat), i ≤ l.length → l.length - i < m → Q_i_editsOf_3_0 m l ((l.length : Nat) : Int) ((i : Nat) : Int) (logD (l.take i)) (fun y0 => K ((.l .deep editR y0), [])) = K ((.l .deep editR (logD l)), []) := by
    intro m
    induction m with
    | zero => intro i _ hm; omega
    | succ m ih =>
      intro i hi hm
      show P_i_editsOf_3_0 l _ ((i : Nat) : Int) _ _ _ = _
      unfold P_i_editsOf_3_0
      by_cases hlt : i < l.length
      · have hx : fitB (l.getD i commitR.dflt).2.2.2 = true := fit_commit (fitC_getD h rfl i)
        have ht : logD (l.take i) ++ [(l.getD i commitR.dflt).2] = logD (l.take (i + 1)) := by
          rw [← take_snoc commitR.dflt hlt]
          unfold logD
          rw [List.map_append]; rfl
        rw [decide_eq_true (show ((i : Nat) : Int) < ((l.length : Nat) : Int) by omega), decide_eq_true (show (0 : Int) ≤ ((i : Nat) : Int) by omega), Int.toNat_natCast, wrap_nat (by omega), Nat.ble_eq_true_of_le (fitB_len hx), Nat.ble_eq_true_of_le (show ((logD (l.take i)).length + [(l.getD i commitR.dflt).2].length) * 40 ≤ 140737488355328 by unfold logD; simp only [List.length_map, List.length_take, List.length_cons, List.length_nil]; omega), ht]
        exact ih (i + 1) (by omega) (by omega)
      · obtain rfl : i = l.length := by omega
        rw [decide_eq_false (show ¬ ((l.length : Nat) : Int) < ((l.length : Nat) : Int) by omega), List.take_length]; rfl
  exact q _ 0 (by omega) (by omega)
theorem okS_i_editsOf : OkFn prog I N.i_editsOf true S_i_editsOf := okN (ok_fn (memc okS_i_Edit_copied mem0) (l := [(N.i_Edit_copied, true, S_i_Edit_copied)]) (p := []) (ls := [(3, [3,7,8,9], [2,3], W_i_editsOf_3)]) (lend := []) (focus := false) (fuel := 0) (give := []) (fn := F.i_editsOf) (by kernel_rfl) (by kernel_rfl) (by kernel_rfl) (by kernel_rfl) (cs := [bodyOf F.i_editsOf 3]) (by kernel_rfl) (loopsc loopK_i_editsOf_3 loops0)) (S_fnR_of fun d K h => (e_i_editsOf d.1 K).trans (v_i_editsOf d.1 h K))
end Go.Ev.Seat
end
section
/- utf8_RuneStart: its contract. -/
namespace Go.Ev.Seat
open Go.RowKit
set_option maxRecDepth 100000
set_option linter.unusedVariables false
set_option linter.unusedSimpArgs false
noncomputable abbrev E_utf8_RuneStart : Env := En [] [] [] [] false 0 []
noncomputable def T_utf8_RuneStart (b : Int) (K : Ret → Option Ret) : Option Ret := K ((.s (.bool ((band .u8 b (192 : Int)) != (128 : Int)))), [])
theorem e_utf8_RuneStart (b : Int) (K : Ret → Option Ret) : evF E_utf8_RuneStart true F.utf8_RuneStart [.s (.int .u8 b)] K = T_utf8_RuneStart b K := by kernel_rfl
def S_utf8_RuneStart : Sm := S_fnR [.sc1 (.int .u8)] (fun d => true) (fun d => (bl (band .u8 d.1 192 != 128), []))
theorem v_utf8_RuneStart (b : Int) (K : Ret → Option Ret) : T_utf8_RuneStart b K = K (bl (band .u8 b 192 != 128), []) := rfl
theorem okS_utf8_RuneStart : OkFn prog I N.utf8_RuneStart true S_utf8_RuneStart := okN (ok_fn mem0 (l := []) (p := []) (ls := []) (lend := []) (focus := false) (fuel := 0) (give := []) (fn := F.utf8_RuneStart) (by kernel_rfl) (by kernel_rfl) (by kernel_rfl) (by kernel_rfl) (cs := []) (by kernel_rfl) loops0) (S_fnR_of fun d K h => (e_utf8_RuneStart d.1 K).trans (v_utf8_RuneStart d.1 K))
end Go.Ev.Seat
end
section
/- i_isCut: its contract. -/
namespace Go.Ev.Seat
open Go.RowKit
set_option maxRecDepth 100000
set_option linter.unusedVariables false
set_option linter.unusedSimpArgs false
noncomputable abbrev E_i_isCut : Env := En [(N.i_in, true, S_i_in), (N.utf8_RuneStart, true, S_utf8_RuneStart)] [] [] [] false 0 []
noncomputable def T_i_isCut (t : List Int) (k : Int) (K : Ret → Option Ret) : Option Ret := (bif (k == (((List.length t) : Nat) : Int)) then K ((.s (.bool true)), []) else (bif ((decide ((0 : Int) ≤ k)) && (decide (k ≤ (IntKind.wrap .i64 ((((List.length t) : Nat) : Int) - (1 : Int)))))) then (bif ((decide ((0 : Int) ≤ k)) && (decide (k < (((List.length t) : Nat) : Int)))) then K ((.s (.bool ((band .u8 (List.getD t (Int.toNat k) (0 : Int)) (192 : Int)) != (128 : Int)))), []) else none) else K ((.s (.bool false)), [])))
theorem e_i_isCut (t : List Int) (k : Int) (K : Ret → Option Ret) : evF E_i_isCut true F.i_isCut [.l .no bytesR t, .s (.int .i64 k)] K = T_i_isCut t k K := by kernel_rfl
def S_i_isCut : Sm := S_fnR [.l bytesR, .i] (fun d => fitB d.1) (fun d => (bl (isCutD d.1 d.2.1), []))
theorem v_i_isCut (t : List Int) (k : Int) (h : (fitB t) = true) (K : Ret → Option Ret) : T_i_isCut t k K = K (bl (isCutD t k), []) := by
  unfold T_i_isCut isCutD
  have hl := fitB_len h
  by_cases e : k = ((t.length : Nat) : Int)
  · rw [beq_iff_eq.2 e]; rfl
  · rw [beq_eq_false_iff_ne.2 e, wrap_in (by omega) (by omega)]
    simp only [cond_false, Bool.false_or]
    by_cases h1 : 0 ≤ k
    · by_cases h2 : k < ((t.length : Nat) : Int)
      · rw [decide_eq_true h1, decide_eq_true h2, decide_eq_true (show k ≤ ((t.length : Nat) : Int) - 1 by omega)]
        have hb := fitB_get h k.toNat
        rw [cont_at hb.1 hb.2]; rfl
      · rw [decide_eq_true h1, decide_eq_false h2, decide_eq_false (show ¬ k ≤ ((t.length : Nat) : Int) - 1 by omega)]; rfl
    · rw [decide_eq_false h1]; rfl
theorem okS_i_isCut : OkFn prog I N.i_isCut true S_i_isCut := okN (ok_fn (memc okS_i_in (memc okS_utf8_RuneStart mem0)) (l := [(N.i_in, true, S_i_in), (N.utf8_RuneStart, true, S_utf8_RuneStart)]) (p := []) (ls := []) (lend := []) (focus := false) (fuel := 0) (give := []) (fn := F.i_isCut) (by kernel_rfl) (by kernel_rfl) (by kernel_rfl) (by kernel_rfl) (cs := []) (by kernel_rfl) loops0) (S_fnR_of fun d K h => (e_i_isCut d.1 d.2.1 K).trans (v_i_isCut d.1 d.2.1 h K))
end Go.Ev.Seat
end
section
/- i_isEdit: its contract. -/
namespace Go.Ev.Seat
open Go.RowKit
set_option maxRecDepth 100000
set_option linter.unusedVariables false
set_option linter.unusedSimpArgs false
noncomputable abbrev E_i_isEdit : Env := En [(N.i_isText, true, S_i_isText), (N.i_isCut, true, S_i_isCut), (N.i_in, true, S_i_in)] [] [] [] false 0 []
noncomputable def T_i_isEdit (t : List Int) (e : T_Edit) (K : Ret → Option Ret) : Option Ret := (bif (fitB t) then (bif (textOk t) then (bif (fitB t) then (bif (isCutD t e.1) then (bif ((decide ((0 : Int) ≤ e.2.1)) && (decide (e.2.1 ≤ (IntKind.wrap .i64 ((((List.length t) : Nat) : Int) - e.1))))) then (bif (fitB t) then (bif (isCutD t (IntKind.wrap .i64 (e.1 + e.2.1))) then (bif (fitB e.2.2) then (bif (textOk e.2.2) then K ((.s (.bool (decide ((IntKind.wrap .i64 ((IntKind.wrap .i64 ((((List.length t) : Nat) : Int) - e.2.1)) + (((List.length e.2.2) : Nat) : Int))) ≤ (400 : Int))))), []) else K ((.s (.bool false)), [])) else none) else K ((.s (.bool false)), [])) else none) else K ((.s (.bool false)), [])) else K ((.s (.bool false)), [])) else none) else K ((.s (.bool false)), [])) else none)
theorem e_i_isEdit (t : List Int) (e : T_Edit) (K : Ret → Option Ret) : evF E_i_isEdit true F.i_isEdit [.l .no bytesR t, .a (editR.cells .no e)] K = T_i_isEdit t e K := by kernel_rfl
def S_i_isEdit : Sm := S_fnR [.l bytesR, .a editR] (fun d => fitB d.1 && fitB d.2.1.2.2) (fun d => (bl (editOkD d.1 d.2.1), []))
theorem v_i_isEdit (t : List Int) (e : T_Edit) (h : (fitB t && fitB e.2.2) = true) (K : Ret → Option Ret) : T_i_isEdit t e K = K (bl (editOkD t e), []) := by
  rw [Bool.and_eq_true] at h
  obtain ⟨ht, he⟩ := h
  unfold T_i_isEdit editOkD
  rw [ht, he]
  cases c1 : textOk t with
  | false => rfl
  | true =>
  have hl := textOk_len c1
  cases c2 : isCutD t e.1 with
  | false => rfl
  | true =>
  have hr := isCutD_range c2
  simp only [Bool.true_and, Bool.not_true, cond_true, cond_false]
  by_cases d1 : 0 ≤ e.2.1
  case neg => rw [decide_eq_false d1]; rfl
  rw [decide_eq_true d1, wrap_in (n := ((t.length : Nat) : Int) - e.1) (by omega) (by omega)]
  by_cases d2 : e.2.1 ≤ ((t.length : Nat) : Int) - e.1
  case neg => rw [decide_eq_false d2]; rfl
  rw [decide_eq_true d2, wrap_in (n := e.1 + e.2.1) (by omega) (by omega)]
  cases c3 : isCutD t (e.1 + e.2.1) with
  | false => rfl
  | true =>
  cases c4 : textOk e.2.2 with
  | false => rfl
  | true =>
  have hl2 := textOk_len c4
  rw [wrap_in (n := ((t.length : Nat) : Int) - e.2.1) (by omega) (by omega), wrap_in (n := ((t.length : Nat) : Int) - e.2.1 + ((List.length e.2.2 : Nat) : Int)) (by omega) (by omega)]
  rfl
theorem okS_i_isEdit : OkFn prog I N.i_isEdit true S_i_isEdit := okN (ok_fn (memc okS_i_isText (memc okS_i_isCut (memc okS_i_in mem0))) (l := [(N.i_isText, true, S_i_isText), (N.i_isCut, true, S_i_isCut), (N.i_in, true, S_i_in)]) (p := []) (ls := []) (lend := []) (focus := false) (fuel := 0) (give := []) (fn := F.i_isEdit) (by kernel_rfl) (by kernel_rfl) (by kernel_rfl) (by kernel_rfl) (cs := []) (by kernel_rfl) loops0) (S_fnR_of fun d K h => (e_i_isEdit d.1 d.2.1 K).trans (v_i_isEdit d.1 d.2.1 h K))
end Go.Ev.Seat
end
section
/- slices.Grow of a nil slice: room and nothing else. -/
set_option linter.unusedVariables false
namespace Go.Ev
open Go.RowKit Go.Shelf Go.Proofs
def S_growN (r : Rw) : Sm := fun vs K => match vs with
  | [.nl, .s (.int .i64 n)] => bif decide (0 ≤ n) && decide (n ≤ 1099511627776) then K (.l .deep r [], []) else none
  | _ => none
variable {P : Program} {I : Nat → World → Prop}
theorem grow_ok {ρ : Ren} (L : Lays8.n4 P ρ) (hent : ∀ (args : Array Value) (w : World), (callFunc (ρ.f 4) args).run P w = .ok (.enter (ρ.f 4) args) w) {r : Rw} {i0 : TypeInfo} {z : Value} (hi0 : P.info? (ρ.t 25) = some i0) (hz0 : i0.zero = some z) (hs0 : 0 < i0.size) (hb : i0.bytes ≤ 64) (hn : z.cells.size = r.n) : OkFn P I (ρ.f 4) true (S_growN r) := by
  refine ⟨hent, fun ws K q hq B0 w0 w N vs O M H hI hbel hB hargs hnd hO hM hH hN => ?_⟩
  unfold S_growN at hq
  split at hq
  · rename_i n
    cases hc : (decide (0 ≤ n) && decide (n ≤ 1099511627776)) with
    | false => rw [hc] at hq; cases hq
    | true =>
      rw [hc] at hq
      simp only [Bool.and_eq_true, decide_eq_true_eq] at hc
      obtain ⟨h0, h1⟩ := hc
      have hq' : K (.l .deep r [], []) = some q := hq
      obtain ⟨v1, vs1, O1, O2, M1, M2, H1, H2, rfl, rfl, rfl, rfl, a1, b1⟩ := hargs
      obtain ⟨v2, vs2, O3, O4, M3, M4, H3, H4, rfl, rfl, rfl, rfl, a2, b2⟩ := b1
      obtain ⟨rfl, rfl, rfl, rfl⟩ := b2
      have e1 : v1 = .slice none 0 0 := a1.1
      have e2 : v2 = .int .i64 n := a2.1.1
      subst e1 e2
      obtain ⟨k, rfl⟩ : ∃ k : Nat, n = (k : Int) := ⟨n.toNat, by omega⟩
      by_cases hk : k = 0
      · subst hk
        refine Calls.mono (Any8.slices_Grow_room L none 0 0 0 w (Nat.le_refl _) (by omega) (by omega) (by omega)) ?_
        rintro e w' ⟨rfl, rfl⟩
        refine ⟨_, hq', ⟨⟨[], [], [], [], [], [], ⟨.inl ⟨rfl, rfl, none, 0, rfl, fun _ => ⟨rfl, rfl⟩⟩, rfl, rfl⟩, ⟨rfl, rfl, rfl, rfl⟩, List.nodup_nil, by simp, by simp, by simp⟩, hbel, Nat.le_refl _, fun _ _ _ => rfl⟩⟩
      · have hmul : (0 + k) * i0.bytes ≤ 1099511627776 * 64 := Nat.mul_le_mul (by omega) hb
        refine Calls.mono (Any8.slices_Grow_grow L i0 z hi0 hz0 hs0 none 0 0 k [] w (Nat.le_refl _) (by omega) (by omega) (by omega) (by simp) (fun _ => rfl) (fun a h => nomatch h)) ?_
        rintro e w' ⟨rfl, rfl⟩
        have hsz : ∀ cs t, (w.drew.alloc (.cells cs t)).heap.size = w.heap.size + 1 := fun cs t => alloc_size w.drew _
        have hnew : ∀ cs t, (w.drew.alloc (.cells cs t)).heap[w.heap.size]? = some (.cells cs t (0, 0)) := fun cs t => alloc_new w.drew _
        refine ⟨_, hq', ⟨⟨[w.heap.size], [], [w.heap.size], [], [], [], ⟨.inr ⟨w.heap.size, 0, _, [], rfl, Nat.zero_le _, rfl, by rw [hsz]; omega, fun _ => ⟨_, _, hnew _ _, ?_⟩, rfl⟩, rfl, rfl⟩, ⟨rfl, rfl, rfl, rfl⟩, by simp, ?_, by simp, ?_⟩, (hbel.drew).alloc hB _, by rw [hsz]; omega, fun x hx _ => alloc_old w.drew _ x hx⟩⟩
        · simp only [Array.size_append, size_zeroCells, hn]
          have : ∀ c : Nat, 0 + c * r.n ≤ ([] : List Value).toArray.size + (0 + k - 0) * r.n + (c - (0 + k)) * r.n := fun c => by
            rw [Nat.add_assoc, ← Nat.add_mul]
            have : c * r.n ≤ (0 + k - 0 + (c - (0 + k))) * r.n := Nat.mul_le_mul_right _ (by omega)
            omega
          exact this _
        · intro x hx
          simp at hx
          subst hx
          exact ⟨.inr (Nat.le_refl _), by rw [hsz]; omega⟩
        · intro x hx
          simp at hx
          subst hx
          exact ⟨by simp, fun h => by have := hN _ h; omega⟩
  · cases hq
end Go.Ev
namespace Go.Proofs
open Go.Shelf
def Tryz.grow_ren : Go.Shelf.Ren := ⟨fun | 4 => 218 | n => n, fun | 22 => 22 | 25 => 5 | 3 => 3 | 4 => 4 | 9 => 9 | 20 => 20 | 0 => 0 | n => n, fun | n => n⟩
theorem Tryz.grow : Go.Proofs.Lays8.n4 Tryz.prog Tryz.grow_ren := {
  mixed := by kernel_rfl
  f4 := ⟨Tryz.f218.name, by decide, Tryz.func218.trans (congrArg some (by kernel_rfl))⟩
  t0 := Tryz.underlying0
  a0 := Tryz.isAgg0
  z0 := Tryz.sizeOf0
  v0 := Tryz.zeroValue0
  t3 := Tryz.underlying3
  a3 := Tryz.isAgg3
  z3 := Tryz.sizeOf3
  v3 := Tryz.zeroValue3
  t4 := Tryz.underlying4
  a4 := Tryz.isAgg4
  z4 := Tryz.sizeOf4
  v4 := Tryz.zeroValue4
  t9 := Tryz.underlying9
  a9 := Tryz.isAgg9
  z9 := Tryz.sizeOf9
  v9 := Tryz.zeroValue9
  t20 := Tryz.underlying20
  a20 := Tryz.isAgg20
  z20 := Tryz.sizeOf20
  v20 := Tryz.zeroValue20
  t22 := Tryz.underlying22
  a22 := Tryz.isAgg22
  z22 := Tryz.sizeOf22
  v22 := Tryz.zeroValue22 }
end Go.Proofs
namespace Go.Ev.Seat
open Go.RowKit
set_option maxRecDepth 100000
theorem okS_Grow : OkFn prog I N.slices_Grow_bytes_byte true (S_growN bytesR) := by
  refine grow_ok (i0 := (prog.info? 5).getD default) (z := .int .u8 0) Go.Proofs.Tryz.grow (ok_fn (l := []) (p := []) (ls := []) (lend := []) (focus := false) (fuel := 0) (give := []) (nils := []) (fresh := true) mem0 (g := N.slices_Grow_bytes_byte) (fn := F.slices_Grow_bytes_byte) (by kernel_rfl) (by kernel_rfl) (by kernel_rfl) (by kernel_rfl) (cs := []) (by kernel_rfl) loops0).1 (by kernel_rfl) (by kernel_rfl) (Nat.le_of_ble_eq_true (by kernel_rfl)) (Nat.le_of_ble_eq_true (by kernel_rfl)) rfl
end Go.Ev.Seat
end
section
/- slices.Clone and slices.Concat of bytes. -/
namespace Go.Ev.Seat
open Go.RowKit
set_option maxRecDepth 100000
set_option linter.unusedVariables false
-- Clone
def sh_cc1 : Ss := { tm := (.cons (.l .no pieceR) (.cons (.x) (.cons (.x) (.cons (.int .i64) (.cons (.x) (.cons (.x) (.cons (.x) (.cons (.x) (.cons (.x) (.cons (.l .no pieceR) (.cons (.int .i64) (.cons (.int .i64) (xsh 24))))))))))))), ob := .nil, nx := 0, io := .nil }
def d_cc1 (x0 : List (List (Int))) (x3 : Int) (x9 : List (List (Int))) (x10 : Int) (x11 : Int) : sh_cc1.T := ((x0, ((), ((), (x3, ((), ((), ((), ((), ((), (x9, (x10, (x11, xd 24)))))))))))), (), ())
def z_cc1 (x0 : List (List Int)) (x3 : Int) : St := { tm := ([(.l .no pieceR x0), .x, .x, (.s (.int .i64 x3))] ++ List.replicate 32 .x), ob := [], nx := 0, io := [] }
def R_cc1 (d : sh_cc1.T) (K : Ex → St → Option Ret) : Option Ret := match d with
  | ((x0, (_, (_, (x3, (_, (_, (_, (_, (_, (x9, (x10, (x11, _)))))))))))), _, _) => bif (x11 == 0) && (x3 == 0) && (x10 == ((x9.length : Nat) : Int)) && Nat.ble x9.length 4611686018427387904 && Nat.ble (sumW List.length x9) 1099511627776 then K (.ext 0) (z_cc1 x0 ((sumW List.length x9 : Nat) : Int)) else none
def sh_cc2 : Ss := { tm := (.cons (.x) (.cons (.x) (.cons (.x) (.cons (.x) (.cons (.x) (.cons (.x) (.cons (.w 0) (.cons (.x) (.cons (.x) (.cons (.x) (.cons (.x) (.cons (.x) (.cons (.x) (.cons (.x) (.cons (.x) (.cons (.x) (.cons (.x) (.cons (.x) (.cons (.x) (.cons (.x) (.cons (.x) (.cons (.x) (.cons (.x) (.cons (.x) (.cons (.x) (.cons (.l .no pieceR) (.cons (.int .i64) (.cons (.int .i64) (xsh 8))))))))))))))))))))))))))))), ob := (.arr true true bytesR .nil), nx := 1, io := .nil }
def d_cc2 (x25 : List (List (Int))) (x26 : Int) (x27 : Int) (o0 : List (Int)) : sh_cc2.T := (((), ((), ((), ((), ((), ((), ((), ((), ((), ((), ((), ((), ((), ((), ((), ((), ((), ((), ((), ((), ((), ((), ((), ((), ((), (x25, (x26, (x27, xd 8)))))))))))))))))))))))))))), (o0, ()), ())
def z_cc2 (o0 : List Int) : St := { tm := ([.x, .x, .x, .x, .x, .x, (.w 0)] ++ List.replicate 29 .x), ob := [(0, (.arr true true bytesR o0))], nx := 1, io := [] }
def R_cc2 (d : sh_cc2.T) (K : Ex → St → Option Ret) : Option Ret := match d with
  | ((_, (_, (_, (_, (_, (_, (_, (_, (_, (_, (_, (_, (_, (_, (_, (_, (_, (_, (_, (_, (_, (_, (_, (_, (_, (x25, (x26, (x27, _)))))))))))))))))))))))))))), (o0, _), _) => bif (x27 == 0) && (x26 == ((x25.length : Nat) : Int)) && Nat.ble x25.length 4611686018427387904 && Nat.beq o0.length 0 && Nat.ble (sumW List.length x25) 1099511627776 then K (.ext 2) (z_cc2 x25.flatten) else none
noncomputable def E_cc : Env := En [(N.slices_Grow_bytes_byte, true, S_growN bytesR)] [] [(3, [0,3,9,10,11], [0,3], loopF sh_cc1 R_cc1), (11, [6,25,26,27], [6], loopF sh_cc2 R_cc2)]
noncomputable abbrev L_cc1 (n : Nat) (x0 : List (List Int)) (x3 : Int) (x9 : List (List (Int))) (x10 x11 : Int) (K : Ex → St → Option Ret) : Option Ret := rounds (run E_cc (bodyOf F.slices_Concat_bytes_byte 3)) [0,3,9,10,11] [0,3] n (sh_cc1.mk' (d_cc1 x0 x3 x9 x10 x11)) K
noncomputable abbrev L_cc2 (n : Nat) (x25 : List (List (Int))) (x26 x27 : Int) (o0 : List Int) (K : Ex → St → Option Ret) : Option Ret := rounds (run E_cc (bodyOf F.slices_Concat_bytes_byte 11)) [6,25,26,27] [6] n (sh_cc2.mk' (d_cc2 x25 x26 x27 o0)) K
theorem step_cc1 (n : Nat) (x0 : List (List (Int))) (x3 : Int) (x9 : List (List (Int))) (x10 : Int) (x11 : Int) (K : Ex → St → Option Ret) : L_cc1 (n + 1) x0 x3 x9 x10 x11 K =
 (bif decide (x11 < x10) then
 (bif (decide ((0 : Int) ≤ x11) && decide (x11 < (((List.length x9) : Nat) : Int))) then
  (bif decide ((IntKind.wrap .i64 (x3 + (((List.length (List.getD x9 (Int.toNat x11) (pieceR.dflt))) : Nat) : Int))) < (0 : Int)) then
   none
   else L_cc1 n x0 (IntKind.wrap .i64 (x3 + (((List.length (List.getD x9 (Int.toNat x11) (pieceR.dflt))) : Nat) : Int))) x9 x10 (IntKind.wrap .i64 (x11 + (1 : Int))) K)
  else none)
 else K (.ext 0) (z_cc1 x0 x3)) := by kernel_rfl
theorem step_cc2 (n : Nat) (x25 : List (List (Int))) (x26 : Int) (x27 : Int) (o0 : List (Int)) (K : Ex → St → Option Ret) : L_cc2 (n + 1) x25 x26 x27 o0 K =
 (bif decide (x27 < x26) then
 (bif (decide ((0 : Int) ≤ x27) && decide (x27 < (((List.length x25) : Nat) : Int))) then
  (bif (Nat.ble (((List.length o0) + (List.length (List.getD x25 (Int.toNat x27) (pieceR.dflt)))) * 1) 140737488355328) then
   L_cc2 n x25 x26 (IntKind.wrap .i64 (x27 + (1 : Int))) (o0 ++ (List.getD x25 (Int.toNat x27) (pieceR.dflt))) K
   else none)
  else none)
 else K (.ext 2) (z_cc2 o0)) := by kernel_rfl
theorem go_cc1 (x0 x9 : List (List Int)) (K : Ex → St → Option Ret) (h1 : x9.length ≤ 4611686018427387904) (h2 : sumW List.length x9 ≤ 1099511627776) : L_cc1 (x9.length + 1) x0 0 x9 ((x9.length : Nat) : Int) 0 K = K (.ext 0) (z_cc1 x0 ((sumW List.length x9 : Nat) : Int)) := by
  have := loop_idx (R := fun n i (s : Int) => L_cc1 n x0 s x9 ((x9.length : Nat) : Int) i K) (k := K (.ext 0) (z_cc1 x0 ((sumW List.length x9 : Nat) : Int))) (f := fun i => ((sumW List.length (x9.take i) : Nat) : Int)) x9.length (fun m i hi => by
    show L_cc1 (m + 1) x0 _ x9 _ i K = L_cc1 m x0 ((sumW List.length (x9.take (i + 1)) : Nat) : Int) x9 _ ((i + 1 : Nat) : Int) K
    have hs := sumW_take (g := List.length) (z := (pieceR.dflt : List Int)) hi
    have hs' : sumW List.length (List.take (i + 1) x9) = sumW List.length (List.take i x9) + List.length (x9.getD i pieceR.dflt) := hs
    have hle : sumW List.length (x9.take (i + 1)) ≤ sumW List.length x9 := sumW_take_le
    rw [step_cc1, decide_eq_true (show ((i : Nat) : Int) < ((x9.length : Nat) : Int) by omega), decide_eq_true (show (0 : Int) ≤ ((i : Nat) : Int) by omega), wrap_nat (show i ≤ 4611686018427387904 by omega), Int.toNat_natCast, wrap_id (by omega) (by omega), hs', decide_eq_false (show ¬ ((((sumW List.length (List.take i x9) : Nat) : Int) + ((List.length (x9.getD i pieceR.dflt) : Nat) : Int)) < 0) by omega), Int.natCast_add]
    rfl) (fun m => by
    show L_cc1 (m + 1) x0 _ x9 _ _ K = _
    rw [step_cc1, decide_eq_false (show ¬ ((x9.length : Nat) : Int) < ((x9.length : Nat) : Int) by omega), List.take_length]; rfl)
  exact this
theorem go_cc2 (x25 : List (List Int)) (K : Ex → St → Option Ret) (h1 : x25.length ≤ 4611686018427387904) (h2 : sumW List.length x25 ≤ 1099511627776) : L_cc2 (x25.length + 1) x25 ((x25.length : Nat) : Int) 0 [] K = K (.ext 2) (z_cc2 x25.flatten) := by
  have := loop_idx (R := fun n i (s : List Int) => L_cc2 n x25 ((x25.length : Nat) : Int) i s K) (k := K (.ext 2) (z_cc2 x25.flatten)) (f := fun i => (x25.take i).flatten) x25.length (fun m i hi => by
    show L_cc2 (m + 1) x25 _ i _ K = L_cc2 m x25 _ ((i + 1 : Nat) : Int) (x25.take (i + 1)).flatten K
    have hs := sumW_take (g := List.length) (z := (pieceR.dflt : List Int)) hi
    have hs' : sumW List.length (List.take (i + 1) x25) = sumW List.length (List.take i x25) + List.length (x25.getD i pieceR.dflt) := hs
    have hle : sumW List.length (x25.take (i + 1)) ≤ sumW List.length x25 := sumW_take_le
    have hfl := sumW_flatten (x25.take i)
    rw [step_cc2, decide_eq_true (show ((i : Nat) : Int) < ((x25.length : Nat) : Int) by omega), decide_eq_true (show (0 : Int) ≤ ((i : Nat) : Int) by omega), wrap_nat (show i ≤ 4611686018427387904 by omega), Int.toNat_natCast, Nat.ble_eq_true_of_le (show (((x25.take i).flatten.length + (x25.getD i pieceR.dflt).length) * 1) ≤ 140737488355328 by omega)]
    show L_cc2 m x25 _ _ ((x25.take i).flatten ++ x25.getD i pieceR.dflt) K = _
    have hf2 : (x25.take (i + 1)).flatten = (x25.take i).flatten ++ x25.getD i pieceR.dflt := flatten_take hi
    rw [hf2]) (fun m => by
    show L_cc2 (m + 1) x25 _ _ _ K = _
    rw [step_cc2, decide_eq_false (show ¬ ((x25.length : Nat) : Int) < ((x25.length : Nat) : Int) by omega), List.take_length]; rfl)
  exact this
theorem loop_cc1 : LoopOk E_cc (bodyOf F.slices_Concat_bytes_byte 3) := by
  refine loopF_ok (n := 3) (sh := sh_cc1) (R := R_cc1) (by kernel_rfl) rfl rfl (fun d K r hr => ?_)
  obtain ⟨⟨x0, u1, u2, x3, u4, u5, u6, u7, u8, x9, x10, x11, u12⟩, u13, u14⟩ := d
  unfold R_cc1 at hr
  simp only at hr
  cases hc : ((x11 == 0) && (x3 == 0) && (x10 == ((x9.length : Nat) : Int)) && Nat.ble x9.length 4611686018427387904 && Nat.ble (sumW List.length x9) 1099511627776) with
  | false => rw [hc] at hr; cases hr
  | true =>
    rw [hc] at hr
    simp only [Bool.and_eq_true, beq_iff_eq] at hc
    obtain ⟨⟨⟨⟨rfl, rfl⟩, rfl⟩, h1⟩, h2⟩ := hc
    exact ⟨x9.length + 1, (go_cc1 x0 x9 K (Nat.le_of_ble_eq_true h1) (Nat.le_of_ble_eq_true h2)).trans hr⟩
theorem loop_cc2 : LoopOk E_cc (bodyOf F.slices_Concat_bytes_byte 11) := by
  refine loopF_ok (n := 11) (sh := sh_cc2) (R := R_cc2) (by kernel_rfl) rfl rfl (fun d K r hr => ?_)
  obtain ⟨⟨_, _, _, _, _, _, _, _, _, _, _, _, _, _, _, _, _, _, _, _, _, _, _, _, _, x25, x26, x27, u12⟩, ⟨o0, u13⟩, u14⟩ := d
  unfold R_cc2 at hr
  simp only at hr
  cases hc : ((x27 == 0) && (x26 == ((x25.length : Nat) : Int)) && Nat.ble x25.length 4611686018427387904 && Nat.beq o0.length 0 && Nat.ble (sumW List.length x25) 1099511627776) with
  | false => rw [hc] at hr; cases hr
  | true =>
    rw [hc] at hr
    simp only [Bool.and_eq_true, beq_iff_eq] at hc
    obtain ⟨⟨⟨⟨rfl, rfl⟩, h1⟩, h3⟩, h2⟩ := hc
    have h3' : o0 = [] := List.eq_nil_of_length_eq_zero (Nat.eq_of_beq_eq_true h3)
    subst h3'
    exact ⟨x25.length + 1, (go_cc2 x25 K (Nat.le_of_ble_eq_true h1) (Nat.le_of_ble_eq_true h2)).trans hr⟩
noncomputable def G_Concat := evF E_cc true F.slices_Concat_bytes_byte
theorem ok_Concat : OkFn prog I N.slices_Concat_bytes_byte true G_Concat := ok_fn (memc okS_Grow mem0) (by kernel_rfl) (by kernel_rfl) (by kernel_rfl) (by kernel_rfl) (cs := [bodyOf F.slices_Concat_bytes_byte 3, bodyOf F.slices_Concat_bytes_byte 11]) (by kernel_rfl) (loopsc loop_cc1 (loopsc loop_cc2 loops0))
def S_concat : Sm := fun vs K => match vs with
  | [v] => match (Cc.sl pieceR).dec v with
    | some (xs : List (List Int)) => bif Nat.ble xs.length 4611686018427387904 && Nat.ble (sumW List.length xs) 1099511627776 then K (.l .deep bytesR xs.flatten, []) else none
    | none => none
  | _ => none
theorem okS_Concat : OkFn prog I N.slices_Concat_bytes_byte true S_concat := okW ok_Concat (by
  intro ws K q hr
  unfold S_concat at hr
  split at hr
  · split at hr
    · rename_i xs hx
      rw [Cc.dec_ok _ hx]
      have e : G_Concat [.l .no pieceR xs] K = (bif ((0 : Int) == 0) && ((0 : Int) == 0) && (((List.length xs : Nat) : Int) == ((List.length xs : Nat) : Int)) && Nat.ble (List.length xs) 4611686018427387904 && Nat.ble (sumW List.length xs) 1099511627776 then
        (bif decide (0 ≤ ((sumW List.length xs : Nat) : Int)) && decide (((sumW List.length xs : Nat) : Int) ≤ 1099511627776) then
         (bif ((0 : Int) == 0) && (((List.length xs : Nat) : Int) == ((List.length xs : Nat) : Int)) && Nat.ble (List.length xs) 4611686018427387904 && Nat.beq 0 0 && Nat.ble (sumW List.length xs) 1099511627776 then K (.l .deep bytesR (List.flatten xs), []) else none)
         else none) else none) := by kernel_rfl
      cases hl : (Nat.ble xs.length 4611686018427387904 && Nat.ble (sumW List.length xs) 1099511627776) with
      | false => rw [hl] at hr; cases hr
      | true =>
        rw [hl] at hr
        simp only [Bool.and_eq_true] at hl
        refine e.trans (Eq.trans ?_ hr)
        rw [hl.1, hl.2, beq_self_eq_true, beq_self_eq_true, decide_eq_true (show (0 : Int) ≤ ((sumW List.length xs : Nat) : Int) by omega), decide_eq_true (show ((sumW List.length xs : Nat) : Int) ≤ 1099511627776 by have := Nat.le_of_ble_eq_true hl.2; omega)]
        rfl
    · cases hr
  · cases hr)
end Go.Ev.Seat
end
section
/- i_Edit_do: its contract. -/
namespace Go.Ev.Seat
open Go.RowKit
set_option maxRecDepth 100000
set_option linter.unusedVariables false
set_option linter.unusedSimpArgs false
noncomputable abbrev E_i_Edit_do : Env := En [(N.slices_Concat_bytes_byte, true, S_concat)] [(1, takeB [0, 1, 2, 3, 4, 5, 6, 7, 8, 9, 10, 11, 12] (.fork (.one 13 (.fork (.one 14 (takes [15]))))), [])] [] [] false 0 []
noncomputable def T_i_Edit_do (e : T_Edit) (t : List Int) (K : Ret → Option Ret) : Option Ret := (bif ((decide ((0 : Int) ≤ e.1)) && (decide (e.1 ≤ (((List.length t) : Nat) : Int)))) then (bif ((decide ((0 : Int) ≤ (IntKind.wrap .i64 (e.1 + e.2.1)))) && (decide ((IntKind.wrap .i64 (e.1 + e.2.1)) ≤ (((List.length t) : Nat) : Int)))) then (bif (Nat.ble (sumW List.length ((List.take (Int.toNat e.1) t) :: (e.2.2 :: ((List.drop (Int.toNat (IntKind.wrap .i64 (e.1 + e.2.1))) t) :: [])))) 1099511627776) then K ((.l .deep bytesR (List.flatten ((List.take (Int.toNat e.1) t) :: (e.2.2 :: ((List.drop (Int.toNat (IntKind.wrap .i64 (e.1 + e.2.1))) t) :: []))))), []) else none) else none) else none)
theorem e_i_Edit_do (e : T_Edit) (t : List Int) (K : Ret → Option Ret) : evF E_i_Edit_do true F.i_Edit_do [.a (editR.cells .no e), .l .no bytesR t] K = T_i_Edit_do e t K := by kernel_rfl
def S_i_Edit_do : Sm := S_fnR [.a editR, .l bytesR] (fun d => decide (0 ≤ d.1.1) && decide (0 ≤ d.1.2.1) && decide (d.1.1 + d.1.2.1 ≤ ((d.2.1.length : Nat) : Int)) && Nat.ble d.2.1.length 1048576 && Nat.ble d.1.2.2.length 1048576) (fun d => (.l .deep bytesR (doD d.1 d.2.1), []))
theorem v_i_Edit_do (e : T_Edit) (t : List Int) (h : (decide (0 ≤ e.1) && decide (0 ≤ e.2.1) && decide (e.1 + e.2.1 ≤ ((t.length : Nat) : Int)) && Nat.ble t.length 1048576 && Nat.ble e.2.2.length 1048576) = true) (K : Ret → Option Ret) : T_i_Edit_do e t K = K (.l .deep bytesR (doD e t), []) := by
  simp only [Bool.and_eq_true, decide_eq_true_eq] at h
  obtain ⟨⟨⟨⟨h0, h1⟩, h2⟩, h3⟩, h4⟩ := h
  have h3' := Nat.le_of_ble_eq_true h3
  have h4' := Nat.le_of_ble_eq_true h4
  unfold T_i_Edit_do
  rw [wrap_in (n := e.1 + e.2.1) (by omega) (by omega), decide_eq_true h0, decide_eq_true (show e.1 ≤ ((t.length : Nat) : Int) by omega), decide_eq_true (show 0 ≤ e.1 + e.2.1 by omega), decide_eq_true h2]
  have hs : Nat.ble (sumW List.length [List.take (Int.toNat e.1) t, e.2.2, List.drop (Int.toNat (e.1 + e.2.1)) t]) 1099511627776 = true := Nat.ble_eq_true_of_le (by
    have e1 : (List.take (Int.toNat e.1) t).length ≤ 1048576 := by simp; omega
    have e2 : (List.drop (Int.toNat (e.1 + e.2.1)) t).length ≤ 1048576 := by simp; omega
    show _ + (_ + (_ + 0)) ≤ _
    omega)
  rw [hs]
  simp only [Bool.and_self, cond_true]
  rw [show [List.take (Int.toNat e.1) t, e.2.2, List.drop (Int.toNat (e.1 + e.2.1)) t].flatten = doD e t by simp [doD]]
theorem okS_i_Edit_do : OkFn prog I N.i_Edit_do true S_i_Edit_do := okN (ok_fn (memc okS_Concat mem0) (l := [(N.slices_Concat_bytes_byte, true, S_concat)]) (p := [(1, takeB [0, 1, 2, 3, 4, 5, 6, 7, 8, 9, 10, 11, 12] (.fork (.one 13 (.fork (.one 14 (takes [15]))))), [])]) (ls := []) (lend := []) (focus := false) (fuel := 0) (give := []) (fn := F.i_Edit_do) (by kernel_rfl) (by kernel_rfl) (by kernel_rfl) (by kernel_rfl) (cs := []) (by kernel_rfl) loops0) (S_fnR_of fun d K h => (e_i_Edit_do d.1 d.2.1 K).trans (v_i_Edit_do d.1 d.2.1 h K))
end Go.Ev.Seat
end
section
/- i_EditsDo: its contract. -/
namespace Go.Ev.Seat
open Go.RowKit
set_option maxRecDepth 100000
set_option linter.unusedVariables false
set_option linter.unusedSimpArgs false
def z_i_EditsDo_5_0 (x7 : Int) (o0 : List Int) : St := { tm := ([.x, .x, .x, .x, .x, .x, (.w 0), (.s (.int .i64 x7))] ++ List.replicate 25 .x), ob := [(0, (.arr true true bytesR o0))], nx := 1, io := [] }
def sh_i_EditsDo_5_0 : Ss := { tm := (.cons (.x) (.cons (.x) (.cons (.x) (.cons (.x) (.cons (.x) (.cons (.x) (.cons (.w 0) (.cons (.int .i64) (.cons (.x) (.cons (.x) (.cons (.x) (.cons (.x) (.cons (.x) (.cons (.x) (.cons (.x) (.cons (.l .no editR) (.cons (.int .i64) (.cons (.int .i64) (xsh 15))))))))))))))))))), ob := (.arr true true bytesR .nil), nx := 1, io := .nil }
def d_i_EditsDo_5_0 (x7 : Int) (x15 : List T_Edit) (x16 : Int) (x17 : Int) (o0 : List Int) : sh_i_EditsDo_5_0.T := (((), ((), ((), ((), ((), ((), ((), (x7, ((), ((), ((), ((), ((), ((), ((), (x15, (x16, (x17, xd 15)))))))))))))))))), (o0, ()), ())
def s_i_EditsDo_5_0 (x7 : Int) (x15 : List T_Edit) (x16 : Int) (x17 : Int) (o0 : List Int) : St := { tm := ([.x, .x, .x, .x, .x, .x, (.w 0), (.s (.int .i64 x7)), .x, .x, .x, .x, .x, .x, .x, (.l .no editR x15), (.s (.int .i64 x16)), (.s (.int .i64 x17))] ++ List.replicate 15 .x), ob := [(0, (.arr true true bytesR o0))], nx := 1, io := [] }
theorem se_i_EditsDo_5_0 (x7 : Int) (x15 : List T_Edit) (x16 : Int) (x17 : Int) (o0 : List Int) : sh_i_EditsDo_5_0.mk' (d_i_EditsDo_5_0 x7 x15 x16 x17 o0) = (s_i_EditsDo_5_0 x7 x15 x16 x17 o0) := by kernel_rfl
def w_i_EditsDo_5_0 (d : sh_i_EditsDo_5_0.T) (f : Int → (List T_Edit) → Int → Int → (List Int) → Option Ret) : Option Ret := match d with | ((_, (_, (_, (_, (_, (_, (_, (x7, (_, (_, (_, (_, (_, (_, (_, (x15, (x16, (x17, _)))))))))))))))))), (o0, _), _) => f x7 x15 x16 x17 o0
noncomputable def P_i_EditsDo_5_0 (x7 : Int) (x15 : List T_Edit) (x16 : Int) (x17 : Int) (o0 : List Int) (nx0 : Int → (List T_Edit) → Int → Int → (List Int) → Option Ret) (k0 : Int → (List Int) → Option Ret) : Option Ret := (bif (decide (x17 < x16)) then (bif ((decide ((0 : Int) ≤ x17)) && (decide (x17 < (((List.length x15) : Nat) : Int)))) then (bif ((fitB o0) && (fitB (List.getD x15 (Int.toNat x17) (editR.dflt)).2.2)) then (bif (!(editOkD o0 (List.getD x15 (Int.toNat x17) (editR.dflt)))) then (k0 x7 o0) else (bif (((((decide ((0 : Int) ≤ (List.getD x15 (Int.toNat x17) (editR.dflt)).1)) && (decide ((0 : Int) ≤ (List.getD x15 (Int.toNat x17) (editR.dflt)).2.1))) && (decide (((List.getD x15 (Int.toNat x17) (editR.dflt)).1 + (List.getD x15 (Int.toNat x17) (editR.dflt)).2.1) ≤ (((List.length o0) : Nat) : Int)))) && (Nat.ble (List.length o0) 1048576)) && (Nat.ble (List.length (List.getD x15 (Int.toNat x17) (editR.dflt)).2.2) 1048576)) then (nx0 (IntKind.wrap .i64 (x7 + (1 : Int))) x15 x16 (IntKind.wrap .i64 (x17 + (1 : Int))) (doD (List.getD x15 (Int.toNat x17) (editR.dflt)) o0)) else none)) else none) else none) else (k0 x7 o0))
noncomputable def Q_i_EditsDo_5_0 : Nat → Int → (List T_Edit) → Int → Int → (List Int) → (Int → (List Int) → Option Ret) → Option Ret
  | 0, _, _, _, _, _, _ => none
  | m + 1, x7, x15, x16, x17, o0, k0 => P_i_EditsDo_5_0 x7 x15 x16 x17 o0 (fun x7 x15 x16 x17 o0 => (Q_i_EditsDo_5_0 m x7 x15 x16 x17 o0 k0)) k0
noncomputable def R_i_EditsDo_5_0 (x7 : Int) (x15 : List T_Edit) (x16 : Int) (x17 : Int) (o0 : List Int) (k0 : Int → (List Int) → Option Ret) : Option Ret := Q_i_EditsDo_5_0 (x7.toNat + List.length x15 + x16.toNat + x17.toNat + List.length o0 + 2) x7 x15 x16 x17 o0 k0
noncomputable def W_i_EditsDo_5 : LoopFn := (fun (σ : St) (K : Ex → St → Option Ret) => (match sh_i_EditsDo_5_0.un σ with | some d => w_i_EditsDo_5_0 d (fun x7 x15 x16 x17 o0 => R_i_EditsDo_5_0 x7 x15 x16 x17 o0 (fun x7 o0 => (K (.ext 0) (z_i_EditsDo_5_0 x7 o0)))) | none => none))
noncomputable abbrev E_i_EditsDo : Env := En [(N.i_isText, true, S_i_isText), (N.slices_Clone_bytes_byte, true, S_slices_Clone_bytes_byte), (N.i_isEdit, true, S_i_isEdit), (N.i_Edit_do, true, S_i_Edit_do)] [] [(5, [6,7,15,16,17], [4,5,6,7], W_i_EditsDo_5)] [] false 0 []
theorem st_i_EditsDo_5_0 (m : Nat) (x7 : Int) (x15 : List T_Edit) (x16 : Int) (x17 : Int) (o0 : List Int) (K : Ex → St → Option Ret) : rounds (run E_i_EditsDo (bodyOf F.i_EditsDo 5)) [6,7,15,16,17] [4,5,6,7] (m + 1) (s_i_EditsDo_5_0 x7 x15 x16 x17 o0) K = P_i_EditsDo_5_0 x7 x15 x16 x17 o0 (fun x7 x15 x16 x17 o0 => (rounds (run E_i_EditsDo (bodyOf F.i_EditsDo 5)) [6,7,15,16,17] [4,5,6,7] m (s_i_EditsDo_5_0 x7 x15 x16 x17 o0) K)) (fun x7 o0 => (K (.ext 0) (z_i_EditsDo_5_0 x7 o0))) := by kernel_rfl
theorem q_i_EditsDo_5 (K : Ex → St → Option Ret) : ∀ m : Nat, (∀ (x7 : Int) (x15 : List T_Edit) (x16 : Int) (x17 : Int) (o0 : List Int), rounds (run E_i_EditsDo (bodyOf F.i_EditsDo 5)) [6,7,15,16,17] [4,5,6,7] m (s_i_EditsDo_5_0 x7 x15 x16 x17 o0) K = Q_i_EditsDo_5_0 m x7 x15 x16 x17 o0 (fun x7 o0 => (K (.ext 0) (z_i_EditsDo_5_0 x7 o0))))
  | 0 => (fun _ _ _ _ _ => rfl)
  | m + 1 => (fun x7 x15 x16 x17 o0 => (by rw [st_i_EditsDo_5_0, show (fun x7 x15 x16 x17 o0 => (rounds (run E_i_EditsDo (bodyOf F.i_EditsDo 5)) [6,7,15,16,17] [4,5,6,7] m (s_i_EditsDo_5_0 x7 x15 x16 x17 o0) K)) = (fun x7 x15 x16 x17 o0 => (Q_i_EditsDo_5_0 m x7 x15 x16 x17 o0 (fun x7 o0 => (K (.ext 0) (z_i_EditsDo_5_0 x7 o0))))) from funext fun x7 => funext fun x15 => funext fun x16 => funext fun x17 => funext fun o0 => (q_i_EditsDo_5 K m) x7 x15 x16 x17 o0]; rfl))
theorem loopK_i_EditsDo_5 : LoopOk E_i_EditsDo (bodyOf F.i_EditsDo 5) := by
  refine loopW_ok (n := 5) (F := W_i_EditsDo_5) (by kernel_rfl) rfl (li := [6,7,15,16,17]) (lo := [4,5,6,7]) rfl (fun σ K r hr => ?_)
  unfold W_i_EditsDo_5 at hr
  split at hr
  · rename_i d hd
    rw [Ss.un_mk hd]
    exact ⟨_, ((congrArg (fun z => rounds (run E_i_EditsDo (bodyOf F.i_EditsDo 5)) [6,7,15,16,17] [4,5,6,7] _ z K) (se_i_EditsDo_5_0 _ _ _ _ _)).trans ((q_i_EditsDo_5 K _) _ _ _ _ _)).trans hr⟩
  · cases hr
noncomputable def T_i_EditsDo (t : List Int) (l : List T_Edit) (K : Ret → Option Ret) : Option Ret := (bif (fitB t) then (bif (!(textOk t)) then K ((.t [(.l .deep bytesR ([] : List Int)), (.s (.int .i64 (-(1 : Int))))]), []) else (bif (Cc.lim (Cc.sl bytesR) t) then (R_i_EditsDo_5_0 (0 : Int) l (((List.length l) : Nat) : Int) (0 : Int) t (fun y0 y1 => K ((.t [(.l .deep bytesR y1), (.s (.int .i64 y0))]), []))) else none)) else none)
theorem e_i_EditsDo (t : List Int) (l : List T_Edit) (K : Ret → Option Ret) : evF E_i_EditsDo true F.i_EditsDo [.l .no bytesR t, .l .no editR l] K = T_i_EditsDo t l K := by kernel_rfl
def S_i_EditsDo : Sm := S_fnR [.l bytesR, .l editR] (fun d => fitB d.1 && fitC (.sl editR) d.2.1) (fun d => (.t [.l .deep bytesR (editsDoD d.1 d.2.1).1, .s (.int .i64 (editsDoD d.1 d.2.1).2)], []))
theorem v_i_EditsDo (t : List Int) (l : List T_Edit) (h : (fitB t && fitC (.sl editR) l) = true) (K : Ret → Option Ret) : T_i_EditsDo t l K = K (.t [.l .deep bytesR (editsDoD t l).1, .s (.int .i64 (editsDoD t l).2)], []) := by
  have h1 := ((Bool.and_eq_true _ _).mp h).1
  have h2 := ((Bool.and_eq_true _ _).mp h).2
  unfold T_i_EditsDo editsDoD
  rw [h1]
  cases ht : textOk t with
  | false => rfl
  | true =>
  have lt := textOk_len ht
  have hl := fitC_len h2
  rw [bytes_lim (fitB_len h1)]
  have q : ∀ (m i : Nat) (o : List Int), fitB o = true → i ≤ l.length → l.length - i < m → Q_i_EditsDo_5_0 m ((i : Nat) : Int) l (((List.length l) : Nat) : Int) ((i : Nat) : Int) o (fun y0 y1 => K ((.t [(.l .deep bytesR y1), (.s (.int .i64 y0))]), [])) =
      K ((.t [.l .deep bytesR (editsDoL (l.drop i) o i).1, .s (.int .i64 (((editsDoL (l.drop i) o i).2 : Nat) : Int))]), []) := by
    intro m
    induction m with
    | zero => intro i o _ _ hm; omega
    | succ m ih =>
      intro i o ho hi hm
      show P_i_EditsDo_5_0 ((i : Nat) : Int) l _ ((i : Nat) : Int) o _ _ = _
      unfold P_i_EditsDo_5_0
      by_cases hlt : i < l.length
      · have hg : l.getD i editR.dflt = l[i] := getD_lt _ hlt
        have hf : fitB (l[i]).2.2 = true := fitB_fit (fitR_snd (fitR_snd (fitC_mem h2 (List.getElem_mem hlt))))
        have hd : l.drop i = l[i] :: l.drop (i + 1) := (List.getElem_cons_drop hlt).symm
        rw [decide_eq_true (show ((i : Nat) : Int) < ((l.length : Nat) : Int) by omega), decide_eq_true (show (0 : Int) ≤ ((i : Nat) : Int) by omega), Int.toNat_natCast, wrap_nat (by omega), ho, hg, hf, hd]
        cases he : editOkD o l[i] with
        | false => simp only [editsDoL, he]; rfl
        | true =>
          have e1 : editDoD o l[i] = doD l[i] o := by unfold editDoD; rw [he]; rfl
          have := ih (i + 1) (doD l[i] o) (e1 ▸ fitB_editDoD ho hf) (by omega) (by omega)
          have qq := editOkD_iff.1 he
          have r1 := isCutD_range qq.a
          have c0 := qq.c0
          have r2 := isCutD_range qq.b
          have l1 := textOk_len qq.tx
          have l2 := textOk_len qq.p
          rw [decide_eq_true r1.1, decide_eq_true c0, decide_eq_true r2.2, Nat.ble_eq_true_of_le (by omega), Nat.ble_eq_true_of_le (by omega)]
          simp only [editsDoL, he]
          exact this
      · obtain rfl : i = l.length := by omega
        rw [decide_eq_false (show ¬ ((l.length : Nat) : Int) < ((l.length : Nat) : Int) by omega), List.drop_length]; rfl
  refine Eq.trans (q _ 0 t h1 (by omega) (by omega)) ?_
  rw [List.drop_zero]; rfl
theorem okS_i_EditsDo : OkFn prog I N.i_EditsDo true S_i_EditsDo := okN (ok_fn (memc okS_i_isText (memc okS_slices_Clone_bytes_byte (memc okS_i_isEdit (memc okS_i_Edit_do mem0)))) (l := [(N.i_isText, true, S_i_isText), (N.slices_Clone_bytes_byte, true, S_slices_Clone_bytes_byte), (N.i_isEdit, true, S_i_isEdit), (N.i_Edit_do, true, S_i_Edit_do)]) (p := []) (ls := [(5, [6,7,15,16,17], [4,5,6,7], W_i_EditsDo_5)]) (lend := []) (focus := false) (fuel := 0) (give := []) (fn := F.i_EditsDo) (by kernel_rfl) (by kernel_rfl) (by kernel_rfl) (by kernel_rfl) (cs := [bodyOf F.i_EditsDo 5]) (by kernel_rfl) (loopsc loopK_i_EditsDo_5 loops0)) (S_fnR_of fun d K h => (e_i_EditsDo d.1 d.2.1 K).trans (v_i_EditsDo d.1 d.2.1 h K))
end Go.Ev.Seat
end
section
/- bytes_Equal: its contract. -/
namespace Go.Ev.Seat
open Go.RowKit
set_option maxRecDepth 100000
set_option linter.unusedVariables false
set_option linter.unusedSimpArgs false
noncomputable abbrev E_bytes_Equal : Env := En [] [] [] [] false 0 []
noncomputable def T_bytes_Equal (a : List Int) (b : List Int) (K : Ret → Option Ret) : Option Ret := K ((.s (.bool ((ByteArray.toList (bstr a)) == (ByteArray.toList (bstr b))))), [])
theorem e_bytes_Equal (a : List Int) (b : List Int) (K : Ret → Option Ret) : evF E_bytes_Equal true F.bytes_Equal [.l .no bytesR a, .l .no bytesR b] K = T_bytes_Equal a b K := by kernel_rfl
def S_bytes_Equal : Sm := S_fnR [.l bytesR, .l bytesR] (fun d => fitB d.1 && fitB d.2.1) (fun d => (bl (decide (d.1 = d.2.1)), []))
theorem v_bytes_Equal (a : List Int) (b : List Int) (h : (fitB a && fitB b) = true) (K : Ret → Option Ret) : T_bytes_Equal a b K = K (bl (decide (a = b)), []) := by
  obtain ⟨h1, h2⟩ := (Bool.and_eq_true _ _).mp h
  unfold T_bytes_Equal
  rw [bstr_eq (fun x hx => fitB_mem h1 hx) (fun x hx => fitB_mem h2 hx)]
  rfl
theorem okS_bytes_Equal : OkFn prog I N.bytes_Equal true S_bytes_Equal := okN (ok_fn mem0 (l := []) (p := []) (ls := []) (lend := []) (focus := false) (fuel := 0) (give := []) (fn := F.bytes_Equal) (by kernel_rfl) (by kernel_rfl) (by kernel_rfl) (by kernel_rfl) (cs := []) (by kernel_rfl) loops0) (S_fnR_of fun d K h => (e_bytes_Equal d.1 d.2.1 K).trans (v_bytes_Equal d.1 d.2.1 h K))
end Go.Ev.Seat
end
section
/- i_areCommits: its contract. -/
namespace Go.Ev.Seat
open Go.RowKit
set_option maxRecDepth 100000
set_option linter.unusedVariables false
set_option linter.unusedSimpArgs false
noncomputable abbrev E_i_areCommits : Env := En [(N.slices_ContainsFunc_Commit, true, S_slices_ContainsFunc_Commit), (N.i_editsOf, true, S_i_editsOf), (N.i_EditsDo, true, S_i_EditsDo), (N.bytes_Equal, true, S_bytes_Equal)] [(3, takeB [0, 1, 2, 3] (.fork (.one 4 (.fork (.one 5 (takes [6, 7, 8, 9, 10]))))), [])] [] [] false 0 []
noncomputable def T_i_areCommits (d : T_Doc) (K : Ret → Option Ret) : Option Ret := (bif (decide ((((List.length d.2.2.1) : Nat) : Int) > (60 : Int))) then K ((.s (.bool false)), []) else (bif (Nat.ble (List.length d.2.2.1) 1048576) then (bif (List.any d.2.2.1 (fun x => (!(sessD x.1)))) then K ((.s (.bool false)), []) else (bif (fitC (Cc.sl commitR) d.2.2.1) then (bif ((fitB d.1) && (fitC (Cc.sl editR) (logD d.2.2.1))) then (bif ((editsDoD d.1 (logD d.2.2.1)).2 == (((List.length d.2.2.1) : Nat) : Int)) then (bif ((fitB (editsDoD d.1 (logD d.2.2.1)).1) && (fitB d.2.1)) then K ((.s (.bool (decide ((editsDoD d.1 (logD d.2.2.1)).1 = d.2.1)))), []) else none) else K ((.s (.bool false)), [])) else none) else none)) else none))
theorem e_i_areCommits (d : T_Doc) (K : Ret → Option Ret) : evF E_i_areCommits true F.i_areCommits [.a (docR.cells .no d)] K = T_i_areCommits d K := by kernel_rfl
def S_i_areCommits : Sm := S_fnR [.a docR] (fun d => fitR docR d.1) (fun d => (bl (commitsD d.1.1 d.1.2.1 d.1.2.2.1), []))
theorem v_i_areCommits (d : T_Doc) (h : (fitR docR d) = true) (K : Ret → Option Ret) : T_i_areCommits d K = K (bl (commitsD d.1 d.2.1 d.2.2.1), []) := by
  obtain ⟨h1, h2, h3, _, _⟩ := fit_doc h
  have hl := fitC_len h3
  unfold T_i_areCommits commitsD
  rw [Nat.ble_eq_true_of_le hl, h1, h2, h3, fit_log h3, fitB_editsDo h1 (fit_log h3)]
  by_cases h6 : ((d.2.2.1.length : Nat) : Int) ≤ 60
  case neg => rw [decide_eq_false h6, decide_eq_true (show ((d.2.2.1.length : Nat) : Int) > 60 by omega)]; rfl
  rw [decide_eq_true h6, decide_eq_false (show ¬ ((d.2.2.1.length : Nat) : Int) > 60 by omega), List.all_eq_not_any_not]
  cases List.any d.2.2.1 (fun c => !(sessD c.1))
  · cases ((editsDoD d.1 (logD d.2.2.1)).2 == ((d.2.2.1.length : Nat) : Int)) <;> rfl
  · rfl
theorem okS_i_areCommits : OkFn prog I N.i_areCommits true S_i_areCommits := okN (ok_fn (memc okS_slices_ContainsFunc_Commit (memc okS_i_editsOf (memc okS_i_EditsDo (memc okS_bytes_Equal mem0)))) (l := [(N.slices_ContainsFunc_Commit, true, S_slices_ContainsFunc_Commit), (N.i_editsOf, true, S_i_editsOf), (N.i_EditsDo, true, S_i_EditsDo), (N.bytes_Equal, true, S_bytes_Equal)]) (p := [(3, takeB [0, 1, 2, 3] (.fork (.one 4 (.fork (.one 5 (takes [6, 7, 8, 9, 10]))))), [])]) (ls := []) (lend := []) (focus := false) (fuel := 0) (give := []) (fn := F.i_areCommits) (by kernel_rfl) (by kernel_rfl) (by kernel_rfl) (by kernel_rfl) (cs := []) (by kernel_rfl) loops0) (S_fnR_of fun d K h => (e_i_areCommits d.1 K).trans (v_i_areCommits d.1 h K))
end Go.Ev.Seat
end
section
/- i_isClock: its contract. -/
namespace Go.Ev.Seat
open Go.RowKit
set_option maxRecDepth 100000
set_option linter.unusedVariables false
set_option linter.unusedSimpArgs false
noncomputable abbrev E_i_isClock : Env := En [(N.i_in, true, S_i_in)] [] [] [] false 0 []
noncomputable def T_i_isClock (n : Int) (K : Ret → Option Ret) : Option Ret := K ((.s (.bool ((decide ((0 : Int) ≤ n)) && (decide (n ≤ (1000 : Int)))))), [])
theorem e_i_isClock (n : Int) (K : Ret → Option Ret) : evF E_i_isClock true F.i_isClock [.s (.int .i64 n)] K = T_i_isClock n K := by kernel_rfl
def S_i_isClock : Sm := S_fnR [.i] (fun d => true) (fun d => (bl (clockD d.1), []))
theorem v_i_isClock (n : Int) (K : Ret → Option Ret) : T_i_isClock n K = K (bl (clockD n), []) := rfl
theorem okS_i_isClock : OkFn prog I N.i_isClock true S_i_isClock := okN (ok_fn (memc okS_i_in mem0) (l := [(N.i_in, true, S_i_in)]) (p := []) (ls := []) (lend := []) (focus := false) (fuel := 0) (give := []) (fn := F.i_isClock) (by kernel_rfl) (by kernel_rfl) (by kernel_rfl) (by kernel_rfl) (cs := []) (by kernel_rfl) loops0) (S_fnR_of fun d K h => (e_i_isClock d.1 K).trans (v_i_isClock d.1 K))
end Go.Ev.Seat
end
section
/- i_Edit_isSmall: its contract. -/
namespace Go.Ev.Seat
open Go.RowKit
set_option maxRecDepth 100000
set_option linter.unusedVariables false
set_option linter.unusedSimpArgs false
noncomputable abbrev E_i_Edit_isSmall : Env := En [(N.i_in, true, S_i_in)] [] [] [] false 0 []
noncomputable def T_i_Edit_isSmall (e : T_Edit) (K : Ret → Option Ret) : Option Ret := (bif ((decide ((0 : Int) ≤ e.1)) && (decide (e.1 ≤ (400 : Int)))) then (bif ((decide ((0 : Int) ≤ e.2.1)) && (decide (e.2.1 ≤ (400 : Int)))) then K ((.s (.bool (decide ((((List.length e.2.2) : Nat) : Int) ≤ (400 : Int))))), []) else K ((.s (.bool false)), [])) else K ((.s (.bool false)), []))
theorem e_i_Edit_isSmall (e : T_Edit) (K : Ret → Option Ret) : evF E_i_Edit_isSmall true F.i_Edit_isSmall [.a (editR.cells .no e)] K = T_i_Edit_isSmall e K := by kernel_rfl
def S_i_Edit_isSmall : Sm := S_fnR [.a editR] (fun d => true) (fun d => (bl (smallE d.1), []))
theorem v_i_Edit_isSmall (e : T_Edit) (K : Ret → Option Ret) : T_i_Edit_isSmall e K = K (bl (smallE e), []) := by
  unfold T_i_Edit_isSmall smallE in400
  cases (decide (0 ≤ e.1) && decide (e.1 ≤ 400)) <;> cases (decide (0 ≤ e.2.1) && decide (e.2.1 ≤ 400)) <;> rfl
theorem okS_i_Edit_isSmall : OkFn prog I N.i_Edit_isSmall true S_i_Edit_isSmall := okN (ok_fn (memc okS_i_in mem0) (l := [(N.i_in, true, S_i_in)]) (p := []) (ls := []) (lend := []) (focus := false) (fuel := 0) (give := []) (fn := F.i_Edit_isSmall) (by kernel_rfl) (by kernel_rfl) (by kernel_rfl) (by kernel_rfl) (cs := []) (by kernel_rfl) loops0) (S_fnR_of fun d K h => (e_i_Edit_isSmall d.1 K).trans (v_i_Edit_isSmall d.1 K))
end Go.Ev.Seat
end
section
/- i_areStacked_1: its contract. -/
namespace Go.Ev.Seat
open Go.RowKit
set_option maxRecDepth 100000
set_option linter.unusedVariables false
set_option linter.unusedSimpArgs false
noncomputable abbrev E_i_areStacked_1 : Env := En [(N.i_Edit_isSmall, true, S_i_Edit_isSmall)] [] [] [] false 0 []
noncomputable def T_i_areStacked_1 (e : T_Edit) (K : Ret → Option Ret) : Option Ret := K ((.s (.bool (!(smallE e)))), [])
theorem e_i_areStacked_1 (e : T_Edit) (K : Ret → Option Ret) : evF E_i_areStacked_1 true F.i_areStacked_1 [.a (editR.cells .no e)] K = T_i_areStacked_1 e K := by kernel_rfl
def S_i_areStacked_1 : Sm := S_fnR [.a editR] (fun d => true) (fun d => (bl (!(smallE d.1)), []))
theorem v_i_areStacked_1 (e : T_Edit) (K : Ret → Option Ret) : T_i_areStacked_1 e K = K (bl (!(smallE e)), []) := rfl
theorem okS_i_areStacked_1 : OkFn prog I N.i_areStacked_1 true S_i_areStacked_1 := okN (ok_fn (memc okS_i_Edit_isSmall mem0) (l := [(N.i_Edit_isSmall, true, S_i_Edit_isSmall)]) (p := []) (ls := []) (lend := []) (focus := false) (fuel := 0) (give := []) (fn := F.i_areStacked_1) (by kernel_rfl) (by kernel_rfl) (by kernel_rfl) (by kernel_rfl) (cs := []) (by kernel_rfl) loops0) (S_fnR_of fun d K h => (e_i_areStacked_1 d.1 K).trans (v_i_areStacked_1 d.1 K))
end Go.Ev.Seat
end
section
/- slices_IndexFunc_Edit: its contract. -/
namespace Go.Ev.Seat
open Go.RowKit
set_option maxRecDepth 100000
set_option linter.unusedVariables false
set_option linter.unusedSimpArgs false
def z_slices_IndexFunc_Edit_2_0 (x4 : Int) : St := { tm := ([.x, .x, .x, .x, (.s (.int .i64 x4))] ++ List.replicate 14 .x), ob := [], nx := 0, io := [] }
def z_slices_IndexFunc_Edit_2_1 : St := { tm := ([] ++ List.replicate 19 .x), ob := [], nx := 0, io := [] }
def sh_slices_IndexFunc_Edit_2_0 : Ss := { tm := (.cons (.l .no editR) (.cons (.f 215 .nil) (.cons (.x) (.cons (.x) (.cons (.x) (.cons (.x) (.cons (.x) (.cons (.int .i64) (.cons (.int .i64) (xsh 10)))))))))), ob := .nil, nx := 0, io := .nil }
def d_slices_IndexFunc_Edit_2_0 (x0 : List T_Edit) (x7 : Int) (x8 : Int) : sh_slices_IndexFunc_Edit_2_0.T := ((x0, ((), ((), ((), ((), ((), ((), (x7, (x8, xd 10))))))))), (), ())
def s_slices_IndexFunc_Edit_2_0 (x0 : List T_Edit) (x7 : Int) (x8 : Int) : St := { tm := ([(.l .no editR x0), (.f 215 []), .x, .x, .x, .x, .x, (.s (.int .i64 x7)), (.s (.int .i64 x8))] ++ List.replicate 10 .x), ob := [], nx := 0, io := [] }
theorem se_slices_IndexFunc_Edit_2_0 (x0 : List T_Edit) (x7 : Int) (x8 : Int) : sh_slices_IndexFunc_Edit_2_0.mk' (d_slices_IndexFunc_Edit_2_0 x0 x7 x8) = (s_slices_IndexFunc_Edit_2_0 x0 x7 x8) := by kernel_rfl
def w_slices_IndexFunc_Edit_2_0 (d : sh_slices_IndexFunc_Edit_2_0.T) (f : (List T_Edit) → Int → Int → Option Ret) : Option Ret := match d with | ((x0, (_, (_, (_, (_, (_, (_, (x7, (x8, _))))))))), _, _) => f x0 x7 x8
noncomputable def P_slices_IndexFunc_Edit_2_0 (x0 : List T_Edit) (x7 : Int) (x8 : Int) (nx0 : (List T_Edit) → Int → Int → Option Ret) (k0 : Int → Option Ret) (k1 : Option Ret) : Option Ret := (bif (decide (x8 < x7)) then (bif ((decide ((0 : Int) ≤ x8)) && (decide (x8 < (((List.length x0) : Nat) : Int)))) then (bif (!(smallE (List.getD x0 (Int.toNat x8) (editR.dflt)))) then (k0 x8) else (nx0 x0 x7 (IntKind.wrap .i64 (x8 + (1 : Int))))) else none) else k1)
noncomputable def Q_slices_IndexFunc_Edit_2_0 : Nat → (List T_Edit) → Int → Int → (Int → Option Ret) → (Option Ret) → Option Ret
  | 0, _, _, _, _, _ => none
  | m + 1, x0, x7, x8, k0, k1 => P_slices_IndexFunc_Edit_2_0 x0 x7 x8 (fun x0 x7 x8 => (Q_slices_IndexFunc_Edit_2_0 m x0 x7 x8 k0 k1)) k0 k1
noncomputable def R_slices_IndexFunc_Edit_2_0 (x0 : List T_Edit) (x7 : Int) (x8 : Int) (k0 : Int → Option Ret) (k1 : Option Ret) : Option Ret := Q_slices_IndexFunc_Edit_2_0 (List.length x0 + x7.toNat + x8.toNat + 2) x0 x7 x8 k0 k1
noncomputable def W_slices_IndexFunc_Edit_2 : LoopFn := (fun (σ : St) (K : Ex → St → Option Ret) => (match sh_slices_IndexFunc_Edit_2_0.un σ with | some d => w_slices_IndexFunc_Edit_2_0 d (fun x0 x7 x8 => R_slices_IndexFunc_Edit_2_0 x0 x7 x8 (fun x4 => (K .ret (z_slices_IndexFunc_Edit_2_0 x4))) (K (.ext 0) z_slices_IndexFunc_Edit_2_1)) | none => none))
noncomputable abbrev E_slices_IndexFunc_Edit : Env := En [(N.i_areStacked_1, true, S_i_areStacked_1)] [] [(2, [0,1,7,8], [4], W_slices_IndexFunc_Edit_2)] [] false 0 []
theorem st_slices_IndexFunc_Edit_2_0 (m : Nat) (x0 : List T_Edit) (x7 : Int) (x8 : Int) (K : Ex → St → Option Ret) : rounds (run E_slices_IndexFunc_Edit (bodyOf F.slices_IndexFunc_Edit 2)) [0,1,7,8] [4] (m + 1) (s_slices_IndexFunc_Edit_2_0 x0 x7 x8) K = P_slices_IndexFunc_Edit_2_0 x0 x7 x8 (fun x0 x7 x8 => (rounds (run E_slices_IndexFunc_Edit (bodyOf F.slices_IndexFunc_Edit 2)) [0,1,7,8] [4] m (s_slices_IndexFunc_Edit_2_0 x0 x7 x8) K)) (fun x4 => (K .ret (z_slices_IndexFunc_Edit_2_0 x4))) (K (.ext 0) z_slices_IndexFunc_Edit_2_1) := by kernel_rfl
theorem q_slices_IndexFunc_Edit_2 (K : Ex → St → Option Ret) : ∀ m : Nat, (∀ (x0 : List T_Edit) (x7 : Int) (x8 : Int), rounds (run E_slices_IndexFunc_Edit (bodyOf F.slices_IndexFunc_Edit 2)) [0,1,7,8] [4] m (s_slices_IndexFunc_Edit_2_0 x0 x7 x8) K = Q_slices_IndexFunc_Edit_2_0 m x0 x7 x8 (fun x4 => (K .ret (z_slices_IndexFunc_Edit_2_0 x4))) (K (.ext 0) z_slices_IndexFunc_Edit_2_1))
  | 0 => (fun _ _ _ => rfl)
  | m + 1 => (fun x0 x7 x8 => (by rw [st_slices_IndexFunc_Edit_2_0, show (fun x0 x7 x8 => (rounds (run E_slices_IndexFunc_Edit (bodyOf F.slices_IndexFunc_Edit 2)) [0,1,7,8] [4] m (s_slices_IndexFunc_Edit_2_0 x0 x7 x8) K)) = (fun x0 x7 x8 => (Q_slices_IndexFunc_Edit_2_0 m x0 x7 x8 (fun x4 => (K .ret (z_slices_IndexFunc_Edit_2_0 x4))) (K (.ext 0) z_slices_IndexFunc_Edit_2_1))) from funext fun x0 => funext fun x7 => funext fun x8 => (q_slices_IndexFunc_Edit_2 K m) x0 x7 x8]; rfl))
theorem loopK_slices_IndexFunc_Edit_2 : LoopOk E_slices_IndexFunc_Edit (bodyOf F.slices_IndexFunc_Edit 2) := by
  refine loopW_ok (n := 2) (F := W_slices_IndexFunc_Edit_2) (by kernel_rfl) rfl (li := [0,1,7,8]) (lo := [4]) rfl (fun σ K r hr => ?_)
  unfold W_slices_IndexFunc_Edit_2 at hr
  split at hr
  · rename_i d hd
    rw [Ss.un_mk hd]
    exact ⟨_, ((congrArg (fun z => rounds (run E_slices_IndexFunc_Edit (bodyOf F.slices_IndexFunc_Edit 2)) [0,1,7,8] [4] _ z K) (se_slices_IndexFunc_Edit_2_0 _ _ _)).trans ((q_slices_IndexFunc_Edit_2 K _) _ _ _)).trans hr⟩
  · cases hr
noncomputable def T_slices_IndexFunc_Edit (l : List T_Edit) (K : Ret → Option Ret) : Option Ret := (R_slices_IndexFunc_Edit_2_0 l (((List.length l) : Nat) : Int) (0 : Int) (fun y0 => K ((.s (.int .i64 y0)), [])) (K ((.s (.int .i64 (-(1 : Int)))), [])))
theorem e_slices_IndexFunc_Edit (l : List T_Edit) (K : Ret → Option Ret) : evF E_slices_IndexFunc_Edit true F.slices_IndexFunc_Edit [.l .no editR l, .f N.i_areStacked_1 []] K = T_slices_IndexFunc_Edit l K := by kernel_rfl
def S_slices_IndexFunc_Edit : Sm := S_fnR [.l editR, .sh (.f N.i_areStacked_1 .nil)] (fun d => Nat.ble d.1.length 1048576) (fun d => (.s (.int .i64 (idxF (fun x => !(smallE x)) d.1)), []))
theorem v_slices_IndexFunc_Edit (l : List T_Edit) (h : (Nat.ble l.length 1048576) = true) (K : Ret → Option Ret) : T_slices_IndexFunc_Edit l K = K (.s (.int .i64 (idxF (fun x => !(smallE x)) l)), []) := by
  have hl := Nat.le_of_ble_eq_true h
  unfold T_slices_IndexFunc_Edit
  refine Eq.trans (idx_find (R := fun m i => Q_slices_IndexFunc_Edit_2_0 m l ((l.length : Nat) : Int) i (fun y0 => K ((.s (.int .i64 y0)), [])) (K ((.s (.int .i64 (-(1 : Int)))), []))) (p := fun x => !(smallE x)) (xs := l) (z := (editR).dflt) (kf := fun y0 => K ((.s (.int .i64 y0)), [])) (kt := K ((.s (.int .i64 (-(1 : Int)))), [])) (fun m i hi => by
    show P_slices_IndexFunc_Edit_2_0 l _ ((i : Nat) : Int) _ _ _ = _
    unfold P_slices_IndexFunc_Edit_2_0
    rw [decide_eq_true (show ((i : Nat) : Int) < ((l.length : Nat) : Int) by omega), decide_eq_true (show (0 : Int) ≤ ((i : Nat) : Int) by omega), Int.toNat_natCast, wrap_nat (by omega)]
    rfl) (fun m => by
    show P_slices_IndexFunc_Edit_2_0 l _ ((l.length : Nat) : Int) _ _ _ = _
    unfold P_slices_IndexFunc_Edit_2_0
    rw [decide_eq_false (show ¬ ((l.length : Nat) : Int) < ((l.length : Nat) : Int) by omega)]; rfl) _ 0 (by omega) (by omega)) ?_
  rw [List.drop_zero]
  unfold idxF
  cases l.findIdx? (fun x => !(smallE x)) with
  | none => rfl
  | some j => show K (.s (.int .i64 ((0 + j : Nat) : Int)), []) = _; rw [Nat.zero_add]
theorem okS_slices_IndexFunc_Edit : OkFn prog I N.slices_IndexFunc_Edit true S_slices_IndexFunc_Edit := okN (ok_fn (memc okS_i_areStacked_1 mem0) (l := [(N.i_areStacked_1, true, S_i_areStacked_1)]) (p := []) (ls := [(2, [0,1,7,8], [4], W_slices_IndexFunc_Edit_2)]) (lend := []) (focus := false) (fuel := 0) (give := []) (fn := F.slices_IndexFunc_Edit) (by kernel_rfl) (by kernel_rfl) (by kernel_rfl) (by kernel_rfl) (cs := [bodyOf F.slices_IndexFunc_Edit 2]) (by kernel_rfl) (loopsc loopK_slices_IndexFunc_Edit_2 loops0)) (S_fnR_of fun d K h => (e_slices_IndexFunc_Edit d.1 K).trans (v_slices_IndexFunc_Edit d.1 h K))
end Go.Ev.Seat
end
section
/- slices_ContainsFunc_Edit: its contract. -/
namespace Go.Ev.Seat
open Go.RowKit
set_option maxRecDepth 100000
set_option linter.unusedVariables false
set_option linter.unusedSimpArgs false
noncomputable abbrev E_slices_ContainsFunc_Edit : Env := En [(N.slices_IndexFunc_Edit, true, S_slices_IndexFunc_Edit)] [] [] [] false 0 []
noncomputable def T_slices_ContainsFunc_Edit (l : List T_Edit) (K : Ret → Option Ret) : Option Ret := (bif (Nat.ble (List.length l) 1048576) then K ((.s (.bool (decide ((idxF (fun x => (!(smallE x))) l) ≥ (0 : Int))))), []) else none)
theorem e_slices_ContainsFunc_Edit (l : List T_Edit) (K : Ret → Option Ret) : evF E_slices_ContainsFunc_Edit true F.slices_ContainsFunc_Edit [.l .no editR l, .f N.i_areStacked_1 []] K = T_slices_ContainsFunc_Edit l K := by kernel_rfl
def S_slices_ContainsFunc_Edit : Sm := S_fnR [.l editR, .sh (.f N.i_areStacked_1 .nil)] (fun d => Nat.ble d.1.length 1048576) (fun d => (bl (d.1.any (fun x => !(smallE x))), []))
theorem v_slices_ContainsFunc_Edit (l : List T_Edit) (h : (Nat.ble l.length 1048576) = true) (K : Ret → Option Ret) : T_slices_ContainsFunc_Edit l K = K (bl (l.any (fun x => !(smallE x))), []) := by
  unfold T_slices_ContainsFunc_Edit
  first | rw [h] | skip
  rw [← idxF_any]; rfl
theorem okS_slices_ContainsFunc_Edit : OkFn prog I N.slices_ContainsFunc_Edit true S_slices_ContainsFunc_Edit := okN (ok_fn (memc okS_slices_IndexFunc_Edit mem0) (l := [(N.slices_IndexFunc_Edit, true, S_slices_IndexFunc_Edit)]) (p := []) (ls := []) (lend := []) (focus := false) (fuel := 0) (give := []) (fn := F.slices_ContainsFunc_Edit) (by kernel_rfl) (by kernel_rfl) (by kernel_rfl) (by kernel_rfl) (cs := []) (by kernel_rfl) loops0) (S_fnR_of fun d K h => (e_slices_ContainsFunc_Edit d.1 K).trans (v_slices_ContainsFunc_Edit d.1 h K))
end Go.Ev.Seat
end
section
/- i_areStacked: its contract. -/
namespace Go.Ev.Seat
open Go.RowKit
set_option maxRecDepth 100000
set_option linter.unusedVariables false
set_option linter.unusedSimpArgs false
noncomputable abbrev E_i_areStacked : Env := En [(N.slices_ContainsFunc_Edit, true, S_slices_ContainsFunc_Edit)] [] [] [] false 0 []
noncomputable def T_i_areStacked (l : List T_Edit) (K : Ret → Option Ret) : Option Ret := (bif (decide ((((List.length l) : Nat) : Int) ≤ (6 : Int))) then (bif (Nat.ble (List.length l) 1048576) then K ((.s (.bool (!(List.any l (fun x => (!(smallE x))))))), []) else none) else K ((.s (.bool false)), []))
theorem e_i_areStacked (l : List T_Edit) (K : Ret → Option Ret) : evF E_i_areStacked true F.i_areStacked [.l .no editR l] K = T_i_areStacked l K := by kernel_rfl
def S_i_areStacked : Sm := S_fnR [.l editR] (fun d => Nat.ble d.1.length 1048576) (fun d => (bl (okL d.1), []))
theorem v_i_areStacked (l : List T_Edit) (h : (Nat.ble l.length 1048576) = true) (K : Ret → Option Ret) : T_i_areStacked l K = K (bl (okL l), []) := by
  unfold T_i_areStacked okL
  rw [h, List.all_eq_not_any_not]
  cases decide (((l.length : Nat) : Int) ≤ 6) <;> rfl
theorem okS_i_areStacked : OkFn prog I N.i_areStacked true S_i_areStacked := okN (ok_fn (memc okS_slices_ContainsFunc_Edit mem0) (l := [(N.slices_ContainsFunc_Edit, true, S_slices_ContainsFunc_Edit)]) (p := []) (ls := []) (lend := []) (focus := false) (fuel := 0) (give := []) (fn := F.i_areStacked) (by kernel_rfl) (by kernel_rfl) (by kernel_rfl) (by kernel_rfl) (cs := []) (by kernel_rfl) loops0) (S_fnR_of fun d K h => (e_i_areStacked d.1 K).trans (v_i_areStacked d.1 h K))
end Go.Ev.Seat
end
section
/- i_isStack: its contract. -/
namespace Go.Ev.Seat
open Go.RowKit
set_option maxRecDepth 100000
set_option linter.unusedVariables false
set_option linter.unusedSimpArgs false
noncomputable abbrev E_i_isStack : Env := En [(N.i_areStacked, true, S_i_areStacked)] [] [] [] false 0 []
noncomputable def T_i_isStack (s : T_Stack) (K : Ret → Option Ret) : Option Ret := (bif (Nat.ble (List.length s.1) 1048576) then (bif (okL s.1) then (bif (Nat.ble (List.length s.2) 1048576) then K ((.s (.bool (okL s.2))), []) else none) else K ((.s (.bool false)), [])) else none)
theorem e_i_isStack (s : T_Stack) (K : Ret → Option Ret) : evF E_i_isStack true F.i_isStack [.a (stackR.cells .no s)] K = T_i_isStack s K := by kernel_rfl
def S_i_isStack : Sm := S_fnR [.a stackR] (fun d => Nat.ble d.1.1.length 1048576 && Nat.ble d.1.2.length 1048576) (fun d => (bl (stackOkD d.1), []))
theorem v_i_isStack (s : T_Stack) (h : (Nat.ble s.1.length 1048576 && Nat.ble s.2.length 1048576) = true) (K : Ret → Option Ret) : T_i_isStack s K = K (bl (stackOkD s), []) := by
  obtain ⟨h1, h2⟩ := (Bool.and_eq_true _ _).mp h
  unfold T_i_isStack stackOkD
  rw [h1, h2]
  cases okL s.1 <;> rfl
theorem okS_i_isStack : OkFn prog I N.i_isStack true S_i_isStack := okN (ok_fn (memc okS_i_areStacked mem0) (l := [(N.i_areStacked, true, S_i_areStacked)]) (p := []) (ls := []) (lend := []) (focus := false) (fuel := 0) (give := []) (fn := F.i_isStack) (by kernel_rfl) (by kernel_rfl) (by kernel_rfl) (by kernel_rfl) (cs := []) (by kernel_rfl) loops0) (S_fnR_of fun d K h => (e_i_isStack d.1 K).trans (v_i_isStack d.1 h K))
end Go.Ev.Seat
end
section
/- slices_Grow_Edit: its contract. -/
namespace Go.Proofs
open Go.Shelf
def Tryz.growEdit_ren : Go.Shelf.Ren := ⟨fun | 4 => 208 | n => n, fun | 22 => 42 | 25 => 63 | 3 => 3 | 4 => 4 | 9 => 9 | 20 => 20 | 0 => 0 | n => n, fun | n => n⟩
theorem Tryz.growEdit : Go.Proofs.Lays8.n4 Tryz.prog Tryz.growEdit_ren := {
  mixed := by kernel_rfl
  f4 := ⟨Tryz.f208.name, by decide, Tryz.func208.trans (congrArg some (by kernel_rfl))⟩
  t0 := Tryz.underlying0
  a0 := Tryz.isAgg0
  z0 := Tryz.sizeOf0
  v0 := Tryz.zeroValue0
  t3 := Tryz.underlying3
  a3 := Tryz.isAgg3
  z3 := Tryz.sizeOf3
  v3 := Tryz.zeroValue3
  t4 := Tryz.underlying4
  a4 := Tryz.isAgg4
  z4 := Tryz.sizeOf4
  v4 := Tryz.zeroValue4
  t9 := Tryz.underlying9
  a9 := Tryz.isAgg9
  z9 := Tryz.sizeOf9
  v9 := Tryz.zeroValue9
  t20 := Tryz.underlying20
  a20 := Tryz.isAgg20
  z20 := Tryz.sizeOf20
  v20 := Tryz.zeroValue20
  t22 := Tryz.underlying42
  a22 := Tryz.isAgg42
  z22 := Tryz.sizeOf42
  v22 := Tryz.zeroValue42 }
end Go.Proofs
namespace Go.Ev.Seat
open Go.RowKit
set_option maxRecDepth 100000
theorem okS_slices_Grow_Edit : OkFn prog I N.slices_Grow_Edit true (S_growN editR) := by
  refine grow_ok (i0 := (prog.info? 63).getD default) (z := .agg #[.int .i64 0, .int .i64 0, .slice none 0 0]) Go.Proofs.Tryz.growEdit (ok_fn (l := []) (p := []) (ls := []) (lend := []) (focus := false) (fuel := 0) (give := []) (nils := []) (fresh := true) mem0 (g := N.slices_Grow_Edit) (fn := F.slices_Grow_Edit) (by kernel_rfl) (by kernel_rfl) (by kernel_rfl) (by kernel_rfl) (cs := []) (by kernel_rfl) loops0).1 (by kernel_rfl) (by kernel_rfl) (Nat.le_of_ble_eq_true (by kernel_rfl)) (Nat.le_of_ble_eq_true (by kernel_rfl)) rfl
end Go.Ev.Seat
end
section
/- slices_Concat_Edit: its contract. -/
namespace Go.Ev.Seat
open Go.RowKit
set_option maxRecDepth 100000
set_option linter.unusedVariables false
set_option linter.unusedSimpArgs false
def z_slices_Concat_Edit_3_0 (x0 : List (List T_Edit)) (x3 : Int) : St := { tm := ([(.l .no (.one (.sl editR)) x0), .x, .x, (.s (.int .i64 x3))] ++ List.replicate 32 .x), ob := [], nx := 0, io := [] }
def sh_slices_Concat_Edit_3_0 : Ss := { tm := (.cons (.l .no (.one (.sl editR))) (.cons (.x) (.cons (.x) (.cons (.int .i64) (.cons (.x) (.cons (.x) (.cons (.x) (.cons (.x) (.cons (.x) (.cons (.l .no (.one (.sl editR))) (.cons (.int .i64) (.cons (.int .i64) (xsh 24))))))))))))), ob := .nil, nx := 0, io := .nil }
def d_slices_Concat_Edit_3_0 (x0 : List (List T_Edit)) (x3 : Int) (x9 : List (List T_Edit)) (x10 : Int) (x11 : Int) : sh_slices_Concat_Edit_3_0.T := ((x0, ((), ((), (x3, ((), ((), ((), ((), ((), (x9, (x10, (x11, xd 24)))))))))))), (), ())
def s_slices_Concat_Edit_3_0 (x0 : List (List T_Edit)) (x3 : Int) (x9 : List (List T_Edit)) (x10 : Int) (x11 : Int) : St := { tm := ([(.l .no (.one (.sl editR)) x0), .x, .x, (.s (.int .i64 x3)), .x, .x, .x, .x, .x, (.l .no (.one (.sl editR)) x9), (.s (.int .i64 x10)), (.s (.int .i64 x11))] ++ List.replicate 24 .x), ob := [], nx := 0, io := [] }
theorem se_slices_Concat_Edit_3_0 (x0 : List (List T_Edit)) (x3 : Int) (x9 : List (List T_Edit)) (x10 : Int) (x11 : Int) : sh_slices_Concat_Edit_3_0.mk' (d_slices_Concat_Edit_3_0 x0 x3 x9 x10 x11) = (s_slices_Concat_Edit_3_0 x0 x3 x9 x10 x11) := by kernel_rfl
def w_slices_Concat_Edit_3_0 (d : sh_slices_Concat_Edit_3_0.T) (f : (List (List T_Edit)) → Int → (List (List T_Edit)) → Int → Int → Option Ret) : Option Ret := match d with | ((x0, (_, (_, (x3, (_, (_, (_, (_, (_, (x9, (x10, (x11, _)))))))))))), _, _) => f x0 x3 x9 x10 x11
noncomputable def P_slices_Concat_Edit_3_0 (x0 : List (List T_Edit)) (x3 : Int) (x9 : List (List T_Edit)) (x10 : Int) (x11 : Int) (nx0 : (List (List T_Edit)) → Int → (List (List T_Edit)) → Int → Int → Option Ret) (k0 : (List (List T_Edit)) → Int → Option Ret) : Option Ret := (bif (decide (x11 < x10)) then (bif ((decide ((0 : Int) ≤ x11)) && (decide (x11 < (((List.length x9) : Nat) : Int)))) then (bif (decide ((IntKind.wrap .i64 (x3 + (((List.length (List.getD x9 (Int.toNat x11) [])) : Nat) : Int))) < (0 : Int))) then none else (nx0 x0 (IntKind.wrap .i64 (x3 + (((List.length (List.getD x9 (Int.toNat x11) [])) : Nat) : Int))) x9 x10 (IntKind.wrap .i64 (x11 + (1 : Int))))) else none) else (k0 x0 x3))
noncomputable def Q_slices_Concat_Edit_3_0 : Nat → (List (List T_Edit)) → Int → (List (List T_Edit)) → Int → Int → ((List (List T_Edit)) → Int → Option Ret) → Option Ret
  | 0, _, _, _, _, _, _ => none
  | m + 1, x0, x3, x9, x10, x11, k0 => P_slices_Concat_Edit_3_0 x0 x3 x9 x10 x11 (fun x0 x3 x9 x10 x11 => (Q_slices_Concat_Edit_3_0 m x0 x3 x9 x10 x11 k0)) k0
noncomputable def R_slices_Concat_Edit_3_0 (x0 : List (List T_Edit)) (x3 : Int) (x9 : List (List T_Edit)) (x10 : Int) (x11 : Int) (k0 : (List (List T_Edit)) → Int → Option Ret) : Option Ret := Q_slices_Concat_Edit_3_0 (List.length x0 + x3.toNat + List.length x9 + x10.toNat + x11.toNat + 2) x0 x3 x9 x10 x11 k0
noncomputable def W_slices_Concat_Edit_3 : LoopFn := (fun (σ : St) (K : Ex → St → Option Ret) => (match sh_slices_Concat_Edit_3_0.un σ with | some d => w_slices_Concat_Edit_3_0 d (fun x0 x3 x9 x10 x11 => R_slices_Concat_Edit_3_0 x0 x3 x9 x10 x11 (fun x0 x3 => (K (.ext 0) (z_slices_Concat_Edit_3_0 x0 x3)))) | none => none))
def z_slices_Concat_Edit_11_0 (o0 : List T_Edit) : St := { tm := ([.x, .x, .x, .x, .x, .x, (.w 0)] ++ List.replicate 29 .x), ob := [(0, (.arr true true editR o0))], nx := 1, io := [] }
def z_slices_Concat_Edit_11_1 (o0 : List T_Edit) : St := { tm := ([.x, .x, .x, .x, .x, .x, (.w 0)] ++ List.replicate 29 .x), ob := [(0, (.arr true false editR o0))], nx := 1, io := [] }
def sh_slices_Concat_Edit_11_0 : Ss := { tm := (.cons (.x) (.cons (.x) (.cons (.x) (.cons (.x) (.cons (.x) (.cons (.x) (.cons (.w 0) (.cons (.x) (.cons (.x) (.cons (.x) (.cons (.x) (.cons (.x) (.cons (.x) (.cons (.x) (.cons (.x) (.cons (.x) (.cons (.x) (.cons (.x) (.cons (.x) (.cons (.x) (.cons (.x) (.cons (.x) (.cons (.x) (.cons (.x) (.cons (.x) (.cons (.l .no (.one (.sl editR))) (.cons (.int .i64) (.cons (.int .i64) (xsh 8))))))))))))))))))))))))))))), ob := (.arr true true editR .nil), nx := 1, io := .nil }
def d_slices_Concat_Edit_11_0 (x25 : List (List T_Edit)) (x26 : Int) (x27 : Int) (o0 : List T_Edit) : sh_slices_Concat_Edit_11_0.T := (((), ((), ((), ((), ((), ((), ((), ((), ((), ((), ((), ((), ((), ((), ((), ((), ((), ((), ((), ((), ((), ((), ((), ((), ((), (x25, (x26, (x27, xd 8)))))))))))))))))))))))))))), (o0, ()), ())
def s_slices_Concat_Edit_11_0 (x25 : List (List T_Edit)) (x26 : Int) (x27 : Int) (o0 : List T_Edit) : St := { tm := ([.x, .x, .x, .x, .x, .x, (.w 0), .x, .x, .x, .x, .x, .x, .x, .x, .x, .x, .x, .x, .x, .x, .x, .x, .x, .x, (.l .no (.one (.sl editR)) x25), (.s (.int .i64 x26)), (.s (.int .i64 x27))] ++ List.replicate 8 .x), ob := [(0, (.arr true true editR o0))], nx := 1, io := [] }
theorem se_slices_Concat_Edit_11_0 (x25 : List (List T_Edit)) (x26 : Int) (x27 : Int) (o0 : List T_Edit) : sh_slices_Concat_Edit_11_0.mk' (d_slices_Concat_Edit_11_0 x25 x26 x27 o0) = (s_slices_Concat_Edit_11_0 x25 x26 x27 o0) := by kernel_rfl
def w_slices_Concat_Edit_11_0 (d : sh_slices_Concat_Edit_11_0.T) (f : (List (List T_Edit)) → Int → Int → (List T_Edit) → Option Ret) : Option Ret := match d with | ((_, (_, (_, (_, (_, (_, (_, (_, (_, (_, (_, (_, (_, (_, (_, (_, (_, (_, (_, (_, (_, (_, (_, (_, (_, (x25, (x26, (x27, _)))))))))))))))))))))))))))), (o0, _), _) => f x25 x26 x27 o0
noncomputable def P_slices_Concat_Edit_11_0 (x25 : List (List T_Edit)) (x26 : Int) (x27 : Int) (o0 : List T_Edit) (nx0 : (List (List T_Edit)) → Int → Int → (List T_Edit) → Option Ret) (nx1 : (List (List T_Edit)) → Int → Int → (List T_Edit) → Option Ret) (k0 : (List T_Edit) → Option Ret) (k1 : (List T_Edit) → Option Ret) : Option Ret := (bif (decide (x27 < x26)) then (bif ((decide ((0 : Int) ≤ x27)) && (decide (x27 < (((List.length x25) : Nat) : Int)))) then (bif (Nat.ble (((List.length o0) + (List.length (List.getD x25 (Int.toNat x27) []))) * 40) 140737488355328) then (nx1 x25 x26 (IntKind.wrap .i64 (x27 + (1 : Int))) (o0 ++ (List.getD x25 (Int.toNat x27) []))) else none) else none) else (k0 o0))
def sh_slices_Concat_Edit_11_1 : Ss := { tm := (.cons (.x) (.cons (.x) (.cons (.x) (.cons (.x) (.cons (.x) (.cons (.x) (.cons (.w 0) (.cons (.x) (.cons (.x) (.cons (.x) (.cons (.x) (.cons (.x) (.cons (.x) (.cons (.x) (.cons (.x) (.cons (.x) (.cons (.x) (.cons (.x) (.cons (.x) (.cons (.x) (.cons (.x) (.cons (.x) (.cons (.x) (.cons (.x) (.cons (.x) (.cons (.l .no (.one (.sl editR))) (.cons (.int .i64) (.cons (.int .i64) (xsh 8))))))))))))))))))))))))))))), ob := (.arr true false editR .nil), nx := 1, io := .nil }
def d_slices_Concat_Edit_11_1 (x25 : List (List T_Edit)) (x26 : Int) (x27 : Int) (o0 : List T_Edit) : sh_slices_Concat_Edit_11_1.T := (((), ((), ((), ((), ((), ((), ((), ((), ((), ((), ((), ((), ((), ((), ((), ((), ((), ((), ((), ((), ((), ((), ((), ((), ((), (x25, (x26, (x27, xd 8)))))))))))))))))))))))))))), (o0, ()), ())
def s_slices_Concat_Edit_11_1 (x25 : List (List T_Edit)) (x26 : Int) (x27 : Int) (o0 : List T_Edit) : St := { tm := ([.x, .x, .x, .x, .x, .x, (.w 0), .x, .x, .x, .x, .x, .x, .x, .x, .x, .x, .x, .x, .x, .x, .x, .x, .x, .x, (.l .no (.one (.sl editR)) x25), (.s (.int .i64 x26)), (.s (.int .i64 x27))] ++ List.replicate 8 .x), ob := [(0, (.arr true false editR o0))], nx := 1, io := [] }
theorem se_slices_Concat_Edit_11_1 (x25 : List (List T_Edit)) (x26 : Int) (x27 : Int) (o0 : List T_Edit) : sh_slices_Concat_Edit_11_1.mk' (d_slices_Concat_Edit_11_1 x25 x26 x27 o0) = (s_slices_Concat_Edit_11_1 x25 x26 x27 o0) := by kernel_rfl
def w_slices_Concat_Edit_11_1 (d : sh_slices_Concat_Edit_11_1.T) (f : (List (List T_Edit)) → Int → Int → (List T_Edit) → Option Ret) : Option Ret := match d with | ((_, (_, (_, (_, (_, (_, (_, (_, (_, (_, (_, (_, (_, (_, (_, (_, (_, (_, (_, (_, (_, (_, (_, (_, (_, (x25, (x26, (x27, _)))))))))))))))))))))))))))), (o0, _), _) => f x25 x26 x27 o0
noncomputable def P_slices_Concat_Edit_11_1 (x25 : List (List T_Edit)) (x26 : Int) (x27 : Int) (o0 : List T_Edit) (nx0 : (List (List T_Edit)) → Int → Int → (List T_Edit) → Option Ret) (nx1 : (List (List T_Edit)) → Int → Int → (List T_Edit) → Option Ret) (k0 : (List T_Edit) → Option Ret) (k1 : (List T_Edit) → Option Ret) : Option Ret := (bif (decide (x27 < x26)) then (bif ((decide ((0 : Int) ≤ x27)) && (decide (x27 < (((List.length x25) : Nat) : Int)))) then (bif (Nat.ble (((List.length o0) + (List.length (List.getD x25 (Int.toNat x27) []))) * 40) 140737488355328) then (nx1 x25 x26 (IntKind.wrap .i64 (x27 + (1 : Int))) (o0 ++ (List.getD x25 (Int.toNat x27) []))) else none) else none) else (k1 o0))
mutual
noncomputable def Q_slices_Concat_Edit_11_0 : Nat → (List (List T_Edit)) → Int → Int → (List T_Edit) → ((List T_Edit) → Option Ret) → ((List T_Edit) → Option Ret) → Option Ret
  | 0, _, _, _, _, _, _ => none
  | m + 1, x25, x26, x27, o0, k0, k1 => P_slices_Concat_Edit_11_0 x25 x26 x27 o0 (fun x25 x26 x27 o0 => (Q_slices_Concat_Edit_11_0 m x25 x26 x27 o0 k0 k1)) (fun x25 x26 x27 o0 => (Q_slices_Concat_Edit_11_1 m x25 x26 x27 o0 k0 k1)) k0 k1
noncomputable def Q_slices_Concat_Edit_11_1 : Nat → (List (List T_Edit)) → Int → Int → (List T_Edit) → ((List T_Edit) → Option Ret) → ((List T_Edit) → Option Ret) → Option Ret
  | 0, _, _, _, _, _, _ => none
  | m + 1, x25, x26, x27, o0, k0, k1 => P_slices_Concat_Edit_11_1 x25 x26 x27 o0 (fun x25 x26 x27 o0 => (Q_slices_Concat_Edit_11_0 m x25 x26 x27 o0 k0 k1)) (fun x25 x26 x27 o0 => (Q_slices_Concat_Edit_11_1 m x25 x26 x27 o0 k0 k1)) k0 k1
end
noncomputable def R_slices_Concat_Edit_11_0 (x25 : List (List T_Edit)) (x26 : Int) (x27 : Int) (o0 : List T_Edit) (k0 : (List T_Edit) → Option Ret) (k1 : (List T_Edit) → Option Ret) : Option Ret := Q_slices_Concat_Edit_11_0 (List.length x25 + x26.toNat + x27.toNat + List.length o0 + 2) x25 x26 x27 o0 k0 k1
noncomputable def R_slices_Concat_Edit_11_1 (x25 : List (List T_Edit)) (x26 : Int) (x27 : Int) (o0 : List T_Edit) (k0 : (List T_Edit) → Option Ret) (k1 : (List T_Edit) → Option Ret) : Option Ret := Q_slices_Concat_Edit_11_1 (List.length x25 + x26.toNat + x27.toNat + List.length o0 + 2) x25 x26 x27 o0 k0 k1
noncomputable def W_slices_Concat_Edit_11 : LoopFn := (fun (σ : St) (K : Ex → St → Option Ret) => (match sh_slices_Concat_Edit_11_0.un σ with | some d => w_slices_Concat_Edit_11_0 d (fun x25 x26 x27 o0 => R_slices_Concat_Edit_11_0 x25 x26 x27 o0 (fun o0 => (K (.ext 2) (z_slices_Concat_Edit_11_0 o0))) (fun o0 => (K (.ext 2) (z_slices_Concat_Edit_11_1 o0)))) | none => (match sh_slices_Concat_Edit_11_1.un σ with | some d => w_slices_Concat_Edit_11_1 d (fun x25 x26 x27 o0 => R_slices_Concat_Edit_11_1 x25 x26 x27 o0 (fun o0 => (K (.ext 2) (z_slices_Concat_Edit_11_0 o0))) (fun o0 => (K (.ext 2) (z_slices_Concat_Edit_11_1 o0)))) | none => none)))
noncomputable abbrev E_slices_Concat_Edit : Env := En [(N.slices_Grow_Edit, true, S_growN editR)] [] [(3, [0,3,9,10,11], [0,2,3], W_slices_Concat_Edit_3), (11, [6,25,26,27], [2,6], W_slices_Concat_Edit_11)] [] false 0 []
theorem st_slices_Concat_Edit_3_0 (m : Nat) (x0 : List (List T_Edit)) (x3 : Int) (x9 : List (List T_Edit)) (x10 : Int) (x11 : Int) (K : Ex → St → Option Ret) : rounds (run E_slices_Concat_Edit (bodyOf F.slices_Concat_Edit 3)) [0,3,9,10,11] [0,2,3] (m + 1) (s_slices_Concat_Edit_3_0 x0 x3 x9 x10 x11) K = P_slices_Concat_Edit_3_0 x0 x3 x9 x10 x11 (fun x0 x3 x9 x10 x11 => (rounds (run E_slices_Concat_Edit (bodyOf F.slices_Concat_Edit 3)) [0,3,9,10,11] [0,2,3] m (s_slices_Concat_Edit_3_0 x0 x3 x9 x10 x11) K)) (fun x0 x3 => (K (.ext 0) (z_slices_Concat_Edit_3_0 x0 x3))) := by kernel_rfl
theorem q_slices_Concat_Edit_3 (K : Ex → St → Option Ret) : ∀ m : Nat, (∀ (x0 : List (List T_Edit)) (x3 : Int) (x9 : List (List T_Edit)) (x10 : Int) (x11 : Int), rounds (run E_slices_Concat_Edit (bodyOf F.slices_Concat_Edit 3)) [0,3,9,10,11] [0,2,3] m (s_slices_Concat_Edit_3_0 x0 x3 x9 x10 x11) K = Q_slices_Concat_Edit_3_0 m x0 x3 x9 x10 x11 (fun x0 x3 => (K (.ext 0) (z_slices_Concat_Edit_3_0 x0 x3))))
  | 0 => (fun _ _ _ _ _ => rfl)
  | m + 1 => (fun x0 x3 x9 x10 x11 => (by rw [st_slices_Concat_Edit_3_0, show (fun x0 x3 x9 x10 x11 => (rounds (run E_slices_Concat_Edit (bodyOf F.slices_Concat_Edit 3)) [0,3,9,10,11] [0,2,3] m (s_slices_Concat_Edit_3_0 x0 x3 x9 x10 x11) K)) = (fun x0 x3 x9 x10 x11 => (Q_slices_Concat_Edit_3_0 m x0 x3 x9 x10 x11 (fun x0 x3 => (K (.ext 0) (z_slices_Concat_Edit_3_0 x0 x3))))) from funext fun x0 => funext fun x3 => funext fun x9 => funext fun x10 => funext fun x11 => (q_slices_Concat_Edit_3 K m) x0 x3 x9 x10 x11]; rfl))
theorem loopK_slices_Concat_Edit_3 : LoopOk E_slices_Concat_Edit (bodyOf F.slices_Concat_Edit 3) := by
  refine loopW_ok (n := 3) (F := W_slices_Concat_Edit_3) (by kernel_rfl) rfl (li := [0,3,9,10,11]) (lo := [0,2,3]) rfl (fun σ K r hr => ?_)
  unfold W_slices_Concat_Edit_3 at hr
  split at hr
  · rename_i d hd
    rw [Ss.un_mk hd]
    exact ⟨_, ((congrArg (fun z => rounds (run E_slices_Concat_Edit (bodyOf F.slices_Concat_Edit 3)) [0,3,9,10,11] [0,2,3] _ z K) (se_slices_Concat_Edit_3_0 _ _ _ _ _)).trans ((q_slices_Concat_Edit_3 K _) _ _ _ _ _)).trans hr⟩
  · cases hr
theorem st_slices_Concat_Edit_11_0 (m : Nat) (x25 : List (List T_Edit)) (x26 : Int) (x27 : Int) (o0 : List T_Edit) (K : Ex → St → Option Ret) : rounds (run E_slices_Concat_Edit (bodyOf F.slices_Concat_Edit 11)) [6,25,26,27] [2,6] (m + 1) (s_slices_Concat_Edit_11_0 x25 x26 x27 o0) K = P_slices_Concat_Edit_11_0 x25 x26 x27 o0 (fun x25 x26 x27 o0 => (rounds (run E_slices_Concat_Edit (bodyOf F.slices_Concat_Edit 11)) [6,25,26,27] [2,6] m (s_slices_Concat_Edit_11_0 x25 x26 x27 o0) K)) (fun x25 x26 x27 o0 => (rounds (run E_slices_Concat_Edit (bodyOf F.slices_Concat_Edit 11)) [6,25,26,27] [2,6] m (s_slices_Concat_Edit_11_1 x25 x26 x27 o0) K)) (fun o0 => (K (.ext 2) (z_slices_Concat_Edit_11_0 o0))) (fun o0 => (K (.ext 2) (z_slices_Concat_Edit_11_1 o0))) := by kernel_rfl
theorem st_slices_Concat_Edit_11_1 (m : Nat) (x25 : List (List T_Edit)) (x26 : Int) (x27 : Int) (o0 : List T_Edit) (K : Ex → St → Option Ret) : rounds (run E_slices_Concat_Edit (bodyOf F.slices_Concat_Edit 11)) [6,25,26,27] [2,6] (m + 1) (s_slices_Concat_Edit_11_1 x25 x26 x27 o0) K = P_slices_Concat_Edit_11_1 x25 x26 x27 o0 (fun x25 x26 x27 o0 => (rounds (run E_slices_Concat_Edit (bodyOf F.slices_Concat_Edit 11)) [6,25,26,27] [2,6] m (s_slices_Concat_Edit_11_0 x25 x26 x27 o0) K)) (fun x25 x26 x27 o0 => (rounds (run E_slices_Concat_Edit (bodyOf F.slices_Concat_Edit 11)) [6,25,26,27] [2,6] m (s_slices_Concat_Edit_11_1 x25 x26 x27 o0) K)) (fun o0 => (K (.ext 2) (z_slices_Concat_Edit_11_0 o0))) (fun o0 => (K (.ext 2) (z_slices_Concat_Edit_11_1 o0))) := by kernel_rfl
theorem q_slices_Concat_Edit_11 (K : Ex → St → Option Ret) : ∀ m : Nat, (∀ (x25 : List (List T_Edit)) (x26 : Int) (x27 : Int) (o0 : List T_Edit), rounds (run E_slices_Concat_Edit (bodyOf F.slices_Concat_Edit 11)) [6,25,26,27] [2,6] m (s_slices_Concat_Edit_11_0 x25 x26 x27 o0) K = Q_slices_Concat_Edit_11_0 m x25 x26 x27 o0 (fun o0 => (K (.ext 2) (z_slices_Concat_Edit_11_0 o0))) (fun o0 => (K (.ext 2) (z_slices_Concat_Edit_11_1 o0)))) ∧ (∀ (x25 : List (List T_Edit)) (x26 : Int) (x27 : Int) (o0 : List T_Edit), rounds (run E_slices_Concat_Edit (bodyOf F.slices_Concat_Edit 11)) [6,25,26,27] [2,6] m (s_slices_Concat_Edit_11_1 x25 x26 x27 o0) K = Q_slices_Concat_Edit_11_1 m x25 x26 x27 o0 (fun o0 => (K (.ext 2) (z_slices_Concat_Edit_11_0 o0))) (fun o0 => (K (.ext 2) (z_slices_Concat_Edit_11_1 o0))))
  | 0 => ⟨(fun _ _ _ _ => rfl), (fun _ _ _ _ => rfl)⟩
  | m + 1 => ⟨(fun x25 x26 x27 o0 => (by rw [st_slices_Concat_Edit_11_0, show (fun x25 x26 x27 o0 => (rounds (run E_slices_Concat_Edit (bodyOf F.slices_Concat_Edit 11)) [6,25,26,27] [2,6] m (s_slices_Concat_Edit_11_0 x25 x26 x27 o0) K)) = (fun x25 x26 x27 o0 => (Q_slices_Concat_Edit_11_0 m x25 x26 x27 o0 (fun o0 => (K (.ext 2) (z_slices_Concat_Edit_11_0 o0))) (fun o0 => (K (.ext 2) (z_slices_Concat_Edit_11_1 o0))))) from funext fun x25 => funext fun x26 => funext fun x27 => funext fun o0 => (q_slices_Concat_Edit_11 K m).1 x25 x26 x27 o0, show (fun x25 x26 x27 o0 => (rounds (run E_slices_Concat_Edit (bodyOf F.slices_Concat_Edit 11)) [6,25,26,27] [2,6] m (s_slices_Concat_Edit_11_1 x25 x26 x27 o0) K)) = (fun x25 x26 x27 o0 => (Q_slices_Concat_Edit_11_1 m x25 x26 x27 o0 (fun o0 => (K (.ext 2) (z_slices_Concat_Edit_11_0 o0))) (fun o0 => (K (.ext 2) (z_slices_Concat_Edit_11_1 o0))))) from funext fun x25 => funext fun x26 => funext fun x27 => funext fun o0 => (q_slices_Concat_Edit_11 K m).2 x25 x26 x27 o0]; rfl)), (fun x25 x26 x27 o0 => (by rw [st_slices_Concat_Edit_11_1, show (fun x25 x26 x27 o0 => (rounds (run E_slices_Concat_Edit (bodyOf F.slices_Concat_Edit 11)) [6,25,26,27] [2,6] m (s_slices_Concat_Edit_11_0 x25 x26 x27 o0) K)) = (fun x25 x26 x27 o0 => (Q_slices_Concat_Edit_11_0 m x25 x26 x27 o0 (fun o0 => (K (.ext 2) (z_slices_Concat_Edit_11_0 o0))) (fun o0 => (K (.ext 2) (z_slices_Concat_Edit_11_1 o0))))) from funext fun x25 => funext fun x26 => funext fun x27 => funext fun o0 => (q_slices_Concat_Edit_11 K m).1 x25 x26 x27 o0, show (fun x25 x26 x27 o0 => (rounds (run E_slices_Concat_Edit (bodyOf F.slices_Concat_Edit 11)) [6,25,26,27] [2,6] m (s_slices_Concat_Edit_11_1 x25 x26 x27 o0) K)) = (fun x25 x26 x27 o0 => (Q_slices_Concat_Edit_11_1 m x25 x26 x27 o0 (fun o0 => (K (.ext 2) (z_slices_Concat_Edit_11_0 o0))) (fun o0 => (K (.ext 2) (z_slices_Concat_Edit_11_1 o0))))) from funext fun x25 => funext fun x26 => funext fun x27 => funext fun o0 => (q_slices_Concat_Edit_11 K m).2 x25 x26 x27 o0]; rfl))⟩
theorem loopK_slices_Concat_Edit_11 : LoopOk E_slices_Concat_Edit (bodyOf F.slices_Concat_Edit 11) := by
  refine loopW_ok (n := 11) (F := W_slices_Concat_Edit_11) (by kernel_rfl) rfl (li := [6,25,26,27]) (lo := [2,6]) rfl (fun σ K r hr => ?_)
  unfold W_slices_Concat_Edit_11 at hr
  split at hr
  · rename_i d hd
    rw [Ss.un_mk hd]
    exact ⟨_, ((congrArg (fun z => rounds (run E_slices_Concat_Edit (bodyOf F.slices_Concat_Edit 11)) [6,25,26,27] [2,6] _ z K) (se_slices_Concat_Edit_11_0 _ _ _ _)).trans ((q_slices_Concat_Edit_11 K _).1 _ _ _ _)).trans hr⟩
  · split at hr
    · rename_i d hd
      rw [Ss.un_mk hd]
      exact ⟨_, ((congrArg (fun z => rounds (run E_slices_Concat_Edit (bodyOf F.slices_Concat_Edit 11)) [6,25,26,27] [2,6] _ z K) (se_slices_Concat_Edit_11_1 _ _ _ _)).trans ((q_slices_Concat_Edit_11 K _).2 _ _ _ _)).trans hr⟩
    · cases hr
noncomputable def T_slices_Concat_Edit (l : List (List T_Edit)) (K : Ret → Option Ret) : Option Ret := (R_slices_Concat_Edit_3_0 l (0 : Int) l (((List.length l) : Nat) : Int) (0 : Int) (fun y0 y1 => (bif ((decide ((0 : Int) ≤ y1)) && (decide (y1 ≤ (1099511627776 : Int)))) then (R_slices_Concat_Edit_11_0 y0 (((List.length y0) : Nat) : Int) (0 : Int) [] (fun y2 => K ((.l .deep editR y2), [])) (fun y3 => K ((.l .top editR y3), []))) else none)))
theorem e_slices_Concat_Edit (l : List (List T_Edit)) (K : Ret → Option Ret) : evF E_slices_Concat_Edit false F.slices_Concat_Edit [.l .no (.one (.sl editR)) l] K = T_slices_Concat_Edit l K := by kernel_rfl
def S_slices_Concat_Edit : Sm := S_fnR [.l (.one (.sl editR))] (fun d => Nat.ble 1 d.1.length && Nat.ble d.1.length 1048576 && Nat.ble (sumW List.length d.1) 1048576) (fun d => (.l .top editR d.1.flatten, []))
theorem v_slices_Concat_Edit (l : List (List T_Edit)) (h : (Nat.ble 1 l.length && Nat.ble l.length 1048576 && Nat.ble (sumW List.length l) 1048576) = true) (K : Ret → Option Ret) : T_slices_Concat_Edit l K = K (.l .top editR l.flatten, []) := by
  simp only [Bool.and_eq_true] at h
  have h1 := Nat.le_of_ble_eq_true h.1.1
  have h2 := Nat.le_of_ble_eq_true h.1.2
  have h3 := Nat.le_of_ble_eq_true h.2
  unfold T_slices_Concat_Edit
  have q3 : ∀ (k : List (List T_Edit) → Int → Option Ret) (m i : Nat), i ≤ l.length → l.length - i < m → Q_slices_Concat_Edit_3_0 m l ((sumW List.length (l.take i) : Nat) : Int) l ((l.length : Nat) : Int) ((i : Nat) : Int) k = k l ((sumW List.length l : Nat) : Int) := by
    intro k m
    induction m with
    | zero => intro i _ hm; omega
    | succ m ih =>
      intro i hi hm
      show P_slices_Concat_Edit_3_0 l _ l _ ((i : Nat) : Int) _ _ = _
      unfold P_slices_Concat_Edit_3_0
      by_cases hlt : i < l.length
      · have hs : sumW List.length (List.take (i + 1) l) = sumW List.length (List.take i l) + List.length (l.getD i []) := sumW_take (g := List.length) (z := []) hlt
        have hle : sumW List.length (l.take (i + 1)) ≤ sumW List.length l := sumW_take_le
        have e0 : ∀ (z : List T_Edit), l.getD i z = l.getD i [] := fun z => (getD_lt z hlt).trans (getD_lt [] hlt).symm
        rw [decide_eq_true (show ((i : Nat) : Int) < ((l.length : Nat) : Int) by omega), decide_eq_true (show (0 : Int) ≤ ((i : Nat) : Int) by omega), Int.toNat_natCast, wrap_nat (by omega), e0, wrap_in (n := ((sumW List.length (List.take i l) : Nat) : Int) + (((l.getD i []).length : Nat) : Int)) (by omega) (by omega), decide_eq_false (show ¬ ((sumW List.length (List.take i l) : Nat) : Int) + (((l.getD i []).length : Nat) : Int) < 0 by omega)]
        have := ih (i + 1) (by omega) (by omega)
        rw [hs, Int.natCast_add] at this
        exact this
      · obtain rfl : i = l.length := by omega
        rw [decide_eq_false (show ¬ ((l.length : Nat) : Int) < ((l.length : Nat) : Int) by omega), List.take_length]; rfl
  have q11 : ∀ (k0 k1 : List T_Edit → Option Ret) (m i : Nat), i ≤ l.length → l.length - i < m → Q_slices_Concat_Edit_11_1 m l ((l.length : Nat) : Int) ((i : Nat) : Int) (l.take i).flatten k0 k1 = k1 l.flatten := by
    intro k0 k1 m
    induction m with
    | zero => intro i _ hm; omega
    | succ m ih =>
      intro i hi hm
      show P_slices_Concat_Edit_11_1 l _ ((i : Nat) : Int) _ _ _ _ _ = _
      unfold P_slices_Concat_Edit_11_1
      by_cases hlt : i < l.length
      · have hs : sumW List.length (List.take (i + 1) l) = sumW List.length (List.take i l) + List.length (l.getD i []) := sumW_take (g := List.length) (z := []) hlt
        have hle : sumW List.length (l.take (i + 1)) ≤ sumW List.length l := sumW_take_le
        have hfl := sumW_flatten (l.take i)
        have e0 : ∀ (z : List T_Edit), l.getD i z = l.getD i [] := fun z => (getD_lt z hlt).trans (getD_lt [] hlt).symm
        have hf2 : (l.take (i + 1)).flatten = (l.take i).flatten ++ l.getD i [] := flatten_take hlt
        rw [decide_eq_true (show ((i : Nat) : Int) < ((l.length : Nat) : Int) by omega), decide_eq_true (show (0 : Int) ≤ ((i : Nat) : Int) by omega), Int.toNat_natCast, wrap_nat (by omega), e0, Nat.ble_eq_true_of_le (by omega), ← hf2]
        exact ih (i + 1) (by omega) (by omega)
      · obtain rfl : i = l.length := by omega
        rw [decide_eq_false (show ¬ ((l.length : Nat) : Int) < ((l.length : Nat) : Int) by omega), List.take_length]; rfl
  have e3 := q3 (fun y0 y1 => (bif ((decide ((0 : Int) ≤ y1)) && (decide (y1 ≤ (1099511627776 : Int)))) then (R_slices_Concat_Edit_11_0 y0 (((List.length y0) : Nat) : Int) (0 : Int) [] (fun y2 => K ((.l .deep editR y2), [])) (fun y3 => K ((.l .top editR y3), []))) else none)) (List.length l + (0 : Int).toNat + List.length l + (((List.length l) : Nat) : Int).toNat + (0 : Int).toNat + 2) 0 (by omega) (by omega)
  refine e3.trans ?_
  rw [decide_eq_true (show (0 : Int) ≤ ((sumW List.length l : Nat) : Int) by omega), decide_eq_true (show ((sumW List.length l : Nat) : Int) ≤ 1099511627776 by omega)]
  have hq : ∀ (m : Nat) (k0 k1 : List T_Edit → Option Ret), Q_slices_Concat_Edit_11_0 (m + 1) l ((l.length : Nat) : Int) 0 [] k0 k1 = P_slices_Concat_Edit_11_0 l ((l.length : Nat) : Int) 0 [] (fun a b c d => Q_slices_Concat_Edit_11_0 m a b c d k0 k1) (fun a b c d => Q_slices_Concat_Edit_11_1 m a b c d k0 k1) k0 k1 := fun _ _ _ => rfl
  refine (hq (List.length l + (((List.length l) : Nat) : Int).toNat + (0 : Int).toNat + List.length ([] : List T_Edit) + 1) _ _).trans ?_
  unfold P_slices_Concat_Edit_11_0
  have e0 : ∀ (z : List T_Edit), l.getD 0 z = l.getD 0 [] := fun z => (getD_lt z (by omega)).trans (getD_lt [] (by omega)).symm
  have hs : sumW List.length (List.take (0 + 1) l) = sumW List.length (List.take 0 l) + List.length (l.getD 0 []) := sumW_take (g := List.length) (z := []) (by omega)
  have hle : sumW List.length (l.take (0 + 1)) ≤ sumW List.length l := sumW_take_le
  have hf2 : (l.take (0 + 1)).flatten = (l.take 0).flatten ++ l.getD 0 [] := flatten_take (by omega)
  rw [decide_eq_true (show (0 : Int) < ((l.length : Nat) : Int) by omega), show Int.toNat 0 = 0 from rfl, e0, Nat.ble_eq_true_of_le (by simp only [List.length_nil]; omega)]
  have := q11 (fun y2 => K ((.l .deep editR y2), [])) (fun y3 => K ((.l .top editR y3), [])) (List.length l + (((List.length l) : Nat) : Int).toNat + (0 : Int).toNat + List.length ([] : List T_Edit) + 1) 1 (by omega) (by omega)
  rw [hf2] at this
  exact this
theorem okS_slices_Concat_Edit : OkFn prog I N.slices_Concat_Edit false S_slices_Concat_Edit := okN (ok_fn (memc okS_slices_Grow_Edit mem0) (l := [(N.slices_Grow_Edit, true, S_growN editR)]) (p := []) (ls := [(3, [0,3,9,10,11], [0,2,3], W_slices_Concat_Edit_3), (11, [6,25,26,27], [2,6], W_slices_Concat_Edit_11)]) (lend := []) (focus := false) (fuel := 0) (give := []) (fn := F.slices_Concat_Edit) (by kernel_rfl) (by kernel_rfl) (by kernel_rfl) (by kernel_rfl) (cs := [bodyOf F.slices_Concat_Edit 3, bodyOf F.slices_Concat_Edit 11]) (by kernel_rfl) (loopsc loopK_slices_Concat_Edit_3 (loopsc loopK_slices_Concat_Edit_11 loops0))) (S_fnR_of fun d K h => (e_slices_Concat_Edit d.1 K).trans (v_slices_Concat_Edit d.1 h K))
end Go.Ev.Seat
end
section
/- i_Edit_fits: its contract. -/
namespace Go.Ev.Seat
open Go.RowKit
set_option maxRecDepth 100000
set_option linter.unusedVariables false
set_option linter.unusedSimpArgs false
noncomputable abbrev E_i_Edit_fits : Env := En [(N.i_isCut, true, S_i_isCut), (N.i_in, true, S_i_in), (N.i_isText, true, S_i_isText)] [] [] [] false 0 []
noncomputable def T_i_Edit_fits (e : T_Edit) (t : List Int) (K : Ret → Option Ret) : Option Ret := (bif (fitB t) then (bif (isCutD t e.1) then (bif ((decide ((0 : Int) ≤ e.2.1)) && (decide (e.2.1 ≤ (IntKind.wrap .i64 ((((List.length t) : Nat) : Int) - e.1))))) then (bif (fitB t) then (bif (isCutD t (IntKind.wrap .i64 (e.1 + e.2.1))) then (bif (fitB e.2.2) then K ((.s (.bool (textOk e.2.2))), []) else none) else K ((.s (.bool false)), [])) else none) else K ((.s (.bool false)), [])) else K ((.s (.bool false)), [])) else none)
theorem e_i_Edit_fits (e : T_Edit) (t : List Int) (K : Ret → Option Ret) : evF E_i_Edit_fits true F.i_Edit_fits [.a (editR.cells .no e), .l .no bytesR t] K = T_i_Edit_fits e t K := by kernel_rfl
def S_i_Edit_fits : Sm := S_fnR [.a editR, .l bytesR] (fun d => fitB d.2.1 && fitB d.1.2.2) (fun d => (bl (fitsD d.2.1 d.1), []))
theorem v_i_Edit_fits (e : T_Edit) (t : List Int) (h : (fitB t && fitB e.2.2) = true) (K : Ret → Option Ret) : T_i_Edit_fits e t K = K (bl (fitsD t e), []) := by
  obtain ⟨h1, h2⟩ := (Bool.and_eq_true _ _).mp h
  have hl := fitB_len h1
  unfold T_i_Edit_fits fitsD
  rw [h1, h2]
  cases ha : isCutD t e.1 with
  | false => rfl
  | true =>
    have r1 := isCutD_range ha
    by_cases c0 : 0 ≤ e.2.1
    case neg => rw [decide_eq_false c0]; rfl
    rw [decide_eq_true c0, wrap_in (n := ((t.length : Nat) : Int) - e.1) (by omega) (by omega)]
    by_cases c1 : e.2.1 ≤ ((t.length : Nat) : Int) - e.1
    case neg => rw [decide_eq_false c1]; rfl
    rw [decide_eq_true c1, wrap_in (n := e.1 + e.2.1) (by omega) (by omega)]
    cases isCutD t (e.1 + e.2.1) <;> rfl
theorem okS_i_Edit_fits : OkFn prog I N.i_Edit_fits true S_i_Edit_fits := okN (ok_fn (memc okS_i_isCut (memc okS_i_in (memc okS_i_isText mem0))) (l := [(N.i_isCut, true, S_i_isCut), (N.i_in, true, S_i_in), (N.i_isText, true, S_i_isText)]) (p := []) (ls := []) (lend := []) (focus := false) (fuel := 0) (give := []) (fn := F.i_Edit_fits) (by kernel_rfl) (by kernel_rfl) (by kernel_rfl) (by kernel_rfl) (cs := []) (by kernel_rfl) loops0) (S_fnR_of fun d K h => (e_i_Edit_fits d.1 d.2.1 K).trans (v_i_Edit_fits d.1 d.2.1 h K))
end Go.Ev.Seat
end
section
/- i_areMembers_1: its contract. -/
namespace Go.Ev.Seat
open Go.RowKit
set_option maxRecDepth 100000
set_option linter.unusedVariables false
set_option linter.unusedSimpArgs false
noncomputable abbrev E_i_areMembers_1 : Env := En [(N.i_Edit_fits, true, S_i_Edit_fits)] [] [] [] false 0 []
noncomputable def T_i_areMembers_1 (e : T_Edit) (t : List Int) (K : Ret → Option Ret) : Option Ret := (bif ((fitB t) && (fitB e.2.2)) then K ((.s (.bool (!(fitsD t e)))), []) else none)
theorem e_i_areMembers_1 (e : T_Edit) (t : List Int) (K : Ret → Option Ret) : evF E_i_areMembers_1 true F.i_areMembers_1 [.a (editR.cells .no e), .qb [.l .no bytesR t] 0] K = T_i_areMembers_1 e t K := by kernel_rfl
def S_i_areMembers_1 : Sm := S_fnR [.a editR, .sh (.qb (.cons (.l .no bytesR) .nil) 0)] (fun d => fitB d.2.1.1 && fitB d.1.2.2) (fun d => (bl (!(fitsD d.2.1.1 d.1)), []))
theorem v_i_areMembers_1 (e : T_Edit) (t : List Int) (h : (fitB t && fitB e.2.2) = true) (K : Ret → Option Ret) : T_i_areMembers_1 e t K = K (bl (!(fitsD t e)), []) := by
  unfold T_i_areMembers_1
  rw [h]; rfl
theorem okS_i_areMembers_1 : OkFn prog I N.i_areMembers_1 true S_i_areMembers_1 := okN (ok_fn (memc okS_i_Edit_fits mem0) (l := [(N.i_Edit_fits, true, S_i_Edit_fits)]) (p := []) (ls := []) (lend := []) (focus := false) (fuel := 0) (give := []) (fn := F.i_areMembers_1) (by kernel_rfl) (by kernel_rfl) (by kernel_rfl) (by kernel_rfl) (cs := []) (by kernel_rfl) loops0) (S_fnR_of fun d K h => (e_i_areMembers_1 d.1 d.2.1.1 K).trans (v_i_areMembers_1 d.1 d.2.1.1 h K))
end Go.Ev.Seat
end
section
/- slices_IndexFunc_EditFits: its contract. -/
namespace Go.Ev.Seat
open Go.RowKit
set_option maxRecDepth 100000
set_option linter.unusedVariables false
set_option linter.unusedSimpArgs false
def z_slices_IndexFunc_EditFits_2_0 (x4 : Int) : St := { tm := ([.x, .x, .x, .x, (.s (.int .i64 x4))] ++ List.replicate 14 .x), ob := [], nx := 0, io := [] }
def z_slices_IndexFunc_EditFits_2_1 : St := { tm := ([] ++ List.replicate 19 .x), ob := [], nx := 0, io := [] }
def sh_slices_IndexFunc_EditFits_2_0 : Ss := { tm := (.cons (.l .no editR) (.cons (.f 185 (.cons (.qb (.cons (.l .no bytesR) .nil) 0) .nil)) (.cons (.x) (.cons (.x) (.cons (.x) (.cons (.x) (.cons (.x) (.cons (.int .i64) (.cons (.int .i64) (xsh 10)))))))))), ob := .nil, nx := 0, io := .nil }
def d_slices_IndexFunc_EditFits_2_0 (x0 : List T_Edit) (x100 : List Int) (x7 : Int) (x8 : Int) : sh_slices_IndexFunc_EditFits_2_0.T := ((x0, (((x100, ()), ()), ((), ((), ((), ((), ((), (x7, (x8, xd 10))))))))), (), ())
def s_slices_IndexFunc_EditFits_2_0 (x0 : List T_Edit) (x100 : List Int) (x7 : Int) (x8 : Int) : St := { tm := ([(.l .no editR x0), (.f 185 [(.qb [(.l .no bytesR x100)] 0)]), .x, .x, .x, .x, .x, (.s (.int .i64 x7)), (.s (.int .i64 x8))] ++ List.replicate 10 .x), ob := [], nx := 0, io := [] }
theorem se_slices_IndexFunc_EditFits_2_0 (x0 : List T_Edit) (x100 : List Int) (x7 : Int) (x8 : Int) : sh_slices_IndexFunc_EditFits_2_0.mk' (d_slices_IndexFunc_EditFits_2_0 x0 x100 x7 x8) = (s_slices_IndexFunc_EditFits_2_0 x0 x100 x7 x8) := by kernel_rfl
def w_slices_IndexFunc_EditFits_2_0 (d : sh_slices_IndexFunc_EditFits_2_0.T) (f : (List T_Edit) → (List Int) → Int → Int → Option Ret) : Option Ret := match d with | ((x0, (((x100, _), _), (_, (_, (_, (_, (_, (x7, (x8, _))))))))), _, _) => f x0 x100 x7 x8
noncomputable def P_slices_IndexFunc_EditFits_2_0 (x0 : List T_Edit) (x100 : List Int) (x7 : Int) (x8 : Int) (nx0 : (List T_Edit) → (List Int) → Int → Int → Option Ret) (k0 : Int → Option Ret) (k1 : Option Ret) : Option Ret := (bif (decide (x8 < x7)) then (bif ((decide ((0 : Int) ≤ x8)) && (decide (x8 < (((List.length x0) : Nat) : Int)))) then (bif ((fitB x100) && (fitB (List.getD x0 (Int.toNat x8) (editR.dflt)).2.2)) then (bif (!(fitsD x100 (List.getD x0 (Int.toNat x8) (editR.dflt)))) then (k0 x8) else (nx0 x0 x100 x7 (IntKind.wrap .i64 (x8 + (1 : Int))))) else none) else none) else k1)
noncomputable def Q_slices_IndexFunc_EditFits_2_0 : Nat → (List T_Edit) → (List Int) → Int → Int → (Int → Option Ret) → (Option Ret) → Option Ret
  | 0, _, _, _, _, _, _ => none
  | m + 1, x0, x100, x7, x8, k0, k1 => P_slices_IndexFunc_EditFits_2_0 x0 x100 x7 x8 (fun x0 x100 x7 x8 => (Q_slices_IndexFunc_EditFits_2_0 m x0 x100 x7 x8 k0 k1)) k0 k1
noncomputable def R_slices_IndexFunc_EditFits_2_0 (x0 : List T_Edit) (x100 : List Int) (x7 : Int) (x8 : Int) (k0 : Int → Option Ret) (k1 : Option Ret) : Option Ret := Q_slices_IndexFunc_EditFits_2_0 (List.length x0 + List.length x100 + x7.toNat + x8.toNat + 2) x0 x100 x7 x8 k0 k1
noncomputable def W_slices_IndexFunc_EditFits_2 : LoopFn := (fun (σ : St) (K : Ex → St → Option Ret) => (match sh_slices_IndexFunc_EditFits_2_0.un σ with | some d => w_slices_IndexFunc_EditFits_2_0 d (fun x0 x100 x7 x8 => R_slices_IndexFunc_EditFits_2_0 x0 x100 x7 x8 (fun x4 => (K .ret (z_slices_IndexFunc_EditFits_2_0 x4))) (K (.ext 0) z_slices_IndexFunc_EditFits_2_1)) | none => none))
noncomputable abbrev E_slices_IndexFunc_EditFits : Env := En [(N.i_areMembers_1, true, S_i_areMembers_1)] [] [(2, [0,1,7,8], [4], W_slices_IndexFunc_EditFits_2)] [] false 0 []
theorem st_slices_IndexFunc_EditFits_2_0 (m : Nat) (x0 : List T_Edit) (x100 : List Int) (x7 : Int) (x8 : Int) (K : Ex → St → Option Ret) : rounds (run E_slices_IndexFunc_EditFits (bodyOf F.slices_IndexFunc_Edit 2)) [0,1,7,8] [4] (m + 1) (s_slices_IndexFunc_EditFits_2_0 x0 x100 x7 x8) K = P_slices_IndexFunc_EditFits_2_0 x0 x100 x7 x8 (fun x0 x100 x7 x8 => (rounds (run E_slices_IndexFunc_EditFits (bodyOf F.slices_IndexFunc_Edit 2)) [0,1,7,8] [4] m (s_slices_IndexFunc_EditFits_2_0 x0 x100 x7 x8) K)) (fun x4 => (K .ret (z_slices_IndexFunc_EditFits_2_0 x4))) (K (.ext 0) z_slices_IndexFunc_EditFits_2_1) := by kernel_rfl
theorem q_slices_IndexFunc_EditFits_2 (K : Ex → St → Option Ret) : ∀ m : Nat, (∀ (x0 : List T_Edit) (x100 : List Int) (x7 : Int) (x8 : Int), rounds (run E_slices_IndexFunc_EditFits (bodyOf F.slices_IndexFunc_Edit 2)) [0,1,7,8] [4] m (s_slices_IndexFunc_EditFits_2_0 x0 x100 x7 x8) K = Q_slices_IndexFunc_EditFits_2_0 m x0 x100 x7 x8 (fun x4 => (K .ret (z_slices_IndexFunc_EditFits_2_0 x4))) (K (.ext 0) z_slices_IndexFunc_EditFits_2_1))
  | 0 => (fun _ _ _ _ => rfl)
  | m + 1 => (fun x0 x100 x7 x8 => (by rw [st_slices_IndexFunc_EditFits_2_0, show (fun x0 x100 x7 x8 => (rounds (run E_slices_IndexFunc_EditFits (bodyOf F.slices_IndexFunc_Edit 2)) [0,1,7,8] [4] m (s_slices_IndexFunc_EditFits_2_0 x0 x100 x7 x8) K)) = (fun x0 x100 x7 x8 => (Q_slices_IndexFunc_EditFits_2_0 m x0 x100 x7 x8 (fun x4 => (K .ret (z_slices_IndexFunc_EditFits_2_0 x4))) (K (.ext 0) z_slices_IndexFunc_EditFits_2_1))) from funext fun x0 => funext fun x100 => funext fun x7 => funext fun x8 => (q_slices_IndexFunc_EditFits_2 K m) x0 x100 x7 x8]; rfl))
theorem loopK_slices_IndexFunc_EditFits_2 : LoopOk E_slices_IndexFunc_EditFits (bodyOf F.slices_IndexFunc_Edit 2) := by
  refine loopW_ok (n := 2) (F := W_slices_IndexFunc_EditFits_2) (by kernel_rfl) rfl (li := [0,1,7,8]) (lo := [4]) rfl (fun σ K r hr => ?_)
  unfold W_slices_IndexFunc_EditFits_2 at hr
  split at hr
  · rename_i d hd
    rw [Ss.un_mk hd]
    exact ⟨_, ((congrArg (fun z => rounds (run E_slices_IndexFunc_EditFits (bodyOf F.slices_IndexFunc_Edit 2)) [0,1,7,8] [4] _ z K) (se_slices_IndexFunc_EditFits_2_0 _ _ _ _)).trans ((q_slices_IndexFunc_EditFits_2 K _) _ _ _ _)).trans hr⟩
  · cases hr
noncomputable def T_slices_IndexFunc_EditFits (l : List T_Edit) (t : List Int) (K : Ret → Option Ret) : Option Ret := (R_slices_IndexFunc_EditFits_2_0 l t (((List.length l) : Nat) : Int) (0 : Int) (fun y0 => K ((.s (.int .i64 y0)), [])) (K ((.s (.int .i64 (-(1 : Int)))), [])))
theorem e_slices_IndexFunc_EditFits (l : List T_Edit) (t : List Int) (K : Ret → Option Ret) : evF E_slices_IndexFunc_EditFits true F.slices_IndexFunc_Edit [.l .no editR l, .f N.i_areMembers_1 [.qb [.l .no bytesR t] 0]] K = T_slices_IndexFunc_EditFits l t K := by kernel_rfl
def S_slices_IndexFunc_EditFits : Sm := S_fnR [.l editR, .sh (.f N.i_areMembers_1 (.cons (.qb (.cons (.l .no bytesR) .nil) 0) .nil))] (fun d => Nat.ble d.1.length 1048576 && d.1.all (fun x => fitB d.2.1.1.1 && fitB x.2.2)) (fun d => (.s (.int .i64 (idxF (fun x => !(fitsD d.2.1.1.1 x)) d.1)), []))
theorem v_slices_IndexFunc_EditFits (l : List T_Edit) (t : List Int) (h : (Nat.ble l.length 1048576 && l.all (fun x => fitB t && fitB x.2.2)) = true) (K : Ret → Option Ret) : T_slices_IndexFunc_EditFits l t K = K (.s (.int .i64 (idxF (fun x => !(fitsD t x)) l)), []) := by
  have hl := Nat.le_of_ble_eq_true ((Bool.and_eq_true _ _).mp h).1
  have ha := ((Bool.and_eq_true _ _).mp h).2
  rw [List.all_eq_true] at ha
  unfold T_slices_IndexFunc_EditFits
  refine Eq.trans (idx_find (R := fun m i => Q_slices_IndexFunc_EditFits_2_0 m l t ((l.length : Nat) : Int) i (fun y0 => K ((.s (.int .i64 y0)), [])) (K ((.s (.int .i64 (-(1 : Int)))), []))) (p := fun x => !(fitsD t x)) (xs := l) (z := (editR).dflt) (kf := fun y0 => K ((.s (.int .i64 y0)), [])) (kt := K ((.s (.int .i64 (-(1 : Int)))), [])) (fun m i hi => by
    show P_slices_IndexFunc_EditFits_2_0 l t _ ((i : Nat) : Int) _ _ _ = _
    unfold P_slices_IndexFunc_EditFits_2_0
    rw [decide_eq_true (show ((i : Nat) : Int) < ((l.length : Nat) : Int) by omega), decide_eq_true (show (0 : Int) ≤ ((i : Nat) : Int) by omega), Int.toNat_natCast, wrap_nat (by omega)]
    have hx := ha l[i] (List.getElem_mem hi)
    rw [← getD_lt (editR).dflt hi] at hx
    try dsimp only at hx
    rw [hx]
    rfl) (fun m => by
    show P_slices_IndexFunc_EditFits_2_0 l t _ ((l.length : Nat) : Int) _ _ _ = _
    unfold P_slices_IndexFunc_EditFits_2_0
    rw [decide_eq_false (show ¬ ((l.length : Nat) : Int) < ((l.length : Nat) : Int) by omega)]; rfl) _ 0 (by omega) (by omega)) ?_
  rw [List.drop_zero]
  unfold idxF
  cases l.findIdx? (fun x => !(fitsD t x)) with
  | none => rfl
  | some j => show K (.s (.int .i64 ((0 + j : Nat) : Int)), []) = _; rw [Nat.zero_add]
theorem okS_slices_IndexFunc_EditFits : OkFn prog I N.slices_IndexFunc_Edit true S_slices_IndexFunc_EditFits := okN (ok_fn (memc okS_i_areMembers_1 mem0) (l := [(N.i_areMembers_1, true, S_i_areMembers_1)]) (p := []) (ls := [(2, [0,1,7,8], [4], W_slices_IndexFunc_EditFits_2)]) (lend := []) (focus := false) (fuel := 0) (give := []) (fn := F.slices_IndexFunc_Edit) (by kernel_rfl) (by kernel_rfl) (by kernel_rfl) (by kernel_rfl) (cs := [bodyOf F.slices_IndexFunc_Edit 2]) (by kernel_rfl) (loopsc loopK_slices_IndexFunc_EditFits_2 loops0)) (S_fnR_of fun d K h => (e_slices_IndexFunc_EditFits d.1 d.2.1.1.1 K).trans (v_slices_IndexFunc_EditFits d.1 d.2.1.1.1 h K))
end Go.Ev.Seat
end
section
/- slices_ContainsFunc_EditFits: its contract. -/
namespace Go.Ev.Seat
open Go.RowKit
set_option maxRecDepth 100000
set_option linter.unusedVariables false
set_option linter.unusedSimpArgs false
noncomputable abbrev E_slices_ContainsFunc_EditFits : Env := En [(N.slices_IndexFunc_Edit, true, S_slices_IndexFunc_EditFits)] [] [] [] false 0 []
noncomputable def T_slices_ContainsFunc_EditFits (l : List T_Edit) (t : List Int) (K : Ret → Option Ret) : Option Ret := (bif ((Nat.ble (List.length l) 1048576) && (List.all l (fun x => ((fitB t) && (fitB x.2.2))))) then K ((.s (.bool (decide ((idxF (fun x => (!(fitsD t x))) l) ≥ (0 : Int))))), []) else none)
theorem e_slices_ContainsFunc_EditFits (l : List T_Edit) (t : List Int) (K : Ret → Option Ret) : evF E_slices_ContainsFunc_EditFits true F.slices_ContainsFunc_Edit [.l .no editR l, .f N.i_areMembers_1 [.qb [.l .no bytesR t] 0]] K = T_slices_ContainsFunc_EditFits l t K := by kernel_rfl
def S_slices_ContainsFunc_EditFits : Sm := S_fnR [.l editR, .sh (.f N.i_areMembers_1 (.cons (.qb (.cons (.l .no bytesR) .nil) 0) .nil))] (fun d => Nat.ble d.1.length 1048576 && d.1.all (fun x => fitB d.2.1.1.1 && fitB x.2.2)) (fun d => (bl (d.1.any (fun x => !(fitsD d.2.1.1.1 x))), []))
theorem v_slices_ContainsFunc_EditFits (l : List T_Edit) (t : List Int) (h : (Nat.ble l.length 1048576 && l.all (fun x => fitB t && fitB x.2.2)) = true) (K : Ret → Option Ret) : T_slices_ContainsFunc_EditFits l t K = K (bl (l.any (fun x => !(fitsD t x))), []) := by
  unfold T_slices_ContainsFunc_EditFits
  first | rw [h] | skip
  rw [← idxF_any]; rfl
theorem okS_slices_ContainsFunc_EditFits : OkFn prog I N.slices_ContainsFunc_Edit true S_slices_ContainsFunc_EditFits := okN (ok_fn (memc okS_slices_IndexFunc_EditFits mem0) (l := [(N.slices_IndexFunc_Edit, true, S_slices_IndexFunc_EditFits)]) (p := []) (ls := []) (lend := []) (focus := false) (fuel := 0) (give := []) (fn := F.slices_ContainsFunc_Edit) (by kernel_rfl) (by kernel_rfl) (by kernel_rfl) (by kernel_rfl) (cs := []) (by kernel_rfl) loops0) (S_fnR_of fun d K h => (e_slices_ContainsFunc_EditFits d.1 d.2.1.1.1 K).trans (v_slices_ContainsFunc_EditFits d.1 d.2.1.1.1 h K))
end Go.Ev.Seat
end
section
/- i_areMembers: its contract. -/
namespace Go.Ev.Seat
open Go.RowKit
set_option maxRecDepth 100000
set_option linter.unusedVariables false
set_option linter.unusedSimpArgs false
def z_i_areMembers_2_0 (x0 : List T_Member) (x4 : Bool) : St := { tm := ([(.l .no memberR x0), .x, .x, .x, (.s (.bool x4))] ++ List.replicate 64 .x), ob := [], nx := 0, io := [] }
def z_i_areMembers_2_1 (x0 : List T_Member) : St := { tm := ([(.l .no memberR x0)] ++ List.replicate 68 .x), ob := [], nx := 0, io := [] }
def sh_i_areMembers_2_0 : Ss := { tm := (.cons (.l .no memberR) (.cons (.x) (.cons (.x) (.cons (.pb 0 0) (.cons (.x) (.cons (.x) (.cons (.x) (.cons (.l .no memberR) (.cons (.int .i64) (.cons (.int .i64) (xsh 59))))))))))), ob := (.box (.cons (.l .no bytesR) .nil) .nil), nx := 1, io := .nil }
def d_i_areMembers_2_0 (x0 : List T_Member) (x7 : List T_Member) (x8 : Int) (x9 : Int) (b00 : List Int) : sh_i_areMembers_2_0.T := ((x0, ((), ((), ((), ((), ((), ((), (x7, (x8, (x9, xd 59)))))))))), ((b00, ()), ()), ())
def s_i_areMembers_2_0 (x0 : List T_Member) (x7 : List T_Member) (x8 : Int) (x9 : Int) (b00 : List Int) : St := { tm := ([(.l .no memberR x0), .x, .x, (.pb 0 0), .x, .x, .x, (.l .no memberR x7), (.s (.int .i64 x8)), (.s (.int .i64 x9))] ++ List.replicate 59 .x), ob := [(0, (.box [(.l .no bytesR b00)]))], nx := 1, io := [] }
theorem se_i_areMembers_2_0 (x0 : List T_Member) (x7 : List T_Member) (x8 : Int) (x9 : Int) (b00 : List Int) : sh_i_areMembers_2_0.mk' (d_i_areMembers_2_0 x0 x7 x8 x9 b00) = (s_i_areMembers_2_0 x0 x7 x8 x9 b00) := by kernel_rfl
def w_i_areMembers_2_0 (d : sh_i_areMembers_2_0.T) (f : (List T_Member) → (List T_Member) → Int → Int → (List Int) → Option Ret) : Option Ret := match d with | ((x0, (_, (_, (_, (_, (_, (_, (x7, (x8, (x9, _)))))))))), ((b00, _), _), _) => f x0 x7 x8 x9 b00
noncomputable def P_i_areMembers_2_0 (x0 : List T_Member) (x7 : List T_Member) (x8 : Int) (x9 : Int) (b00 : List Int) (nx0 : (List T_Member) → (List T_Member) → Int → Int → (List Int) → Option Ret) (k0 : (List T_Member) → Bool → Option Ret) (k1 : (List T_Member) → Option Ret) : Option Ret := (bif (decide (x9 < x8)) then (bif ((decide ((0 : Int) ≤ x9)) && (decide (x9 < (((List.length x7) : Nat) : Int)))) then (bif (!((decide ((1 : Int) ≤ (List.getD x7 (Int.toNat x9) (memberR.dflt)).1)) && (decide ((List.getD x7 (Int.toNat x9) (memberR.dflt)).1 ≤ (8 : Int))))) then (k0 x0 false) else (bif (decide (x9 > (0 : Int))) then (bif ((decide ((0 : Int) ≤ (IntKind.wrap .i64 (x9 - (1 : Int))))) && (decide ((IntKind.wrap .i64 (x9 - (1 : Int))) < (((List.length x0) : Nat) : Int)))) then (bif (decide ((List.getD x0 (Int.toNat (IntKind.wrap .i64 (x9 - (1 : Int)))) (memberR.dflt)).1 ≥ (List.getD x7 (Int.toNat x9) (memberR.dflt)).1)) then (k0 x0 false) else (bif (fitB b00) then (bif (!(isCutD b00 (List.getD x7 (Int.toNat x9) (memberR.dflt)).2.1)) then (k0 x0 false) else (bif (fitB b00) then (bif (!(isCutD b00 (List.getD x7 (Int.toNat x9) (memberR.dflt)).2.2.1)) then (k0 x0 false) else (bif ((Nat.ble (List.length (List.getD x7 (Int.toNat x9) (memberR.dflt)).2.2.2.1) 1048576) && (Nat.ble (List.length (List.getD x7 (Int.toNat x9) (memberR.dflt)).2.2.2.2) 1048576)) then (bif (!(stackOkD (List.getD x7 (Int.toNat x9) (memberR.dflt)).2.2.2)) then (k0 x0 false) else (bif (Nat.ble (sumW List.length ((List.getD x7 (Int.toNat x9) (memberR.dflt)).2.2.2.1 :: ((List.getD x7 (Int.toNat x9) (memberR.dflt)).2.2.2.2 :: []))) 1048576) then (bif ((Nat.ble (List.length (List.flatten ((List.getD x7 (Int.toNat x9) (memberR.dflt)).2.2.2.1 :: ((List.getD x7 (Int.toNat x9) (memberR.dflt)).2.2.2.2 :: [])))) 1048576) && (List.all (List.flatten ((List.getD x7 (Int.toNat x9) (memberR.dflt)).2.2.2.1 :: ((List.getD x7 (Int.toNat x9) (memberR.dflt)).2.2.2.2 :: []))) (fun x => ((fitB b00) && (fitB x.2.2))))) then (bif (List.any (List.flatten ((List.getD x7 (Int.toNat x9) (memberR.dflt)).2.2.2.1 :: ((List.getD x7 (Int.toNat x9) (memberR.dflt)).2.2.2.2 :: []))) (fun x => (!(fitsD b00 x)))) then (k0 x0 false) else (nx0 x0 x7 x8 (IntKind.wrap .i64 (x9 + (1 : Int))) b00)) else none) else none)) else none)) else none)) else none)) else none) else (bif (fitB b00) then (bif (!(isCutD b00 (List.getD x7 (Int.toNat x9) (memberR.dflt)).2.1)) then (k0 x0 false) else (bif (fitB b00) then (bif (!(isCutD b00 (List.getD x7 (Int.toNat x9) (memberR.dflt)).2.2.1)) then (k0 x0 false) else (bif ((Nat.ble (List.length (List.getD x7 (Int.toNat x9) (memberR.dflt)).2.2.2.1) 1048576) && (Nat.ble (List.length (List.getD x7 (Int.toNat x9) (memberR.dflt)).2.2.2.2) 1048576)) then (bif (!(stackOkD (List.getD x7 (Int.toNat x9) (memberR.dflt)).2.2.2)) then (k0 x0 false) else (bif (Nat.ble (sumW List.length ((List.getD x7 (Int.toNat x9) (memberR.dflt)).2.2.2.1 :: ((List.getD x7 (Int.toNat x9) (memberR.dflt)).2.2.2.2 :: []))) 1048576) then (bif ((Nat.ble (List.length (List.flatten ((List.getD x7 (Int.toNat x9) (memberR.dflt)).2.2.2.1 :: ((List.getD x7 (Int.toNat x9) (memberR.dflt)).2.2.2.2 :: [])))) 1048576) && (List.all (List.flatten ((List.getD x7 (Int.toNat x9) (memberR.dflt)).2.2.2.1 :: ((List.getD x7 (Int.toNat x9) (memberR.dflt)).2.2.2.2 :: []))) (fun x => ((fitB b00) && (fitB x.2.2))))) then (bif (List.any (List.flatten ((List.getD x7 (Int.toNat x9) (memberR.dflt)).2.2.2.1 :: ((List.getD x7 (Int.toNat x9) (memberR.dflt)).2.2.2.2 :: []))) (fun x => (!(fitsD b00 x)))) then (k0 x0 false) else (nx0 x0 x7 x8 (IntKind.wrap .i64 (x9 + (1 : Int))) b00)) else none) else none)) else none)) else none)) else none))) else none) else (k1 x0))
noncomputable def Q_i_areMembers_2_0 : Nat → (List T_Member) → (List T_Member) → Int → Int → (List Int) → ((List T_Member) → Bool → Option Ret) → ((List T_Member) → Option Ret) → Option Ret
  | 0, _, _, _, _, _, _, _ => none
  | m + 1, x0, x7, x8, x9, b00, k0, k1 => P_i_areMembers_2_0 x0 x7 x8 x9 b00 (fun x0 x7 x8 x9 b00 => (Q_i_areMembers_2_0 m x0 x7 x8 x9 b00 k0 k1)) k0 k1
noncomputable def R_i_areMembers_2_0 (x0 : List T_Member) (x7 : List T_Member) (x8 : Int) (x9 : Int) (b00 : List Int) (k0 : (List T_Member) → Bool → Option Ret) (k1 : (List T_Member) → Option Ret) : Option Ret := Q_i_areMembers_2_0 (List.length x0 + List.length x7 + x8.toNat + x9.toNat + List.length b00 + 2) x0 x7 x8 x9 b00 k0 k1
noncomputable def W_i_areMembers_2 : LoopFn := (fun (σ : St) (K : Ex → St → Option Ret) => (match sh_i_areMembers_2_0.un σ with | some d => w_i_areMembers_2_0 d (fun x0 x7 x8 x9 b00 => R_i_areMembers_2_0 x0 x7 x8 x9 b00 (fun x0 x4 => (K .ret (z_i_areMembers_2_0 x0 x4))) (fun x0 => (K (.ext 0) (z_i_areMembers_2_1 x0)))) | none => none))
noncomputable abbrev E_i_areMembers : Env := En [(N.i_isSession, true, S_i_isSession), (N.i_isCut, true, S_i_isCut), (N.i_isStack, true, S_i_isStack), (N.slices_Concat_Edit, false, S_slices_Concat_Edit), (N.slices_ContainsFunc_Edit, true, S_slices_ContainsFunc_EditFits)] [(4, takeB [0, 1] (.fork (.one 2 (takeB [3, 4, 5, 6, 7, 8, 9, 10, 11, 12, 13, 14, 15, 16, 17, 18, 19, 20, 21, 22, 23] (.fork (.one 24 (takeB [25, 26, 27, 28, 29, 30, 31] (.fork (.one 32 (takeB [33, 34, 35, 36, 37] (.fork (.one 38 (takes [39, 40])))))))))))), [])] [(2, [0,3,7,8,9], [0,4], W_i_areMembers_2)] [] false 0 []
theorem st_i_areMembers_2_0 (m : Nat) (x0 : List T_Member) (x7 : List T_Member) (x8 : Int) (x9 : Int) (b00 : List Int) (K : Ex → St → Option Ret) : rounds (run E_i_areMembers (bodyOf F.i_areMembers 2)) [0,3,7,8,9] [0,4] (m + 1) (s_i_areMembers_2_0 x0 x7 x8 x9 b00) K = P_i_areMembers_2_0 x0 x7 x8 x9 b00 (fun x0 x7 x8 x9 b00 => (rounds (run E_i_areMembers (bodyOf F.i_areMembers 2)) [0,3,7,8,9] [0,4] m (s_i_areMembers_2_0 x0 x7 x8 x9 b00) K)) (fun x0 x4 => (K .ret (z_i_areMembers_2_0 x0 x4))) (fun x0 => (K (.ext 0) (z_i_areMembers_2_1 x0))) := by kernel_rfl
theorem q_i_areMembers_2 (K : Ex → St → Option Ret) : ∀ m : Nat, (∀ (x0 : List T_Member) (x7 : List T_Member) (x8 : Int) (x9 : Int) (b00 : List Int), rounds (run E_i_areMembers (bodyOf F.i_areMembers 2)) [0,3,7,8,9] [0,4] m (s_i_areMembers_2_0 x0 x7 x8 x9 b00) K = Q_i_areMembers_2_0 m x0 x7 x8 x9 b00 (fun x0 x4 => (K .ret (z_i_areMembers_2_0 x0 x4))) (fun x0 => (K (.ext 0) (z_i_areMembers_2_1 x0))))
  | 0 => (fun _ _ _ _ _ => rfl)
  | m + 1 => (fun x0 x7 x8 x9 b00 => (by rw [st_i_areMembers_2_0, show (fun x0 x7 x8 x9 b00 => (rounds (run E_i_areMembers (bodyOf F.i_areMembers 2)) [0,3,7,8,9] [0,4] m (s_i_areMembers_2_0 x0 x7 x8 x9 b00) K)) = (fun x0 x7 x8 x9 b00 => (Q_i_areMembers_2_0 m x0 x7 x8 x9 b00 (fun x0 x4 => (K .ret (z_i_areMembers_2_0 x0 x4))) (fun x0 => (K (.ext 0) (z_i_areMembers_2_1 x0))))) from funext fun x0 => funext fun x7 => funext fun x8 => funext fun x9 => funext fun b00 => (q_i_areMembers_2 K m) x0 x7 x8 x9 b00]; rfl))
theorem loopK_i_areMembers_2 : LoopOk E_i_areMembers (bodyOf F.i_areMembers 2) := by
  refine loopW_ok (n := 2) (F := W_i_areMembers_2) (by kernel_rfl) rfl (li := [0,3,7,8,9]) (lo := [0,4]) rfl (fun σ K r hr => ?_)
  unfold W_i_areMembers_2 at hr
  split at hr
  · rename_i d hd
    rw [Ss.un_mk hd]
    exact ⟨_, ((congrArg (fun z => rounds (run E_i_areMembers (bodyOf F.i_areMembers 2)) [0,3,7,8,9] [0,4] _ z K) (se_i_areMembers_2_0 _ _ _ _ _)).trans ((q_i_areMembers_2 K _) _ _ _ _ _)).trans hr⟩
  · cases hr
noncomputable def T_i_areMembers (l : List T_Member) (t : List Int) (K : Ret → Option Ret) : Option Ret := (R_i_areMembers_2_0 l l (((List.length l) : Nat) : Int) (0 : Int) t (fun y0 y1 => K ((.s (.bool y1)), [])) (fun y2 => K ((.s (.bool (decide ((((List.length y2) : Nat) : Int) ≤ (8 : Int))))), [])))
theorem e_i_areMembers (l : List T_Member) (t : List Int) (K : Ret → Option Ret) : evF E_i_areMembers true F.i_areMembers [.l .no memberR l, .l .no bytesR t] K = T_i_areMembers l t K := by kernel_rfl
def S_i_areMembers : Sm := S_fnR [.l memberR, .l bytesR] (fun d => fitC (.sl memberR) d.1 && fitB d.2.1) (fun d => (bl (membersD d.2.1 d.1), []))
theorem v_i_areMembers (l : List T_Member) (t : List Int) (h : (fitC (.sl memberR) l && fitB t) = true) (K : Ret → Option Ret) : T_i_areMembers l t K = K (bl (membersD t l), []) := by
  obtain ⟨h1, h2⟩ := (Bool.and_eq_true _ _).mp h
  have hl := fitC_len h1
  unfold T_i_areMembers membersD
  have q := idx_allN (R := fun m i => Q_i_areMembers_2_0 m l l ((l.length : Nat) : Int) i t (fun y0 y1 => K ((.s (.bool y1)), [])) (fun y2 => K ((.s (.bool (decide ((((List.length y2) : Nat) : Int) ≤ (8 : Int))))), []))) (p := memberAtD t l) (n := l.length) (kt := K ((.s (.bool (decide (((l.length : Nat) : Int) ≤ 8)))), [])) (kf := K ((.s (.bool false)), [])) (fun m i hi => by
    show P_i_areMembers_2_0 l l _ ((i : Nat) : Int) t _ _ _ = _
    unfold P_i_areMembers_2_0 memberAtD memberD sessD
    have hf := fit_member (m := l.getD i zeroM) (fitC_getD h1 rfl i)
    rw [decide_eq_true (show ((i : Nat) : Int) < ((l.length : Nat) : Int) by omega), decide_eq_true (show (0 : Int) ≤ ((i : Nat) : Int) by omega), Int.toNat_natCast, wrap_nat (by omega), show l.getD i memberR.dflt = l.getD i zeroM from rfl, h2]
    generalize l.getD i zeroM = x at *
    have n1 := fitC_len hf.1
    have n2 := fitC_len hf.2
    have key : ∀ (nx kf : Option Ret), (bif true then (bif !(isCutD t x.2.1) then kf else (bif true then (bif !(isCutD t x.2.2.1) then kf else (bif (Nat.ble (List.length x.2.2.2.1) 1048576 && Nat.ble (List.length x.2.2.2.2) 1048576) then (bif !(stackOkD x.2.2.2) then kf else (bif Nat.ble (sumW List.length (x.2.2.2.1 :: (x.2.2.2.2 :: []))) 1048576 then (bif (Nat.ble (List.length (List.flatten (x.2.2.2.1 :: (x.2.2.2.2 :: [])))) 1048576 && List.all (List.flatten (x.2.2.2.1 :: (x.2.2.2.2 :: []))) (fun y => (true && fitB y.2.2))) then (bif List.any (List.flatten (x.2.2.2.1 :: (x.2.2.2.2 :: []))) (fun y => !(fitsD t y)) then kf else nx) else none) else none)) else none)) else none)) else none) =
        bif (isCutD t x.2.1 && isCutD t x.2.2.1 && stackOkD x.2.2.2 && x.2.2.2.1.all (fitsD t) && x.2.2.2.2.all (fitsD t)) then nx else kf := by
      intro nx kf
      cases isCutD t x.2.1
      · rfl
      cases isCutD t x.2.2.1
      · rfl
      cases hk : stackOkD x.2.2.2 with
      | false => rw [Nat.ble_eq_true_of_le n1, Nat.ble_eq_true_of_le n2]; rfl
      | true =>
        have hk' := hk
        unfold stackOkD at hk'
        rw [Bool.and_eq_true] at hk'
        have m1 := okL_len hk'.1
        have m2 := okL_len hk'.2
        have hfl : List.flatten (x.2.2.2.1 :: (x.2.2.2.2 :: [])) = x.2.2.2.1 ++ x.2.2.2.2 := by simp
        have ha : List.all (x.2.2.2.1 ++ x.2.2.2.2) (fun y => (true && fitB y.2.2)) = true := by
          rw [List.all_eq_true]
          intro y hy
          rcases List.mem_append.1 hy with hy | hy
          · exact fit_edit (fitC_mem hf.1 hy)
          · exact fit_edit (fitC_mem hf.2 hy)
        rw [Nat.ble_eq_true_of_le n1, Nat.ble_eq_true_of_le n2, hfl, ha, Nat.ble_eq_true_of_le (show sumW List.length (x.2.2.2.1 :: (x.2.2.2.2 :: [])) ≤ 1048576 by simp only [sumW]; omega), Nat.ble_eq_true_of_le (show (x.2.2.2.1 ++ x.2.2.2.2).length ≤ 1048576 by rw [List.length_append]; omega), List.any_append, List.all_eq_not_any_not, List.all_eq_not_any_not]
        cases List.any x.2.2.2.1 (fun y => !(fitsD t y)) <;> cases List.any x.2.2.2.2 (fun y => !(fitsD t y)) <;> rfl
    have andA : ∀ (s a b c d e p : Bool) (nx kf : Option Ret), (bif (s && a && b && c && d && e && p) then nx else kf) = bif s then (bif p then (bif (a && b && c && d && e) then nx else kf) else kf) else kf := by
      intro s a b c d e p nx kf
      cases s <;> cases a <;> cases b <;> cases c <;> cases d <;> cases e <;> cases p <;> rfl
    rw [andA]
    cases i with
    | zero =>
      rw [decide_eq_false (show ¬ ((0 : Nat) : Int) > 0 by omega)]
      cases (decide (1 ≤ x.1) && decide (x.1 ≤ 8))
      · rfl
      · exact key _ _
    | succ i =>
      rw [wrap_in (n := ((i + 1 : Nat) : Int) - 1) (by omega) (by omega), decide_eq_true (show ((i + 1 : Nat) : Int) > 0 by omega), show ((i + 1 : Nat) : Int) - 1 = ((i : Nat) : Int) by omega, decide_eq_true (show (0 : Int) ≤ ((i : Nat) : Int) by omega), decide_eq_true (show ((i : Nat) : Int) < ((l.length : Nat) : Int) by omega), Int.toNat_natCast, show i + 1 - 1 = i from rfl, show l.getD i memberR.dflt = l.getD i zeroM from rfl]
      cases (decide (1 ≤ x.1) && decide (x.1 ≤ 8))
      · rfl
      · by_cases a3 : (l.getD i zeroM).1 < x.1
        · rw [decide_eq_true a3, decide_eq_false (show ¬ (l.getD i zeroM).1 ≥ x.1 from Int.not_le.2 a3)]
          exact key _ _
        · rw [decide_eq_false a3, decide_eq_true (show (l.getD i zeroM).1 ≥ x.1 from Int.not_lt.1 a3)]; rfl) (fun m => by
    show P_i_areMembers_2_0 l l _ ((l.length : Nat) : Int) t _ _ _ = _
    unfold P_i_areMembers_2_0
    rw [decide_eq_false (show ¬ ((l.length : Nat) : Int) < ((l.length : Nat) : Int) by omega)]; rfl) (List.length l + List.length l + ((l.length : Nat) : Int).toNat + (0 : Int).toNat + List.length t + 2) 0 (by omega) (by omega)
  refine Eq.trans q ?_
  rw [Nat.sub_zero]
  show (bif allN l.length (memberAtD t l) then _ else _) = _
  cases allN l.length (memberAtD t l) <;> cases decide (((l.length : Nat) : Int) ≤ 8) <;> rfl
theorem okS_i_areMembers : OkFn prog I N.i_areMembers true S_i_areMembers := okN (ok_fn (memc okS_i_isSession (memc okS_i_isCut (memc okS_i_isStack (memc okS_slices_Concat_Edit (memc okS_slices_ContainsFunc_EditFits mem0))))) (l := [(N.i_isSession, true, S_i_isSession), (N.i_isCut, true, S_i_isCut), (N.i_isStack, true, S_i_isStack), (N.slices_Concat_Edit, false, S_slices_Concat_Edit), (N.slices_ContainsFunc_Edit, true, S_slices_ContainsFunc_EditFits)]) (p := [(4, takeB [0, 1] (.fork (.one 2 (takeB [3, 4, 5, 6, 7, 8, 9, 10, 11, 12, 13, 14, 15, 16, 17, 18, 19, 20, 21, 22, 23] (.fork (.one 24 (takeB [25, 26, 27, 28, 29, 30, 31] (.fork (.one 32 (takeB [33, 34, 35, 36, 37] (.fork (.one 38 (takes [39, 40])))))))))))), [])]) (ls := [(2, [0,3,7,8,9], [0,4], W_i_areMembers_2)]) (lend := []) (focus := false) (fuel := 0) (give := []) (fn := F.i_areMembers) (by kernel_rfl) (by kernel_rfl) (by kernel_rfl) (by kernel_rfl) (cs := [bodyOf F.i_areMembers 2]) (by kernel_rfl) (loopsc loopK_i_areMembers_2 loops0)) (S_fnR_of fun d K h => (e_i_areMembers d.1 d.2.1 K).trans (v_i_areMembers d.1 d.2.1 h K))
end Go.Ev.Seat
end
section
/- i_isLease: its contract. -/
namespace Go.Ev.Seat
open Go.RowKit
set_option maxRecDepth 100000
set_option linter.unusedVariables false
set_option linter.unusedSimpArgs false
noncomputable abbrev E_i_isLease : Env := En [(N.i_in, true, S_i_in), (N.i_isSession, true, S_i_isSession)] [] [] [] false 0 []
noncomputable def T_i_isLease (l : T_Lease) (K : Ret → Option Ret) : Option Ret := (bif ((decide ((0 : Int) ≤ l.1)) && (decide (l.1 ≤ l.2.1))) then (bif (decide (l.2.1 ≤ (400 : Int))) then (bif ((decide ((1 : Int) ≤ l.2.2.1)) && (decide (l.2.2.1 ≤ (8 : Int)))) then K ((.s (.bool ((decide ((1 : Int) ≤ l.2.2.2)) && (decide (l.2.2.2 ≤ (1000 : Int)))))), []) else K ((.s (.bool false)), [])) else K ((.s (.bool false)), [])) else K ((.s (.bool false)), []))
theorem e_i_isLease (l : T_Lease) (K : Ret → Option Ret) : evF E_i_isLease true F.i_isLease [.a (leaseR.cells .no l)] K = T_i_isLease l K := by kernel_rfl
def S_i_isLease : Sm := S_fnR [.a leaseR] (fun d => true) (fun d => (bl (leaseOkD d.1), []))
theorem v_i_isLease (l : T_Lease) (K : Ret → Option Ret) : T_i_isLease l K = K (bl (leaseOkD l), []) := by
  unfold T_i_isLease leaseOkD sessD tickD
  cases (decide (0 ≤ l.1) && decide (l.1 ≤ l.2.1)) <;> cases decide (l.2.1 ≤ 400) <;> cases (decide (1 ≤ l.2.2.1) && decide (l.2.2.1 ≤ 8)) <;> rfl
theorem okS_i_isLease : OkFn prog I N.i_isLease true S_i_isLease := okN (ok_fn (memc okS_i_in (memc okS_i_isSession mem0)) (l := [(N.i_in, true, S_i_in), (N.i_isSession, true, S_i_isSession)]) (p := []) (ls := []) (lend := []) (focus := false) (fuel := 0) (give := []) (fn := F.i_isLease) (by kernel_rfl) (by kernel_rfl) (by kernel_rfl) (by kernel_rfl) (cs := []) (by kernel_rfl) loops0) (S_fnR_of fun d K h => (e_i_isLease d.1 K).trans (v_i_isLease d.1 K))
end Go.Ev.Seat
end
section
/- cmp_isNaN_int: its contract. -/
namespace Go.Ev.Seat
open Go.RowKit
set_option maxRecDepth 100000
set_option linter.unusedVariables false
set_option linter.unusedSimpArgs false
noncomputable abbrev E_cmp_isNaN_int : Env := En [] [] [] [] false 0 []
noncomputable def T_cmp_isNaN_int (a : Int) (K : Ret → Option Ret) : Option Ret := K ((.s (.bool (a != a))), [])
theorem e_cmp_isNaN_int (a : Int) (K : Ret → Option Ret) : evF E_cmp_isNaN_int true F.cmp_isNaN_int [.s (.int .i64 a)] K = T_cmp_isNaN_int a K := by kernel_rfl
def S_cmp_isNaN_int : Sm := S_fnR [.i] (fun d => true) (fun d => (bl (d.1 != d.1), []))
theorem v_cmp_isNaN_int (a : Int) (K : Ret → Option Ret) : T_cmp_isNaN_int a K = K (bl (a != a), []) := rfl
theorem okS_cmp_isNaN_int : OkFn prog I N.cmp_isNaN_int true S_cmp_isNaN_int := okN (ok_fn mem0 (l := []) (p := []) (ls := []) (lend := []) (focus := false) (fuel := 0) (give := []) (fn := F.cmp_isNaN_int) (by kernel_rfl) (by kernel_rfl) (by kernel_rfl) (by kernel_rfl) (cs := []) (by kernel_rfl) loops0) (S_fnR_of fun d K h => (e_cmp_isNaN_int d.1 K).trans (v_cmp_isNaN_int d.1 K))
end Go.Ev.Seat
end
section
/- cmp_Compare_int: its contract. -/
namespace Go.Ev.Seat
open Go.RowKit
set_option maxRecDepth 100000
set_option linter.unusedVariables false
set_option linter.unusedSimpArgs false
noncomputable abbrev E_cmp_Compare_int : Env := En [(N.cmp_isNaN_int, true, S_cmp_isNaN_int)] [] [] [] false 0 []
noncomputable def T_cmp_Compare_int (a : Int) (b : Int) (K : Ret → Option Ret) : Option Ret := (bif (a != a) then (bif (b != b) then K ((.s (.int .i64 (0 : Int))), []) else K ((.s (.int .i64 (-(1 : Int)))), [])) else (bif (b != b) then K ((.s (.int .i64 (1 : Int))), []) else (bif (decide (a < b)) then K ((.s (.int .i64 (-(1 : Int)))), []) else (bif (decide (a > b)) then K ((.s (.int .i64 (1 : Int))), []) else K ((.s (.int .i64 (0 : Int))), [])))))
theorem e_cmp_Compare_int (a : Int) (b : Int) (K : Ret → Option Ret) : evF E_cmp_Compare_int true F.cmp_Compare_int [.s (.int .i64 a), .s (.int .i64 b)] K = T_cmp_Compare_int a b K := by kernel_rfl
def S_cmp_Compare_int : Sm := S_fnR [.i, .i] (fun d => true) (fun d => (.s (.int .i64 (sgn d.1 d.2.1)), []))
theorem v_cmp_Compare_int (a : Int) (b : Int) (K : Ret → Option Ret) : T_cmp_Compare_int a b K = K (.s (.int .i64 (sgn a b)), []) := by
  unfold T_cmp_Compare_int sgn
  rw [bne_f (rfl : a = a), bne_f (rfl : b = b)]
  cases decide (a < b)
  · cases decide (a > b) <;> rfl
  · rfl
theorem okS_cmp_Compare_int : OkFn prog I N.cmp_Compare_int true S_cmp_Compare_int := okN (ok_fn (memc okS_cmp_isNaN_int mem0) (l := [(N.cmp_isNaN_int, true, S_cmp_isNaN_int)]) (p := []) (ls := []) (lend := []) (focus := false) (fuel := 0) (give := []) (fn := F.cmp_Compare_int) (by kernel_rfl) (by kernel_rfl) (by kernel_rfl) (by kernel_rfl) (cs := []) (by kernel_rfl) loops0) (S_fnR_of fun d K h => (e_cmp_Compare_int d.1 d.2.1 K).trans (v_cmp_Compare_int d.1 d.2.1 K))
end Go.Ev.Seat
end
section
/- cmp_Or_int: its contract. -/
namespace Go.Ev.Seat
open Go.RowKit
set_option maxRecDepth 100000
set_option linter.unusedVariables false
set_option linter.unusedSimpArgs false
def z_cmp_Or_int_3_0 (x2 : Int) (x3 : Int) : St := { tm := ([.x, .x, (.s (.int .i64 x2)), (.s (.int .i64 x3))] ++ List.replicate 14 .x), ob := [], nx := 0, io := [] }
def z_cmp_Or_int_3_1 (x3 : Int) : St := { tm := ([.x, .x, .x, (.s (.int .i64 x3))] ++ List.replicate 14 .x), ob := [], nx := 0, io := [] }
def sh_cmp_Or_int_3_0 : Ss := { tm := (.cons (.x) (.cons (.x) (.cons (.x) (.cons (.int .i64) (.cons (.x) (.cons (.x) (.cons (.l .no intR) (.cons (.int .i64) (.cons (.int .i64) (xsh 9)))))))))), ob := .nil, nx := 0, io := .nil }
def d_cmp_Or_int_3_0 (x3 : Int) (x6 : List Int) (x7 : Int) (x8 : Int) : sh_cmp_Or_int_3_0.T := (((), ((), ((), (x3, ((), ((), (x6, (x7, (x8, xd 9))))))))), (), ())
def s_cmp_Or_int_3_0 (x3 : Int) (x6 : List Int) (x7 : Int) (x8 : Int) : St := { tm := ([.x, .x, .x, (.s (.int .i64 x3)), .x, .x, (.l .no intR x6), (.s (.int .i64 x7)), (.s (.int .i64 x8))] ++ List.replicate 9 .x), ob := [], nx := 0, io := [] }
theorem se_cmp_Or_int_3_0 (x3 : Int) (x6 : List Int) (x7 : Int) (x8 : Int) : sh_cmp_Or_int_3_0.mk' (d_cmp_Or_int_3_0 x3 x6 x7 x8) = (s_cmp_Or_int_3_0 x3 x6 x7 x8) := by kernel_rfl
def w_cmp_Or_int_3_0 (d : sh_cmp_Or_int_3_0.T) (f : Int → (List Int) → Int → Int → Option Ret) : Option Ret := match d with | ((_, (_, (_, (x3, (_, (_, (x6, (x7, (x8, _))))))))), _, _) => f x3 x6 x7 x8
noncomputable def P_cmp_Or_int_3_0 (x3 : Int) (x6 : List Int) (x7 : Int) (x8 : Int) (nx0 : Int → (List Int) → Int → Int → Option Ret) (k0 : Int → Int → Option Ret) (k1 : Int → Option Ret) : Option Ret := (bif (decide (x8 < x7)) then (bif ((decide ((0 : Int) ≤ x8)) && (decide (x8 < (((List.length x6) : Nat) : Int)))) then (bif ((List.getD x6 (Int.toNat x8) (0 : Int)) != x3) then (k0 (List.getD x6 (Int.toNat x8) (0 : Int)) x3) else (nx0 x3 x6 x7 (IntKind.wrap .i64 (x8 + (1 : Int))))) else none) else (k1 x3))
noncomputable def Q_cmp_Or_int_3_0 : Nat → Int → (List Int) → Int → Int → (Int → Int → Option Ret) → (Int → Option Ret) → Option Ret
  | 0, _, _, _, _, _, _ => none
  | m + 1, x3, x6, x7, x8, k0, k1 => P_cmp_Or_int_3_0 x3 x6 x7 x8 (fun x3 x6 x7 x8 => (Q_cmp_Or_int_3_0 m x3 x6 x7 x8 k0 k1)) k0 k1
noncomputable def R_cmp_Or_int_3_0 (x3 : Int) (x6 : List Int) (x7 : Int) (x8 : Int) (k0 : Int → Int → Option Ret) (k1 : Int → Option Ret) : Option Ret := Q_cmp_Or_int_3_0 (x3.toNat + List.length x6 + x7.toNat + x8.toNat + 2) x3 x6 x7 x8 k0 k1
noncomputable def W_cmp_Or_int_3 : LoopFn := (fun (σ : St) (K : Ex → St → Option Ret) => (match sh_cmp_Or_int_3_0.un σ with | some d => w_cmp_Or_int_3_0 d (fun x3 x6 x7 x8 => R_cmp_Or_int_3_0 x3 x6 x7 x8 (fun x2 x3 => (K .ret (z_cmp_Or_int_3_0 x2 x3))) (fun x3 => (K (.ext 0) (z_cmp_Or_int_3_1 x3)))) | none => none))
noncomputable abbrev E_cmp_Or_int : Env := En [] [] [(3, [3,6,7,8], [2,3], W_cmp_Or_int_3)] [] false 0 []
theorem st_cmp_Or_int_3_0 (m : Nat) (x3 : Int) (x6 : List Int) (x7 : Int) (x8 : Int) (K : Ex → St → Option Ret) : rounds (run E_cmp_Or_int (bodyOf F.cmp_Or_int 3)) [3,6,7,8] [2,3] (m + 1) (s_cmp_Or_int_3_0 x3 x6 x7 x8) K = P_cmp_Or_int_3_0 x3 x6 x7 x8 (fun x3 x6 x7 x8 => (rounds (run E_cmp_Or_int (bodyOf F.cmp_Or_int 3)) [3,6,7,8] [2,3] m (s_cmp_Or_int_3_0 x3 x6 x7 x8) K)) (fun x2 x3 => (K .ret (z_cmp_Or_int_3_0 x2 x3))) (fun x3 => (K (.ext 0) (z_cmp_Or_int_3_1 x3))) := by kernel_rfl
theorem q_cmp_Or_int_3 (K : Ex → St → Option Ret) : ∀ m : Nat, (∀ (x3 : Int) (x6 : List Int) (x7 : Int) (x8 : Int), rounds (run E_cmp_Or_int (bodyOf F.cmp_Or_int 3)) [3,6,7,8] [2,3] m (s_cmp_Or_int_3_0 x3 x6 x7 x8) K = Q_cmp_Or_int_3_0 m x3 x6 x7 x8 (fun x2 x3 => (K .ret (z_cmp_Or_int_3_0 x2 x3))) (fun x3 => (K (.ext 0) (z_cmp_Or_int_3_1 x3))))
  | 0 => (fun _ _ _ _ => rfl)
  | m + 1 => (fun x3 x6 x7 x8 => (by rw [st_cmp_Or_int_3_0, show (fun x3 x6 x7 x8 => (rounds (run E_cmp_Or_int (bodyOf F.cmp_Or_int 3)) [3,6,7,8] [2,3] m (s_cmp_Or_int_3_0 x3 x6 x7 x8) K)) = (fun x3 x6 x7 x8 => (Q_cmp_Or_int_3_0 m x3 x6 x7 x8 (fun x2 x3 => (K .ret (z_cmp_Or_int_3_0 x2 x3))) (fun x3 => (K (.ext 0) (z_cmp_Or_int_3_1 x3))))) from funext fun x3 => funext fun x6 => funext fun x7 => funext fun x8 => (q_cmp_Or_int_3 K m) x3 x6 x7 x8]; rfl))
theorem loopK_cmp_Or_int_3 : LoopOk E_cmp_Or_int (bodyOf F.cmp_Or_int 3) := by
  refine loopW_ok (n := 3) (F := W_cmp_Or_int_3) (by kernel_rfl) rfl (li := [3,6,7,8]) (lo := [2,3]) rfl (fun σ K r hr => ?_)
  unfold W_cmp_Or_int_3 at hr
  split at hr
  · rename_i d hd
    rw [Ss.un_mk hd]
    exact ⟨_, ((congrArg (fun z => rounds (run E_cmp_Or_int (bodyOf F.cmp_Or_int 3)) [3,6,7,8] [2,3] _ z K) (se_cmp_Or_int_3_0 _ _ _ _)).trans ((q_cmp_Or_int_3 K _) _ _ _ _)).trans hr⟩
  · cases hr
noncomputable def T_cmp_Or_int (l : List Int) (K : Ret → Option Ret) : Option Ret := (R_cmp_Or_int_3_0 (0 : Int) l (((List.length l) : Nat) : Int) (0 : Int) (fun y0 y1 => K ((.s (.int .i64 y0)), [])) (fun y2 => K ((.s (.int .i64 y2)), [])))
theorem e_cmp_Or_int (l : List Int) (K : Ret → Option Ret) : evF E_cmp_Or_int true F.cmp_Or_int [.l .no intR l] K = T_cmp_Or_int l K := by kernel_rfl
def S_cmp_Or_int : Sm := S_fnR [.l intR] (fun d => Nat.ble d.1.length 1048576) (fun d => (.s (.int .i64 (orD d.1)), []))
theorem v_cmp_Or_int (l : List Int) (h : (Nat.ble l.length 1048576) = true) (K : Ret → Option Ret) : T_cmp_Or_int l K = K (.s (.int .i64 (orD l)), []) := by
  have hl := Nat.le_of_ble_eq_true h
  unfold T_cmp_Or_int orD
  have q : ∀ (m i : Nat), i ≤ l.length → l.length - i < m → Q_cmp_Or_int_3_0 m 0 l ((l.length : Nat) : Int) ((i : Nat) : Int) (fun y0 y1 => K ((.s (.int .i64 y0)), [])) (fun y2 => K ((.s (.int .i64 y2)), [])) = K ((.s (.int .i64 (((l.drop i).find? (fun c => c != 0)).getD 0))), []) := by
    intro m
    induction m with
    | zero => intro i _ hm; omega
    | succ m ih =>
      intro i hi hm
      show P_cmp_Or_int_3_0 0 l _ ((i : Nat) : Int) _ _ _ = _
      unfold P_cmp_Or_int_3_0
      by_cases hlt : i < l.length
      · rw [decide_eq_true (show ((i : Nat) : Int) < ((l.length : Nat) : Int) by omega), decide_eq_true (show (0 : Int) ≤ ((i : Nat) : Int) by omega), Int.toNat_natCast, wrap_nat (by omega), List.drop_eq_getElem_cons hlt, ← getD_lt 0 hlt, List.find?_cons]
        dsimp only
        rw [ih (i + 1) (by omega) (by omega)]
        cases ((l.getD i 0) != 0) <;> rfl
      · obtain rfl : i = l.length := by omega
        rw [decide_eq_false (show ¬ ((l.length : Nat) : Int) < ((l.length : Nat) : Int) by omega), List.drop_length]; rfl
  have := q ((0 : Int).toNat + List.length l + ((l.length : Nat) : Int).toNat + (0 : Int).toNat + 2) 0 (by omega) (by omega)
  rw [List.drop_zero] at this
  exact this
theorem okS_cmp_Or_int : OkFn prog I N.cmp_Or_int true S_cmp_Or_int := okN (ok_fn mem0 (l := []) (p := []) (ls := [(3, [3,6,7,8], [2,3], W_cmp_Or_int_3)]) (lend := []) (focus := false) (fuel := 0) (give := []) (fn := F.cmp_Or_int) (by kernel_rfl) (by kernel_rfl) (by kernel_rfl) (by kernel_rfl) (cs := [bodyOf F.cmp_Or_int 3]) (by kernel_rfl) (loopsc loopK_cmp_Or_int_3 loops0)) (S_fnR_of fun d K h => (e_cmp_Or_int d.1 K).trans (v_cmp_Or_int d.1 h K))
end Go.Ev.Seat
end
section
/- i_compareLeases: its contract. -/
namespace Go.Ev.Seat
open Go.RowKit
set_option maxRecDepth 100000
set_option linter.unusedVariables false
set_option linter.unusedSimpArgs false
noncomputable abbrev E_i_compareLeases : Env := En [(N.cmp_Compare_int, true, S_cmp_Compare_int), (N.cmp_Or_int, true, S_cmp_Or_int)] [(1, takeB [0, 1, 2, 3, 5, 6, 7, 8, 10, 11, 12, 13] (.fork (.one 4 (.fork (.one 9 (.fork (.one 14 (.fork (.one 15 (.fork (.one 16 (takes [17]))))))))))), [])] [] [] false 0 []
noncomputable def T_i_compareLeases (a : T_Lease) (b : T_Lease) (K : Ret → Option Ret) : Option Ret := K ((.s (.int .i64 (orD ((sgn a.1 b.1) :: ((sgn a.2.1 b.2.1) :: ((sgn a.2.2.1 b.2.2.1) :: ([] : List Int))))))), [])
theorem e_i_compareLeases (a : T_Lease) (b : T_Lease) (K : Ret → Option Ret) : evF E_i_compareLeases true F.i_compareLeases [.a (leaseR.cells .no a), .a (leaseR.cells .no b)] K = T_i_compareLeases a b K := by kernel_rfl
def S_i_compareLeases : Sm := S_fnR [.a leaseR, .a leaseR] (fun d => true) (fun d => (.s (.int .i64 (cmpD d.1 d.2.1)), []))
theorem v_i_compareLeases (a : T_Lease) (b : T_Lease) (K : Ret → Option Ret) : T_i_compareLeases a b K = K (.s (.int .i64 (cmpD a b)), []) := by
  unfold T_i_compareLeases orD cmpD
  simp only [List.find?_cons, List.find?_nil]
  cases (sgn a.1 b.1 != 0)
  · cases (sgn a.2.1 b.2.1 != 0)
    · cases h3 : (sgn a.2.2.1 b.2.2.1 != 0)
      · have : sgn a.2.2.1 b.2.2.1 = 0 := by simpa using h3
        rw [this]; rfl
      · rfl
    · rfl
  · rfl
theorem okS_i_compareLeases : OkFn prog I N.i_compareLeases true S_i_compareLeases := okN (ok_fn (memc okS_cmp_Compare_int (memc okS_cmp_Or_int mem0)) (l := [(N.cmp_Compare_int, true, S_cmp_Compare_int), (N.cmp_Or_int, true, S_cmp_Or_int)]) (p := [(1, takeB [0, 1, 2, 3, 5, 6, 7, 8, 10, 11, 12, 13] (.fork (.one 4 (.fork (.one 9 (.fork (.one 14 (.fork (.one 15 (.fork (.one 16 (takes [17]))))))))))), [])]) (ls := []) (lend := []) (focus := false) (fuel := 0) (give := []) (fn := F.i_compareLeases) (by kernel_rfl) (by kernel_rfl) (by kernel_rfl) (by kernel_rfl) (cs := []) (by kernel_rfl) loops0) (S_fnR_of fun d K h => (e_i_compareLeases d.1 d.2.1 K).trans (v_i_compareLeases d.1 d.2.1 K))
end Go.Ev.Seat
end
section
/- i_areLeases: its contract. -/
namespace Go.Ev.Seat
open Go.RowKit
set_option maxRecDepth 100000
set_option linter.unusedVariables false
set_option linter.unusedSimpArgs false
def z_i_areLeases_2_0 (x0 : List T_Lease) (x2 : Bool) : St := { tm := ([(.l .no leaseR x0), .x, (.s (.bool x2))] ++ List.replicate 30 .x), ob := [], nx := 0, io := [] }
def z_i_areLeases_2_1 (x0 : List T_Lease) : St := { tm := ([(.l .no leaseR x0)] ++ List.replicate 32 .x), ob := [], nx := 0, io := [] }
def sh_i_areLeases_2_0 : Ss := { tm := (.cons (.l .no leaseR) (.cons (.x) (.cons (.x) (.cons (.x) (.cons (.x) (.cons (.l .no leaseR) (.cons (.int .i64) (.cons (.int .i64) (xsh 25))))))))), ob := .nil, nx := 0, io := .nil }
def d_i_areLeases_2_0 (x0 : List T_Lease) (x5 : List T_Lease) (x6 : Int) (x7 : Int) : sh_i_areLeases_2_0.T := ((x0, ((), ((), ((), ((), (x5, (x6, (x7, xd 25)))))))), (), ())
def s_i_areLeases_2_0 (x0 : List T_Lease) (x5 : List T_Lease) (x6 : Int) (x7 : Int) : St := { tm := ([(.l .no leaseR x0), .x, .x, .x, .x, (.l .no leaseR x5), (.s (.int .i64 x6)), (.s (.int .i64 x7))] ++ List.replicate 25 .x), ob := [], nx := 0, io := [] }
theorem se_i_areLeases_2_0 (x0 : List T_Lease) (x5 : List T_Lease) (x6 : Int) (x7 : Int) : sh_i_areLeases_2_0.mk' (d_i_areLeases_2_0 x0 x5 x6 x7) = (s_i_areLeases_2_0 x0 x5 x6 x7) := by kernel_rfl
def w_i_areLeases_2_0 (d : sh_i_areLeases_2_0.T) (f : (List T_Lease) → (List T_Lease) → Int → Int → Option Ret) : Option Ret := match d with | ((x0, (_, (_, (_, (_, (x5, (x6, (x7, _)))))))), _, _) => f x0 x5 x6 x7
noncomputable def P_i_areLeases_2_0 (x0 : List T_Lease) (x5 : List T_Lease) (x6 : Int) (x7 : Int) (nx0 : (List T_Lease) → (List T_Lease) → Int → Int → Option Ret) (k0 : (List T_Lease) → Bool → Option Ret) (k1 : (List T_Lease) → Option Ret) : Option Ret := (bif (decide (x7 < x6)) then (bif ((decide ((0 : Int) ≤ x7)) && (decide (x7 < (((List.length x5) : Nat) : Int)))) then (bif (!(leaseOkD (List.getD x5 (Int.toNat x7) (leaseR.dflt)))) then (k0 x0 false) else (bif (decide (x7 > (0 : Int))) then (bif ((decide ((0 : Int) ≤ (IntKind.wrap .i64 (x7 - (1 : Int))))) && (decide ((IntKind.wrap .i64 (x7 - (1 : Int))) < (((List.length x0) : Nat) : Int)))) then (bif (decide ((cmpD (List.getD x0 (Int.toNat (IntKind.wrap .i64 (x7 - (1 : Int)))) (leaseR.dflt)) (List.getD x5 (Int.toNat x7) (leaseR.dflt))) ≥ (0 : Int))) then (k0 x0 false) else (nx0 x0 x5 x6 (IntKind.wrap .i64 (x7 + (1 : Int))))) else none) else (nx0 x0 x5 x6 (IntKind.wrap .i64 (x7 + (1 : Int)))))) else none) else (k1 x0))
noncomputable def Q_i_areLeases_2_0 : Nat → (List T_Lease) → (List T_Lease) → Int → Int → ((List T_Lease) → Bool → Option Ret) → ((List T_Lease) → Option Ret) → Option Ret
  | 0, _, _, _, _, _, _ => none
  | m + 1, x0, x5, x6, x7, k0, k1 => P_i_areLeases_2_0 x0 x5 x6 x7 (fun x0 x5 x6 x7 => (Q_i_areLeases_2_0 m x0 x5 x6 x7 k0 k1)) k0 k1
noncomputable def R_i_areLeases_2_0 (x0 : List T_Lease) (x5 : List T_Lease) (x6 : Int) (x7 : Int) (k0 : (List T_Lease) → Bool → Option Ret) (k1 : (List T_Lease) → Option Ret) : Option Ret := Q_i_areLeases_2_0 (List.length x0 + List.length x5 + x6.toNat + x7.toNat + 2) x0 x5 x6 x7 k0 k1
noncomputable def W_i_areLeases_2 : LoopFn := (fun (σ : St) (K : Ex → St → Option Ret) => (match sh_i_areLeases_2_0.un σ with | some d => w_i_areLeases_2_0 d (fun x0 x5 x6 x7 => R_i_areLeases_2_0 x0 x5 x6 x7 (fun x0 x2 => (K .ret (z_i_areLeases_2_0 x0 x2))) (fun x0 => (K (.ext 0) (z_i_areLeases_2_1 x0)))) | none => none))
noncomputable abbrev E_i_areLeases : Env := En [(N.i_isLease, true, S_i_isLease), (N.i_compareLeases, true, S_i_compareLeases)] [(4, takeB [0] (.fork (.one 1 (takeB [2, 3, 4, 5, 6, 7, 8, 9, 10, 11, 12] (.fork (.one 13 (takes [14, 15, 16])))))), [])] [(2, [0,5,6,7], [0,2], W_i_areLeases_2)] [] false 0 []
theorem st_i_areLeases_2_0 (m : Nat) (x0 : List T_Lease) (x5 : List T_Lease) (x6 : Int) (x7 : Int) (K : Ex → St → Option Ret) : rounds (run E_i_areLeases (bodyOf F.i_areLeases 2)) [0,5,6,7] [0,2] (m + 1) (s_i_areLeases_2_0 x0 x5 x6 x7) K = P_i_areLeases_2_0 x0 x5 x6 x7 (fun x0 x5 x6 x7 => (rounds (run E_i_areLeases (bodyOf F.i_areLeases 2)) [0,5,6,7] [0,2] m (s_i_areLeases_2_0 x0 x5 x6 x7) K)) (fun x0 x2 => (K .ret (z_i_areLeases_2_0 x0 x2))) (fun x0 => (K (.ext 0) (z_i_areLeases_2_1 x0))) := by kernel_rfl
theorem q_i_areLeases_2 (K : Ex → St → Option Ret) : ∀ m : Nat, (∀ (x0 : List T_Lease) (x5 : List T_Lease) (x6 : Int) (x7 : Int), rounds (run E_i_areLeases (bodyOf F.i_areLeases 2)) [0,5,6,7] [0,2] m (s_i_areLeases_2_0 x0 x5 x6 x7) K = Q_i_areLeases_2_0 m x0 x5 x6 x7 (fun x0 x2 => (K .ret (z_i_areLeases_2_0 x0 x2))) (fun x0 => (K (.ext 0) (z_i_areLeases_2_1 x0))))
  | 0 => (fun _ _ _ _ => rfl)
  | m + 1 => (fun x0 x5 x6 x7 => (by rw [st_i_areLeases_2_0, show (fun x0 x5 x6 x7 => (rounds (run E_i_areLeases (bodyOf F.i_areLeases 2)) [0,5,6,7] [0,2] m (s_i_areLeases_2_0 x0 x5 x6 x7) K)) = (fun x0 x5 x6 x7 => (Q_i_areLeases_2_0 m x0 x5 x6 x7 (fun x0 x2 => (K .ret (z_i_areLeases_2_0 x0 x2))) (fun x0 => (K (.ext 0) (z_i_areLeases_2_1 x0))))) from funext fun x0 => funext fun x5 => funext fun x6 => funext fun x7 => (q_i_areLeases_2 K m) x0 x5 x6 x7]; rfl))
theorem loopK_i_areLeases_2 : LoopOk E_i_areLeases (bodyOf F.i_areLeases 2) := by
  refine loopW_ok (n := 2) (F := W_i_areLeases_2) (by kernel_rfl) rfl (li := [0,5,6,7]) (lo := [0,2]) rfl (fun σ K r hr => ?_)
  unfold W_i_areLeases_2 at hr
  split at hr
  · rename_i d hd
    rw [Ss.un_mk hd]
    exact ⟨_, ((congrArg (fun z => rounds (run E_i_areLeases (bodyOf F.i_areLeases 2)) [0,5,6,7] [0,2] _ z K) (se_i_areLeases_2_0 _ _ _ _)).trans ((q_i_areLeases_2 K _) _ _ _ _)).trans hr⟩
  · cases hr
noncomputable def T_i_areLeases (l : List T_Lease) (K : Ret → Option Ret) : Option Ret := (R_i_areLeases_2_0 l l (((List.length l) : Nat) : Int) (0 : Int) (fun y0 y1 => K ((.s (.bool y1)), [])) (fun y2 => K ((.s (.bool (decide ((((List.length y2) : Nat) : Int) ≤ (12 : Int))))), [])))
theorem e_i_areLeases (l : List T_Lease) (K : Ret → Option Ret) : evF E_i_areLeases true F.i_areLeases [.l .no leaseR l] K = T_i_areLeases l K := by kernel_rfl
def S_i_areLeases : Sm := S_fnR [.l leaseR] (fun d => Nat.ble d.1.length 1048576) (fun d => (bl (leasesOkD d.1), []))
theorem v_i_areLeases (l : List T_Lease) (h : (Nat.ble l.length 1048576) = true) (K : Ret → Option Ret) : T_i_areLeases l K = K (bl (leasesOkD l), []) := by
  have hl := Nat.le_of_ble_eq_true h
  unfold T_i_areLeases leasesOkD
  have q := idx_allN (R := fun m i => Q_i_areLeases_2_0 m l l ((l.length : Nat) : Int) i (fun y0 y1 => K ((.s (.bool y1)), [])) (fun y2 => K ((.s (.bool (decide ((((List.length y2) : Nat) : Int) ≤ (12 : Int))))), []))) (p := leaseAtD l) (n := l.length) (kt := K ((.s (.bool (decide (((l.length : Nat) : Int) ≤ 12)))), [])) (kf := K ((.s (.bool false)), [])) (fun m i hi => by
      show P_i_areLeases_2_0 l l _ ((i : Nat) : Int) _ _ _ = _
      unfold P_i_areLeases_2_0 leaseAtD
      rw [decide_eq_true (show ((i : Nat) : Int) < ((l.length : Nat) : Int) by omega), decide_eq_true (show (0 : Int) ≤ ((i : Nat) : Int) by omega), Int.toNat_natCast, wrap_nat (by omega), show l.getD i leaseR.dflt = l.getD i zeroL from rfl]
      cases i with
      | zero =>
        rw [decide_eq_false (show ¬ ((0 : Nat) : Int) > 0 by omega)]
        cases leaseOkD (l.getD 0 zeroL) <;> rfl
      | succ i =>
        rw [wrap_in (n := ((i + 1 : Nat) : Int) - 1) (by omega) (by omega), decide_eq_true (show ((i + 1 : Nat) : Int) > 0 by omega), show ((i + 1 : Nat) : Int) - 1 = ((i : Nat) : Int) by omega, decide_eq_true (show (0 : Int) ≤ ((i : Nat) : Int) by omega), decide_eq_true (show ((i : Nat) : Int) < ((l.length : Nat) : Int) by omega), Int.toNat_natCast, show i + 1 - 1 = i from rfl, show l.getD i leaseR.dflt = l.getD i zeroL from rfl, cmpD_neg]
        cases leaseOkD (l.getD (i + 1) zeroL) <;> cases lessD (l.getD i zeroL) (l.getD (i + 1) zeroL) <;> rfl) (fun m => by
      show P_i_areLeases_2_0 l l _ ((l.length : Nat) : Int) _ _ _ = _
      unfold P_i_areLeases_2_0
      rw [decide_eq_false (show ¬ ((l.length : Nat) : Int) < ((l.length : Nat) : Int) by omega)]; rfl) (List.length l + List.length l + ((l.length : Nat) : Int).toNat + (0 : Int).toNat + 2) 0 (by omega) (by omega)
  refine Eq.trans q ?_
  rw [Nat.sub_zero]
  show (bif allN l.length (leaseAtD l) then _ else _) = _
  cases allN l.length (leaseAtD l) <;> cases decide (((l.length : Nat) : Int) ≤ 12) <;> rfl
theorem okS_i_areLeases : OkFn prog I N.i_areLeases true S_i_areLeases := okN (ok_fn (memc okS_i_isLease (memc okS_i_compareLeases mem0)) (l := [(N.i_isLease, true, S_i_isLease), (N.i_compareLeases, true, S_i_compareLeases)]) (p := [(4, takeB [0] (.fork (.one 1 (takeB [2, 3, 4, 5, 6, 7, 8, 9, 10, 11, 12] (.fork (.one 13 (takes [14, 15, 16])))))), [])]) (ls := [(2, [0,5,6,7], [0,2], W_i_areLeases_2)]) (lend := []) (focus := false) (fuel := 0) (give := []) (fn := F.i_areLeases) (by kernel_rfl) (by kernel_rfl) (by kernel_rfl) (by kernel_rfl) (cs := [bodyOf F.i_areLeases 2]) (by kernel_rfl) (loopsc loopK_i_areLeases_2 loops0)) (S_fnR_of fun d K h => (e_i_areLeases d.1 K).trans (v_i_areLeases d.1 h K))
end Go.Ev.Seat
end
section
/- i_Lease_isActive: its contract. -/
namespace Go.Ev.Seat
open Go.RowKit
set_option maxRecDepth 100000
set_option linter.unusedVariables false
set_option linter.unusedSimpArgs false
noncomputable abbrev E_i_Lease_isActive : Env := En [] [] [] [] false 0 []
noncomputable def T_i_Lease_isActive (l : T_Lease) (n : Int) (K : Ret → Option Ret) : Option Ret := K ((.s (.bool (decide (l.2.2.2 > n)))), [])
theorem e_i_Lease_isActive (l : T_Lease) (n : Int) (K : Ret → Option Ret) : evF E_i_Lease_isActive true F.i_Lease_isActive [.a (leaseR.cells .no l), .s (.int .i64 n)] K = T_i_Lease_isActive l n K := by kernel_rfl
def S_i_Lease_isActive : Sm := S_fnR [.a leaseR, .i] (fun d => true) (fun d => (bl (decide (d.1.2.2.2 > d.2.1)), []))
theorem v_i_Lease_isActive (l : T_Lease) (n : Int) (K : Ret → Option Ret) : T_i_Lease_isActive l n K = K (bl (decide (l.2.2.2 > n)), []) := rfl
theorem okS_i_Lease_isActive : OkFn prog I N.i_Lease_isActive true S_i_Lease_isActive := okN (ok_fn mem0 (l := []) (p := []) (ls := []) (lend := []) (focus := false) (fuel := 0) (give := []) (fn := F.i_Lease_isActive) (by kernel_rfl) (by kernel_rfl) (by kernel_rfl) (by kernel_rfl) (cs := []) (by kernel_rfl) loops0) (S_fnR_of fun d K h => (e_i_Lease_isActive d.1 d.2.1 K).trans (v_i_Lease_isActive d.1 d.2.1 K))
end Go.Ev.Seat
end
