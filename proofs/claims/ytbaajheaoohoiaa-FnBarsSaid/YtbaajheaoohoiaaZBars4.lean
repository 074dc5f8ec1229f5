/- Bars: parts FslicesIndexFuncLease FslicesContainsFuncLease FileaseBars FiLeaseBars Fsl02Small Fsl05Small Fsl06Place FsEditHits FsLeaseBars Flpick FlFnBars EvLBars EvKind EvOne, packed by squash.py. -/
import GoSem.ClaimWide
import Derived.Test.YtbaajheaoohoiaaZBars0
import Derived.Test.YtbaajheaoohoiaaZBars1
import Derived.Test.YtbaajheaoohoiaaZBars2
import Derived.Test.YtbaajheaoohoiaaZBars3
set_option linter.unusedVariables false
set_option linter.unusedSimpArgs false
section
/- slices_IndexFunc_Lease: its contract. -/
namespace Go.Ev.Seat
open Go.RowKit
set_option maxRecDepth 100000
set_option linter.unusedVariables false
set_option linter.unusedSimpArgs false
def z_slices_IndexFunc_Lease_2_0 (x4 : Int) : St := { tm := ([.x, .x, .x, .x, (.s (.int .i64 x4))] ++ List.replicate 14 .x), ob := [], nx := 0, io := [] }
def z_slices_IndexFunc_Lease_2_1 : St := { tm := ([] ++ List.replicate 19 .x), ob := [], nx := 0, io := [] }
def sh_slices_IndexFunc_Lease_2_0 : Ss := { tm := (.cons (.l .no leaseR) (.cons (.f 88 (.cons (.qb (.cons (.int .i64) .nil) 0) (.cons (.qb (.cons (.int .i64) .nil) 0) (.cons (.qb (.cons (.int .i64) (.cons (.int .i64) (.cons (.l .no bytesR) .nil))) 0) .nil)))) (.cons (.x) (.cons (.x) (.cons (.x) (.cons (.x) (.cons (.x) (.cons (.int .i64) (.cons (.int .i64) (xsh 10)))))))))), ob := .nil, nx := 0, io := .nil }
def d_slices_IndexFunc_Lease_2_0 (x0 : List T_Lease) (x100 : Int) (x110 : Int) (x120 : Int) (x121 : Int) (x122 : List Int) (x7 : Int) (x8 : Int) : sh_slices_IndexFunc_Lease_2_0.T := ((x0, (((x100, ()), ((x110, ()), ((x120, (x121, (x122, ()))), ()))), ((), ((), ((), ((), ((), (x7, (x8, xd 10))))))))), (), ())
def s_slices_IndexFunc_Lease_2_0 (x0 : List T_Lease) (x100 : Int) (x110 : Int) (x120 : Int) (x121 : Int) (x122 : List Int) (x7 : Int) (x8 : Int) : St := { tm := ([(.l .no leaseR x0), (.f 88 [(.qb [(.s (.int .i64 x100))] 0), (.qb [(.s (.int .i64 x110))] 0), (.qb [(.s (.int .i64 x120)), (.s (.int .i64 x121)), (.l .no bytesR x122)] 0)]), .x, .x, .x, .x, .x, (.s (.int .i64 x7)), (.s (.int .i64 x8))] ++ List.replicate 10 .x), ob := [], nx := 0, io := [] }
theorem se_slices_IndexFunc_Lease_2_0 (x0 : List T_Lease) (x100 : Int) (x110 : Int) (x120 : Int) (x121 : Int) (x122 : List Int) (x7 : Int) (x8 : Int) : sh_slices_IndexFunc_Lease_2_0.mk' (d_slices_IndexFunc_Lease_2_0 x0 x100 x110 x120 x121 x122 x7 x8) = (s_slices_IndexFunc_Lease_2_0 x0 x100 x110 x120 x121 x122 x7 x8) := by kernel_rfl
def w_slices_IndexFunc_Lease_2_0 (d : sh_slices_IndexFunc_Lease_2_0.T) (f : (List T_Lease) → Int → Int → Int → Int → (List Int) → Int → Int → Option Ret) : Option Ret := match d with | ((x0, (((x100, _), ((x110, _), ((x120, (x121, (x122, _))), _))), (_, (_, (_, (_, (_, (x7, (x8, _))))))))), _, _) => f x0 x100 x110 x120 x121 x122 x7 x8
noncomputable def P_slices_IndexFunc_Lease_2_0 (x0 : List T_Lease) (x100 : Int) (x110 : Int) (x120 : Int) (x121 : Int) (x122 : List Int) (x7 : Int) (x8 : Int) (nx0 : (List T_Lease) → Int → Int → Int → Int → (List Int) → Int → Int → Option Ret) (k0 : Int → Option Ret) (k1 : Option Ret) : Option Ret := (bif (decide (x8 < x7)) then (bif ((decide ((0 : Int) ≤ x8)) && (decide (x8 < (((List.length x0) : Nat) : Int)))) then (bif (barD x100 (x120, (x121, x122)) x110 (List.getD x0 (Int.toNat x8) (leaseR.dflt))) then (k0 x8) else (nx0 x0 x100 x110 x120 x121 x122 x7 (IntKind.wrap .i64 (x8 + (1 : Int))))) else none) else k1)
noncomputable def Q_slices_IndexFunc_Lease_2_0 : Nat → (List T_Lease) → Int → Int → Int → Int → (List Int) → Int → Int → (Int → Option Ret) → (Option Ret) → Option Ret
  | 0, _, _, _, _, _, _, _, _, _, _ => none
  | m + 1, x0, x100, x110, x120, x121, x122, x7, x8, k0, k1 => P_slices_IndexFunc_Lease_2_0 x0 x100 x110 x120 x121 x122 x7 x8 (fun x0 x100 x110 x120 x121 x122 x7 x8 => (Q_slices_IndexFunc_Lease_2_0 m x0 x100 x110 x120 x121 x122 x7 x8 k0 k1)) k0 k1
noncomputable def R_slices_IndexFunc_Lease_2_0 (x0 : List T_Lease) (x100 : Int) (x110 : Int) (x120 : Int) (x121 : Int) (x122 : List Int) (x7 : Int) (x8 : Int) (k0 : Int → Option Ret) (k1 : Option Ret) : Option Ret := Q_slices_IndexFunc_Lease_2_0 (List.length x0 + x100.toNat + x110.toNat + x120.toNat + x121.toNat + List.length x122 + x7.toNat + x8.toNat + 2) x0 x100 x110 x120 x121 x122 x7 x8 k0 k1
noncomputable def W_slices_IndexFunc_Lease_2 : LoopFn := (fun (σ : St) (K : Ex → St → Option Ret) => (match sh_slices_IndexFunc_Lease_2_0.un σ with | some d => w_slices_IndexFunc_Lease_2_0 d (fun x0 x100 x110 x120 x121 x122 x7 x8 => R_slices_IndexFunc_Lease_2_0 x0 x100 x110 x120 x121 x122 x7 x8 (fun x4 => (K .ret (z_slices_IndexFunc_Lease_2_0 x4))) (K (.ext 0) z_slices_IndexFunc_Lease_2_1)) | none => none))
noncomputable abbrev ls_slices_IndexFunc_Lease : List (Nat × Bool × Sm) := [(N.i_leaseBars_1, true, S_i_leaseBars_1)]
noncomputable abbrev E_slices_IndexFunc_Lease : Env := En ls_slices_IndexFunc_Lease [] [(2, [0,1,7,8], [4], W_slices_IndexFunc_Lease_2)] [] false 0 []
noncomputable abbrev U_slices_IndexFunc_Lease_2 := rounds (run E_slices_IndexFunc_Lease (bodyOf F.slices_IndexFunc_Lease 2)) [0,1,7,8] [4]
theorem st_slices_IndexFunc_Lease_2_0 (m : Nat) (x0 : List T_Lease) (x100 : Int) (x110 : Int) (x120 : Int) (x121 : Int) (x122 : List Int) (x7 : Int) (x8 : Int) (K : Ex → St → Option Ret) : U_slices_IndexFunc_Lease_2 (m + 1) (s_slices_IndexFunc_Lease_2_0 x0 x100 x110 x120 x121 x122 x7 x8) K = P_slices_IndexFunc_Lease_2_0 x0 x100 x110 x120 x121 x122 x7 x8 (fun x0 x100 x110 x120 x121 x122 x7 x8 => (U_slices_IndexFunc_Lease_2 m (s_slices_IndexFunc_Lease_2_0 x0 x100 x110 x120 x121 x122 x7 x8) K)) (fun x4 => (K .ret (z_slices_IndexFunc_Lease_2_0 x4))) (K (.ext 0) z_slices_IndexFunc_Lease_2_1) := by kernel_rfl
theorem q_slices_IndexFunc_Lease_2 (K : Ex → St → Option Ret) : ∀ m : Nat, (∀ (x0 : List T_Lease) (x100 : Int) (x110 : Int) (x120 : Int) (x121 : Int) (x122 : List Int) (x7 : Int) (x8 : Int), U_slices_IndexFunc_Lease_2 m (s_slices_IndexFunc_Lease_2_0 x0 x100 x110 x120 x121 x122 x7 x8) K = Q_slices_IndexFunc_Lease_2_0 m x0 x100 x110 x120 x121 x122 x7 x8 (fun x4 => (K .ret (z_slices_IndexFunc_Lease_2_0 x4))) (K (.ext 0) z_slices_IndexFunc_Lease_2_1))
  | 0 => (fun _ _ _ _ _ _ _ _ => rfl)
  | m + 1 => (fun x0 x100 x110 x120 x121 x122 x7 x8 => (by rw [st_slices_IndexFunc_Lease_2_0, show (fun x0 x100 x110 x120 x121 x122 x7 x8 => (U_slices_IndexFunc_Lease_2 m (s_slices_IndexFunc_Lease_2_0 x0 x100 x110 x120 x121 x122 x7 x8) K)) = (fun x0 x100 x110 x120 x121 x122 x7 x8 => (Q_slices_IndexFunc_Lease_2_0 m x0 x100 x110 x120 x121 x122 x7 x8 (fun x4 => (K .ret (z_slices_IndexFunc_Lease_2_0 x4))) (K (.ext 0) z_slices_IndexFunc_Lease_2_1))) from funext fun x0 => funext fun x100 => funext fun x110 => funext fun x120 => funext fun x121 => funext fun x122 => funext fun x7 => funext fun x8 => (q_slices_IndexFunc_Lease_2 K m) x0 x100 x110 x120 x121 x122 x7 x8]; rfl))
theorem loopK_slices_IndexFunc_Lease_2 : LoopOk E_slices_IndexFunc_Lease (bodyOf F.slices_IndexFunc_Lease 2) := by
  refine loopW_ok (n := 2) (F := W_slices_IndexFunc_Lease_2) (by kernel_rfl) rfl (li := [0,1,7,8]) (lo := [4]) rfl (fun σ K r hr => ?_)
  unfold W_slices_IndexFunc_Lease_2 at hr
  split at hr
  · rename_i d hd
    rw [Ss.un_mk hd]
    exact ⟨_, ((congrArg (fun z => U_slices_IndexFunc_Lease_2 _ z K) (se_slices_IndexFunc_Lease_2_0 _ _ _ _ _ _ _ _)).trans ((q_slices_IndexFunc_Lease_2 K _) _ _ _ _ _ _ _ _)).trans hr⟩
  · cases hr
noncomputable def T_slices_IndexFunc_Lease (l : List T_Lease) (s : Int) (n : Int) (e0 : Int) (e1 : Int) (e2 : List Int) (K : Ret → Option Ret) : Option Ret := (R_slices_IndexFunc_Lease_2_0 l s n e0 e1 e2 (((List.length l) : Nat) : Int) (0 : Int) (fun y0 => K ((.s (.int .i64 y0)), [])) (K ((.s (.int .i64 (-(1 : Int)))), [])))
theorem e_slices_IndexFunc_Lease (l : List T_Lease) (s : Int) (n : Int) (e0 : Int) (e1 : Int) (e2 : List Int) (K : Ret → Option Ret) : evF E_slices_IndexFunc_Lease true F.slices_IndexFunc_Lease [.l .no leaseR l, .f N.i_leaseBars_1 [.qb [.s (.int .i64 s)] 0, .qb [.s (.int .i64 n)] 0, .qb [.s (.int .i64 e0), .s (.int .i64 e1), .l .no bytesR e2] 0]] K = T_slices_IndexFunc_Lease l s n e0 e1 e2 K := by kernel_rfl
def S_slices_IndexFunc_Lease : Sm := S_fnR [.l leaseR, .sh (.f N.i_leaseBars_1 (.cons (.qb (.cons (.int .i64) .nil) 0) (.cons (.qb (.cons (.int .i64) .nil) 0) (.cons (.qb (.cons (.int .i64) (.cons (.int .i64) (.cons (.l .no bytesR) .nil))) 0) .nil))))] (fun d => Nat.ble d.1.length 1048576) (fun d => (.s (.int .i64 (idxF (fun x => barD d.2.1.1.1 (d.2.1.2.2.1.1, (d.2.1.2.2.1.2.1, d.2.1.2.2.1.2.2.1)) d.2.1.2.1.1 x) d.1)), []))
theorem v_slices_IndexFunc_Lease (l : List T_Lease) (s : Int) (n : Int) (e0 : Int) (e1 : Int) (e2 : List Int) (h : (Nat.ble l.length 1048576) = true) (K : Ret → Option Ret) : T_slices_IndexFunc_Lease l s n e0 e1 e2 K = K (.s (.int .i64 (idxF (fun x => barD s (e0, (e1, e2)) n x) l)), []) := by
  have hl := Nat.le_of_ble_eq_true h
  unfold T_slices_IndexFunc_Lease
  refine Eq.trans (idx_find (R := fun m i => Q_slices_IndexFunc_Lease_2_0 m l s n e0 e1 e2 ((l.length : Nat) : Int) i (fun y0 => K ((.s (.int .i64 y0)), [])) (K ((.s (.int .i64 (-(1 : Int)))), []))) (p := fun x => barD s (e0, (e1, e2)) n x) (xs := l) (z := (leaseR).dflt) (kf := fun y0 => K ((.s (.int .i64 y0)), [])) (kt := K ((.s (.int .i64 (-(1 : Int)))), [])) (fun m i hi => by
    show P_slices_IndexFunc_Lease_2_0 l s n e0 e1 e2 _ ((i : Nat) : Int) _ _ _ = _
    unfold P_slices_IndexFunc_Lease_2_0
    rw [decide_eq_true (show ((i : Nat) : Int) < ((l.length : Nat) : Int) by omega), decide_eq_true (show (0 : Int) ≤ ((i : Nat) : Int) by omega), Int.toNat_natCast, wrap_nat (by omega)]
    rfl) (fun m => by
    show P_slices_IndexFunc_Lease_2_0 l s n e0 e1 e2 _ ((l.length : Nat) : Int) _ _ _ = _
    unfold P_slices_IndexFunc_Lease_2_0
    rw [decide_eq_false (show ¬ ((l.length : Nat) : Int) < ((l.length : Nat) : Int) by omega)]; rfl) _ 0 (by omega) (by omega)) ?_
  rw [List.drop_zero]
  unfold idxF
  cases l.findIdx? (fun x => barD s (e0, (e1, e2)) n x) with
  | none => rfl
  | some j => show K (.s (.int .i64 ((0 + j : Nat) : Int)), []) = _; rw [Nat.zero_add]
theorem okS_slices_IndexFunc_Lease : OkFn prog I N.slices_IndexFunc_Lease true S_slices_IndexFunc_Lease := okN (ok_fn (memc okS_i_leaseBars_1 mem0) (l := ls_slices_IndexFunc_Lease) (p := []) (ls := [(2, [0,1,7,8], [4], W_slices_IndexFunc_Lease_2)]) (lend := []) (focus := false) (fuel := 0) (give := []) (fn := F.slices_IndexFunc_Lease) (by kernel_rfl) (by kernel_rfl) (by kernel_rfl) (by kernel_rfl) (cs := [bodyOf F.slices_IndexFunc_Lease 2]) (by kernel_rfl) (loopsc loopK_slices_IndexFunc_Lease_2 loops0)) (S_fnR_of fun d K h => (e_slices_IndexFunc_Lease d.1 d.2.1.1.1 d.2.1.2.1.1 d.2.1.2.2.1.1 d.2.1.2.2.1.2.1 d.2.1.2.2.1.2.2.1 K).trans (v_slices_IndexFunc_Lease d.1 d.2.1.1.1 d.2.1.2.1.1 d.2.1.2.2.1.1 d.2.1.2.2.1.2.1 d.2.1.2.2.1.2.2.1 h K))
end Go.Ev.Seat
end
section
/- slices_ContainsFunc_Lease: its contract. -/
namespace Go.Ev.Seat
open Go.RowKit
set_option maxRecDepth 100000
set_option linter.unusedVariables false
set_option linter.unusedSimpArgs false
noncomputable abbrev ls_slices_ContainsFunc_Lease : List (Nat × Bool × Sm) := [(N.slices_IndexFunc_Lease, true, S_slices_IndexFunc_Lease)]
noncomputable abbrev E_slices_ContainsFunc_Lease : Env := En ls_slices_ContainsFunc_Lease [] [] [] false 0 []
noncomputable def T_slices_ContainsFunc_Lease (l : List T_Lease) (s : Int) (n : Int) (e0 : Int) (e1 : Int) (e2 : List Int) (K : Ret → Option Ret) : Option Ret := (bif (Nat.ble (List.length l) 1048576) then K ((.s (.bool (decide ((idxF (fun x => (barD s (e0, (e1, e2)) n x)) l) ≥ (0 : Int))))), []) else none)
theorem e_slices_ContainsFunc_Lease (l : List T_Lease) (s : Int) (n : Int) (e0 : Int) (e1 : Int) (e2 : List Int) (K : Ret → Option Ret) : evF E_slices_ContainsFunc_Lease true F.slices_ContainsFunc_Lease [.l .no leaseR l, .f N.i_leaseBars_1 [.qb [.s (.int .i64 s)] 0, .qb [.s (.int .i64 n)] 0, .qb [.s (.int .i64 e0), .s (.int .i64 e1), .l .no bytesR e2] 0]] K = T_slices_ContainsFunc_Lease l s n e0 e1 e2 K := by kernel_rfl
def S_slices_ContainsFunc_Lease : Sm := S_fnR [.l leaseR, .sh (.f N.i_leaseBars_1 (.cons (.qb (.cons (.int .i64) .nil) 0) (.cons (.qb (.cons (.int .i64) .nil) 0) (.cons (.qb (.cons (.int .i64) (.cons (.int .i64) (.cons (.l .no bytesR) .nil))) 0) .nil))))] (fun d => Nat.ble d.1.length 1048576) (fun d => (bl (d.1.any (fun x => barD d.2.1.1.1 (d.2.1.2.2.1.1, (d.2.1.2.2.1.2.1, d.2.1.2.2.1.2.2.1)) d.2.1.2.1.1 x)), []))
theorem v_slices_ContainsFunc_Lease (l : List T_Lease) (s : Int) (n : Int) (e0 : Int) (e1 : Int) (e2 : List Int) (h : (Nat.ble l.length 1048576) = true) (K : Ret → Option Ret) : T_slices_ContainsFunc_Lease l s n e0 e1 e2 K = K (bl (l.any (fun x => barD s (e0, (e1, e2)) n x)), []) := by
  unfold T_slices_ContainsFunc_Lease
  first | rw [h] | skip
  rw [← idxF_any]; rfl
theorem okS_slices_ContainsFunc_Lease : OkFn prog I N.slices_ContainsFunc_Lease true S_slices_ContainsFunc_Lease := okN (ok_fn (memc okS_slices_IndexFunc_Lease mem0) (l := ls_slices_ContainsFunc_Lease) (p := []) (ls := []) (lend := []) (focus := false) (fuel := 0) (give := []) (fn := F.slices_ContainsFunc_Lease) (by kernel_rfl) (by kernel_rfl) (by kernel_rfl) (by kernel_rfl) (cs := []) (by kernel_rfl) loops0) (S_fnR_of fun d K h => (e_slices_ContainsFunc_Lease d.1 d.2.1.1.1 d.2.1.2.1.1 d.2.1.2.2.1.1 d.2.1.2.2.1.2.1 d.2.1.2.2.1.2.2.1 K).trans (v_slices_ContainsFunc_Lease d.1 d.2.1.1.1 d.2.1.2.1.1 d.2.1.2.2.1.1 d.2.1.2.2.1.2.1 d.2.1.2.2.1.2.2.1 h K))
end Go.Ev.Seat
end
section
/- i_leaseBars: its contract. -/
namespace Go.Ev.Seat
open Go.RowKit
set_option maxRecDepth 100000
set_option linter.unusedVariables false
set_option linter.unusedSimpArgs false
noncomputable abbrev ls_i_leaseBars : List (Nat × Bool × Sm) := [(N.slices_ContainsFunc_Lease, true, S_slices_ContainsFunc_Lease)]
noncomputable abbrev E_i_leaseBars : Env := En ls_i_leaseBars [] [] [] false 0 []
noncomputable def T_i_leaseBars (l : List T_Lease) (s : Int) (e : T_Edit) (n : Int) (K : Ret → Option Ret) : Option Ret := (bif (Nat.ble (List.length l) 1048576) then K ((.s (.bool (List.any l (fun x => (barD s e n x))))), []) else none)
theorem e_i_leaseBars (l : List T_Lease) (s : Int) (e : T_Edit) (n : Int) (K : Ret → Option Ret) : evF E_i_leaseBars true F.i_leaseBars [.l .no leaseR l, .s (.int .i64 s), .a (editR.cells .no e), .s (.int .i64 n)] K = T_i_leaseBars l s e n K := by kernel_rfl
def S_i_leaseBars : Sm := S_fnR [.l leaseR, .i, .a editR, .i] (fun d => Nat.ble d.1.length 1048576) (fun d => (bl (d.1.any (barD d.2.1 d.2.2.1 d.2.2.2.1)), []))
theorem v_i_leaseBars (l : List T_Lease) (s : Int) (e : T_Edit) (n : Int) (h : (Nat.ble l.length 1048576) = true) (K : Ret → Option Ret) : T_i_leaseBars l s e n K = K (bl (l.any (barD s e n)), []) := by
  unfold T_i_leaseBars
  rw [h]; rfl
theorem okS_i_leaseBars : OkFn prog I N.i_leaseBars true S_i_leaseBars := okN (ok_fn (memc okS_slices_ContainsFunc_Lease mem0) (l := ls_i_leaseBars) (p := []) (ls := []) (lend := []) (focus := false) (fuel := 0) (give := []) (fn := F.i_leaseBars) (by kernel_rfl) (by kernel_rfl) (by kernel_rfl) (by kernel_rfl) (cs := []) (by kernel_rfl) loops0) (S_fnR_of fun d K h => (e_i_leaseBars d.1 d.2.1 d.2.2.1 d.2.2.2.1 K).trans (v_i_leaseBars d.1 d.2.1 d.2.2.1 d.2.2.2.1 h K))
end Go.Ev.Seat
end
section
/- i_LeaseBars: its contract. -/
namespace Go.Ev.Seat
open Go.RowKit
set_option maxRecDepth 100000
set_option linter.unusedVariables false
set_option linter.unusedSimpArgs false
noncomputable abbrev ls_i_LeaseBars : List (Nat × Bool × Sm) := [(N.i_areLeases, true, S_i_areLeases), (N.i_leaseBars, true, S_i_leaseBars)]
noncomputable abbrev E_i_LeaseBars : Env := En ls_i_LeaseBars [] [] [] false 0 []
noncomputable def T_i_LeaseBars (l : List T_Lease) (s : Int) (e : T_Edit) (n : Int) (K : Ret → Option Ret) : Option Ret := (bif (Nat.ble (List.length l) 1048576) then (bif (leasesOkD l) then (bif (Nat.ble (List.length l) 1048576) then K ((.s (.bool (List.any l (barD s e n)))), []) else none) else K ((.s (.bool false)), [])) else none)
theorem e_i_LeaseBars (l : List T_Lease) (s : Int) (e : T_Edit) (n : Int) (K : Ret → Option Ret) : evF E_i_LeaseBars true F.i_LeaseBars [.l .no leaseR l, .s (.int .i64 s), .a (editR.cells .no e), .s (.int .i64 n)] K = T_i_LeaseBars l s e n K := by kernel_rfl
def S_i_LeaseBars : Sm := S_fnR [.l leaseR, .i, .a editR, .i] (fun d => Nat.ble d.1.length 1048576) (fun d => (bl (barsD d.1 d.2.1 d.2.2.1 d.2.2.2.1), []))
theorem v_i_LeaseBars (l : List T_Lease) (s : Int) (e : T_Edit) (n : Int) (h : (Nat.ble l.length 1048576) = true) (K : Ret → Option Ret) : T_i_LeaseBars l s e n K = K (bl (barsD l s e n), []) := by
  unfold T_i_LeaseBars barsD
  rw [h]
  cases leasesOkD l <;> rfl
theorem okS_i_LeaseBars : OkFn prog I N.i_LeaseBars true S_i_LeaseBars := okN (ok_fn (memc okS_i_areLeases (memc okS_i_leaseBars mem0)) (l := ls_i_LeaseBars) (p := []) (ls := []) (lend := []) (focus := false) (fuel := 0) (give := []) (fn := F.i_LeaseBars) (by kernel_rfl) (by kernel_rfl) (by kernel_rfl) (by kernel_rfl) (cs := []) (by kernel_rfl) loops0) (S_fnR_of fun d K h => (e_i_LeaseBars d.1 d.2.1 d.2.2.1 d.2.2.2.1 K).trans (v_i_LeaseBars d.1 d.2.1 d.2.2.1 d.2.2.2.1 h K))
end Go.Ev.Seat
end
section
/- s_l02Small: its contract. -/
namespace Go.Ev.Seat
open Go.RowKit
set_option maxRecDepth 100000
set_option linter.unusedVariables false
set_option linter.unusedSimpArgs false
noncomputable abbrev E_s_l02Small : Env := En [] [] [] [] false 0 []
noncomputable def T_s_l02Small (n : Int) (K : Ret → Option Ret) : Option Ret := (bif (decide (n ≥ (0 : Int))) then K ((.s (.bool (decide (n ≤ (400 : Int))))), []) else K ((.s (.bool false)), []))
theorem e_s_l02Small (n : Int) (K : Ret → Option Ret) : evF E_s_l02Small true F.s_l02Small [.s (.int .i64 n)] K = T_s_l02Small n K := by kernel_rfl
def S_s_l02Small : Sm := S_fnR [.i] (fun d => true) (fun d => (bl (in400 d.1), []))
theorem v_s_l02Small (n : Int) (K : Ret → Option Ret) : T_s_l02Small n K = K (bl (in400 n), []) := by
  unfold T_s_l02Small in400
  rw [show decide (n ≥ 0) = decide (0 ≤ n) from rfl]
  cases decide (0 ≤ n) <;> rfl
theorem okS_s_l02Small : OkFn prog I N.s_l02Small true S_s_l02Small := okN (ok_fn mem0 (l := []) (p := []) (ls := []) (lend := []) (focus := false) (fuel := 0) (give := []) (fn := F.s_l02Small) (by kernel_rfl) (by kernel_rfl) (by kernel_rfl) (by kernel_rfl) (cs := []) (by kernel_rfl) loops0) (S_fnR_of fun d K h => (e_s_l02Small d.1 K).trans (v_s_l02Small d.1 K))
end Go.Ev.Seat
end
section
/- s_l05Small: its contract. -/
namespace Go.Ev.Seat
open Go.RowKit
set_option maxRecDepth 100000
set_option linter.unusedVariables false
set_option linter.unusedSimpArgs false
noncomputable abbrev ls_s_l05Small : List (Nat × Bool × Sm) := [(N.s_l02Small, true, S_s_l02Small)]
noncomputable abbrev E_s_l05Small : Env := En ls_s_l05Small [] [] [] false 0 []
noncomputable def T_s_l05Small (e : T_Edit) (K : Ret → Option Ret) : Option Ret := (bif (in400 e.1) then (bif (in400 e.2.1) then K ((.s (.bool (decide ((((List.length e.2.2) : Nat) : Int) ≤ (400 : Int))))), []) else K ((.s (.bool false)), [])) else K ((.s (.bool false)), []))
theorem e_s_l05Small (e : T_Edit) (K : Ret → Option Ret) : evF E_s_l05Small true F.s_l05Small [.a (editR.cells .no e)] K = T_s_l05Small e K := by kernel_rfl
def S_s_l05Small : Sm := S_fnR [.a editR] (fun d => true) (fun d => (bl (smallE d.1), []))
theorem v_s_l05Small (e : T_Edit) (K : Ret → Option Ret) : T_s_l05Small e K = K (bl (smallE e), []) := by
  unfold T_s_l05Small smallE
  cases in400 e.1 <;> cases in400 e.2.1 <;> rfl
theorem okS_s_l05Small : OkFn prog I N.s_l05Small true S_s_l05Small := okN (ok_fn (memc okS_s_l02Small mem0) (l := ls_s_l05Small) (p := []) (ls := []) (lend := []) (focus := false) (fuel := 0) (give := []) (fn := F.s_l05Small) (by kernel_rfl) (by kernel_rfl) (by kernel_rfl) (by kernel_rfl) (cs := []) (by kernel_rfl) loops0) (S_fnR_of fun d K h => (e_s_l05Small d.1 K).trans (v_s_l05Small d.1 K))
end Go.Ev.Seat
end
section
/- s_l06Place: its contract. -/
namespace Go.Ev.Seat
open Go.RowKit
set_option maxRecDepth 100000
set_option linter.unusedVariables false
set_option linter.unusedSimpArgs false
noncomputable abbrev E_s_l06Place : Env := En [] [] [] [] false 0 []
noncomputable def T_s_l06Place (p : Int) (K : Ret → Option Ret) : Option Ret := (bif (decide (p ≥ (0 : Int))) then K ((.s (.bool (decide (p ≤ (800 : Int))))), []) else K ((.s (.bool false)), []))
theorem e_s_l06Place (p : Int) (K : Ret → Option Ret) : evF E_s_l06Place true F.s_l06Place [.s (.int .i64 p)] K = T_s_l06Place p K := by kernel_rfl
def S_s_l06Place : Sm := S_fnR [.i] (fun d => true) (fun d => (bl (placeB d.1), []))
theorem v_s_l06Place (p : Int) (K : Ret → Option Ret) : T_s_l06Place p K = K (bl (placeB p), []) := by
  unfold T_s_l06Place placeB
  rw [show decide (p ≥ 0) = decide (0 ≤ p) from rfl]
  cases decide (0 ≤ p) <;> rfl
theorem okS_s_l06Place : OkFn prog I N.s_l06Place true S_s_l06Place := okN (ok_fn mem0 (l := []) (p := []) (ls := []) (lend := []) (focus := false) (fuel := 0) (give := []) (fn := F.s_l06Place) (by kernel_rfl) (by kernel_rfl) (by kernel_rfl) (by kernel_rfl) (cs := []) (by kernel_rfl) loops0) (S_fnR_of fun d K h => (e_s_l06Place d.1 K).trans (v_s_l06Place d.1 K))
end Go.Ev.Seat
end
section
/- s_EditHits: its contract. -/
namespace Go.Ev.Seat
open Go.RowKit
set_option maxRecDepth 100000
set_option linter.unusedVariables false
set_option linter.unusedSimpArgs false
noncomputable abbrev ls_s_EditHits : List (Nat × Bool × Sm) := [(N.s_l05Small, true, S_s_l05Small), (N.s_l06Place, true, S_s_l06Place)]
noncomputable abbrev E_s_EditHits : Env := En ls_s_EditHits [] [] [] false 0 []
noncomputable def T_s_EditHits (e : T_Edit) (i : Int) (j : Int) (K : Ret → Option Ret) : Option Ret := (bif (!(smallE e)) then K ((.s (.bool false)), []) else (bif (!(placeB i)) then K ((.s (.bool false)), []) else (bif (!(placeB j)) then K ((.s (.bool false)), []) else (bif (decide (j ≤ i)) then K ((.s (.bool false)), []) else (bif (e.2.1 == (0 : Int)) then (bif (decide (e.1 > i)) then K ((.s (.bool (decide (e.1 < j)))), []) else K ((.s (.bool false)), [])) else (bif (decide (e.1 < j)) then K ((.s (.bool (decide ((IntKind.wrap .i64 (e.1 + e.2.1)) > i)))), []) else K ((.s (.bool false)), [])))))))
theorem e_s_EditHits (e : T_Edit) (i : Int) (j : Int) (K : Ret → Option Ret) : evF E_s_EditHits true F.s_EditHits [.a (editR.cells .no e), .s (.int .i64 i), .s (.int .i64 j)] K = T_s_EditHits e i j K := by kernel_rfl
def S_s_EditHits : Sm := S_fnR [.a editR, .i, .i] (fun d => true) (fun d => (bl (hitsD d.1 d.2.1 d.2.2.1), []))
theorem v_s_EditHits (e : T_Edit) (i : Int) (j : Int) (K : Ret → Option Ret) : T_s_EditHits e i j K = K (bl (hitsD e i j), []) := by
  unfold T_s_EditHits hitsD hitE
  cases hs : smallE e with
  | false => rfl
  | true =>
  cases placeB i
  · rfl
  cases placeB j
  · rfl
  have h := smallE_iff.1 hs
  rw [wrap_in (n := e.1 + e.2.1) (by omega) (by omega)]
  by_cases hij : i < j
  · rw [decide_eq_true hij, decide_eq_false (show ¬ j ≤ i by omega)]
    cases (e.2.1 == 0)
    · cases decide (e.1 < j) <;> rfl
    · cases decide (e.1 > i) <;> rfl
  · rw [decide_eq_false hij, decide_eq_true (show j ≤ i by omega)]; rfl
theorem okS_s_EditHits : OkFn prog I N.s_EditHits true S_s_EditHits := okN (ok_fn (memc okS_s_l05Small (memc okS_s_l06Place mem0)) (l := ls_s_EditHits) (p := []) (ls := []) (lend := []) (focus := false) (fuel := 0) (give := []) (fn := F.s_EditHits) (by kernel_rfl) (by kernel_rfl) (by kernel_rfl) (by kernel_rfl) (cs := []) (by kernel_rfl) loops0) (S_fnR_of fun d K h => (e_s_EditHits d.1 d.2.1 d.2.2.1 K).trans (v_s_EditHits d.1 d.2.1 d.2.2.1 K))
end Go.Ev.Seat
end
section
/- s_LeaseBars: its contract. -/
namespace Go.Ev.Seat
open Go.RowKit
set_option maxRecDepth 100000
set_option linter.unusedVariables false
set_option linter.unusedSimpArgs false
def z_s_LeaseBars_2_0 (x8 : Bool) : St := { tm := ([.x, .x, .x, .x, .x, .x, .x, .x, (.s (.bool x8))] ++ List.replicate 41 .x), ob := [], nx := 0, io := [] }
def z_s_LeaseBars_2_1 : St := { tm := ([] ++ List.replicate 50 .x), ob := [], nx := 0, io := [] }
def sh_s_LeaseBars_2_0 : Ss := { tm := (.cons (.l .no leaseR) (.cons (.int .i64) (.cons (.x) (.cons (.int .i64) (.cons (.x) (.cons (.x) (.cons (.pb 0 0) (.cons (.x) (.cons (.x) (.cons (.int .i64) (xsh 40))))))))))), ob := (.box (.cons (.int .i64) (.cons (.int .i64) (.cons (.l .no bytesR) .nil))) .nil), nx := 1, io := .nil }
def d_s_LeaseBars_2_0 (x0 : List T_Lease) (x1 : Int) (x3 : Int) (x9 : Int) (b00 : Int) (b01 : Int) (b02 : List Int) : sh_s_LeaseBars_2_0.T := ((x0, (x1, ((), (x3, ((), ((), ((), ((), ((), (x9, xd 40)))))))))), ((b00, (b01, (b02, ()))), ()), ())
def s_s_LeaseBars_2_0 (x0 : List T_Lease) (x1 : Int) (x3 : Int) (x9 : Int) (b00 : Int) (b01 : Int) (b02 : List Int) : St := { tm := ([(.l .no leaseR x0), (.s (.int .i64 x1)), .x, (.s (.int .i64 x3)), .x, .x, (.pb 0 0), .x, .x, (.s (.int .i64 x9))] ++ List.replicate 40 .x), ob := [(0, (.box [(.s (.int .i64 b00)), (.s (.int .i64 b01)), (.l .no bytesR b02)]))], nx := 1, io := [] }
theorem se_s_LeaseBars_2_0 (x0 : List T_Lease) (x1 : Int) (x3 : Int) (x9 : Int) (b00 : Int) (b01 : Int) (b02 : List Int) : sh_s_LeaseBars_2_0.mk' (d_s_LeaseBars_2_0 x0 x1 x3 x9 b00 b01 b02) = (s_s_LeaseBars_2_0 x0 x1 x3 x9 b00 b01 b02) := by kernel_rfl
def w_s_LeaseBars_2_0 (d : sh_s_LeaseBars_2_0.T) (f : (List T_Lease) → Int → Int → Int → Int → Int → (List Int) → Option Ret) : Option Ret := match d with | ((x0, (x1, (_, (x3, (_, (_, (_, (_, (_, (x9, _)))))))))), ((b00, (b01, (b02, _))), _), _) => f x0 x1 x3 x9 b00 b01 b02
noncomputable def P_s_LeaseBars_2_0 (x0 : List T_Lease) (x1 : Int) (x3 : Int) (x9 : Int) (b00 : Int) (b01 : Int) (b02 : List Int) (nx0 : (List T_Lease) → Int → Int → Int → Int → Int → (List Int) → Option Ret) (k0 : Bool → Option Ret) (k1 : Option Ret) : Option Ret := (bif (Nat.ble (List.length x0) 1048576) then (bif (leasesOkD x0) then (bif (decide (x9 < (((List.length x0) : Nat) : Int))) then (bif ((decide ((0 : Int) ≤ x9)) && (decide (x9 < (((List.length x0) : Nat) : Int)))) then (bif ((List.getD x0 (Int.toNat x9) (leaseR.dflt)).2.2.1 != x1) then (bif ((decide ((0 : Int) ≤ x9)) && (decide (x9 < (((List.length x0) : Nat) : Int)))) then (bif (decide ((List.getD x0 (Int.toNat x9) (leaseR.dflt)).2.2.2 > x3)) then (bif ((decide ((0 : Int) ≤ x9)) && (decide (x9 < (((List.length x0) : Nat) : Int)))) then (bif ((decide ((0 : Int) ≤ x9)) && (decide (x9 < (((List.length x0) : Nat) : Int)))) then (bif (hitsD (b00, (b01, b02)) (List.getD x0 (Int.toNat x9) (leaseR.dflt)).1 (List.getD x0 (Int.toNat x9) (leaseR.dflt)).2.1) then (k0 true) else (nx0 x0 x1 x3 (IntKind.wrap .i64 (x9 + (1 : Int))) b00 b01 b02)) else none) else none) else (nx0 x0 x1 x3 (IntKind.wrap .i64 (x9 + (1 : Int))) b00 b01 b02)) else none) else (nx0 x0 x1 x3 (IntKind.wrap .i64 (x9 + (1 : Int))) b00 b01 b02)) else none) else k1) else k1) else none)
noncomputable def Q_s_LeaseBars_2_0 : Nat → (List T_Lease) → Int → Int → Int → Int → Int → (List Int) → (Bool → Option Ret) → (Option Ret) → Option Ret
  | 0, _, _, _, _, _, _, _, _, _ => none
  | m + 1, x0, x1, x3, x9, b00, b01, b02, k0, k1 => P_s_LeaseBars_2_0 x0 x1 x3 x9 b00 b01 b02 (fun x0 x1 x3 x9 b00 b01 b02 => (Q_s_LeaseBars_2_0 m x0 x1 x3 x9 b00 b01 b02 k0 k1)) k0 k1
noncomputable def R_s_LeaseBars_2_0 (x0 : List T_Lease) (x1 : Int) (x3 : Int) (x9 : Int) (b00 : Int) (b01 : Int) (b02 : List Int) (k0 : Bool → Option Ret) (k1 : Option Ret) : Option Ret := Q_s_LeaseBars_2_0 (List.length x0 + x1.toNat + x3.toNat + x9.toNat + b00.toNat + b01.toNat + List.length b02 + 2) x0 x1 x3 x9 b00 b01 b02 k0 k1
noncomputable def W_s_LeaseBars_2 : LoopFn := (fun (σ : St) (K : Ex → St → Option Ret) => (match sh_s_LeaseBars_2_0.un σ with | some d => w_s_LeaseBars_2_0 d (fun x0 x1 x3 x9 b00 b01 b02 => R_s_LeaseBars_2_0 x0 x1 x3 x9 b00 b01 b02 (fun x8 => (K .ret (z_s_LeaseBars_2_0 x8))) (K (.ext 0) z_s_LeaseBars_2_1)) | none => none))
noncomputable abbrev pl_s_LeaseBars : List (Nat × Plan × List Nat) := [(4, takeB [0, 1, 2, 3, 4, 5, 6, 7, 8, 9, 10, 11, 12, 13, 14, 15, 16, 17, 18, 19, 20, 21, 22, 23, 24, 25, 26, 27] (.fork (.one 28 (takes [29]))), [])]
noncomputable abbrev ls_s_LeaseBars : List (Nat × Bool × Sm) := [(N.s_LeasesOk, true, S_s_LeasesOk), (N.s_EditHits, true, S_s_EditHits)]
noncomputable abbrev E_s_LeaseBars : Env := En ls_s_LeaseBars pl_s_LeaseBars [(2, [0,1,3,6,9], [8], W_s_LeaseBars_2)] [] false 0 []
noncomputable abbrev U_s_LeaseBars_2 := rounds (run E_s_LeaseBars (bodyOf F.s_LeaseBars 2)) [0,1,3,6,9] [8]
theorem st_s_LeaseBars_2_0 (m : Nat) (x0 : List T_Lease) (x1 : Int) (x3 : Int) (x9 : Int) (b00 : Int) (b01 : Int) (b02 : List Int) (K : Ex → St → Option Ret) : U_s_LeaseBars_2 (m + 1) (s_s_LeaseBars_2_0 x0 x1 x3 x9 b00 b01 b02) K = P_s_LeaseBars_2_0 x0 x1 x3 x9 b00 b01 b02 (fun x0 x1 x3 x9 b00 b01 b02 => (U_s_LeaseBars_2 m (s_s_LeaseBars_2_0 x0 x1 x3 x9 b00 b01 b02) K)) (fun x8 => (K .ret (z_s_LeaseBars_2_0 x8))) (K (.ext 0) z_s_LeaseBars_2_1) := by kernel_rfl
theorem q_s_LeaseBars_2 (K : Ex → St → Option Ret) : ∀ m : Nat, (∀ (x0 : List T_Lease) (x1 : Int) (x3 : Int) (x9 : Int) (b00 : Int) (b01 : Int) (b02 : List Int), U_s_LeaseBars_2 m (s_s_LeaseBars_2_0 x0 x1 x3 x9 b00 b01 b02) K = Q_s_LeaseBars_2_0 m x0 x1 x3 x9 b00 b01 b02 (fun x8 => (K .ret (z_s_LeaseBars_2_0 x8))) (K (.ext 0) z_s_LeaseBars_2_1))
  | 0 => (fun _ _ _ _ _ _ _ => rfl)
  | m + 1 => (fun x0 x1 x3 x9 b00 b01 b02 => (by rw [st_s_LeaseBars_2_0, show (fun x0 x1 x3 x9 b00 b01 b02 => (U_s_LeaseBars_2 m (s_s_LeaseBars_2_0 x0 x1 x3 x9 b00 b01 b02) K)) = (fun x0 x1 x3 x9 b00 b01 b02 => (Q_s_LeaseBars_2_0 m x0 x1 x3 x9 b00 b01 b02 (fun x8 => (K .ret (z_s_LeaseBars_2_0 x8))) (K (.ext 0) z_s_LeaseBars_2_1))) from funext fun x0 => funext fun x1 => funext fun x3 => funext fun x9 => funext fun b00 => funext fun b01 => funext fun b02 => (q_s_LeaseBars_2 K m) x0 x1 x3 x9 b00 b01 b02]; rfl))
theorem loopK_s_LeaseBars_2 : LoopOk E_s_LeaseBars (bodyOf F.s_LeaseBars 2) := by
  refine loopW_ok (n := 2) (F := W_s_LeaseBars_2) (by kernel_rfl) rfl (li := [0,1,3,6,9]) (lo := [8]) rfl (fun σ K r hr => ?_)
  unfold W_s_LeaseBars_2 at hr
  split at hr
  · rename_i d hd
    rw [Ss.un_mk hd]
    exact ⟨_, ((congrArg (fun z => U_s_LeaseBars_2 _ z K) (se_s_LeaseBars_2_0 _ _ _ _ _ _ _)).trans ((q_s_LeaseBars_2 K _) _ _ _ _ _ _ _)).trans hr⟩
  · cases hr
noncomputable def T_s_LeaseBars (l : List T_Lease) (s : Int) (e : T_Edit) (n : Int) (K : Ret → Option Ret) : Option Ret := (R_s_LeaseBars_2_0 l s n (0 : Int) e.1 e.2.1 e.2.2 (fun y0 => K ((.s (.bool y0)), [])) (K ((.s (.bool false)), [])))
theorem e_s_LeaseBars (l : List T_Lease) (s : Int) (e : T_Edit) (n : Int) (K : Ret → Option Ret) : evF E_s_LeaseBars true F.s_LeaseBars [.l .no leaseR l, .s (.int .i64 s), .a (editR.cells .no e), .s (.int .i64 n)] K = T_s_LeaseBars l s e n K := by kernel_rfl
def S_s_LeaseBars : Sm := S_fnR [.l leaseR, .i, .a editR, .i] (fun d => Nat.ble d.1.length 1048576) (fun d => (bl (barsD d.1 d.2.1 d.2.2.1 d.2.2.2.1), []))
theorem v_s_LeaseBars (l : List T_Lease) (s : Int) (e : T_Edit) (n : Int) (h : (Nat.ble l.length 1048576) = true) (K : Ret → Option Ret) : T_s_LeaseBars l s e n K = K (bl (barsD l s e n), []) := by
  have hl := Nat.le_of_ble_eq_true h
  unfold T_s_LeaseBars barsD
  cases hk : leasesOkD l with
  | false =>
    have hq : ∀ (m : Nat) (k0 : Bool → Option Ret) (k1 : Option Ret), Q_s_LeaseBars_2_0 (m + 1) l s n 0 e.1 e.2.1 e.2.2 k0 k1 = k1 := by
      intro m k0 k1
      show P_s_LeaseBars_2_0 l s n 0 e.1 e.2.1 e.2.2 _ _ _ = _
      unfold P_s_LeaseBars_2_0
      rw [h, hk]; rfl
    exact hq (List.length l + s.toNat + n.toNat + (0 : Int).toNat + e.1.toNat + e.2.1.toNat + List.length e.2.2 + 1) _ _
  | true =>
    have hp : ∃ p : T_Lease → Bool, p = barD s e n := ⟨_, rfl⟩
    obtain ⟨p, hp⟩ := hp
    rw [← hp]
    have q := idx_all (R := fun m i => Q_s_LeaseBars_2_0 m l s n i e.1 e.2.1 e.2.2 (fun y0 => K ((.s (.bool y0)), [])) (K ((.s (.bool false)), []))) (p := fun o => !p o) (xs := l) (z := leaseR.dflt) (kf := K (bl true, [])) (kt := K (bl false, [])) (fun m i hi => by
      show P_s_LeaseBars_2_0 l s n ((i : Nat) : Int) e.1 e.2.1 e.2.2 _ _ _ = _
      unfold P_s_LeaseBars_2_0
      rw [h, hk, decide_eq_true (show ((i : Nat) : Int) < ((l.length : Nat) : Int) by omega), decide_eq_true (show (0 : Int) ≤ ((i : Nat) : Int) by omega), Int.toNat_natCast, wrap_nat (by omega)]
      show _ = bif !p (l.getD i leaseR.dflt) then _ else _
      rw [hp]
      unfold barD
      cases ((l.getD i leaseR.dflt).2.2.1 != s)
      · rfl
      cases decide ((l.getD i leaseR.dflt).2.2.2 > n)
      · rfl
      show (bif hitsD e (l.getD i leaseR.dflt).1 (l.getD i leaseR.dflt).2.1 then _ else _) = _
      cases hitsD e (l.getD i leaseR.dflt).1 (l.getD i leaseR.dflt).2.1 <;> rfl) (fun m => by
      show P_s_LeaseBars_2_0 l s n ((l.length : Nat) : Int) e.1 e.2.1 e.2.2 _ _ _ = _
      unfold P_s_LeaseBars_2_0
      rw [h, hk, decide_eq_false (show ¬ ((l.length : Nat) : Int) < ((l.length : Nat) : Int) by omega)]; rfl) (List.length l + s.toNat + n.toNat + (0 : Int).toNat + e.1.toNat + e.2.1.toNat + List.length e.2.2 + 2) 0 (by omega) (by omega)
    refine Eq.trans q ?_
    rw [List.drop_zero, List.all_eq_not_any_not]
    simp only [Bool.not_not]
    cases l.any p <;> rfl
theorem okS_s_LeaseBars : OkFn prog I N.s_LeaseBars true S_s_LeaseBars := okN (ok_fn (memc okS_s_LeasesOk (memc okS_s_EditHits mem0)) (l := ls_s_LeaseBars) (p := pl_s_LeaseBars) (ls := [(2, [0,1,3,6,9], [8], W_s_LeaseBars_2)]) (lend := []) (focus := false) (fuel := 0) (give := []) (fn := F.s_LeaseBars) (by kernel_rfl) (by kernel_rfl) (by kernel_rfl) (by kernel_rfl) (cs := [bodyOf F.s_LeaseBars 2]) (by kernel_rfl) (loopsc loopK_s_LeaseBars_2 loops0)) (S_fnR_of fun d K h => (e_s_LeaseBars d.1 d.2.1 d.2.2.1 d.2.2.2.1 K).trans (v_s_LeaseBars d.1 d.2.1 d.2.2.1 d.2.2.2.1 h K))
end Go.Ev.Seat
end
section
/- l_pick: its contract. -/
namespace Go.Ev.Seat
open Go.RowKit
set_option maxRecDepth 100000
set_option linter.unusedVariables false
set_option linter.unusedSimpArgs false
def z_l_pick_5_0 (x1 : Int) (x2 : Int) (x7 : Int) : St := { tm := ([.x, (.s (.int .i64 x1)), (.s (.int .i64 x2)), .x, .x, .x, .x, (.s (.int .i64 x7))] ++ List.replicate 30 .x), ob := [], nx := 0, io := [] }
def sh_l_pick_5_0 : Ss := { tm := (.cons (.l .no bytesR) (.cons (.int .i64) (.cons (.int .i64) (.cons (.x) (.cons (.x) (.cons (.x) (.cons (.x) (.cons (.int .i64) (.cons (.int .i64) (xsh 29)))))))))), ob := .nil, nx := 0, io := .nil }
def d_l_pick_5_0 (x0 : List Int) (x1 : Int) (x2 : Int) (x7 : Int) (x8 : Int) : sh_l_pick_5_0.T := ((x0, (x1, (x2, ((), ((), ((), ((), (x7, (x8, xd 29))))))))), (), ())
def s_l_pick_5_0 (x0 : List Int) (x1 : Int) (x2 : Int) (x7 : Int) (x8 : Int) : St := { tm := ([(.l .no bytesR x0), (.s (.int .i64 x1)), (.s (.int .i64 x2)), .x, .x, .x, .x, (.s (.int .i64 x7)), (.s (.int .i64 x8))] ++ List.replicate 29 .x), ob := [], nx := 0, io := [] }
theorem se_l_pick_5_0 (x0 : List Int) (x1 : Int) (x2 : Int) (x7 : Int) (x8 : Int) : sh_l_pick_5_0.mk' (d_l_pick_5_0 x0 x1 x2 x7 x8) = (s_l_pick_5_0 x0 x1 x2 x7 x8) := by kernel_rfl
def w_l_pick_5_0 (d : sh_l_pick_5_0.T) (f : (List Int) → Int → Int → Int → Int → Option Ret) : Option Ret := match d with | ((x0, (x1, (x2, (_, (_, (_, (_, (x7, (x8, _))))))))), _, _) => f x0 x1 x2 x7 x8
noncomputable def P_l_pick_5_0 (x0 : List Int) (x1 : Int) (x2 : Int) (x7 : Int) (x8 : Int) (nx0 : (List Int) → Int → Int → Int → Int → Option Ret) (k0 : Int → Int → Int → Option Ret) : Option Ret := (bif (decide (x8 < (3 : Int))) then (bif (!((((List.length x0) : Nat) : Int) == (0 : Int))) then (bif ((decide ((0 : Int) ≤ (Int.tmod (IntKind.wrap .i64 (x1 + x8)) (((List.length x0) : Nat) : Int)))) && (decide ((Int.tmod (IntKind.wrap .i64 (x1 + x8)) (((List.length x0) : Nat) : Int)) < (((List.length x0) : Nat) : Int)))) then (nx0 x0 x1 x2 (IntKind.wrap .i64 ((IntKind.wrap .i64 ((31 : Int) * x7)) + (IntKind.wrap .i64 (List.getD x0 (Int.toNat (Int.tmod (IntKind.wrap .i64 (x1 + x8)) (((List.length x0) : Nat) : Int))) (0 : Int))))) (IntKind.wrap .i64 (x8 + (1 : Int)))) else none) else none) else (k0 x1 x2 x7))
noncomputable def Q_l_pick_5_0 : Nat → (List Int) → Int → Int → Int → Int → (Int → Int → Int → Option Ret) → Option Ret
  | 0, _, _, _, _, _, _ => none
  | m + 1, x0, x1, x2, x7, x8, k0 => P_l_pick_5_0 x0 x1 x2 x7 x8 (fun x0 x1 x2 x7 x8 => (Q_l_pick_5_0 m x0 x1 x2 x7 x8 k0)) k0
noncomputable def R_l_pick_5_0 (x0 : List Int) (x1 : Int) (x2 : Int) (x7 : Int) (x8 : Int) (k0 : Int → Int → Int → Option Ret) : Option Ret := Q_l_pick_5_0 (List.length x0 + x1.toNat + x2.toNat + x7.toNat + x8.toNat + 2) x0 x1 x2 x7 x8 k0
noncomputable def W_l_pick_5 : LoopFn := (fun (σ : St) (K : Ex → St → Option Ret) => (match sh_l_pick_5_0.un σ with | some d => w_l_pick_5_0 d (fun x0 x1 x2 x7 x8 => R_l_pick_5_0 x0 x1 x2 x7 x8 (fun x1 x2 x7 => (K (.ext 0) (z_l_pick_5_0 x1 x2 x7)))) | none => none))
noncomputable abbrev E_l_pick : Env := En [] [] [(5, [0,1,2,7,8], [1,2,6,7], W_l_pick_5)] [] false 0 []
noncomputable abbrev U_l_pick_5 := rounds (run E_l_pick (bodyOf F.l_pick 5)) [0,1,2,7,8] [1,2,6,7]
theorem st_l_pick_5_0 (m : Nat) (x0 : List Int) (x1 : Int) (x2 : Int) (x7 : Int) (x8 : Int) (K : Ex → St → Option Ret) : U_l_pick_5 (m + 1) (s_l_pick_5_0 x0 x1 x2 x7 x8) K = P_l_pick_5_0 x0 x1 x2 x7 x8 (fun x0 x1 x2 x7 x8 => (U_l_pick_5 m (s_l_pick_5_0 x0 x1 x2 x7 x8) K)) (fun x1 x2 x7 => (K (.ext 0) (z_l_pick_5_0 x1 x2 x7))) := by kernel_rfl
theorem q_l_pick_5 (K : Ex → St → Option Ret) : ∀ m : Nat, (∀ (x0 : List Int) (x1 : Int) (x2 : Int) (x7 : Int) (x8 : Int), U_l_pick_5 m (s_l_pick_5_0 x0 x1 x2 x7 x8) K = Q_l_pick_5_0 m x0 x1 x2 x7 x8 (fun x1 x2 x7 => (K (.ext 0) (z_l_pick_5_0 x1 x2 x7))))
  | 0 => (fun _ _ _ _ _ => rfl)
  | m + 1 => (fun x0 x1 x2 x7 x8 => (by rw [st_l_pick_5_0, show (fun x0 x1 x2 x7 x8 => (U_l_pick_5 m (s_l_pick_5_0 x0 x1 x2 x7 x8) K)) = (fun x0 x1 x2 x7 x8 => (Q_l_pick_5_0 m x0 x1 x2 x7 x8 (fun x1 x2 x7 => (K (.ext 0) (z_l_pick_5_0 x1 x2 x7))))) from funext fun x0 => funext fun x1 => funext fun x2 => funext fun x7 => funext fun x8 => (q_l_pick_5 K m) x0 x1 x2 x7 x8]; rfl))
theorem loopK_l_pick_5 : LoopOk E_l_pick (bodyOf F.l_pick 5) := by
  refine loopW_ok (n := 5) (F := W_l_pick_5) (by kernel_rfl) rfl (li := [0,1,2,7,8]) (lo := [1,2,6,7]) rfl (fun σ K r hr => ?_)
  unfold W_l_pick_5 at hr
  split at hr
  · rename_i d hd
    rw [Ss.un_mk hd]
    exact ⟨_, ((congrArg (fun z => U_l_pick_5 _ z K) (se_l_pick_5_0 _ _ _ _ _)).trans ((q_l_pick_5 K _) _ _ _ _ _)).trans hr⟩
  · cases hr
noncomputable def T_l_pick (code : List Int) (j : Int) (n : Int) (K : Ret → Option Ret) : Option Ret := (bif ((((List.length code) : Nat) : Int) == (0 : Int)) then K ((.s (.int .i64 (0 : Int))), []) else (bif (decide (n < (2 : Int))) then K ((.s (.int .i64 (0 : Int))), []) else (R_l_pick_5_0 code j n (0 : Int) (0 : Int) (fun y0 y1 y2 => (bif (!(y1 == (0 : Int))) then K ((.s (.int .i64 (Int.tmod (IntKind.wrap .i64 (y2 + y0)) y1))), []) else none)))))
theorem e_l_pick (code : List Int) (j : Int) (n : Int) (K : Ret → Option Ret) : evF E_l_pick true F.l_pick [.l .no bytesR code, .s (.int .i64 j), .s (.int .i64 n)] K = T_l_pick code j n K := by kernel_rfl
theorem pick_loop {P : Ret → Prop} {code : List Int} {at_ n : Int} (hf : fitB code = true) (hc : 0 < code.length) (h0 : 0 ≤ at_) (h1 : at_ ≤ 1000000) {F : Int → Int → Int → (Ret → Option Ret) → Option Ret} : ∀ (m k : Nat) (x : Int), k ≤ 3 → 3 - k < m → 0 ≤ x → ((k = 0 → x = 0) ∧ (k = 1 → x ≤ 255) ∧ (k = 2 → x ≤ 8160) ∧ (k = 3 → x ≤ 253215)) → (∀ y, 0 ≤ y → y ≤ 253215 → Dr P (F at_ n y)) → Dr P (fun K => Q_l_pick_5_0 m code at_ n x (k : Int) (fun a b c => F a b c K))
  | 0, k, x, _, h, _, _, _ => absurd h (by omega)
  | m + 1, k, x, hk, hm, hx0, hx1, hF => by
    show Dr P (fun K => P_l_pick_5_0 code at_ n x (k : Int) _ _)
    unfold P_l_pick_5_0
    by_cases h3 : k < 3
    · refine Dr.must (decide_eq_true (by omega)) ?_
      have e1 : IntKind.wrap .i64 (at_ + k) = at_ + k := wrap_in (by omega) (by omega)
      have e2 : Int.tmod (at_ + k) ((code.length : Nat) : Int) = (at_ + k) % ((code.length : Nat) : Int) := Int.tmod_eq_emod_of_nonneg (by omega)
      have := Int.emod_nonneg (at_ + k) (show ((code.length : Nat) : Int) ≠ 0 by omega)
      have := Int.emod_lt_of_pos (at_ + k) (show (0 : Int) < ((code.length : Nat) : Int) by omega)
      have hb := fitB_get hf ((at_ + k) % ((code.length : Nat) : Int)).toNat
      rw [e1, e2]
      refine Dr.must (by rw [Bool.not_eq_true', beq_eq_false_iff_ne]; omega) (Dr.must (by rw [Bool.and_eq_true, decide_eq_true_iff, decide_eq_true_iff]; omega) ?_)
      rw [wrap_in (n := 31 * x) (by omega) (by omega), wrap_in (n := code.getD ((at_ + k) % ((code.length : Nat) : Int)).toNat 0) (by omega) (by omega), wrap_in (n := 31 * x + code.getD ((at_ + k) % ((code.length : Nat) : Int)).toNat 0) (by omega) (by omega), show IntKind.wrap .i64 ((k : Int) + 1) = ((k + 1 : Nat) : Int) by rw [wrap_in (by omega) (by omega)]; omega]
      refine pick_loop hf hc h0 h1 m (k + 1) _ (by omega) (by omega) (by omega) (by omega) hF
    · refine Dr.bif (fun hc => ?_) (fun _ => hF x hx0 (by omega))
      simp at hc; omega
theorem x_l_pick (code : List Int) (j : Int) (n : Int) (h : (fitB code && decide (0 ≤ j) && decide (j ≤ 1000000)) = true) : ∃ (y : Int), (0 ≤ y ∧ (2 ≤ n → y < n) ∧ (n < 2 → y = 0)) ∧ ∀ K : Ret → Option Ret, T_l_pick code j n K = K (.s (.int .i64 y), []) := by
  suffices hd : Dr (fun r : Ret => ∃ (y : Int), (0 ≤ y ∧ (2 ≤ n → y < n) ∧ (n < 2 → y = 0)) ∧ r = (.s (.int .i64 y), [])) (fun K : Ret → Option Ret => T_l_pick code j n K) by
    obtain ⟨_, ⟨y, hp, rfl⟩, hk⟩ := hd
    exact ⟨y, hp, hk⟩
  simp only [Bool.and_eq_true, decide_eq_true_eq] at h
  obtain ⟨⟨hf, h0⟩, h1⟩ := h
  unfold T_l_pick
  refine Dr.bif (fun hc => Dr.leaf ⟨_, ⟨Int.le_refl 0, fun h => ?_, fun _ => rfl⟩, rfl⟩) (fun hc => ?_)
  · omega
  rw [beq_eq_false_iff_ne] at hc
  refine Dr.bif (fun h2 => Dr.leaf ⟨_, ⟨Int.le_refl 0, fun h => ?_, fun _ => rfl⟩, rfl⟩) (fun h2 => ?_)
  · omega
  simp only [decide_eq_false_iff_not] at h2
  unfold R_l_pick_5_0
  refine pick_loop hf (by omega) h0 h1 (F := fun y0 y1 y2 K => (bif (!(y1 == (0 : Int))) then
    K ((.s (.int .i64 (Int.tmod (IntKind.wrap .i64 (y2 + y0)) y1))), [])
    else none)) _ 0 0 (by omega) (by omega) (by omega) (by omega) (fun y hy0 hy1 => ?_)
  refine Dr.must (by rw [Bool.not_eq_true', beq_eq_false_iff_ne]; omega) ?_
  rw [wrap_in (n := y + j) (by omega) (by omega), Int.tmod_eq_emod_of_nonneg (by omega)]
  have := Int.emod_nonneg (y + j) (show n ≠ 0 by omega)
  have := Int.emod_lt_of_pos (y + j) (show 0 < n by omega)
  exact Dr.leaf ⟨_, ⟨by omega, by omega, by omega⟩, rfl⟩
noncomputable def g_l_pick (code : List Int) (j : Int) (n : Int) : Int := Classical.epsilon fun g => (0 ≤ (g) ∧ (2 ≤ n → (g) < n) ∧ (n < 2 → (g) = 0)) ∧ ∀ K : Ret → Option Ret, T_l_pick code j n K = K (.s (.int .i64 (g)), [])
theorem gs_l_pick (code : List Int) (j : Int) (n : Int) (h : (fitB code && decide (0 ≤ j) && decide (j ≤ 1000000)) = true) : (0 ≤ (g_l_pick code j n) ∧ (2 ≤ n → (g_l_pick code j n) < n) ∧ (n < 2 → (g_l_pick code j n) = 0)) ∧ ∀ K : Ret → Option Ret, T_l_pick code j n K = K (.s (.int .i64 (g_l_pick code j n)), []) := by
  obtain ⟨y, hy, hk⟩ := x_l_pick code j n h
  exact Classical.epsilon_spec (p := fun g : Int => (0 ≤ (g) ∧ (2 ≤ n → (g) < n) ∧ (n < 2 → (g) = 0)) ∧ ∀ K : Ret → Option Ret, T_l_pick code j n K = K (.s (.int .i64 (g)), [])) ⟨y, hy, hk⟩
noncomputable def B_l_pick (code : List Int) (j : Int) (n : Int) (k : (Int) → Option Ret) : Option Ret := bif fitB code && decide (0 ≤ j) && decide (j ≤ 1000000) then k (g_l_pick code j n) else none
theorem b_l_pick (code : List Int) (j : Int) (n : Int) (h : (fitB code && decide (0 ≤ j) && decide (j ≤ 1000000)) = true) : ∃ (y : Int), (0 ≤ y ∧ (2 ≤ n → y < n) ∧ (n < 2 → y = 0)) ∧ ∀ k, B_l_pick code j n k = k y :=
  ⟨(g_l_pick code j n), (gs_l_pick code j n h).1, fun k => by unfold B_l_pick; rw [h]; rfl⟩
def SB_l_pick (B : (List Int) → (Int) → (Int) → ((Int) → Option Ret) → Option Ret) : Sm := S_B [.l bytesR, .i, .i] (fun d K => B d.1 d.2.1 d.2.2.1 (fun y => K (.s (.int .i64 y), [])))
theorem okS_l_pick : OkFn prog I N.l_pick true (SB_l_pick B_l_pick) := okN (ok_fn mem0 (l := []) (p := []) (ls := [(5, [0,1,2,7,8], [1,2,6,7], W_l_pick_5)]) (lend := []) (focus := false) (fuel := 0) (give := []) (fn := F.l_pick) (by kernel_rfl) (by kernel_rfl) (by kernel_rfl) (by kernel_rfl) (cs := [bodyOf F.l_pick 5]) (by kernel_rfl) (loopsc loopK_l_pick_5 loops0)) (S_B_of fun d K q hq => by
  refine (e_l_pick d.1 d.2.1 d.2.2.1 K).trans ?_
  unfold B_l_pick at hq
  cases hp : (fitB d.1 && decide (0 ≤ d.2.1) && decide (d.2.1 ≤ 1000000)) with
  | false => rw [hp] at hq; cases hq
  | true =>
    rw [hp] at hq
    exact ((gs_l_pick d.1 d.2.1 d.2.2.1 hp).2 K).trans hq)
end Go.Ev.Seat
end
section
/- l_FnBars: its contract. -/
namespace Go.Ev.Seat
open Go.RowKit
set_option maxRecDepth 100000
set_option linter.unusedVariables false
set_option linter.unusedSimpArgs false
noncomputable abbrev pl_l_FnBars : List (Nat × Plan × List Nat) := [(4, takeB [0, 1, 2, 3, 5, 6, 7, 8] (.fork (.one 4 (.fork (.one 9 (takes [10]))))), []), (17, takeB [0, 1, 2, 3, 4, 5, 7, 8, 9, 10, 11] (.fork (.one 6 (takeB [12, 13, 14, 15, 16, 18, 19, 20, 21, 22, 23] (.fork (.one 17 (takes [24, 25, 26])))))), [])]
noncomputable abbrev ls_l_FnBars : List (Nat × Bool × Sm) := [(N.l_big, true, S_l_big), (N.s_DrawLeaseBars, false, (SB_s_DrawLeaseBars B_s_DrawLeaseBars)), (N.i_LeaseBars, true, S_i_LeaseBars), (N.s_LeaseBars, true, S_s_LeaseBars), (N.s_LeasesOk, true, S_s_LeasesOk), (N.l_pick, true, (SB_l_pick B_l_pick))]
noncomputable abbrev E_l_FnBars : Env := En ls_l_FnBars pl_l_FnBars [] [] false 0 []
noncomputable def T_l_FnBars (code : List Int) (K : Ret → Option Ret) : Option Ret := (bif (decide ((((List.length code) : Nat) : Int) > (1048576 : Int))) then K ((.s (.bool true)), []) else (B_s_DrawLeaseBars code (fun y0 y1 y2 y3 y4 y5 => (bif (Nat.ble (List.length y0) 1048576) then (bif (Nat.ble (List.length y0) 1048576) then (bif (!((barsD y0 y1 (y2, (y3, y4)) y5) == (barsD y0 y1 (y2, (y3, y4)) y5))) then K ((.s (.bool false)), []) else (bif (Nat.ble (List.length y0) 1048576) then (bif (!(leasesOkD y0)) then (bif (Nat.ble (List.length y0) 1048576) then K ((.s (.bool (!(barsD y0 y1 (y2, (y3, y4)) y5)))), []) else none) else (bif ((((List.length y0) : Nat) : Int) == (0 : Int)) then (bif (Nat.ble (List.length y0) 1048576) then K ((.s (.bool (!(barsD y0 y1 (y2, (y3, y4)) y5)))), []) else none) else (B_l_pick code (3 : Int) (((List.length y0) : Nat) : Int) (fun y6 => (bif ((decide ((0 : Int) ≤ y6)) && (decide (y6 < (((List.length y0) : Nat) : Int)))) then (bif (barsD ((List.getD y0 (Int.toNat y6) (leaseR.dflt)) :: []) (IntKind.wrap .i64 ((Int.tmod (List.getD y0 (Int.toNat y6) (leaseR.dflt)).2.2.1 (8 : Int)) + (1 : Int))) ((List.getD y0 (Int.toNat y6) (leaseR.dflt)).1, ((0 : Int), ((97 : Int) :: ([] : List Int)))) (0 : Int)) then K ((.s (.bool false)), []) else (bif (barsD ((List.getD y0 (Int.toNat y6) (leaseR.dflt)) :: []) (IntKind.wrap .i64 ((Int.tmod (List.getD y0 (Int.toNat y6) (leaseR.dflt)).2.2.1 (8 : Int)) + (1 : Int))) ((List.getD y0 (Int.toNat y6) (leaseR.dflt)).2.1, ((0 : Int), ((97 : Int) :: ([] : List Int)))) (0 : Int)) then K ((.s (.bool false)), []) else (bif (barsD ((List.getD y0 (Int.toNat y6) (leaseR.dflt)) :: []) (List.getD y0 (Int.toNat y6) (leaseR.dflt)).2.2.1 ((List.getD y0 (Int.toNat y6) (leaseR.dflt)).1, ((1 : Int), ([] : List Int))) (0 : Int)) then K ((.s (.bool false)), []) else (bif (barsD ((List.getD y0 (Int.toNat y6) (leaseR.dflt)) :: []) (IntKind.wrap .i64 ((Int.tmod (List.getD y0 (Int.toNat y6) (leaseR.dflt)).2.2.1 (8 : Int)) + (1 : Int))) ((List.getD y0 (Int.toNat y6) (leaseR.dflt)).1, ((1 : Int), ([] : List Int))) (List.getD y0 (Int.toNat y6) (leaseR.dflt)).2.2.2) then K ((.s (.bool false)), []) else (bif ((barsD ((List.getD y0 (Int.toNat y6) (leaseR.dflt)) :: []) (IntKind.wrap .i64 ((Int.tmod (List.getD y0 (Int.toNat y6) (leaseR.dflt)).2.2.1 (8 : Int)) + (1 : Int))) ((List.getD y0 (Int.toNat y6) (leaseR.dflt)).1, ((1 : Int), ([] : List Int))) (IntKind.wrap .i64 ((List.getD y0 (Int.toNat y6) (leaseR.dflt)).2.2.2 - (1 : Int)))) == (decide ((List.getD y0 (Int.toNat y6) (leaseR.dflt)).2.1 > (List.getD y0 (Int.toNat y6) (leaseR.dflt)).1))) then K ((.s (.bool ((barsD ((List.getD y0 (Int.toNat y6) (leaseR.dflt)) :: []) (IntKind.wrap .i64 ((Int.tmod (List.getD y0 (Int.toNat y6) (leaseR.dflt)).2.2.1 (8 : Int)) + (1 : Int))) ((IntKind.wrap .i64 (Int.tdiv (IntKind.wrap .i64 ((List.getD y0 (Int.toNat y6) (leaseR.dflt)).1 + (List.getD y0 (Int.toNat y6) (leaseR.dflt)).2.1)) (2 : Int))), ((0 : Int), ((97 : Int) :: ([] : List Int)))) (0 : Int)) == (decide ((List.getD y0 (Int.toNat y6) (leaseR.dflt)).2.1 > (IntKind.wrap .i64 ((List.getD y0 (Int.toNat y6) (leaseR.dflt)).1 + (1 : Int)))))))), []) else K ((.s (.bool false)), [])))))) else none))))) else none)) else none) else none))))
theorem e_l_FnBars (code : List Int) (K : Ret → Option Ret) : evF E_l_FnBars true F.l_FnBars [.l .no bytesR code] K = T_l_FnBars code K := by kernel_rfl
theorem lease_facts {o : L4} (h : leaseOkD o = true) : 0 ≤ o.1 ∧ o.1 ≤ o.2.1 ∧ o.2.1 ≤ 400 ∧ 1 ≤ o.2.2.1 ∧ o.2.2.1 ≤ 8 ∧ 1 ≤ o.2.2.2 ∧ o.2.2.2 ≤ 1000 := by
  simp only [leaseOkD, sessD, tickD, Bool.and_eq_true, decide_eq_true_eq] at h
  omega
theorem bars_one {o : L4} (h : leaseOkD o = true) (s : Int) (e : E3) (n : Int) : barsD [o] s e n = barD s e n o := by
  have h1 : leasesOkD [o] = true := by
    unfold leasesOkD
    rw [Bool.and_eq_true, decide_eq_true_iff, allN_iff]
    refine ⟨by simp, fun i hi => ?_⟩
    have : i = 0 := by simpa using hi
    subst this
    show (leaseOkD o && _) = true
    rw [h]; rfl
  unfold barsD
  rw [h1]
  simp
theorem leases_get {l : List L4} (h : leasesOkD l = true) {i : Nat} (hi : i < l.length) : leaseOkD (l.getD i zeroL) = true := by
  unfold leasesOkD at h
  rw [Bool.and_eq_true, allN_iff] at h
  have := h.2 i hi
  unfold leaseAtD at this
  rw [Bool.and_eq_true] at this
  exact this.1
theorem bar_out {o : L4} {s a n : Int} (h : a = o.1 ∨ a = o.2.1) : barD s (a, ((0 : Int), ((97 : Int) :: ([] : List Int)))) n o = false := by
  unfold barD hitsD hitE
  simp only [beq_self_eq_true, cond_true]
  rw [Bool.and_eq_false_iff]
  refine .inr ?_
  rw [Bool.and_eq_false_iff]
  refine .inr ?_
  rw [Bool.and_eq_false_iff, decide_eq_false_iff_not, decide_eq_false_iff_not]
  rcases h with rfl | rfl
  · exact .inl (by omega)
  · exact .inr (by omega)
theorem bar_mine {o : L4} {e : E3} {n : Int} : barD o.2.2.1 e n o = false := by
  unfold barD
  rw [bne_self_eq_false]; rfl
theorem bar_late {o : L4} {s : Int} {e : E3} : barD s e o.2.2.2 o = false := by
  unfold barD
  rw [decide_eq_false (show ¬ o.2.2.2 > o.2.2.2 by omega), Bool.and_false, Bool.false_and]
theorem other_ne {s : Int} (h1 : 1 ≤ s) (h2 : s ≤ 8) : (s != (IntKind.wrap .i64 ((Int.tmod s (8 : Int)) + (1 : Int)))) = true := by
  rw [Int.tmod_eq_emod_of_nonneg (by omega), wrap_in (by omega) (by omega), bne_iff_ne]
  omega
theorem bar_cut {o : L4} (h : leaseOkD o = true) {s n : Int} (hs : (o.2.2.1 != s) = true) (hn : n < o.2.2.2) : barD s (o.1, ((1 : Int), ([] : List Int))) n o = decide (o.2.1 > o.1) := by
  obtain ⟨h1, h2, h3, h4, h5, h6, h7⟩ := lease_facts h
  unfold barD hitsD hitE
  rw [hs, decide_eq_true (show o.2.2.2 > n from hn), placeB_iff.2 ⟨h1, by omega⟩, placeB_iff.2 ⟨by omega, by omega⟩, smallE_iff.2 ⟨⟨h1, by omega⟩, ⟨by simp, by simp⟩, by simp⟩]
  simp only [Bool.true_and, show ((1 : Int) == 0) = false from rfl, cond_false]
  rw [decide_eq_true (show o.1 + 1 > o.1 by omega), Bool.and_true]
  by_cases hd : o.1 < o.2.1
  · rw [decide_eq_true hd]; rfl
  · rw [decide_eq_false hd]; rfl
theorem bar_mid {o : L4} (h : leaseOkD o = true) {s n : Int} (hs : (o.2.2.1 != s) = true) (hn : n < o.2.2.2) : barD s ((IntKind.wrap .i64 (Int.tdiv (IntKind.wrap .i64 (o.1 + o.2.1)) (2 : Int))), ((0 : Int), ((97 : Int) :: ([] : List Int)))) n o = decide (o.2.1 > (IntKind.wrap .i64 (o.1 + (1 : Int)))) := by
  obtain ⟨h1, h2, h3, h4, h5, h6, h7⟩ := lease_facts h
  rw [wrap_in (n := o.1 + o.2.1) (by omega) (by omega), Int.tdiv_eq_ediv_of_nonneg (by omega), wrap_in (n := (o.1 + o.2.1) / 2) (by omega) (by omega), wrap_in (n := o.1 + 1) (by omega) (by omega)]
  unfold barD hitsD hitE
  rw [hs, decide_eq_true (show o.2.2.2 > n from hn), placeB_iff.2 ⟨h1, by omega⟩, placeB_iff.2 ⟨by omega, by omega⟩, smallE_iff.2 ⟨⟨by show 0 ≤ (o.1 + o.2.1) / 2; omega, by show (o.1 + o.2.1) / 2 ≤ 400; omega⟩, ⟨by simp, by simp⟩, by simp⟩]
  simp only [Bool.true_and, beq_self_eq_true, cond_true]
  by_cases hd : o.2.1 > o.1 + 1
  · rw [decide_eq_true hd, decide_eq_true (show o.1 < o.2.1 by omega), decide_eq_true (show o.1 < (o.1 + o.2.1) / 2 by omega), decide_eq_true (show (o.1 + o.2.1) / 2 < o.2.1 by omega)]; rfl
  · rw [decide_eq_false hd]
    by_cases h8 : o.1 < (o.1 + o.2.1) / 2
    · rw [decide_eq_false (show ¬ (o.1 + o.2.1) / 2 < o.2.1 by omega), Bool.and_false, Bool.and_false]
    · rw [decide_eq_false h8, Bool.false_and, Bool.and_false]
def S_l_FnBars : Sm := S_fnR [.l bytesR] (fun d => d.1.all isB) (fun d => (bl true, []))
theorem v_l_FnBars (code : List Int) (h : (code.all isB) = true) (K : Ret → Option Ret) : T_l_FnBars code K = K (bl true, []) := by
  unfold T_l_FnBars
  by_cases hc : ((code.length : Nat) : Int) > 1048576
  · rw [decide_eq_true hc]; rfl
  have hf : fitB code = true := by unfold fitB; rw [Bool.and_eq_true]; exact ⟨Nat.ble_eq_true_of_le (by omega), h⟩
  rw [decide_eq_false hc]
  obtain ⟨l, u, e0, e1, e2, n, ⟨hl, he, he2⟩, hk⟩ := b_s_DrawLeaseBars code hf
  rw [cond_false, hk]
  have hb : Nat.ble (List.length l) 1048576 = true := Nat.ble_eq_true_of_le (by omega)
  simp only [hb, cond_true, beq_self_eq_true, Bool.not_true, cond_false]
  cases hok : leasesOkD l with
  | false =>
    have : barsD l u (e0, (e1, e2)) n = false := by unfold barsD; rw [hok]; rfl
    rw [this]; rfl
  | true =>
    simp only [Bool.not_true, cond_false]
    cases hz : ((((List.length l) : Nat) : Int) == (0 : Int)) with
    | true =>
      have h0 : l = [] := List.eq_nil_of_length_eq_zero (by rw [beq_iff_eq] at hz; omega)
      subst h0
      have : barsD [] u (e0, (e1, e2)) n = false := by unfold barsD; simp
      rw [this]; rfl
    | false =>
      rw [beq_eq_false_iff_ne] at hz
      obtain ⟨y, hy, hyk⟩ := b_l_pick code 3 (((List.length l) : Nat) : Int) (by rw [hf]; rfl)
      rw [hyk, cond_false]
      have hy1 : y < (((List.length l) : Nat) : Int) := by
        rcases Int.lt_or_le (((List.length l) : Nat) : Int) 2 with h2 | h2
        · have := hy.2.2 h2; omega
        · exact hy.2.1 h2
      rw [decide_eq_true hy.1, decide_eq_true hy1]
      have ho : leaseOkD (List.getD l (Int.toNat y) (leaseR.dflt)) = true := leases_get hok (by omega)
      revert ho
      generalize (List.getD l (Int.toNat y) (leaseR.dflt)) = o
      intro ho
      change leaseOkD o = true at ho
      obtain ⟨h1, h2, h3, h4, h5, h6, h7⟩ := lease_facts ho
      have hs := other_ne h4 h5
      rw [Bool.and_self, cond_true, bars_one ho, bars_one ho, bars_one ho, bars_one ho, bars_one ho, bars_one ho, bar_out (.inl rfl), bar_out (.inr rfl), bar_mine, bar_late, wrap_in (n := o.2.2.2 - 1) (by omega) (by omega), bar_cut ho hs (by omega), bar_mid ho hs (by omega)]
      simp
      rfl
theorem okS_l_FnBars : OkFn prog I N.l_FnBars true S_l_FnBars := okN (ok_fn (memc okS_l_big (memc okS_s_DrawLeaseBars (memc okS_i_LeaseBars (memc okS_s_LeaseBars (memc okS_s_LeasesOk (memc okS_l_pick mem0)))))) (l := ls_l_FnBars) (p := pl_l_FnBars) (ls := []) (lend := []) (focus := false) (fuel := 0) (give := []) (fn := F.l_FnBars) (by kernel_rfl) (by kernel_rfl) (by kernel_rfl) (by kernel_rfl) (cs := []) (by kernel_rfl) loops0) (S_fnR_of fun d K h => (e_l_FnBars d.1 K).trans (v_l_FnBars d.1 h K))
end Go.Ev.Seat
end
section
/- The law FnBars: it answers true. Printed by lawrand.py. -/
namespace Go.Ev.Seat
open Go.RowKit
set_option linter.unusedVariables false
theorem ok_Bars (T : MText) : OkFn prog I N.l_FnBars true S_l_FnBars := okS_l_FnBars
theorem law_Bars (T : MText) (code : List Int) (K : Ret → Option Ret) (hwf : (Cc.sl bytesR).wf code) : S_l_FnBars [.l .no bytesR code] K = K (bl true, []) := by
  have hb : code.all isB = true := List.all_eq_true.2 (fun x hx => fitR_of bytesR x (hwf.2 x hx) rfl)
  show (bif code.all isB then K (bl true, []) else none) = _
  rw [hb]; rfl
end Go.Ev.Seat
end
section
/- Kinds of types that come in, checked by reckoning. -/
set_option linter.unusedVariables false
namespace Go.Ev
open Go.RowKit
mutual
def ccN (P : Program) : Nat → Cc → TypeId → Bool
  | 0, _, _ => false
  | n + 1, c, t => match c, P.underlying t with
    | .int k, some (.int k') => decide (k' = k)
    | .bool, some .bool => true
    | .str, some .string => true
    | .sl r, some (.slice e) => Nat.beq (P.cellsOf e) r.n && (match layN P n r.list e with
      | some [] => true
      | _ => false)
    | _, _ => false
/-- The cells of a type, taken off a list: what is left. -/
def layN (P : Program) : Nat → List Cc → TypeId → Option (List Cc)
  | 0, _, _ => none
  | n + 1, cs, t => match cs with
    | [] => none
    | c :: rest => bif ccN P n c t then some rest else match P.underlying t with
      | some (.struct fs) => fsN P n (c :: rest) 0 fs.toList
      | _ => none
def fsN (P : Program) : Nat → List Cc → Nat → List Field → Option (List Cc)
  | 0, _, _, _ => none
  | n + 1, cs, i, fs => match fs with
    | [] => some cs
    | f :: rest => bif Nat.beq f.offset i then (match layN P n cs f.type with
      | some cs' => bif Nat.beq (P.cellsOf f.type + cs'.length) cs.length then fsN P n cs' (i + P.cellsOf f.type) rest else none
      | none => none) else none
end
theorem kinds_ok {P : Program} : ∀ (n : Nat), (∀ c t, ccN P n c t = true → CcOk P c t) ∧ (∀ cs t rest, layN P n cs t = some rest → ∃ pre, cs = pre ++ rest ∧ LayOk P pre t) ∧ ∀ cs i fs rest, fsN P n cs i fs = some rest → ∃ pre, cs = pre ++ rest ∧ LayFs P pre i fs
  | 0 => ⟨fun _ _ h => by simp [ccN] at h, fun _ _ _ h => by simp [layN] at h, fun _ _ _ _ h => by simp [fsN] at h⟩
  | n + 1 => by
    obtain ⟨h1, h2, h3⟩ := kinds_ok (P := P) n
    refine ⟨fun c t h => ?_, fun cs t rest h => ?_, fun cs i fs rest h => ?_⟩
    · simp only [ccN] at h
      split at h
      · rename_i k k' hu
        have := of_decide_eq_true h
        subst this
        exact .int hu
      · rename_i hu; exact .bool hu
      · rename_i hu; exact .str hu
      · rename_i r e hu
        simp only [Bool.and_eq_true] at h
        obtain ⟨g1, g2⟩ := h
        split at g2
        · rename_i hl
          obtain ⟨pre, e1, e2⟩ := h2 _ _ _ hl
          rw [List.append_nil] at e1
          exact .sl hu (Nat.eq_of_beq_eq_true g1) (e1 ▸ e2)
        · cases g2
      · cases h
    · simp only [layN] at h
      split at h
      · cases h
      · rename_i c rest'
        cases hc : ccN P n c t with
        | true =>
          rw [hc] at h
          cases h
          exact ⟨[c], rfl, .one (h1 _ _ hc)⟩
        | false =>
          rw [hc] at h
          simp only [cond_false] at h
          split at h
          · rename_i fs hu
            obtain ⟨pre, e1, e2⟩ := h3 _ _ _ _ h
            exact ⟨pre, e1, .st hu e2⟩
          · cases h
    · simp only [fsN] at h
      split at h
      · cases h
        exact ⟨[], rfl, .nil⟩
      · rename_i f rest'
        cases ho : Nat.beq f.offset i with
        | false => rw [ho] at h; cases h
        | true =>
          rw [ho] at h
          simp only [cond_true] at h
          split at h
          · rename_i cs' hl
            obtain ⟨pre, e1, e2⟩ := h2 _ _ _ hl
            cases hb : Nat.beq (P.cellsOf f.type + cs'.length) cs.length with
            | false => rw [hb] at h; cases h
            | true =>
              rw [hb] at h
              simp only [cond_true] at h
              have hlen := Nat.eq_of_beq_eq_true hb
              have hp : P.cellsOf f.type = pre.length := by rw [e1, List.length_append] at hlen; omega
              obtain ⟨pre2, e3, e4⟩ := h3 _ _ _ _ h
              rw [hp] at e4
              refine ⟨pre ++ pre2, by rw [e1, e3, List.append_assoc], .cons (Nat.eq_of_beq_eq_true ho) hp e2 e4⟩
          · cases h
def ccB (P : Program) (c : Cc) (t : TypeId) : Bool := ccN P 100 c t
theorem ccB_ok {P : Program} (c : Cc) {t : TypeId} (h : ccB P c t = true) : CcOk P c t := (kinds_ok 100).1 c t h
end Go.Ev
end
section
/- An argument of one cell. -/
set_option linter.unusedVariables false
namespace Go.Ev
theorem cells_one {P : Program} {W : World} {r : Reach} {base : Nat} {c : Cc} {t : TypeId} {v : Value} (h : CcOk P c t) (ok : Value.okWide P W r base t v) : v.cells.toList = [v] := by
  cases v with
  | agg cs =>
    exfalso
    unfold Value.okWide at ok
    cases h with
    | int h => rw [h] at ok; simp [Cell.okWide, Cell.ok, h] at ok
    | bool h => rw [h] at ok; simp [Cell.okWide, Cell.ok, h] at ok
    | str h => rw [h] at ok; simp [Cell.okWide, Cell.ok, h] at ok
    | sl h _ _ => rw [h] at ok; simp [Cell.okWide, Cell.ok, h] at ok
  | _ => rfl
end Go.Ev
end
