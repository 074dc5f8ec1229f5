/- The law FnExactEditMoves. Printed by laws.py. -/
import Derived.Test.YtfgnddgckhpbiaaEvMoves
import Derived.Test.YtfgnddgckhpbiaaEvSig
namespace Go.Ev.Seat
open Go.RowKit
set_option maxRecDepth 100000
set_option linter.unusedVariables false
noncomputable abbrev ls_EditMoves (T : MText) : List (Nat × Bool × Sm) := [(N.s_EditMoves, true, S_moves), (N.i_EditMoves, true, S_moves), (N.l_toEdit, true, S_toA editR), (N.l_eqEdit, true, S_eqA editR), (N.l_szEdit, true, S_szA editR), (N.l_markEdit, true, S_markA T editR), (N.l_toEditS, true, S_toL editR), (N.l_eqEditS, true, S_eq editR), (N.l_szEditS, true, S_szL editR), (N.l_markEditS, true, S_markL T editR), (N.l_heldEdit, true, S_heldA T editR)]
noncomputable abbrev pl_EditMoves : List (Nat × Plan × List Nat) := [(14, takeB [0, 1] (.fork (.one 2 (.fork (.one 3 (takes [4]))))), [])]
noncomputable def G_EditMoves (T : MText) := evF (En (ls_EditMoves T) pl_EditMoves [] [N.l_markEdit, N.l_markEditS] true) true F.l_FnExactEditMoves
theorem ok_EditMoves {I : Nat → World → Prop} (T : MText) : OkFn prog I N.l_FnExactEditMoves true (G_EditMoves T) := ok_fn (l := ls_EditMoves T) (memc okS_sMoves (memc okS_iMoves (memc okS_toEdit (memc okS_eqEdit (memc okS_szEdit (memc (okS_markEdit T) (memc okS_toEditS (memc okS_eqEditS (memc okS_szEditS (memc (okS_markEditS T) (memc (okS_heldEdit T) mem0))))))))))) (by kernel_rfl) (by kernel_rfl) (by kernel_rfl) (by kernel_rfl) (cs := []) (by kernel_rfl) loops0
noncomputable def L1_EditMoves (T : MText) (a : T_Edit) (l : List T_Edit) (K : Ret → Option Ret) : Option Ret := (bif editR.cnt (movesD a l).1 then (bif !(eqD ((movesD a l).1 : T_Edit) (movesD a l).1) then K (bl false, []) else (bif !((movesD a l).2 == (movesD a l).2) then K (bl false, []) else (bif (eqD (editR.markA T (editR.markA T (movesD a l).1 (1 : Int)).1 (1 : Int)).1 (editR.markA T (movesD a l).1 (1 : Int)).1) && (editR.cnt (editR.markA T (movesD a l).1 (1 : Int)).1 && decide ((0 : Int) ≤ (1 : Int)) && decide ((1 : Int) + ((editR.marksA (editR.markA T (movesD a l).1 (1 : Int)).1 : Nat) : Int) ≤ 4611686018427387904)) then (bif decide ((editR.markA T (editR.markA T (movesD a l).1 (1 : Int)).1 (1 : Int)).2 < 0) then K (bl false, []) else (bif (editR.markA T (editR.markA T (movesD a l).1 (1 : Int)).1 (1 : Int)).2 != (editR.markA T (movesD a l).1 (1 : Int)).2 then K (bl false, []) else K (bl true, []))) else none))) else none)
noncomputable def L0_EditMoves (T : MText) (a : T_Edit) (l : List T_Edit) (K : Ret → Option Ret) : Option Ret := (bif editR.lim a then (bif (Cc.sl editR).lim l then (bif preL l then (bif editR.cnt (movesD a l).1 then (bif !(eqD ((movesD a l).1 : T_Edit) (movesD a l).1) then K (bl false, []) else (bif !((movesD a l).2 == (movesD a l).2) then K (bl false, []) else (bif editR.lim a then (bif editR.cnt a then (bif !(eqD (a : T_Edit) a) then K (bl false, []) else (bif (Cc.sl editR).lim l then (bif (Cc.sl editR).cnt l then (bif !(eqD (l : List T_Edit) l) then K (bl false, []) else (bif editR.cnt a then (bif (Cc.sl editR).cnt l then (bif decide (((Cc.sl editR).mark T l (editR.markA T a (1 : Int)).2).2 < 0) then K (bl false, []) else (bif editR.cnt (movesD a l).1 then (bif !(eqD ((movesD a l).1 : T_Edit) (movesD a l).1) then K (bl false, []) else (bif !((movesD a l).2 == (movesD a l).2) then K (bl false, []) else (bif editR.cnt (movesD a l).1 then (bif (eqD (editR.markA T (editR.markA T (movesD a l).1 (1 : Int)).1 (1 : Int)).1 (editR.markA T (movesD a l).1 (1 : Int)).1) && (editR.cnt (editR.markA T (movesD a l).1 (1 : Int)).1 && decide ((0 : Int) ≤ (1 : Int)) && decide ((1 : Int) + ((editR.marksA (editR.markA T (movesD a l).1 (1 : Int)).1 : Nat) : Int) ≤ 4611686018427387904)) then (bif decide ((editR.markA T (editR.markA T (movesD a l).1 (1 : Int)).1 (1 : Int)).2 < 0) then K (bl false, []) else (bif (editR.markA T (editR.markA T (movesD a l).1 (1 : Int)).1 (1 : Int)).2 != (editR.markA T (movesD a l).1 (1 : Int)).2 then K (bl false, []) else (bif editR.lim a then (bif (Cc.sl editR).lim l then (bif preL l then (L1_EditMoves T a l K) else none) else none) else none))) else none) else none))) else none)) else none) else none)) else none) else none)) else none) else none))) else none) else none) else none) else none)
theorem law_EditMoves (T : MText) (a : T_Edit) (l : List T_Edit) (K : Ret → Option Ret) (hz0 : editR.cnz a = true) (hz1 : (Cc.sl editR).cnz l = true) : G_EditMoves T [.a (editR.cells .no a), .l .no editR l] K = K (bl true, []) := by
  have e : G_EditMoves T [.a (editR.cells .no a), .l .no editR l] K = (bif szOk (1048576 : Int) && editR.cnz a then (bif decide (szN (editR.w a) (1048576 : Int) < 0) then K (bl true, []) else (bif szOk (szN (editR.w a) (1048576 : Int)) && (Cc.sl editR).cnz l then (bif decide (szN ((Cc.sl editR).w l) (szN (editR.w a) (1048576 : Int)) < 0) then K (bl true, []) else (bif editR.lim a then (bif (Cc.sl editR).lim l then (bif preL l then (L0_EditMoves T a l K) else none) else none) else none)) else none)) else none) := by kernel_rfl
  refine e.trans ?_
  refine lw_sz (show szOk 1048576 = true by rfl) hz0 (fun n0 e0 s0 => ?_)
  refine lw_sz s0 hz1 (fun n1 e1 s1 => ?_)
  have hw0 : editR.w a ≤ 1048576 := by omega
  have lim0 : editR.lim a = true := Rw.lim_ok editR a hw0
  have cnt0 : editR.cnt a = true := Rw.cnt_of_lim editR a lim0
  have mk0 : editR.marksA a ≤ 32 * editR.w a := Rw.marksA_le editR rfl a
  have hw1 : (Cc.sl editR).w l ≤ 1048576 := by omega
  have lim1 : (Cc.sl editR).lim l = true := Cc.lim_ok (.sl editR) l hw1
  have cnt1 : (Cc.sl editR).cnt l = true := Cc.cnt_of_lim (.sl editR) l lim1
  have mk1 : (Cc.sl editR).marks l ≤ 32 * (Cc.sl editR).w l := Cc.marksA_le (.sl editR) rfl l
  have hpre : preL l = true := Nat.ble_eq_true_of_le (Nat.le_of_ble_eq_true ((Bool.and_eq_true _ _).mp cnt1).1)
  have rw0 : editR.w (movesD a l).1 ≤ 1099511627776 := movesD_w a l
  have rcnt0 : editR.cnt (movesD a l).1 = true := Rw.cnt_of_w editR (movesD a l).1 (by omega)
  have rmk0 : editR.marksA (movesD a l).1 ≤ 32 * editR.w (movesD a l).1 := Rw.marksA_le editR rfl (movesD a l).1
  have k0 := Rw.markA_cnt T editR a (1 : Int) (by omega) (by omega)
  have k1 := Cc.mark_cnt T (.sl editR) l (editR.markA T a (1 : Int)).2 (by omega) (by omega)
  have pk2 : 0 ≤ ((Cc.sl editR).mark T l (editR.markA T a (1 : Int)).2).2 := by omega
  have mm0 := Rw.markA_cnt T editR (movesD a l).1 (1 : Int) (by omega) (by omega)
  have hq0 : (1 : Int) = 1 := rfl
  have id0 : editR.markA T (editR.markA T (movesD a l).1 (1 : Int)).1 (1 : Int) = editR.markA T (movesD a l).1 (1 : Int) := Rw.markA_idem T editR (movesD a l).1 (1 : Int)
  have hq1 : (editR.markA T (editR.markA T (movesD a l).1 (1 : Int)).1 (1 : Int)).2 = (editR.markA T (movesD a l).1 (1 : Int)).2 := congrArg Prod.snd id0
  have hg0 : eqD (editR.markA T (editR.markA T (movesD a l).1 (1 : Int)).1 (1 : Int)).1 (editR.markA T (movesD a l).1 (1 : Int)).1 = true := eqD_iff.2 (congrArg Prod.fst id0)
  have gcnt0 : editR.cnt (editR.markA T (movesD a l).1 (1 : Int)).1 = true := (Rw.markA_w T editR (movesD a l).1 (1 : Int)).trans rcnt0
  have gmk0 : editR.marksA (editR.markA T (movesD a l).1 (1 : Int)).1 = editR.marksA (movesD a l).1 := Rw.markA_marks T editR (movesD a l).1 (1 : Int)
  have pq0 : 0 ≤ (1 : Int) := by omega
  have bq0 : (1 : Int) + ((editR.marksA (editR.markA T (movesD a l).1 (1 : Int)).1 : Nat) : Int) ≤ 4611686018427387904 := by omega
  have pq1 : 0 ≤ (editR.markA T (editR.markA T (movesD a l).1 (1 : Int)).1 (1 : Int)).2 := by omega
  have t1 : L1_EditMoves T a l K = K (bl true, []) := by
    unfold L1_EditMoves
    exact (lw_eq rcnt0 (lw_bool (lw_held hg0 gcnt0 pq0 bq0 (lw_lt pq1 (lw_int2 hq1 rfl)))))
  have t0 : L0_EditMoves T a l K = K (bl true, []) := by
    unfold L0_EditMoves
    exact (to_step lim0 (to_step lim1 (to_step hpre (lw_eq rcnt0 (lw_bool (to_step lim0 (lw_eq cnt0 (to_step lim1 (lw_eq cnt1 (to_step cnt0 (to_step cnt1 (lw_lt pk2 (lw_eq rcnt0 (lw_bool (to_step rcnt0 (lw_held hg0 gcnt0 pq0 bq0 (lw_lt pq1 (lw_int2 hq1 (to_step lim0 (to_step lim1 (to_step hpre t1)))))))))))))))))))))
  exact (to_step lim0 (to_step lim1 (to_step hpre t0)))
end Go.Ev.Seat
