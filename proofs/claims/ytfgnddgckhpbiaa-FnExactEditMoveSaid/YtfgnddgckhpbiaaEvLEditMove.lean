/- The law FnExactEditMove. Printed by laws.py. -/
import Derived.Test.YtfgnddgckhpbiaaEvMoves
import Derived.Test.YtfgnddgckhpbiaaEvSig
namespace Go.Ev.Seat
open Go.RowKit
set_option maxRecDepth 100000
set_option linter.unusedVariables false
noncomputable abbrev ls_EditMove (T : MText) : List (Nat × Bool × Sm) := [(N.s_EditMove, true, S_move), (N.i_EditMove, true, S_move), (N.l_toEdit, true, S_toA editR), (N.l_eqEdit, true, S_eqA editR), (N.l_szEdit, true, S_szA editR), (N.l_markEdit, true, S_markA T editR), (N.l_heldEdit, true, S_heldA T editR)]
noncomputable abbrev pl_EditMove : List (Nat × Plan × List Nat) := [(8, takeB [0, 2] (.fork (.more 1 (.fork (.more 3 (.fork (.more 4 (takeB [5, 6, 7] (.fork (.one 8 (.fork (.one 9 (takes [10])))))) (.one 8 (.fork (.one 4 (takeB [5, 6, 7] (.fork (.one 9 (takes [10]))))))))) (.one 8 (.fork (.one 3 (.fork (.one 4 (takeB [5, 6, 7] (.fork (.one 9 (takes [10]))))))))))) (.one 8 (.fork (.one 1 (.fork (.one 3 (.fork (.one 4 (takeB [5, 6, 7] (.fork (.one 9 (takes [10]))))))))))))), []), (14, takeB [0, 1] (.fork (.one 2 (.fork (.one 3 (takes [4]))))), []), (16, takeB [0, 1] (.fork (.one 2 (.fork (.one 3 (takes [4]))))), []), (31, takeB [0, 2] (.fork (.more 1 (.fork (.more 3 (.fork (.more 4 (takeB [5, 6, 7] (.fork (.one 8 (.fork (.one 9 (takes [10])))))) (.one 8 (.fork (.one 4 (takeB [5, 6, 7] (.fork (.one 9 (takes [10]))))))))) (.one 8 (.fork (.one 3 (.fork (.one 4 (takeB [5, 6, 7] (.fork (.one 9 (takes [10]))))))))))) (.one 8 (.fork (.one 1 (.fork (.one 3 (.fork (.one 4 (takeB [5, 6, 7] (.fork (.one 9 (takes [10]))))))))))))), [])]
noncomputable def G_EditMove (T : MText) := evF (En (ls_EditMove T) pl_EditMove [] [N.l_markEdit] true) true F.l_FnExactEditMove
theorem ok_EditMove {I : Nat → World → Prop} (T : MText) : OkFn prog I N.l_FnExactEditMove true (G_EditMove T) := ok_fn (l := ls_EditMove T) (memc okS_sMove (memc okS_iMove (memc okS_toEdit (memc okS_eqEdit (memc okS_szEdit (memc (okS_markEdit T) (memc (okS_heldEdit T) mem0))))))) (by kernel_rfl) (by kernel_rfl) (by kernel_rfl) (by kernel_rfl) (cs := []) (by kernel_rfl) loops0
noncomputable def L1_EditMove (T : MText) (a : T_Edit) (b : T_Edit) (K : Ret → Option Ret) : Option Ret := (bif editR.cnt (moveD a b).1 then (bif !(eqD ((moveD a b).1 : T_Edit) (moveD a b).1) then K (bl false, []) else (bif !((moveD a b).2 == (moveD a b).2) then K (bl false, []) else (bif (eqD (editR.markA T (editR.markA T (moveD a b).1 (1 : Int)).1 (1 : Int)).1 (editR.markA T (moveD a b).1 (1 : Int)).1) && (editR.cnt (editR.markA T (moveD a b).1 (1 : Int)).1 && decide ((0 : Int) ≤ (1 : Int)) && decide ((1 : Int) + ((editR.marksA (editR.markA T (moveD a b).1 (1 : Int)).1 : Nat) : Int) ≤ 4611686018427387904)) then (bif decide ((editR.markA T (editR.markA T (moveD a b).1 (1 : Int)).1 (1 : Int)).2 < 0) then K (bl false, []) else (bif (editR.markA T (editR.markA T (moveD a b).1 (1 : Int)).1 (1 : Int)).2 != (editR.markA T (moveD a b).1 (1 : Int)).2 then K (bl false, []) else K (bl true, []))) else none))) else none)
noncomputable def L0_EditMove (T : MText) (a : T_Edit) (b : T_Edit) (K : Ret → Option Ret) : Option Ret := (bif editR.lim a then (bif editR.lim b then (bif editR.cnt (moveD a b).1 then (bif !(eqD ((moveD a b).1 : T_Edit) (moveD a b).1) then K (bl false, []) else (bif !((moveD a b).2 == (moveD a b).2) then K (bl false, []) else (bif editR.lim a then (bif editR.cnt a then (bif !(eqD (a : T_Edit) a) then K (bl false, []) else (bif editR.lim b then (bif editR.cnt b then (bif !(eqD (b : T_Edit) b) then K (bl false, []) else (bif editR.cnt a then (bif editR.cnt b then (bif decide ((editR.markA T b (editR.markA T a (1 : Int)).2).2 < 0) then K (bl false, []) else (bif editR.cnt (moveD a b).1 then (bif !(eqD ((moveD a b).1 : T_Edit) (moveD a b).1) then K (bl false, []) else (bif !((moveD a b).2 == (moveD a b).2) then K (bl false, []) else (bif editR.cnt (moveD a b).1 then (bif (eqD (editR.markA T (editR.markA T (moveD a b).1 (1 : Int)).1 (1 : Int)).1 (editR.markA T (moveD a b).1 (1 : Int)).1) && (editR.cnt (editR.markA T (moveD a b).1 (1 : Int)).1 && decide ((0 : Int) ≤ (1 : Int)) && decide ((1 : Int) + ((editR.marksA (editR.markA T (moveD a b).1 (1 : Int)).1 : Nat) : Int) ≤ 4611686018427387904)) then (bif decide ((editR.markA T (editR.markA T (moveD a b).1 (1 : Int)).1 (1 : Int)).2 < 0) then K (bl false, []) else (bif (editR.markA T (editR.markA T (moveD a b).1 (1 : Int)).1 (1 : Int)).2 != (editR.markA T (moveD a b).1 (1 : Int)).2 then K (bl false, []) else (meet (bif editR.lim a then (meet (bif editR.lim b then (meet (L1_EditMove T a b K) (L1_EditMove T a b K)) else none) (bif editR.lim b then (L1_EditMove T a b K) else none)) else none) (bif editR.lim a then (bif editR.lim b then (L1_EditMove T a b K) else none) else none)))) else none) else none))) else none)) else none) else none)) else none) else none)) else none) else none))) else none) else none) else none)
theorem law_EditMove (T : MText) (a : T_Edit) (b : T_Edit) (K : Ret → Option Ret) (hz0 : editR.cnz a = true) (hz1 : editR.cnz b = true) : G_EditMove T [.a (editR.cells .no a), .a (editR.cells .no b)] K = K (bl true, []) := by
  have e : G_EditMove T [.a (editR.cells .no a), .a (editR.cells .no b)] K = (bif szOk (1048576 : Int) && editR.cnz a then (bif decide (szN (editR.w a) (1048576 : Int) < 0) then K (bl true, []) else (bif szOk (szN (editR.w a) (1048576 : Int)) && editR.cnz b then (bif decide (szN (editR.w b) (szN (editR.w a) (1048576 : Int)) < 0) then K (bl true, []) else (meet (bif editR.lim a then (meet (bif editR.lim b then (meet (L0_EditMove T a b K) (L0_EditMove T a b K)) else none) (bif editR.lim b then (L0_EditMove T a b K) else none)) else none) (bif editR.lim a then (bif editR.lim b then (L0_EditMove T a b K) else none) else none))) else none)) else none) := by kernel_rfl
  refine e.trans ?_
  refine lw_sz (show szOk 1048576 = true by rfl) hz0 (fun n0 e0 s0 => ?_)
  refine lw_sz s0 hz1 (fun n1 e1 s1 => ?_)
  have hw0 : editR.w a ≤ 1048576 := by omega
  have lim0 : editR.lim a = true := Rw.lim_ok editR a hw0
  have cnt0 : editR.cnt a = true := Rw.cnt_of_lim editR a lim0
  have mk0 : editR.marksA a ≤ 32 * editR.w a := Rw.marksA_le editR rfl a
  have hw1 : editR.w b ≤ 1048576 := by omega
  have lim1 : editR.lim b = true := Rw.lim_ok editR b hw1
  have cnt1 : editR.cnt b = true := Rw.cnt_of_lim editR b lim1
  have mk1 : editR.marksA b ≤ 32 * editR.w b := Rw.marksA_le editR rfl b
  have rw0 : editR.w (moveD a b).1 ≤ 1099511627776 := moveD_w a b
  have rcnt0 : editR.cnt (moveD a b).1 = true := Rw.cnt_of_w editR (moveD a b).1 (by omega)
  have rmk0 : editR.marksA (moveD a b).1 ≤ 32 * editR.w (moveD a b).1 := Rw.marksA_le editR rfl (moveD a b).1
  have k0 := Rw.markA_cnt T editR a (1 : Int) (by omega) (by omega)
  have k1 := Rw.markA_cnt T editR b (editR.markA T a (1 : Int)).2 (by omega) (by omega)
  have pk2 : 0 ≤ (editR.markA T b (editR.markA T a (1 : Int)).2).2 := by omega
  have mm0 := Rw.markA_cnt T editR (moveD a b).1 (1 : Int) (by omega) (by omega)
  have hq0 : (1 : Int) = 1 := rfl
  have id0 : editR.markA T (editR.markA T (moveD a b).1 (1 : Int)).1 (1 : Int) = editR.markA T (moveD a b).1 (1 : Int) := Rw.markA_idem T editR (moveD a b).1 (1 : Int)
  have hq1 : (editR.markA T (editR.markA T (moveD a b).1 (1 : Int)).1 (1 : Int)).2 = (editR.markA T (moveD a b).1 (1 : Int)).2 := congrArg Prod.snd id0
  have hg0 : eqD (editR.markA T (editR.markA T (moveD a b).1 (1 : Int)).1 (1 : Int)).1 (editR.markA T (moveD a b).1 (1 : Int)).1 = true := eqD_iff.2 (congrArg Prod.fst id0)
  have gcnt0 : editR.cnt (editR.markA T (moveD a b).1 (1 : Int)).1 = true := (Rw.markA_w T editR (moveD a b).1 (1 : Int)).trans rcnt0
  have gmk0 : editR.marksA (editR.markA T (moveD a b).1 (1 : Int)).1 = editR.marksA (moveD a b).1 := Rw.markA_marks T editR (moveD a b).1 (1 : Int)
  have pq0 : 0 ≤ (1 : Int) := by omega
  have bq0 : (1 : Int) + ((editR.marksA (editR.markA T (moveD a b).1 (1 : Int)).1 : Nat) : Int) ≤ 4611686018427387904 := by omega
  have pq1 : 0 ≤ (editR.markA T (editR.markA T (moveD a b).1 (1 : Int)).1 (1 : Int)).2 := by omega
  have t1 : L1_EditMove T a b K = K (bl true, []) := by
    unfold L1_EditMove
    exact (lw_eq rcnt0 (lw_bool (lw_held hg0 gcnt0 pq0 bq0 (lw_lt pq1 (lw_int2 hq1 rfl)))))
  have t0 : L0_EditMove T a b K = K (bl true, []) := by
    unfold L0_EditMove
    exact (to_step lim0 (to_step lim1 (lw_eq rcnt0 (lw_bool (to_step lim0 (lw_eq cnt0 (to_step lim1 (lw_eq cnt1 (to_step cnt0 (to_step cnt1 (lw_lt pk2 (lw_eq rcnt0 (lw_bool (to_step rcnt0 (lw_held hg0 gcnt0 pq0 bq0 (lw_lt pq1 (lw_int2 hq1 (lw_meet (to_step lim0 (lw_meet (to_step lim1 (lw_meet t1 t1)) (to_step lim1 t1))) (to_step lim0 (to_step lim1 t1))))))))))))))))))))
  exact (lw_meet (to_step lim0 (lw_meet (to_step lim1 (lw_meet t0 t0)) (to_step lim1 t0))) (to_step lim0 (to_step lim1 t0)))
end Go.Ev.Seat
