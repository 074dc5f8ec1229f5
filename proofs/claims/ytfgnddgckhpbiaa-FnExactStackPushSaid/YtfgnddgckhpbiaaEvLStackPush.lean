/- The law FnExactStackPush. Printed by laws.py. -/
import Derived.Test.YtfgnddgckhpbiaaEvStkOps
import Derived.Test.YtfgnddgckhpbiaaEvSig
namespace Go.Ev.Seat
open Go.RowKit
set_option maxRecDepth 100000
set_option linter.unusedVariables false
noncomputable abbrev ls_StackPush (T : MText) : List (Nat × Bool × Sm) := [(N.s_StackPush, false, S_sPush), (N.i_StackPush, true, S_iPush), (N.l_toStack, true, S_toA stackR), (N.l_eqStack, true, S_eqA stackR), (N.l_szStack, true, S_szA stackR), (N.l_markStack, true, S_markA T stackR), (N.l_toEdit, true, S_toA editR), (N.l_eqEdit, true, S_eqA editR), (N.l_szEdit, true, S_szA editR), (N.l_markEdit, true, S_markA T editR), (N.l_heldStack, true, S_heldA T stackR)]
noncomputable abbrev pl_StackPush : List (Nat × Plan × List Nat) := [(8, takeB [0, 2] (.fork (.more 1 (.fork (.more 3 (.fork (.more 4 (takeB [5, 6, 7] (.fork (.one 8 (.fork (.one 9 (takes [10])))))) (.one 8 (.fork (.one 4 (takeB [5, 6, 7] (.fork (.one 9 (takes [10]))))))))) (.one 8 (.fork (.one 3 (.fork (.one 4 (takeB [5, 6, 7] (.fork (.one 9 (takes [10]))))))))))) (.one 8 (.fork (.one 1 (.fork (.one 3 (.fork (.one 4 (takeB [5, 6, 7] (.fork (.one 9 (takes [10]))))))))))))), []), (14, takeB [0, 1] (.fork (.one 2 (.fork (.one 3 (takes [4]))))), []), (16, takeB [0, 1] (.fork (.one 2 (.fork (.one 3 (takes [4]))))), []), (31, takeB [0, 2] (.fork (.more 1 (.fork (.more 3 (.fork (.more 4 (takeB [5, 6, 7] (.fork (.one 8 (.fork (.one 9 (takes [10])))))) (.one 8 (.fork (.one 4 (takeB [5, 6, 7] (.fork (.one 9 (takes [10]))))))))) (.one 8 (.fork (.one 3 (.fork (.one 4 (takeB [5, 6, 7] (.fork (.one 9 (takes [10]))))))))))) (.one 8 (.fork (.one 1 (.fork (.one 3 (.fork (.one 4 (takeB [5, 6, 7] (.fork (.one 9 (takes [10]))))))))))))), [])]
noncomputable def G_StackPush (T : MText) := evF (En (ls_StackPush T) pl_StackPush [] [N.l_markEdit, N.l_markStack] true) true F.l_FnExactStackPush
theorem ok_StackPush {I : Nat → World → Prop} (T : MText) : OkFn prog I N.l_FnExactStackPush true (G_StackPush T) := ok_fn (l := ls_StackPush T) (memc okS_sPush (memc okS_iPush (memc okS_toStack (memc okS_eqStack (memc okS_szStack (memc (okS_markStack T) (memc okS_toEdit (memc okS_eqEdit (memc okS_szEdit (memc (okS_markEdit T) (memc (okS_heldStack T) mem0))))))))))) (by kernel_rfl) (by kernel_rfl) (by kernel_rfl) (by kernel_rfl) (cs := []) (by kernel_rfl) loops0
noncomputable def L1_StackPush (T : MText) (s : T_Stack) (a : T_Edit) (K : Ret → Option Ret) : Option Ret := (bif stackR.cnt (pushD s a).1 then (bif !(eqD ((pushD s a).1 : T_Stack) (pushD s a).1) then K (bl false, []) else (bif !((pushD s a).2 == (pushD s a).2) then K (bl false, []) else (bif (eqD (stackR.markA T (stackR.markA T (pushD s a).1 (1 : Int)).1 (1 : Int)).1 (stackR.markA T (pushD s a).1 (1 : Int)).1) && (stackR.cnt (stackR.markA T (pushD s a).1 (1 : Int)).1 && decide ((0 : Int) ≤ (1 : Int)) && decide ((1 : Int) + ((stackR.marksA (stackR.markA T (pushD s a).1 (1 : Int)).1 : Nat) : Int) ≤ 4611686018427387904)) then (bif decide ((stackR.markA T (stackR.markA T (pushD s a).1 (1 : Int)).1 (1 : Int)).2 < 0) then K (bl false, []) else (bif (stackR.markA T (stackR.markA T (pushD s a).1 (1 : Int)).1 (1 : Int)).2 != (stackR.markA T (pushD s a).1 (1 : Int)).2 then K (bl false, []) else K (bl true, []))) else none))) else none)
noncomputable def L0_StackPush (T : MText) (s : T_Stack) (a : T_Edit) (K : Ret → Option Ret) : Option Ret := (bif stackR.lim s then (bif editR.lim a then (bif preS s then (bif stackR.cnt (pushD s a).1 then (bif !(eqD ((pushD s a).1 : T_Stack) (pushD s a).1) then K (bl false, []) else (bif !((pushD s a).2 == (pushD s a).2) then K (bl false, []) else (bif stackR.lim s then (bif stackR.cnt s then (bif !(eqD (s : T_Stack) s) then K (bl false, []) else (bif editR.lim a then (bif editR.cnt a then (bif !(eqD (a : T_Edit) a) then K (bl false, []) else (bif stackR.cnt s then (bif editR.cnt a then (bif decide ((editR.markA T a (stackR.markA T s (1 : Int)).2).2 < 0) then K (bl false, []) else (bif stackR.cnt (pushD s a).1 then (bif !(eqD ((pushD s a).1 : T_Stack) (pushD s a).1) then K (bl false, []) else (bif !((pushD s a).2 == (pushD s a).2) then K (bl false, []) else (bif stackR.cnt (pushD s a).1 then (bif (eqD (stackR.markA T (stackR.markA T (pushD s a).1 (1 : Int)).1 (1 : Int)).1 (stackR.markA T (pushD s a).1 (1 : Int)).1) && (stackR.cnt (stackR.markA T (pushD s a).1 (1 : Int)).1 && decide ((0 : Int) ≤ (1 : Int)) && decide ((1 : Int) + ((stackR.marksA (stackR.markA T (pushD s a).1 (1 : Int)).1 : Nat) : Int) ≤ 4611686018427387904)) then (bif decide ((stackR.markA T (stackR.markA T (pushD s a).1 (1 : Int)).1 (1 : Int)).2 < 0) then K (bl false, []) else (bif (stackR.markA T (stackR.markA T (pushD s a).1 (1 : Int)).1 (1 : Int)).2 != (stackR.markA T (pushD s a).1 (1 : Int)).2 then K (bl false, []) else (meet (bif stackR.lim s then (meet (bif editR.lim a then (meet (bif preS s then (L1_StackPush T s a K) else none) (bif preS s then (L1_StackPush T s a K) else none)) else none) (bif editR.lim a then (bif preS s then (L1_StackPush T s a K) else none) else none)) else none) (bif stackR.lim s then (bif editR.lim a then (bif preS s then (L1_StackPush T s a K) else none) else none) else none)))) else none) else none))) else none)) else none) else none)) else none) else none)) else none) else none))) else none) else none) else none) else none)
theorem law_StackPush (T : MText) (s : T_Stack) (a : T_Edit) (K : Ret → Option Ret) (hz0 : stackR.cnz s = true) (hz1 : editR.cnz a = true) : G_StackPush T [.a (stackR.cells .no s), .a (editR.cells .no a)] K = K (bl true, []) := by
  have e : G_StackPush T [.a (stackR.cells .no s), .a (editR.cells .no a)] K = (bif szOk (1048576 : Int) && stackR.cnz s then (bif decide (szN (stackR.w s) (1048576 : Int) < 0) then K (bl true, []) else (bif szOk (szN (stackR.w s) (1048576 : Int)) && editR.cnz a then (bif decide (szN (editR.w a) (szN (stackR.w s) (1048576 : Int)) < 0) then K (bl true, []) else (meet (bif stackR.lim s then (meet (bif editR.lim a then (meet (bif preS s then (L0_StackPush T s a K) else none) (bif preS s then (L0_StackPush T s a K) else none)) else none) (bif editR.lim a then (bif preS s then (L0_StackPush T s a K) else none) else none)) else none) (bif stackR.lim s then (bif editR.lim a then (bif preS s then (L0_StackPush T s a K) else none) else none) else none))) else none)) else none) := by kernel_rfl
  refine e.trans ?_
  refine lw_sz (show szOk 1048576 = true by rfl) hz0 (fun n0 e0 s0 => ?_)
  refine lw_sz s0 hz1 (fun n1 e1 s1 => ?_)
  have hw0 : stackR.w s ≤ 1048576 := by omega
  have lim0 : stackR.lim s = true := Rw.lim_ok stackR s hw0
  have cnt0 : stackR.cnt s = true := Rw.cnt_of_lim stackR s lim0
  have mk0 : stackR.marksA s ≤ 32 * stackR.w s := Rw.marksA_le stackR rfl s
  have hw1 : editR.w a ≤ 1048576 := by omega
  have lim1 : editR.lim a = true := Rw.lim_ok editR a hw1
  have cnt1 : editR.cnt a = true := Rw.cnt_of_lim editR a lim1
  have mk1 : editR.marksA a ≤ 32 * editR.w a := Rw.marksA_le editR rfl a
  have hpre : preS s = true := preS_of cnt0
  have rw0 : stackR.w (pushD s a).1 ≤ 1099511627776 := Nat.le_trans (pushD_w s a) (by omega)
  have rcnt0 : stackR.cnt (pushD s a).1 = true := Rw.cnt_of_w stackR (pushD s a).1 (by omega)
  have rmk0 : stackR.marksA (pushD s a).1 ≤ 32 * stackR.w (pushD s a).1 := Rw.marksA_le stackR rfl (pushD s a).1
  have k0 := Rw.markA_cnt T stackR s (1 : Int) (by omega) (by omega)
  have k1 := Rw.markA_cnt T editR a (stackR.markA T s (1 : Int)).2 (by omega) (by omega)
  have pk2 : 0 ≤ (editR.markA T a (stackR.markA T s (1 : Int)).2).2 := by omega
  have mm0 := Rw.markA_cnt T stackR (pushD s a).1 (1 : Int) (by omega) (by omega)
  have hq0 : (1 : Int) = 1 := rfl
  have id0 : stackR.markA T (stackR.markA T (pushD s a).1 (1 : Int)).1 (1 : Int) = stackR.markA T (pushD s a).1 (1 : Int) := Rw.markA_idem T stackR (pushD s a).1 (1 : Int)
  have hq1 : (stackR.markA T (stackR.markA T (pushD s a).1 (1 : Int)).1 (1 : Int)).2 = (stackR.markA T (pushD s a).1 (1 : Int)).2 := congrArg Prod.snd id0
  have hg0 : eqD (stackR.markA T (stackR.markA T (pushD s a).1 (1 : Int)).1 (1 : Int)).1 (stackR.markA T (pushD s a).1 (1 : Int)).1 = true := eqD_iff.2 (congrArg Prod.fst id0)
  have gcnt0 : stackR.cnt (stackR.markA T (pushD s a).1 (1 : Int)).1 = true := (Rw.markA_w T stackR (pushD s a).1 (1 : Int)).trans rcnt0
  have gmk0 : stackR.marksA (stackR.markA T (pushD s a).1 (1 : Int)).1 = stackR.marksA (pushD s a).1 := Rw.markA_marks T stackR (pushD s a).1 (1 : Int)
  have pq0 : 0 ≤ (1 : Int) := by omega
  have bq0 : (1 : Int) + ((stackR.marksA (stackR.markA T (pushD s a).1 (1 : Int)).1 : Nat) : Int) ≤ 4611686018427387904 := by omega
  have pq1 : 0 ≤ (stackR.markA T (stackR.markA T (pushD s a).1 (1 : Int)).1 (1 : Int)).2 := by omega
  have t1 : L1_StackPush T s a K = K (bl true, []) := by
    unfold L1_StackPush
    exact (lw_eq rcnt0 (lw_bool (lw_held hg0 gcnt0 pq0 bq0 (lw_lt pq1 (lw_int2 hq1 rfl)))))
  have t0 : L0_StackPush T s a K = K (bl true, []) := by
    unfold L0_StackPush
    exact (to_step lim0 (to_step lim1 (to_step hpre (lw_eq rcnt0 (lw_bool (to_step lim0 (lw_eq cnt0 (to_step lim1 (lw_eq cnt1 (to_step cnt0 (to_step cnt1 (lw_lt pk2 (lw_eq rcnt0 (lw_bool (to_step rcnt0 (lw_held hg0 gcnt0 pq0 bq0 (lw_lt pq1 (lw_int2 hq1 (lw_meet (to_step lim0 (lw_meet (to_step lim1 (lw_meet (to_step hpre t1) (to_step hpre t1))) (to_step lim1 (to_step hpre t1)))) (to_step lim0 (to_step lim1 (to_step hpre t1))))))))))))))))))))))
  exact (lw_meet (to_step lim0 (lw_meet (to_step lim1 (lw_meet (to_step hpre t0) (to_step hpre t0))) (to_step lim1 (to_step hpre t0)))) (to_step lim0 (to_step lim1 (to_step hpre t0))))
end Go.Ev.Seat
