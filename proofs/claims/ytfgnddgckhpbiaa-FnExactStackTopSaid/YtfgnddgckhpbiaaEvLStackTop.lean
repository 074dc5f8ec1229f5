/- The law FnExactStackTop. Printed by laws.py. -/
import Derived.Test.YtfgnddgckhpbiaaEvStkOps
import Derived.Test.YtfgnddgckhpbiaaEvSig
namespace Go.Ev.Seat
open Go.RowKit
set_option maxRecDepth 100000
set_option linter.unusedVariables false
noncomputable abbrev ls_StackTop (T : MText) : List (Nat × Bool × Sm) := [(N.s_StackTop, true, S_stop), (N.i_StackTop, true, S_stop), (N.l_toStack, true, S_toA stackR), (N.l_eqStack, true, S_eqA stackR), (N.l_szStack, true, S_szA stackR), (N.l_markStack, true, S_markA T stackR), (N.l_eqEdit, true, S_eqA editR), (N.l_markEdit, true, S_markA T editR), (N.l_heldEdit, true, S_heldA T editR)]
noncomputable abbrev pl_StackTop : List (Nat × Plan × List Nat) := [(10, takeB [0, 1] (.fork (.one 2 (.fork (.one 3 (takes [4]))))), [])]
noncomputable def G_StackTop (T : MText) := evF (En (ls_StackTop T) pl_StackTop [] [N.l_markEdit, N.l_markStack] true) true F.l_FnExactStackTop
theorem ok_StackTop {I : Nat → World → Prop} (T : MText) : OkFn prog I N.l_FnExactStackTop true (G_StackTop T) := ok_fn (l := ls_StackTop T) (memc okS_sTop (memc okS_iTop (memc okS_toStack (memc okS_eqStack (memc okS_szStack (memc (okS_markStack T) (memc okS_eqEdit (memc (okS_markEdit T) (memc (okS_heldEdit T) mem0))))))))) (by kernel_rfl) (by kernel_rfl) (by kernel_rfl) (by kernel_rfl) (cs := []) (by kernel_rfl) loops0
noncomputable def L1_StackTop (T : MText) (s : T_Stack) (b : Bool) (K : Ret → Option Ret) : Option Ret := (bif editR.cnt (topE s b).1 then (bif !(eqD ((topE s b).1 : T_Edit) (topE s b).1) then K (bl false, []) else (bif !((topE s b).2 == (topE s b).2) then K (bl false, []) else (bif (eqD (editR.markA T (editR.markA T (topE s b).1 (1 : Int)).1 (1 : Int)).1 (editR.markA T (topE s b).1 (1 : Int)).1) && (editR.cnt (editR.markA T (topE s b).1 (1 : Int)).1 && decide ((0 : Int) ≤ (1 : Int)) && decide ((1 : Int) + ((editR.marksA (editR.markA T (topE s b).1 (1 : Int)).1 : Nat) : Int) ≤ 4611686018427387904)) then (bif decide ((editR.markA T (editR.markA T (topE s b).1 (1 : Int)).1 (1 : Int)).2 < 0) then K (bl false, []) else (bif (editR.markA T (editR.markA T (topE s b).1 (1 : Int)).1 (1 : Int)).2 != (editR.markA T (topE s b).1 (1 : Int)).2 then K (bl false, []) else K (bl true, []))) else none))) else none)
noncomputable def L0_StackTop (T : MText) (s : T_Stack) (b : Bool) (K : Ret → Option Ret) : Option Ret := (bif stackR.lim s then (bif preS s then (bif editR.cnt (topE s b).1 then (bif !(eqD ((topE s b).1 : T_Edit) (topE s b).1) then K (bl false, []) else (bif !((topE s b).2 == (topE s b).2) then K (bl false, []) else (bif stackR.lim s then (bif stackR.cnt s then (bif !(eqD (s : T_Stack) s) then K (bl false, []) else (bif stackR.cnt s then (bif decide ((stackR.markA T s (1 : Int)).2 < 0) then K (bl false, []) else (bif editR.cnt (topE s b).1 then (bif !(eqD ((topE s b).1 : T_Edit) (topE s b).1) then K (bl false, []) else (bif !((topE s b).2 == (topE s b).2) then K (bl false, []) else (bif editR.cnt (topE s b).1 then (bif (eqD (editR.markA T (editR.markA T (topE s b).1 (1 : Int)).1 (1 : Int)).1 (editR.markA T (topE s b).1 (1 : Int)).1) && (editR.cnt (editR.markA T (topE s b).1 (1 : Int)).1 && decide ((0 : Int) ≤ (1 : Int)) && decide ((1 : Int) + ((editR.marksA (editR.markA T (topE s b).1 (1 : Int)).1 : Nat) : Int) ≤ 4611686018427387904)) then (bif decide ((editR.markA T (editR.markA T (topE s b).1 (1 : Int)).1 (1 : Int)).2 < 0) then K (bl false, []) else (bif (editR.markA T (editR.markA T (topE s b).1 (1 : Int)).1 (1 : Int)).2 != (editR.markA T (topE s b).1 (1 : Int)).2 then K (bl false, []) else (bif stackR.lim s then (bif preS s then (L1_StackTop T s b K) else none) else none))) else none) else none))) else none)) else none)) else none) else none))) else none) else none) else none)
theorem law_StackTop (T : MText) (s : T_Stack) (b : Bool) (K : Ret → Option Ret) (hz0 : stackR.cnz s = true) : G_StackTop T [.a (stackR.cells .no s), .s (.bool b)] K = K (bl true, []) := by
  have e : G_StackTop T [.a (stackR.cells .no s), .s (.bool b)] K = (bif szOk (1048576 : Int) && stackR.cnz s then (bif decide (szN (stackR.w s) (1048576 : Int) < 0) then K (bl true, []) else (bif stackR.lim s then (bif preS s then (L0_StackTop T s b K) else none) else none)) else none) := by kernel_rfl
  refine e.trans ?_
  refine lw_sz (show szOk 1048576 = true by rfl) hz0 (fun n0 e0 s0 => ?_)
  have hw0 : stackR.w s ≤ 1048576 := by omega
  have lim0 : stackR.lim s = true := Rw.lim_ok stackR s hw0
  have cnt0 : stackR.cnt s = true := Rw.cnt_of_lim stackR s lim0
  have mk0 : stackR.marksA s ≤ 32 * stackR.w s := Rw.marksA_le stackR rfl s
  have hpre : preS s = true := preS_of cnt0
  have rw0 : editR.w (topE s b).1 ≤ 1099511627776 := topE_w s b
  have rcnt0 : editR.cnt (topE s b).1 = true := Rw.cnt_of_w editR (topE s b).1 (by omega)
  have rmk0 : editR.marksA (topE s b).1 ≤ 32 * editR.w (topE s b).1 := Rw.marksA_le editR rfl (topE s b).1
  have k0 := Rw.markA_cnt T stackR s (1 : Int) (by omega) (by omega)
  have pk1 : 0 ≤ (stackR.markA T s (1 : Int)).2 := by omega
  have mm0 := Rw.markA_cnt T editR (topE s b).1 (1 : Int) (by omega) (by omega)
  have hq0 : (1 : Int) = 1 := rfl
  have id0 : editR.markA T (editR.markA T (topE s b).1 (1 : Int)).1 (1 : Int) = editR.markA T (topE s b).1 (1 : Int) := Rw.markA_idem T editR (topE s b).1 (1 : Int)
  have hq1 : (editR.markA T (editR.markA T (topE s b).1 (1 : Int)).1 (1 : Int)).2 = (editR.markA T (topE s b).1 (1 : Int)).2 := congrArg Prod.snd id0
  have hg0 : eqD (editR.markA T (editR.markA T (topE s b).1 (1 : Int)).1 (1 : Int)).1 (editR.markA T (topE s b).1 (1 : Int)).1 = true := eqD_iff.2 (congrArg Prod.fst id0)
  have gcnt0 : editR.cnt (editR.markA T (topE s b).1 (1 : Int)).1 = true := (Rw.markA_w T editR (topE s b).1 (1 : Int)).trans rcnt0
  have gmk0 : editR.marksA (editR.markA T (topE s b).1 (1 : Int)).1 = editR.marksA (topE s b).1 := Rw.markA_marks T editR (topE s b).1 (1 : Int)
  have pq0 : 0 ≤ (1 : Int) := by omega
  have bq0 : (1 : Int) + ((editR.marksA (editR.markA T (topE s b).1 (1 : Int)).1 : Nat) : Int) ≤ 4611686018427387904 := by omega
  have pq1 : 0 ≤ (editR.markA T (editR.markA T (topE s b).1 (1 : Int)).1 (1 : Int)).2 := by omega
  have t1 : L1_StackTop T s b K = K (bl true, []) := by
    unfold L1_StackTop
    exact (lw_eq rcnt0 (lw_bool (lw_held hg0 gcnt0 pq0 bq0 (lw_lt pq1 (lw_int2 hq1 rfl)))))
  have t0 : L0_StackTop T s b K = K (bl true, []) := by
    unfold L0_StackTop
    exact (to_step lim0 (to_step hpre (lw_eq rcnt0 (lw_bool (to_step lim0 (lw_eq cnt0 (to_step cnt0 (lw_lt pk1 (lw_eq rcnt0 (lw_bool (to_step rcnt0 (lw_held hg0 gcnt0 pq0 bq0 (lw_lt pq1 (lw_int2 hq1 (to_step lim0 (to_step hpre t1))))))))))))))))
  exact (to_step lim0 (to_step hpre t0))
end Go.Ev.Seat
