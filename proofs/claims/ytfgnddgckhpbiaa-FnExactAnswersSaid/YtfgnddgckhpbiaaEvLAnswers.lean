/- The law FnExactAnswers. Printed by laws.py. -/
import Derived.Test.YtfgnddgckhpbiaaEvAnsB
import Derived.Test.YtfgnddgckhpbiaaEvSig
namespace Go.Ev.Seat
open Go.RowKit
set_option maxRecDepth 100000
set_option linter.unusedVariables false
noncomputable abbrev ls_Answers (T : MText) : List (Nat × Bool × Sm) := [(N.s_Answers, true, S_answers), (N.i_Answers, true, S_answers), (N.l_toOutS, true, S_toL outR), (N.l_eqOutS, true, S_eq outR), (N.l_szOutS, true, S_szL outR), (N.l_markOutS, true, S_markL T outR), (N.l_eqReplyS, true, S_eq replyR), (N.l_markReplyS, true, S_markL T replyR), (N.l_heldReplyS, true, S_heldL T replyR)]
noncomputable abbrev pl_Answers : List (Nat × Plan × List Nat) := []
noncomputable def G_Answers (T : MText) := evF (En (ls_Answers T) pl_Answers [] [N.l_markOutS, N.l_markReplyS] true) true F.l_FnExactAnswers
theorem ok_Answers {I : Nat → World → Prop} (T : MText) : OkFn prog I N.l_FnExactAnswers true (G_Answers T) := ok_fn (l := ls_Answers T) (memc okS_sAns (memc okS_iAns (memc okS_toOutS (memc okS_eqOutS (memc okS_szOutS (memc (okS_markOutS T) (memc okS_eqReplyS (memc (okS_markReplyS T) (memc (okS_heldReplyS T) mem0))))))))) (by kernel_rfl) (by kernel_rfl) (by kernel_rfl) (by kernel_rfl) (cs := []) (by kernel_rfl) loops0
noncomputable def L1_Answers (T : MText) (l : List T_Out) (k : Int) (K : Ret → Option Ret) : Option Ret := (bif (Cc.sl replyR).cnt (answersD l k) then (bif !(eqD ((answersD l k) : List T_Reply) (answersD l k)) then K (bl false, []) else (bif (eqD ((Cc.sl replyR).mark T ((Cc.sl replyR).mark T (answersD l k) (1 : Int)).1 (1 : Int)).1 ((Cc.sl replyR).mark T (answersD l k) (1 : Int)).1) && ((Cc.sl replyR).cnt ((Cc.sl replyR).mark T (answersD l k) (1 : Int)).1 && decide ((0 : Int) ≤ (1 : Int)) && decide ((1 : Int) + (((Cc.sl replyR).marks ((Cc.sl replyR).mark T (answersD l k) (1 : Int)).1 : Nat) : Int) ≤ 4611686018427387904)) then (bif decide (((Cc.sl replyR).mark T ((Cc.sl replyR).mark T (answersD l k) (1 : Int)).1 (1 : Int)).2 < 0) then K (bl false, []) else (bif ((Cc.sl replyR).mark T ((Cc.sl replyR).mark T (answersD l k) (1 : Int)).1 (1 : Int)).2 != ((Cc.sl replyR).mark T (answersD l k) (1 : Int)).2 then K (bl false, []) else K (bl true, []))) else none)) else none)
noncomputable def L0_Answers (T : MText) (l : List T_Out) (k : Int) (K : Ret → Option Ret) : Option Ret := (bif (Cc.sl outR).lim l then (bif preO l then (bif (Cc.sl replyR).cnt (answersD l k) then (bif !(eqD ((answersD l k) : List T_Reply) (answersD l k)) then K (bl false, []) else (bif (Cc.sl outR).lim l then (bif (Cc.sl outR).cnt l then (bif !(eqD (l : List T_Out) l) then K (bl false, []) else (bif (Cc.sl outR).cnt l then (bif decide (((Cc.sl outR).mark T l (1 : Int)).2 < 0) then K (bl false, []) else (bif (Cc.sl replyR).cnt (answersD l k) then (bif !(eqD ((answersD l k) : List T_Reply) (answersD l k)) then K (bl false, []) else (bif (Cc.sl replyR).cnt (answersD l k) then (bif (eqD ((Cc.sl replyR).mark T ((Cc.sl replyR).mark T (answersD l k) (1 : Int)).1 (1 : Int)).1 ((Cc.sl replyR).mark T (answersD l k) (1 : Int)).1) && ((Cc.sl replyR).cnt ((Cc.sl replyR).mark T (answersD l k) (1 : Int)).1 && decide ((0 : Int) ≤ (1 : Int)) && decide ((1 : Int) + (((Cc.sl replyR).marks ((Cc.sl replyR).mark T (answersD l k) (1 : Int)).1 : Nat) : Int) ≤ 4611686018427387904)) then (bif decide (((Cc.sl replyR).mark T ((Cc.sl replyR).mark T (answersD l k) (1 : Int)).1 (1 : Int)).2 < 0) then K (bl false, []) else (bif ((Cc.sl replyR).mark T ((Cc.sl replyR).mark T (answersD l k) (1 : Int)).1 (1 : Int)).2 != ((Cc.sl replyR).mark T (answersD l k) (1 : Int)).2 then K (bl false, []) else (bif (Cc.sl outR).lim l then (bif preO l then (L1_Answers T l k K) else none) else none))) else none) else none)) else none)) else none)) else none) else none)) else none) else none) else none)
theorem law_Answers (T : MText) (l : List T_Out) (k : Int) (K : Ret → Option Ret) (hz0 : (Cc.sl outR).cnz l = true) : G_Answers T [.l .no outR l, .s (.int .i64 k)] K = K (bl true, []) := by
  have e : G_Answers T [.l .no outR l, .s (.int .i64 k)] K = (bif szOk (1048576 : Int) && (Cc.sl outR).cnz l then (bif decide (szN ((Cc.sl outR).w l) (1048576 : Int) < 0) then K (bl true, []) else (bif (Cc.sl outR).lim l then (bif preO l then (L0_Answers T l k K) else none) else none)) else none) := by kernel_rfl
  refine e.trans ?_
  refine lw_sz (show szOk 1048576 = true by rfl) hz0 (fun n0 e0 s0 => ?_)
  have hw0 : (Cc.sl outR).w l ≤ 1048576 := by omega
  have lim0 : (Cc.sl outR).lim l = true := Cc.lim_ok (.sl outR) l hw0
  have cnt0 : (Cc.sl outR).cnt l = true := Cc.cnt_of_lim (.sl outR) l lim0
  have mk0 : (Cc.sl outR).marks l ≤ 32 * (Cc.sl outR).w l := Cc.marksA_le (.sl outR) rfl l
  have hpre : preO l = true := lim0
  have rw0 : (Cc.sl replyR).w (answersD l k) ≤ 1099511627776 := answers_w hw0
  have rcnt0 : (Cc.sl replyR).cnt (answersD l k) = true := Cc.cnt_of_w (.sl replyR) (answersD l k) (by omega)
  have rmk0 : (Cc.sl replyR).marks (answersD l k) ≤ 32 * (Cc.sl replyR).w (answersD l k) := Cc.marksA_le (.sl replyR) rfl (answersD l k)
  have k0 := Cc.mark_cnt T (.sl outR) l (1 : Int) (by omega) (by omega)
  have pk1 : 0 ≤ ((Cc.sl outR).mark T l (1 : Int)).2 := by omega
  have mm0 := Cc.mark_cnt T (.sl replyR) (answersD l k) (1 : Int) (by omega) (by omega)
  have hq0 : (1 : Int) = 1 := rfl
  have id0 : (Cc.sl replyR).mark T ((Cc.sl replyR).mark T (answersD l k) (1 : Int)).1 (1 : Int) = (Cc.sl replyR).mark T (answersD l k) (1 : Int) := Cc.mark_idem T (.sl replyR) (answersD l k) (1 : Int)
  have hq1 : ((Cc.sl replyR).mark T ((Cc.sl replyR).mark T (answersD l k) (1 : Int)).1 (1 : Int)).2 = ((Cc.sl replyR).mark T (answersD l k) (1 : Int)).2 := congrArg Prod.snd id0
  have hg0 : eqD ((Cc.sl replyR).mark T ((Cc.sl replyR).mark T (answersD l k) (1 : Int)).1 (1 : Int)).1 ((Cc.sl replyR).mark T (answersD l k) (1 : Int)).1 = true := eqD_iff.2 (congrArg Prod.fst id0)
  have gcnt0 : (Cc.sl replyR).cnt ((Cc.sl replyR).mark T (answersD l k) (1 : Int)).1 = true := (Cc.markA_w T (.sl replyR) (answersD l k) (1 : Int)).trans rcnt0
  have gmk0 : (Cc.sl replyR).marks ((Cc.sl replyR).mark T (answersD l k) (1 : Int)).1 = (Cc.sl replyR).marks (answersD l k) := Cc.markA_marks T (.sl replyR) (answersD l k) (1 : Int)
  have pq0 : 0 ≤ (1 : Int) := by omega
  have bq0 : (1 : Int) + (((Cc.sl replyR).marks ((Cc.sl replyR).mark T (answersD l k) (1 : Int)).1 : Nat) : Int) ≤ 4611686018427387904 := by omega
  have pq1 : 0 ≤ ((Cc.sl replyR).mark T ((Cc.sl replyR).mark T (answersD l k) (1 : Int)).1 (1 : Int)).2 := by omega
  have t1 : L1_Answers T l k K = K (bl true, []) := by
    unfold L1_Answers
    exact (lw_eq rcnt0 (lw_held hg0 gcnt0 pq0 bq0 (lw_lt pq1 (lw_int2 hq1 rfl))))
  have t0 : L0_Answers T l k K = K (bl true, []) := by
    unfold L0_Answers
    exact (to_step lim0 (to_step hpre (lw_eq rcnt0 (to_step lim0 (lw_eq cnt0 (to_step cnt0 (lw_lt pk1 (lw_eq rcnt0 (to_step rcnt0 (lw_held hg0 gcnt0 pq0 bq0 (lw_lt pq1 (lw_int2 hq1 (to_step lim0 (to_step hpre t1))))))))))))))
  exact (to_step lim0 (to_step hpre t0))
end Go.Ev.Seat
