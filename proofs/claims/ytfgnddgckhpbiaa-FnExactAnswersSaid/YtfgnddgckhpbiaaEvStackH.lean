/- The laws' helpers for Stack. Printed by fam.py. -/
import Derived.Test.YtfgnddgckhpbiaaEvEditH
import Derived.Test.YtfgnddgckhpbiaaEvFam
import Derived.Test.YtfgnddgckhpbiaaEvRows
namespace Go.Ev.Seat
open Go.RowKit
set_option maxRecDepth 100000
set_option linter.unusedVariables false
set_option linter.unusedSimpArgs false
noncomputable def G_toStack := evF (En [(N.l_toEditS, true, S_toL editR)] []) true F.l_toStack
theorem ok_toStack {I : Nat → World → Prop} : OkFn prog I N.l_toStack true (G_toStack) := ok_fn (memc okS_toEditS mem0) (by kernel_rfl) (by kernel_rfl) (by kernel_rfl) (by kernel_rfl) (cs := []) (by kernel_rfl) loops0

theorem okS_toStack {I : Nat → World → Prop} : OkFn prog I N.l_toStack true (S_toA stackR) := okW ok_toStack (S_toA_of fun d K h => by
  obtain ⟨x0, x1⟩ := d
  have h0 : ((Cc.sl editR).lim x0 && (Cc.sl editR).lim x1) = true := h
  simp only [Bool.true_and, Bool.and_true, Bool.and_eq_true] at h0
  have c0 := h0.1
  have c1 := h0.2
  have e : G_toStack [.a (stackR.cells .no (x0, x1))] K = (bif (Cc.sl editR).lim x0 then (bif (Cc.sl editR).lim x1 then K (.a (stackR.cells .deep (x0, x1)), []) else none) else none) := by kernel_rfl
  exact e.trans (to_step c0 (to_step c1 rfl)))

noncomputable def G_eqStack := evF (En [(N.l_eqEditS, true, S_eq editR)] []) true F.l_eqStack
theorem ok_eqStack {I : Nat → World → Prop} : OkFn prog I N.l_eqStack true (G_eqStack) := ok_fn (memc okS_eqEditS mem0) (by kernel_rfl) (by kernel_rfl) (by kernel_rfl) (by kernel_rfl) (cs := []) (by kernel_rfl) loops0

theorem okS_eqStack {I : Nat → World → Prop} : OkFn prog I N.l_eqStack true (S_eqA stackR) := okW ok_eqStack (S_eqA_of fun d e K h => by
  obtain ⟨x0, x1⟩ := d
  obtain ⟨y0, y1⟩ := e
  have h0 : ((Cc.sl editR).cnt x0 && (Cc.sl editR).cnt x1) = true := h
  simp only [Bool.true_and, Bool.and_true, Bool.and_eq_true] at h0
  have c0 := h0.1
  have c1 := h0.2
  have e : G_eqStack [.a (stackR.cells .no (x0, x1)), .a (stackR.cells .no (y0, y1))] K = (bif (Cc.sl editR).cnt x0 then (bif !(eqD x0 y0) then K (bl false, []) else (bif (Cc.sl editR).cnt x1 then (bif !(eqD x1 y1) then K (bl false, []) else K (bl true, [])) else none)) else none) := by kernel_rfl
  exact e.trans (eq_sl c0 (eq_sub1 c1)))

noncomputable def G_szStack := evF (En [(N.l_szEditS, true, S_szL editR)] []) true F.l_szStack
theorem ok_szStack {I : Nat → World → Prop} : OkFn prog I N.l_szStack true (G_szStack) := ok_fn (memc okS_szEditS mem0) (by kernel_rfl) (by kernel_rfl) (by kernel_rfl) (by kernel_rfl) (cs := []) (by kernel_rfl) loops0

theorem okS_szStack {I : Nat → World → Prop} : OkFn prog I N.l_szStack true (S_szA stackR) := okW ok_szStack (S_szA_of fun d l K hl0 h => by
  obtain ⟨x0, x1⟩ := d
  have h0 : ((Cc.sl editR).cnz x0 && (Cc.sl editR).cnz x1) = true := h
  simp only [Bool.true_and, Bool.and_true, Bool.and_eq_true] at h0
  have c0 := h0.1
  have c1 := h0.2
  have e : G_szStack [.a (stackR.cells .no (x0, x1)), .s (.int .i64 l)] K = (bif szOk l && (Cc.sl editR).cnz x0 then (bif decide (szN ((Cc.sl editR).w x0) l < 0) then K (sc (-1), []) else (bif szOk (szN ((Cc.sl editR).w x0) l) && (Cc.sl editR).cnz x1 then (bif decide (szN ((Cc.sl editR).w x1) (szN ((Cc.sl editR).w x0) l) < 0) then K (sc (-1), []) else K (sc (szN ((Cc.sl editR).w x1) (szN ((Cc.sl editR).w x0) l)), [])) else none)) else none) := by kernel_rfl
  have hw : ((Cc.sl editR).w x0 + ((Cc.sl editR).w x1 + 0)) = stackR.w (x0, x1) := by
    show ((Cc.sl editR).w x0 + ((Cc.sl editR).w x1 + 0)) = ((Cc.sl editR).w x0 + (Cc.sl editR).w x1)
    omega
  refine (e.trans (sz_step (K := fun n => K (sc n, [])) (w2 := ((Cc.sl editR).w x1 + 0)) (wt := ((Cc.sl editR).w x0 + ((Cc.sl editR).w x1 + 0))) hl0 c0 rfl (fun hl1 => sz_step (K := fun n => K (sc n, [])) (w2 := 0) (wt := ((Cc.sl editR).w x1 + 0)) hl1 c1 rfl (fun hl2 => sz_end (K := fun n => K (sc n, [])) hl2)))).trans ?_
  exact congrArg (fun n => K (sc (szN n l), [])) hw)

noncomputable def G_markStack (T : MText) := evF (En [(N.l_markEditS, true, S_markL T editR)] [] [] [N.l_markEditS] true) true F.l_markStack
theorem ok_markStack {I : Nat → World → Prop} (T : MText) : OkFn prog I N.l_markStack true (G_markStack T) := ok_fn (memc (okS_markEditS T) mem0) (by kernel_rfl) (by kernel_rfl) (by kernel_rfl) (by kernel_rfl) (cs := []) (by kernel_rfl) loops0

theorem okS_markStack {I : Nat → World → Prop} (T : MText) : OkFn prog I N.l_markStack true (S_markA T stackR) := okW (ok_markStack T) (S_markA_of fun d k K h => by
  obtain ⟨x0, x1⟩ := d
  have h0 : ((Cc.sl editR).cnt x0 && (Cc.sl editR).cnt x1) = true := h
  simp only [Bool.true_and, Bool.and_true, Bool.and_eq_true] at h0
  have c0 := h0.1
  have c1 := h0.2
  have e : G_markStack T [.a (stackR.cells .own (x0, x1)), .s (.int .i64 k)] K = (bif (Cc.sl editR).cnt x0 then (bif (Cc.sl editR).cnt x1 then K (sc (stackR.markA T (x0, x1) k).2, [.a (stackR.cells .own (stackR.markA T (x0, x1) k).1)]) else none) else none) := by kernel_rfl
  exact e.trans (to_step c0 (to_step c1 rfl)))

noncomputable def G_heldStack (T : MText) := evF (En [(N.l_heldEditS, true, S_heldL T editR)] []) true F.l_heldStack
theorem ok_heldStack {I : Nat → World → Prop} (T : MText) : OkFn prog I N.l_heldStack true (G_heldStack T) := ok_fn (memc (okS_heldEditS T) mem0) (by kernel_rfl) (by kernel_rfl) (by kernel_rfl) (by kernel_rfl) (cs := []) (by kernel_rfl) loops0

theorem okS_heldStack {I : Nat → World → Prop} (T : MText) : OkFn prog I N.l_heldStack true (S_heldA T stackR) := okW (ok_heldStack T) (S_heldA_of fun d k K hm h hk hle => by
  obtain ⟨x0, x1⟩ := d
  have h0 : ((Cc.sl editR).cnt x0 && (Cc.sl editR).cnt x1) = true := h
  simp only [Bool.true_and, Bool.and_true, Bool.and_eq_true] at h0
  have c0 := h0.1
  have c1 := h0.2
  have ht : k + ((((Cc.sl editR).marks x0 + (Cc.sl editR).marks x1) : Nat) : Int) ≤ 4611686018427387904 := hle
  have p0 : 0 ≤ k := by omega
  have q0 : k + (((Cc.sl editR).marks x0 : Nat) : Int) ≤ 4611686018427387904 := by omega
  have m0 := Cc.mark_cnt T (.sl editR) x0 k p0 q0
  have e0 : ((Cc.sl editR).mark T x0 k).1 = x0 := congrArg (fun p : stackR.T => p.1) hm
  have p1 : 0 ≤ ((Cc.sl editR).mark T x0 k).2 := by omega
  have q1 : ((Cc.sl editR).mark T x0 k).2 + (((Cc.sl editR).marks x1 : Nat) : Int) ≤ 4611686018427387904 := by omega
  have m1 := Cc.mark_cnt T (.sl editR) x1 ((Cc.sl editR).mark T x0 k).2 p1 q1
  have e1 : ((Cc.sl editR).mark T x1 ((Cc.sl editR).mark T x0 k).2).1 = x1 := congrArg (fun p : stackR.T => p.2) hm
  have e : G_heldStack T [.a (stackR.cells .no (x0, x1)), .s (.int .i64 k)] K = (bif (eqD ((Cc.sl editR).mark T x0 k).1 x0) && ((Cc.sl editR).cnt x0 && decide ((0 : Int) ≤ k) && decide (k + (((Cc.sl editR).marks x0 : Nat) : Int) ≤ 4611686018427387904)) then (bif decide (((Cc.sl editR).mark T x0 k).2 < 0) then K (sc (-1), []) else (bif (eqD ((Cc.sl editR).mark T x1 ((Cc.sl editR).mark T x0 k).2).1 x1) && ((Cc.sl editR).cnt x1 && decide ((0 : Int) ≤ ((Cc.sl editR).mark T x0 k).2) && decide (((Cc.sl editR).mark T x0 k).2 + (((Cc.sl editR).marks x1 : Nat) : Int) ≤ 4611686018427387904)) then (bif decide (((Cc.sl editR).mark T x1 ((Cc.sl editR).mark T x0 k).2).2 < 0) then K (sc (-1), []) else K (sc ((Cc.sl editR).mark T x1 ((Cc.sl editR).mark T x0 k).2).2, [])) else none)) else none) := by kernel_rfl
  exact e.trans (held_step (eqD_iff.2 e0) c0 p0 q0 m0 (held_step (eqD_iff.2 e1) c1 p1 q1 m1 rfl)))
end Go.Ev.Seat
