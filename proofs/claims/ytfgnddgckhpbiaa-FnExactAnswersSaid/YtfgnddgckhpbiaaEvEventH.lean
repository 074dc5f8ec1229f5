/- The laws' helpers for Event. Printed by fam.py. -/
import Derived.Test.YtfgnddgckhpbiaaEvReplyH
import Derived.Test.YtfgnddgckhpbiaaEvFam
import Derived.Test.YtfgnddgckhpbiaaEvRows
namespace Go.Ev.Seat
open Go.RowKit
set_option maxRecDepth 100000
set_option linter.unusedVariables false
set_option linter.unusedSimpArgs false
noncomputable def G_toEvent := evF (En [(N.l_toByteS, true, S_toL bytesR)] []) true F.l_toEvent
theorem ok_toEvent {I : Nat → World → Prop} : OkFn prog I N.l_toEvent true (G_toEvent) := ok_fn (memc okS_toByteS mem0) (by kernel_rfl) (by kernel_rfl) (by kernel_rfl) (by kernel_rfl) (cs := []) (by kernel_rfl) loops0

theorem okS_toEvent {I : Nat → World → Prop} : OkFn prog I N.l_toEvent true (S_toA eventR) := okW ok_toEvent (S_toA_of fun d K h => by
  obtain ⟨x0, x1, x2, x3⟩ := d
  have h0 : (true && (true && (true && (Cc.sl bytesR).lim x3))) = true := h
  simp only [Bool.true_and, Bool.and_true, Bool.and_eq_true] at h0
  have c3 := h0
  have e : G_toEvent [.a (eventR.cells .no (x0, x1, x2, x3))] K = (bif (Cc.sl bytesR).lim x3 then K (.a (eventR.cells .deep (x0, x1, x2, x3)), []) else none) := by kernel_rfl
  exact e.trans (to_step c3 rfl))

noncomputable def G_eqEvent := evF (En [(N.l_eqByteS, true, S_eq bytesR)] []) true F.l_eqEvent
theorem ok_eqEvent {I : Nat → World → Prop} : OkFn prog I N.l_eqEvent true (G_eqEvent) := ok_fn (memc okS_eqByteS mem0) (by kernel_rfl) (by kernel_rfl) (by kernel_rfl) (by kernel_rfl) (cs := []) (by kernel_rfl) loops0

theorem okS_eqEvent {I : Nat → World → Prop} : OkFn prog I N.l_eqEvent true (S_eqA eventR) := okW ok_eqEvent (S_eqA_of fun d e K h => by
  obtain ⟨x0, x1, x2, x3⟩ := d
  obtain ⟨y0, y1, y2, y3⟩ := e
  have h0 : (true && (true && (true && (Cc.sl bytesR).cnt x3))) = true := h
  simp only [Bool.true_and, Bool.and_true, Bool.and_eq_true] at h0
  have c3 := h0
  have e : G_eqEvent [.a (eventR.cells .no (x0, x1, x2, x3)), .a (eventR.cells .no (y0, y1, y2, y3))] K = (bif (x0 != y0) then K (bl false, []) else (bif (x1 != y1) then K (bl false, []) else (bif (x2 != y2) then K (bl false, []) else (bif (Cc.sl bytesR).cnt x3 then (bif !(eqD x3 y3) then K (bl false, []) else K (bl true, [])) else none)))) := by kernel_rfl
  exact e.trans (eq_ne (eq_ne (eq_ne (eq_sub1 c3)))))

noncomputable def G_szEvent := evF (En [(N.l_szByteS, true, S_szL bytesR)] []) true F.l_szEvent
theorem ok_szEvent {I : Nat → World → Prop} : OkFn prog I N.l_szEvent true (G_szEvent) := ok_fn (memc okS_szByteS mem0) (by kernel_rfl) (by kernel_rfl) (by kernel_rfl) (by kernel_rfl) (cs := []) (by kernel_rfl) loops0

theorem okS_szEvent {I : Nat → World → Prop} : OkFn prog I N.l_szEvent true (S_szA eventR) := okW ok_szEvent (S_szA_of fun d l K hl0 h => by
  obtain ⟨x0, x1, x2, x3⟩ := d
  have h0 : (true && (true && (true && (Cc.sl bytesR).cnz x3))) = true := h
  simp only [Bool.true_and, Bool.and_true, Bool.and_eq_true] at h0
  have c3 := h0
  have e : G_szEvent [.a (eventR.cells .no (x0, x1, x2, x3)), .s (.int .i64 l)] K = (bif szOk l && (Cc.sl bytesR).cnz x3 then (bif decide (szN ((Cc.sl bytesR).w x3) l < 0) then K (sc (-1), []) else K (sc (szN ((Cc.sl bytesR).w x3) l), [])) else none) := by kernel_rfl
  have hw : ((Cc.sl bytesR).w x3 + 0) = eventR.w (x0, x1, x2, x3) := by
    show ((Cc.sl bytesR).w x3 + 0) = (0 + (0 + (0 + (Cc.sl bytesR).w x3)))
    omega
  refine (e.trans (sz_step (K := fun n => K (sc n, [])) (w2 := 0) (wt := ((Cc.sl bytesR).w x3 + 0)) hl0 c3 rfl (fun hl1 => sz_end (K := fun n => K (sc n, [])) hl1))).trans ?_
  exact congrArg (fun n => K (sc (szN n l), [])) hw)
end Go.Ev.Seat
