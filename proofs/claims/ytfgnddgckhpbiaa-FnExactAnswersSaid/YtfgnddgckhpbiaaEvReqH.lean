/- The laws' helpers for Req. Printed by fam.py. -/
import Derived.Test.YtfgnddgckhpbiaaEvStackH
import Derived.Test.YtfgnddgckhpbiaaEvFam
import Derived.Test.YtfgnddgckhpbiaaEvRows
namespace Go.Ev.Seat
open Go.RowKit
set_option maxRecDepth 100000
set_option linter.unusedVariables false
set_option linter.unusedSimpArgs false
noncomputable def G_toReq := evF (En [(N.l_toByteS, true, S_toL bytesR)] []) true F.l_toReq
theorem ok_toReq {I : Nat → World → Prop} : OkFn prog I N.l_toReq true (G_toReq) := ok_fn (memc okS_toByteS mem0) (by kernel_rfl) (by kernel_rfl) (by kernel_rfl) (by kernel_rfl) (cs := []) (by kernel_rfl) loops0

theorem okS_toReq {I : Nat → World → Prop} : OkFn prog I N.l_toReq true (S_toA reqR) := okW ok_toReq (S_toA_of fun d K h => by
  obtain ⟨x0, x1, x2, x3, x4, x5⟩ := d
  have h0 : (true && (true && (true && (true && (true && (Cc.sl bytesR).lim x5))))) = true := h
  simp only [Bool.true_and, Bool.and_true, Bool.and_eq_true] at h0
  have c5 := h0
  have e : G_toReq [.a (reqR.cells .no (x0, x1, x2, x3, x4, x5))] K = (bif (Cc.sl bytesR).lim x5 then K (.a (reqR.cells .deep (x0, x1, x2, x3, x4, x5)), []) else none) := by kernel_rfl
  exact e.trans (to_step c5 rfl))

noncomputable def G_eqReq := evF (En [(N.l_eqByteS, true, S_eq bytesR)] []) true F.l_eqReq
theorem ok_eqReq {I : Nat → World → Prop} : OkFn prog I N.l_eqReq true (G_eqReq) := ok_fn (memc okS_eqByteS mem0) (by kernel_rfl) (by kernel_rfl) (by kernel_rfl) (by kernel_rfl) (cs := []) (by kernel_rfl) loops0

theorem okS_eqReq {I : Nat → World → Prop} : OkFn prog I N.l_eqReq true (S_eqA reqR) := okW ok_eqReq (S_eqA_of fun d e K h => by
  obtain ⟨x0, x1, x2, x3, x4, x5⟩ := d
  obtain ⟨y0, y1, y2, y3, y4, y5⟩ := e
  have h0 : (true && (true && (true && (true && (true && (Cc.sl bytesR).cnt x5))))) = true := h
  simp only [Bool.true_and, Bool.and_true, Bool.and_eq_true] at h0
  have c5 := h0
  have e : G_eqReq [.a (reqR.cells .no (x0, x1, x2, x3, x4, x5)), .a (reqR.cells .no (y0, y1, y2, y3, y4, y5))] K = (bif (x0 != y0) then K (bl false, []) else (bif (x1 != y1) then K (bl false, []) else (bif (x2 != y2) then K (bl false, []) else (bif (x3 != y3) then K (bl false, []) else (bif (x4 != y4) then K (bl false, []) else (bif (Cc.sl bytesR).cnt x5 then (bif !(eqD x5 y5) then K (bl false, []) else K (bl true, [])) else none)))))) := by kernel_rfl
  exact e.trans (eq_ne (eq_ne (eq_ne (eq_ne (eq_ne (eq_sub1 c5)))))))

noncomputable def G_szReq := evF (En [(N.l_szByteS, true, S_szL bytesR)] []) true F.l_szReq
theorem ok_szReq {I : Nat → World → Prop} : OkFn prog I N.l_szReq true (G_szReq) := ok_fn (memc okS_szByteS mem0) (by kernel_rfl) (by kernel_rfl) (by kernel_rfl) (by kernel_rfl) (cs := []) (by kernel_rfl) loops0

theorem okS_szReq {I : Nat → World → Prop} : OkFn prog I N.l_szReq true (S_szA reqR) := okW ok_szReq (S_szA_of fun d l K hl0 h => by
  obtain ⟨x0, x1, x2, x3, x4, x5⟩ := d
  have h0 : (true && (true && (true && (true && (true && (Cc.sl bytesR).cnz x5))))) = true := h
  simp only [Bool.true_and, Bool.and_true, Bool.and_eq_true] at h0
  have c5 := h0
  have e : G_szReq [.a (reqR.cells .no (x0, x1, x2, x3, x4, x5)), .s (.int .i64 l)] K = (bif szOk l && (Cc.sl bytesR).cnz x5 then (bif decide (szN ((Cc.sl bytesR).w x5) l < 0) then K (sc (-1), []) else K (sc (szN ((Cc.sl bytesR).w x5) l), [])) else none) := by kernel_rfl
  have hw : ((Cc.sl bytesR).w x5 + 0) = reqR.w (x0, x1, x2, x3, x4, x5) := by
    show ((Cc.sl bytesR).w x5 + 0) = (0 + (0 + (0 + (0 + (0 + (Cc.sl bytesR).w x5)))))
    omega
  refine (e.trans (sz_step (K := fun n => K (sc n, [])) (w2 := 0) (wt := ((Cc.sl bytesR).w x5 + 0)) hl0 c5 rfl (fun hl1 => sz_end (K := fun n => K (sc n, [])) hl1))).trans ?_
  exact congrArg (fun n => K (sc (szN n l), [])) hw)
end Go.Ev.Seat
