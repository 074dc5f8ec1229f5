/- The laws' helpers for Reply. Printed by fam.py. -/
import Derived.Test.YtfgnddgckhpbiaaEvReqH
import Derived.Test.YtfgnddgckhpbiaaEvFam
import Derived.Test.YtfgnddgckhpbiaaEvRows
namespace Go.Ev.Seat
open Go.RowKit
set_option maxRecDepth 100000
set_option linter.unusedVariables false
set_option linter.unusedSimpArgs false
noncomputable def G_toReply := evF (En [(N.l_toByteS, true, S_toL bytesR)] []) true F.l_toReply
theorem ok_toReply {I : Nat → World → Prop} : OkFn prog I N.l_toReply true (G_toReply) := ok_fn (memc okS_toByteS mem0) (by kernel_rfl) (by kernel_rfl) (by kernel_rfl) (by kernel_rfl) (cs := []) (by kernel_rfl) loops0

theorem okS_toReply {I : Nat → World → Prop} : OkFn prog I N.l_toReply true (S_toA replyR) := okW ok_toReply (S_toA_of fun d K h => by
  obtain ⟨x0, x1, x2, x3⟩ := d
  have h0 : (true && (true && (true && (Cc.sl bytesR).lim x3))) = true := h
  simp only [Bool.true_and, Bool.and_true, Bool.and_eq_true] at h0
  have c3 := h0
  have e : G_toReply [.a (replyR.cells .no (x0, x1, x2, x3))] K = (bif (Cc.sl bytesR).lim x3 then K (.a (replyR.cells .deep (x0, x1, x2, x3)), []) else none) := by kernel_rfl
  exact e.trans (to_step c3 rfl))

noncomputable def G_eqReply := evF (En [(N.l_eqByteS, true, S_eq bytesR)] []) true F.l_eqReply
theorem ok_eqReply {I : Nat → World → Prop} : OkFn prog I N.l_eqReply true (G_eqReply) := ok_fn (memc okS_eqByteS mem0) (by kernel_rfl) (by kernel_rfl) (by kernel_rfl) (by kernel_rfl) (cs := []) (by kernel_rfl) loops0

theorem okS_eqReply {I : Nat → World → Prop} : OkFn prog I N.l_eqReply true (S_eqA replyR) := okW ok_eqReply (S_eqA_of fun d e K h => by
  obtain ⟨x0, x1, x2, x3⟩ := d
  obtain ⟨y0, y1, y2, y3⟩ := e
  have h0 : (true && (true && (true && (Cc.sl bytesR).cnt x3))) = true := h
  simp only [Bool.true_and, Bool.and_true, Bool.and_eq_true] at h0
  have c3 := h0
  have e : G_eqReply [.a (replyR.cells .no (x0, x1, x2, x3)), .a (replyR.cells .no (y0, y1, y2, y3))] K = (bif (x0 != y0) then K (bl false, []) else (bif (x1 != y1) then K (bl false, []) else (bif (x2 != y2) then K (bl false, []) else (bif (Cc.sl bytesR).cnt x3 then (bif !(eqD x3 y3) then K (bl false, []) else K (bl true, [])) else none)))) := by kernel_rfl
  exact e.trans (eq_ne (eq_ne (eq_ne (eq_sub1 c3)))))

noncomputable def G_szReply := evF (En [(N.l_szByteS, true, S_szL bytesR)] []) true F.l_szReply
theorem ok_szReply {I : Nat → World → Prop} : OkFn prog I N.l_szReply true (G_szReply) := ok_fn (memc okS_szByteS mem0) (by kernel_rfl) (by kernel_rfl) (by kernel_rfl) (by kernel_rfl) (cs := []) (by kernel_rfl) loops0

theorem okS_szReply {I : Nat → World → Prop} : OkFn prog I N.l_szReply true (S_szA replyR) := okW ok_szReply (S_szA_of fun d l K hl0 h => by
  obtain ⟨x0, x1, x2, x3⟩ := d
  have h0 : (true && (true && (true && (Cc.sl bytesR).cnz x3))) = true := h
  simp only [Bool.true_and, Bool.and_true, Bool.and_eq_true] at h0
  have c3 := h0
  have e : G_szReply [.a (replyR.cells .no (x0, x1, x2, x3)), .s (.int .i64 l)] K = (bif szOk l && (Cc.sl bytesR).cnz x3 then (bif decide (szN ((Cc.sl bytesR).w x3) l < 0) then K (sc (-1), []) else K (sc (szN ((Cc.sl bytesR).w x3) l), [])) else none) := by kernel_rfl
  have hw : ((Cc.sl bytesR).w x3 + 0) = replyR.w (x0, x1, x2, x3) := by
    show ((Cc.sl bytesR).w x3 + 0) = (0 + (0 + (0 + (Cc.sl bytesR).w x3)))
    omega
  refine (e.trans (sz_step (K := fun n => K (sc n, [])) (w2 := 0) (wt := ((Cc.sl bytesR).w x3 + 0)) hl0 c3 rfl (fun hl1 => sz_end (K := fun n => K (sc n, [])) hl1))).trans ?_
  exact congrArg (fun n => K (sc (szN n l), [])) hw)

noncomputable def G_eqReplyS := evF (En [(N.l_eqReply, true, S_eqA replyR)] [(6, takeB [0, 1, 2, 3, 4, 5, 6, 7] (.fork (.one 8 (takes [9]))), [])] [(4, [0,1,5], [4], loopF (shEq replyR 21) (REq replyR 21))]) true F.l_eqReplyS
theorem ok_eqReplyS {I : Nat → World → Prop} : OkFn prog I N.l_eqReplyS true G_eqReplyS := ok_fn (memc okS_eqReply mem0) (by kernel_rfl) (by kernel_rfl) (by kernel_rfl) (by kernel_rfl) (cs := [bodyOf F.l_eqReplyS 4]) (by kernel_rfl) (loopsc (loopEq (r := replyR) (n := 21) (by kernel_rfl) rfl rfl (fun m x0 x1 x5 K => by kernel_rfl)) loops0)
theorem okS_eqReplyS {I : Nat → World → Prop} : OkFn prog I N.l_eqReplyS true (S_eq replyR) := okW ok_eqReplyS (evEq (fun a b K => by kernel_rfl))

noncomputable def G_markReplyS (T : MText) := evF (En [(N.l_markByteS, true, S_markL T bytesR)] [] [(2, [0,1,5], [1], loopF (shMk replyR 35) (RMk T replyR 35))] [N.l_markByteS] true) true F.l_markReplyS
theorem ok_markReplyS {I : Nat → World → Prop} (T : MText) : OkFn prog I N.l_markReplyS true (G_markReplyS T) := ok_fn (memc (okS_markByteS T) mem0) (by kernel_rfl) (by kernel_rfl) (by kernel_rfl) (by kernel_rfl) (cs := [bodyOf F.l_markReplyS 2]) (by kernel_rfl) (loopsc (loopMk (T := T) (r := replyR) (n := 35) (by kernel_rfl) rfl rfl rfl (fun m x1 x5 o0 K => by kernel_rfl)) loops0)
theorem okS_markReplyS {I : Nat → World → Prop} (T : MText) : OkFn prog I N.l_markReplyS true (S_markL T replyR) := okW (ok_markReplyS T) (evMk (fun a k K => by kernel_rfl))

noncomputable def G_heldReplyS (T : MText) := evF (En [(N.l_heldByteS, true, S_heldL T bytesR)] [] [(2, [0,1,5], [1,4], loopF (shSz replyR 43) (RHd T replyR 43))]) true F.l_heldReplyS
theorem ok_heldReplyS {I : Nat → World → Prop} (T : MText) : OkFn prog I N.l_heldReplyS true (G_heldReplyS T) := ok_fn (memc (okS_heldByteS T) mem0) (by kernel_rfl) (by kernel_rfl) (by kernel_rfl) (by kernel_rfl) (cs := [bodyOf F.l_heldReplyS 2]) (by kernel_rfl) (loopsc (loopHd (T := T) (r := replyR) (n := 43) (by kernel_rfl) rfl rfl rfl (fun m x0 x1 x5 K => by kernel_rfl)) loops0)
theorem okS_heldReplyS {I : Nat → World → Prop} (T : MText) : OkFn prog I N.l_heldReplyS true (S_heldL T replyR) := okW (ok_heldReplyS T) (evHd (fun a k K => by kernel_rfl))
end Go.Ev.Seat
