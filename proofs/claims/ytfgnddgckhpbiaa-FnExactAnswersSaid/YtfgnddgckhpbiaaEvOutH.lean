/- The laws' helpers for Out. Printed by fam.py. -/
import Derived.Test.YtfgnddgckhpbiaaEvEventH
import Derived.Test.YtfgnddgckhpbiaaEvFam
import Derived.Test.YtfgnddgckhpbiaaEvRows
namespace Go.Ev.Seat
open Go.RowKit
set_option maxRecDepth 100000
set_option linter.unusedVariables false
set_option linter.unusedSimpArgs false
noncomputable def G_toOut := evF (En [(N.l_toReq, true, S_toA reqR), (N.l_toReply, true, S_toA replyR)] []) true F.l_toOut
theorem ok_toOut {I : Nat → World → Prop} : OkFn prog I N.l_toOut true (G_toOut) := ok_fn (memc okS_toReq (memc okS_toReply mem0)) (by kernel_rfl) (by kernel_rfl) (by kernel_rfl) (by kernel_rfl) (cs := []) (by kernel_rfl) loops0

theorem okS_toOut {I : Nat → World → Prop} : OkFn prog I N.l_toOut true (S_toA outR) := okW ok_toOut (S_toA_of fun d K h => by
  obtain ⟨x0, x1, x2, x3, x4, x5, x6, x7, x8, x9, x10, x11, x12⟩ := d
  have h0 : (true && (true && (true && (true && (true && (true && (true && ((Cc.sl bytesR).lim x7 && (true && (true && (true && (true && (Cc.sl bytesR).lim x12)))))))))))) = true := h
  simp only [Bool.true_and, Bool.and_true, Bool.and_eq_true] at h0
  have c7 := h0.1
  have c12 := h0.2
  have e : G_toOut [.a (outR.cells .no (x0, x1, x2, x3, x4, x5, x6, x7, x8, x9, x10, x11, x12))] K = (bif reqR.lim (x2, x3, x4, x5, x6, x7) then (bif replyR.lim (x9, x10, x11, x12) then K (.a (outR.cells .deep (x0, x1, x2, x3, x4, x5, x6, x7, x8, x9, x10, x11, x12)), []) else none) else none) := by kernel_rfl
  exact e.trans (to_step (show (true && (true && (true && (true && (true && (Cc.sl bytesR).lim x7))))) = true by simp only [c7, Bool.and_self]) (to_step (show (true && (true && (true && (Cc.sl bytesR).lim x12))) = true by simp only [c12, Bool.and_self]) rfl)))

noncomputable def G_eqOut := evF (En [(N.l_eqReq, true, S_eqA reqR), (N.l_eqReply, true, S_eqA replyR)] []) true F.l_eqOut
theorem ok_eqOut {I : Nat → World → Prop} : OkFn prog I N.l_eqOut true (G_eqOut) := ok_fn (memc okS_eqReq (memc okS_eqReply mem0)) (by kernel_rfl) (by kernel_rfl) (by kernel_rfl) (by kernel_rfl) (cs := []) (by kernel_rfl) loops0

theorem okS_eqOut {I : Nat → World → Prop} : OkFn prog I N.l_eqOut true (S_eqA outR) := okW ok_eqOut (S_eqA_of fun d e K h => by
  obtain ⟨x0, x1, x2, x3, x4, x5, x6, x7, x8, x9, x10, x11, x12⟩ := d
  obtain ⟨y0, y1, y2, y3, y4, y5, y6, y7, y8, y9, y10, y11, y12⟩ := e
  have h0 : (true && (true && (true && (true && (true && (true && (true && ((Cc.sl bytesR).cnt x7 && (true && (true && (true && (true && (Cc.sl bytesR).cnt x12)))))))))))) = true := h
  simp only [Bool.true_and, Bool.and_true, Bool.and_eq_true] at h0
  have c7 := h0.1
  have c12 := h0.2
  have e : G_eqOut [.a (outR.cells .no (x0, x1, x2, x3, x4, x5, x6, x7, x8, x9, x10, x11, x12)), .a (outR.cells .no (y0, y1, y2, y3, y4, y5, y6, y7, y8, y9, y10, y11, y12))] K = (bif (x0 != y0) then K (bl false, []) else (bif (x1 != y1) then K (bl false, []) else (bif reqR.cnt (x2, x3, x4, x5, x6, x7) then (bif !(eqD ((x2, x3, x4, x5, x6, x7) : reqR.T) (y2, y3, y4, y5, y6, y7)) then K (bl false, []) else (bif (x8 != y8) then K (bl false, []) else (bif replyR.cnt (x9, x10, x11, x12) then (bif !(eqD ((x9, x10, x11, x12) : replyR.T) (y9, y10, y11, y12)) then K (bl false, []) else K (bl true, [])) else none))) else none))) := by kernel_rfl
  exact e.trans (eq_ne (eq_ne (eq_sub (show (true && (true && (true && (true && (true && (Cc.sl bytesR).cnt x7))))) = true by simp only [c7, Bool.and_self]) ⟨fun h => by cases h; exact ⟨rfl, rfl⟩, fun h => by obtain ⟨h1, h2⟩ := h; cases h1; cases h2; rfl⟩ (eq_ne (eq_sub1 (show (true && (true && (true && (Cc.sl bytesR).cnt x12))) = true by simp only [c12, Bool.and_self])))))))

noncomputable def G_szOut := evF (En [(N.l_szReq, true, S_szA reqR), (N.l_szReply, true, S_szA replyR)] []) true F.l_szOut
theorem ok_szOut {I : Nat → World → Prop} : OkFn prog I N.l_szOut true (G_szOut) := ok_fn (memc okS_szReq (memc okS_szReply mem0)) (by kernel_rfl) (by kernel_rfl) (by kernel_rfl) (by kernel_rfl) (cs := []) (by kernel_rfl) loops0

theorem okS_szOut {I : Nat → World → Prop} : OkFn prog I N.l_szOut true (S_szA outR) := okW ok_szOut (S_szA_of fun d l K hl0 h => by
  obtain ⟨x0, x1, x2, x3, x4, x5, x6, x7, x8, x9, x10, x11, x12⟩ := d
  have h0 : (true && (true && (true && (true && (true && (true && (true && ((Cc.sl bytesR).cnz x7 && (true && (true && (true && (true && (Cc.sl bytesR).cnz x12)))))))))))) = true := h
  simp only [Bool.true_and, Bool.and_true, Bool.and_eq_true] at h0
  have c7 := h0.1
  have c12 := h0.2
  have w2 : reqR.w (x2, x3, x4, x5, x6, x7) = (0 + (0 + (0 + (0 + (0 + (Cc.sl bytesR).w x7))))) := rfl
  have w9 : replyR.w (x9, x10, x11, x12) = (0 + (0 + (0 + (Cc.sl bytesR).w x12))) := rfl
  have e : G_szOut [.a (outR.cells .no (x0, x1, x2, x3, x4, x5, x6, x7, x8, x9, x10, x11, x12)), .s (.int .i64 l)] K = (bif szOk l && reqR.cnz (x2, x3, x4, x5, x6, x7) then (bif decide (szN (reqR.w (x2, x3, x4, x5, x6, x7)) l < 0) then K (sc (-1), []) else (bif szOk (szN (reqR.w (x2, x3, x4, x5, x6, x7)) l) && replyR.cnz (x9, x10, x11, x12) then (bif decide (szN (replyR.w (x9, x10, x11, x12)) (szN (reqR.w (x2, x3, x4, x5, x6, x7)) l) < 0) then K (sc (-1), []) else K (sc (szN (replyR.w (x9, x10, x11, x12)) (szN (reqR.w (x2, x3, x4, x5, x6, x7)) l)), [])) else none)) else none) := by kernel_rfl
  have hw : (reqR.w (x2, x3, x4, x5, x6, x7) + (replyR.w (x9, x10, x11, x12) + 0)) = outR.w (x0, x1, x2, x3, x4, x5, x6, x7, x8, x9, x10, x11, x12) := by
    show (reqR.w (x2, x3, x4, x5, x6, x7) + (replyR.w (x9, x10, x11, x12) + 0)) = (0 + (0 + (0 + (0 + (0 + (0 + (0 + ((Cc.sl bytesR).w x7 + (0 + (0 + (0 + (0 + (Cc.sl bytesR).w x12))))))))))))
    omega
  refine (e.trans (sz_step (K := fun n => K (sc n, [])) (w2 := (replyR.w (x9, x10, x11, x12) + 0)) (wt := (reqR.w (x2, x3, x4, x5, x6, x7) + (replyR.w (x9, x10, x11, x12) + 0))) hl0 (show (true && (true && (true && (true && (true && (Cc.sl bytesR).cnz x7))))) = true by simp only [c7, Bool.and_self]) rfl (fun hl1 => sz_step (K := fun n => K (sc n, [])) (w2 := 0) (wt := (replyR.w (x9, x10, x11, x12) + 0)) hl1 (show (true && (true && (true && (Cc.sl bytesR).cnz x12))) = true by simp only [c12, Bool.and_self]) rfl (fun hl2 => sz_end (K := fun n => K (sc n, [])) hl2)))).trans ?_
  exact congrArg (fun n => K (sc (szN n l), [])) hw)

noncomputable def G_toOutS := evF (En [(N.l_toOut, true, S_toA outR)] [] [(3, [0,3,4], [3], loopF (shTo outR 18) (RTo outR 18))]) true F.l_toOutS
theorem ok_toOutS {I : Nat → World → Prop} : OkFn prog I N.l_toOutS true G_toOutS := ok_fn (memc okS_toOut mem0) (by kernel_rfl) (by kernel_rfl) (by kernel_rfl) (by kernel_rfl) (cs := [bodyOf F.l_toOutS 3]) (by kernel_rfl) (loopsc (loopTo (r := outR) (n := 18) (by kernel_rfl) rfl rfl (fun m x0 x4 o0 K => by kernel_rfl)) loops0)
theorem okS_toOutS {I : Nat → World → Prop} : OkFn prog I N.l_toOutS true (S_toL outR) := okW ok_toOutS (evTo (n := 18) (sz := 136) (fun a K => by kernel_rfl) rfl)

noncomputable def G_eqOutS := evF (En [(N.l_eqOut, true, S_eqA outR)] [(6, takeB [0, 1, 2, 3, 4, 5, 6, 7] (.fork (.one 8 (takes [9]))), [])] [(4, [0,1,5], [4], loopF (shEq outR 21) (REq outR 21))]) true F.l_eqOutS
theorem ok_eqOutS {I : Nat → World → Prop} : OkFn prog I N.l_eqOutS true G_eqOutS := ok_fn (memc okS_eqOut mem0) (by kernel_rfl) (by kernel_rfl) (by kernel_rfl) (by kernel_rfl) (cs := [bodyOf F.l_eqOutS 4]) (by kernel_rfl) (loopsc (loopEq (r := outR) (n := 21) (by kernel_rfl) rfl rfl (fun m x0 x1 x5 K => by kernel_rfl)) loops0)
theorem okS_eqOutS {I : Nat → World → Prop} : OkFn prog I N.l_eqOutS true (S_eq outR) := okW ok_eqOutS (evEq (fun a b K => by kernel_rfl))

noncomputable def G_szOutS := evF (En [(N.l_szOut, true, S_szA outR)] [] [(5, [0,1,5], [1,4], loopF (shSz outR 21) (RSz outR 21))]) true F.l_szOutS
theorem ok_szOutS {I : Nat → World → Prop} : OkFn prog I N.l_szOutS true G_szOutS := ok_fn (memc okS_szOut mem0) (by kernel_rfl) (by kernel_rfl) (by kernel_rfl) (by kernel_rfl) (cs := [bodyOf F.l_szOutS 5]) (by kernel_rfl) (loopsc (loopSz (r := outR) (n := 21) (by kernel_rfl) rfl rfl (fun m x0 x1 x5 K => by kernel_rfl)) loops0)
theorem okS_szOutS {I : Nat → World → Prop} : OkFn prog I N.l_szOutS true (S_szL outR) := okW ok_szOutS (evSz (fun a k K => by kernel_rfl))

noncomputable def G_markOutS (T : MText) := evF (En [(N.l_markByteS, true, S_markL T bytesR)] [] [(2, [0,1,5], [1], loopF (shMk outR 108) (RMk T outR 108))] [N.l_markByteS] true) true F.l_markOutS
theorem ok_markOutS {I : Nat → World → Prop} (T : MText) : OkFn prog I N.l_markOutS true (G_markOutS T) := ok_fn (memc (okS_markByteS T) mem0) (by kernel_rfl) (by kernel_rfl) (by kernel_rfl) (by kernel_rfl) (cs := [bodyOf F.l_markOutS 2]) (by kernel_rfl) (loopsc (loopMk (T := T) (r := outR) (n := 108) (by kernel_rfl) rfl rfl rfl (fun m x1 x5 o0 K => by kernel_rfl)) loops0)
theorem okS_markOutS {I : Nat → World → Prop} (T : MText) : OkFn prog I N.l_markOutS true (S_markL T outR) := okW (ok_markOutS T) (evMk (fun a k K => by kernel_rfl))
end Go.Ev.Seat
