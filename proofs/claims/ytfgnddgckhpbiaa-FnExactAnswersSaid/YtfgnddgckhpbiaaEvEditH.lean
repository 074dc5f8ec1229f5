/- The laws' helpers for Edit. Printed by fam.py. -/
import Derived.Test.YtfgnddgckhpbiaaEvBytes
import Derived.Test.YtfgnddgckhpbiaaEvFam
import Derived.Test.YtfgnddgckhpbiaaEvRows
namespace Go.Ev.Seat
open Go.RowKit
set_option maxRecDepth 100000
set_option linter.unusedVariables false
set_option linter.unusedSimpArgs false
noncomputable def G_toEdit := evF (En [(N.l_toByteS, true, S_toL bytesR)] []) true F.l_toEdit
theorem ok_toEdit {I : Nat → World → Prop} : OkFn prog I N.l_toEdit true (G_toEdit) := ok_fn (memc okS_toByteS mem0) (by kernel_rfl) (by kernel_rfl) (by kernel_rfl) (by kernel_rfl) (cs := []) (by kernel_rfl) loops0

theorem okS_toEdit {I : Nat → World → Prop} : OkFn prog I N.l_toEdit true (S_toA editR) := okW ok_toEdit (S_toA_of fun d K h => by
  obtain ⟨x0, x1, x2⟩ := d
  have h0 : (true && (true && (Cc.sl bytesR).lim x2)) = true := h
  simp only [Bool.true_and, Bool.and_true, Bool.and_eq_true] at h0
  have c2 := h0
  have e : G_toEdit [.a (editR.cells .no (x0, x1, x2))] K = (bif (Cc.sl bytesR).lim x2 then K (.a (editR.cells .deep (x0, x1, x2)), []) else none) := by kernel_rfl
  exact e.trans (to_step c2 rfl))

noncomputable def G_eqEdit := evF (En [(N.l_eqByteS, true, S_eq bytesR)] []) true F.l_eqEdit
theorem ok_eqEdit {I : Nat → World → Prop} : OkFn prog I N.l_eqEdit true (G_eqEdit) := ok_fn (memc okS_eqByteS mem0) (by kernel_rfl) (by kernel_rfl) (by kernel_rfl) (by kernel_rfl) (cs := []) (by kernel_rfl) loops0

theorem okS_eqEdit {I : Nat → World → Prop} : OkFn prog I N.l_eqEdit true (S_eqA editR) := okW ok_eqEdit (S_eqA_of fun d e K h => by
  obtain ⟨x0, x1, x2⟩ := d
  obtain ⟨y0, y1, y2⟩ := e
  have h0 : (true && (true && (Cc.sl bytesR).cnt x2)) = true := h
  simp only [Bool.true_and, Bool.and_true, Bool.and_eq_true] at h0
  have c2 := h0
  have e : G_eqEdit [.a (editR.cells .no (x0, x1, x2)), .a (editR.cells .no (y0, y1, y2))] K = (bif (x0 != y0) then K (bl false, []) else (bif (x1 != y1) then K (bl false, []) else (bif (Cc.sl bytesR).cnt x2 then (bif !(eqD x2 y2) then K (bl false, []) else K (bl true, [])) else none))) := by kernel_rfl
  exact e.trans (eq_ne (eq_ne (eq_sub1 c2))))

noncomputable def G_szEdit := evF (En [(N.l_szByteS, true, S_szL bytesR)] []) true F.l_szEdit
theorem ok_szEdit {I : Nat → World → Prop} : OkFn prog I N.l_szEdit true (G_szEdit) := ok_fn (memc okS_szByteS mem0) (by kernel_rfl) (by kernel_rfl) (by kernel_rfl) (by kernel_rfl) (cs := []) (by kernel_rfl) loops0

theorem okS_szEdit {I : Nat → World → Prop} : OkFn prog I N.l_szEdit true (S_szA editR) := okW ok_szEdit (S_szA_of fun d l K hl0 h => by
  obtain ⟨x0, x1, x2⟩ := d
  have h0 : (true && (true && (Cc.sl bytesR).cnz x2)) = true := h
  simp only [Bool.true_and, Bool.and_true, Bool.and_eq_true] at h0
  have c2 := h0
  have e : G_szEdit [.a (editR.cells .no (x0, x1, x2)), .s (.int .i64 l)] K = (bif szOk l && (Cc.sl bytesR).cnz x2 then (bif decide (szN ((Cc.sl bytesR).w x2) l < 0) then K (sc (-1), []) else K (sc (szN ((Cc.sl bytesR).w x2) l), [])) else none) := by kernel_rfl
  have hw : ((Cc.sl bytesR).w x2 + 0) = editR.w (x0, x1, x2) := by
    show ((Cc.sl bytesR).w x2 + 0) = (0 + (0 + (Cc.sl bytesR).w x2))
    omega
  refine (e.trans (sz_step (K := fun n => K (sc n, [])) (w2 := 0) (wt := ((Cc.sl bytesR).w x2 + 0)) hl0 c2 rfl (fun hl1 => sz_end (K := fun n => K (sc n, [])) hl1))).trans ?_
  exact congrArg (fun n => K (sc (szN n l), [])) hw)

noncomputable def G_markEdit (T : MText) := evF (En [(N.l_markByteS, true, S_markL T bytesR)] [] [] [N.l_markByteS] true) true F.l_markEdit
theorem ok_markEdit {I : Nat → World → Prop} (T : MText) : OkFn prog I N.l_markEdit true (G_markEdit T) := ok_fn (memc (okS_markByteS T) mem0) (by kernel_rfl) (by kernel_rfl) (by kernel_rfl) (by kernel_rfl) (cs := []) (by kernel_rfl) loops0

theorem okS_markEdit {I : Nat → World → Prop} (T : MText) : OkFn prog I N.l_markEdit true (S_markA T editR) := okW (ok_markEdit T) (S_markA_of fun d k K h => by
  obtain ⟨x0, x1, x2⟩ := d
  have h0 : (true && (true && (Cc.sl bytesR).cnt x2)) = true := h
  simp only [Bool.true_and, Bool.and_true, Bool.and_eq_true] at h0
  have c2 := h0
  have e : G_markEdit T [.a (editR.cells .own (x0, x1, x2)), .s (.int .i64 k)] K = (bif (Cc.sl bytesR).cnt x2 then K (sc (editR.markA T (x0, x1, x2) k).2, [.a (editR.cells .own (editR.markA T (x0, x1, x2) k).1)]) else none) := by kernel_rfl
  exact e.trans (to_step c2 rfl))

noncomputable def G_heldEdit (T : MText) := evF (En [(N.l_heldByteS, true, S_heldL T bytesR)] []) true F.l_heldEdit
theorem ok_heldEdit {I : Nat → World → Prop} (T : MText) : OkFn prog I N.l_heldEdit true (G_heldEdit T) := ok_fn (memc (okS_heldByteS T) mem0) (by kernel_rfl) (by kernel_rfl) (by kernel_rfl) (by kernel_rfl) (cs := []) (by kernel_rfl) loops0

theorem okS_heldEdit {I : Nat → World → Prop} (T : MText) : OkFn prog I N.l_heldEdit true (S_heldA T editR) := okW (ok_heldEdit T) (S_heldA_of fun d k K hm h hk hle => by
  obtain ⟨x0, x1, x2⟩ := d
  have h0 : (true && (true && (Cc.sl bytesR).cnt x2)) = true := h
  simp only [Bool.true_and, Bool.and_true, Bool.and_eq_true] at h0
  have c2 := h0
  have ht : k + (((0 + (0 + (Cc.sl bytesR).marks x2)) : Nat) : Int) ≤ 4611686018427387904 := hle
  have p0 : 0 ≤ k := by omega
  have q0 : k + (((Cc.sl bytesR).marks x2 : Nat) : Int) ≤ 4611686018427387904 := by omega
  have m0 := Cc.mark_cnt T (.sl bytesR) x2 k p0 q0
  have e0 : ((Cc.sl bytesR).mark T x2 k).1 = x2 := congrArg (fun p : editR.T => p.2.2) hm
  have e : G_heldEdit T [.a (editR.cells .no (x0, x1, x2)), .s (.int .i64 k)] K = (bif (eqD ((Cc.sl bytesR).mark T x2 k).1 x2) && ((Cc.sl bytesR).cnt x2 && decide ((0 : Int) ≤ k) && decide (k + (((Cc.sl bytesR).marks x2 : Nat) : Int) ≤ 4611686018427387904)) then (bif decide (((Cc.sl bytesR).mark T x2 k).2 < 0) then K (sc (-1), []) else K (sc ((Cc.sl bytesR).mark T x2 k).2, [])) else none) := by kernel_rfl
  exact e.trans (held_step (eqD_iff.2 e0) c2 p0 q0 m0 rfl))

noncomputable def G_toEditS := evF (En [(N.l_toEdit, true, S_toA editR)] [] [(3, [0,3,4], [3], loopF (shTo editR 18) (RTo editR 18))]) true F.l_toEditS
theorem ok_toEditS {I : Nat → World → Prop} : OkFn prog I N.l_toEditS true G_toEditS := ok_fn (memc okS_toEdit mem0) (by kernel_rfl) (by kernel_rfl) (by kernel_rfl) (by kernel_rfl) (cs := [bodyOf F.l_toEditS 3]) (by kernel_rfl) (loopsc (loopTo (r := editR) (n := 18) (by kernel_rfl) rfl rfl (fun m x0 x4 o0 K => by kernel_rfl)) loops0)
theorem okS_toEditS {I : Nat → World → Prop} : OkFn prog I N.l_toEditS true (S_toL editR) := okW ok_toEditS (evTo (n := 18) (sz := 40) (fun a K => by kernel_rfl) rfl)

noncomputable def G_eqEditS := evF (En [(N.l_eqEdit, true, S_eqA editR)] [(6, takeB [0, 1, 2, 3, 4, 5, 6, 7] (.fork (.one 8 (takes [9]))), [])] [(4, [0,1,5], [4], loopF (shEq editR 21) (REq editR 21))]) true F.l_eqEditS
theorem ok_eqEditS {I : Nat → World → Prop} : OkFn prog I N.l_eqEditS true G_eqEditS := ok_fn (memc okS_eqEdit mem0) (by kernel_rfl) (by kernel_rfl) (by kernel_rfl) (by kernel_rfl) (cs := [bodyOf F.l_eqEditS 4]) (by kernel_rfl) (loopsc (loopEq (r := editR) (n := 21) (by kernel_rfl) rfl rfl (fun m x0 x1 x5 K => by kernel_rfl)) loops0)
theorem okS_eqEditS {I : Nat → World → Prop} : OkFn prog I N.l_eqEditS true (S_eq editR) := okW ok_eqEditS (evEq (fun a b K => by kernel_rfl))

noncomputable def G_szEditS := evF (En [(N.l_szEdit, true, S_szA editR)] [] [(5, [0,1,5], [1,4], loopF (shSz editR 21) (RSz editR 21))]) true F.l_szEditS
theorem ok_szEditS {I : Nat → World → Prop} : OkFn prog I N.l_szEditS true G_szEditS := ok_fn (memc okS_szEdit mem0) (by kernel_rfl) (by kernel_rfl) (by kernel_rfl) (by kernel_rfl) (cs := [bodyOf F.l_szEditS 5]) (by kernel_rfl) (loopsc (loopSz (r := editR) (n := 21) (by kernel_rfl) rfl rfl (fun m x0 x1 x5 K => by kernel_rfl)) loops0)
theorem okS_szEditS {I : Nat → World → Prop} : OkFn prog I N.l_szEditS true (S_szL editR) := okW ok_szEditS (evSz (fun a k K => by kernel_rfl))

noncomputable def G_markEditS (T : MText) := evF (En [(N.l_markByteS, true, S_markL T bytesR)] [] [(2, [0,1,5], [1], loopF (shMk editR 28) (RMk T editR 28))] [N.l_markByteS] true) true F.l_markEditS
theorem ok_markEditS {I : Nat → World → Prop} (T : MText) : OkFn prog I N.l_markEditS true (G_markEditS T) := ok_fn (memc (okS_markByteS T) mem0) (by kernel_rfl) (by kernel_rfl) (by kernel_rfl) (by kernel_rfl) (cs := [bodyOf F.l_markEditS 2]) (by kernel_rfl) (loopsc (loopMk (T := T) (r := editR) (n := 28) (by kernel_rfl) rfl rfl rfl (fun m x1 x5 o0 K => by kernel_rfl)) loops0)
theorem okS_markEditS {I : Nat → World → Prop} (T : MText) : OkFn prog I N.l_markEditS true (S_markL T editR) := okW (ok_markEditS T) (evMk (fun a k K => by kernel_rfl))

noncomputable def G_heldEditS (T : MText) := evF (En [(N.l_heldByteS, true, S_heldL T bytesR)] [] [(2, [0,1,5], [1,4], loopF (shSz editR 34) (RHd T editR 34))]) true F.l_heldEditS
theorem ok_heldEditS {I : Nat → World → Prop} (T : MText) : OkFn prog I N.l_heldEditS true (G_heldEditS T) := ok_fn (memc (okS_heldByteS T) mem0) (by kernel_rfl) (by kernel_rfl) (by kernel_rfl) (by kernel_rfl) (cs := [bodyOf F.l_heldEditS 2]) (by kernel_rfl) (loopsc (loopHd (T := T) (r := editR) (n := 34) (by kernel_rfl) rfl rfl rfl (fun m x0 x1 x5 K => by kernel_rfl)) loops0)
theorem okS_heldEditS {I : Nat → World → Prop} (T : MText) : OkFn prog I N.l_heldEditS true (S_heldL T editR) := okW (ok_heldEditS T) (evHd (fun a k K => by kernel_rfl))
end Go.Ev.Seat
