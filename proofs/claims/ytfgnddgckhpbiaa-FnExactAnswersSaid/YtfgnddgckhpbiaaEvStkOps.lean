/- Stacks: their lists copied, the top, a push. -/
import Derived.Test.YtfgnddgckhpbiaaEvStk
namespace Go.Ev
theorem take_snoc {α : Type} {xs : List α} {i : Nat} {z : α} (h : i < xs.length) : xs.take (i + 1) = xs.take i ++ [xs.getD i z] := by
  rw [List.take_add_one, List.getD_eq_getElem?_getD, List.getElem?_eq_getElem h]; rfl
end Go.Ev
namespace Go.Ev.Seat
open Go.RowKit
set_option maxRecDepth 100000
set_option linter.unusedVariables false
variable {I : Nat → World → Prop}
noncomputable abbrev ls_l08Edit : List (Nat × Bool × Sm) := []
noncomputable abbrev pl_l08Edit : List (Nat × Plan × List Nat) := [(1, takeB [0, 1, 2, 3, 5, 6] (.fork (.one 4 (.fork (.one 7 (takeB [8] (.fork (.one 9 (.done)))))))), [])]
theorem ev_l08Edit (a : T_Edit) (K : Ret → Option Ret) (h0 : editR.lim a = true) : evF (En ls_l08Edit pl_l08Edit) true F.s_l08Edit [.a (editR.cells .no a)] K = K (.a (editR.cells .deep a), []) := by
  have eTr : evF (En ls_l08Edit pl_l08Edit) true F.s_l08Edit [.a (editR.cells .no a)] K =
 (bif (Nat.ble (((List.length ([] : List Int)) + (List.length a.2.2)) * 1) 140737488355328) then K (.a (editR.cells .deep (a.1, a.2.1, [] ++ a.2.2)), []) else none) := by kernel_rfl
  refine eTr.trans ?_
  have h1 : (true && (true && (Cc.sl bytesR).lim a.2.2)) = true := h0
  simp only [Bool.true_and, Cc.lim, Bool.and_eq_true] at h1
  have h2 : List.length a.2.2 ≤ 1048576 := Nat.le_of_ble_eq_true h1.1
  rw [Nat.ble_eq_true_of_le (show (([] : List Int).length + List.length a.2.2) * 1 ≤ 140737488355328 by simp only [List.length_nil]; omega)]; rfl
theorem okS_l08Edit : OkFn prog I N.s_l08Edit true S_copied := okW (ok_fn mem0 (l := ls_l08Edit) (p := pl_l08Edit) (ls := []) (lend := []) (focus := false) (fuel := 0) (fn := F.s_l08Edit) (by kernel_rfl) (by kernel_rfl) (by kernel_rfl) (by kernel_rfl) (cs := []) (by kernel_rfl) loops0) (S_fn_of fun d K h => ev_l08Edit d.1 K h)
def sh_copy : Ss := { tm := (.cons (.l .no editR) (.cons (.x) (.cons (.x) (.cons (.w 0) (.cons (.int .i64) (xsh 16)))))), ob := (.arr true true editR .nil), nx := 1, io := .nil }
def d_copy (x0 : List T_Edit) (x4 : Int) (o0 : List T_Edit) : sh_copy.T := ((x0, ((), ((), ((), (x4, xd 16))))), (o0, ()), ())
def z_copy (o0 : List T_Edit) : St := { tm := ([.x, .x, .x, (.w 0)] ++ List.replicate 17 .x), ob := [(0, (.arr true true editR o0))], nx := 1, io := [] }
def R_copy (d : sh_copy.T) (K : Ex → St → Option Ret) : Option Ret := match d with
  | ((x0, (_, (_, (_, (x4, _))))), (o0, _), _) => bif (x4 == 0) && Nat.beq (List.length o0) 0 && (Cc.sl editR).lim x0 then K (.ext 0) (z_copy x0) else none
noncomputable abbrev ls_copy : List (Nat × Bool × Sm) := [(N.s_l08Edit, true, S_copied)]
noncomputable abbrev lo_copy : List (Nat × List Nat × List Nat × LoopFn) := [(3, [0,3,4], [3], loopF sh_copy R_copy)]
noncomputable abbrev L_copy (n : Nat) (x0 : List T_Edit) (x4 : Int) (o0 : List T_Edit) (K : Ex → St → Option Ret) : Option Ret := rounds (run (En ls_copy [] lo_copy) (bodyOf F.s_l08Copy 3)) [0,3,4] [3] n (sh_copy.mk' (d_copy x0 x4 o0)) K
theorem step_copy (n : Nat) (x0 : List T_Edit) (x4 : Int) (o0 : List T_Edit) (K : Ex → St → Option Ret) : L_copy (n + 1) x0 x4 o0 K =
 (bif decide (x4 < (((List.length x0) : Nat) : Int)) then
 (bif (decide ((0 : Int) ≤ x4) && decide (x4 < (((List.length x0) : Nat) : Int))) then
  (bif (editR.lim (List.getD x0 (Int.toNat x4) (editR.dflt))) then
   (bif (Nat.ble (((List.length o0) + (List.length ((List.getD x0 (Int.toNat x4) (editR.dflt)) :: []))) * 40) 140737488355328) then
    L_copy n x0 (IntKind.wrap .i64 (x4 + (1 : Int))) (o0 ++ ((List.getD x0 (Int.toNat x4) (editR.dflt)) :: [])) K
    else none)
   else none)
  else none)
 else K (.ext 0) (z_copy o0)) := by kernel_rfl
theorem go_copy (x0 : List T_Edit) (K : Ex → St → Option Ret) (h3 : x0.length ≤ 1048576) (h4 : List.all x0 editR.lim = true) : L_copy (x0.length + 1) x0 0 [] K = K (.ext 0) (z_copy x0) := by
  have := loop_idx (R := fun n i (s : List T_Edit) => L_copy n x0 i s K) (k := K (.ext 0) (z_copy x0)) (f := fun i => x0.take i) x0.length (fun m i hi => by
    refine (step_copy m x0 i (x0.take i) K).trans ?_
    have hl : (x0.take i).length ≤ 1048576 := by simp; omega
    rw [decide_eq_true (show ((i : Nat) : Int) < ((x0.length : Nat) : Int) by omega), decide_eq_true (show (0 : Int) ≤ ((i : Nat) : Int) by omega), wrap_nat (show i ≤ 4611686018427387904 by omega), Int.toNat_natCast, all_getD (p := editR.lim) h4 hi, Nat.ble_eq_true_of_le (show ((x0.take i).length + [x0.getD i editR.dflt].length) * 40 ≤ 140737488355328 by simp only [List.length_cons, List.length_nil]; omega)]
    have ht : x0.take (i + 1) = x0.take i ++ [x0.getD i editR.dflt] := take_snoc hi
    show L_copy m _ _ (x0.take i ++ [x0.getD i editR.dflt]) K = L_copy m _ _ (x0.take (i + 1)) K
    rw [ht]) (fun m => by
    refine (step_copy m x0 _ (x0.take x0.length) K).trans ?_
    rw [decide_eq_false (show ¬ ((x0.length : Nat) : Int) < ((x0.length : Nat) : Int) by omega), List.take_length]; rfl)
  exact this
theorem loopK_copy : LoopOk (En ls_copy [] lo_copy) (bodyOf F.s_l08Copy 3) := by
  refine loopF_ok (n := 3) (sh := sh_copy) (R := R_copy) (by kernel_rfl) rfl rfl (fun d K r hr => ?_)
  obtain ⟨⟨x0, u1, u2, u3, x4, u4⟩, ⟨o0, u5⟩, u6⟩ := d
  unfold R_copy at hr
  simp only at hr
  cases hc : ((x4 == 0) && Nat.beq (List.length o0) 0 && (Cc.sl editR).lim x0) with
  | false => rw [hc] at hr; cases hr
  | true =>
    rw [hc] at hr
    simp only [Bool.and_eq_true, beq_iff_eq, Cc.lim] at hc
    obtain ⟨⟨rfl, h2⟩, h3⟩ := hc
    have h2' : o0 = [] := List.eq_nil_of_length_eq_zero (Nat.eq_of_beq_eq_true h2)
    subst h2'
    exact ⟨x0.length + 1, (go_copy x0 K (Nat.le_of_ble_eq_true h3.1) h3.2).trans hr⟩
theorem ev_copy (l : List T_Edit) (K : Ret → Option Ret) (h : (Cc.sl editR).lim l = true) : evF (En ls_copy [] lo_copy) true F.s_l08Copy [.l .no editR l] K = K (.l .deep editR l, []) := by
  have eTr : evF (En ls_copy [] lo_copy) true F.s_l08Copy [.l .no editR l] K = (bif ((0 : Int) == 0) && Nat.beq 0 0 && (Cc.sl editR).lim l then K (.l .deep editR l, []) else none) := by kernel_rfl
  refine eTr.trans ?_
  rw [h]; rfl
theorem okS_copy : OkFn prog I N.s_l08Copy true (S_toL editR) := okW (ok_fn (memc okS_l08Edit mem0) (l := ls_copy) (p := []) (ls := lo_copy) (lend := []) (focus := false) (fuel := 0) (fn := F.s_l08Copy) (by kernel_rfl) (by kernel_rfl) (by kernel_rfl) (by kernel_rfl) (cs := [bodyOf F.s_l08Copy 3]) (by kernel_rfl) (loopsc loopK_copy loops0)) (S_toL_of fun xs K h => ev_copy xs K h)
def sh_edits : Ss := { tm := (.cons (.x) (.cons (.x) (.cons (.x) (.cons (.w 0) (.cons (.x) (.cons (.x) (.cons (.x) (.cons (.l .no editR) (.cons (.int .i64) (.cons (.int .i64) (xsh 10))))))))))), ob := (.arr true true editR .nil), nx := 1, io := .nil }
def d_edits (x0 : List T_Edit) (x8 : Int) (x9 : Int) (o0 : List T_Edit) : sh_edits.T := (((), ((), ((), ((), ((), ((), ((), (x0, (x8, (x9, xd 10)))))))))), (o0, ()), ())
def z_edits (o0 : List T_Edit) : St := { tm := ([.x, .x, .x, (.w 0)] ++ List.replicate 16 .x), ob := [(0, (.arr true true editR o0))], nx := 1, io := [] }
def R_edits (d : sh_edits.T) (K : Ex → St → Option Ret) : Option Ret := match d with
  | ((_, (_, (_, (_, (_, (_, (_, (x0, (x8, (x9, _)))))))))), (o0, _), _) => bif (x9 == 0) && (x8 == ((List.length x0 : Nat) : Int)) && Nat.beq (List.length o0) 0 && (Cc.sl editR).lim x0 then K (.ext 0) (z_edits x0) else none
noncomputable abbrev ls_edits : List (Nat × Bool × Sm) := [(N.i_Edit_copied, true, S_copied)]
noncomputable abbrev lo_edits : List (Nat × List Nat × List Nat × LoopFn) := [(3, [3,7,8,9], [3], loopF sh_edits R_edits)]
noncomputable abbrev L_edits (n : Nat) (x0 : List T_Edit) (x8 x9 : Int) (o0 : List T_Edit) (K : Ex → St → Option Ret) : Option Ret := rounds (run (En ls_edits [] lo_edits) (bodyOf F.i_edits 3)) [3,7,8,9] [3] n (sh_edits.mk' (d_edits x0 x8 x9 o0)) K
theorem step_edits (n : Nat) (x0 : List T_Edit) (x8 x9 : Int) (o0 : List T_Edit) (K : Ex → St → Option Ret) : L_edits (n + 1) x0 x8 x9 o0 K =
 (bif decide (x9 < x8) then
 (bif (decide ((0 : Int) ≤ x9) && decide (x9 < (((List.length x0) : Nat) : Int))) then
  (bif (editR.lim (List.getD x0 (Int.toNat x9) (editR.dflt))) then
   (bif (Nat.ble (((List.length o0) + (List.length ((List.getD x0 (Int.toNat x9) (editR.dflt)) :: []))) * 40) 140737488355328) then
    L_edits n x0 x8 (IntKind.wrap .i64 (x9 + (1 : Int))) (o0 ++ ((List.getD x0 (Int.toNat x9) (editR.dflt)) :: [])) K
    else none)
   else none)
  else none)
 else K (.ext 0) (z_edits o0)) := by kernel_rfl
theorem go_edits (x0 : List T_Edit) (K : Ex → St → Option Ret) (h3 : x0.length ≤ 1048576) (h4 : List.all x0 editR.lim = true) : L_edits (x0.length + 1) x0 ((x0.length : Nat) : Int) 0 [] K = K (.ext 0) (z_edits x0) := by
  have := loop_idx (R := fun n i (s : List T_Edit) => L_edits n x0 ((x0.length : Nat) : Int) i s K) (k := K (.ext 0) (z_edits x0)) (f := fun i => x0.take i) x0.length (fun m i hi => by
    refine (step_edits m x0 ((x0.length : Nat) : Int) i (x0.take i) K).trans ?_
    have hl : (x0.take i).length ≤ 1048576 := by simp; omega
    rw [decide_eq_true (show ((i : Nat) : Int) < ((x0.length : Nat) : Int) by omega), decide_eq_true (show (0 : Int) ≤ ((i : Nat) : Int) by omega), wrap_nat (show i ≤ 4611686018427387904 by omega), Int.toNat_natCast, all_getD (p := editR.lim) h4 hi, Nat.ble_eq_true_of_le (show ((x0.take i).length + [x0.getD i editR.dflt].length) * 40 ≤ 140737488355328 by simp only [List.length_cons, List.length_nil]; omega)]
    have ht : x0.take (i + 1) = x0.take i ++ [x0.getD i editR.dflt] := take_snoc hi
    show L_edits m _ _ _ (x0.take i ++ [x0.getD i editR.dflt]) K = L_edits m _ _ _ (x0.take (i + 1)) K
    rw [ht]) (fun m => by
    refine (step_edits m x0 _ _ (x0.take x0.length) K).trans ?_
    rw [decide_eq_false (show ¬ ((x0.length : Nat) : Int) < ((x0.length : Nat) : Int) by omega), List.take_length]; rfl)
  exact this
theorem loopK_edits : LoopOk (En ls_edits [] lo_edits) (bodyOf F.i_edits 3) := by
  refine loopF_ok (n := 3) (sh := sh_edits) (R := R_edits) (by kernel_rfl) rfl rfl (fun d K r hr => ?_)
  obtain ⟨⟨u0, u1, u2, u3, u4, u5, u6, x0, x8, x9, u7⟩, ⟨o0, u8⟩, u9⟩ := d
  unfold R_edits at hr
  simp only at hr
  cases hc : ((x9 == 0) && (x8 == ((List.length x0 : Nat) : Int)) && Nat.beq (List.length o0) 0 && (Cc.sl editR).lim x0) with
  | false => rw [hc] at hr; cases hr
  | true =>
    rw [hc] at hr
    simp only [Bool.and_eq_true, beq_iff_eq, Cc.lim] at hc
    obtain ⟨⟨⟨rfl, rfl⟩, h2⟩, h3⟩ := hc
    have h2' : o0 = [] := List.eq_nil_of_length_eq_zero (Nat.eq_of_beq_eq_true h2)
    subst h2'
    exact ⟨x0.length + 1, (go_edits x0 K (Nat.le_of_ble_eq_true h3.1) h3.2).trans hr⟩
theorem ev_edits (l : List T_Edit) (K : Ret → Option Ret) (h : (Cc.sl editR).lim l = true) : evF (En ls_edits [] lo_edits) true F.i_edits [.l .no editR l] K = K (.l .deep editR l, []) := by
  have eTr : evF (En ls_edits [] lo_edits) true F.i_edits [.l .no editR l] K = (bif ((0 : Int) == 0) && (((List.length l : Nat) : Int) == ((List.length l : Nat) : Int)) && Nat.beq 0 0 && (Cc.sl editR).lim l then K (.l .deep editR l, []) else none) := by kernel_rfl
  refine eTr.trans ?_
  rw [h, beq_self_eq_true, beq_self_eq_true]; rfl
theorem okS_edits : OkFn prog I N.i_edits true (S_toL editR) := okW (ok_fn (memc okS_iCopied mem0) (l := ls_edits) (p := []) (ls := lo_edits) (lend := []) (focus := false) (fuel := 0) (fn := F.i_edits) (by kernel_rfl) (by kernel_rfl) (by kernel_rfl) (by kernel_rfl) (cs := [bodyOf F.i_edits 3]) (by kernel_rfl) (loopsc loopK_edits loops0)) (S_toL_of fun xs K h => ev_edits xs K h)
theorem small_lim {e : T_Edit} (h : smallE e = true) : editR.lim e = true := by
  obtain ⟨a1, a2, a3, a4, a5⟩ := small_iff h
  exact lim_small (by omega)
theorem smalls_w : ∀ (l : List T_Edit), l.all smallE = true → sumW editR.w l ≤ 400 * l.length
  | [], _ => by simp [sumW]
  | e :: l, h => by
    simp only [List.all_cons, Bool.and_eq_true] at h
    have h1 := smalls_w l h.2
    obtain ⟨a1, a2, a3, a4, a5⟩ := small_iff h.1
    have h2 := editR_w e
    simp only [sumW, List.length_cons]
    omega
theorem okL_w {l : List T_Edit} (h : okL l = true) : l.length ≤ 6 ∧ (Cc.sl editR).w l ≤ 3000 := by
  simp only [okL, Bool.and_eq_true, decide_eq_true_eq] at h
  have h1 := smalls_w l h.2
  have e : (Cc.sl editR).w l = l.length + sumW editR.w l := rfl
  omega
theorem okL_lim {l : List T_Edit} (h : okL l = true) : (Cc.sl editR).lim l = true := Cc.lim_ok (.sl editR) l (by have := okL_w h; omega)
def topD (l : List T_Edit) (e : T_Edit) : List T_Edit := (l ++ [e]).drop (l.length + 1 - 6)
def S_topN : Sm := S_fn [.l editR, .a editR] (fun d => okL d.1 && smallE d.2.1) (fun d => .l .no editR (topD d.1 d.2.1))
noncomputable abbrev ls_l08Top : List (Nat × Bool × Sm) := [(N.s_l08Copy, true, S_toL editR), (N.s_l08Edit, true, S_copied)]
noncomputable abbrev pl_l08Top : List (Nat × Plan × List Nat) := [(1, takeB [0, 2] (.fork (.one 1 (.fork (.one 3 (.fork (.one 4 (.fork (.one 5 (takes [6]))))))))), [])]
theorem ev_l08Top (l : List T_Edit) (a : T_Edit) (K : Ret → Option Ret) (h0 : (okL l && smallE a) = true) : S_no (evF (En ls_l08Top pl_l08Top) false F.s_l08Top) [.l .no editR l, .a (editR.cells .no a)] K = K (.l .no editR (topD l a), []) := by
  have eTr : S_no (evF (En ls_l08Top pl_l08Top) false F.s_l08Top) [.l .no editR l, .a (editR.cells .no a)] K =
 (bif (Cc.lim (Cc.sl editR) l) then
 (bif (Rw.lim editR a) then
  (bif (Nat.ble (((List.length l) + (List.length (a :: []))) * 40) 140737488355328) then
   (bif decide ((((List.length (l ++ (a :: []))) : Nat) : Int) > (6 : Int)) then
    (bif ((decide ((0 : Int) ≤ ((1 : Nat) : Int)) && decide (((1 : Nat) : Int) ≤ (((List.length (l ++ (a :: []))) : Nat) : Int))) && decide ((((List.length (l ++ (a :: []))) : Nat) : Int) ≤ (((List.length (l ++ (a :: []))) : Nat) : Int))) then
     K (.l .no editR (((l ++ [a]).drop 1).take (Int.toNat ((((List.length (l ++ (a :: []))) : Nat) : Int)) - 1)), [])
     else none)
    else K ((.l .no editR (l ++ (a :: []))), []))
   else none)
  else none)
 else none) := by kernel_rfl
  refine eTr.trans ?_
  simp only [Bool.and_eq_true] at h0
  obtain ⟨w1, w2⟩ := okL_w h0.1
  rw [okL_lim h0.1, small_lim h0.2, Nat.ble_eq_true_of_le (show (l.length + [a].length) * 40 ≤ 140737488355328 by simp only [List.length_cons, List.length_nil]; omega)]
  have hlen : (l ++ [a]).length = l.length + 1 := by simp
  unfold topD
  by_cases h6 : (((l ++ [a]).length : Nat) : Int) > 6
  · rw [decide_eq_true h6, decide_eq_true (show ((1 : Nat) : Int) ≤ (((l ++ [a]).length : Nat) : Int) by omega), decide_eq_true (Int.le_refl (((l ++ [a]).length : Nat) : Int))]
    have e1 : l.length + 1 - 6 = 1 := by omega
    rw [e1]
    exact congrArg (fun x : List T_Edit => K (.l .no editR x, [])) (show List.take (Int.toNat (((l ++ [a]).length : Nat) : Int) - 1) ((l ++ [a]).drop 1) = (l ++ [a]).drop 1 by rw [List.take_of_length_le (by rw [List.length_drop]; omega)])
  · rw [decide_eq_false h6]
    have e1 : l.length + 1 - 6 = 0 := by omega
    rw [e1]; rfl
theorem okS_l08Top : OkFn prog I N.s_l08Top false S_topN := okW (OkFn.no (ok_fn (memc okS_copy (memc okS_l08Edit mem0)) (fresh := false) (l := ls_l08Top) (p := pl_l08Top) (ls := []) (lend := []) (focus := false) (fuel := 0) (fn := F.s_l08Top) (by kernel_rfl) (by kernel_rfl) (by kernel_rfl) (by kernel_rfl) (cs := []) (by kernel_rfl) loops0)) (S_fn_of fun d K h => ev_l08Top d.1 d.2.1 K h)
noncomputable abbrev ls_stacked : List (Nat × Bool × Sm) := [(N.i_edits, true, S_toL editR), (N.i_Edit_copied, true, S_copied)]
noncomputable abbrev pl_stacked : List (Nat × Plan × List Nat) := [(1, takeB [0, 2] (.fork (.one 1 (.fork (.one 3 (.fork (.one 4 (.fork (.one 5 (takes [6]))))))))), [])]
theorem ev_stacked (l : List T_Edit) (a : T_Edit) (K : Ret → Option Ret) (h0 : (okL l && smallE a) = true) : S_no (evF (En ls_stacked pl_stacked) false F.i_stacked) [.l .no editR l, .a (editR.cells .no a)] K = K (.l .no editR (topD l a), []) := by
  have eTr : S_no (evF (En ls_stacked pl_stacked) false F.i_stacked) [.l .no editR l, .a (editR.cells .no a)] K =
 (bif (Cc.lim (Cc.sl editR) l) then
 (bif (Rw.lim editR a) then
  (bif (Nat.ble (((List.length l) + (List.length (a :: []))) * 40) 140737488355328) then
   (bif ((decide ((0 : Int) ≤ (if (IntKind.wrap .i64 ((((List.length (l ++ (a :: []))) : Nat) : Int) - (6 : Int))) < 0 then 0 else (IntKind.wrap .i64 ((((List.length (l ++ (a :: []))) : Nat) : Int) - (6 : Int))))) && decide ((if (IntKind.wrap .i64 ((((List.length (l ++ (a :: []))) : Nat) : Int) - (6 : Int))) < 0 then 0 else (IntKind.wrap .i64 ((((List.length (l ++ (a :: []))) : Nat) : Int) - (6 : Int)))) ≤ (((List.length (l ++ (a :: []))) : Nat) : Int))) && decide ((((List.length (l ++ (a :: []))) : Nat) : Int) ≤ (((List.length (l ++ (a :: []))) : Nat) : Int))) then
    K (.l .no editR (((l ++ [a]).drop (Int.toNat (if (IntKind.wrap .i64 ((((List.length (l ++ (a :: []))) : Nat) : Int) - (6 : Int))) < 0 then 0 else (IntKind.wrap .i64 ((((List.length (l ++ (a :: []))) : Nat) : Int) - (6 : Int)))))).take (Int.toNat ((((List.length (l ++ (a :: []))) : Nat) : Int)) - Int.toNat (if (IntKind.wrap .i64 ((((List.length (l ++ (a :: []))) : Nat) : Int) - (6 : Int))) < 0 then 0 else (IntKind.wrap .i64 ((((List.length (l ++ (a :: []))) : Nat) : Int) - (6 : Int)))))), [])
    else none)
   else none)
  else none)
 else none) := by kernel_rfl
  refine eTr.trans ?_
  simp only [Bool.and_eq_true] at h0
  obtain ⟨w1, w2⟩ := okL_w h0.1
  have hlen : (l ++ [a]).length = l.length + 1 := by simp
  rw [okL_lim h0.1, small_lim h0.2, Nat.ble_eq_true_of_le (show (l.length + [a].length) * 40 ≤ 140737488355328 by simp only [List.length_cons, List.length_nil]; omega), wrap_in (n := (((l ++ [a]).length : Nat) : Int) - 6) (by omega) (by omega)]
  have em : (if ((((l ++ [a]).length : Nat) : Int) - 6) < 0 then 0 else ((((l ++ [a]).length : Nat) : Int) - 6)) = ((l.length + 1 - 6 : Nat) : Int) := by split <;> omega
  rw [em, decide_eq_true (show (0 : Int) ≤ ((l.length + 1 - 6 : Nat) : Int) by omega), decide_eq_true (show ((l.length + 1 - 6 : Nat) : Int) ≤ (((l ++ [a]).length : Nat) : Int) by omega), decide_eq_true (Int.le_refl (((l ++ [a]).length : Nat) : Int)), Int.toNat_natCast]
  unfold topD
  exact congrArg (fun x : List T_Edit => K (.l .no editR x, [])) (show List.take (Int.toNat (((l ++ [a]).length : Nat) : Int) - (l.length + 1 - 6)) ((l ++ [a]).drop (l.length + 1 - 6)) = (l ++ [a]).drop (l.length + 1 - 6) by rw [List.take_of_length_le (by rw [List.length_drop]; omega)])
theorem okS_stacked : OkFn prog I N.i_stacked false S_topN := okW (OkFn.no (ok_fn (memc okS_edits (memc okS_iCopied mem0)) (fresh := false) (l := ls_stacked) (p := pl_stacked) (ls := []) (lend := []) (focus := false) (fuel := 0) (fn := F.i_stacked) (by kernel_rfl) (by kernel_rfl) (by kernel_rfl) (by kernel_rfl) (cs := []) (by kernel_rfl) loops0)) (S_fn_of fun d K h => ev_stacked d.1 d.2.1 K h)
def sideD (s : T_Stack) (b : Bool) : List T_Edit := bif b then s.2 else s.1
def S_side : Sm := S_fn [.a stackR, .b] (fun _ => true) (fun d => .l .no editR (sideD d.1 d.2.1))
noncomputable abbrev ls_side : List (Nat × Bool × Sm) := []
noncomputable abbrev pl_side : List (Nat × Plan × List Nat) := []
theorem ev_side (s : T_Stack) (b : Bool) (K : Ret → Option Ret) : evF (En ls_side pl_side) false F.s_l08Side [.a (stackR.cells .no s), .s (.bool b)] K = K (.l .no editR (sideD s b), []) := by
  have eTr : evF (En ls_side pl_side) false F.s_l08Side [.a (stackR.cells .no s), .s (.bool b)] K =
 (bif b then K ((.l .no editR s.2), []) else K ((.l .no editR s.1), [])) := by kernel_rfl
  refine eTr.trans ?_
  cases b <;> rfl
theorem okS_side : OkFn prog I N.s_l08Side false S_side := okW (ok_fn mem0 (l := ls_side) (p := pl_side) (ls := []) (lend := []) (focus := false) (fuel := 0) (fn := F.s_l08Side) (by kernel_rfl) (by kernel_rfl) (by kernel_rfl) (by kernel_rfl) (cs := []) (by kernel_rfl) loops0) (S_fn_of fun d K h => ev_side d.1 d.2.1 K)
def lastE (l : List T_Edit) : T_Edit × Bool := bif Nat.beq l.length 0 then badE else (l.getD (l.length - 1) editR.dflt, true)
def topE (s : T_Stack) (b : Bool) : T_Edit × Bool := bif stackOk s then lastE (sideD s b) else badE
def preS (s : T_Stack) : Bool := preL s.1 && preL s.2
def S_stop : Sm := S_fn [.a stackR, .b] (fun d => preS d.1) (fun d => eb editR (topE d.1 d.2.1))
def S_itop : Sm := S_fn [.a stackR, .b] (fun d => stackOk d.1) (fun d => eb editR (lastE (sideD d.1 d.2.1)))
theorem side_ok {s : T_Stack} (b : Bool) (h : stackOk s = true) : okL (sideD s b) = true := by
  simp only [stackOk, Bool.and_eq_true] at h
  cases b
  · exact h.1
  · exact h.2
theorem last_tree {l : List T_Edit} (h : okL l = true) (K : Ret → Option Ret) :
  (bif ((((List.length l) : Nat) : Int) == (0 : Int)) then
   K (eb editR badE, [])
   else (bif (decide ((0 : Int) ≤ (IntKind.wrap .i64 ((((List.length l) : Nat) : Int) - (1 : Int)))) && decide ((IntKind.wrap .i64 ((((List.length l) : Nat) : Int) - (1 : Int))) < (((List.length l) : Nat) : Int))) then
    (bif (Rw.lim editR (List.getD l (Int.toNat (IntKind.wrap .i64 ((((List.length l) : Nat) : Int) - (1 : Int)))) (editR.dflt))) then
     K (eb editR (List.getD l (Int.toNat (IntKind.wrap .i64 ((((List.length l) : Nat) : Int) - (1 : Int)))) (editR.dflt), true), [])
     else none)
    else none)) = K (eb editR (lastE l), []) := by
  obtain ⟨w1, w2⟩ := okL_w h
  unfold lastE
  by_cases h0 : l.length = 0
  · rw [show ((((List.length l) : Nat) : Int) == (0 : Int)) = true by simp [h0], h0]; rfl
  · have h1 : ((((List.length l) : Nat) : Int) == (0 : Int)) = false := by simp; intro h'; exact h0 (by rw [h']; rfl)
    have h2 : Nat.beq l.length 0 = false := by
      cases hb : Nat.beq l.length 0 with
      | false => rfl
      | true => exact absurd (Nat.eq_of_beq_eq_true hb) h0
    have hs : smallE (l.getD (l.length - 1) editR.dflt) = true := by
      simp only [okL, Bool.and_eq_true] at h
      exact all_getD (p := smallE) h.2 (by omega)
    have hn : Int.toNat ((((List.length l) : Nat) : Int) - (1 : Int)) = l.length - 1 := by omega
    rw [h1, h2, wrap_in (by omega) (by omega), hn, decide_eq_true (show (0 : Int) ≤ ((List.length l : Nat) : Int) - 1 by omega), decide_eq_true (show ((List.length l : Nat) : Int) - 1 < ((List.length l : Nat) : Int) by omega)]
    exact (to_step (small_lim hs) rfl : (bif editR.lim (l.getD (l.length - 1) editR.dflt) then K (eb editR (l.getD (l.length - 1) editR.dflt, true), []) else none) = K (eb editR (l.getD (l.length - 1) editR.dflt, true), []))
noncomputable abbrev ls_sTop : List (Nat × Bool × Sm) := [(N.s_l08Side, false, S_side), (N.s_StackOk, true, S_stackOk), (N.s_l08Edit, true, S_copied)]
noncomputable abbrev pl_sTop : List (Nat × Plan × List Nat) := []
theorem ev_sTop (s : T_Stack) (b : Bool) (K : Ret → Option Ret) (h0 : preS s = true) : evF (En ls_sTop pl_sTop) true F.s_StackTop [.a (stackR.cells .no s), .s (.bool b)] K = K (eb editR (topE s b), []) := by
  have eTr : evF (En ls_sTop pl_sTop) true F.s_StackTop [.a (stackR.cells .no s), .s (.bool b)] K =
 (bif preS s then (bif (!(stackOk s)) then K (eb editR badE, []) else (bif ((((List.length (sideD s b)) : Nat) : Int) == (0 : Int)) then
   K (eb editR badE, [])
   else (bif (decide ((0 : Int) ≤ (IntKind.wrap .i64 ((((List.length (sideD s b)) : Nat) : Int) - (1 : Int)))) && decide ((IntKind.wrap .i64 ((((List.length (sideD s b)) : Nat) : Int) - (1 : Int))) < (((List.length (sideD s b)) : Nat) : Int))) then
    (bif (Rw.lim editR (List.getD (sideD s b) (Int.toNat (IntKind.wrap .i64 ((((List.length (sideD s b)) : Nat) : Int) - (1 : Int)))) (editR.dflt))) then
     K (eb editR (List.getD (sideD s b) (Int.toNat (IntKind.wrap .i64 ((((List.length (sideD s b)) : Nat) : Int) - (1 : Int)))) (editR.dflt), true), [])
     else none)
    else none))) else none) := by kernel_rfl
  refine eTr.trans ?_
  rw [h0]
  unfold topE
  cases hs : stackOk s with
  | false => rfl
  | true => exact last_tree (side_ok b hs) K
theorem okS_sTop : OkFn prog I N.s_StackTop true S_stop := okW (ok_fn (memc okS_side (memc okS_sStackOk (memc okS_l08Edit mem0))) (l := ls_sTop) (p := pl_sTop) (ls := []) (lend := []) (focus := false) (fuel := 0) (fn := F.s_StackTop) (by kernel_rfl) (by kernel_rfl) (by kernel_rfl) (by kernel_rfl) (cs := []) (by kernel_rfl) loops0) (S_fn_of fun d K h => ev_sTop d.1 d.2.1 K h)
noncomputable abbrev ls_iStop : List (Nat × Bool × Sm) := [(N.i_Edit_copied, true, S_copied)]
noncomputable abbrev pl_iStop : List (Nat × Plan × List Nat) := []
theorem ev_iStop (s : T_Stack) (b : Bool) (K : Ret → Option Ret) (h0 : stackOk s = true) : evF (En ls_iStop pl_iStop) true F.i_Stack_top [.a (stackR.cells .no s), .s (.bool b)] K = K (eb editR (lastE (sideD s b)), []) := by
  have eTr : evF (En ls_iStop pl_iStop) true F.i_Stack_top [.a (stackR.cells .no s), .s (.bool b)] K =
 (bif b then (bif ((((List.length (s.2)) : Nat) : Int) == (0 : Int)) then
   K (eb editR badE, [])
   else (bif (decide ((0 : Int) ≤ (IntKind.wrap .i64 ((((List.length (s.2)) : Nat) : Int) - (1 : Int)))) && decide ((IntKind.wrap .i64 ((((List.length (s.2)) : Nat) : Int) - (1 : Int))) < (((List.length (s.2)) : Nat) : Int))) then
    (bif (Rw.lim editR (List.getD (s.2) (Int.toNat (IntKind.wrap .i64 ((((List.length (s.2)) : Nat) : Int) - (1 : Int)))) (editR.dflt))) then
     K (eb editR (List.getD (s.2) (Int.toNat (IntKind.wrap .i64 ((((List.length (s.2)) : Nat) : Int) - (1 : Int)))) (editR.dflt), true), [])
     else none)
    else none)) else (bif ((((List.length (s.1)) : Nat) : Int) == (0 : Int)) then
   K (eb editR badE, [])
   else (bif (decide ((0 : Int) ≤ (IntKind.wrap .i64 ((((List.length (s.1)) : Nat) : Int) - (1 : Int)))) && decide ((IntKind.wrap .i64 ((((List.length (s.1)) : Nat) : Int) - (1 : Int))) < (((List.length (s.1)) : Nat) : Int))) then
    (bif (Rw.lim editR (List.getD (s.1) (Int.toNat (IntKind.wrap .i64 ((((List.length (s.1)) : Nat) : Int) - (1 : Int)))) (editR.dflt))) then
     K (eb editR (List.getD (s.1) (Int.toNat (IntKind.wrap .i64 ((((List.length (s.1)) : Nat) : Int) - (1 : Int)))) (editR.dflt), true), [])
     else none)
    else none))) := by kernel_rfl
  refine eTr.trans ?_
  have hk := side_ok b h0
  cases b
  · exact last_tree hk K
  · exact last_tree hk K
theorem okS_iStop : OkFn prog I N.i_Stack_top true S_itop := okW (ok_fn (memc okS_iCopied mem0) (l := ls_iStop) (p := pl_iStop) (ls := []) (lend := []) (focus := false) (fuel := 0) (fn := F.i_Stack_top) (by kernel_rfl) (by kernel_rfl) (by kernel_rfl) (by kernel_rfl) (cs := []) (by kernel_rfl) loops0) (S_fn_of fun d K h => ev_iStop d.1 d.2.1 K h)
noncomputable abbrev ls_iTop : List (Nat × Bool × Sm) := [(N.i_isStack, true, S_stackOk), (N.i_Stack_top, true, S_itop)]
noncomputable abbrev pl_iTop : List (Nat × Plan × List Nat) := []
theorem ev_iTop (s : T_Stack) (b : Bool) (K : Ret → Option Ret) (h0 : preS s = true) : evF (En ls_iTop pl_iTop) true F.i_StackTop [.a (stackR.cells .no s), .s (.bool b)] K = K (eb editR (topE s b), []) := by
  have eTr : evF (En ls_iTop pl_iTop) true F.i_StackTop [.a (stackR.cells .no s), .s (.bool b)] K =
 (bif preS s then (bif (!(stackOk s)) then K (eb editR badE, []) else (bif stackOk s then K (eb editR (lastE (sideD s b)), []) else none)) else none) := by kernel_rfl
  refine eTr.trans ?_
  rw [h0]
  unfold topE
  cases stackOk s <;> rfl
theorem okS_iTop : OkFn prog I N.i_StackTop true S_stop := okW (ok_fn (memc okS_isStack (memc okS_iStop mem0)) (l := ls_iTop) (p := pl_iTop) (ls := []) (lend := []) (focus := false) (fuel := 0) (fn := F.i_StackTop) (by kernel_rfl) (by kernel_rfl) (by kernel_rfl) (by kernel_rfl) (cs := []) (by kernel_rfl) loops0) (S_fn_of fun d K h => ev_iTop d.1 d.2.1 K h)
def badS : T_Stack × Bool := (([], []), false)
def pushD (s : T_Stack) (e : T_Edit) : T_Stack × Bool := bif stackOk s && smallE e then ((topD s.1 e, []), true) else badS
def eN (r : Rw) (x : r.T × Bool) : V := .t [.a (r.cells .no x.1), .s (.bool x.2)]
def S_sPush : Sm := S_fn [.a stackR, .a editR] (fun d => preS d.1) (fun d => eN stackR (pushD d.1 d.2.1))
def S_iPush : Sm := S_fn [.a stackR, .a editR] (fun d => preS d.1) (fun d => eb stackR (pushD d.1 d.2.1))
def S_push : Sm := S_fn [.a stackR, .a editR] (fun d => okL d.1.1 && smallE d.2.1) (fun d => .a (stackR.cells .no (topD d.1.1 d.2.1, [])))
noncomputable abbrev ls_sPush : List (Nat × Bool × Sm) := [(N.s_l08Top, false, S_topN), (N.s_StackOk, true, S_stackOk), (N.s_l05Small, true, S_smallE)]
theorem ev_sPush (s : T_Stack) (e : T_Edit) (K : Ret → Option Ret) (h0 : preS s = true) : S_no (evF (En ls_sPush) false F.s_StackPush) [.a (stackR.cells .no s), .a (editR.cells .no e)] K = K (eN stackR (pushD s e), []) := by
  have eTr : S_no (evF (En ls_sPush) false F.s_StackPush) [.a (stackR.cells .no s), .a (editR.cells .no e)] K = (bif preS s then (bif (!(stackOk s)) then K (eN stackR badS, []) else (bif (!(smallE e)) then K (eN stackR badS, []) else (bif okL s.1 && smallE e then K (eN stackR ((topD s.1 e, []), true), []) else none))) else none) := by kernel_rfl
  refine eTr.trans ?_
  rw [h0]
  unfold pushD
  cases hs : stackOk s with
  | false => rfl
  | true =>
    simp only [stackOk, Bool.and_eq_true] at hs
    rw [hs.1]
    cases smallE e <;> rfl
theorem okS_sPush : OkFn prog I N.s_StackPush false S_sPush := okW (OkFn.no (ok_fn (memc okS_l08Top (memc okS_sStackOk (memc okS_l05Small mem0))) (fresh := false) (l := ls_sPush) (p := []) (ls := []) (lend := []) (focus := false) (fuel := 0) (fn := F.s_StackPush) (by kernel_rfl) (by kernel_rfl) (by kernel_rfl) (by kernel_rfl) (cs := []) (by kernel_rfl) loops0)) (S_fn_of fun d K h => ev_sPush d.1 d.2.1 K h)
noncomputable abbrev ls_push : List (Nat × Bool × Sm) := [(N.i_stacked, false, S_topN)]
theorem ev_push (s : T_Stack) (e : T_Edit) (K : Ret → Option Ret) (h0 : (okL s.1 && smallE e) = true) : S_no (evF (En ls_push) false F.i_Stack_push) [.a (stackR.cells .no s), .a (editR.cells .no e)] K = K (.a (stackR.cells .no (topD s.1 e, [])), []) := by
  have eTr : S_no (evF (En ls_push) false F.i_Stack_push) [.a (stackR.cells .no s), .a (editR.cells .no e)] K = (bif okL s.1 && smallE e then K (.a (stackR.cells .no (topD s.1 e, [])), []) else none) := by kernel_rfl
  refine eTr.trans ?_
  rw [h0]; rfl
theorem okS_push : OkFn prog I N.i_Stack_push false S_push := okW (OkFn.no (ok_fn (memc okS_stacked mem0) (fresh := false) (l := ls_push) (p := []) (ls := []) (lend := []) (focus := false) (fuel := 0) (fn := F.i_Stack_push) (by kernel_rfl) (by kernel_rfl) (by kernel_rfl) (by kernel_rfl) (cs := []) (by kernel_rfl) loops0)) (S_fn_of fun d K h => ev_push d.1 d.2.1 K h)
def S_scopied : Sm := S_fn [.a stackR] (fun d => stackR.lim d.1) (fun d => .a (stackR.cells .deep d.1))
noncomputable abbrev ls_scopied : List (Nat × Bool × Sm) := [(N.i_edits, true, S_toL editR)]
noncomputable abbrev pl_scopied : List (Nat × Plan × List Nat) := [(1, takeB [0, 1, 3, 4] (.fork (.one 2 (.fork (.one 5 (takeB [6] (.fork (.one 7 (.done)))))))), [])]
theorem ev_scopied (s : T_Stack) (K : Ret → Option Ret) (h0 : stackR.lim s = true) : evF (En ls_scopied pl_scopied) true F.i_Stack_copied [.a (stackR.cells .no s)] K = K (.a (stackR.cells .deep s), []) := by
  have eTr : evF (En ls_scopied pl_scopied) true F.i_Stack_copied [.a (stackR.cells .no s)] K =
 (bif (Cc.lim (Cc.sl editR) s.1) then (bif (Cc.lim (Cc.sl editR) s.2) then K (.a (stackR.cells .deep s), []) else none) else none) := by kernel_rfl
  refine eTr.trans ?_
  have h1 : ((Cc.sl editR).lim s.1 && (Cc.sl editR).lim s.2) = true := h0
  simp only [Bool.and_eq_true] at h1
  rw [h1.1, h1.2]; rfl
theorem okS_scopied : OkFn prog I N.i_Stack_copied true S_scopied := okW (ok_fn (memc okS_edits mem0) (l := ls_scopied) (p := pl_scopied) (ls := []) (lend := []) (focus := false) (fuel := 0) (fn := F.i_Stack_copied) (by kernel_rfl) (by kernel_rfl) (by kernel_rfl) (by kernel_rfl) (cs := []) (by kernel_rfl) loops0) (S_fn_of fun d K h => ev_scopied d.1 K h)
theorem topD_ok {l : List T_Edit} {e : T_Edit} (h : okL l = true) (he : smallE e = true) : okL (topD l e) = true := by
  simp only [okL, Bool.and_eq_true, decide_eq_true_eq] at h ⊢
  unfold topD
  refine ⟨by rw [List.length_drop]; simp; omega, ?_⟩
  rw [List.all_eq_true]
  intro x hx
  have hx := List.mem_of_mem_drop hx
  rcases List.mem_append.1 hx with hx | hx
  · exact (List.all_eq_true.1 h.2) x hx
  · simp at hx; subst hx; exact he
theorem stackR_w (s : T_Stack) : stackR.w s = (Cc.sl editR).w s.1 + (Cc.sl editR).w s.2 := rfl
theorem pushD_w (s : T_Stack) (e : T_Edit) : stackR.w (pushD s e).1 ≤ 10000 := by
  have e2 := stackR_w (pushD s e).1
  unfold pushD at e2 ⊢
  cases hs : stackOk s with
  | false => rw [hs] at e2; exact Nat.zero_le _
  | true =>
    cases he : smallE e with
    | false => rw [hs, he] at e2; exact Nat.zero_le _
    | true =>
      rw [hs, he] at e2
      simp only [stackOk, Bool.and_eq_true] at hs
      have h1 := (okL_w (topD_ok hs.1 he)).2
      have e3 : stackR.w (topD s.1 e, []) = (Cc.sl editR).w (topD s.1 e) + (Cc.sl editR).w ([] : List T_Edit) := rfl
      have e4 : (Cc.sl editR).w ([] : List T_Edit) = 0 := rfl
      show stackR.w (topD s.1 e, []) ≤ 10000
      omega
noncomputable abbrev ls_iPush : List (Nat × Bool × Sm) := [(N.i_isStack, true, S_stackOk), (N.i_Edit_isSmall, true, S_smallE), (N.i_Stack_push, false, S_push), (N.i_Stack_copied, true, S_scopied)]
noncomputable abbrev pl_iPush : List (Nat × Plan × List Nat) := []
theorem ev_iPush (s : T_Stack) (e : T_Edit) (K : Ret → Option Ret) (h0 : preS s = true) : evF (En ls_iPush pl_iPush) true F.i_StackPush [.a (stackR.cells .no s), .a (editR.cells .no e)] K = K (eb stackR (pushD s e), []) := by
  have eTr : evF (En ls_iPush pl_iPush) true F.i_StackPush [.a (stackR.cells .no s), .a (editR.cells .no e)] K =
 (bif preS s then (bif (!(stackOk s)) then K (eb stackR badS, []) else (bif (!(smallE e)) then K (eb stackR badS, []) else (bif okL s.1 && smallE e then (bif (Rw.lim stackR ((topD s.1 e), [])) then K (eb stackR ((topD s.1 e, []), true), []) else none) else none))) else none) := by kernel_rfl
  refine eTr.trans ?_
  rw [h0]
  have hw := pushD_w s e
  unfold pushD at hw ⊢
  cases hs : stackOk s with
  | false => rfl
  | true =>
    cases he : smallE e with
    | false => rfl
    | true =>
      rw [hs, he] at hw
      have hl : stackR.lim (topD s.1 e, []) = true := Rw.lim_ok stackR _ (Nat.le_trans hw (by omega))
      simp only [stackOk, Bool.and_eq_true] at hs
      rw [hs.1, hl]; rfl
theorem okS_iPush : OkFn prog I N.i_StackPush true S_iPush := okW (ok_fn (memc okS_isStack (memc okS_isSmall (memc okS_push (memc okS_scopied mem0)))) (l := ls_iPush) (p := pl_iPush) (ls := []) (lend := []) (focus := false) (fuel := 0) (fn := F.i_StackPush) (by kernel_rfl) (by kernel_rfl) (by kernel_rfl) (by kernel_rfl) (cs := []) (by kernel_rfl) loops0) (S_fn_of fun d K h => ev_iPush d.1 d.2.1 K h)
theorem preL_of {l : List T_Edit} (h : (Cc.sl editR).cnt l = true) : preL l = true := ((Bool.and_eq_true _ _).mp h).1
theorem preS_of {s : T_Stack} (h : stackR.cnt s = true) : preS s = true := (Bool.and_eq_true _ _).mpr ⟨preL_of ((Bool.and_eq_true _ _).mp h).1, preL_of ((Bool.and_eq_true _ _).mp h).2⟩
theorem topE_w (s : T_Stack) (b : Bool) : editR.w (topE s b).1 ≤ 1099511627776 := by
  have e := editR_w (topE s b).1
  have : List.length (topE s b).1.2.2 ≤ 400 := by
    unfold topE
    cases hs : stackOk s with
    | false => exact Nat.zero_le _
    | true =>
      have hk := side_ok b hs
      show List.length (lastE (sideD s b)).1.2.2 ≤ 400
      unfold lastE
      by_cases h0 : (sideD s b).length = 0
      · rw [h0]; exact Nat.zero_le _
      · have h2 : Nat.beq (sideD s b).length 0 = false := by
          cases hb : Nat.beq (sideD s b).length 0 with
          | false => rfl
          | true => exact absurd (Nat.eq_of_beq_eq_true hb) h0
        simp only [okL, Bool.and_eq_true] at hk
        have := small_iff (all_getD (p := smallE) (z := editR.dflt) (i := (sideD s b).length - 1) hk.2 (by omega))
        rw [h2]
        show List.length ((sideD s b).getD ((sideD s b).length - 1) editR.dflt).2.2 ≤ 400
        omega
  omega
end Go.Ev.Seat
