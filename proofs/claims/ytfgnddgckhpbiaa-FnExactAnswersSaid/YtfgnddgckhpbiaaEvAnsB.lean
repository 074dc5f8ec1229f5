/- The replies of a session among the outputs, end. -/
import Derived.Test.YtfgnddgckhpbiaaEvAns
namespace Go.Ev.Seat
open Go.RowKit
set_option maxRecDepth 100000
set_option linter.unusedVariables false
variable {I : Nat → World → Prop}
theorem step2_iAns (n : Nat) (x1 : Int) (x13 : List T_Out) (x14 : Int) (x15 : Int) (o0 : List T_Reply) (K : Ex → St → Option Ret) : L_iAns (n + 1) x1 x13 x14 x15 o0 K =
 (bif decide (x15 < x14) then
 (bif (decide ((0 : Int) ≤ x15) && decide (x15 < (((List.length x13) : Nat) : Int))) then
  (bif ((List.getD x13 (Int.toNat x15) (outR.dflt)).2.1 == x1) then
   (bif (Cc.lim (Cc.sl bytesR) (repOf (List.getD x13 (Int.toNat x15) (outR.dflt))).2.2.2) then
    (bif (Nat.ble (((List.length o0) + (List.length ([repOf (List.getD x13 (Int.toNat x15) (outR.dflt))]))) * 48) 140737488355328) then
     L_iAns n x1 x13 x14 (IntKind.wrap .i64 (x15 + (1 : Int))) (o0 ++ [repOf (List.getD x13 (Int.toNat x15) (outR.dflt))]) K
     else none)
    else none)
   else L_iAns n x1 x13 x14 (IntKind.wrap .i64 (x15 + (1 : Int))) o0 K)
  else none)
 else K (.ext 0) (z_iAns o0)) := step_iAns n x1 x13 x14 x15 o0 K
theorem go_iAns (x1 : Int) (x13 : List T_Out) (K : Ex → St → Option Ret) (h : preO x13 = true) : L_iAns (x13.length + 1) x1 x13 ((x13.length : Nat) : Int) 0 [] K = K (.ext 0) (z_iAns (x13.foldl (ansF x1) [])) := by
  obtain ⟨h1, h2⟩ := preO_all h
  have := loop_idx (R := fun n i (s : List T_Reply) => L_iAns n x1 x13 ((x13.length : Nat) : Int) i s K) (k := K (.ext 0) (z_iAns (x13.foldl (ansF x1) []))) (f := fun i => (x13.take i).foldl (ansF x1) []) x13.length (fun m i hi => by
    refine (step2_iAns m x1 x13 _ i _ K).trans ?_
    have hl := ans_len x1 (x13.take i) []
    have hl2 : (x13.take i).length ≤ 1048576 := by simp; omega
    simp only [List.length_nil] at hl
    have ht : (Cc.sl bytesR).lim (repOf (x13.getD i outR.dflt)).2.2.2 = true := text_lim (all_getD (p := outR.lim) (z := outR.dflt) h2 hi)
    show (bif _ then _ else _) = L_iAns m x1 x13 _ _ ((x13.take (i + 1)).foldl (ansF x1) []) K
    rw [ans_snoc x1 x13 hi, decide_eq_true (show ((i : Nat) : Int) < ((x13.length : Nat) : Int) by omega), decide_eq_true (show (0 : Int) ≤ ((i : Nat) : Int) by omega), wrap_nat (show i ≤ 4611686018427387904 by omega), Int.toNat_natCast, ht, Nat.ble_eq_true_of_le (show (((x13.take i).foldl (ansF x1) []).length + [(repOf (x13.getD i outR.dflt))].length) * 48 ≤ 140737488355328 by simp only [List.length_cons, List.length_nil]; omega)]
    unfold ansF
    cases ((x13.getD i outR.dflt).2.1 == x1) <;> rfl) (fun m => by
    refine (step2_iAns m x1 x13 _ _ _ K).trans ?_
    rw [decide_eq_false (show ¬ ((x13.length : Nat) : Int) < ((x13.length : Nat) : Int) by omega), List.take_length]; rfl)
  exact this
theorem loopK_iAns : LoopOk (En ls_iAns [] lo_iAns) (bodyOf F.i_Answers 5) := by
  refine loopF_ok (n := 5) (sh := sh_iAns) (R := R_iAns) (by kernel_rfl) rfl rfl (fun d K r hr => ?_)
  obtain ⟨⟨u0, x1, u1, u2, u3, u4, u5, u6, u7, u8, u9, u10, u11, x13, x14, x15, u12⟩, ⟨o0, u13⟩, u14⟩ := d
  unfold R_iAns at hr
  simp only at hr
  cases hc : ((x15 == 0) && (x14 == ((List.length x13 : Nat) : Int)) && Nat.beq (List.length o0) 0 && preO x13) with
  | false => rw [hc] at hr; cases hr
  | true =>
    rw [hc] at hr
    simp only [Bool.and_eq_true, beq_iff_eq] at hc
    obtain ⟨⟨⟨rfl, rfl⟩, h2⟩, h3⟩ := hc
    have h2' : o0 = [] := List.eq_nil_of_length_eq_zero (Nat.eq_of_beq_eq_true h2)
    subst h2'
    exact ⟨x13.length + 1, (go_iAns x1 x13 K h3).trans hr⟩
theorem ev_iAns (l : List T_Out) (k : Int) (K : Ret → Option Ret) (h : preO l = true) : evF (En ls_iAns [] lo_iAns) true F.i_Answers [.l .no outR l, .s (.int .i64 k)] K = K (.l .deep replyR (answersD l k), []) := by
  have eTr : evF (En ls_iAns [] lo_iAns) true F.i_Answers [.l .no outR l, .s (.int .i64 k)] K = (bif decide (((List.length l : Nat) : Int) > 300) then K (.l .deep replyR [], []) else (bif ((0 : Int) == 0) && (((List.length l : Nat) : Int) == ((List.length l : Nat) : Int)) && Nat.beq 0 0 && preO l then K (.l .deep replyR (List.foldl (ansF k) [] l), []) else none)) := by kernel_rfl
  refine eTr.trans ?_
  rw [h, beq_self_eq_true, beq_self_eq_true]
  unfold answersD
  by_cases h6 : ((List.length l : Nat) : Int) ≤ 300
  · rw [decide_eq_true h6, decide_eq_false (show ¬ ((List.length l : Nat) : Int) > 300 by omega)]; rfl
  · rw [decide_eq_false h6, decide_eq_true (show ((List.length l : Nat) : Int) > 300 by omega)]; rfl
theorem okS_iAns : OkFn prog I N.i_Answers true S_answers := okW (ok_fn (memc okS_Clone mem0) (l := ls_iAns) (p := []) (ls := lo_iAns) (lend := []) (focus := false) (fuel := 0) (fn := F.i_Answers) (by kernel_rfl) (by kernel_rfl) (by kernel_rfl) (by kernel_rfl) (cs := [bodyOf F.i_Answers 5]) (by kernel_rfl) (loopsc loopK_iAns loops0)) (S_fn_of fun d K h => ev_iAns d.1 d.2.1 K h)
theorem rep_w (o : T_Out) : replyR.w (repOf o) ≤ outR.w o := by
  have e1 : replyR.w (repOf o) = 0 + (0 + (0 + (Cc.sl bytesR).w (repOf o).2.2.2)) := rfl
  have e2 : outR.w o = 0 + (0 + (0 + (0 + (0 + (0 + (0 + ((Cc.sl bytesR).w o.2.2.2.2.2.2.2.1 + (0 + (0 + (0 + (0 + (Cc.sl bytesR).w (repOf o).2.2.2))))))))))) := rfl
  omega
theorem sumW_append {α : Type} {g : α → Nat} (ys zs : List α) : sumW g (ys ++ zs) = sumW g ys + sumW g zs := by
  induction ys with
  | nil => simp [sumW]
  | cons y ys ih => simp only [List.cons_append, sumW, ih]; omega
theorem ans_w (s : Int) : ∀ (l : List T_Out) (acc : List T_Reply), sumW (α := replyR.T) replyR.w (l.foldl (ansF s) acc) ≤ sumW (α := replyR.T) replyR.w acc + sumW (α := outR.T) outR.w l
  | [], acc => Nat.le_add_right _ _
  | o :: l, acc => by
    have h1 := ans_w s l (ansF s acc o)
    have h2 : sumW (α := replyR.T) replyR.w (ansF s acc o) ≤ sumW (α := replyR.T) replyR.w acc + outR.w o := by
      unfold ansF
      cases (o.2.1 == s)
      · show sumW (α := replyR.T) replyR.w acc ≤ _; omega
      · show sumW (α := replyR.T) replyR.w (acc ++ [repOf o]) ≤ _
        have h3 : sumW (α := replyR.T) replyR.w (acc ++ [repOf o]) = sumW (α := replyR.T) replyR.w acc + sumW (α := replyR.T) replyR.w [repOf o] := sumW_append acc [repOf o]
        have h4 : sumW (α := replyR.T) replyR.w [repOf o] = replyR.w (repOf o) + 0 := rfl
        have h5 := rep_w o
        omega
    have h6 : sumW (α := outR.T) outR.w (o :: l) = outR.w o + sumW (α := outR.T) outR.w l := rfl
    show sumW (α := replyR.T) replyR.w (l.foldl (ansF s) (ansF s acc o)) ≤ sumW (α := replyR.T) replyR.w acc + (outR.w o + sumW (α := outR.T) outR.w l)
    omega
theorem answers_w {l : List T_Out} {s : Int} (h : (Cc.sl outR).w l ≤ 1048576) : (Cc.sl replyR).w (answersD l s) ≤ 1099511627776 := by
  have e : (Cc.sl replyR).w (answersD l s) = List.length (answersD l s) + sumW (α := replyR.T) replyR.w (answersD l s) := rfl
  have e2 : (Cc.sl outR).w l = List.length l + sumW (α := outR.T) outR.w l := rfl
  have h1 : List.length (answersD l s) ≤ l.length ∧ sumW (α := replyR.T) replyR.w (answersD l s) ≤ sumW (α := outR.T) outR.w l := by
    unfold answersD
    cases decide (((l.length : Nat) : Int) ≤ 300)
    · exact ⟨Nat.zero_le _, Nat.zero_le _⟩
    · have a1 := ans_len s l []
      have a2 := ans_w s l []
      have a3 : sumW (α := replyR.T) replyR.w ([] : List T_Reply) = 0 := rfl
      simp only [List.length_nil] at a1
      refine ⟨?_, ?_⟩
      · show List.length (l.foldl (ansF s) []) ≤ _; omega
      · have a2' : sumW (α := replyR.T) replyR.w (l.foldl (ansF s) []) ≤ 0 + sumW (α := outR.T) outR.w l := a2
        exact Nat.le_trans a2' (by omega)
  omega
end Go.Ev.Seat
