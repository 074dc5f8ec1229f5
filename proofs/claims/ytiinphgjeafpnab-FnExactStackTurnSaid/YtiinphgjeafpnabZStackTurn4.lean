/- StackTurn: parts FiStackturn FiStackcopied PMoveF FiStackTurn EvLStackTurn EvKind EvOne, packed by squash.py. -/
import GoSem.ClaimWide
import Derived.Test.YtiinphgjeafpnabZStackTurn0
import Derived.Test.YtiinphgjeafpnabZStackTurn1
import Derived.Test.YtiinphgjeafpnabZStackTurn2
import Derived.Test.YtiinphgjeafpnabZStackTurn3
set_option linter.unusedVariables false
set_option linter.unusedSimpArgs false
section
/- i_Stack_turn: its contract. -/
namespace Go.Ev.Seat
open Go.RowKit
set_option maxRecDepth 100000
set_option linter.unusedVariables false
set_option linter.unusedSimpArgs false
noncomputable abbrev E_i_Stack_turn : Env := En [(N.i_stacked, false, S_i_stacked), (N.i_edits, true, S_i_edits)] [(2, takeB [0, 1, 2, 4, 5, 6, 7, 8, 9, 10] (.fork (.one 3 (.fork (.one 11 (takeB [12] (.fork (.one 13 (.done)))))))), []), (3, takeB [0, 1, 2, 3, 4, 5, 6, 8, 9, 10] (.fork (.one 7 (.fork (.one 11 (takeB [12] (.fork (.one 13 (.done)))))))), [])] [] [] false 0 []
noncomputable def T_i_Stack_turn (s : T_Stack) (r : Bool) (e : T_Edit) (K : Ret → Option Ret) : Option Ret :=
 (bif r then
 (bif ((decide ((0 : Int) ≤ (IntKind.wrap .i64 ((((List.length s.2) : Nat) : Int) - (1 : Int))))) && (decide ((IntKind.wrap .i64 ((((List.length s.2) : Nat) : Int) - (1 : Int))) ≤ (((List.length s.2) : Nat) : Int)))) then
  (bif (((fitC (Cc.sl editR) s.1) && (fitR editR e)) && (Nat.ble (List.length s.1) 6)) then
   (bif (fitC (Cc.sl editR) (List.take (Int.toNat (IntKind.wrap .i64 ((((List.length s.2) : Nat) : Int) - (1 : Int)))) s.2)) then
    K ((.a [(.l .no editR (stackedD s.1 e)), (.l .deep editR (List.take (Int.toNat (IntKind.wrap .i64 ((((List.length s.2) : Nat) : Int) - (1 : Int)))) s.2))]), [])
    else none)
   else none)
  else none)
 else (bif ((decide ((0 : Int) ≤ (IntKind.wrap .i64 ((((List.length s.1) : Nat) : Int) - (1 : Int))))) && (decide ((IntKind.wrap .i64 ((((List.length s.1) : Nat) : Int) - (1 : Int))) ≤ (((List.length s.1) : Nat) : Int)))) then
  (bif (fitC (Cc.sl editR) (List.take (Int.toNat (IntKind.wrap .i64 ((((List.length s.1) : Nat) : Int) - (1 : Int)))) s.1)) then
   (bif (((fitC (Cc.sl editR) s.2) && (fitR editR e)) && (Nat.ble (List.length s.2) 6)) then
    K ((.a [(.l .deep editR (List.take (Int.toNat (IntKind.wrap .i64 ((((List.length s.1) : Nat) : Int) - (1 : Int)))) s.1)), (.l .no editR (stackedD s.2 e))]), [])
    else none)
   else none)
  else none))
theorem e_i_Stack_turn (s : T_Stack) (r : Bool) (e : T_Edit) (K : Ret → Option Ret) : evF E_i_Stack_turn false F.i_Stack_turn [.a (stackR.cells .no s), .s (.bool r), .a (editR.cells .no e)] K = T_i_Stack_turn s r e K := by kernel_rfl
def S_i_Stack_turn : Sm := S_fnR [.a stackR, .b, .a editR] (fun d => fitR stackR d.1 && fitR editR d.2.2.1 && stackOkD d.1 && !(Nat.beq (sideD d.1 d.2.1).length 0)) (fun d => (.a (stackR.cells .no (turnD d.1 d.2.1 d.2.2.1)), []))
theorem v_i_Stack_turn (s : T_Stack) (r : Bool) (e : T_Edit) (h : (fitR stackR s && fitR editR e && stackOkD s && !(Nat.beq (sideD s r).length 0)) = true) (K : Ret → Option Ret) : T_i_Stack_turn s r e (noK K) = K (.a (stackR.cells .no (turnD s r e)), []) := by
  simp only [Bool.and_eq_true, Bool.not_eq_true'] at h
  obtain ⟨⟨⟨h1, h2⟩, h3⟩, h4⟩ := h
  have f1 : fitC (.sl editR) s.1 = true := fitR_fst h1
  have f2 : fitC (.sl editR) s.2 = true := fitR_snd h1
  unfold stackOkD at h3
  rw [Bool.and_eq_true] at h3
  have n1 := okL_len h3.1
  have n2 := okL_len h3.2
  unfold T_i_Stack_turn turnD
  cases r with
  | true =>
    have h0 : s.2.length ≠ 0 := fun q => by
      have h4' : Nat.beq s.2.length 0 = false := h4
      rw [q] at h4'; cases h4'
    rw [wrap_in (n := ((s.2.length : Nat) : Int) - 1) (by omega) (by omega), decide_eq_true (show (0 : Int) ≤ ((s.2.length : Nat) : Int) - 1 by omega), decide_eq_true (show ((s.2.length : Nat) : Int) - 1 ≤ ((s.2.length : Nat) : Int) by omega), show (((s.2.length : Nat) : Int) - 1).toNat = s.2.length - 1 by omega, f1, h2, Nat.ble_eq_true_of_le n1, fitC_take f2]
    rfl
  | false =>
    have h0 : s.1.length ≠ 0 := fun q => by
      have h4' : Nat.beq s.1.length 0 = false := h4
      rw [q] at h4'; cases h4'
    rw [wrap_in (n := ((s.1.length : Nat) : Int) - 1) (by omega) (by omega), decide_eq_true (show (0 : Int) ≤ ((s.1.length : Nat) : Int) - 1 by omega), decide_eq_true (show ((s.1.length : Nat) : Int) - 1 ≤ ((s.1.length : Nat) : Int) by omega), show (((s.1.length : Nat) : Int) - 1).toNat = s.1.length - 1 by omega, f2, h2, Nat.ble_eq_true_of_le n2, fitC_take f1]
    rfl
theorem okS_i_Stack_turn : OkFn prog I N.i_Stack_turn false S_i_Stack_turn := okN (OkFn.no (ok_fn (fresh := false) (memc okS_i_stacked (memc okS_i_edits mem0)) (l := [(N.i_stacked, false, S_i_stacked), (N.i_edits, true, S_i_edits)]) (p := [(2, takeB [0, 1, 2, 4, 5, 6, 7, 8, 9, 10] (.fork (.one 3 (.fork (.one 11 (takeB [12] (.fork (.one 13 (.done)))))))), []), (3, takeB [0, 1, 2, 3, 4, 5, 6, 8, 9, 10] (.fork (.one 7 (.fork (.one 11 (takeB [12] (.fork (.one 13 (.done)))))))), [])]) (ls := []) (lend := []) (focus := false) (fuel := 0) (give := []) (fn := F.i_Stack_turn) (by kernel_rfl) (by kernel_rfl) (by kernel_rfl) (by kernel_rfl) (cs := []) (by kernel_rfl) loops0)) (S_fnR_of fun d K h => (e_i_Stack_turn d.1 d.2.1 d.2.2.1 (noK K)).trans (v_i_Stack_turn d.1 d.2.1 d.2.2.1 h K))
end Go.Ev.Seat
end
section
/- i_Stack_copied: its contract. -/
namespace Go.Ev.Seat
open Go.RowKit
set_option maxRecDepth 100000
set_option linter.unusedVariables false
set_option linter.unusedSimpArgs false
noncomputable abbrev E_i_Stack_copied : Env := En [(N.i_edits, true, S_i_edits)] [(1, takeB [0, 1, 3, 4] (.fork (.one 2 (.fork (.one 5 (takeB [6] (.fork (.one 7 (.done)))))))), [])] [] [] false 0 []
noncomputable def T_i_Stack_copied (s : T_Stack) (K : Ret → Option Ret) : Option Ret :=
 (bif (fitC (Cc.sl editR) s.1) then
 (bif (fitC (Cc.sl editR) s.2) then
  K ((.a [(.l .deep editR s.1), (.l .deep editR s.2)]), [])
  else none)
 else none)
theorem e_i_Stack_copied (s : T_Stack) (K : Ret → Option Ret) : evF E_i_Stack_copied true F.i_Stack_copied [.a (stackR.cells .no s)] K = T_i_Stack_copied s K := by kernel_rfl
def S_i_Stack_copied : Sm := S_fnR [.a stackR] (fun d => fitR stackR d.1) (fun d => (.a (stackR.cells .deep d.1), []))
theorem v_i_Stack_copied (s : T_Stack) (h : (fitR stackR s) = true) (K : Ret → Option Ret) : T_i_Stack_copied s K = K (.a (stackR.cells .deep s), []) := by
  have h1 : fitC (.sl editR) s.1 = true := fitR_fst h
  have h2 : fitC (.sl editR) s.2 = true := fitR_snd h
  unfold T_i_Stack_copied
  rw [h1, h2]; rfl
theorem okS_i_Stack_copied : OkFn prog I N.i_Stack_copied true S_i_Stack_copied := okN (ok_fn (memc okS_i_edits mem0) (l := [(N.i_edits, true, S_i_edits)]) (p := [(1, takeB [0, 1, 3, 4] (.fork (.one 2 (.fork (.one 5 (takeB [6] (.fork (.one 7 (.done)))))))), [])]) (ls := []) (lend := []) (focus := false) (fuel := 0) (give := []) (fn := F.i_Stack_copied) (by kernel_rfl) (by kernel_rfl) (by kernel_rfl) (by kernel_rfl) (cs := []) (by kernel_rfl) loops0) (S_fnR_of fun d K h => (e_i_Stack_copied d.1 K).trans (v_i_Stack_copied d.1 h K))
end Go.Ev.Seat
end
section
/- Stacks keep the form of their data. -/
set_option linter.unusedVariables false
namespace Go.Ev.Seat
open Go.RowKit
theorem fit_stacked {l : List T_Edit} {e : T_Edit} (h1 : fitC (.sl editR) l = true) (h2 : fitR editR e = true) (h3 : l.length ≤ 6) : fitC (.sl editR) (stackedD l e) = true := by
  unfold stackedD
  refine fitC_drop (fitC_mk (by simp; omega) (fun x hx => ?_)) _
  rcases List.mem_append.1 hx with hx | hx
  · exact fitC_all h1 x hx
  · rw [List.mem_singleton.1 hx]; exact h2
theorem fit_turn {s : T_Stack} {r : Bool} {e : T_Edit} (h1 : fitR stackR s = true) (h2 : fitR editR e = true) (h3 : stackOkD s = true) : fitR stackR (turnD s r e) = true := by
  have f1 : fitC (.sl editR) s.1 = true := fitR_fst h1
  have f2 : fitC (.sl editR) s.2 = true := fitR_snd h1
  unfold stackOkD at h3
  rw [Bool.and_eq_true] at h3
  have n1 := okL_len h3.1
  have n2 := okL_len h3.2
  cases r with
  | true => exact (Bool.and_eq_true _ _).mpr ⟨fit_stacked f1 h2 n1, fitC_take f2 _⟩
  | false => exact (Bool.and_eq_true _ _).mpr ⟨fitC_take f1 _, fit_stacked f2 h2 n2⟩
theorem edit_w (e : T_Edit) : editR.w e = e.2.2.length := by
  show 0 + (0 + (Cc.sl bytesR).w e.2.2) = _
  rw [bytes_w]; omega
theorem edits_w (l : List T_Edit) : (Cc.sl editR).w l = l.length + sumW (fun e : T_Edit => e.2.2.length) l := by
  show l.length + sumW editR.w l = _
  have : ∀ l : List T_Edit, sumW editR.w l = sumW (fun e : T_Edit => e.2.2.length) l := by
    intro l
    induction l with
    | nil => rfl
    | cons x l ih => simp only [sumW, ih]; rw [edit_w]
  rw [this]
theorem edits_small_w {l : List T_Edit} {n : Nat} (hl : l.length ≤ n) (h : ∀ e ∈ l, e.2.2.length ≤ 1048576) : (Cc.sl editR).w l ≤ n + n * 1048576 := by
  rw [edits_w]
  have key : ∀ l : List T_Edit, (∀ e ∈ l, e.2.2.length ≤ 1048576) → sumW (fun e : T_Edit => e.2.2.length) l ≤ l.length * 1048576 := by
    intro l
    induction l with
    | nil => intro _; exact Nat.zero_le _
    | cons x l ih =>
      intro hh
      have a := ih fun e he => hh e (List.mem_cons_of_mem _ he)
      have b := hh x List.mem_cons_self
      simp only [sumW, List.length_cons]
      rw [Nat.succ_mul]; omega
  have := key l h
  have : l.length * 1048576 ≤ n * 1048576 := Nat.mul_le_mul_right _ hl
  omega
theorem stackTurn_w {s : T_Stack} {r : Bool} {e : T_Edit} (h1 : fitR stackR s = true) (h2 : fitR editR e = true) : stackR.w (stackTurnD s r e).1 ≤ 1099511627776 := by
  unfold stackTurnD
  cases hk : (stackOkD s && smallE e && !(Nat.beq (sideD s r).length 0)) with
  | false => exact Nat.zero_le _
  | true =>
    simp only [Bool.and_eq_true] at hk
    have h3 := hk.1.1
    have ft := fit_turn (r := r) h1 h2 h3
    have f1 : fitC (.sl editR) (turnD s r e).1 = true := fitR_fst ft
    have f2 : fitC (.sl editR) (turnD s r e).2 = true := fitR_snd ft
    unfold stackOkD at h3
    rw [Bool.and_eq_true] at h3
    have n1 := okL_len h3.1
    have n2 := okL_len h3.2
    have l1 : (turnD s r e).1.length ≤ 7 ∧ (turnD s r e).2.length ≤ 7 := by
      unfold turnD stackedD
      cases r <;> simp <;> omega
    have w1 := edits_small_w l1.1 (fun x hx => fitB_len (fit_edit (fitC_mem f1 hx)))
    have w2 := edits_small_w l1.2 (fun x hx => fitB_len (fit_edit (fitC_mem f2 hx)))
    show (Cc.sl editR).w (turnD s r e).1 + (Cc.sl editR).w (turnD s r e).2 ≤ _
    omega
end Go.Ev.Seat
end
section
/- i_StackTurn: its contract. -/
namespace Go.Ev.Seat
open Go.RowKit
set_option maxRecDepth 100000
set_option linter.unusedVariables false
set_option linter.unusedSimpArgs false
noncomputable abbrev E_i_StackTurn : Env := En [(N.i_isStack, true, S_i_isStack), (N.i_Edit_isSmall, true, S_i_Edit_isSmall), (N.i_Stack_top, true, S_i_Stack_top), (N.i_Stack_turn, false, S_i_Stack_turn), (N.i_Stack_copied, true, S_i_Stack_copied)] [] [] [] false 0 []
noncomputable def T_i_StackTurn (s : T_Stack) (r : Bool) (e : T_Edit) (K : Ret → Option Ret) : Option Ret :=
 (bif ((Nat.ble (List.length s.1) 1048576) && (Nat.ble (List.length s.2) 1048576)) then
 (bif (!(stackOkD s)) then
  K ((.t [(.a [(.l .deep editR []), (.l .deep editR [])]), (.s (.bool false))]), [])
  else (bif (!(smallE e)) then
   K ((.t [(.a [(.l .deep editR []), (.l .deep editR [])]), (.s (.bool false))]), [])
   else (bif (fitR stackR s) then
    (bif (!(lastE (sideD s r)).2) then
     K ((.t [(.a [(.l .deep editR []), (.l .deep editR [])]), (.s (.bool false))]), [])
     else (bif ((((fitR stackR s) && (fitR editR e)) && (stackOkD s)) && (!(Nat.beq (List.length (sideD s r)) 0))) then
      (bif (fitR stackR (turnD s r e)) then
       K ((.t [(.a [(.l .deep editR (turnD s r e).1), (.l .deep editR (turnD s r e).2)]), (.s (.bool true))]), [])
       else none)
      else none))
    else none)))
 else none)
theorem e_i_StackTurn (s : T_Stack) (r : Bool) (e : T_Edit) (K : Ret → Option Ret) : evF E_i_StackTurn true F.i_StackTurn [.a (stackR.cells .no s), .s (.bool r), .a (editR.cells .no e)] K = T_i_StackTurn s r e K := by kernel_rfl
def S_i_StackTurn : Sm := S_fnR [.a stackR, .b, .a editR] (fun d => fitR stackR d.1 && fitR editR d.2.2.1) (fun d => (.t [.a (stackR.cells .deep (stackTurnD d.1 d.2.1 d.2.2.1).1), bl (stackTurnD d.1 d.2.1 d.2.2.1).2], []))
theorem v_i_StackTurn (s : T_Stack) (r : Bool) (e : T_Edit) (h : (fitR stackR s && fitR editR e) = true) (K : Ret → Option Ret) : T_i_StackTurn s r e K = K (.t [.a (stackR.cells .deep (stackTurnD s r e).1), bl (stackTurnD s r e).2], []) := by
  simp only [Bool.and_eq_true] at h
  obtain ⟨h1, h2⟩ := h
  have f1 : fitC (.sl editR) s.1 = true := fitR_fst h1
  have f2 : fitC (.sl editR) s.2 = true := fitR_snd h1
  unfold T_i_StackTurn stackTurnD lastE
  rw [Nat.ble_eq_true_of_le (fitC_len f1), Nat.ble_eq_true_of_le (fitC_len f2), h1, h2]
  cases h3 : stackOkD s with
  | false => rfl
  | true =>
  cases h5 : smallE e with
  | false => rfl
  | true =>
  rw [fit_turn h1 h2 h3]
  cases h4 : Nat.beq (sideD s r).length 0 <;> rfl
theorem okS_i_StackTurn : OkFn prog I N.i_StackTurn true S_i_StackTurn := okN (ok_fn (memc okS_i_isStack (memc okS_i_Edit_isSmall (memc okS_i_Stack_top (memc okS_i_Stack_turn (memc okS_i_Stack_copied mem0))))) (l := [(N.i_isStack, true, S_i_isStack), (N.i_Edit_isSmall, true, S_i_Edit_isSmall), (N.i_Stack_top, true, S_i_Stack_top), (N.i_Stack_turn, false, S_i_Stack_turn), (N.i_Stack_copied, true, S_i_Stack_copied)]) (p := []) (ls := []) (lend := []) (focus := false) (fuel := 0) (give := []) (fn := F.i_StackTurn) (by kernel_rfl) (by kernel_rfl) (by kernel_rfl) (by kernel_rfl) (cs := []) (by kernel_rfl) loops0) (S_fnR_of fun d K h => (e_i_StackTurn d.1 d.2.1 d.2.2.1 K).trans (v_i_StackTurn d.1 d.2.1 d.2.2.1 h K))
end Go.Ev.Seat
end
section
/- The law FnExactStackTurn. Printed by laws.py. -/
namespace Go.Ev.Seat
open Go.RowKit
set_option maxRecDepth 100000
set_option linter.unusedVariables false
noncomputable abbrev ls_StackTurn (T : MText) : List (Nat × Bool × Sm) := [(N.s_StackTurn, false, S_s_StackTurn), (N.i_StackTurn, true, S_i_StackTurn), (N.l_toStack, true, S_toA stackR), (N.l_eqStack, true, S_eqA stackR), (N.l_szStack, true, S_szA stackR), (N.l_markStack, true, S_markA T stackR), (N.l_toEdit, true, S_toA editR), (N.l_eqEdit, true, S_eqA editR), (N.l_szEdit, true, S_szA editR), (N.l_markEdit, true, S_markA T editR), (N.l_heldStack, true, S_heldA T stackR)]
noncomputable abbrev pl_StackTurn : List (Nat × Plan × List Nat) := [(8, takeB [0, 2, 3] (.fork (.more 1 (.fork (.more 4 (.fork (.more 5 (takeB [6, 7, 8] (.fork (.one 9 (.fork (.one 10 (takes [11])))))) (.one 9 (.fork (.one 5 (takeB [6, 7, 8] (.fork (.one 10 (takes [11]))))))))) (.one 9 (.fork (.one 4 (.fork (.one 5 (takeB [6, 7, 8] (.fork (.one 10 (takes [11]))))))))))) (.one 9 (.fork (.one 1 (.fork (.one 4 (.fork (.one 5 (takeB [6, 7, 8] (.fork (.one 10 (takes [11]))))))))))))), []), (14, takeB [0, 1] (.fork (.one 2 (.fork (.one 3 (takes [4]))))), []), (16, takeB [0, 1] (.fork (.one 2 (.fork (.one 3 (takes [4]))))), []), (31, takeB [0, 2, 3] (.fork (.more 1 (.fork (.more 4 (.fork (.more 5 (takeB [6, 7, 8] (.fork (.one 9 (.fork (.one 10 (takes [11])))))) (.one 9 (.fork (.one 5 (takeB [6, 7, 8] (.fork (.one 10 (takes [11]))))))))) (.one 9 (.fork (.one 4 (.fork (.one 5 (takeB [6, 7, 8] (.fork (.one 10 (takes [11]))))))))))) (.one 9 (.fork (.one 1 (.fork (.one 4 (.fork (.one 5 (takeB [6, 7, 8] (.fork (.one 10 (takes [11]))))))))))))), [])]
noncomputable def G_StackTurn (T : MText) := evF (En (ls_StackTurn T) pl_StackTurn [] [N.l_markEdit, N.l_markStack] true) true F.l_FnExactStackTurn
theorem ok_StackTurn (T : MText) : OkFn prog I N.l_FnExactStackTurn true (G_StackTurn T) := ok_fn (l := ls_StackTurn T) (memc okS_s_StackTurn (memc okS_i_StackTurn (memc okS_toStack (memc okS_eqStack (memc okS_szStack (memc (okS_markStack T) (memc okS_toEdit (memc okS_eqEdit (memc okS_szEdit (memc (okS_markEdit T) (memc (okS_heldStack T) mem0))))))))))) (by kernel_rfl) (by kernel_rfl) (by kernel_rfl) (by kernel_rfl) (cs := []) (by kernel_rfl) loops0
noncomputable def L1_StackTurn (T : MText) (s : T_Stack) (r : Bool) (a : T_Edit) (K : Ret → Option Ret) : Option Ret := (bif stackR.cnt (stackTurnD s r a).1 then (bif !(eqD ((stackTurnD s r a).1 : T_Stack) (stackTurnD s r a).1) then K (bl false, []) else (bif !((stackTurnD s r a).2 == (stackTurnD s r a).2) then K (bl false, []) else (bif (eqD (stackR.markA T (stackR.markA T (stackTurnD s r a).1 (1 : Int)).1 (1 : Int)).1 (stackR.markA T (stackTurnD s r a).1 (1 : Int)).1) && (stackR.cnt (stackR.markA T (stackTurnD s r a).1 (1 : Int)).1 && decide ((0 : Int) ≤ (1 : Int)) && decide ((1 : Int) + ((stackR.marksA (stackR.markA T (stackTurnD s r a).1 (1 : Int)).1 : Nat) : Int) ≤ 4611686018427387904)) then (bif decide ((stackR.markA T (stackR.markA T (stackTurnD s r a).1 (1 : Int)).1 (1 : Int)).2 < 0) then K (bl false, []) else (bif (stackR.markA T (stackR.markA T (stackTurnD s r a).1 (1 : Int)).1 (1 : Int)).2 != (stackR.markA T (stackTurnD s r a).1 (1 : Int)).2 then K (bl false, []) else K (bl true, []))) else none))) else none)
noncomputable def L0_StackTurn (T : MText) (s : T_Stack) (r : Bool) (a : T_Edit) (K : Ret → Option Ret) : Option Ret := (bif stackR.lim s then (bif editR.lim a then (bif (fitR stackR s && fitR editR a) then (bif stackR.cnt (stackTurnD s r a).1 then (bif !(eqD ((stackTurnD s r a).1 : T_Stack) (stackTurnD s r a).1) then K (bl false, []) else (bif !((stackTurnD s r a).2 == (stackTurnD s r a).2) then K (bl false, []) else (bif stackR.lim s then (bif stackR.cnt s then (bif !(eqD (s : T_Stack) s) then K (bl false, []) else (bif editR.lim a then (bif editR.cnt a then (bif !(eqD (a : T_Edit) a) then K (bl false, []) else (bif stackR.cnt s then (bif editR.cnt a then (bif decide ((editR.markA T a (stackR.markA T s (1 : Int)).2).2 < 0) then K (bl false, []) else (bif stackR.cnt (stackTurnD s r a).1 then (bif !(eqD ((stackTurnD s r a).1 : T_Stack) (stackTurnD s r a).1) then K (bl false, []) else (bif !((stackTurnD s r a).2 == (stackTurnD s r a).2) then K (bl false, []) else (bif stackR.cnt (stackTurnD s r a).1 then (bif (eqD (stackR.markA T (stackR.markA T (stackTurnD s r a).1 (1 : Int)).1 (1 : Int)).1 (stackR.markA T (stackTurnD s r a).1 (1 : Int)).1) && (stackR.cnt (stackR.markA T (stackTurnD s r a).1 (1 : Int)).1 && decide ((0 : Int) ≤ (1 : Int)) && decide ((1 : Int) + ((stackR.marksA (stackR.markA T (stackTurnD s r a).1 (1 : Int)).1 : Nat) : Int) ≤ 4611686018427387904)) then (bif decide ((stackR.markA T (stackR.markA T (stackTurnD s r a).1 (1 : Int)).1 (1 : Int)).2 < 0) then K (bl false, []) else (bif (stackR.markA T (stackR.markA T (stackTurnD s r a).1 (1 : Int)).1 (1 : Int)).2 != (stackR.markA T (stackTurnD s r a).1 (1 : Int)).2 then K (bl false, []) else (meet (bif stackR.lim s then (meet (bif editR.lim a then (meet (bif (fitR stackR s && fitR editR a) then (L1_StackTurn T s r a K) else none) (bif (fitR stackR s && fitR editR a) then (L1_StackTurn T s r a K) else none)) else none) (bif editR.lim a then (bif (fitR stackR s && fitR editR a) then (L1_StackTurn T s r a K) else none) else none)) else none) (bif stackR.lim s then (bif editR.lim a then (bif (fitR stackR s && fitR editR a) then (L1_StackTurn T s r a K) else none) else none) else none)))) else none) else none))) else none)) else none) else none)) else none) else none)) else none) else none))) else none) else none) else none) else none)
theorem law_StackTurn (T : MText) (s : T_Stack) (r : Bool) (a : T_Edit) (K : Ret → Option Ret) (hwf0 : stackR.wf s) (hwf2 : editR.wf a) : G_StackTurn T [.a (stackR.cells .no s), .s (.bool r), .a (editR.cells .no a)] K = K (bl true, []) := by
  have e : G_StackTurn T [.a (stackR.cells .no s), .s (.bool r), .a (editR.cells .no a)] K = (bif szOk (1048576 : Int) && stackR.cnz s then (bif decide (szN (stackR.w s) (1048576 : Int) < 0) then K (bl true, []) else (bif szOk (szN (stackR.w s) (1048576 : Int)) && editR.cnz a then (bif decide (szN (editR.w a) (szN (stackR.w s) (1048576 : Int)) < 0) then K (bl true, []) else (meet (bif stackR.lim s then (meet (bif editR.lim a then (meet (bif (fitR stackR s && fitR editR a) then (L0_StackTurn T s r a K) else none) (bif (fitR stackR s && fitR editR a) then (L0_StackTurn T s r a K) else none)) else none) (bif editR.lim a then (bif (fitR stackR s && fitR editR a) then (L0_StackTurn T s r a K) else none) else none)) else none) (bif stackR.lim s then (bif editR.lim a then (bif (fitR stackR s && fitR editR a) then (L0_StackTurn T s r a K) else none) else none) else none))) else none)) else none) := by kernel_rfl
  refine e.trans ?_
  have hz0 : stackR.cnz s = true := Rw.cnz_of_wf stackR s hwf0
  have hz2 : editR.cnz a = true := Rw.cnz_of_wf editR a hwf2
  refine lw_sz (show szOk 1048576 = true by rfl) hz0 (fun n0 e0 s0 => ?_)
  refine lw_sz s0 hz2 (fun n1 e1 s1 => ?_)
  have hw0 : stackR.w s ≤ 1048576 := by omega
  have lim0 : stackR.lim s = true := Rw.lim_ok stackR s hw0
  have cnt0 : stackR.cnt s = true := Rw.cnt_of_lim stackR s lim0
  have mk0 : stackR.marksA s ≤ 32 * stackR.w s := Rw.marksA_le stackR rfl s
  have hw2 : editR.w a ≤ 1048576 := by omega
  have lim2 : editR.lim a = true := Rw.lim_ok editR a hw2
  have cnt2 : editR.cnt a = true := Rw.cnt_of_lim editR a lim2
  have mk2 : editR.marksA a ≤ 32 * editR.w a := Rw.marksA_le editR rfl a
  have hpre : (fitR stackR s && fitR editR a) = true := (Bool.and_eq_true _ _).mpr ⟨fitR_of stackR s hwf0 lim0, fitR_of editR a hwf2 lim2⟩
  have rw0 : stackR.w (stackTurnD s r a).1 ≤ 1099511627776 := stackTurn_w (fitR_of stackR s hwf0 lim0) (fitR_of editR a hwf2 lim2)
  have rcnt0 : stackR.cnt (stackTurnD s r a).1 = true := Rw.cnt_of_w stackR (stackTurnD s r a).1 (by omega)
  have rmk0 : stackR.marksA (stackTurnD s r a).1 ≤ 32 * stackR.w (stackTurnD s r a).1 := Rw.marksA_le stackR rfl (stackTurnD s r a).1
  have k0 := Rw.markA_cnt T stackR s (1 : Int) (by omega) (by omega)
  have k1 := Rw.markA_cnt T editR a (stackR.markA T s (1 : Int)).2 (by omega) (by omega)
  have pk2 : 0 ≤ (editR.markA T a (stackR.markA T s (1 : Int)).2).2 := by omega
  have mm0 := Rw.markA_cnt T stackR (stackTurnD s r a).1 (1 : Int) (by omega) (by omega)
  have hq0 : (1 : Int) = 1 := rfl
  have id0 : stackR.markA T (stackR.markA T (stackTurnD s r a).1 (1 : Int)).1 (1 : Int) = stackR.markA T (stackTurnD s r a).1 (1 : Int) := Rw.markA_idem T stackR (stackTurnD s r a).1 (1 : Int)
  have hq1 : (stackR.markA T (stackR.markA T (stackTurnD s r a).1 (1 : Int)).1 (1 : Int)).2 = (stackR.markA T (stackTurnD s r a).1 (1 : Int)).2 := congrArg Prod.snd id0
  have hg0 : eqD (stackR.markA T (stackR.markA T (stackTurnD s r a).1 (1 : Int)).1 (1 : Int)).1 (stackR.markA T (stackTurnD s r a).1 (1 : Int)).1 = true := eqD_iff.2 (congrArg Prod.fst id0)
  have gcnt0 : stackR.cnt (stackR.markA T (stackTurnD s r a).1 (1 : Int)).1 = true := (Rw.markA_w T stackR (stackTurnD s r a).1 (1 : Int)).trans rcnt0
  have gmk0 : stackR.marksA (stackR.markA T (stackTurnD s r a).1 (1 : Int)).1 = stackR.marksA (stackTurnD s r a).1 := Rw.markA_marks T stackR (stackTurnD s r a).1 (1 : Int)
  have pq0 : 0 ≤ (1 : Int) := by omega
  have bq0 : (1 : Int) + ((stackR.marksA (stackR.markA T (stackTurnD s r a).1 (1 : Int)).1 : Nat) : Int) ≤ 4611686018427387904 := by omega
  have pq1 : 0 ≤ (stackR.markA T (stackR.markA T (stackTurnD s r a).1 (1 : Int)).1 (1 : Int)).2 := by omega
  have t1 : L1_StackTurn T s r a K = K (bl true, []) := by
    unfold L1_StackTurn
    exact (lw_eq rcnt0 (lw_bool (lw_held hg0 gcnt0 pq0 bq0 (lw_lt pq1 (lw_int2 hq1 rfl)))))
  have t0 : L0_StackTurn T s r a K = K (bl true, []) := by
    unfold L0_StackTurn
    exact (to_step lim0 (to_step lim2 (to_step hpre (lw_eq rcnt0 (lw_bool (to_step lim0 (lw_eq cnt0 (to_step lim2 (lw_eq cnt2 (to_step cnt0 (to_step cnt2 (lw_lt pk2 (lw_eq rcnt0 (lw_bool (to_step rcnt0 (lw_held hg0 gcnt0 pq0 bq0 (lw_lt pq1 (lw_int2 hq1 (lw_meet (to_step lim0 (lw_meet (to_step lim2 (lw_meet (to_step hpre t1) (to_step hpre t1))) (to_step lim2 (to_step hpre t1)))) (to_step lim0 (to_step lim2 (to_step hpre t1))))))))))))))))))))))
  exact (lw_meet (to_step lim0 (lw_meet (to_step lim2 (lw_meet (to_step hpre t0) (to_step hpre t0))) (to_step lim2 (to_step hpre t0)))) (to_step lim0 (to_step lim2 (to_step hpre t0))))
end Go.Ev.Seat
end
section
/- Kinds of types that come in, checked by reckoning. -/
set_option linter.unusedVariables false
namespace Go.Ev
open Go.RowKit
mutual
def ccN (P : Program) : Nat → Cc → TypeId → Bool
  | 0, _, _ => false
  | n + 1, c, t => match c, P.underlying t with
    | .int k, some (.int k') => decide (k' = k)
    | .bool, some .bool => true
    | .str, some .string => true
    | .sl r, some (.slice e) => Nat.beq (P.cellsOf e) r.n && (match layN P n r.list e with
      | some [] => true
      | _ => false)
    | _, _ => false
/-- The cells of a type, taken off a list: what is left. -/
def layN (P : Program) : Nat → List Cc → TypeId → Option (List Cc)
  | 0, _, _ => none
  | n + 1, cs, t => match cs with
    | [] => none
    | c :: rest => bif ccN P n c t then some rest else match P.underlying t with
      | some (.struct fs) => fsN P n (c :: rest) 0 fs.toList
      | _ => none
def fsN (P : Program) : Nat → List Cc → Nat → List Field → Option (List Cc)
  | 0, _, _, _ => none
  | n + 1, cs, i, fs => match fs with
    | [] => some cs
    | f :: rest => bif Nat.beq f.offset i then (match layN P n cs f.type with
      | some cs' => bif Nat.beq (P.cellsOf f.type + cs'.length) cs.length then fsN P n cs' (i + P.cellsOf f.type) rest else none
      | none => none) else none
end
theorem kinds_ok {P : Program} : ∀ (n : Nat), (∀ c t, ccN P n c t = true → CcOk P c t) ∧ (∀ cs t rest, layN P n cs t = some rest → ∃ pre, cs = pre ++ rest ∧ LayOk P pre t) ∧ ∀ cs i fs rest, fsN P n cs i fs = some rest → ∃ pre, cs = pre ++ rest ∧ LayFs P pre i fs
  | 0 => ⟨fun _ _ h => by simp [ccN] at h, fun _ _ _ h => by simp [layN] at h, fun _ _ _ _ h => by simp [fsN] at h⟩
  | n + 1 => by
    obtain ⟨h1, h2, h3⟩ := kinds_ok (P := P) n
    refine ⟨fun c t h => ?_, fun cs t rest h => ?_, fun cs i fs rest h => ?_⟩
    · simp only [ccN] at h
      split at h
      · rename_i k k' hu
        have := of_decide_eq_true h
        subst this
        exact .int hu
      · rename_i hu; exact .bool hu
      · rename_i hu; exact .str hu
      · rename_i r e hu
        simp only [Bool.and_eq_true] at h
        obtain ⟨g1, g2⟩ := h
        split at g2
        · rename_i hl
          obtain ⟨pre, e1, e2⟩ := h2 _ _ _ hl
          rw [List.append_nil] at e1
          exact .sl hu (Nat.eq_of_beq_eq_true g1) (e1 ▸ e2)
        · cases g2
      · cases h
    · simp only [layN] at h
      split at h
      · cases h
      · rename_i c rest'
        cases hc : ccN P n c t with
        | true =>
          rw [hc] at h
          cases h
          exact ⟨[c], rfl, .one (h1 _ _ hc)⟩
        | false =>
          rw [hc] at h
          simp only [cond_false] at h
          split at h
          · rename_i fs hu
            obtain ⟨pre, e1, e2⟩ := h3 _ _ _ _ h
            exact ⟨pre, e1, .st hu e2⟩
          · cases h
    · simp only [fsN] at h
      split at h
      · cases h
        exact ⟨[], rfl, .nil⟩
      · rename_i f rest'
        cases ho : Nat.beq f.offset i with
        | false => rw [ho] at h; cases h
        | true =>
          rw [ho] at h
          simp only [cond_true] at h
          split at h
          · rename_i cs' hl
            obtain ⟨pre, e1, e2⟩ := h2 _ _ _ hl
            cases hb : Nat.beq (P.cellsOf f.type + cs'.length) cs.length with
            | false => rw [hb] at h; cases h
            | true =>
              rw [hb] at h
              simp only [cond_true] at h
              have hlen := Nat.eq_of_beq_eq_true hb
              have hp : P.cellsOf f.type = pre.length := by rw [e1, List.length_append] at hlen; omega
              obtain ⟨pre2, e3, e4⟩ := h3 _ _ _ _ h
              rw [hp] at e4
              refine ⟨pre ++ pre2, by rw [e1, e3, List.append_assoc], .cons (Nat.eq_of_beq_eq_true ho) hp e2 e4⟩
          · cases h
def ccB (P : Program) (c : Cc) (t : TypeId) : Bool := ccN P 100 c t
def rwB (P : Program) (r : Rw) (t : TypeId) : Bool := match layN P 100 r.list t with
  | some [] => true
  | _ => false
theorem ccB_ok {P : Program} (c : Cc) {t : TypeId} (h : ccB P c t = true) : CcOk P c t := (kinds_ok 100).1 c t h
theorem rwB_ok {P : Program} (r : Rw) {t : TypeId} (h : rwB P r t = true) : RwOk P r t := by
  unfold rwB at h
  split at h
  · rename_i hl
    obtain ⟨pre, e1, e2⟩ := (kinds_ok 100).2.1 _ _ _ hl
    rw [List.append_nil] at e1
    show LayOk P r.list t
    rw [e1]; exact e2
  · cases h
end Go.Ev
end
section
/- An argument of one cell. -/
set_option linter.unusedVariables false
namespace Go.Ev
theorem cells_one {P : Program} {W : World} {r : Reach} {base : Nat} {c : Cc} {t : TypeId} {v : Value} (h : CcOk P c t) (ok : Value.okWide P W r base t v) : v.cells.toList = [v] := by
  cases v with
  | agg cs =>
    exfalso
    unfold Value.okWide at ok
    cases h with
    | int h => rw [h] at ok; simp [Cell.okWide, Cell.ok, h] at ok
    | bool h => rw [h] at ok; simp [Cell.okWide, Cell.ok, h] at ok
    | str h => rw [h] at ok; simp [Cell.okWide, Cell.ok, h] at ok
    | sl h _ _ => rw [h] at ok; simp [Cell.okWide, Cell.ok, h] at ok
  | _ => rfl
end Go.Ev
end
