/- EditMoves: parts FiEditMoves FlsameEdit Flpick FlFnEditMoves EvLEditMoves EvKind EvOne, packed by squash.py. -/
import GoSem.ClaimWide
import Derived.Test.YtbaajheaoohoiaaZEditMoves0
import Derived.Test.YtbaajheaoohoiaaZEditMoves1
import Derived.Test.YtbaajheaoohoiaaZEditMoves2
import Derived.Test.YtbaajheaoohoiaaZEditMoves3
set_option linter.unusedVariables false
set_option linter.unusedSimpArgs false
section
/- i_EditMoves: its contract. -/
namespace Go.Ev.Seat
open Go.RowKit
set_option maxRecDepth 100000
set_option linter.unusedVariables false
set_option linter.unusedSimpArgs false
def z_i_EditMoves_2_0 (x1 : List T_Edit) (x5 : Bool) (b00 : Int) (b01 : Int) (b02 : List Int) (b10 : Int) (b11 : Int) : St := { tm := ([.x, (.l .no editR x1), (.pb 0 0), .x, (.pb 1 0), (.s (.bool x5))] ++ List.replicate 32 .x), ob := [(0, (.box [(.s (.int .i64 b00)), (.s (.int .i64 b01)), (.l .no bytesR b02)])), (1, (.box [(.s (.int .i64 b10)), (.s (.int .i64 b11)), .nl]))], nx := 2, io := [] }
def z_i_EditMoves_2_1 (x1 : List T_Edit) (b00 : Int) (b01 : Int) (b02 : List Int) (b10 : Int) (b11 : Int) : St := { tm := ([.x, (.l .no editR x1), (.pb 0 0), .x, (.pb 1 0)] ++ List.replicate 33 .x), ob := [(0, (.box [(.s (.int .i64 b00)), (.s (.int .i64 b01)), (.l .no bytesR b02)])), (1, (.box [(.s (.int .i64 b10)), (.s (.int .i64 b11)), .nl]))], nx := 2, io := [] }
def sh_i_EditMoves_2_0 : Ss := { tm := (.cons (.x) (.cons (.l .no editR) (.cons (.pb 0 0) (.cons (.x) (.cons (.pb 1 0) (.cons (.x) (.cons (.x) (.cons (.x) (.cons (.l .no editR) (.cons (.int .i64) (.cons (.int .i64) (xsh 27)))))))))))), ob := (.box (.cons (.int .i64) (.cons (.int .i64) (.cons (.l .no bytesR) .nil))) (.box (.cons (.int .i64) (.cons (.int .i64) (.cons (.nl) .nil))) .nil)), nx := 2, io := .nil }
def d_i_EditMoves_2_0 (x1 : List T_Edit) (x8 : List T_Edit) (x9 : Int) (x10 : Int) (b00 : Int) (b01 : Int) (b02 : List Int) (b10 : Int) (b11 : Int) : sh_i_EditMoves_2_0.T := (((), (x1, ((), ((), ((), ((), ((), ((), (x8, (x9, (x10, xd 27))))))))))), ((b00, (b01, (b02, ()))), ((b10, (b11, ((), ()))), ())), ())
def s_i_EditMoves_2_0 (x1 : List T_Edit) (x8 : List T_Edit) (x9 : Int) (x10 : Int) (b00 : Int) (b01 : Int) (b02 : List Int) (b10 : Int) (b11 : Int) : St := { tm := ([.x, (.l .no editR x1), (.pb 0 0), .x, (.pb 1 0), .x, .x, .x, (.l .no editR x8), (.s (.int .i64 x9)), (.s (.int .i64 x10))] ++ List.replicate 27 .x), ob := [(0, (.box [(.s (.int .i64 b00)), (.s (.int .i64 b01)), (.l .no bytesR b02)])), (1, (.box [(.s (.int .i64 b10)), (.s (.int .i64 b11)), .nl]))], nx := 2, io := [] }
theorem se_i_EditMoves_2_0 (x1 : List T_Edit) (x8 : List T_Edit) (x9 : Int) (x10 : Int) (b00 : Int) (b01 : Int) (b02 : List Int) (b10 : Int) (b11 : Int) : sh_i_EditMoves_2_0.mk' (d_i_EditMoves_2_0 x1 x8 x9 x10 b00 b01 b02 b10 b11) = (s_i_EditMoves_2_0 x1 x8 x9 x10 b00 b01 b02 b10 b11) := by kernel_rfl
def w_i_EditMoves_2_0 (d : sh_i_EditMoves_2_0.T) (f : (List T_Edit) → (List T_Edit) → Int → Int → Int → Int → (List Int) → Int → Int → Option Ret) : Option Ret := match d with | ((_, (x1, (_, (_, (_, (_, (_, (_, (x8, (x9, (x10, _))))))))))), ((b00, (b01, (b02, _))), ((b10, (b11, (_, _))), _)), _) => f x1 x8 x9 x10 b00 b01 b02 b10 b11
noncomputable def P_i_EditMoves_2_0 (x1 : List T_Edit) (x8 : List T_Edit) (x9 : Int) (x10 : Int) (b00 : Int) (b01 : Int) (b02 : List Int) (b10 : Int) (b11 : Int) (nx0 : (List T_Edit) → (List T_Edit) → Int → Int → Int → Int → (List Int) → Int → Int → Option Ret) (k0 : (List T_Edit) → Bool → Int → Int → (List Int) → Int → Int → Option Ret) (k1 : (List T_Edit) → Int → Int → (List Int) → Int → Int → Option Ret) : Option Ret :=
 (bif (decide (x10 < x9)) then
 (bif ((decide ((0 : Int) ≤ x10)) && (decide (x10 < (((List.length x8) : Nat) : Int)))) then
  (bif (!(smallE (b00, (b01, b02)))) then
   (k0 x1 false b00 b01 b02 (0 : Int) (0 : Int))
   else (bif (!(smallE (List.getD x8 (Int.toNat x10) (editR.dflt)))) then
    (k0 x1 false b00 b01 b02 (0 : Int) (0 : Int))
    else (bif ((smallE (b00, (b01, b02))) && (smallE (List.getD x8 (Int.toNat x10) (editR.dflt)))) then
     (nx0 x1 x8 x9 (IntKind.wrap .i64 (x10 + (1 : Int))) (posD (List.getD x8 (Int.toNat x10) (editR.dflt)) b00 true) ((bif (b00 == (b00 + b01)) then (posD (List.getD x8 (Int.toNat x10) (editR.dflt)) b00 true) else (Max.max (posD (List.getD x8 (Int.toNat x10) (editR.dflt)) b00 true) (posD (List.getD x8 (Int.toNat x10) (editR.dflt)) (b00 + b01) false))) - (posD (List.getD x8 (Int.toNat x10) (editR.dflt)) b00 true)) b02 b10 b11)
     else none)))
  else none)
 else (k1 x1 b00 b01 b02 b10 b11))
noncomputable def Q_i_EditMoves_2_0 : Nat → (List T_Edit) → (List T_Edit) → Int → Int → Int → Int → (List Int) → Int → Int → ((List T_Edit) → Bool → Int → Int → (List Int) → Int → Int → Option Ret) → ((List T_Edit) → Int → Int → (List Int) → Int → Int → Option Ret) → Option Ret
  | 0, _, _, _, _, _, _, _, _, _, _, _ => none
  | m + 1, x1, x8, x9, x10, b00, b01, b02, b10, b11, k0, k1 => P_i_EditMoves_2_0 x1 x8 x9 x10 b00 b01 b02 b10 b11 (fun x1 x8 x9 x10 b00 b01 b02 b10 b11 => (Q_i_EditMoves_2_0 m x1 x8 x9 x10 b00 b01 b02 b10 b11 k0 k1)) k0 k1
noncomputable def R_i_EditMoves_2_0 (x1 : List T_Edit) (x8 : List T_Edit) (x9 : Int) (x10 : Int) (b00 : Int) (b01 : Int) (b02 : List Int) (b10 : Int) (b11 : Int) (k0 : (List T_Edit) → Bool → Int → Int → (List Int) → Int → Int → Option Ret) (k1 : (List T_Edit) → Int → Int → (List Int) → Int → Int → Option Ret) : Option Ret := Q_i_EditMoves_2_0 (List.length x1 + List.length x8 + x9.toNat + x10.toNat + b00.toNat + b01.toNat + List.length b02 + b10.toNat + b11.toNat + 2) x1 x8 x9 x10 b00 b01 b02 b10 b11 k0 k1
noncomputable def W_i_EditMoves_2 : LoopFn := (fun (σ : St) (K : Ex → St → Option Ret) => (match sh_i_EditMoves_2_0.un σ with | some d => w_i_EditMoves_2_0 d (fun x1 x8 x9 x10 b00 b01 b02 b10 b11 => R_i_EditMoves_2_0 x1 x8 x9 x10 b00 b01 b02 b10 b11 (fun x1 x5 b00 b01 b02 b10 b11 => (K .ret (z_i_EditMoves_2_0 x1 x5 b00 b01 b02 b10 b11))) (fun x1 b00 b01 b02 b10 b11 => (K (.ext 0) (z_i_EditMoves_2_1 x1 b00 b01 b02 b10 b11)))) | none => none))
noncomputable abbrev E_i_EditMoves : Env := En [(N.i_Edit_isSmall, true, S_i_Edit_isSmall), (N.i_Edit_moved, false, S_i_Edit_moved), (N.i_Edit_copied, true, S_i_Edit_copied)] [] [(2, [1,2,4,8,9,10], [1,2,4,5], W_i_EditMoves_2)] [] false 0 []
theorem st_i_EditMoves_2_0 (m : Nat) (x1 : List T_Edit) (x8 : List T_Edit) (x9 : Int) (x10 : Int) (b00 : Int) (b01 : Int) (b02 : List Int) (b10 : Int) (b11 : Int) (K : Ex → St → Option Ret) : rounds (run E_i_EditMoves (bodyOf F.i_EditMoves 2)) [1,2,4,8,9,10] [1,2,4,5] (m + 1) (s_i_EditMoves_2_0 x1 x8 x9 x10 b00 b01 b02 b10 b11) K = P_i_EditMoves_2_0 x1 x8 x9 x10 b00 b01 b02 b10 b11 (fun x1 x8 x9 x10 b00 b01 b02 b10 b11 => (rounds (run E_i_EditMoves (bodyOf F.i_EditMoves 2)) [1,2,4,8,9,10] [1,2,4,5] m (s_i_EditMoves_2_0 x1 x8 x9 x10 b00 b01 b02 b10 b11) K)) (fun x1 x5 b00 b01 b02 b10 b11 => (K .ret (z_i_EditMoves_2_0 x1 x5 b00 b01 b02 b10 b11))) (fun x1 b00 b01 b02 b10 b11 => (K (.ext 0) (z_i_EditMoves_2_1 x1 b00 b01 b02 b10 b11))) := by kernel_rfl
theorem q_i_EditMoves_2 (K : Ex → St → Option Ret) : ∀ m : Nat, (∀ (x1 : List T_Edit) (x8 : List T_Edit) (x9 : Int) (x10 : Int) (b00 : Int) (b01 : Int) (b02 : List Int) (b10 : Int) (b11 : Int), rounds (run E_i_EditMoves (bodyOf F.i_EditMoves 2)) [1,2,4,8,9,10] [1,2,4,5] m (s_i_EditMoves_2_0 x1 x8 x9 x10 b00 b01 b02 b10 b11) K = Q_i_EditMoves_2_0 m x1 x8 x9 x10 b00 b01 b02 b10 b11 (fun x1 x5 b00 b01 b02 b10 b11 => (K .ret (z_i_EditMoves_2_0 x1 x5 b00 b01 b02 b10 b11))) (fun x1 b00 b01 b02 b10 b11 => (K (.ext 0) (z_i_EditMoves_2_1 x1 b00 b01 b02 b10 b11))))
  | 0 => (fun _ _ _ _ _ _ _ _ _ => rfl)
  | m + 1 => (fun x1 x8 x9 x10 b00 b01 b02 b10 b11 => (by rw [st_i_EditMoves_2_0, show (fun x1 x8 x9 x10 b00 b01 b02 b10 b11 => (rounds (run E_i_EditMoves (bodyOf F.i_EditMoves 2)) [1,2,4,8,9,10] [1,2,4,5] m (s_i_EditMoves_2_0 x1 x8 x9 x10 b00 b01 b02 b10 b11) K)) = (fun x1 x8 x9 x10 b00 b01 b02 b10 b11 => (Q_i_EditMoves_2_0 m x1 x8 x9 x10 b00 b01 b02 b10 b11 (fun x1 x5 b00 b01 b02 b10 b11 => (K .ret (z_i_EditMoves_2_0 x1 x5 b00 b01 b02 b10 b11))) (fun x1 b00 b01 b02 b10 b11 => (K (.ext 0) (z_i_EditMoves_2_1 x1 b00 b01 b02 b10 b11))))) from funext fun x1 => funext fun x8 => funext fun x9 => funext fun x10 => funext fun b00 => funext fun b01 => funext fun b02 => funext fun b10 => funext fun b11 => (q_i_EditMoves_2 K m) x1 x8 x9 x10 b00 b01 b02 b10 b11]; rfl))
theorem loopK_i_EditMoves_2 : LoopOk E_i_EditMoves (bodyOf F.i_EditMoves 2) := by
  refine loopW_ok (n := 2) (F := W_i_EditMoves_2) (by kernel_rfl) rfl (li := [1,2,4,8,9,10]) (lo := [1,2,4,5]) rfl (fun σ K r hr => ?_)
  unfold W_i_EditMoves_2 at hr
  split at hr
  · rename_i d hd
    rw [Ss.un_mk hd]
    exact ⟨_, ((congrArg (fun z => rounds (run E_i_EditMoves (bodyOf F.i_EditMoves 2)) [1,2,4,8,9,10] [1,2,4,5] _ z K) (se_i_EditMoves_2_0 _ _ _ _ _ _ _ _ _)).trans ((q_i_EditMoves_2 K _) _ _ _ _ _ _ _ _ _)).trans hr⟩
  · cases hr
noncomputable def T_i_EditMoves (e : T_Edit) (l : List T_Edit) (K : Ret → Option Ret) : Option Ret :=
 (R_i_EditMoves_2_0 l l (((List.length l) : Nat) : Int) (0 : Int) e.1 e.2.1 e.2.2 (0 : Int) (0 : Int) (fun y0 y1 y2 y3 y4 y5 y6 =>
 K ((.t [(.a [(.s (.int .i64 y5)), (.s (.int .i64 y6)), (.l .deep bytesR ([] : List Int))]), (.s (.bool y1))]), [])) (fun y7 y8 y9 y10 y11 y12 =>
 (bif ((((List.length y7) : Nat) : Int) == (0 : Int)) then
  (bif (!(smallE (y8, (y9, y10)))) then
   K ((.t [(.a [(.s (.int .i64 (0 : Int))), (.s (.int .i64 (0 : Int))), (.l .deep bytesR ([] : List Int))]), (.s (.bool false))]), [])
   else (bif (Nat.ble (List.length y10) 1048576) then
    K ((.t [(.a [(.s (.int .i64 y8)), (.s (.int .i64 y9)), (.l .deep bytesR y10)]), (.s (.bool true))]), [])
    else none))
  else (bif (Nat.ble (List.length y10) 1048576) then
   K ((.t [(.a [(.s (.int .i64 y8)), (.s (.int .i64 y9)), (.l .deep bytesR y10)]), (.s (.bool true))]), [])
   else none))))
theorem e_i_EditMoves (e : T_Edit) (l : List T_Edit) (K : Ret → Option Ret) : evF E_i_EditMoves true F.i_EditMoves [.a (editR.cells .no e), .l .no editR l] K = T_i_EditMoves e l K := by kernel_rfl
theorem iem_loop {l : List T_Edit} {X : Option Ret} {k0 : List T_Edit → Bool → Int → Int → (List Int) → Int → Int → Option Ret} {k1 : (List T_Edit) → Int → Int → (List Int) → Int → Int → Option Ret} (hX : ∀ a b c, k0 l false a b c 0 0 = X) (hl : l.length ≤ 1048576) : ∀ (m i : Nat) (e : T_Edit), i ≤ l.length → l.length - i < m →
    Q_i_EditMoves_2_0 m l l ((l.length : Nat) : Int) (i : Int) e.1 e.2.1 e.2.2 0 0 k0 k1 = bif (movesL (l.drop i) e).2 then k1 l (movesL (l.drop i) e).1.1 (movesL (l.drop i) e).1.2.1 (movesL (l.drop i) e).1.2.2 0 0 else X
  | 0, i, e, _, h => absurd h (by omega)
  | m + 1, i, e, h1, h2 => by
    show P_i_EditMoves_2_0 l l ((l.length : Nat) : Int) (i : Int) e.1 e.2.1 e.2.2 0 0 _ _ _ = _
    unfold P_i_EditMoves_2_0
    by_cases h : i < l.length
    · rw [decide_eq_true (show ((i : Nat) : Int) < ((l.length : Nat) : Int) by omega), decide_eq_true (show (0 : Int) ≤ ((i : Nat) : Int) by omega), Int.toNat_natCast, wrap_nat (by omega), getD_lt _ h, List.drop_eq_getElem_cons h]
      simp only [movesL]
      show (bif !(smallE e) then k0 l false e.1 e.2.1 e.2.2 0 0 else (bif !(smallE l[i]) then k0 l false e.1 e.2.1 e.2.2 0 0 else (bif smallE e && smallE l[i] then Q_i_EditMoves_2_0 m l l ((l.length : Nat) : Int) ((i + 1 : Nat) : Int) (movedD e l[i]).1 (movedD e l[i]).2.1 (movedD e l[i]).2.2 0 0 k0 k1 else none))) = _
      cases hs : smallE e with
      | false => exact hX _ _ _
      | true =>
        cases hs2 : smallE l[i] with
        | false => exact hX _ _ _
        | true => exact iem_loop hX hl m (i + 1) (movedD e l[i]) (by omega) (by omega)
    · obtain rfl : i = l.length := by omega
      rw [decide_eq_false (show ¬ ((l.length : Nat) : Int) < ((l.length : Nat) : Int) by omega), List.drop_length]; rfl
def S_i_EditMoves : Sm := S_fnR [.a editR, .l editR] (fun d => fitC (.sl editR) d.2.1 && Nat.ble d.1.2.2.length 1048576) (fun d => (.t [.a (editR.cells .deep (movesD d.1 d.2.1).1), bl (movesD d.1 d.2.1).2], []))
theorem v_i_EditMoves (e : T_Edit) (l : List T_Edit) (h : (fitC (.sl editR) l && Nat.ble e.2.2.length 1048576) = true) (K : Ret → Option Ret) : T_i_EditMoves e l K = K (.t [.a (editR.cells .deep (movesD e l).1), bl (movesD e l).2], []) := by
  obtain ⟨h1, h2⟩ := (Bool.and_eq_true _ _).mp h
  have hl := fitC_len h1
  have hp := Nat.le_of_ble_eq_true h2
  have hput : ∀ (l : List T_Edit) (e : T_Edit), (movesL l e).2 = true → (movesL l e).1.2.2 = e.2.2 := by
    intro l
    induction l with
    | nil => intro e _; rfl
    | cons b l ih =>
      intro e h
      simp only [movesL] at h ⊢
      cases hs : (smallE e && smallE b) with
      | false => rw [hs] at h; cases h
      | true => rw [hs] at h; exact (ih _ h)
  have hsm : ∀ (l : List T_Edit) (e : T_Edit), smallE e = false → l ≠ [] → movesL l e = badE := by
    intro l e hs hne
    cases l with
    | nil => exact absurd rfl hne
    | cons b l => simp only [movesL]; rw [hs]; rfl
  have hb : ∀ (l : List T_Edit) (e : T_Edit), (movesL l e).2 = false → movesL l e = badE := by
    intro l
    induction l with
    | nil => intro e h; cases h
    | cons b l ih =>
      intro e h
      simp only [movesL] at h ⊢
      cases hs : (smallE e && smallE b) with
      | false => rfl
      | true => rw [hs] at h; exact ih _ h
  unfold T_i_EditMoves
  refine (iem_loop (l := l) (X := K (.t [.a (editR.cells .deep badE.1), bl badE.2], [])) (fun _ _ _ => rfl) hl (List.length l + List.length l + ((l.length : Nat) : Int).toNat + (0 : Int).toNat + e.1.toNat + e.2.1.toNat + List.length e.2.2 + (0 : Int).toNat + (0 : Int).toNat + 2) 0 e (by omega) (by omega)).trans ?_
  rw [List.drop_zero]
  unfold movesD
  cases hm : (movesL l e).2 with
  | false =>
    cases hs : smallE e with
    | false => rfl
    | true => rw [cond_true, hb l e hm]; rfl
  | true =>
    have hp2 : (movesL l e).1.2.2.length ≤ 1048576 := by rw [hput l e hm]; exact hp
    simp only [cond_true]
    rw [Nat.ble_eq_true_of_le hp2]
    by_cases hz : l = []
    · subst hz
      show (bif !(smallE e) then _ else _) = _
      cases hs : smallE e <;> rfl
    · have hn : ((((List.length l) : Nat) : Int) == (0 : Int)) = false := beq_false_of_ne (fun q => hz (List.length_eq_zero_iff.1 (by omega)))
      rw [hn]
      cases hs : smallE e with
      | false => rw [hsm l e hs hz] at hm; cases hm
      | true =>
        show K _ = K (.t [.a (editR.cells .deep (movesL l e).1), bl (movesL l e).2], [])
        rw [hm]; rfl
theorem okS_i_EditMoves : OkFn prog I N.i_EditMoves true S_i_EditMoves := okN (ok_fn (memc okS_i_Edit_isSmall (memc okS_i_Edit_moved (memc okS_i_Edit_copied mem0))) (l := [(N.i_Edit_isSmall, true, S_i_Edit_isSmall), (N.i_Edit_moved, false, S_i_Edit_moved), (N.i_Edit_copied, true, S_i_Edit_copied)]) (p := []) (ls := [(2, [1,2,4,8,9,10], [1,2,4,5], W_i_EditMoves_2)]) (lend := []) (focus := false) (fuel := 0) (give := []) (fn := F.i_EditMoves) (by kernel_rfl) (by kernel_rfl) (by kernel_rfl) (by kernel_rfl) (cs := [bodyOf F.i_EditMoves 2]) (by kernel_rfl) (loopsc loopK_i_EditMoves_2 loops0)) (S_fnR_of fun d K h => (e_i_EditMoves d.1 d.2.1 K).trans (v_i_EditMoves d.1 d.2.1 h K))
end Go.Ev.Seat
end
section
/- l_sameEdit: its contract. -/
namespace Go.Ev.Seat
open Go.RowKit
set_option maxRecDepth 100000
set_option linter.unusedVariables false
set_option linter.unusedSimpArgs false
noncomputable abbrev E_l_sameEdit : Env := En [] [] [] [] false 0 []
noncomputable def T_l_sameEdit (a : T_Edit) (b : T_Edit) (K : Ret → Option Ret) : Option Ret :=
 (bif (a.1 == b.1) then
 (bif (a.2.1 == b.2.1) then
  K ((.s (.bool ((ByteArray.toList (bstr a.2.2)) == (ByteArray.toList (bstr b.2.2))))), [])
  else K ((.s (.bool false)), []))
 else K ((.s (.bool false)), []))
theorem e_l_sameEdit (a : T_Edit) (b : T_Edit) (K : Ret → Option Ret) : evF E_l_sameEdit true F.l_sameEdit [.a (editR.cells .no a), .a (editR.cells .no b)] K = T_l_sameEdit a b K := by kernel_rfl
def S_l_sameEdit : Sm := S_fnR [.a editR, .a editR] (fun d => fitB d.1.2.2 && fitB d.2.1.2.2) (fun d => (bl (decide (d.1 = d.2.1)), []))
theorem v_l_sameEdit (a : T_Edit) (b : T_Edit) (h : (fitB a.2.2 && fitB b.2.2) = true) (K : Ret → Option Ret) : T_l_sameEdit a b K = K (bl (decide (a = b)), []) := by
  obtain ⟨h1, h2⟩ := (Bool.and_eq_true _ _).mp h
  obtain ⟨a1, a2, a3⟩ := a
  obtain ⟨b1, b2, b3⟩ := b
  unfold T_l_sameEdit
  dsimp only
  rw [bstr_eq (fun x hx => fitB_mem h1 hx) (fun x hx => fitB_mem h2 hx)]
  have e : decide (((a1, a2, a3) : T_Edit) = (b1, b2, b3)) = ((a1 == b1) && ((a2 == b2) && decide (a3 = b3))) := by
    rw [Bool.eq_iff_iff]
    simp only [decide_eq_true_eq, Bool.and_eq_true, beq_iff_eq, Prod.mk.injEq]
  rw [e]
  cases (a1 == b1)
  · rfl
  cases (a2 == b2)
  · rfl
  rfl
theorem okS_l_sameEdit : OkFn prog I N.l_sameEdit true S_l_sameEdit := okN (ok_fn mem0 (l := []) (p := []) (ls := []) (lend := []) (focus := false) (fuel := 0) (give := []) (fn := F.l_sameEdit) (by kernel_rfl) (by kernel_rfl) (by kernel_rfl) (by kernel_rfl) (cs := []) (by kernel_rfl) loops0) (S_fnR_of fun d K h => (e_l_sameEdit d.1 d.2.1 K).trans (v_l_sameEdit d.1 d.2.1 h K))
end Go.Ev.Seat
end
section
/- l_pick: its contract. -/
namespace Go.Ev.Seat
open Go.RowKit
set_option maxRecDepth 100000
set_option linter.unusedVariables false
set_option linter.unusedSimpArgs false
def z_l_pick_5_0 (x1 : Int) (x2 : Int) (x7 : Int) : St := { tm := ([.x, (.s (.int .i64 x1)), (.s (.int .i64 x2)), .x, .x, .x, .x, (.s (.int .i64 x7))] ++ List.replicate 30 .x), ob := [], nx := 0, io := [] }
def sh_l_pick_5_0 : Ss := { tm := (.cons (.l .no bytesR) (.cons (.int .i64) (.cons (.int .i64) (.cons (.x) (.cons (.x) (.cons (.x) (.cons (.x) (.cons (.int .i64) (.cons (.int .i64) (xsh 29)))))))))), ob := .nil, nx := 0, io := .nil }
def d_l_pick_5_0 (x0 : List Int) (x1 : Int) (x2 : Int) (x7 : Int) (x8 : Int) : sh_l_pick_5_0.T := ((x0, (x1, (x2, ((), ((), ((), ((), (x7, (x8, xd 29))))))))), (), ())
def s_l_pick_5_0 (x0 : List Int) (x1 : Int) (x2 : Int) (x7 : Int) (x8 : Int) : St := { tm := ([(.l .no bytesR x0), (.s (.int .i64 x1)), (.s (.int .i64 x2)), .x, .x, .x, .x, (.s (.int .i64 x7)), (.s (.int .i64 x8))] ++ List.replicate 29 .x), ob := [], nx := 0, io := [] }
theorem se_l_pick_5_0 (x0 : List Int) (x1 : Int) (x2 : Int) (x7 : Int) (x8 : Int) : sh_l_pick_5_0.mk' (d_l_pick_5_0 x0 x1 x2 x7 x8) = (s_l_pick_5_0 x0 x1 x2 x7 x8) := by kernel_rfl
def w_l_pick_5_0 (d : sh_l_pick_5_0.T) (f : (List Int) → Int → Int → Int → Int → Option Ret) : Option Ret := match d with | ((x0, (x1, (x2, (_, (_, (_, (_, (x7, (x8, _))))))))), _, _) => f x0 x1 x2 x7 x8
noncomputable def P_l_pick_5_0 (x0 : List Int) (x1 : Int) (x2 : Int) (x7 : Int) (x8 : Int) (nx0 : (List Int) → Int → Int → Int → Int → Option Ret) (k0 : Int → Int → Int → Option Ret) : Option Ret :=
 (bif (decide (x8 < (3 : Int))) then
 (bif (!((((List.length x0) : Nat) : Int) == (0 : Int))) then
  (bif ((decide ((0 : Int) ≤ (Int.tmod (IntKind.wrap .i64 (x1 + x8)) (((List.length x0) : Nat) : Int)))) && (decide ((Int.tmod (IntKind.wrap .i64 (x1 + x8)) (((List.length x0) : Nat) : Int)) < (((List.length x0) : Nat) : Int)))) then
   (nx0 x0 x1 x2 (IntKind.wrap .i64 ((IntKind.wrap .i64 ((31 : Int) * x7)) + (IntKind.wrap .i64 (List.getD x0 (Int.toNat (Int.tmod (IntKind.wrap .i64 (x1 + x8)) (((List.length x0) : Nat) : Int))) (0 : Int))))) (IntKind.wrap .i64 (x8 + (1 : Int))))
   else none)
  else none)
 else (k0 x1 x2 x7))
noncomputable def Q_l_pick_5_0 : Nat → (List Int) → Int → Int → Int → Int → (Int → Int → Int → Option Ret) → Option Ret
  | 0, _, _, _, _, _, _ => none
  | m + 1, x0, x1, x2, x7, x8, k0 => P_l_pick_5_0 x0 x1 x2 x7 x8 (fun x0 x1 x2 x7 x8 => (Q_l_pick_5_0 m x0 x1 x2 x7 x8 k0)) k0
noncomputable def R_l_pick_5_0 (x0 : List Int) (x1 : Int) (x2 : Int) (x7 : Int) (x8 : Int) (k0 : Int → Int → Int → Option Ret) : Option Ret := Q_l_pick_5_0 (List.length x0 + x1.toNat + x2.toNat + x7.toNat + x8.toNat + 2) x0 x1 x2 x7 x8 k0
noncomputable def W_l_pick_5 : LoopFn := (fun (σ : St) (K : Ex → St → Option Ret) => (match sh_l_pick_5_0.un σ with | some d => w_l_pick_5_0 d (fun x0 x1 x2 x7 x8 => R_l_pick_5_0 x0 x1 x2 x7 x8 (fun x1 x2 x7 => (K (.ext 0) (z_l_pick_5_0 x1 x2 x7)))) | none => none))
noncomputable abbrev E_l_pick : Env := En [] [] [(5, [0,1,2,7,8], [1,2,6,7], W_l_pick_5)] [] false 0 []
theorem st_l_pick_5_0 (m : Nat) (x0 : List Int) (x1 : Int) (x2 : Int) (x7 : Int) (x8 : Int) (K : Ex → St → Option Ret) : rounds (run E_l_pick (bodyOf F.l_pick 5)) [0,1,2,7,8] [1,2,6,7] (m + 1) (s_l_pick_5_0 x0 x1 x2 x7 x8) K = P_l_pick_5_0 x0 x1 x2 x7 x8 (fun x0 x1 x2 x7 x8 => (rounds (run E_l_pick (bodyOf F.l_pick 5)) [0,1,2,7,8] [1,2,6,7] m (s_l_pick_5_0 x0 x1 x2 x7 x8) K)) (fun x1 x2 x7 => (K (.ext 0) (z_l_pick_5_0 x1 x2 x7))) := by kernel_rfl
theorem q_l_pick_5 (K : Ex → St → Option Ret) : ∀ m : Nat, (∀ (x0 : List Int) (x1 : Int) (x2 : Int) (x7 : Int) (x8 : Int), rounds (run E_l_pick (bodyOf F.l_pick 5)) [0,1,2,7,8] [1,2,6,7] m (s_l_pick_5_0 x0 x1 x2 x7 x8) K = Q_l_pick_5_0 m x0 x1 x2 x7 x8 (fun x1 x2 x7 => (K (.ext 0) (z_l_pick_5_0 x1 x2 x7))))
  | 0 => (fun _ _ _ _ _ => rfl)
  | m + 1 => (fun x0 x1 x2 x7 x8 => (by rw [st_l_pick_5_0, show (fun x0 x1 x2 x7 x8 => (rounds (run E_l_pick (bodyOf F.l_pick 5)) [0,1,2,7,8] [1,2,6,7] m (s_l_pick_5_0 x0 x1 x2 x7 x8) K)) = (fun x0 x1 x2 x7 x8 => (Q_l_pick_5_0 m x0 x1 x2 x7 x8 (fun x1 x2 x7 => (K (.ext 0) (z_l_pick_5_0 x1 x2 x7))))) from funext fun x0 => funext fun x1 => funext fun x2 => funext fun x7 => funext fun x8 => (q_l_pick_5 K m) x0 x1 x2 x7 x8]; rfl))
theorem loopK_l_pick_5 : LoopOk E_l_pick (bodyOf F.l_pick 5) := by
  refine loopW_ok (n := 5) (F := W_l_pick_5) (by kernel_rfl) rfl (li := [0,1,2,7,8]) (lo := [1,2,6,7]) rfl (fun σ K r hr => ?_)
  unfold W_l_pick_5 at hr
  split at hr
  · rename_i d hd
    rw [Ss.un_mk hd]
    exact ⟨_, ((congrArg (fun z => rounds (run E_l_pick (bodyOf F.l_pick 5)) [0,1,2,7,8] [1,2,6,7] _ z K) (se_l_pick_5_0 _ _ _ _ _)).trans ((q_l_pick_5 K _) _ _ _ _ _)).trans hr⟩
  · cases hr
noncomputable def T_l_pick (code : List Int) (j : Int) (n : Int) (K : Ret → Option Ret) : Option Ret :=
 (bif ((((List.length code) : Nat) : Int) == (0 : Int)) then
 K ((.s (.int .i64 (0 : Int))), [])
 else (bif (decide (n < (2 : Int))) then
  K ((.s (.int .i64 (0 : Int))), [])
  else (R_l_pick_5_0 code j n (0 : Int) (0 : Int) (fun y0 y1 y2 =>
   (bif (!(y1 == (0 : Int))) then
    K ((.s (.int .i64 (Int.tmod (IntKind.wrap .i64 (y2 + y0)) y1))), [])
    else none)))))
theorem e_l_pick (code : List Int) (j : Int) (n : Int) (K : Ret → Option Ret) : evF E_l_pick true F.l_pick [.l .no bytesR code, .s (.int .i64 j), .s (.int .i64 n)] K = T_l_pick code j n K := by kernel_rfl
theorem pick_loop {P : Ret → Prop} {code : List Int} {at_ n : Int} (hf : fitB code = true) (hc : 0 < code.length) (h0 : 0 ≤ at_) (h1 : at_ ≤ 1000000) {F : Int → Int → Int → (Ret → Option Ret) → Option Ret} : ∀ (m k : Nat) (x : Int), k ≤ 3 → 3 - k < m → 0 ≤ x → ((k = 0 → x = 0) ∧ (k = 1 → x ≤ 255) ∧ (k = 2 → x ≤ 8160) ∧ (k = 3 → x ≤ 253215)) → (∀ y, 0 ≤ y → y ≤ 253215 → Dr P (F at_ n y)) → Dr P (fun K => Q_l_pick_5_0 m code at_ n x (k : Int) (fun a b c => F a b c K))
  | 0, k, x, _, h, _, _, _ => absurd h (by omega)
  | m + 1, k, x, hk, hm, hx0, hx1, hF => by
    show Dr P (fun K => P_l_pick_5_0 code at_ n x (k : Int) _ _)
    unfold P_l_pick_5_0
    by_cases h3 : k < 3
    · refine Dr.must (decide_eq_true (by omega)) ?_
      have e1 : IntKind.wrap .i64 (at_ + k) = at_ + k := wrap_in (by omega) (by omega)
      have e2 : Int.tmod (at_ + k) ((code.length : Nat) : Int) = (at_ + k) % ((code.length : Nat) : Int) := Int.tmod_eq_emod_of_nonneg (by omega)
      have := Int.emod_nonneg (at_ + k) (show ((code.length : Nat) : Int) ≠ 0 by omega)
      have := Int.emod_lt_of_pos (at_ + k) (show (0 : Int) < ((code.length : Nat) : Int) by omega)
      have hb := fitB_get hf ((at_ + k) % ((code.length : Nat) : Int)).toNat
      rw [e1, e2]
      refine Dr.must (by rw [Bool.not_eq_true', beq_eq_false_iff_ne]; omega) (Dr.must (by rw [Bool.and_eq_true, decide_eq_true_iff, decide_eq_true_iff]; omega) ?_)
      rw [wrap_in (n := 31 * x) (by omega) (by omega), wrap_in (n := code.getD ((at_ + k) % ((code.length : Nat) : Int)).toNat 0) (by omega) (by omega), wrap_in (n := 31 * x + code.getD ((at_ + k) % ((code.length : Nat) : Int)).toNat 0) (by omega) (by omega), show IntKind.wrap .i64 ((k : Int) + 1) = ((k + 1 : Nat) : Int) by rw [wrap_in (by omega) (by omega)]; omega]
      refine pick_loop hf hc h0 h1 m (k + 1) _ (by omega) (by omega) (by omega) (by omega) hF
    · refine Dr.bif (fun hc => ?_) (fun _ => hF x hx0 (by omega))
      simp at hc; omega
theorem x_l_pick (code : List Int) (j : Int) (n : Int) (h : (fitB code && decide (0 ≤ j) && decide (j ≤ 1000000)) = true) : ∃ (y : Int), (0 ≤ y ∧ (2 ≤ n → y < n) ∧ (n < 2 → y = 0)) ∧ ∀ K : Ret → Option Ret, T_l_pick code j n K = K (.s (.int .i64 y), []) := by
  suffices hd : Dr (fun r : Ret => ∃ (y : Int), (0 ≤ y ∧ (2 ≤ n → y < n) ∧ (n < 2 → y = 0)) ∧ r = (.s (.int .i64 y), [])) (fun K : Ret → Option Ret => T_l_pick code j n K) by
    obtain ⟨_, ⟨y, hp, rfl⟩, hk⟩ := hd
    exact ⟨y, hp, hk⟩
  simp only [Bool.and_eq_true, decide_eq_true_eq] at h
  obtain ⟨⟨hf, h0⟩, h1⟩ := h
  unfold T_l_pick
  refine Dr.bif (fun hc => Dr.leaf ⟨_, ⟨Int.le_refl 0, fun h => ?_, fun _ => rfl⟩, rfl⟩) (fun hc => ?_)
  · omega
  rw [beq_eq_false_iff_ne] at hc
  refine Dr.bif (fun h2 => Dr.leaf ⟨_, ⟨Int.le_refl 0, fun h => ?_, fun _ => rfl⟩, rfl⟩) (fun h2 => ?_)
  · omega
  simp only [decide_eq_false_iff_not] at h2
  unfold R_l_pick_5_0
  refine pick_loop hf (by omega) h0 h1 (F := fun y0 y1 y2 K => (bif (!(y1 == (0 : Int))) then
    K ((.s (.int .i64 (Int.tmod (IntKind.wrap .i64 (y2 + y0)) y1))), [])
    else none)) _ 0 0 (by omega) (by omega) (by omega) (by omega) (fun y hy0 hy1 => ?_)
  refine Dr.must (by rw [Bool.not_eq_true', beq_eq_false_iff_ne]; omega) ?_
  rw [wrap_in (n := y + j) (by omega) (by omega), Int.tmod_eq_emod_of_nonneg (by omega)]
  have := Int.emod_nonneg (y + j) (show n ≠ 0 by omega)
  have := Int.emod_lt_of_pos (y + j) (show 0 < n by omega)
  exact Dr.leaf ⟨_, ⟨by omega, by omega, by omega⟩, rfl⟩
noncomputable def g_l_pick (code : List Int) (j : Int) (n : Int) : Int := Classical.epsilon fun g => (0 ≤ (g) ∧ (2 ≤ n → (g) < n) ∧ (n < 2 → (g) = 0)) ∧ ∀ K : Ret → Option Ret, T_l_pick code j n K = K (.s (.int .i64 (g)), [])
theorem gs_l_pick (code : List Int) (j : Int) (n : Int) (h : (fitB code && decide (0 ≤ j) && decide (j ≤ 1000000)) = true) : (0 ≤ (g_l_pick code j n) ∧ (2 ≤ n → (g_l_pick code j n) < n) ∧ (n < 2 → (g_l_pick code j n) = 0)) ∧ ∀ K : Ret → Option Ret, T_l_pick code j n K = K (.s (.int .i64 (g_l_pick code j n)), []) := by
  obtain ⟨y, hy, hk⟩ := x_l_pick code j n h
  exact Classical.epsilon_spec (p := fun g : Int => (0 ≤ (g) ∧ (2 ≤ n → (g) < n) ∧ (n < 2 → (g) = 0)) ∧ ∀ K : Ret → Option Ret, T_l_pick code j n K = K (.s (.int .i64 (g)), [])) ⟨y, hy, hk⟩
noncomputable def B_l_pick (code : List Int) (j : Int) (n : Int) (k : (Int) → Option Ret) : Option Ret := bif fitB code && decide (0 ≤ j) && decide (j ≤ 1000000) then k (g_l_pick code j n) else none
theorem b_l_pick (code : List Int) (j : Int) (n : Int) (h : (fitB code && decide (0 ≤ j) && decide (j ≤ 1000000)) = true) : ∃ (y : Int), (0 ≤ y ∧ (2 ≤ n → y < n) ∧ (n < 2 → y = 0)) ∧ ∀ k, B_l_pick code j n k = k y :=
  ⟨(g_l_pick code j n), (gs_l_pick code j n h).1, fun k => by unfold B_l_pick; rw [h]; rfl⟩
def SB_l_pick (B : (List Int) → (Int) → (Int) → ((Int) → Option Ret) → Option Ret) : Sm := S_B [.l bytesR, .i, .i] (fun d K => B d.1 d.2.1 d.2.2.1 (fun y => K (.s (.int .i64 y), [])))
theorem okS_l_pick : OkFn prog I N.l_pick true (SB_l_pick B_l_pick) := okN (ok_fn mem0 (l := []) (p := []) (ls := [(5, [0,1,2,7,8], [1,2,6,7], W_l_pick_5)]) (lend := []) (focus := false) (fuel := 0) (give := []) (fn := F.l_pick) (by kernel_rfl) (by kernel_rfl) (by kernel_rfl) (by kernel_rfl) (cs := [bodyOf F.l_pick 5]) (by kernel_rfl) (loopsc loopK_l_pick_5 loops0)) (S_B_of fun d K q hq => by
  refine (e_l_pick d.1 d.2.1 d.2.2.1 K).trans ?_
  unfold B_l_pick at hq
  cases hp : (fitB d.1 && decide (0 ≤ d.2.1) && decide (d.2.1 ≤ 1000000)) with
  | false => rw [hp] at hq; cases hq
  | true =>
    rw [hp] at hq
    exact ((gs_l_pick d.1 d.2.1 d.2.2.1 hp).2 K).trans hq)
end Go.Ev.Seat
end
section
/- l_FnEditMoves: its contract. -/
namespace Go.Ev.Seat
open Go.RowKit
set_option maxRecDepth 100000
set_option linter.unusedVariables false
set_option linter.unusedSimpArgs false
noncomputable abbrev E_l_FnEditMoves : Env := En [(N.l_big, true, S_l_big), (N.s_DrawEditMoves, false, (SB_s_DrawEditMoves B_s_DrawEditMoves)), (N.s_EditMoves, true, S_s_EditMoves), (N.i_EditMoves, true, S_i_EditMoves), (N.l_sameEdit, true, S_l_sameEdit), (N.l_pick, true, (SB_l_pick B_l_pick)), (N.s_EditMove, true, S_s_EditMove)] [(9, takeB [0, 1, 2, 3] (.fork (.more 4 (takeB [5, 6, 7] (.fork (.one 8 (.fork (.one 9 (takes [10])))))) (.one 8 (.fork (.one 4 (takeB [5, 6, 7] (.fork (.one 9 (takes [10]))))))))), []), (13, takeB [0, 1, 2, 3] (.fork (.more 4 (takeB [5, 6, 7] (.fork (.one 8 (.fork (.one 9 (takes [10])))))) (.one 8 (.fork (.one 4 (takeB [5, 6, 7] (.fork (.one 9 (takes [10]))))))))), [])] [] [] false 0 []
noncomputable def T_l_FnEditMoves (code : List Int) (K : Ret → Option Ret) : Option Ret :=
 (bif (decide ((((List.length code) : Nat) : Int) > (1048576 : Int))) then
 K ((.s (.bool true)), [])
 else (B_s_DrawEditMoves code (fun y0 y1 y2 y3 =>
  (bif ((fitC (Cc.sl editR) y3) && (Nat.ble (List.length y2) 1048576)) then
   (bif ((fitC (Cc.sl editR) y3) && (Nat.ble (List.length y2) 1048576)) then
    (bif (!((movesD (y0, (y1, y2)) y3).2 == (movesD (y0, (y1, y2)) y3).2)) then
     (bif ((movesD (y0, (y1, y2)) y3).2 == (movesD (y0, (y1, y2)) y3).2) then
      (bif ((fitB (movesD (y0, (y1, y2)) y3).1.2.2) && (fitB (movesD (y0, (y1, y2)) y3).1.2.2)) then
       K ((.s (.bool (decide ((movesD (y0, (y1, y2)) y3).1 = (movesD (y0, (y1, y2)) y3).1)))), [])
       else none)
      else K ((.s (.bool false)), []))
     else (bif ((fitB (movesD (y0, (y1, y2)) y3).1.2.2) && (fitB (movesD (y0, (y1, y2)) y3).1.2.2)) then
      (bif (!(decide ((movesD (y0, (y1, y2)) y3).1 = (movesD (y0, (y1, y2)) y3).1))) then
       (bif ((movesD (y0, (y1, y2)) y3).2 == (movesD (y0, (y1, y2)) y3).2) then
        (bif ((fitB (movesD (y0, (y1, y2)) y3).1.2.2) && (fitB (movesD (y0, (y1, y2)) y3).1.2.2)) then
         K ((.s (.bool (decide ((movesD (y0, (y1, y2)) y3).1 = (movesD (y0, (y1, y2)) y3).1)))), [])
         else none)
        else K ((.s (.bool false)), []))
       else (bif (!(movesD (y0, (y1, y2)) y3).2) then
        (bif ((movesD (y0, (y1, y2)) y3).2 == (movesD (y0, (y1, y2)) y3).2) then
         (bif ((fitB (movesD (y0, (y1, y2)) y3).1.2.2) && (fitB (movesD (y0, (y1, y2)) y3).1.2.2)) then
          K ((.s (.bool (decide ((movesD (y0, (y1, y2)) y3).1 = (movesD (y0, (y1, y2)) y3).1)))), [])
          else none)
         else K ((.s (.bool false)), []))
        else (B_l_pick code (3 : Int) (IntKind.wrap .i64 ((((List.length y3) : Nat) : Int) + (1 : Int))) (fun y4 =>
         (bif ((decide ((0 : Int) ≤ y4)) && (decide (y4 ≤ (((List.length y3) : Nat) : Int)))) then
          (meet
           ((bif ((fitC (Cc.sl editR) (List.take ((Int.toNat y4) - 0) (List.drop 0 y3))) && (Nat.ble (List.length y2) 1048576)) then
            (bif (Nat.ble (List.length (movesD (y0, (y1, y2)) (List.take ((Int.toNat y4) - 0) (List.drop 0 y3))).1.2.2) 1048576) then
             (bif (!(moveD (movesD (y0, (y1, y2)) (List.take ((Int.toNat y4) - 0) (List.drop 0 y3))).1 ((0 : Int), ((0 : Int), ([] : List Int)))).2) then
              (bif (movesD (y0, (y1, y2)) (List.take ((Int.toNat y4) - 0) (List.drop 0 y3))).2 then
               (bif (y4 == (((List.length y3) : Nat) : Int)) then
                (bif ((fitB (movesD (y0, (y1, y2)) (List.take ((Int.toNat y4) - 0) (List.drop 0 y3))).1.2.2) && (fitB (movesD (y0, (y1, y2)) y3).1.2.2)) then
                 K ((.s (.bool (decide ((movesD (y0, (y1, y2)) (List.take ((Int.toNat y4) - 0) (List.drop 0 y3))).1 = (movesD (y0, (y1, y2)) y3).1)))), [])
                 else none)
                else K ((.s (.bool false)), []))
               else K ((.s (.bool false)), []))
              else (bif ((decide ((0 : Int) ≤ y4)) && (decide (y4 ≤ (((List.length y3) : Nat) : Int)))) then
               (meet
                ((bif ((fitC (Cc.sl editR) (List.take ((Int.toNat (((List.length y3) : Nat) : Int)) - (Int.toNat y4)) (List.drop (Int.toNat y4) y3))) && (Nat.ble (List.length (movesD (y0, (y1, y2)) (List.take ((Int.toNat y4) - 0) (List.drop 0 y3))).1.2.2) 1048576)) then
                 (bif (movesD (y0, (y1, y2)) (List.take ((Int.toNat y4) - 0) (List.drop 0 y3))).2 then
                  (bif (movesD (movesD (y0, (y1, y2)) (List.take ((Int.toNat y4) - 0) (List.drop 0 y3))).1 (List.take ((Int.toNat (((List.length y3) : Nat) : Int)) - (Int.toNat y4)) (List.drop (Int.toNat y4) y3))).2 then
                   (bif ((fitB (movesD (movesD (y0, (y1, y2)) (List.take ((Int.toNat y4) - 0) (List.drop 0 y3))).1 (List.take ((Int.toNat (((List.length y3) : Nat) : Int)) - (Int.toNat y4)) (List.drop (Int.toNat y4) y3))).1.2.2) && (fitB (movesD (y0, (y1, y2)) y3).1.2.2)) then
                    K ((.s (.bool (decide ((movesD (movesD (y0, (y1, y2)) (List.take ((Int.toNat y4) - 0) (List.drop 0 y3))).1 (List.take ((Int.toNat (((List.length y3) : Nat) : Int)) - (Int.toNat y4)) (List.drop (Int.toNat y4) y3))).1 = (movesD (y0, (y1, y2)) y3).1)))), [])
                    else none)
                   else K ((.s (.bool false)), []))
                  else K ((.s (.bool false)), []))
                 else none))
                ((bif ((fitC (Cc.sl editR) (List.take ((Int.toNat (((List.length y3) : Nat) : Int)) - (Int.toNat y4)) (List.drop (Int.toNat y4) y3))) && (Nat.ble (List.length (movesD (y0, (y1, y2)) (List.take ((Int.toNat y4) - 0) (List.drop 0 y3))).1.2.2) 1048576)) then
                 (bif (movesD (y0, (y1, y2)) (List.take ((Int.toNat y4) - 0) (List.drop 0 y3))).2 then
                  (bif (movesD (movesD (y0, (y1, y2)) (List.take ((Int.toNat y4) - 0) (List.drop 0 y3))).1 (List.take ((Int.toNat (((List.length y3) : Nat) : Int)) - (Int.toNat y4)) (List.drop (Int.toNat y4) y3))).2 then
                   (bif ((fitB (movesD (movesD (y0, (y1, y2)) (List.take ((Int.toNat y4) - 0) (List.drop 0 y3))).1 (List.take ((Int.toNat (((List.length y3) : Nat) : Int)) - (Int.toNat y4)) (List.drop (Int.toNat y4) y3))).1.2.2) && (fitB (movesD (y0, (y1, y2)) y3).1.2.2)) then
                    K ((.s (.bool (decide ((movesD (movesD (y0, (y1, y2)) (List.take ((Int.toNat y4) - 0) (List.drop 0 y3))).1 (List.take ((Int.toNat (((List.length y3) : Nat) : Int)) - (Int.toNat y4)) (List.drop (Int.toNat y4) y3))).1 = (movesD (y0, (y1, y2)) y3).1)))), [])
                    else none)
                   else K ((.s (.bool false)), []))
                  else K ((.s (.bool false)), []))
                 else none)))
               else none))
             else none)
            else none))
           ((bif ((fitC (Cc.sl editR) (List.take ((Int.toNat y4) - 0) (List.drop 0 y3))) && (Nat.ble (List.length y2) 1048576)) then
            (bif (Nat.ble (List.length (movesD (y0, (y1, y2)) (List.take ((Int.toNat y4) - 0) (List.drop 0 y3))).1.2.2) 1048576) then
             (bif (!(moveD (movesD (y0, (y1, y2)) (List.take ((Int.toNat y4) - 0) (List.drop 0 y3))).1 ((0 : Int), ((0 : Int), ([] : List Int)))).2) then
              (bif (movesD (y0, (y1, y2)) (List.take ((Int.toNat y4) - 0) (List.drop 0 y3))).2 then
               (bif (y4 == (((List.length y3) : Nat) : Int)) then
                (bif ((fitB (movesD (y0, (y1, y2)) (List.take ((Int.toNat y4) - 0) (List.drop 0 y3))).1.2.2) && (fitB (movesD (y0, (y1, y2)) y3).1.2.2)) then
                 K ((.s (.bool (decide ((movesD (y0, (y1, y2)) (List.take ((Int.toNat y4) - 0) (List.drop 0 y3))).1 = (movesD (y0, (y1, y2)) y3).1)))), [])
                 else none)
                else K ((.s (.bool false)), []))
               else K ((.s (.bool false)), []))
              else (bif ((decide ((0 : Int) ≤ y4)) && (decide (y4 ≤ (((List.length y3) : Nat) : Int)))) then
               (meet
                ((bif ((fitC (Cc.sl editR) (List.take ((Int.toNat (((List.length y3) : Nat) : Int)) - (Int.toNat y4)) (List.drop (Int.toNat y4) y3))) && (Nat.ble (List.length (movesD (y0, (y1, y2)) (List.take ((Int.toNat y4) - 0) (List.drop 0 y3))).1.2.2) 1048576)) then
                 (bif (movesD (y0, (y1, y2)) (List.take ((Int.toNat y4) - 0) (List.drop 0 y3))).2 then
                  (bif (movesD (movesD (y0, (y1, y2)) (List.take ((Int.toNat y4) - 0) (List.drop 0 y3))).1 (List.take ((Int.toNat (((List.length y3) : Nat) : Int)) - (Int.toNat y4)) (List.drop (Int.toNat y4) y3))).2 then
                   (bif ((fitB (movesD (movesD (y0, (y1, y2)) (List.take ((Int.toNat y4) - 0) (List.drop 0 y3))).1 (List.take ((Int.toNat (((List.length y3) : Nat) : Int)) - (Int.toNat y4)) (List.drop (Int.toNat y4) y3))).1.2.2) && (fitB (movesD (y0, (y1, y2)) y3).1.2.2)) then
                    K ((.s (.bool (decide ((movesD (movesD (y0, (y1, y2)) (List.take ((Int.toNat y4) - 0) (List.drop 0 y3))).1 (List.take ((Int.toNat (((List.length y3) : Nat) : Int)) - (Int.toNat y4)) (List.drop (Int.toNat y4) y3))).1 = (movesD (y0, (y1, y2)) y3).1)))), [])
                    else none)
                   else K ((.s (.bool false)), []))
                  else K ((.s (.bool false)), []))
                 else none))
                ((bif ((fitC (Cc.sl editR) (List.take ((Int.toNat (((List.length y3) : Nat) : Int)) - (Int.toNat y4)) (List.drop (Int.toNat y4) y3))) && (Nat.ble (List.length (movesD (y0, (y1, y2)) (List.take ((Int.toNat y4) - 0) (List.drop 0 y3))).1.2.2) 1048576)) then
                 (bif (movesD (y0, (y1, y2)) (List.take ((Int.toNat y4) - 0) (List.drop 0 y3))).2 then
                  (bif (movesD (movesD (y0, (y1, y2)) (List.take ((Int.toNat y4) - 0) (List.drop 0 y3))).1 (List.take ((Int.toNat (((List.length y3) : Nat) : Int)) - (Int.toNat y4)) (List.drop (Int.toNat y4) y3))).2 then
                   (bif ((fitB (movesD (movesD (y0, (y1, y2)) (List.take ((Int.toNat y4) - 0) (List.drop 0 y3))).1 (List.take ((Int.toNat (((List.length y3) : Nat) : Int)) - (Int.toNat y4)) (List.drop (Int.toNat y4) y3))).1.2.2) && (fitB (movesD (y0, (y1, y2)) y3).1.2.2)) then
                    K ((.s (.bool (decide ((movesD (movesD (y0, (y1, y2)) (List.take ((Int.toNat y4) - 0) (List.drop 0 y3))).1 (List.take ((Int.toNat (((List.length y3) : Nat) : Int)) - (Int.toNat y4)) (List.drop (Int.toNat y4) y3))).1 = (movesD (y0, (y1, y2)) y3).1)))), [])
                    else none)
                   else K ((.s (.bool false)), []))
                  else K ((.s (.bool false)), []))
                 else none)))
               else none))
             else none)
            else none)))
          else none)))))
      else none))
    else none)
   else none))))
theorem e_l_FnEditMoves (code : List Int) (K : Ret → Option Ret) : evF E_l_FnEditMoves true F.l_FnEditMoves [.l .no bytesR code] K = T_l_FnEditMoves code K := by kernel_rfl
theorem movesL_app : ∀ (l1 l2 : List T_Edit) (e : T_Edit), movesL (l1 ++ l2) e = bif (movesL l1 e).2 then movesL l2 (movesL l1 e).1 else badE
  | [], l2, e => rfl
  | b :: l1, l2, e => by
    simp only [List.cons_append, movesL]
    cases (smallE e && smallE b) with
    | false => rfl
    | true => exact movesL_app l1 l2 _
theorem moves_split {e : T_Edit} {l : List T_Edit} (k : Nat) (h : (movesD e l).2 = true) : (movesD e (l.take k)).2 = true ∧ (smallE (movesD e (l.take k)).1 = false → l.drop k = [] ∧ (movesD e (l.take k)).1 = (movesD e l).1) ∧ (smallE (movesD e (l.take k)).1 = true → movesD (movesD e (l.take k)).1 (l.drop k) = movesD e l) := by
  unfold movesD at h ⊢
  cases hs : smallE e with
  | false => rw [hs] at h; cases h
  | true =>
    rw [hs] at h
    simp only [cond_true] at h ⊢
    have e1 := movesL_app (l.take k) (l.drop k) e
    rw [List.take_append_drop] at e1
    cases h1 : (movesL (l.take k) e).2 with
    | false => rw [h1] at e1; rw [e1] at h; cases h
    | true =>
      rw [h1, cond_true] at e1
      refine ⟨rfl, fun hn => ?_, fun hn => ?_⟩
      · cases hd : l.drop k with
        | nil =>
          rw [hd] at e1
          exact ⟨rfl, by rw [e1]; rfl⟩
        | cons b r =>
          rw [hd] at e1
          simp only [movesL, hn] at e1
          rw [e1] at h; cases h
      · rw [hn, cond_true, e1]
theorem moves_fit {e : T_Edit} {l : List T_Edit} (h : fitB e.2.2 = true) : fitB (movesD e l).1.2.2 = true := by
  have key : ∀ (l : List T_Edit) (e : T_Edit), fitB e.2.2 = true → fitB (movesL l e).1.2.2 = true := by
    intro l
    induction l with
    | nil => intro e h; exact h
    | cons b l ih =>
      intro e h
      simp only [movesL]
      cases (smallE e && smallE b) with
      | false => rfl
      | true => exact ih _ h
  unfold movesD
  cases smallE e with
  | false => rfl
  | true => exact key l e h
def S_l_FnEditMoves : Sm := S_fnR [.l bytesR] (fun d => d.1.all isB) (fun d => (bl true, []))
theorem v_l_FnEditMoves (code : List Int) (h : (code.all isB) = true) (K : Ret → Option Ret) : T_l_FnEditMoves code K = K (bl true, []) := by
  unfold T_l_FnEditMoves
  by_cases hc : ((code.length : Nat) : Int) > 1048576
  · rw [decide_eq_true hc]; rfl
  have hf : fitB code = true := by unfold fitB; rw [Bool.and_eq_true]; exact ⟨Nat.ble_eq_true_of_le (by omega), h⟩
  rw [decide_eq_false hc]
  obtain ⟨u, v, t, l, ⟨⟨ht1, ht2⟩, hl1, hl2⟩, hk⟩ := b_s_DrawEditMoves code hf
  rw [cond_false, hk]
  obtain ⟨e, he⟩ : ∃ e : T_Edit, e = (u, (v, t)) := ⟨_, rfl⟩
  have ht : fitB e.2.2 = true := by rw [he]; exact ht1
  have hb : Nat.ble (List.length t) 1048576 = true := Nat.ble_eq_true_of_le (by omega)
  have hfit : ∀ l', fitB (movesD e l').1.2.2 = true := fun l' => moves_fit ht
  rw [← he, hl1, hb]
  simp only [hfit, Bool.and_self, cond_true, beq_self_eq_true, Bool.not_true, cond_false, decide_true]
  cases hm : (movesD e l).2 with
  | false => rfl
  | true =>
    simp only [Bool.not_true, cond_false]
    obtain ⟨y, hy, hyk⟩ := b_l_pick code 3 (IntKind.wrap .i64 ((((List.length l) : Nat) : Int) + (1 : Int))) (by rw [hf]; rfl)
    rw [wrap_in (by omega) (by omega)] at hy hyk ⊢
    rw [hyk]
    obtain ⟨k, rfl⟩ : ∃ k : Nat, y = k := ⟨y.toNat, by omega⟩
    have e1 : List.take ((Int.toNat (k : Int)) - 0) (List.drop 0 l) = l.take k := by simp
    have e2 : List.take ((Int.toNat (((List.length l) : Nat) : Int)) - (Int.toNat (k : Int))) (List.drop (Int.toNat (k : Int)) l) = l.drop k := by
      rw [Int.toNat_natCast, Int.toNat_natCast]
      exact List.take_of_length_le (by simp)
    obtain ⟨s1, s2, s3⟩ := moves_split k hm
    simp only [e1, e2, meet_self, hfit, fitC_take hl1, fitC_drop hl1, Nat.ble_eq_true_of_le (fitB_len (hfit (l.take k))), Bool.and_self, cond_true, s1]
    rw [decide_eq_true (show (0 : Int) ≤ (k : Int) by omega), decide_eq_true (show (k : Int) ≤ ((l.length : Nat) : Int) by omega)]
    have hz : (moveD (movesD e (l.take k)).1 ((0 : Int), ((0 : Int), ([] : List Int)))).2 = smallE (movesD e (l.take k)).1 := by
      unfold moveD
      rw [show smallE ((0 : Int), ((0 : Int), ([] : List Int))) = true from rfl, Bool.and_true]
      cases smallE (movesD e (l.take k)).1 <;> rfl
    rw [hz]
    cases hs : smallE (movesD e (l.take k)).1 with
    | false =>
      obtain ⟨q1, q2⟩ := s2 hs
      have hkl : (k : Int) = ((l.length : Nat) : Int) := by
        have := List.drop_eq_nil_iff.1 q1
        omega
      rw [q2, hkl, beq_self_eq_true, decide_eq_true rfl]
      rfl
    | true =>
      have q := s3 hs
      have hm2 : (movesD (movesD e (l.take k)).1 (l.drop k)).2 = true := by rw [q]; exact hm
      rw [q, hm, hfit, decide_eq_true rfl]
      rfl
theorem okS_l_FnEditMoves : OkFn prog I N.l_FnEditMoves true S_l_FnEditMoves := okN (ok_fn (memc okS_l_big (memc okS_s_DrawEditMoves (memc okS_s_EditMoves (memc okS_i_EditMoves (memc okS_l_sameEdit (memc okS_l_pick (memc okS_s_EditMove mem0))))))) (l := [(N.l_big, true, S_l_big), (N.s_DrawEditMoves, false, (SB_s_DrawEditMoves B_s_DrawEditMoves)), (N.s_EditMoves, true, S_s_EditMoves), (N.i_EditMoves, true, S_i_EditMoves), (N.l_sameEdit, true, S_l_sameEdit), (N.l_pick, true, (SB_l_pick B_l_pick)), (N.s_EditMove, true, S_s_EditMove)]) (p := [(9, takeB [0, 1, 2, 3] (.fork (.more 4 (takeB [5, 6, 7] (.fork (.one 8 (.fork (.one 9 (takes [10])))))) (.one 8 (.fork (.one 4 (takeB [5, 6, 7] (.fork (.one 9 (takes [10]))))))))), []), (13, takeB [0, 1, 2, 3] (.fork (.more 4 (takeB [5, 6, 7] (.fork (.one 8 (.fork (.one 9 (takes [10])))))) (.one 8 (.fork (.one 4 (takeB [5, 6, 7] (.fork (.one 9 (takes [10]))))))))), [])]) (ls := []) (lend := []) (focus := false) (fuel := 0) (give := []) (fn := F.l_FnEditMoves) (by kernel_rfl) (by kernel_rfl) (by kernel_rfl) (by kernel_rfl) (cs := []) (by kernel_rfl) loops0) (S_fnR_of fun d K h => (e_l_FnEditMoves d.1 K).trans (v_l_FnEditMoves d.1 h K))
end Go.Ev.Seat
end
section
/- The law FnEditMoves: it answers true. Printed by lawrand.py. -/
namespace Go.Ev.Seat
open Go.RowKit
set_option linter.unusedVariables false
theorem ok_EditMoves (T : MText) : OkFn prog I N.l_FnEditMoves true S_l_FnEditMoves := okS_l_FnEditMoves
theorem law_EditMoves (T : MText) (code : List Int) (K : Ret → Option Ret) (hwf : (Cc.sl bytesR).wf code) : S_l_FnEditMoves [.l .no bytesR code] K = K (bl true, []) := by
  have hb : code.all isB = true := List.all_eq_true.2 (fun x hx => fitR_of bytesR x (hwf.2 x hx) rfl)
  show (bif code.all isB then K (bl true, []) else none) = _
  rw [hb]; rfl
end Go.Ev.Seat
end
section
/- Kinds of types that come in, checked by reckoning. -/
set_option linter.unusedVariables false
namespace Go.Ev
open Go.RowKit
mutual
def ccN (P : Program) : Nat → Cc → TypeId → Bool
  | 0, _, _ => false
  | n + 1, c, t => match c, P.underlying t with
    | .int k, some (.int k') => decide (k' = k)
    | .bool, some .bool => true
    | .str, some .string => true
    | .sl r, some (.slice e) => Nat.beq (P.cellsOf e) r.n && (match layN P n r.list e with
      | some [] => true
      | _ => false)
    | _, _ => false
/-- The cells of a type, taken off a list: what is left. -/
def layN (P : Program) : Nat → List Cc → TypeId → Option (List Cc)
  | 0, _, _ => none
  | n + 1, cs, t => match cs with
    | [] => none
    | c :: rest => bif ccN P n c t then some rest else match P.underlying t with
      | some (.struct fs) => fsN P n (c :: rest) 0 fs.toList
      | _ => none
def fsN (P : Program) : Nat → List Cc → Nat → List Field → Option (List Cc)
  | 0, _, _, _ => none
  | n + 1, cs, i, fs => match fs with
    | [] => some cs
    | f :: rest => bif Nat.beq f.offset i then (match layN P n cs f.type with
      | some cs' => bif Nat.beq (P.cellsOf f.type + cs'.length) cs.length then fsN P n cs' (i + P.cellsOf f.type) rest else none
      | none => none) else none
end
theorem kinds_ok {P : Program} : ∀ (n : Nat), (∀ c t, ccN P n c t = true → CcOk P c t) ∧ (∀ cs t rest, layN P n cs t = some rest → ∃ pre, cs = pre ++ rest ∧ LayOk P pre t) ∧ ∀ cs i fs rest, fsN P n cs i fs = some rest → ∃ pre, cs = pre ++ rest ∧ LayFs P pre i fs
  | 0 => ⟨fun _ _ h => by simp [ccN] at h, fun _ _ _ h => by simp [layN] at h, fun _ _ _ _ h => by simp [fsN] at h⟩
  | n + 1 => by
    obtain ⟨h1, h2, h3⟩ := kinds_ok (P := P) n
    refine ⟨fun c t h => ?_, fun cs t rest h => ?_, fun cs i fs rest h => ?_⟩
    · simp only [ccN] at h
      split at h
      · rename_i k k' hu
        have := of_decide_eq_true h
        subst this
        exact .int hu
      · rename_i hu; exact .bool hu
      · rename_i hu; exact .str hu
      · rename_i r e hu
        simp only [Bool.and_eq_true] at h
        obtain ⟨g1, g2⟩ := h
        split at g2
        · rename_i hl
          obtain ⟨pre, e1, e2⟩ := h2 _ _ _ hl
          rw [List.append_nil] at e1
          exact .sl hu (Nat.eq_of_beq_eq_true g1) (e1 ▸ e2)
        · cases g2
      · cases h
    · simp only [layN] at h
      split at h
      · cases h
      · rename_i c rest'
        cases hc : ccN P n c t with
        | true =>
          rw [hc] at h
          cases h
          exact ⟨[c], rfl, .one (h1 _ _ hc)⟩
        | false =>
          rw [hc] at h
          simp only [cond_false] at h
          split at h
          · rename_i fs hu
            obtain ⟨pre, e1, e2⟩ := h3 _ _ _ _ h
            exact ⟨pre, e1, .st hu e2⟩
          · cases h
    · simp only [fsN] at h
      split at h
      · cases h
        exact ⟨[], rfl, .nil⟩
      · rename_i f rest'
        cases ho : Nat.beq f.offset i with
        | false => rw [ho] at h; cases h
        | true =>
          rw [ho] at h
          simp only [cond_true] at h
          split at h
          · rename_i cs' hl
            obtain ⟨pre, e1, e2⟩ := h2 _ _ _ hl
            cases hb : Nat.beq (P.cellsOf f.type + cs'.length) cs.length with
            | false => rw [hb] at h; cases h
            | true =>
              rw [hb] at h
              simp only [cond_true] at h
              have hlen := Nat.eq_of_beq_eq_true hb
              have hp : P.cellsOf f.type = pre.length := by rw [e1, List.length_append] at hlen; omega
              obtain ⟨pre2, e3, e4⟩ := h3 _ _ _ _ h
              rw [hp] at e4
              refine ⟨pre ++ pre2, by rw [e1, e3, List.append_assoc], .cons (Nat.eq_of_beq_eq_true ho) hp e2 e4⟩
          · cases h
def ccB (P : Program) (c : Cc) (t : TypeId) : Bool := ccN P 100 c t
def rwB (P : Program) (r : Rw) (t : TypeId) : Bool := match layN P 100 r.list t with
  | some [] => true
  | _ => false
theorem ccB_ok {P : Program} (c : Cc) {t : TypeId} (h : ccB P c t = true) : CcOk P c t := (kinds_ok 100).1 c t h
theorem rwB_ok {P : Program} (r : Rw) {t : TypeId} (h : rwB P r t = true) : RwOk P r t := by
  unfold rwB at h
  split at h
  · rename_i hl
    obtain ⟨pre, e1, e2⟩ := (kinds_ok 100).2.1 _ _ _ hl
    rw [List.append_nil] at e1
    show LayOk P r.list t
    rw [e1]; exact e2
  · cases h
end Go.Ev
end
section
/- An argument of one cell. -/
set_option linter.unusedVariables false
namespace Go.Ev
theorem cells_one {P : Program} {W : World} {r : Reach} {base : Nat} {c : Cc} {t : TypeId} {v : Value} (h : CcOk P c t) (ok : Value.okWide P W r base t v) : v.cells.toList = [v] := by
  cases v with
  | agg cs =>
    exfalso
    unfold Value.okWide at ok
    cases h with
    | int h => rw [h] at ok; simp [Cell.okWide, Cell.ok, h] at ok
    | bool h => rw [h] at ok; simp [Cell.okWide, Cell.ok, h] at ok
    | str h => rw [h] at ok; simp [Cell.okWide, Cell.ok, h] at ok
    | sl h _ _ => rw [h] at ok; simp [Cell.okWide, Cell.ok, h] at ok
  | _ => rfl
end Go.Ev
end
