/- Edits moved by many. -/
import Derived.Test.YtfgnddgckhpbiaaEvMove
namespace Go.Ev
def scanL {σ α : Type} (g : σ → α → σ × Bool) : σ → List α → σ × Bool
  | s, [] => (s, true)
  | s, x :: xs => bif (g s x).2 then scanL g (g s x).1 xs else (s, false)
theorem loop_scan {σ α ρ : Type} {g : σ → α → σ × Bool} {R : Nat → Int → σ → ρ} {kt kf : σ → ρ} {xs : List α} {z : α}
    (hs : ∀ m (i : Nat) s, i < xs.length → R (m + 1) i s = bif (g s (xs.getD i z)).2 then R m ((i + 1 : Nat) : Int) (g s (xs.getD i z)).1 else kf s)
    (he : ∀ m s, R (m + 1) (xs.length : Nat) s = kt s) (s : σ) : R (xs.length + 1) 0 s = bif (scanL g s xs).2 then kt (scanL g s xs).1 else kf (scanL g s xs).1 := by
  have key : ∀ (j i : Nat) (s : σ), i + j = xs.length → R (j + 1) i s = bif (scanL g s (xs.drop i)).2 then kt (scanL g s (xs.drop i)).1 else kf (scanL g s (xs.drop i)).1 := by
    intro j
    induction j with
    | zero =>
      intro i s hi
      have : i = xs.length := by omega
      subst this
      rw [he 0 s, List.drop_length]; rfl
    | succ j ih =>
      intro i s hi
      have hlt : i < xs.length := by omega
      have hx : xs.getD i z = xs[i] := by rw [List.getD_eq_getElem?_getD, List.getElem?_eq_getElem hlt]; rfl
      rw [hs _ i s hlt, List.drop_eq_getElem_cons hlt, hx]
      simp only [scanL]
      cases h : (g s xs[i]).2 with
      | true => rw [cond_true, ih (i + 1) _ (by omega)]; rfl
      | false => rfl
  have := key xs.length 0 s (by omega)
  simpa using this
end Go.Ev
namespace Go.Ev.Seat
open Go.RowKit
set_option maxRecDepth 100000
set_option linter.unusedVariables false
variable {I : Nat → World → Prop}
def movesD (e : T_Edit) (l : List T_Edit) : T_Edit × Bool := bif smallE e then (bif (scanL moveD e l).2 then ((scanL moveD e l).1, true) else badE) else badE
def preL (l : List T_Edit) : Bool := Nat.ble l.length 4611686018427387904
def S_moves : Sm := S_fn [.a editR, .l editR] (fun d => preL d.2.1) (fun d => eb editR (movesD d.1 d.2.1))
theorem moveD_ok (a b : T_Edit) : (moveD a b).2 = (smallE a && smallE b) := by
  unfold moveD
  cases smallE a <;> cases smallE b <;> rfl
-- spec.EditMoves
def sh_sMs : Ss := { tm := (.cons (.x) (.cons (.l .no editR) (.cons (.x) (.cons (.x) (.cons (.pb 0 0) (.cons (.x) (.cons (.pb 1 0) (.cons (.int .i64) (xsh 35))))))))), ob := (.box (.cons (.int .i64) (.cons (.int .i64) (.cons (.nl) .nil))) (.box (.cons (.int .i64) (.cons (.int .i64) (.cons (.w 2) .nil))) (.arr true true bytesR .nil))), nx := 3, io := .nil }
def d_sMs (x1 : List T_Edit) (x7 : Int) (b00 : Int) (b01 : Int) (e : T_Edit) : sh_sMs.T := (((), (x1, ((), ((), ((), ((), ((), (x7, xd 35)))))))), ((b00, (b01, ((), ()))), ((e.1, (e.2.1, ((), ()))), (e.2.2, ()))), ())
def y_sMs (e : T_Edit) : St := { tm := ([.x, .x, .x, .x, (.pb 0 0), (.s (.bool false)), (.pb 1 0)] ++ List.replicate 36 .x), ob := [(0, (.box [(.s (.int .i64 (0 : Int))), (.s (.int .i64 (0 : Int))), .nl])), ((0 + 1), (.box [(.s (.int .i64 e.1)), (.s (.int .i64 e.2.1)), (.w 2)])), (((0 + 1) + 1), (.arr true true bytesR e.2.2))], nx := 3, io := [] }
def z_sMs (b00 b01 : Int) (e : T_Edit) : St := { tm := ([.x, .x, .x, .x, (.pb 0 0), .x, (.pb 1 0)] ++ List.replicate 36 .x), ob := [(0, (.box [(.s (.int .i64 b00)), (.s (.int .i64 b01)), .nl])), ((0 + 1), (.box [(.s (.int .i64 e.1)), (.s (.int .i64 e.2.1)), (.w 2)])), (((0 + 1) + 1), (.arr true true bytesR e.2.2))], nx := 3, io := [] }
noncomputable def R_sMs (d : sh_sMs.T) (K : Ex → St → Option Ret) : Option Ret := match d with
  | ((_, (x1, (_, (_, (_, (_, (_, (x7, _)))))))), ((b00, (b01, _)), ((b10, (b11, _)), (o2, _))), _) => bif (x7 == 0) && preL x1 then (bif (scanL moveD (b10, b11, o2) x1).2 then K (.ext 0) (z_sMs b00 b01 (scanL moveD (b10, b11, o2) x1).1) else K .ret (y_sMs (scanL moveD (b10, b11, o2) x1).1)) else none
noncomputable abbrev ls_sMs : List (Nat × Bool × Sm) := [(N.s_l05Small, true, S_smallE), (N.s_EditMove, true, S_move)]
noncomputable abbrev pl_sMs : List (Nat × Plan × List Nat) := [(3, takeB [0, 1, 2, 3, 5, 6] (.fork (.more 4 (.fork (.more 7 (takeB [8] (.fork (.one 9 (.fork (.one 10 (.done)))))) (.one 9 (.fork (.one 7 (takeB [8] (.fork (.one 10 (.done))))))))) (.one 9 (.fork (.one 4 (.fork (.one 7 (takeB [8] (.fork (.one 10 (.done))))))))))), []), (7, takeB [0, 1, 2, 3, 4] (.fork (.more 5 (takeB [6, 7, 8] (.fork (.one 9 (.fork (.one 10 (takes [11])))))) (.one 9 (.fork (.one 5 (takeB [6, 7, 8] (.fork (.one 10 (takes [11]))))))))), [])]
noncomputable abbrev lo_sMs : List (Nat × List Nat × List Nat × LoopFn) := [(5, [1,4,6,7], [4,5,6], loopF sh_sMs R_sMs)]
noncomputable abbrev L_sMs (n : Nat) (x1 : List T_Edit) (x7 b00 b01 : Int) (e : T_Edit) (K : Ex → St → Option Ret) : Option Ret := rounds (run (En ls_sMs pl_sMs lo_sMs) (bodyOf F.s_EditMoves 5)) [1,4,6,7] [4,5,6] n (sh_sMs.mk' (d_sMs x1 x7 b00 b01 e)) K
theorem step_sMs (n : Nat) (x1 : List T_Edit) (x7 : Int) (b00 : Int) (b01 : Int) (e : T_Edit) (K : Ex → St → Option Ret) : L_sMs (n + 1) x1 x7 b00 b01 e K =
 (bif decide (x7 < (((List.length x1) : Nat) : Int)) then
 (bif (decide ((0 : Int) ≤ x7) && decide (x7 < (((List.length x1) : Nat) : Int))) then
  (meet
   (bif (!(moveD e (List.getD x1 (Int.toNat x7) (editR.dflt))).2) then
    K .ret (y_sMs e)
    else L_sMs n x1 (IntKind.wrap .i64 (x7 + (1 : Int))) b00 b01 (moveD e (List.getD x1 (Int.toNat x7) (editR.dflt))).1 K)
   (bif (!(moveD e (List.getD x1 (Int.toNat x7) (editR.dflt))).2) then
    K .ret (y_sMs e)
    else L_sMs n x1 (IntKind.wrap .i64 (x7 + (1 : Int))) b00 b01 (moveD e (List.getD x1 (Int.toNat x7) (editR.dflt))).1 K))
  else none)
 else K (.ext 0) (z_sMs b00 b01 e)) := by kernel_rfl
theorem go_sMs (x1 : List T_Edit) (b00 b01 : Int) (e : T_Edit) (K : Ex → St → Option Ret) (h : preL x1 = true) : L_sMs (x1.length + 1) x1 0 b00 b01 e K = bif (scanL moveD e x1).2 then K (.ext 0) (z_sMs b00 b01 (scanL moveD e x1).1) else K .ret (y_sMs (scanL moveD e x1).1) :=
  loop_scan (g := moveD) (R := fun n i s => L_sMs n x1 i b00 b01 s K) (kt := fun s => K (.ext 0) (z_sMs b00 b01 s)) (kf := fun s => K .ret (y_sMs s)) (z := editR.dflt) (fun m i s hi => by
    have h3 : x1.length ≤ 4611686018427387904 := Nat.le_of_ble_eq_true h
    refine (step_sMs m x1 i b00 b01 s K).trans ?_
    rw [decide_eq_true (show ((i : Nat) : Int) < ((x1.length : Nat) : Int) by omega), decide_eq_true (show (0 : Int) ≤ ((i : Nat) : Int) by omega), wrap_nat (show i ≤ 4611686018427387904 by omega), Int.toNat_natCast]
    refine lw_meet ?_ ?_ <;> (cases (moveD s (x1.getD i editR.dflt)).2 <;> rfl)) (fun m s => by
    refine (step_sMs m x1 _ b00 b01 s K).trans ?_
    rw [decide_eq_false (show ¬ ((x1.length : Nat) : Int) < ((x1.length : Nat) : Int) by omega)]; rfl) e
theorem loop_sMs : LoopOk (En ls_sMs pl_sMs lo_sMs) (bodyOf F.s_EditMoves 5) := by
  refine loopF_ok (n := 5) (sh := sh_sMs) (R := R_sMs) (by kernel_rfl) rfl rfl (fun d K r hr => ?_)
  obtain ⟨⟨u0, x1, u1, u2, u3, u4, u5, x7, u6⟩, ⟨⟨b00, b01, u7⟩, ⟨b10, b11, u8⟩, o2, u9⟩, u10⟩ := d
  unfold R_sMs at hr
  simp only at hr
  cases hc : ((x7 == 0) && preL x1) with
  | false => rw [hc] at hr; cases hr
  | true =>
    rw [hc] at hr
    simp only [Bool.and_eq_true, beq_iff_eq] at hc
    obtain ⟨rfl, h3⟩ := hc
    exact ⟨x1.length + 1, (go_sMs x1 b00 b01 (b10, b11, o2) K h3).trans hr⟩
theorem ev_sMs (e : T_Edit) (l : List T_Edit) (K : Ret → Option Ret) (h : preL l = true) : evF (En ls_sMs pl_sMs lo_sMs) true F.s_EditMoves [.a (editR.cells .no e), .l .no editR l] K = K (eb editR (movesD e l), []) := by
  have eTr : evF (En ls_sMs pl_sMs lo_sMs) true F.s_EditMoves [.a (editR.cells .no e), .l .no editR l] K =
   (bif (!(smallE e)) then K (eb editR badE, [])
    else (meet
     (meet
      (bif (Nat.ble (((List.length ([] : List Int)) + (List.length e.2.2)) * 1) 140737488355328) then
       (bif ((0 : Int) == 0) && preL l then (bif (scanL moveD (e.1, e.2.1, [] ++ e.2.2) l).2 then K (eb editR ((scanL moveD (e.1, e.2.1, [] ++ e.2.2) l).1, true), []) else K (eb editR badE, [])) else none)
       else none)
      (bif (Nat.ble (((List.length ([] : List Int)) + (List.length e.2.2)) * 1) 140737488355328) then
       (bif ((0 : Int) == 0) && preL l then (bif (scanL moveD (e.1, e.2.1, [] ++ e.2.2) l).2 then K (eb editR ((scanL moveD (e.1, e.2.1, [] ++ e.2.2) l).1, true), []) else K (eb editR badE, [])) else none)
       else none))
     (bif (Nat.ble (((List.length ([] : List Int)) + (List.length e.2.2)) * 1) 140737488355328) then
      (bif ((0 : Int) == 0) && preL l then (bif (scanL moveD (e.1, e.2.1, [] ++ e.2.2) l).2 then K (eb editR ((scanL moveD (e.1, e.2.1, [] ++ e.2.2) l).1, true), []) else K (eb editR badE, [])) else none)
      else none))) := by kernel_rfl
  refine eTr.trans ?_
  unfold movesD
  cases he : smallE e with
  | false => rfl
  | true =>
  obtain ⟨a1, a2, a3, a4, a5⟩ := small_iff he
  rw [Nat.ble_eq_true_of_le (show (([] : List Int).length + List.length e.2.2) * 1 ≤ 140737488355328 by simp only [List.length_nil]; omega), h]
  have key : (bif (scanL moveD (e.1, e.2.1, [] ++ e.2.2) l).2 then K (eb editR ((scanL moveD (e.1, e.2.1, [] ++ e.2.2) l).1, true), []) else K (eb editR badE, [])) = K (eb editR (bif (scanL moveD e l).2 then ((scanL moveD e l).1, true) else badE), []) := by
    show (bif (scanL moveD e l).2 then K (eb editR ((scanL moveD e l).1, true), []) else K (eb editR badE, [])) = _
    cases (scanL moveD e l).2 <;> rfl
  exact lw_meet (lw_meet key key) key
theorem okS_sMoves : OkFn prog I N.s_EditMoves true S_moves := okW (ok_fn (memc okS_l05Small (memc okS_sMove mem0)) (l := ls_sMs) (p := pl_sMs) (ls := lo_sMs) (lend := []) (focus := false) (fuel := 0) (fn := F.s_EditMoves) (by kernel_rfl) (by kernel_rfl) (by kernel_rfl) (by kernel_rfl) (cs := [bodyOf F.s_EditMoves 5]) (by kernel_rfl) (loopsc loop_sMs loops0)) (S_fn_of fun d K h => ev_sMs d.1 d.2.1 K h)
-- impl.EditMoves
def sh_iMs : Ss := { tm := (.cons (.x) (.cons (.l .no editR) (.cons (.pb 0 0) (.cons (.x) (.cons (.pb 1 0) (.cons (.x) (.cons (.x) (.cons (.x) (.cons (.l .no editR) (.cons (.int .i64) (.cons (.int .i64) (xsh 27)))))))))))), ob := (.box (.cons (.int .i64) (.cons (.int .i64) (.cons (.l .no bytesR) .nil))) (.box (.cons (.int .i64) (.cons (.int .i64) (.cons (.nl) .nil))) .nil)), nx := 2, io := .nil }
def d_iMs (x1 x8 : List T_Edit) (x9 : Int) (x10 : Int) (e : T_Edit) (b10 : Int) (b11 : Int) : sh_iMs.T := (((), (x1, ((), ((), ((), ((), ((), ((), (x8, (x9, (x10, xd 27))))))))))), ((e.1, (e.2.1, (e.2.2, ()))), ((b10, (b11, ((), ()))), ())), ())
def y_iMs (x1 : List T_Edit) (e : T_Edit) : St := { tm := ([.x, (.l .no editR x1), (.pb 0 0), .x, (.pb 1 0), (.s (.bool false))] ++ List.replicate 32 .x), ob := [(0, (.box [(.s (.int .i64 e.1)), (.s (.int .i64 e.2.1)), (.l .no bytesR e.2.2)])), ((0 + 1), (.box [(.s (.int .i64 (0 : Int))), (.s (.int .i64 (0 : Int))), .nl]))], nx := 2, io := [] }
def z_iMs (x1 : List T_Edit) (e : T_Edit) (b10 b11 : Int) : St := { tm := ([.x, (.l .no editR x1), (.pb 0 0), .x, (.pb 1 0)] ++ List.replicate 33 .x), ob := [(0, (.box [(.s (.int .i64 e.1)), (.s (.int .i64 e.2.1)), (.l .no bytesR e.2.2)])), ((0 + 1), (.box [(.s (.int .i64 b10)), (.s (.int .i64 b11)), .nl]))], nx := 2, io := [] }
noncomputable def R_iMs (d : sh_iMs.T) (K : Ex → St → Option Ret) : Option Ret := match d with
  | ((_, (x1, (_, (_, (_, (_, (_, (_, (x8, (x9, (x10, _))))))))))), ((b00, (b01, (b02, _))), ((b10, (b11, _)), _)), _) => bif (x10 == 0) && (x9 == ((x8.length : Nat) : Int)) && preL x8 then (bif (scanL moveD (b00, b01, b02) x8).2 then K (.ext 0) (z_iMs x1 (scanL moveD (b00, b01, b02) x8).1 b10 b11) else K .ret (y_iMs x1 (scanL moveD (b00, b01, b02) x8).1)) else none
noncomputable abbrev ls_iMs : List (Nat × Bool × Sm) := [(N.i_Edit_isSmall, true, S_smallE), (N.i_Edit_moved, false, S_moved), (N.i_Edit_copied, true, S_copied)]
noncomputable abbrev lo_iMs : List (Nat × List Nat × List Nat × LoopFn) := [(2, [1,2,4,8,9,10], [1,2,4,5], loopF sh_iMs R_iMs)]
noncomputable abbrev L_iMs (n : Nat) (x1 x8 : List T_Edit) (x9 x10 : Int) (e : T_Edit) (b10 b11 : Int) (K : Ex → St → Option Ret) : Option Ret := rounds (run (En ls_iMs [] lo_iMs) (bodyOf F.i_EditMoves 2)) [1,2,4,8,9,10] [1,2,4,5] n (sh_iMs.mk' (d_iMs x1 x8 x9 x10 e b10 b11)) K
theorem step_iMs (n : Nat) (x1 x8 : List T_Edit) (x9 : Int) (x10 : Int) (e : T_Edit) (b10 : Int) (b11 : Int) (K : Ex → St → Option Ret) : L_iMs (n + 1) x1 x8 x9 x10 e b10 b11 K =
 (bif decide (x10 < x9) then
 (bif (decide ((0 : Int) ≤ x10) && decide (x10 < (((List.length x8) : Nat) : Int))) then
  (bif (!(smallE e)) then
   K .ret (y_iMs x1 e)
   else (bif (!(smallE (List.getD x8 (Int.toNat x10) (editR.dflt)))) then
    K .ret (y_iMs x1 e)
    else (bif ((smallE e) && (smallE (List.getD x8 (Int.toNat x10) (editR.dflt)))) then
     L_iMs n x1 x8 x9 (IntKind.wrap .i64 (x10 + (1 : Int))) (movedD e (List.getD x8 (Int.toNat x10) (editR.dflt))) b10 b11 K
     else none)))
  else none)
 else K (.ext 0) (z_iMs x1 e b10 b11)) := by kernel_rfl
theorem go_iMs (x1 x8 : List T_Edit) (e : T_Edit) (b10 b11 : Int) (K : Ex → St → Option Ret) (h : preL x8 = true) : L_iMs (x8.length + 1) x1 x8 ((x8.length : Nat) : Int) 0 e b10 b11 K = bif (scanL moveD e x8).2 then K (.ext 0) (z_iMs x1 (scanL moveD e x8).1 b10 b11) else K .ret (y_iMs x1 (scanL moveD e x8).1) :=
  loop_scan (g := moveD) (R := fun n i s => L_iMs n x1 x8 ((x8.length : Nat) : Int) i s b10 b11 K) (kt := fun s => K (.ext 0) (z_iMs x1 s b10 b11)) (kf := fun s => K .ret (y_iMs x1 s)) (z := editR.dflt) (fun m i s hi => by
    have h3 : x8.length ≤ 4611686018427387904 := Nat.le_of_ble_eq_true h
    refine (step_iMs m x1 x8 _ i s b10 b11 K).trans ?_
    rw [decide_eq_true (show ((i : Nat) : Int) < ((x8.length : Nat) : Int) by omega), decide_eq_true (show (0 : Int) ≤ ((i : Nat) : Int) by omega), wrap_nat (show i ≤ 4611686018427387904 by omega), Int.toNat_natCast]
    unfold moveD
    cases smallE s with
    | false => rfl
    | true => cases smallE (x8.getD i editR.dflt) <;> rfl) (fun m s => by
    refine (step_iMs m x1 x8 _ _ s b10 b11 K).trans ?_
    rw [decide_eq_false (show ¬ ((x8.length : Nat) : Int) < ((x8.length : Nat) : Int) by omega)]; rfl) e
theorem loop_iMs : LoopOk (En ls_iMs [] lo_iMs) (bodyOf F.i_EditMoves 2) := by
  refine loopF_ok (n := 2) (sh := sh_iMs) (R := R_iMs) (by kernel_rfl) rfl rfl (fun d K r hr => ?_)
  obtain ⟨⟨u0, x1, u1, u2, u3, u4, u5, u6, x8, x9, x10, u7⟩, ⟨⟨b00, b01, b02, u8⟩, ⟨b10, b11, u9⟩, u10⟩, u11⟩ := d
  unfold R_iMs at hr
  simp only at hr
  cases hc : ((x10 == 0) && (x9 == ((x8.length : Nat) : Int)) && preL x8) with
  | false => rw [hc] at hr; cases hr
  | true =>
    rw [hc] at hr
    simp only [Bool.and_eq_true, beq_iff_eq] at hc
    obtain ⟨⟨rfl, rfl⟩, h3⟩ := hc
    exact ⟨x8.length + 1, (go_iMs x1 x8 (b00, b01, b02) b10 b11 K h3).trans hr⟩
theorem lim_small {e : T_Edit} (h : List.length e.2.2 ≤ 400) : editR.lim e = true := Rw.lim_ok editR e (by have := editR_w e; omega)
theorem moveD_put (a b : T_Edit) (h : List.length a.2.2 ≤ 400) : List.length (moveD a b).1.2.2 ≤ 400 := by
  unfold moveD
  cases smallE a && smallE b with
  | false => exact Nat.zero_le _
  | true => exact h
theorem scan_put : ∀ (l : List T_Edit) (a : T_Edit), List.length a.2.2 ≤ 400 → List.length (scanL moveD a l).1.2.2 ≤ 400
  | [], a, h => h
  | b :: l, a, h => by
    simp only [scanL]
    cases (moveD a b).2 with
    | false => exact h
    | true => exact scan_put l _ (moveD_put a b h)
theorem ev_iMs (e : T_Edit) (l : List T_Edit) (K : Ret → Option Ret) (h : preL l = true) : evF (En ls_iMs [] lo_iMs) true F.i_EditMoves [.a (editR.cells .no e), .l .no editR l] K = K (eb editR (movesD e l), []) := by
  have eTr : evF (En ls_iMs [] lo_iMs) true F.i_EditMoves [.a (editR.cells .no e), .l .no editR l] K =
   (bif ((0 : Int) == 0) && (((List.length l : Nat) : Int) == ((List.length l : Nat) : Int)) && preL l then
    (bif (scanL moveD e l).2 then
     (bif (((List.length l : Nat) : Int) == 0) then
      (bif (!(smallE (scanL moveD e l).1)) then K (eb editR badE, [])
       else (bif editR.lim (scanL moveD e l).1 then K (eb editR ((scanL moveD e l).1, true), []) else none))
      else (bif editR.lim (scanL moveD e l).1 then K (eb editR ((scanL moveD e l).1, true), []) else none))
     else K (eb editR badE, []))
    else none) := by kernel_rfl
  refine eTr.trans ?_
  rw [h, beq_self_eq_true, beq_self_eq_true]
  unfold movesD
  cases l with
  | nil =>
    show (bif (!(smallE e)) then K (eb editR badE, []) else (bif editR.lim e then K (eb editR (e, true), []) else none)) = K (eb editR (bif smallE e then (e, true) else badE), [])
    cases he : smallE e with
    | false => rfl
    | true =>
      obtain ⟨a1, a2, a3, a4, a5⟩ := small_iff he
      rw [lim_small (by omega)]; rfl
  | cons b l =>
    have hn : (((List.length (b :: l) : Nat) : Int) == 0) = false := by simp; omega
    rw [hn]
    cases he : smallE e with
    | false =>
      have : (scanL moveD e (b :: l)).2 = false := by
        simp only [scanL]
        rw [moveD_ok, he]; rfl
      rw [this]; rfl
    | true =>
      obtain ⟨a1, a2, a3, a4, a5⟩ := small_iff he
      have hl := lim_small (scan_put (b :: l) e (by omega))
      rw [hl]
      show (bif (scanL moveD e (b :: l)).2 then K (eb editR ((scanL moveD e (b :: l)).1, true), []) else K (eb editR badE, [])) = K (eb editR (bif (scanL moveD e (b :: l)).2 then ((scanL moveD e (b :: l)).1, true) else badE), [])
      cases (scanL moveD e (b :: l)).2 <;> rfl
theorem okS_iMoves : OkFn prog I N.i_EditMoves true S_moves := okW (ok_fn (memc okS_isSmall (memc okS_iMoved (memc okS_iCopied mem0))) (l := ls_iMs) (p := []) (ls := lo_iMs) (lend := []) (focus := false) (fuel := 0) (fn := F.i_EditMoves) (by kernel_rfl) (by kernel_rfl) (by kernel_rfl) (by kernel_rfl) (cs := [bodyOf F.i_EditMoves 2]) (by kernel_rfl) (loopsc loop_iMs loops0)) (S_fn_of fun d K h => ev_iMs d.1 d.2.1 K h)
noncomputable abbrev ls_iMove : List (Nat × Bool × Sm) := [(N.i_EditMoves, true, S_moves)]
noncomputable abbrev pl_iMove : List (Nat × Plan × List Nat) := []
theorem ev_iMove (a b : T_Edit) (K : Ret → Option Ret) : evF (En ls_iMove pl_iMove) true F.i_EditMove [.a (editR.cells .no a), .a (editR.cells .no b)] K = K (eb editR (moveD a b), []) := by
  have eTr : evF (En ls_iMove pl_iMove) true F.i_EditMove [.a (editR.cells .no a), .a (editR.cells .no b)] K =
 (bif preL [b] then K (eb editR (movesD a [b]), []) else none) := by kernel_rfl
  refine eTr.trans ?_
  show K (eb editR (movesD a [b]), []) = _
  have : movesD a [b] = moveD a b := by
    unfold movesD
    simp only [scanL]
    rw [moveD_ok]
    unfold moveD
    cases smallE a with
    | false => rfl
    | true => cases smallE b <;> rfl
  rw [this]
theorem okS_iMove : OkFn prog I N.i_EditMove true S_move := okW (ok_fn (memc okS_iMoves mem0) (l := ls_iMove) (p := pl_iMove) (ls := []) (lend := []) (focus := false) (fuel := 0) (fn := F.i_EditMove) (by kernel_rfl) (by kernel_rfl) (by kernel_rfl) (by kernel_rfl) (cs := []) (by kernel_rfl) loops0) (S_fn_of fun d K h => ev_iMove d.1 d.2.1 K)
theorem moveD_w (a b : T_Edit) : editR.w (moveD a b).1 ≤ 1099511627776 := by
  have e := editR_w (moveD a b).1
  have : List.length (moveD a b).1.2.2 ≤ 400 := by
    unfold moveD
    cases ha : smallE a with
    | false => exact Nat.zero_le _
    | true =>
      obtain ⟨a1, a2, a3, a4, a5⟩ := small_iff ha
      cases smallE b with
      | false => exact Nat.zero_le _
      | true => show List.length a.2.2 ≤ 400; omega
  omega
theorem movesD_w (a : T_Edit) (l : List T_Edit) : editR.w (movesD a l).1 ≤ 1099511627776 := by
  have e := editR_w (movesD a l).1
  have : List.length (movesD a l).1.2.2 ≤ 400 := by
    unfold movesD
    cases ha : smallE a with
    | false => exact Nat.zero_le _
    | true =>
      obtain ⟨a1, a2, a3, a4, a5⟩ := small_iff ha
      have := scan_put l a (by omega)
      cases (scanL moveD a l).2 with
      | false => exact Nat.zero_le _
      | true => exact this
  omega
end Go.Ev.Seat
