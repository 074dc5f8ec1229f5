/- StackMoved: parts FiisStack FiEditpos FiEditspan FslicesClonebytesbyte FiEditcopied Fiedits FiStackcopied FiStackmoved FiStackMoved EvLStackMoved EvKind EvOne, packed by squash.py. -/
import Derived.Shelf.RegionOpenPlain
import Derived.WalkKit
import Derived.Deep.RegionWith
import Derived.Lib.Walk
import Derived.Laws.Rows
import Derived.LoopN
import GoSem.ClaimWide
import Derived.Test.YtpokeekakmijlaaZStackMoved0
import Derived.Test.YtpokeekakmijlaaZStackMoved1
import Derived.Test.YtpokeekakmijlaaZStackMoved2
import Derived.Test.YtpokeekakmijlaaZStackMoved3
set_option linter.unusedVariables false
set_option linter.unusedSimpArgs false
section
/- i_isStack: its contract. -/
namespace Go.Ev.Seat
open Go.RowKit
set_option maxRecDepth 100000
set_option linter.unusedVariables false
set_option linter.unusedSimpArgs false
noncomputable abbrev ls_i_isStack : List (Nat × Bool × Sm) := [(N.i_areStacked, true, S_i_areStacked)]
noncomputable abbrev E_i_isStack : Env := En ls_i_isStack [] [] [] false 0 []
noncomputable def T_i_isStack (s : T_Stack) (K : Ret → Option Ret) : Option Ret := (bif (Nat.ble (List.length s.1) 1048576) then (bif (okL s.1) then (bif (Nat.ble (List.length s.2) 1048576) then K ((.s (.bool (okL s.2))), []) else none) else K ((.s (.bool false)), [])) else none)
theorem e_i_isStack (s : T_Stack) (K : Ret → Option Ret) : evF E_i_isStack true F.i_isStack [.a (stackR.cells .no s)] K = T_i_isStack s K := by kernel_rfl
def S_i_isStack : Sm := S_fnR [.a stackR] (fun d => Nat.ble d.1.1.length 1048576 && Nat.ble d.1.2.length 1048576) (fun d => (bl (stackOkD d.1), []))
theorem v_i_isStack (s : T_Stack) (h : (Nat.ble s.1.length 1048576 && Nat.ble s.2.length 1048576) = true) (K : Ret → Option Ret) : T_i_isStack s K = K (bl (stackOkD s), []) := by
  obtain ⟨h1, h2⟩ := (Bool.and_eq_true _ _).mp h
  unfold T_i_isStack stackOkD
  rw [h1, h2]
  cases okL s.1 <;> rfl
theorem okS_i_isStack : OkFn prog I N.i_isStack true S_i_isStack := okN (ok_fn (memc okS_i_areStacked mem0) (l := ls_i_isStack) (p := []) (ls := []) (lend := []) (focus := false) (fuel := 0) (give := []) (fn := F.i_isStack) (by kernel_rfl) (by kernel_rfl) (by kernel_rfl) (by kernel_rfl) (cs := []) (by kernel_rfl) loops0) (S_fnR_of fun d K h => (e_i_isStack d.1 K).trans (v_i_isStack d.1 h K))
end Go.Ev.Seat
end
section
/- i_Edit_pos: its contract. -/
namespace Go.Ev.Seat
open Go.RowKit
set_option maxRecDepth 100000
set_option linter.unusedVariables false
set_option linter.unusedSimpArgs false
noncomputable abbrev E_i_Edit_pos : Env := En [] [] [] [] false 0 []
noncomputable def T_i_Edit_pos (e : T_Edit) (p : Int) (r : Bool) (K : Ret → Option Ret) : Option Ret := (bif (decide (p < e.1)) then K ((.s (.int .i64 p)), []) else (bif (p == e.1) then (bif r then K ((.s (.int .i64 (IntKind.wrap .i64 (e.1 + (((List.length e.2.2) : Nat) : Int))))), []) else K ((.s (.int .i64 e.1)), [])) else (bif (decide (p < (IntKind.wrap .i64 (e.1 + e.2.1)))) then (bif r then K ((.s (.int .i64 (IntKind.wrap .i64 (e.1 + (((List.length e.2.2) : Nat) : Int))))), []) else K ((.s (.int .i64 e.1)), [])) else K ((.s (.int .i64 (IntKind.wrap .i64 ((IntKind.wrap .i64 (p - e.2.1)) + (((List.length e.2.2) : Nat) : Int))))), []))))
theorem e_i_Edit_pos (e : T_Edit) (p : Int) (r : Bool) (K : Ret → Option Ret) : evF E_i_Edit_pos true F.i_Edit_pos [.a (editR.cells .no e), .s (.int .i64 p), .s (.bool r)] K = T_i_Edit_pos e p r K := by kernel_rfl
def S_i_Edit_pos : Sm := S_fnR [.a editR, .i, .b] (fun d => placeB d.2.1 && smallE d.1) (fun d => (.s (.int .i64 (posD d.1 d.2.1 d.2.2.1)), []))
theorem v_i_Edit_pos (e : T_Edit) (p : Int) (r : Bool) (h : (placeB p && smallE e) = true) (K : Ret → Option Ret) : T_i_Edit_pos e p r K = K (.s (.int .i64 (posD e p r)), []) := by
  obtain ⟨hp, HS⟩ := (Bool.and_eq_true _ _).mp h
  have hp' := placeB_iff.1 hp
  unfold T_i_Edit_pos
  have q := smallE_iff.1 HS
  rw [wrap_in (n := e.1 + ((e.2.2.length : Nat) : Int)) (by omega) (by omega), wrap_in (n := e.1 + e.2.1) (by omega) (by omega), wrap_in (n := p - e.2.1) (by omega) (by omega), wrap_in (n := p - e.2.1 + ((e.2.2.length : Nat) : Int)) (by omega) (by omega)]
  unfold posD
  cases decide (p < e.1)
  · cases (p == e.1)
    · cases decide (p < e.1 + e.2.1)
      · rfl
      · cases r <;> rfl
    · cases r <;> rfl
  · rfl
theorem okS_i_Edit_pos : OkFn prog I N.i_Edit_pos true S_i_Edit_pos := okN (ok_fn mem0 (l := []) (p := []) (ls := []) (lend := []) (focus := false) (fuel := 0) (give := []) (fn := F.i_Edit_pos) (by kernel_rfl) (by kernel_rfl) (by kernel_rfl) (by kernel_rfl) (cs := []) (by kernel_rfl) loops0) (S_fnR_of fun d K h => (e_i_Edit_pos d.1 d.2.1 d.2.2.1 K).trans (v_i_Edit_pos d.1 d.2.1 d.2.2.1 h K))
end Go.Ev.Seat
end
section
/- i_Edit_span: its contract. -/
namespace Go.Ev.Seat
open Go.RowKit
set_option maxRecDepth 100000
set_option linter.unusedVariables false
set_option linter.unusedSimpArgs false
noncomputable abbrev pl_i_Edit_span : List (Nat × Plan × List Nat) := [(1, takeB [0, 1, 3, 4] (.fork (.one 2 (.fork (.one 5 (takes [6, 7]))))), [])]
noncomputable abbrev ls_i_Edit_span : List (Nat × Bool × Sm) := [(N.i_Edit_pos, true, S_i_Edit_pos)]
noncomputable abbrev E_i_Edit_span : Env := En ls_i_Edit_span pl_i_Edit_span [] [] false 0 []
noncomputable def T_i_Edit_span (e : T_Edit) (i : Int) (j : Int) (K : Ret → Option Ret) : Option Ret := (bif ((placeB i) && (smallE e)) then (bif ((placeB j) && (smallE e)) then (bif (decide ((posD e j false) < (posD e i true))) then K ((.t [(.s (.int .i64 (posD e i true))), (.s (.int .i64 (posD e i true)))]), []) else (bif (i == j) then K ((.t [(.s (.int .i64 (posD e i true))), (.s (.int .i64 (posD e i true)))]), []) else K ((.t [(.s (.int .i64 (posD e i true))), (.s (.int .i64 (posD e j false)))]), []))) else none) else none)
theorem e_i_Edit_span (e : T_Edit) (i : Int) (j : Int) (K : Ret → Option Ret) : evF E_i_Edit_span true F.i_Edit_span [.a (editR.cells .no e), .s (.int .i64 i), .s (.int .i64 j)] K = T_i_Edit_span e i j K := by kernel_rfl
def S_i_Edit_span : Sm := S_fnR [.a editR, .i, .i] (fun d => placeB d.2.1 && placeB d.2.2.1 && smallE d.1 && decide (d.2.1 ≤ d.2.2.1)) (fun d => (.t [.s (.int .i64 (spanD d.1 d.2.1 d.2.2.1).1), .s (.int .i64 (spanD d.1 d.2.1 d.2.2.1).2)], []))
theorem v_i_Edit_span (e : T_Edit) (i : Int) (j : Int) (h : (placeB i && placeB j && smallE e && decide (i ≤ j)) = true) (K : Ret → Option Ret) : T_i_Edit_span e i j K = K (.t [.s (.int .i64 (spanD e i j).1), .s (.int .i64 (spanD e i j).2)], []) := by
  simp only [Bool.and_eq_true, decide_eq_true_eq] at h
  obtain ⟨⟨⟨hi, hj⟩, he⟩, hij⟩ := h
  have hi' := placeB_iff.1 hi
  have hj' := placeB_iff.1 hj
  have p1 := posD_range (p := i) true he (by omega)
  have p2 := posD_range (p := j) false he (by omega)
  unfold T_i_Edit_span spanD
  rw [hi, hj, he]
  cases (i == j) with
  | true => cases decide (posD e j false < posD e i true) <;> rfl
  | false =>
    by_cases hlt : posD e j false < posD e i true
    · rw [decide_eq_true hlt]
      show K (.t [_, .s (.int .i64 (posD e i true))], []) = K (.t [_, .s (.int .i64 (max (posD e i true) (posD e j false)))], [])
      rw [show max (posD e i true) (posD e j false) = posD e i true by omega]
    · rw [decide_eq_false hlt]
      show K (.t [_, .s (.int .i64 (posD e j false))], []) = K (.t [_, .s (.int .i64 (max (posD e i true) (posD e j false)))], [])
      rw [show max (posD e i true) (posD e j false) = posD e j false by omega]
theorem okS_i_Edit_span : OkFn prog I N.i_Edit_span true S_i_Edit_span := okN (ok_fn (memc okS_i_Edit_pos mem0) (l := ls_i_Edit_span) (p := pl_i_Edit_span) (ls := []) (lend := []) (focus := false) (fuel := 0) (give := []) (fn := F.i_Edit_span) (by kernel_rfl) (by kernel_rfl) (by kernel_rfl) (by kernel_rfl) (cs := []) (by kernel_rfl) loops0) (S_fnR_of fun d K h => (e_i_Edit_span d.1 d.2.1 d.2.2.1 K).trans (v_i_Edit_span d.1 d.2.1 d.2.2.1 h K))
end Go.Ev.Seat
end
section
/- slices_Clone_bytes_byte: its contract. -/
namespace Go.Ev.Seat
open Go.RowKit
set_option maxRecDepth 100000
set_option linter.unusedVariables false
set_option linter.unusedSimpArgs false
noncomputable abbrev E_slices_Clone_bytes_byte : Env := En [] [] [] [] false 0 []
noncomputable def T_slices_Clone_bytes_byte (l : List Int) (K : Ret → Option Ret) : Option Ret := (bif (Nat.beq (List.length l) 0) then (meet (K ((.l .deep bytesR ([] : List Int)), [])) ((bif (Nat.ble (((List.length ([] : List Int)) + (List.length l)) * 1) 140737488355328) then K ((.l .deep bytesR (([] : List Int) ++ l)), []) else none))) else (bif (Nat.ble (((List.length ([] : List Int)) + (List.length l)) * 1) 140737488355328) then K ((.l .deep bytesR (([] : List Int) ++ l)), []) else none))
theorem e_slices_Clone_bytes_byte (l : List Int) (K : Ret → Option Ret) : evF E_slices_Clone_bytes_byte true F.slices_Clone_bytes_byte [.l .no bytesR l] K = T_slices_Clone_bytes_byte l K := by kernel_rfl
def S_slices_Clone_bytes_byte : Sm := S_fnR [.l bytesR] (fun d => Cc.lim (Cc.sl bytesR) d.1) (fun d => (.l .deep bytesR d.1, []))
theorem v_slices_Clone_bytes_byte (l : List Int) (h : (Cc.lim (Cc.sl bytesR) l) = true) (K : Ret → Option Ret) : T_slices_Clone_bytes_byte l K = K (.l .deep bytesR l, []) := by
  have h1 : l.length ≤ 1048576 := by
    simp only [Cc.lim, Bool.and_eq_true] at h
    exact Nat.le_of_ble_eq_true h.1
  unfold T_slices_Clone_bytes_byte
  rw [Nat.ble_eq_true_of_le (by simp; omega)]
  cases l with
  | nil => exact meet_self _
  | cons x xs => rfl
theorem okS_slices_Clone_bytes_byte : OkFn prog I N.slices_Clone_bytes_byte true S_slices_Clone_bytes_byte := okN (ok_fn mem0 (l := []) (p := []) (ls := []) (lend := []) (focus := false) (fuel := 0) (give := []) (fn := F.slices_Clone_bytes_byte) (by kernel_rfl) (by kernel_rfl) (by kernel_rfl) (by kernel_rfl) (cs := []) (by kernel_rfl) loops0) (S_fnR_of fun d K h => (e_slices_Clone_bytes_byte d.1 K).trans (v_slices_Clone_bytes_byte d.1 h K))
end Go.Ev.Seat
end
section
/- i_Edit_copied: its contract. -/
namespace Go.Ev.Seat
open Go.RowKit
set_option maxRecDepth 100000
set_option linter.unusedVariables false
set_option linter.unusedSimpArgs false
noncomputable abbrev ls_i_Edit_copied : List (Nat × Bool × Sm) := [(N.slices_Clone_bytes_byte, true, S_slices_Clone_bytes_byte)]
noncomputable abbrev E_i_Edit_copied : Env := En ls_i_Edit_copied [] [] [] false 0 []
noncomputable def T_i_Edit_copied (e : T_Edit) (K : Ret → Option Ret) : Option Ret := (bif (Cc.lim (Cc.sl bytesR) e.2.2) then K ((.a [(.s (.int .i64 e.1)), (.s (.int .i64 e.2.1)), (.l .deep bytesR e.2.2)]), []) else none)
theorem e_i_Edit_copied (e : T_Edit) (K : Ret → Option Ret) : evF E_i_Edit_copied true F.i_Edit_copied [.a (editR.cells .no e)] K = T_i_Edit_copied e K := by kernel_rfl
def S_i_Edit_copied : Sm := S_fnR [.a editR] (fun d => Nat.ble d.1.2.2.length 1048576) (fun d => (.a (editR.cells .deep d.1), []))
theorem v_i_Edit_copied (e : T_Edit) (h : (Nat.ble e.2.2.length 1048576) = true) (K : Ret → Option Ret) : T_i_Edit_copied e K = K (.a (editR.cells .deep e), []) := by
  have hl := Nat.le_of_ble_eq_true h
  unfold T_i_Edit_copied
  first | rw [Nat.ble_eq_true_of_le (by simp; omega)] | rw [bytes_lim hl]
  rfl
theorem okS_i_Edit_copied : OkFn prog I N.i_Edit_copied true S_i_Edit_copied := okN (ok_fn (memc okS_slices_Clone_bytes_byte mem0) (l := ls_i_Edit_copied) (p := []) (ls := []) (lend := []) (focus := false) (fuel := 0) (give := []) (fn := F.i_Edit_copied) (by kernel_rfl) (by kernel_rfl) (by kernel_rfl) (by kernel_rfl) (cs := []) (by kernel_rfl) loops0) (S_fnR_of fun d K h => (e_i_Edit_copied d.1 K).trans (v_i_Edit_copied d.1 h K))
end Go.Ev.Seat
end
section
/- i_edits: its contract. -/
namespace Go.Ev.Seat
open Go.RowKit
set_option maxRecDepth 100000
set_option linter.unusedVariables false
set_option linter.unusedSimpArgs false
def z_i_edits_3_0 (o0 : List T_Edit) : St := { tm := ([.x, .x, .x, (.w 0)] ++ List.replicate 16 .x), ob := [(0, (.arr true true editR o0))], nx := 1, io := [] }
def sh_i_edits_3_0 : Ss := { tm := (.cons (.x) (.cons (.x) (.cons (.x) (.cons (.w 0) (.cons (.x) (.cons (.x) (.cons (.x) (.cons (.l .no editR) (.cons (.int .i64) (.cons (.int .i64) (xsh 10))))))))))), ob := (.arr true true editR .nil), nx := 1, io := .nil }
def d_i_edits_3_0 (x7 : List T_Edit) (x8 : Int) (x9 : Int) (o0 : List T_Edit) : sh_i_edits_3_0.T := (((), ((), ((), ((), ((), ((), ((), (x7, (x8, (x9, xd 10)))))))))), (o0, ()), ())
def s_i_edits_3_0 (x7 : List T_Edit) (x8 : Int) (x9 : Int) (o0 : List T_Edit) : St := { tm := ([.x, .x, .x, (.w 0), .x, .x, .x, (.l .no editR x7), (.s (.int .i64 x8)), (.s (.int .i64 x9))] ++ List.replicate 10 .x), ob := [(0, (.arr true true editR o0))], nx := 1, io := [] }
theorem se_i_edits_3_0 (x7 : List T_Edit) (x8 : Int) (x9 : Int) (o0 : List T_Edit) : sh_i_edits_3_0.mk' (d_i_edits_3_0 x7 x8 x9 o0) = (s_i_edits_3_0 x7 x8 x9 o0) := by kernel_rfl
def w_i_edits_3_0 (d : sh_i_edits_3_0.T) (f : (List T_Edit) → Int → Int → (List T_Edit) → Option Ret) : Option Ret := match d with | ((_, (_, (_, (_, (_, (_, (_, (x7, (x8, (x9, _)))))))))), (o0, _), _) => f x7 x8 x9 o0
noncomputable def P_i_edits_3_0 (x7 : List T_Edit) (x8 : Int) (x9 : Int) (o0 : List T_Edit) (nx0 : (List T_Edit) → Int → Int → (List T_Edit) → Option Ret) (k0 : (List T_Edit) → Option Ret) : Option Ret := (bif (decide (x9 < x8)) then (bif ((decide ((0 : Int) ≤ x9)) && (decide (x9 < (((List.length x7) : Nat) : Int)))) then (bif (Nat.ble (List.length (List.getD x7 (Int.toNat x9) (editR.dflt)).2.2) 1048576) then (bif (Nat.ble (((List.length o0) + (List.length ((List.getD x7 (Int.toNat x9) (editR.dflt)) :: []))) * 40) 140737488355328) then (nx0 x7 x8 (IntKind.wrap .i64 (x9 + (1 : Int))) (o0 ++ ((List.getD x7 (Int.toNat x9) (editR.dflt)) :: []))) else none) else none) else none) else (k0 o0))
noncomputable def Q_i_edits_3_0 : Nat → (List T_Edit) → Int → Int → (List T_Edit) → ((List T_Edit) → Option Ret) → Option Ret
  | 0, _, _, _, _, _ => none
  | m + 1, x7, x8, x9, o0, k0 => P_i_edits_3_0 x7 x8 x9 o0 (fun x7 x8 x9 o0 => (Q_i_edits_3_0 m x7 x8 x9 o0 k0)) k0
noncomputable def R_i_edits_3_0 (x7 : List T_Edit) (x8 : Int) (x9 : Int) (o0 : List T_Edit) (k0 : (List T_Edit) → Option Ret) : Option Ret := Q_i_edits_3_0 (List.length x7 + x8.toNat + x9.toNat + List.length o0 + 2) x7 x8 x9 o0 k0
noncomputable def W_i_edits_3 : LoopFn := (fun (σ : St) (K : Ex → St → Option Ret) => (match sh_i_edits_3_0.un σ with | some d => w_i_edits_3_0 d (fun x7 x8 x9 o0 => R_i_edits_3_0 x7 x8 x9 o0 (fun o0 => (K (.ext 0) (z_i_edits_3_0 o0)))) | none => none))
noncomputable abbrev ls_i_edits : List (Nat × Bool × Sm) := [(N.i_Edit_copied, true, S_i_Edit_copied)]
noncomputable abbrev E_i_edits : Env := En ls_i_edits [] [(3, [3,7,8,9], [2,3], W_i_edits_3)] [] false 0 []
noncomputable abbrev U_i_edits_3 := rounds (run E_i_edits (bodyOf F.i_edits 3)) [3,7,8,9] [2,3]
theorem st_i_edits_3_0 (m : Nat) (x7 : List T_Edit) (x8 : Int) (x9 : Int) (o0 : List T_Edit) (K : Ex → St → Option Ret) : U_i_edits_3 (m + 1) (s_i_edits_3_0 x7 x8 x9 o0) K = P_i_edits_3_0 x7 x8 x9 o0 (fun x7 x8 x9 o0 => (U_i_edits_3 m (s_i_edits_3_0 x7 x8 x9 o0) K)) (fun o0 => (K (.ext 0) (z_i_edits_3_0 o0))) := by kernel_rfl
theorem q_i_edits_3 (K : Ex → St → Option Ret) : ∀ m : Nat, (∀ (x7 : List T_Edit) (x8 : Int) (x9 : Int) (o0 : List T_Edit), U_i_edits_3 m (s_i_edits_3_0 x7 x8 x9 o0) K = Q_i_edits_3_0 m x7 x8 x9 o0 (fun o0 => (K (.ext 0) (z_i_edits_3_0 o0))))
  | 0 => (fun _ _ _ _ => rfl)
  | m + 1 => (fun x7 x8 x9 o0 => (by rw [st_i_edits_3_0, show (fun x7 x8 x9 o0 => (U_i_edits_3 m (s_i_edits_3_0 x7 x8 x9 o0) K)) = (fun x7 x8 x9 o0 => (Q_i_edits_3_0 m x7 x8 x9 o0 (fun o0 => (K (.ext 0) (z_i_edits_3_0 o0))))) from funext fun x7 => funext fun x8 => funext fun x9 => funext fun o0 => (q_i_edits_3 K m) x7 x8 x9 o0]; rfl))
theorem loopK_i_edits_3 : LoopOk E_i_edits (bodyOf F.i_edits 3) := by
  refine loopW_ok (n := 3) (F := W_i_edits_3) (by kernel_rfl) rfl (li := [3,7,8,9]) (lo := [2,3]) rfl (fun σ K r hr => ?_)
  unfold W_i_edits_3 at hr
  split at hr
  · rename_i d hd
    rw [Ss.un_mk hd]
    exact ⟨_, ((congrArg (fun z => U_i_edits_3 _ z K) (se_i_edits_3_0 _ _ _ _)).trans ((q_i_edits_3 K _) _ _ _ _)).trans hr⟩
  · cases hr
noncomputable def T_i_edits (l : List T_Edit) (K : Ret → Option Ret) : Option Ret := (R_i_edits_3_0 l (((List.length l) : Nat) : Int) (0 : Int) [] (fun y0 => K ((.l .deep editR y0), [])))
theorem e_i_edits (l : List T_Edit) (K : Ret → Option Ret) : evF E_i_edits true F.i_edits [.l .no editR l] K = T_i_edits l K := by kernel_rfl
def S_i_edits : Sm := S_fnR [.l editR] (fun d => fitC (.sl editR) d.1) (fun d => (.l .deep editR d.1, []))
theorem v_i_edits (l : List T_Edit) (h : (fitC (.sl editR) l) = true) (K : Ret → Option Ret) : T_i_edits l K = K (.l .deep editR l, []) := by
  have hl := fitC_len h
  unfold T_i_edits
  have q : ∀ (m i : Nat), i ≤ l.length → l.length - i < m → Q_i_edits_3_0 m l ((l.length : Nat) : Int) ((i : Nat) : Int) (l.take i) (fun y0 => K ((.l .deep editR y0), [])) = K ((.l .deep editR l), []) := by
    intro m
    induction m with
    | zero => intro i _ hm; omega
    | succ m ih =>
      intro i hi hm
      show P_i_edits_3_0 l ((l.length : Nat) : Int) ((i : Nat) : Int) (l.take i) _ _ = _
      unfold P_i_edits_3_0
      by_cases hlt : i < l.length
      · have hx : fitR editR (l.getD i editR.dflt) = true := fitC_getD h rfl i
        have hx2 : (fun x : T_Edit => Nat.ble (List.length x.2.2) 1048576) (l.getD i editR.dflt) = true := (fun (x : T_Edit) (hx : fitR editR x = true) => Nat.ble_eq_true_of_le (fitB_len (fit_edit hx))) _ hx
        have ht := take_snoc editR.dflt hlt
        dsimp only at hx2
        rw [decide_eq_true (show ((i : Nat) : Int) < ((l.length : Nat) : Int) by omega), decide_eq_true (show (0 : Int) ≤ ((i : Nat) : Int) by omega), Int.toNat_natCast, wrap_nat (by omega), hx2, Nat.ble_eq_true_of_le (show ((l.take i).length + [l.getD i editR.dflt].length) * 40 ≤ 140737488355328 by simp only [List.length_take, List.length_cons, List.length_nil]; omega), ht]
        exact ih (i + 1) (by omega) (by omega)
      · obtain rfl : i = l.length := by omega
        rw [decide_eq_false (show ¬ ((l.length : Nat) : Int) < ((l.length : Nat) : Int) by omega), List.take_length]; rfl
  exact q _ 0 (by omega) (by omega)
theorem okS_i_edits : OkFn prog I N.i_edits true S_i_edits := okN (ok_fn (memc okS_i_Edit_copied mem0) (l := ls_i_edits) (p := []) (ls := [(3, [3,7,8,9], [2,3], W_i_edits_3)]) (lend := []) (focus := false) (fuel := 0) (give := []) (fn := F.i_edits) (by kernel_rfl) (by kernel_rfl) (by kernel_rfl) (by kernel_rfl) (cs := [bodyOf F.i_edits 3]) (by kernel_rfl) (loopsc loopK_i_edits_3 loops0)) (S_fnR_of fun d K h => (e_i_edits d.1 K).trans (v_i_edits d.1 h K))
end Go.Ev.Seat
end
section
/- i_Stack_copied: its contract. -/
namespace Go.Ev.Seat
open Go.RowKit
set_option maxRecDepth 100000
set_option linter.unusedVariables false
set_option linter.unusedSimpArgs false
noncomputable abbrev pl_i_Stack_copied : List (Nat × Plan × List Nat) := [(1, takeB [0, 1, 3, 4] (.fork (.one 2 (.fork (.one 5 (takeB [6] (.fork (.one 7 (.done)))))))), [])]
noncomputable abbrev ls_i_Stack_copied : List (Nat × Bool × Sm) := [(N.i_edits, true, S_i_edits)]
noncomputable abbrev E_i_Stack_copied : Env := En ls_i_Stack_copied pl_i_Stack_copied [] [] false 0 []
noncomputable def T_i_Stack_copied (s : T_Stack) (K : Ret → Option Ret) : Option Ret := (bif (fitC (Cc.sl editR) s.1) then (bif (fitC (Cc.sl editR) s.2) then K ((.a [(.l .deep editR s.1), (.l .deep editR s.2)]), []) else none) else none)
theorem e_i_Stack_copied (s : T_Stack) (K : Ret → Option Ret) : evF E_i_Stack_copied true F.i_Stack_copied [.a (stackR.cells .no s)] K = T_i_Stack_copied s K := by kernel_rfl
def S_i_Stack_copied : Sm := S_fnR [.a stackR] (fun d => fitR stackR d.1) (fun d => (.a (stackR.cells .deep d.1), []))
theorem v_i_Stack_copied (s : T_Stack) (h : (fitR stackR s) = true) (K : Ret → Option Ret) : T_i_Stack_copied s K = K (.a (stackR.cells .deep s), []) := by
  have h1 : fitC (.sl editR) s.1 = true := fitR_fst h
  have h2 : fitC (.sl editR) s.2 = true := fitR_snd h
  unfold T_i_Stack_copied
  rw [h1, h2]; rfl
theorem okS_i_Stack_copied : OkFn prog I N.i_Stack_copied true S_i_Stack_copied := okN (ok_fn (memc okS_i_edits mem0) (l := ls_i_Stack_copied) (p := pl_i_Stack_copied) (ls := []) (lend := []) (focus := false) (fuel := 0) (give := []) (fn := F.i_Stack_copied) (by kernel_rfl) (by kernel_rfl) (by kernel_rfl) (by kernel_rfl) (cs := []) (by kernel_rfl) loops0) (S_fnR_of fun d K h => (e_i_Stack_copied d.1 K).trans (v_i_Stack_copied d.1 h K))
end Go.Ev.Seat
end
section
/- i_Stack_moved: its contract. -/
set_option linter.unusedVariables false
set_option linter.unusedSimpArgs false
namespace Go.Ev
open Go.RowKit
/-- A contract used by hand, for arguments that are read alone. -/
theorem OkFn.use {P : Program} {I : Nat → World → Prop} {g : FuncId} {fresh : Bool} {G : Sm} (h : OkFn P I g fresh G) {B0 : Nat} {w0 w : World} (hI : I B0 w0) (hbel : Below B0 w0 w) (hB : B0 ≤ w.heap.size) {ws : List V} {v : Ret} (hG : ∀ K, G ws K = K v)
    {vs : List Value} {M : List Nat} (ha : ArgsR w ws vs [] M []) (hM : ∀ x ∈ M, x < w.heap.size) : Calls P g ⟨vs⟩ w fun e w' => ∃ c, e = .returned c ∧ Back B0 w0 w (fun x => x < w.heap.size) [] (ptrs ws vs) fresh v c w' := by
  refine Calls.mono (h.2 ws some v (hG some) B0 w0 w (fun x => x < w.heap.size) vs [] M [] hI hbel hB ha List.nodup_nil (fun _ h => (nomatch h)) hM (fun _ h => (nomatch h)) (fun _ h => h)) ?_
  intro e w' he
  cases e with
  | returned c =>
    obtain ⟨q, hq, hb⟩ := he
    cases hq
    exact ⟨c, rfl, hb⟩
  | panicked _ => exact he.elim
  | outgrown => exact he.elim
end Go.Ev
namespace Go.Ev.Seat
open Go.RowKit Go.Lib Go.Proofs Go.Shelf
/-- Three cells of a block set anew. -/
theorem setCell3 {w : World} {g : Nat} {x0 x1 x2 : Value} {t : TypeId} (h : w.heap[g]? = some (.cells #[x0, x1, x2] t (0, 0))) (y0 y1 y2 : Value) :
    ((w.setCell ⟨g, 0, none⟩ y0).setCell ⟨g, 1, none⟩ y1).setCell ⟨g, 2, none⟩ y2 = w.setRow g #[y0, y1, y2] := by
  rw [setCell_eq_setRow w g 0 _ t (0, 0) y0 h]
  rw [setCell_eq_setRow _ g 1 _ t (0, 0) y1 (setRow_heap w g _ _ t (0, 0) h), setRow_setRow]
  rw [setCell_eq_setRow _ g 2 _ t (0, 0) y2 (setRow_heap w g _ _ t (0, 0) h), setRow_setRow]
  rfl
/-- Two cells of a block set anew. -/
theorem setCell2 {w : World} {g : Nat} {x0 x1 : Value} {t : TypeId} (h : w.heap[g]? = some (.cells #[x0, x1] t (0, 0))) (y0 y1 : Value) : (w.setCell ⟨g, 0, none⟩ y0).setCell ⟨g, 1, none⟩ y1 = w.setRow g #[y0, y1] := by
  rw [setCell_eq_setRow w g 0 _ t (0, 0) y0 h]
  rw [setCell_eq_setRow _ g 1 _ t (0, 0) y1 (setRow_heap w g _ _ t (0, 0) h), setRow_setRow]
  rfl
theorem smallE_put {a c : Int} {l m : List Int} (h : smallE (a, c, l) = true) (hm : m.length ≤ 400) : smallE (a, c, m) = true := by
  have := smallE_iff.1 h
  exact smallE_iff.2 ⟨this.1, this.2.1, hm⟩
set_option maxHeartbeats 4000000 in
set_option maxRecDepth 100000 in
theorem em_walk {B0 : Nat} {w0 w : World} (hbel : Below B0 w0 w) (hB : B0 ≤ w.heap.size) (a c : Int) (pa : Option Addr) (pl pc : Nat) (e2 : T_Edit) (qa : Option Addr) (ql qc : Nat) (MB : List Nat)
    (hq : VR (Cx.ext (· ∈ MB)) w (.l .no bytesR e2.2.2) (.slice qa ql qc)) (hMB : ∀ x ∈ MB, x < w.heap.size) (h1 : smallE (a, c, ([] : List Int)) = true) (h2 : smallE e2 = true) :
    Calls prog N.i_Edit_moved #[.agg #[.int .i64 a, .int .i64 c, .slice pa pl pc], .agg #[.int .i64 e2.1, .int .i64 e2.2.1, .slice qa ql qc]] w fun e w' =>
      e = .returned (.agg #[.int .i64 (movedD (a, c, []) e2).1, .int .i64 (movedD (a, c, []) e2).2.1, .slice pa pl pc]) ∧ Below B0 w0 w' ∧ w.heap.size ≤ w'.heap.size ∧ ∀ x, x < w.heap.size → w'.heap[x]? = w.heap[x]? := by
  have mixed := Go.Ev.Seat.mixed
  have ha' : (0 ≤ a ∧ a ≤ 400) ∧ (0 ≤ c ∧ c ≤ 400) ∧ _ := smallE_iff.1 h1
  have hb' := smallE_iff.1 h2
  have p1 := posD_range (p := a) true h2 (by omega)
  have p2 := posD_range (p := a + c) false h2 (by omega)
  have hr := movedD_range h1 h2
  have hsp1 : (spanD e2 a (a + c)).1 = (movedD (a, c, []) e2).1 := rfl
  have hw1 : RowKit.wrap64 (a + c) = a + c := by unfold RowKit.wrap64; omega
  have hw2 : RowKit.wrap64 ((spanD e2 a (a + c)).2 - (movedD (a, c, []) e2).1) = (movedD (a, c, []) e2).2.1 := by
    have e3 : (movedD (a, c, []) e2).2.1 = (spanD e2 a (a + c)).2 - (movedD (a, c, []) e2).1 := rfl
    rw [← e3]; unfold RowKit.wrap64; omega
  have hspan : ∀ (w3 : World), Below B0 w0 w3 → B0 ≤ w3.heap.size → (∀ x, x < w.heap.size → w3.heap[x]? = w.heap[x]?) → w.heap.size ≤ w3.heap.size →
      Calls prog 150 #[.agg #[.int .i64 e2.1, .int .i64 e2.2.1, .slice qa ql qc], .int .i64 a, .int .i64 (a + c)] w3 fun e w' =>
        e = .returned (.tuple #[.int .i64 (spanD e2 a (a + c)).1, .int .i64 (spanD e2 a (a + c)).2]) ∧ Below B0 w0 w' ∧ w3.heap.size ≤ w'.heap.size ∧ ∀ x, x < w3.heap.size → w'.heap[x]? = w3.heap[x]? := by
    intro w3 hb3 hB3 hs3 hz3
    have hG : ∀ K, S_i_Edit_span [.a (editR.cells .no e2), .s (.int .i64 a), .s (.int .i64 (a + c))] K = K (.t [.s (.int .i64 (spanD e2 a (a + c)).1), .s (.int .i64 (spanD e2 a (a + c)).2)], []) := fun K => by
      show (bif (placeB a && placeB (a + c) && smallE e2 && decide (a ≤ a + c)) then K _ else none) = _
      rw [placeB_iff.2 (show 0 ≤ a ∧ a ≤ 800 by omega), placeB_iff.2 (show 0 ≤ a + c ∧ a + c ≤ 800 by omega), h2, decide_eq_true (show a ≤ a + c by omega)]
      rfl
    have hle : (Cx.ext (· ∈ MB)).Le w (Cx.ext (· ∈ MB)) w3 := ⟨fun _ _ _ h => h, fun _ h => h, fun _ h => h, fun b hb => hs3 b (hMB b hb), fun _ _ _ h => h⟩
    have ha : ArgsR w3 [.a (editR.cells .no e2), .s (.int .i64 a), .s (.int .i64 (a + c))] [.agg #[.int .i64 e2.1, .int .i64 e2.2.1, .slice qa ql qc], .int .i64 a, .int .i64 (a + c)] [] MB [] := by
      have z : ∀ (u : Value), u.oneCell' = true → VR (Cx.ext (· ∈ ([] : List Nat))) w3 (.s u) u := fun u hu => ⟨rfl, hu⟩
      refine ⟨_, _, [], [], MB, [], [], [], rfl, rfl, (List.append_nil _).symm, rfl, ⟨_, rfl, _, _, [], [], [], MB, [], [], rfl, rfl, rfl, rfl, ⟨z _ rfl, rfl, rfl⟩, _, _, [], [], [], MB, [], [], rfl, rfl, rfl, rfl, ⟨z _ rfl, rfl, rfl⟩, _, _, [], [], MB, [], [], [], rfl, rfl, (List.append_nil _).symm, rfl, ⟨VR.le hle _ hq, rfl, rfl⟩, rfl, rfl, rfl, rfl⟩, _, _, [], [], [], [], [], [], rfl, rfl, rfl, rfl, ⟨z _ rfl, rfl, rfl⟩, _, _, [], [], [], [], [], [], rfl, rfl, rfl, rfl, ⟨z _ rfl, rfl, rfl⟩, rfl, rfl, rfl, rfl⟩
    refine Calls.mono (okS_i_Edit_span.use (I_ok _ _) hb3 hB3 hG ha (fun x hx => Nat.lt_of_lt_of_le (hMB x hx) hz3)) ?_
    rintro e w' ⟨cv, rfl, hB⟩
    obtain ⟨O1, M1, H1, O2, M2, H2, hret, _⟩ := hB.ex
    refine ⟨?_, hB.below, hB.sz, fun x hx => hB.fr x hx (.inl (fun h => nomatch h))⟩
    obtain ⟨vs, rfl, hvs⟩ := hret
    obtain ⟨v1, vs1, A1, A2, B1, B2, C1, C2, rfl, rfl, rfl, rfl, g1, hvs⟩ := hvs
    obtain ⟨v2, vs2, A3, A4, B3, B4, C3, C4, rfl, rfl, rfl, rfl, g2, hvs⟩ := hvs
    obtain ⟨rfl, _⟩ := hvs
    have e1 : v1 = .int .i64 (spanD e2 a (a + c)).1 := g1.1.1
    have e2' : v2 = .int .i64 (spanD e2 a (a + c)).2 := g2.1.1
    rw [e1, e2']
  go_enter Try.func157, Try.ntmps157
  go_wp2_with (
    go_at_call 150
    refine (hspan _ (((hbel.alloc hB _).alloc (by rw [alloc_size]; omega) _).alloc (by rw [alloc_size, alloc_size]; omega) _) (by rw [alloc_size, alloc_size, alloc_size]; omega) (fun x hx => by rw [alloc_old _ _ _ (by rw [alloc_size, alloc_size]; omega), alloc_old _ _ _ (by rw [alloc_size]; omega), alloc_old _ _ _ hx]) (by rw [alloc_size, alloc_size, alloc_size]; omega)).mono ?_
    rintro e w' ⟨rfl, k1, k2, k3⟩
    rw [alloc_size, alloc_size, alloc_size] at k2
    have q0 : w'.heap[w.heap.size]? = some (.cells #[.int .i64 a, .int .i64 c, .slice pa pl pc] 35 (0, 0)) := by
      rw [k3 _ (by rw [alloc_size, alloc_size, alloc_size]; omega), alloc_old _ _ _ (by rw [alloc_size, alloc_size]; omega), alloc_old _ _ _ (by rw [alloc_size]; omega)]
      exact alloc_new _ _
    have q2 : w'.heap[w.heap.size + 1 + 1]? = some (.cells #[.int .i64 0, .int .i64 0, .slice none 0 0] 35 (0, 0)) := by
      rw [k3 _ (by rw [alloc_size, alloc_size, alloc_size]; omega)]
      have := alloc_new ((w.alloc (.cells #[.int .i64 a, .int .i64 c, .slice pa pl pc] 35)).alloc (.cells #[.int .i64 e2.1, .int .i64 e2.2.1, .slice qa ql qc] 35)) (.cells #[.int .i64 0, .int .i64 0, .slice none 0 0] 35)
      rw [alloc_size, alloc_size] at this
      exact this
    have c2 : w'.cell? ⟨w.heap.size, 2, none⟩ = some (.slice pa pl pc) := by simp [World.cell?, q0]
    have d0 : w'.cell? ⟨w.heap.size + 1 + 1, 0, none⟩ = some (.int .i64 0) := by simp [World.cell?, q2]
    have d1 : w'.cell? ⟨w.heap.size + 1 + 1, 1, none⟩ = some (.int .i64 0) := by simp [World.cell?, q2]
    have d2 : w'.cell? ⟨w.heap.size + 1 + 1, 2, none⟩ = some (.slice none 0 0) := by simp [World.cell?, q2]
    have f0 : w'.frozen? ⟨w.heap.size + 1 + 1, 0, none⟩ = false := by simp [World.frozen?, q2]
    have f1 : w'.frozen? ⟨w.heap.size + 1 + 1, 1, none⟩ = false := by simp [World.frozen?, q2]
    have f2 : w'.frozen? ⟨w.heap.size + 1 + 1, 2, none⟩ = false := by simp [World.frozen?, q2])
  rw [hw2, setCell3 q2]
  refine bodyPost_ret (results_cell_row rfl _ _ (w.heap.size + 1 + 1) 35 _ (0, 0) _ rfl (setRow_heap w' _ _ _ 35 (0, 0) q2) Try.underlying35 rfl (by kernel_rfl)) rfl ⟨rfl, Below.setRow' k1 (by omega) _, ?_, fun x hx => ?_⟩
  · show _ ≤ (w'.heap.modify _ _).size
    rw [Array.size_modify]; omega
  · rw [setRow_other _ _ x _ (by omega), k3 _ (by rw [alloc_size, alloc_size, alloc_size]; omega), alloc_old _ _ _ (by rw [alloc_size, alloc_size]; omega), alloc_old _ _ _ (by rw [alloc_size]; omega), alloc_old _ _ _ hx]

/-- Three cells of a row set anew. -/
theorem setCells3 {w : World} {g o : Nat} {cur : Array Value} {t : TypeId} (h : w.heap[g]? = some (.cells cur t (0, 0))) (y0 y1 y2 : Value) :
    ((w.setCell ⟨g, o, none⟩ y0).setCell ⟨g, o + 1, none⟩ y1).setCell ⟨g, o + 2, none⟩ y2 = w.setRow g (((cur.setIfInBounds o y0).setIfInBounds (o + 1) y1).setIfInBounds (o + 2) y2) := by
  rw [setCell_eq_setRow w g o _ t (0, 0) y0 h]
  rw [setCell_eq_setRow _ g (o + 1) _ t (0, 0) y1 (setRow_heap w g _ _ t (0, 0) h), setRow_setRow]
  rw [setCell_eq_setRow _ g (o + 2) _ t (0, 0) y2 (setRow_heap w g _ _ t (0, 0) h), setRow_setRow]
set_option maxHeartbeats 4000000 in
set_option maxRecDepth 100000 in
theorem inner_step {B0 : Nat} {w0 w : World} (hbel : Below B0 w0 w) (hB : B0 ≤ w.heap.size) (x0 x1 x2 x4 x5 x6 x8 x9 x10 x11 x12 x13 x14 x15 x16 x17 x18 x19 x20 x21 x25 x26 x27 x28 x29 x30 x31 x32 x33 x34 x35 x36 x37 : Value) (tb lb lo n c i : Nat)
    (a1 c1 : Int) (p1 : Option Addr) (pl pc : Nat) (e2 : T_Edit) (qa : Option Addr) (ql qc : Nat) (MB : List Nat) (cur : Array Value) (ty : TypeId) (hi : i < n) (hn : n ≤ 1048576) (hlb : lb < w.heap.size) (hlB : B0 ≤ lb)
    (hcur : w.heap[lb]? = some (.cells cur ty (0, 0))) (g0 : cur[lo + i * 3]? = some (.int .i64 a1)) (g1 : cur[lo + i * 3 + 1]? = some (.int .i64 c1)) (g2 : cur[lo + i * 3 + 2]? = some (.slice p1 pl pc))
    (htb : w.heap[tb]? = some (.cells #[.int .i64 e2.1, .int .i64 e2.2.1, .slice qa ql qc] 35 (0, 0)))
    (hq : VR (Cx.ext (· ∈ MB)) w (.l .no bytesR e2.2.2) (.slice qa ql qc)) (hMB : ∀ x ∈ MB, x < w.heap.size) (s1 : smallE (a1, c1, ([] : List Int)) = true) (s2 : smallE e2 = true)
    (Q : Exit → Act → World → Prop)
    (hQ : ∀ (y8 y9 y25 y26 y27 y28 y29 y30 y31 y32 y33 y34 y35 : Value) (w2 : World), w2.heap[lb]? = some (.cells (((cur.setIfInBounds (lo + i * 3) (.int .i64 (movedD (a1, c1, []) e2).1)).setIfInBounds (lo + i * 3 + 1) (.int .i64 (movedD (a1, c1, []) e2).2.1)).setIfInBounds (lo + i * 3 + 2) (.slice p1 pl pc)) ty (0, 0)) →
      (∀ x, x < w.heap.size → x ≠ lb → w2.heap[x]? = w.heap[x]?) → Below B0 w0 w2 → w.heap.size ≤ w2.heap.size →
      Q .normal { tmps := #[x0, x1, x2, .pointer (some ⟨tb, 0, none⟩), x4, x5, x6, .slice (some ⟨lb, lo, none⟩) n c, y8, y9, x10, x11, x12, x13, x14, x15, x16, x17, x18, x19, x20, x21, .slice (some ⟨lb, lo, none⟩) n c, .int .i64 n, .int .i64 ((i + 1 : Nat) : Int), y25, y26, y27, y28, y29, y30, y31, y32, y33, y34, y35, x36, x37], defers := [] } w2) :
   Code.wp prog (bodyOf Try.f99 6) Q { tmps := #[x0, x1, x2, .pointer (some ⟨tb, 0, none⟩), x4, x5, x6, .slice (some ⟨lb, lo, none⟩) n c, x8, x9, x10, x11, x12, x13, x14, x15, x16, x17, x18, x19, x20, x21, .slice (some ⟨lb, lo, none⟩) n c, .int .i64 n, .int .i64 i, x25, x26, x27, x28, x29, x30, x31, x32, x33, x34, x35, x36, x37], defers := [] } w := by
  have mixed := Go.Ev.Seat.mixed
  have h0 : w.cell? ⟨lb, lo + i * 3, none⟩ = some (.int .i64 a1) := by simp [World.cell?, hcur, g0]
  have h1 : w.cell? ⟨lb, lo + i * 3 + 1, none⟩ = some (.int .i64 c1) := by simp [World.cell?, hcur, g1]
  have h2 : w.cell? ⟨lb, lo + i * 3 + 2, none⟩ = some (.slice p1 pl pc) := by simp [World.cell?, hcur, g2]
  obtain ⟨W, hW⟩ : ∃ W, W = w.alloc (.cells #[.int .i64 a1, .int .i64 c1, .slice p1 pl pc] 35) := ⟨_, rfl⟩
  have htbl : tb < w.heap.size := by
    rcases Nat.lt_or_ge tb w.heap.size with h | h
    · exact h
    · rw [Array.getElem?_eq_none h] at htb; cases htb
  have hWo : ∀ x, x < w.heap.size → W.heap[x]? = w.heap[x]? := fun x hx => by rw [hW]; exact alloc_old _ _ _ hx
  have hWs : W.heap.size = w.heap.size + 1 := by rw [hW, alloc_size]
  have htb' : W.heap[tb]? = some (.cells #[.int .i64 e2.1, .int .i64 e2.2.1, .slice qa ql qc] 35 (0, 0)) := (hWo tb htbl).trans htb
  have b0 : W.cell? ⟨tb, 0, none⟩ = some (.int .i64 e2.1) := by simp [World.cell?, htb']
  have b1 : W.cell? ⟨tb, 1, none⟩ = some (.int .i64 e2.2.1) := by simp [World.cell?, htb']
  have b2 : W.cell? ⟨tb, 2, none⟩ = some (.slice qa ql qc) := by simp [World.cell?, htb']
  have hn0 : W.heap[w.heap.size]? = some (.cells #[.int .i64 a1, .int .i64 c1, .slice p1 pl pc] 35 (0, 0)) := by rw [hW]; exact alloc_new _ _
  have hw1 : RowKit.wrap64 ((i : Int) + 1) = ((i + 1 : Nat) : Int) := by unfold RowKit.wrap64; omega
  have hbW : Below B0 w0 W := by rw [hW]; exact hbel.alloc hB _
  have hle : (Cx.ext (· ∈ MB)).Le w (Cx.ext (· ∈ MB)) W := ⟨fun _ _ _ h => h, fun _ h => h, fun _ h => h, fun b hb => hWo b (hMB b hb), fun _ _ _ h => h⟩
  have hem := em_walk hbW (by omega) a1 c1 p1 pl pc e2 qa ql qc MB (VR.le hle _ hq) (fun x hx => by have := hMB x hx; omega) s1 s2
  have hlt : (i : Int) < (n : Int) := by omega
  rw [hW] at b0 b1 b2 hem
  conv => arg 2; whnf
  go_wp2_with (
    go_at_call 157
    refine hem.mono ?_
    rintro e w' ⟨rfl, k1, k2, k3⟩
    rw [← hW] at k2 k3
    have q0 : w'.heap[lb]? = some (.cells cur ty (0, 0)) := by rw [k3 _ (by omega), hWo _ hlb]; exact hcur
    have d0 : w'.cell? ⟨lb, lo + i * 3, none⟩ = some (.int .i64 a1) := by simp [World.cell?, q0, g0]
    have d1 : w'.cell? ⟨lb, lo + i * 3 + 1, none⟩ = some (.int .i64 c1) := by simp [World.cell?, q0, g1]
    have d2 : w'.cell? ⟨lb, lo + i * 3 + 2, none⟩ = some (.slice p1 pl pc) := by simp [World.cell?, q0, g2]
    have f0 : w'.frozen? ⟨lb, lo + i * 3, none⟩ = false := by simp [World.frozen?, q0]
    have f1 : w'.frozen? ⟨lb, lo + i * 3 + 1, none⟩ = false := by simp [World.frozen?, q0]
    have f2 : w'.frozen? ⟨lb, lo + i * 3 + 2, none⟩ = false := by simp [World.frozen?, q0])
  rw [setCells3 q0, show (i : Int) + 1 = ((i + 1 : Nat) : Int) by omega]
  refine hQ _ _ _ _ _ _ _ _ _ _ _ _ _ _ (setRow_heap w' lb _ _ ty (0, 0) q0) (fun x hx hne => ?_) (Below.setRow' k1 hlB _) ?_
  · rw [setRow_other _ _ x _ hne, k3 _ (by omega), hWo _ hx]
  · show _ ≤ (w'.heap.modify _ _).size
    rw [Array.size_modify]; omega

set_option maxHeartbeats 4000000 in
set_option maxRecDepth 100000 in
theorem inner_exit {w : World} (x0 x1 x2 x3 x4 x5 x6 x7 x8 x9 x10 x11 x12 x13 x14 x15 x16 x17 x18 x19 x20 x21 x22 x25 x26 x27 x28 x29 x30 x31 x32 x33 x34 x35 x36 x37 : Value) (n : Nat)
    (Q : Exit → Act → World → Prop)
    (hQ : ∀ y25 : Value, Q (.exit 2) { tmps := #[x0, x1, x2, x3, x4, x5, x6, x7, x8, x9, x10, x11, x12, x13, x14, x15, x16, x17, x18, x19, x20, x21, x22, .int .i64 n, .int .i64 n, y25, x26, x27, x28, x29, x30, x31, x32, x33, x34, x35, x36, x37], defers := [] } w) :
   Code.wp prog (bodyOf Try.f99 6) Q { tmps := #[x0, x1, x2, x3, x4, x5, x6, x7, x8, x9, x10, x11, x12, x13, x14, x15, x16, x17, x18, x19, x20, x21, x22, .int .i64 n, .int .i64 n, x25, x26, x27, x28, x29, x30, x31, x32, x33, x34, x35, x36, x37], defers := [] } w := by
  have hlt : ¬ (n : Int) < (n : Int) := by omega
  conv => arg 2; whnf
  go_wp2
  exact hQ _
def tri2 : List T_Edit → List Value → List Value
  | x :: xs, p :: ps => .int .i64 x.1 :: .int .i64 x.2.1 :: p :: tri2 xs ps
  | _, _ => []
theorem tri2_get : ∀ (xs : List T_Edit) (ps : List Value), ps.length = xs.length → ∀ j, (tri2 xs ps)[j * 3]? = xs[j]?.map (fun x => .int .i64 x.1) ∧ (tri2 xs ps)[j * 3 + 1]? = xs[j]?.map (fun x => .int .i64 x.2.1) ∧ (tri2 xs ps)[j * 3 + 2]? = ps[j]?
  | [], [], _, j => by simp [tri2]
  | x :: xs, p :: ps, h, 0 => by simp [tri2]
  | x :: xs, p :: ps, h, j + 1 => by
    have ih := tri2_get xs ps (by simpa using h) j
    rw [Nat.succ_mul]
    simp only [tri2, List.getElem?_cons_succ]
    exact ih
  | [], _ :: _, h, _ => by simp at h
  | _ :: _, [], h, _ => by simp at h
/-- The first ones turned. -/
def mvL (g : T_Edit → T_Edit) (i : Nat) (xs : List T_Edit) : List T_Edit := (xs.take i).map g ++ xs.drop i
theorem mvL_len (g : T_Edit → T_Edit) (i : Nat) (xs : List T_Edit) : (mvL g i xs).length = xs.length := by
  simp only [mvL, List.length_append, List.length_map, List.length_take, List.length_drop]; omega
theorem mvL_get (g : T_Edit → T_Edit) (i : Nat) (xs : List T_Edit) (hi : i ≤ xs.length) (j : Nat) : (mvL g i xs)[j]? = if j < i then xs[j]?.map g else xs[j]? := by
  have hl : ((xs.take i).map g).length = i := by rw [List.length_map, List.length_take]; omega
  unfold mvL
  by_cases h : j < i
  · rw [if_pos h, List.getElem?_append_left (by omega), List.getElem?_map, List.getElem?_take, if_pos h]
  · rw [if_neg h, List.getElem?_append_right (by omega), hl, List.getElem?_drop, show i + (j - i) = j by omega]
/-- What a list's block holds behind i rounds. -/
structure InnerAt (B0 : Nat) (w0 ws w : World) (lb lo : Nat) (ty : TypeId) (sz : Nat) (g : T_Edit → T_Edit) (xs : List T_Edit) (ps : List Value) (i : Nat) : Prop where
  cells : ∃ cur : Array Value, w.heap[lb]? = some (.cells cur ty (0, 0)) ∧ cur.size = sz ∧ ∀ (q : Nat) (v : Value), (tri2 (mvL g i xs) ps)[q]? = some v → cur[lo + q]? = some v
  oth : ∀ x, x < ws.heap.size → x ≠ lb → w.heap[x]? = ws.heap[x]?
  below : Below B0 w0 w
  sz : ws.heap.size ≤ w.heap.size
theorem inner_set {xs : List T_Edit} {ps : List Value} {e2 : T_Edit} {i lo : Nat} {cur : Array Value} {p : Value} (hps : ps.length = xs.length) (hi : i < xs.length) (hp : ps[i]? = some p)
    (hfit : lo + xs.length * 3 ≤ cur.size)
    (h : ∀ (q : Nat) (v : Value), (tri2 (mvL (fun x => movedD x e2) i xs) ps)[q]? = some v → cur[lo + q]? = some v) :
    ∀ (q : Nat) (v : Value), (tri2 (mvL (fun x => movedD x e2) (i + 1) xs) ps)[q]? = some v →
      (((cur.setIfInBounds (lo + i * 3) (.int .i64 (movedD (xs[i].1, xs[i].2.1, []) e2).1)).setIfInBounds (lo + i * 3 + 1) (.int .i64 (movedD (xs[i].1, xs[i].2.1, []) e2).2.1)).setIfInBounds (lo + i * 3 + 2) p)[lo + q]? = some v := by
  intro q v hv
  have hl1 : ps.length = (mvL (fun x => movedD x e2) (i + 1) xs).length := by rw [mvL_len]; exact hps
  have hl0 : ps.length = (mvL (fun x => movedD x e2) i xs).length := by rw [mvL_len]; exact hps
  obtain ⟨j, r, hr, rfl⟩ : ∃ j r, r < 3 ∧ q = j * 3 + r := ⟨q / 3, q % 3, Nat.mod_lt _ (by omega), by omega⟩
  have t1 := tri2_get _ _ hl1 j
  have t0 := tri2_get _ _ hl0 j
  rw [mvL_get _ _ _ (by omega)] at t1 t0
  have hi3 : i * 3 + 3 ≤ xs.length * 3 := by omega
  by_cases hj : j = i
  · subst hj
    rw [if_pos (by omega), List.getElem?_eq_getElem hi] at t1
    have hr3 : r = 0 ∨ r = 1 ∨ r = 2 := by omega
    rcases hr3 with rfl | rfl | rfl
    · simp only [Nat.add_zero] at hv ⊢
      rw [t1.1] at hv
      rw [Array.getElem?_setIfInBounds, if_neg (by omega), Array.getElem?_setIfInBounds, if_neg (by omega), Array.getElem?_setIfInBounds, if_pos rfl, if_pos (by omega)]
      exact hv
    · rw [t1.2.1] at hv
      rw [← Nat.add_assoc, Array.getElem?_setIfInBounds, if_neg (by omega), Array.getElem?_setIfInBounds, if_pos rfl, if_pos (by rw [Array.size_setIfInBounds]; omega)]
      exact hv
    · rw [t1.2.2, hp] at hv
      rw [← Nat.add_assoc, Array.getElem?_setIfInBounds, if_pos rfl, if_pos (by rw [Array.size_setIfInBounds, Array.size_setIfInBounds]; omega)]
      exact hv
  · have he : (if j < i + 1 then xs[j]?.map (fun x => movedD x e2) else xs[j]?) = (if j < i then xs[j]?.map (fun x => movedD x e2) else xs[j]?) := by
      by_cases h1 : j < i
      · rw [if_pos h1, if_pos (by omega)]
      · rw [if_neg h1, if_neg (by omega)]
    rw [he] at t1
    have hv0 : (tri2 (mvL (fun x => movedD x e2) i xs) ps)[j * 3 + r]? = some v := by
      have hr3 : r = 0 ∨ r = 1 ∨ r = 2 := by omega
      rcases hr3 with rfl | rfl | rfl
      · simp only [Nat.add_zero] at hv ⊢; rw [t0.1, ← t1.1]; exact hv
      · rw [t0.2.1, ← t1.2.1]; exact hv
      · rw [t0.2.2, ← t1.2.2]; exact hv
    rw [Array.getElem?_setIfInBounds, if_neg (by omega), Array.getElem?_setIfInBounds, if_neg (by omega), Array.getElem?_setIfInBounds, if_neg (by omega)]
    exact h _ _ hv0

theorem inner_loop {B0 : Nat} {w0 ws : World} (hB : B0 ≤ ws.heap.size) (x0 x1 x2 x4 x5 x6 x8 x9 x10 x11 x12 x13 x14 x15 x16 x17 x18 x19 x20 x21 x25 x26 x27 x28 x29 x30 x31 x32 x33 x34 x35 x36 x37 : Value) (tb lb lo c sz : Nat) (ty : TypeId)
    (xs : List T_Edit) (ps : List Value) (e2 : T_Edit) (qa : Option Addr) (ql qc : Nat) (MB : List Nat) (hps : ps.length = xs.length) (hsl : ∀ p ∈ ps, ∃ a n c, p = .slice a n c) (hn : xs.length ≤ 1048576) (hlb : lb < ws.heap.size) (hlB : B0 ≤ lb) (hfit : lo + xs.length * 3 ≤ sz)
    (htb : ws.heap[tb]? = some (.cells #[.int .i64 e2.1, .int .i64 e2.2.1, .slice qa ql qc] 35 (0, 0))) (htl : tb ≠ lb)
    (hq : VR (Cx.ext (· ∈ MB)) ws (.l .no bytesR e2.2.2) (.slice qa ql qc)) (hMB : ∀ x ∈ MB, x < ws.heap.size ∧ x ≠ lb) (s1 : ∀ x ∈ xs, smallE x = true) (s2 : smallE e2 = true)
    (h0 : InnerAt B0 w0 ws ws lb lo ty sz (fun x => movedD x e2) xs ps 0)
    (Q : Exit → Act → World → Prop)
    (hQ : ∀ (y8 y9 y25 y26 y27 y28 y29 y30 y31 y32 y33 y34 y35 : Value) (w2 : World), InnerAt B0 w0 ws w2 lb lo ty sz (fun x => movedD x e2) xs ps xs.length →
      Q (.exit 2) { tmps := #[x0, x1, x2, .pointer (some ⟨tb, 0, none⟩), x4, x5, x6, .slice (some ⟨lb, lo, none⟩) xs.length c, y8, y9, x10, x11, x12, x13, x14, x15, x16, x17, x18, x19, x20, x21, .slice (some ⟨lb, lo, none⟩) xs.length c, .int .i64 xs.length, .int .i64 xs.length, y25, y26, y27, y28, y29, y30, y31, y32, y33, y34, y35, x36, x37], defers := [] } w2) :
   Code.wp prog (.loop (bodyOf Try.f99 6)) Q { tmps := #[x0, x1, x2, .pointer (some ⟨tb, 0, none⟩), x4, x5, x6, .slice (some ⟨lb, lo, none⟩) xs.length c, x8, x9, x10, x11, x12, x13, x14, x15, x16, x17, x18, x19, x20, x21, .slice (some ⟨lb, lo, none⟩) xs.length c, .int .i64 xs.length, .int .i64 0, x25, x26, x27, x28, x29, x30, x31, x32, x33, x34, x35, x36, x37], defers := [] } ws := by
  refine wp_loop (fun a w => ∃ i : Nat, i ≤ xs.length ∧ InnerAt B0 w0 ws w lb lo ty sz (fun x => movedD x e2) xs ps i ∧ ∃ (y8 y9 y25 y26 y27 y28 y29 y30 y31 y32 y33 y34 y35 : Value),
      a = { tmps := #[x0, x1, x2, .pointer (some ⟨tb, 0, none⟩), x4, x5, x6, .slice (some ⟨lb, lo, none⟩) xs.length c, y8, y9, x10, x11, x12, x13, x14, x15, x16, x17, x18, x19, x20, x21, .slice (some ⟨lb, lo, none⟩) xs.length c, .int .i64 xs.length, .int .i64 i, y25, y26, y27, y28, y29, y30, y31, y32, y33, y34, y35, x36, x37], defers := [] })
    (fun (a : Act) _ => match (a.tmps[24]? : Option Value) with | some (Value.int _ k) => ((xs.length : Int) - k).toNat | _ => 0) ⟨0, Nat.zero_le _, h0, x8, x9, x25, x26, x27, x28, x29, x30, x31, x32, x33, x34, x35, rfl⟩ ?_
  rintro a w ⟨i, hi, hf, y8, y9, y25, y26, y27, y28, y29, y30, y31, y32, y33, y34, y35, rfl⟩
  by_cases hlt : i < xs.length
  · obtain ⟨cur, hcur, hcs, hce⟩ := hf.cells
    have hl0 : ps.length = (mvL (fun x => movedD x e2) i xs).length := by rw [mvL_len]; exact hps
    have t0 := tri2_get _ _ hl0 i
    rw [mvL_get _ _ _ (by omega), if_neg (by omega), List.getElem?_eq_getElem hlt] at t0
    have hpi : ps[i]? = some ps[i] := List.getElem?_eq_getElem (by omega)
    obtain ⟨p1, pl, pc, hp⟩ := hsl ps[i] (List.getElem_mem _)
    have hg := hf.sz
    have hx := s1 xs[i] (List.getElem_mem _)
    have hsm : smallE (xs[i].1, xs[i].2.1, ([] : List Int)) = true := smallE_put (l := xs[i].2.2) hx (by simp)
    have hle : (Cx.ext (· ∈ MB)).Le ws (Cx.ext (· ∈ MB)) w := ⟨fun _ _ _ h => h, fun _ h => h, fun _ h => h, fun b hb => hf.oth b (hMB b hb).1 (hMB b hb).2, fun _ _ _ h => h⟩
    have htl' : tb < ws.heap.size := by
      rcases Nat.lt_or_ge tb ws.heap.size with h | h
      · exact h
      · rw [Array.getElem?_eq_none h] at htb; cases htb
    refine inner_step hf.below (by omega) x0 x1 x2 x4 x5 x6 y8 y9 x10 x11 x12 x13 x14 x15 x16 x17 x18 x19 x20 x21 y25 y26 y27 y28 y29 y30 y31 y32 y33 y34 y35 x36 x37 tb lb lo xs.length c i xs[i].1 xs[i].2.1 p1 pl pc e2 qa ql qc MB cur ty hlt hn (by omega) hlB hcur
      (hce _ _ t0.1) (by rw [Nat.add_assoc]; exact hce _ _ t0.2.1) (by rw [Nat.add_assoc]; exact hce _ _ (by rw [t0.2.2, hpi, hp])) ((hf.oth tb htl' htl).trans htb) (VR.le hle _ hq) (fun x hx => by have := (hMB x hx).1; omega) hsm s2 _ ?_
    intro z8 z9 z25 z26 z27 z28 z29 z30 z31 z32 z33 z34 z35 w2 k1 k2 k3 k4
    refine ⟨⟨i + 1, hlt, ⟨⟨_, k1, by simp only [Array.size_setIfInBounds]; exact hcs, ?_⟩, fun x hx hne => (k2 x (by omega) hne).trans (hf.oth x hx hne), k3, by omega⟩, z8, z9, z25, z26, z27, z28, z29, z30, z31, z32, z33, z34, z35, rfl⟩, ?_⟩
    · rw [← hp]
      exact inner_set hps hlt hpi (by omega) hce
    · show ((xs.length : Int) - ((i + 1 : Nat) : Int)).toNat < ((xs.length : Int) - ((i : Nat) : Int)).toNat
      omega
  · obtain rfl : i = xs.length := by omega
    exact inner_exit x0 x1 x2 _ x4 x5 x6 _ y8 y9 x10 x11 x12 x13 x14 x15 x16 x17 x18 x19 x20 x21 _ y25 y26 y27 y28 y29 y30 y31 y32 y33 y34 y35 x36 x37 xs.length _ (fun z25 => hQ y8 y9 z25 y26 y27 y28 y29 y30 y31 y32 y33 y34 y35 w hf)

theorem tri_of {e : Bool} : ∀ {xs : List T_Edit} {w : World} {olds : List Value} {F : List Nat}, RowsD (RwR w e editR) 3 xs olds F →
    ∃ ps : List Value, ps.length = xs.length ∧ olds = tri2 xs ps ∧ (∀ p ∈ ps, ∃ a n c, p = .slice a n c) ∧
      ∀ (w' : World) (g : T_Edit → T_Edit), (∀ b ∈ F, w'.heap[b]? = w.heap[b]?) → (∀ x, (g x).2.2 = x.2.2) → RowsD (RwR w' e editR) 3 (xs.map g) (tri2 (xs.map g) ps) F
  | [], w, olds, F, h => ⟨[], rfl, by rw [h.1]; rfl, fun _ h => (nomatch h), fun w' g _ _ => ⟨rfl, h.2⟩⟩
  | x :: xs, w, olds, F, ⟨v1, v2, F1, F2, h1, h2, h3, h4, h5⟩ => by
    obtain ⟨ps, q1, q2, q3, q4⟩ := tri_of h5
    obtain ⟨a1, as1, A1, A2, r1, r2, r3, r4⟩ := h4
    obtain ⟨a2, as2, A3, A4, t1, t2, t3, t4⟩ := r4
    obtain ⟨a3, u1, u2⟩ := t4
    obtain ⟨r3a, rfl⟩ := r3
    obtain ⟨t3a, rfl⟩ := t3
    subst r3a; subst t3a; subst u1; subst t1; subst r1
    obtain ⟨sa, sn, sc, hs⟩ : ∃ a n c, a3 = .slice a n c := by
      rcases u2 with ⟨_, _, ad, cap, h, _⟩ | ⟨b, o, cap, F', h, _⟩
      · exact ⟨ad, 0, cap, h⟩
      · exact ⟨_, _, cap, h⟩
    refine ⟨a3 :: ps, by simp [q1], by rw [h1, q2]; rfl, fun p hp => ?_, fun w' g hw hg => ?_⟩
    · rcases List.mem_cons.1 hp with rfl | hp
      · exact ⟨sa, sn, sc, hs⟩
      · exact q3 p hp
    · have hF1 : ∀ b ∈ F1, w'.heap[b]? = w.heap[b]? := fun b hb => hw b (by rw [h2]; simp [hb])
      have hF2 : ∀ b ∈ F2, w'.heap[b]? = w.heap[b]? := fun b hb => hw b (by rw [h2]; simp [hb])
      refine ⟨[.int .i64 (g x).1, .int .i64 (g x).2.1, a3], tri2 (xs.map g) ps, F1, F2, rfl, h2, rfl, ?_, q4 w' g hF2 hg⟩
      simp only [List.nil_append] at r2 t2
      refine ⟨_, _, [], F1, rfl, rfl, ⟨rfl, rfl⟩, _, _, [], F1, rfl, rfl, ⟨rfl, rfl⟩, _, rfl, ?_⟩
      have := CcR.imp (w' := w') (fun h => h) (.sl bytesR) (u2 : CcR w e (.sl bytesR) x.2.2 a3 A4) (fun b hb => hF1 b (by rw [r2, t2]; exact hb))
      rw [← t2, ← r2] at this
      rw [hg x]
      exact this
theorem inner_any {B0 : Nat} {w0 ws : World} (hbel : Below B0 w0 ws) (hB : B0 ≤ ws.heap.size) (x0 x1 x2 x4 x5 x6 x8 x9 x10 x11 x12 x13 x14 x15 x16 x17 x18 x19 x20 x21 x25 x26 x27 x28 x29 x30 x31 x32 x33 x34 x35 x36 x37 : Value) (tb : Nat)
    (xs : List T_Edit) (la : Option Addr) (m d : Nat) (F : List Nat) (e2 : T_Edit) (qa : Option Addr) (ql qc : Nat) (MB : List Nat) (hn : xs.length ≤ 1048576)
    (hs : SlT (RwR ws false editR) ws false 3 xs (.slice la m d) F) (hFB : ∀ x ∈ F, B0 ≤ x ∧ x < ws.heap.size) (hFn : F.Nodup)
    (htb : ws.heap[tb]? = some (.cells #[.int .i64 e2.1, .int .i64 e2.2.1, .slice qa ql qc] 35 (0, 0))) (htl : tb ∉ F)
    (hq : VR (Cx.ext (· ∈ MB)) ws (.l .no bytesR e2.2.2) (.slice qa ql qc)) (hMB : ∀ x ∈ MB, x < ws.heap.size ∧ x ∉ F) (s1 : ∀ x ∈ xs, smallE x = true) (s2 : smallE e2 = true)
    (Q : Exit → Act → World → Prop)
    (hQ : ∀ (y8 y9 y25 y26 y27 y28 y29 y30 y31 y32 y33 y34 y35 : Value) (w2 : World), SlT (RwR w2 false editR) w2 false 3 (xs.map fun x => movedD x e2) (.slice la m d) F → (∀ x, x < ws.heap.size → F.head? ≠ some x → w2.heap[x]? = ws.heap[x]?) → Below B0 w0 w2 → ws.heap.size ≤ w2.heap.size →
      Q (.exit 2) { tmps := #[x0, x1, x2, .pointer (some ⟨tb, 0, none⟩), x4, x5, x6, .slice la m d, y8, y9, x10, x11, x12, x13, x14, x15, x16, x17, x18, x19, x20, x21, .slice la m d, .int .i64 m, .int .i64 m, y25, y26, y27, y28, y29, y30, y31, y32, y33, y34, y35, x36, x37], defers := [] } w2) :
   Code.wp prog (.loop (bodyOf Try.f99 6)) Q { tmps := #[x0, x1, x2, .pointer (some ⟨tb, 0, none⟩), x4, x5, x6, .slice la m d, x8, x9, x10, x11, x12, x13, x14, x15, x16, x17, x18, x19, x20, x21, .slice la m d, .int .i64 m, .int .i64 0, x25, x26, x27, x28, x29, x30, x31, x32, x33, x34, x35, x36, x37], defers := [] } ws := by
  have hg : ∀ x : T_Edit, (movedD x e2).2.2 = x.2.2 := fun _ => rfl
  rcases hs with ⟨h1, h2, ad, cap, h3, h4⟩ | ⟨lb, lo, cap, F', h1, h2, h3, h4, h5, h6⟩
  · cases h3
    subst h1
    refine wp_loop_once (inner_exit x0 x1 x2 _ x4 x5 x6 _ x8 x9 x10 x11 x12 x13 x14 x15 x16 x17 x18 x19 x20 x21 _ x25 x26 x27 x28 x29 x30 x31 x32 x33 x34 x35 x36 x37 0 _ (fun y25 => ?_))
    exact hQ x8 x9 y25 x26 x27 x28 x29 x30 x31 x32 x33 x34 x35 ws (.inl ⟨rfl, h2, _, _, rfl, h4⟩) (fun _ _ _ => rfl) hbel (Nat.le_refl _)
  · cases h1
    subst h3
    obtain ⟨cur, ty, hcur, hfit⟩ := h5 rfl
    obtain ⟨olds, hD, hce⟩ := h6.data
    obtain ⟨ps, q1, q2, q3, q4⟩ := tri_of hD
    have hcap := Nat.mul_le_mul_right 3 h2
    refine inner_loop hB x0 x1 x2 x4 x5 x6 x8 x9 x10 x11 x12 x13 x14 x15 x16 x17 x18 x19 x20 x21 x25 x26 x27 x28 x29 x30 x31 x32 x33 x34 x35 x36 x37 tb lb lo d cur.size ty xs ps e2 qa ql qc MB q1 q3 hn h4 (hFB lb (by simp)).1 (by omega) htb (fun h => htl (by simp [h])) hq
      (fun x hx => ⟨(hMB x hx).1, fun h => (hMB x hx).2 (by simp [h])⟩) s1 s2 ⟨⟨cur, hcur, rfl, fun q v hv => ?_⟩, fun _ _ _ => rfl, hbel, Nat.le_refl _⟩ Q ?_
    · have hm : mvL (fun x => movedD x e2) 0 xs = xs := by simp [mvL]
      rw [hm, ← q2] at hv
      have := hce q v hv
      simp only [World.cell?, hcur] at this
      simpa using this
    · intro y8 y9 y25 y26 y27 y28 y29 y30 y31 y32 y33 y34 y35 w2 hI
      obtain ⟨cur2, g1, g2, g3⟩ := hI.cells
      have hm : mvL (fun x => movedD x e2) xs.length xs = xs.map (fun x => movedD x e2) := by simp [mvL]
      rw [hm] at g3
      have hFo : ∀ b ∈ F', w2.heap[b]? = ws.heap[b]? := fun b hb => by
        refine hI.oth b ?_ (fun e => (List.nodup_cons.1 hFn).1 (e ▸ hb))
        exact (hFB b (by simp [hb])).2
      refine hQ y8 y9 y25 y26 y27 y28 y29 y30 y31 y32 y33 y34 y35 w2 (.inr ⟨lb, lo, d, F', by rw [List.length_map], by rw [List.length_map]; exact h2, rfl, by have := hI.sz; omega, fun _ => ⟨cur2, ty, g1, by rw [g2]; exact hfit⟩, ?_⟩) (fun x hx hne => hI.oth x hx (fun e => hne (by rw [e]; rfl))) hI.below hI.sz
      refine (q4 w2 _ hFo hg).rows (fun q v hv => ?_)
      simp only [World.cell?, g1]
      simpa using g3 q v hv

set_option maxHeartbeats 4000000 in
set_option maxRecDepth 100000 in
theorem sm_walk {B0 : Nat} {w0 w : World} (hbel : Below B0 w0 w) (hB : B0 ≤ w.heap.size) (s : T_Stack) (u1 u2 : Option Addr) (n1 c1 n2 c2 : Nat) (e2 : T_Edit) (qa : Option Addr) (ql qc : Nat) (MB : List Nat)
    (hq : VR (Cx.ext (· ∈ MB)) w (.l .no bytesR e2.2.2) (.slice qa ql qc)) (hMB : ∀ x ∈ MB, x < w.heap.size) (hs1 : ∀ x ∈ s.1, smallE x = true) (hs2 : ∀ x ∈ s.2, smallE x = true) (he2 : smallE e2 = true) (hl1 : s.1.length ≤ 1048576) (hl2 : s.2.length ≤ 1048576)
    (hcop : ∀ w', Below B0 w0 w' → w.heap.size ≤ w'.heap.size → (∀ x, x < w.heap.size → w'.heap[x]? = w.heap[x]?) → Calls prog 156 #[.agg #[.slice u1 n1 c1, .slice u2 n2 c2]] w' fun e w'' => ∃ l1 m1 d1 l2 m2 d2 FA FB, e = .returned (.agg #[.slice l1 m1 d1, .slice l2 m2 d2]) ∧
      SlT (RwR w'' false editR) w'' false 3 s.1 (.slice l1 m1 d1) FA ∧ SlT (RwR w'' false editR) w'' false 3 s.2 (.slice l2 m2 d2) FB ∧ (FA ++ FB).Nodup ∧ (∀ x ∈ FA ++ FB, w'.heap.size ≤ x ∧ x < w''.heap.size) ∧ Below B0 w0 w'' ∧ w'.heap.size ≤ w''.heap.size ∧ ∀ x, x < w'.heap.size → w''.heap[x]? = w'.heap[x]?) :
  Calls prog N.i_Stack_moved #[.agg #[.slice u1 n1 c1, .slice u2 n2 c2], .agg #[.int .i64 e2.1, .int .i64 e2.2.1, .slice qa ql qc]] w fun e w' => ∃ l1 m1 d1 l2 m2 d2 FA FB, e = .returned (.agg #[.slice l1 m1 d1, .slice l2 m2 d2]) ∧
      SlT (RwR w' false editR) w' false 3 (s.1.map fun x => movedD x e2) (.slice l1 m1 d1) FA ∧ SlT (RwR w' false editR) w' false 3 (s.2.map fun x => movedD x e2) (.slice l2 m2 d2) FB ∧ (FA ++ FB).Nodup ∧ (∀ x ∈ FA ++ FB, w.heap.size ≤ x ∧ x < w'.heap.size) ∧ Below B0 w0 w' ∧ w.heap.size ≤ w'.heap.size ∧ ∀ x, x < w.heap.size → w'.heap[x]? = w.heap[x]? := by
  have mixed := Go.Ev.Seat.mixed
  have hc := hcop (((w.alloc (.cells #[.slice u1 n1 c1, .slice u2 n2 c2] 49)).alloc (.cells #[.int .i64 e2.1, .int .i64 e2.2.1, .slice qa ql qc] 35)).alloc (.cells #[.slice none 0 0, .slice none 0 0] 49))
    (((hbel.alloc hB _).alloc (by rw [alloc_size]; omega) _).alloc (by rw [alloc_size, alloc_size]; omega) _) (by rw [alloc_size, alloc_size, alloc_size]; omega) (fun x hx => by rw [alloc_old _ _ _ (by rw [alloc_size, alloc_size]; omega), alloc_old _ _ _ (by rw [alloc_size]; omega), alloc_old _ _ _ hx])
  go_enter Try.func99, Try.ntmps99
  go_wp2_with (
    go_at_call 156
    refine hc.mono ?_
    rintro e w' ⟨l1, m1, d1, l2, m2, d2, FA, FB, rfl, k1, k2, k3, k4, k5, k6, k7⟩)
  simp only [alloc_size] at k4 k6 k7
  -- the boxes
  have q1 : w'.heap[w.heap.size + 1]? = some (.cells #[.int .i64 e2.1, .int .i64 e2.2.1, .slice qa ql qc] 35 (0, 0)) := by
    rw [k7 _ (by omega), alloc_old _ _ _ (by rw [alloc_size, alloc_size]; omega)]
    have := alloc_new (w.alloc (.cells #[.slice u1 n1 c1, .slice u2 n2 c2] 49)) (.cells #[.int .i64 e2.1, .int .i64 e2.2.1, .slice qa ql qc] 35)
    rw [alloc_size] at this
    exact this
  have q2 : w'.heap[w.heap.size + 1 + 1]? = some (.cells #[.slice none 0 0, .slice none 0 0] 49 (0, 0)) := by
    rw [k7 _ (by omega)]
    have := alloc_new ((w.alloc (.cells #[.slice u1 n1 c1, .slice u2 n2 c2] 49)).alloc (.cells #[.int .i64 e2.1, .int .i64 e2.2.1, .slice qa ql qc] 35)) (.cells #[.slice none 0 0, .slice none 0 0] 49)
    rw [alloc_size, alloc_size] at this
    exact this
  have k7' : ∀ x, x < w.heap.size → w'.heap[x]? = w.heap[x]? := fun x hx => by
    rw [k7 x (by omega), alloc_old _ _ _ (by rw [alloc_size, alloc_size]; omega), alloc_old _ _ _ (by rw [alloc_size]; omega), alloc_old _ _ _ hx]
  clear hc k7
  obtain ⟨V, hV⟩ : ∃ V, V = (w'.alloc (.cells #[.slice l1 m1 d1, .slice l2 m2 d2] 49)).alloc (.cells #[.slice l1 m1 d1, .slice l2 m2 d2] 47) := ⟨_, rfl⟩
  have hVs : V.heap.size = w'.heap.size + 2 := by rw [hV, alloc_size, alloc_size]
  have hVo : ∀ x, x < w'.heap.size → V.heap[x]? = w'.heap[x]? := fun x hx => by rw [hV, alloc_old _ _ _ (by rw [alloc_size]; omega), alloc_old _ _ _ hx]
  have hV0 : V.heap[w'.heap.size]? = some (.cells #[.slice l1 m1 d1, .slice l2 m2 d2] 49 (0, 0)) := by
    rw [hV, alloc_old _ _ _ (by rw [alloc_size]; omega)]; exact alloc_new _ _
  have hV1 : V.heap[w'.heap.size + 1]? = some (.cells #[.slice l1 m1 d1, .slice l2 m2 d2] 47 (0, 0)) := by
    rw [hV]
    have := alloc_new (w'.alloc (.cells #[.slice l1 m1 d1, .slice l2 m2 d2] 49)) (.cells #[.slice l1 m1 d1, .slice l2 m2 d2] 47)
    rw [alloc_size] at this
    exact this
  have hVb : Below B0 w0 V := by rw [hV]; exact (k5.alloc (by omega) _).alloc (by rw [alloc_size]; omega) _
  rw [← hV]
  clear hV
  have cA : V.cell? ⟨w'.heap.size + 1, 0, none⟩ = some (.slice l1 m1 d1) := by simp [World.cell?, hV1]
  have hnA : ∀ {x : Nat}, FA.head? = some x → w.heap.size + 1 + 1 + 1 ≤ x ∧ x < w'.heap.size := fun h => k4 _ (List.mem_append.2 (.inl (List.mem_of_mem_head? h)))
  have hnB : ∀ {x : Nat}, FB.head? = some x → w.heap.size + 1 + 1 + 1 ≤ x ∧ x < w'.heap.size := fun h => k4 _ (List.mem_append.2 (.inr (List.mem_of_mem_head? h)))
  have hnd := List.nodup_append.1 k3
  have sA : SlT (RwR V false editR) V false 3 s.1 (.slice l1 m1 d1) FA := k1.imp (fun h => h) (fun b hb => hVo b (k4 b (List.mem_append.2 (.inl hb))).2) (fun x vs F' hk hR => RwR.imp (fun h => h) editR hR (fun b hb => hVo b (k4 b (List.mem_append.2 (.inl (hk b hb)))).2))
  have hle : (Cx.ext (· ∈ MB)).Le w (Cx.ext (· ∈ MB)) V := ⟨fun _ _ _ h => h, fun _ h => h, fun _ h => h, fun b hb => (hVo b (by have := hMB b hb; omega)).trans (k7' b (hMB b hb)), fun _ _ _ h => h⟩
  refine wp_loop_rounds 3 ?_
  rw [rounds_succ]
  go_wp2_with fail
  refine inner_any hVb (by omega) _ _ _ _ _ _ _ _ _ _ _ _ _ _ _ _ _ _ _ _ _ _ _ _ _ _ _ _ _ _ _ _ _ (w.heap.size + 1) s.1 l1 m1 d1 FA e2 qa ql qc MB hl1 sA (fun x hx => by have := k4 x (List.mem_append.2 (.inl hx)); omega) hnd.1 ((hVo _ (by omega)).trans q1) (fun h => by have := k4 _ (List.mem_append.2 (.inl h)); omega)
    (VR.le hle _ hq) (fun x hx => ⟨by have := hMB x hx; omega, fun h => by have := k4 _ (List.mem_append.2 (.inl h)); have := hMB x hx; omega⟩) hs1 he2 _ ?_
  intro y8 y9 y25 y26 y27 y28 y29 y30 y31 y32 y33 y34 y35 w2 r1 r2 r3 r4
  have r2' : ∀ x, x < w.heap.size + 1 + 1 + 1 → w2.heap[x]? = V.heap[x]? := fun x hx => r2 x (by omega) (fun h => by have := hnA h; omega)
  have r2B : ∀ b ∈ FB, w2.heap[b]? = w'.heap[b]? := fun b hb => (r2 b (by have := k4 b (List.mem_append.2 (.inr hb)); omega) (fun h => hnd.2.2 b (List.mem_of_mem_head? h) b hb rfl)).trans (hVo b (k4 b (List.mem_append.2 (.inr hb))).2)
  have sB : SlT (RwR w2 false editR) w2 false 3 s.2 (.slice l2 m2 d2) FB := k2.imp (fun h => h) r2B (fun x vs F' hk hR => RwR.imp (fun h => h) editR hR (fun b hb => r2B b (hk b hb)))
  have r0 : w2.heap[w'.heap.size]? = some (.cells #[.slice l1 m1 d1, .slice l2 m2 d2] 49 (0, 0)) := (r2 _ (by omega) (fun h => by have := hnA h; omega)).trans hV0
  have r1' : w2.heap[w'.heap.size + 1]? = some (.cells #[.slice l1 m1 d1, .slice l2 m2 d2] 47 (0, 0)) := (r2 _ (by omega) (fun h => by have := hnA h; omega)).trans hV1
  have cB : w2.cell? ⟨w'.heap.size + 1, 1, none⟩ = some (.slice l2 m2 d2) := by simp [World.cell?, r1']
  have hle2 : (Cx.ext (· ∈ MB)).Le w (Cx.ext (· ∈ MB)) w2 := ⟨fun _ _ _ h => h, fun _ h => h, fun _ h => h, fun b hb => (r2' b (by have := hMB b hb; omega)).trans ((hVo b (by have := hMB b hb; omega)).trans (k7' b (hMB b hb))), fun _ _ _ h => h⟩
  go_wp2_with fail
  rw [rounds_succ]
  go_wp2_with fail
  refine inner_any r3 (by omega) _ _ _ _ _ _ _ _ _ _ _ _ _ _ _ _ _ _ _ _ _ _ _ _ _ _ _ _ _ _ _ _ _ (w.heap.size + 1) s.2 l2 m2 d2 FB e2 qa ql qc MB hl2 sB (fun x hx => by have := k4 x (List.mem_append.2 (.inr hx)); omega) hnd.2.1 ((r2' _ (by omega)).trans ((hVo _ (by omega)).trans q1)) (fun h => by have := k4 _ (List.mem_append.2 (.inr h)); omega)
    (VR.le hle2 _ hq) (fun x hx => ⟨by have := hMB x hx; omega, fun h => by have := k4 _ (List.mem_append.2 (.inr h)); have := hMB x hx; omega⟩) hs2 he2 _ ?_
  intro z8 z9 z25 z26 z27 z28 z29 z30 z31 z32 z33 z34 z35 w3 t1 t2 t3 t4
  have t2' : ∀ x, x < w.heap.size + 1 + 1 + 1 → w3.heap[x]? = w2.heap[x]? := fun x hx => t2 x (by omega) (fun h => by have := hnB h; omega)
  have t2A : ∀ b ∈ FA, w3.heap[b]? = w2.heap[b]? := fun b hb => t2 b (by have := k4 b (List.mem_append.2 (.inl hb)); omega) (fun h => hnd.2.2 b hb b (List.mem_of_mem_head? h) rfl)
  have sA3 : SlT (RwR w3 false editR) w3 false 3 (s.1.map fun x => movedD x e2) (.slice l1 m1 d1) FA := r1.imp (fun h => h) t2A (fun x vs F' hk hR => RwR.imp (fun h => h) editR hR (fun b hb => t2A b (hk b hb)))
  have t0 : w3.heap[w'.heap.size]? = some (.cells #[.slice l1 m1 d1, .slice l2 m2 d2] 49 (0, 0)) := (t2 _ (by omega) (fun h => by have := hnB h; omega)).trans r0
  have tq : w3.heap[w.heap.size + 1 + 1]? = some (.cells #[.slice none 0 0, .slice none 0 0] 49 (0, 0)) := (t2' _ (by omega)).trans ((r2' _ (by omega)).trans ((hVo _ (by omega)).trans q2))
  have g0 : w3.cell? ⟨w'.heap.size, 0, none⟩ = some (.slice l1 m1 d1) := by simp [World.cell?, t0]
  have g1 : w3.cell? ⟨w'.heap.size, 1, none⟩ = some (.slice l2 m2 d2) := by simp [World.cell?, t0]
  have e0 : w3.cell? ⟨w.heap.size + 1 + 1, 0, none⟩ = some (.slice none 0 0) := by simp [World.cell?, tq]
  have e1 : w3.cell? ⟨w.heap.size + 1 + 1, 1, none⟩ = some (.slice none 0 0) := by simp [World.cell?, tq]
  have e0f : w3.frozen? ⟨w.heap.size + 1 + 1, 0, none⟩ = false := by simp [World.frozen?, tq]
  have e1f : w3.frozen? ⟨w.heap.size + 1 + 1, 1, none⟩ = false := by simp [World.frozen?, tq]
  go_wp2_with fail
  rw [rounds_succ]
  go_wp2_with fail
  rw [setCell2 tq]
  have hoth : ∀ x, x ≠ w.heap.size + 1 + 1 → (w3.setRow (w.heap.size + 1 + 1) #[.slice l1 m1 d1, .slice l2 m2 d2]).heap[x]? = w3.heap[x]? := fun x hx => setRow_other w3 _ x _ hx
  have hszz : (w3.setRow (w.heap.size + 1 + 1) #[.slice l1 m1 d1, .slice l2 m2 d2]).heap.size = w3.heap.size := by
    show (w3.heap.modify _ _).size = _
    rw [Array.size_modify]
  have hFA : ∀ b ∈ FA, b ≠ w.heap.size + 1 + 1 := fun b hb => by have := k4 b (List.mem_append.2 (.inl hb)); omega
  have hFB : ∀ b ∈ FB, b ≠ w.heap.size + 1 + 1 := fun b hb => by have := k4 b (List.mem_append.2 (.inr hb)); omega
  refine bodyPost_ret (results_cell_row rfl _ _ (w.heap.size + 1 + 1) 49 _ (0, 0) _ rfl (setRow_heap w3 _ _ _ 49 (0, 0) tq) Try.underlying49 rfl (by kernel_rfl)) rfl
    ⟨l1, m1, d1, l2, m2, d2, FA, FB, rfl, sA3.imp (fun h => h) (fun b hb => hoth b (hFA b hb)) (fun x vs F' hk hR => RwR.imp (fun h => h) editR hR (fun b hb => hoth b (hFA b (hk b hb)))),
      t1.imp (fun h => h) (fun b hb => hoth b (hFB b hb)) (fun x vs F' hk hR => RwR.imp (fun h => h) editR hR (fun b hb => hoth b (hFB b (hk b hb)))), k3, fun x hx => ?_, Below.setRow' t3 (by omega) _, by rw [hszz]; omega, fun x hx => ?_⟩
  · rw [hszz]
    have := k4 x hx
    omega
  · rw [hoth x (by omega), t2' x (by omega), r2' x (by omega), hVo x (by omega), k7' x hx]
/-- Lists of edits that are small. -/
def smPre (s : T_Stack) (e : T_Edit) : Bool := fitR stackR s && s.1.all smallE && s.2.all smallE && smallE e
def smD (s : T_Stack) (e : T_Edit) : T_Stack := (s.1.map fun x => movedD x e, s.2.map fun x => movedD x e)
def G_sm : Sm := S_fn [.a stackR, .a editR] (fun d => smPre d.1 d.2.1) (fun d => .a (stackR.cells .deep (smD d.1 d.2.1)))
theorem sm_ok : OkFn prog I N.i_Stack_moved true G_sm := by
  refine ⟨Try.call99, fun ws K q hq B0 w0 w N vs O M H hI hbel hB hargs hnd hO hM hH hN => ?_⟩
  unfold G_sm S_fn at hq
  split at hq
  case h_2 => cases hq
  rename_i dd hdd
  have hws := sgD_ok _ hdd
  obtain ⟨s, e2, ⟨⟩⟩ := dd
  change (bif smPre s e2 then K (.a (stackR.cells .deep (smD s e2)), []) else none) = some q at hq
  cases hp : smPre s e2 with
  | false => rw [hp] at hq; cases hq
  | true =>
  rw [hp] at hq
  have hq' : K (.a (stackR.cells .deep (smD s e2)), []) = some q := hq
  subst hws
  unfold smPre at hp
  simp only [Bool.and_eq_true, List.all_eq_true] at hp
  obtain ⟨⟨⟨hfit, hs1⟩, hs2⟩, he2⟩ := hp
  obtain ⟨v1, vs1, O1, O1', M1, M1', H1, H1', rfl, rfl, rfl, rfl, a1, b1⟩ := hargs
  obtain ⟨v2, vs2, O2, O2', M2, M2', H2, H2', rfl, rfl, rfl, rfl, a2, b2⟩ := b1
  obtain ⟨rfl, rfl, rfl, rfl⟩ := b2
  have a1' := a1
  obtain ⟨us, rfl, c1⟩ := a1
  obtain ⟨u1, us1, P1, P1', Q1, Q1', R1, R1', rfl, rfl, rfl, rfl, ⟨g1, rfl, rfl⟩, c2⟩ := c1
  obtain ⟨u2, us2, P2, P2', Q2, Q2', R2, R2', rfl, rfl, rfl, rfl, ⟨g2, rfl, rfl⟩, c3⟩ := c2
  obtain ⟨rfl, rfl, rfl, rfl⟩ := c3
  obtain ⟨es, rfl, f1⟩ := a2
  obtain ⟨v3, es1, P3, P3', Q3, Q3', R3, R3', rfl, rfl, rfl, rfl, ⟨f3, rfl, rfl⟩, f4⟩ := f1
  obtain ⟨v4, es2, P4, P4', Q4, Q4', R4, R4', rfl, rfl, rfl, rfl, ⟨f5, rfl, rfl⟩, f6⟩ := f4
  obtain ⟨v5, es3, P5, P5', Q5, Q5', R5, R5', rfl, rfl, rfl, rfl, ⟨f7, rfl, rfl⟩, f8⟩ := f6
  obtain ⟨rfl, rfl, rfl, rfl⟩ := f8
  have z3 : v3 = .int .i64 e2.1 := f3.1
  have z4 : v4 = .int .i64 e2.2.1 := f5.1
  subst z3; subst z4
  have slc : ∀ {r : Rw} {xs : List r.T} {v : Value} {F : List Nat}, CcR w true (.sl r) xs v F → ∃ a n c, v = .slice a n c := fun h => by
    rcases h with ⟨_, _, ad, cap, h, _⟩ | ⟨b, o, cap, F', h, _⟩
    · exact ⟨ad, 0, cap, h⟩
    · exact ⟨_, _, cap, h⟩
  obtain ⟨x1, n1, y1, rfl⟩ : ∃ a n c, u1 = .slice a n c := by obtain ⟨F, hF, _⟩ := g1; exact slc hF
  obtain ⟨x2, n2, y2, rfl⟩ : ∃ a n c, u2 = .slice a n c := by obtain ⟨F, hF, _⟩ := g2; exact slc hF
  obtain ⟨qa, ql, qc, rfl⟩ : ∃ a n c, v5 = .slice a n c := by obtain ⟨F, hF, _⟩ := f7; exact slc hF
  have hl1 : s.1.length ≤ 1048576 := fitC_len (fitR_fst hfit)
  have hl2 : s.2.length ≤ 1048576 := fitC_len (fitR_snd hfit)
  have hMlt : ∀ x ∈ Q5, x < w.heap.size := fun x hx => hN x (hM x (by simp [hx]))
  have hMlt1 : ∀ x ∈ Q1 ++ (Q2 ++ []), x < w.heap.size := fun x hx => hN x (hM x (List.mem_append.2 (.inl hx)))
  have hcop : ∀ w', Below B0 w0 w' → w.heap.size ≤ w'.heap.size → (∀ x, x < w.heap.size → w'.heap[x]? = w.heap[x]?) → Calls prog 156 #[.agg #[.slice x1 n1 y1, .slice x2 n2 y2]] w' fun e w'' => ∃ l1 m1 d1 l2 m2 d2 FA FB, e = .returned (.agg #[.slice l1 m1 d1, .slice l2 m2 d2]) ∧
      SlT (RwR w'' false editR) w'' false 3 s.1 (.slice l1 m1 d1) FA ∧ SlT (RwR w'' false editR) w'' false 3 s.2 (.slice l2 m2 d2) FB ∧ (FA ++ FB).Nodup ∧ (∀ x ∈ FA ++ FB, w'.heap.size ≤ x ∧ x < w''.heap.size) ∧ Below B0 w0 w'' ∧ w'.heap.size ≤ w''.heap.size ∧ ∀ x, x < w'.heap.size → w''.heap[x]? = w'.heap[x]? := by
    intro w' hb' hz' hs'
    have hG : ∀ K, S_i_Stack_copied [.a (stackR.cells .no s)] K = K (.a (stackR.cells .deep s), []) := fun K => by
      show (bif fitR stackR s then K _ else none) = _
      rw [hfit]; rfl
    have hle : ∀ {MM : List Nat}, (∀ x ∈ MM, x < w.heap.size) → (Cx.ext (· ∈ MM)).Le w (Cx.ext (· ∈ MM)) w' := fun hMM => ⟨fun _ _ _ h => h, fun _ h => h, fun _ h => h, fun b hb => hs' b (hMM b hb), fun _ _ _ h => h⟩
    have ha : ArgsR w' [.a (stackR.cells .no s)] [.agg #[.slice x1 n1 y1, .slice x2 n2 y2]] [] (Q1 ++ (Q2 ++ [])) [] := by
      refine ⟨_, _, [], [], Q1 ++ (Q2 ++ []), [], [], [], rfl, rfl, (List.append_nil _).symm, rfl, ⟨_, rfl, _, _, [], [], Q1, Q2 ++ [], [], [], rfl, rfl, rfl, rfl, ⟨VR.le (hle fun x hx => hMlt1 x (by simp [hx])) _ g1, rfl, rfl⟩, _, _, [], [], Q2, [], [], [], rfl, rfl, rfl, rfl, ⟨VR.le (hle fun x hx => hMlt1 x (by simp [hx])) _ g2, rfl, rfl⟩, rfl, rfl, rfl, rfl⟩, rfl, rfl, rfl, rfl⟩
    refine Calls.mono (okS_i_Stack_copied.use hI hb' (by omega) hG ha (fun x hx => Nat.lt_of_lt_of_le (hMlt1 x hx) hz')) ?_
    rintro e w'' ⟨cv, rfl, hBk⟩
    obtain ⟨A1, B1, C1, A2, B2, C2, hret, hio, hnd2, hmem, _⟩ := hBk.ex
    obtain ⟨_, rfl, _, _⟩ := hio
    rw [List.append_nil] at hnd2 hmem
    obtain ⟨rs, rfl, hrs⟩ := hret
    obtain ⟨r1, rs1, D1, D1', E1, E1', G1, G1', rfl, rfl, rfl, rfl, ⟨k1, _, _⟩, hrs⟩ := hrs
    obtain ⟨r2, rs2, D2, D2', E2, E2', G2, G2', rfl, rfl, rfl, rfl, ⟨k2, _, _⟩, hrs⟩ := hrs
    obtain ⟨rfl, rfl, _, _⟩ := hrs
    rw [List.append_nil] at hnd2 hmem
    have slc' : ∀ {xs : List T_Edit} {v : Value} {F : List Nat}, SlT (RwR w'' false editR) w'' false editR.n xs v F → ∃ a n c, v = .slice a n c := fun h => by
      rcases h with ⟨_, _, ad, cap, h, _⟩ | ⟨b, o, cap, F', h, _⟩
      · exact ⟨ad, 0, cap, h⟩
      · exact ⟨_, _, cap, h⟩
    obtain ⟨l1, m1, d1, rfl⟩ := slc' k1
    obtain ⟨l2, m2, d2, rfl⟩ := slc' k2
    refine ⟨l1, m1, d1, l2, m2, d2, D1, D2, rfl, k1, k2, hnd2, fun x hx => ⟨?_, (hmem x hx).2⟩, hBk.below, hBk.sz, fun x hx => hBk.fr x hx (.inl (fun h => nomatch h))⟩
    rcases (hmem x hx).1 with h | h
    · cases h
    · exact h
  have hmain := sm_walk hbel hB s x1 x2 n1 y1 n2 y2 e2 qa ql qc Q5 f7 hMlt hs1 hs2 he2 hl1 hl2 hcop
  refine Calls.mono hmain ?_
  rintro e w' ⟨l1, m1, d1, l2, m2, d2, FA, FB, rfl, k1, k2, k3, k4, k5, k6, k7⟩
  refine ⟨_, hq', ?_⟩
  refine ⟨⟨FA ++ (FB ++ []), FA.drop 1 ++ (FB.drop 1 ++ []), FA.take 1 ++ (FB.take 1 ++ []), [], [], [], ⟨_, rfl, _, _, FA, FB ++ [], FA.drop 1, FB.drop 1 ++ [], FA.take 1, FB.take 1 ++ [], rfl, rfl, rfl, rfl, ⟨k1, rfl, rfl⟩, _, _, FB, [], FB.drop 1, [], FB.take 1, [], rfl, rfl, rfl, rfl, ⟨k2, rfl, rfl⟩, rfl, rfl, rfl, rfl⟩, ⟨rfl, rfl, rfl, rfl⟩, ?_, ?_, ?_, ?_⟩, k5, k6, fun x hx _ => k7 x hx⟩
  · simpa using k3
  · intro x hx
    have hx' : x ∈ FA ++ FB := by simpa using hx
    exact ⟨.inr (k4 x hx').1, (k4 x hx').2⟩
  · intro x hx
    have hx' : x ∈ FA ++ FB := by
      simp only [List.append_nil, List.mem_append] at hx ⊢
      exact hx.imp List.mem_of_mem_drop List.mem_of_mem_drop
    exact ⟨.inr (.inr (k4 x hx').1), (k4 x hx').2, fun _ => by simpa using hx'⟩
  · intro x hx
    simp only [List.append_nil, List.mem_append] at hx ⊢
    have hdA : ∀ {F : List Nat}, F.Nodup → x ∈ F.take 1 → x ∉ F.drop 1 := fun hF h1 h2 => by
      cases ‹List Nat› with
      | nil => cases h1
      | cons b F =>
        have e : x = b := by simpa using h1
        subst e
        exact (List.nodup_cons.1 hF).1 (by simpa using h2)
    have hnn := List.nodup_append.1 k3
    have hx' : x ∈ FA ++ FB := by
      simp only [List.mem_append]
      exact hx.imp List.mem_of_mem_take List.mem_of_mem_take
    refine ⟨fun hd => ?_, fun hn => by have := hN x hn; have := (k4 x hx').1; omega⟩
    rcases hx with h | h
    · rcases hd with hd | hd
      · exact hdA hnn.1 h hd
      · exact hnn.2.2 x (List.mem_of_mem_take h) x (List.mem_of_mem_drop hd) rfl
    · rcases hd with hd | hd
      · exact hnn.2.2 x (List.mem_of_mem_drop hd) x (List.mem_of_mem_take h) rfl
      · exact hdA hnn.2.1 h hd
def S_i_Stack_moved : Sm := S_fnR [.a stackR, .a editR] (fun d => smPre d.1 d.2.1) (fun d => (.a (stackR.cells .deep (smD d.1 d.2.1)), []))
theorem okS_i_Stack_moved : OkFn prog I N.i_Stack_moved true S_i_Stack_moved := okN sm_ok (S_fnR_of fun d K h => by
  show (bif smPre d.1 d.2.1 then K (.a (stackR.cells .deep (smD d.1 d.2.1)), []) else none) = _
  rw [h]; rfl)
end Go.Ev.Seat
end
section
/- i_StackMoved: its contract. -/
namespace Go.Ev.Seat
open Go.RowKit
set_option maxRecDepth 100000
set_option linter.unusedVariables false
set_option linter.unusedSimpArgs false
noncomputable abbrev ls_i_StackMoved : List (Nat × Bool × Sm) := [(N.i_isStack, true, S_i_isStack), (N.i_Edit_isSmall, true, S_i_Edit_isSmall), (N.i_Stack_moved, true, S_i_Stack_moved)]
noncomputable abbrev E_i_StackMoved : Env := En ls_i_StackMoved [] [] [] false 0 []
noncomputable def T_i_StackMoved (s : T_Stack) (e : T_Edit) (K : Ret → Option Ret) : Option Ret := (bif ((Nat.ble (List.length s.1) 1048576) && (Nat.ble (List.length s.2) 1048576)) then (bif (!(stackOkD s)) then K ((.t [(.a [(.l .deep editR []), (.l .deep editR [])]), (.s (.bool false))]), []) else (bif (!(smallE e)) then K ((.t [(.a [(.l .deep editR []), (.l .deep editR [])]), (.s (.bool false))]), []) else (bif (smPre s e) then (bif ((Nat.ble (List.length (List.map (fun x => (movedD x e)) s.1)) 1048576) && (Nat.ble (List.length (List.map (fun x => (movedD x e)) s.2)) 1048576)) then (bif (!(stackOkD ((List.map (fun x => (movedD x e)) s.1), (List.map (fun x => (movedD x e)) s.2)))) then K ((.t [(.a [(.l .deep editR []), (.l .deep editR [])]), (.s (.bool false))]), []) else K ((.t [(.a [(.l .deep editR (List.map (fun x => (movedD x e)) s.1)), (.l .deep editR (List.map (fun x => (movedD x e)) s.2))]), (.s (.bool true))]), [])) else none) else none))) else none)
theorem e_i_StackMoved (s : T_Stack) (e : T_Edit) (K : Ret → Option Ret) : evF E_i_StackMoved true F.i_StackMoved [.a (stackR.cells .no s), .a (editR.cells .no e)] K = T_i_StackMoved s e K := by kernel_rfl
def S_i_StackMoved : Sm := S_fnR [.a stackR, .a editR] (fun d => fitR stackR d.1) (fun d => (.t [.a (stackR.cells .deep (stackMovedD d.1 d.2.1).1), bl (stackMovedD d.1 d.2.1).2], []))
theorem v_i_StackMoved (s : T_Stack) (e : T_Edit) (h : (fitR stackR s) = true) (K : Ret → Option Ret) : T_i_StackMoved s e K = K (.t [.a (stackR.cells .deep (stackMovedD s e).1), bl (stackMovedD s e).2], []) := by
  have f1 : fitC (.sl editR) s.1 = true := fitR_fst h
  have f2 : fitC (.sl editR) s.2 = true := fitR_snd h
  unfold T_i_StackMoved stackMovedD
  rw [Nat.ble_eq_true_of_le (fitC_len f1), Nat.ble_eq_true_of_le (fitC_len f2)]
  cases h3 : stackOkD s with
  | false => rfl
  | true =>
  cases h5 : smallE e with
  | false => rfl
  | true =>
  obtain ⟨a1, a2, n1, n2⟩ := stackOk_all h3
  have hp : smPre s e = true := by
    unfold smPre
    rw [h, a1, a2, h5]; rfl
  rw [hp, Nat.ble_eq_true_of_le (show (s.1.map fun x => movedD x e).length ≤ 1048576 by rw [List.length_map]; omega), Nat.ble_eq_true_of_le (show (s.2.map fun x => movedD x e).length ≤ 1048576 by rw [List.length_map]; omega)]
  cases stackOkD (s.1.map fun x => movedD x e, s.2.map fun x => movedD x e) <;> rfl
theorem okS_i_StackMoved : OkFn prog I N.i_StackMoved true S_i_StackMoved := okN (ok_fn (memc okS_i_isStack (memc okS_i_Edit_isSmall (memc okS_i_Stack_moved mem0))) (l := ls_i_StackMoved) (p := []) (ls := []) (lend := []) (focus := false) (fuel := 0) (give := []) (fn := F.i_StackMoved) (by kernel_rfl) (by kernel_rfl) (by kernel_rfl) (by kernel_rfl) (cs := []) (by kernel_rfl) loops0) (S_fnR_of fun d K h => (e_i_StackMoved d.1 d.2.1 K).trans (v_i_StackMoved d.1 d.2.1 h K))
end Go.Ev.Seat
end
section
/- The law FnExactStackMoved. Printed by laws.py. -/
namespace Go.Ev.Seat
open Go.RowKit
set_option maxRecDepth 100000
set_option linter.unusedVariables false
noncomputable abbrev ls_StackMoved (T : MText) : List (Nat × Bool × Sm) := [(N.s_StackMoved, true, S_s_StackMoved), (N.i_StackMoved, true, S_i_StackMoved), (N.l_toStack, true, S_toA stackR), (N.l_eqStack, true, S_eqA stackR), (N.l_szStack, true, S_szA stackR), (N.l_markStack, true, S_markA T stackR), (N.l_toEdit, true, S_toA editR), (N.l_eqEdit, true, S_eqA editR), (N.l_szEdit, true, S_szA editR), (N.l_markEdit, true, S_markA T editR), (N.l_heldStack, true, S_heldA T stackR)]
noncomputable abbrev pl_StackMoved : List (Nat × Plan × List Nat) := [(8, takeB [0, 2] (.fork (.more 1 (.fork (.more 3 (.fork (.more 4 (takeB [5, 6, 7] (.fork (.one 8 (.fork (.one 9 (takes [10])))))) (.one 8 (.fork (.one 4 (takeB [5, 6, 7] (.fork (.one 9 (takes [10]))))))))) (.one 8 (.fork (.one 3 (.fork (.one 4 (takeB [5, 6, 7] (.fork (.one 9 (takes [10]))))))))))) (.one 8 (.fork (.one 1 (.fork (.one 3 (.fork (.one 4 (takeB [5, 6, 7] (.fork (.one 9 (takes [10]))))))))))))), []), (14, takeB [0, 1] (.fork (.one 2 (.fork (.one 3 (takes [4]))))), []), (16, takeB [0, 1] (.fork (.one 2 (.fork (.one 3 (takes [4]))))), []), (31, takeB [0, 2] (.fork (.more 1 (.fork (.more 3 (.fork (.more 4 (takeB [5, 6, 7] (.fork (.one 8 (.fork (.one 9 (takes [10])))))) (.one 8 (.fork (.one 4 (takeB [5, 6, 7] (.fork (.one 9 (takes [10]))))))))) (.one 8 (.fork (.one 3 (.fork (.one 4 (takeB [5, 6, 7] (.fork (.one 9 (takes [10]))))))))))) (.one 8 (.fork (.one 1 (.fork (.one 3 (.fork (.one 4 (takeB [5, 6, 7] (.fork (.one 9 (takes [10]))))))))))))), [])]
noncomputable def G_StackMoved (T : MText) := evF (En (ls_StackMoved T) pl_StackMoved [] [N.l_markEdit, N.l_markStack] true) true F.l_FnExactStackMoved
theorem ok_StackMoved (T : MText) : OkFn prog I N.l_FnExactStackMoved true (G_StackMoved T) := ok_fn (l := ls_StackMoved T) (memc okS_s_StackMoved (memc okS_i_StackMoved (memc okS_toStack (memc okS_eqStack (memc okS_szStack (memc (okS_markStack T) (memc okS_toEdit (memc okS_eqEdit (memc okS_szEdit (memc (okS_markEdit T) (memc (okS_heldStack T) mem0))))))))))) (by kernel_rfl) (by kernel_rfl) (by kernel_rfl) (by kernel_rfl) (cs := []) (by kernel_rfl) loops0
noncomputable def L1_StackMoved (T : MText) (s : T_Stack) (a : T_Edit) (K : Ret → Option Ret) : Option Ret := (bif stackR.cnt (stackMovedD s a).1 then (bif !(eqD ((stackMovedD s a).1 : T_Stack) (stackMovedD s a).1) then K (bl false, []) else (bif !((stackMovedD s a).2 == (stackMovedD s a).2) then K (bl false, []) else (bif (eqD (stackR.markA T (stackR.markA T (stackMovedD s a).1 (1 : Int)).1 (1 : Int)).1 (stackR.markA T (stackMovedD s a).1 (1 : Int)).1) && (stackR.cnt (stackR.markA T (stackMovedD s a).1 (1 : Int)).1 && decide ((0 : Int) ≤ (1 : Int)) && decide ((1 : Int) + ((stackR.marksA (stackR.markA T (stackMovedD s a).1 (1 : Int)).1 : Nat) : Int) ≤ 4611686018427387904)) then (bif decide ((stackR.markA T (stackR.markA T (stackMovedD s a).1 (1 : Int)).1 (1 : Int)).2 < 0) then K (bl false, []) else (bif (stackR.markA T (stackR.markA T (stackMovedD s a).1 (1 : Int)).1 (1 : Int)).2 != (stackR.markA T (stackMovedD s a).1 (1 : Int)).2 then K (bl false, []) else K (bl true, []))) else none))) else none)
noncomputable def L0_StackMoved (T : MText) (s : T_Stack) (a : T_Edit) (K : Ret → Option Ret) : Option Ret := (bif stackR.lim s then (bif editR.lim a then (bif fitR stackR s then (bif stackR.cnt (stackMovedD s a).1 then (bif !(eqD ((stackMovedD s a).1 : T_Stack) (stackMovedD s a).1) then K (bl false, []) else (bif !((stackMovedD s a).2 == (stackMovedD s a).2) then K (bl false, []) else (bif stackR.lim s then (bif stackR.cnt s then (bif !(eqD (s : T_Stack) s) then K (bl false, []) else (bif editR.lim a then (bif editR.cnt a then (bif !(eqD (a : T_Edit) a) then K (bl false, []) else (bif stackR.cnt s then (bif editR.cnt a then (bif decide ((editR.markA T a (stackR.markA T s (1 : Int)).2).2 < 0) then K (bl false, []) else (bif stackR.cnt (stackMovedD s a).1 then (bif !(eqD ((stackMovedD s a).1 : T_Stack) (stackMovedD s a).1) then K (bl false, []) else (bif !((stackMovedD s a).2 == (stackMovedD s a).2) then K (bl false, []) else (bif stackR.cnt (stackMovedD s a).1 then (bif (eqD (stackR.markA T (stackR.markA T (stackMovedD s a).1 (1 : Int)).1 (1 : Int)).1 (stackR.markA T (stackMovedD s a).1 (1 : Int)).1) && (stackR.cnt (stackR.markA T (stackMovedD s a).1 (1 : Int)).1 && decide ((0 : Int) ≤ (1 : Int)) && decide ((1 : Int) + ((stackR.marksA (stackR.markA T (stackMovedD s a).1 (1 : Int)).1 : Nat) : Int) ≤ 4611686018427387904)) then (bif decide ((stackR.markA T (stackR.markA T (stackMovedD s a).1 (1 : Int)).1 (1 : Int)).2 < 0) then K (bl false, []) else (bif (stackR.markA T (stackR.markA T (stackMovedD s a).1 (1 : Int)).1 (1 : Int)).2 != (stackR.markA T (stackMovedD s a).1 (1 : Int)).2 then K (bl false, []) else (meet (bif stackR.lim s then (meet (bif editR.lim a then (meet (bif fitR stackR s then (L1_StackMoved T s a K) else none) (bif fitR stackR s then (L1_StackMoved T s a K) else none)) else none) (bif editR.lim a then (bif fitR stackR s then (L1_StackMoved T s a K) else none) else none)) else none) (bif stackR.lim s then (bif editR.lim a then (bif fitR stackR s then (L1_StackMoved T s a K) else none) else none) else none)))) else none) else none))) else none)) else none) else none)) else none) else none)) else none) else none))) else none) else none) else none) else none)
theorem law_StackMoved (T : MText) (s : T_Stack) (a : T_Edit) (K : Ret → Option Ret) (hwf0 : stackR.wf s) (hwf1 : editR.wf a) : G_StackMoved T [.a (stackR.cells .no s), .a (editR.cells .no a)] K = K (bl true, []) := by
  have e : G_StackMoved T [.a (stackR.cells .no s), .a (editR.cells .no a)] K = (bif szOk (1048576 : Int) && stackR.cnz s then (bif decide (szN (stackR.w s) (1048576 : Int) < 0) then K (bl true, []) else (bif szOk (szN (stackR.w s) (1048576 : Int)) && editR.cnz a then (bif decide (szN (editR.w a) (szN (stackR.w s) (1048576 : Int)) < 0) then K (bl true, []) else (meet (bif stackR.lim s then (meet (bif editR.lim a then (meet (bif fitR stackR s then (L0_StackMoved T s a K) else none) (bif fitR stackR s then (L0_StackMoved T s a K) else none)) else none) (bif editR.lim a then (bif fitR stackR s then (L0_StackMoved T s a K) else none) else none)) else none) (bif stackR.lim s then (bif editR.lim a then (bif fitR stackR s then (L0_StackMoved T s a K) else none) else none) else none))) else none)) else none) := by kernel_rfl
  refine e.trans ?_
  have hz0 : stackR.cnz s = true := Rw.cnz_of_wf stackR s hwf0
  have hz1 : editR.cnz a = true := Rw.cnz_of_wf editR a hwf1
  refine lw_sz (show szOk 1048576 = true by rfl) hz0 (fun n0 e0 s0 => ?_)
  refine lw_sz s0 hz1 (fun n1 e1 s1 => ?_)
  have hw0 : stackR.w s ≤ 1048576 := by omega
  have lim0 : stackR.lim s = true := Rw.lim_ok stackR s hw0
  have cnt0 : stackR.cnt s = true := Rw.cnt_of_lim stackR s lim0
  have mk0 : stackR.marksA s ≤ 32 * stackR.w s := Rw.marksA_le stackR rfl s
  have hw1 : editR.w a ≤ 1048576 := by omega
  have lim1 : editR.lim a = true := Rw.lim_ok editR a hw1
  have cnt1 : editR.cnt a = true := Rw.cnt_of_lim editR a lim1
  have mk1 : editR.marksA a ≤ 32 * editR.w a := Rw.marksA_le editR rfl a
  have hpre : fitR stackR s = true := fitR_of stackR s hwf0 lim0
  have rw0 : stackR.w (stackMovedD s a).1 ≤ 1099511627776 := stackMoved_w s a
  have rcnt0 : stackR.cnt (stackMovedD s a).1 = true := Rw.cnt_of_w stackR (stackMovedD s a).1 (by omega)
  have rmk0 : stackR.marksA (stackMovedD s a).1 ≤ 32 * stackR.w (stackMovedD s a).1 := Rw.marksA_le stackR rfl (stackMovedD s a).1
  have k0 := Rw.markA_cnt T stackR s (1 : Int) (by omega) (by omega)
  have k1 := Rw.markA_cnt T editR a (stackR.markA T s (1 : Int)).2 (by omega) (by omega)
  have pk2 : 0 ≤ (editR.markA T a (stackR.markA T s (1 : Int)).2).2 := by omega
  have mm0 := Rw.markA_cnt T stackR (stackMovedD s a).1 (1 : Int) (by omega) (by omega)
  have hq0 : (1 : Int) = 1 := rfl
  have id0 : stackR.markA T (stackR.markA T (stackMovedD s a).1 (1 : Int)).1 (1 : Int) = stackR.markA T (stackMovedD s a).1 (1 : Int) := Rw.markA_idem T stackR (stackMovedD s a).1 (1 : Int)
  have hq1 : (stackR.markA T (stackR.markA T (stackMovedD s a).1 (1 : Int)).1 (1 : Int)).2 = (stackR.markA T (stackMovedD s a).1 (1 : Int)).2 := congrArg Prod.snd id0
  have hg0 : eqD (stackR.markA T (stackR.markA T (stackMovedD s a).1 (1 : Int)).1 (1 : Int)).1 (stackR.markA T (stackMovedD s a).1 (1 : Int)).1 = true := eqD_iff.2 (congrArg Prod.fst id0)
  have gcnt0 : stackR.cnt (stackR.markA T (stackMovedD s a).1 (1 : Int)).1 = true := (Rw.markA_w T stackR (stackMovedD s a).1 (1 : Int)).trans rcnt0
  have gmk0 : stackR.marksA (stackR.markA T (stackMovedD s a).1 (1 : Int)).1 = stackR.marksA (stackMovedD s a).1 := Rw.markA_marks T stackR (stackMovedD s a).1 (1 : Int)
  have pq0 : 0 ≤ (1 : Int) := by omega
  have bq0 : (1 : Int) + ((stackR.marksA (stackR.markA T (stackMovedD s a).1 (1 : Int)).1 : Nat) : Int) ≤ 4611686018427387904 := by omega
  have pq1 : 0 ≤ (stackR.markA T (stackR.markA T (stackMovedD s a).1 (1 : Int)).1 (1 : Int)).2 := by omega
  have t1 : L1_StackMoved T s a K = K (bl true, []) := by
    unfold L1_StackMoved
    exact (lw_eq rcnt0 (lw_bool (lw_held hg0 gcnt0 pq0 bq0 (lw_lt pq1 (lw_int2 hq1 rfl)))))
  have t0 : L0_StackMoved T s a K = K (bl true, []) := by
    unfold L0_StackMoved
    exact (to_step lim0 (to_step lim1 (to_step hpre (lw_eq rcnt0 (lw_bool (to_step lim0 (lw_eq cnt0 (to_step lim1 (lw_eq cnt1 (to_step cnt0 (to_step cnt1 (lw_lt pk2 (lw_eq rcnt0 (lw_bool (to_step rcnt0 (lw_held hg0 gcnt0 pq0 bq0 (lw_lt pq1 (lw_int2 hq1 (lw_meet (to_step lim0 (lw_meet (to_step lim1 (lw_meet (to_step hpre t1) (to_step hpre t1))) (to_step lim1 (to_step hpre t1)))) (to_step lim0 (to_step lim1 (to_step hpre t1))))))))))))))))))))))
  exact (lw_meet (to_step lim0 (lw_meet (to_step lim1 (lw_meet (to_step hpre t0) (to_step hpre t0))) (to_step lim1 (to_step hpre t0)))) (to_step lim0 (to_step lim1 (to_step hpre t0))))
end Go.Ev.Seat
end
section
/- Kinds of types that come in, checked by reckoning. -/
set_option linter.unusedVariables false
namespace Go.Ev
open Go.RowKit
mutual
def ccN (P : Program) : Nat → Cc → TypeId → Bool
  | 0, _, _ => false
  | n + 1, c, t => match c, P.underlying t with
    | .int k, some (.int k') => decide (k' = k)
    | .bool, some .bool => true
    | .str, some .string => true
    | .sl r, some (.slice e) => Nat.beq (P.cellsOf e) r.n && (match layN P n r.list e with
      | some [] => true
      | _ => false)
    | _, _ => false
/-- The cells of a type, taken off a list: what is left. -/
def layN (P : Program) : Nat → List Cc → TypeId → Option (List Cc)
  | 0, _, _ => none
  | n + 1, cs, t => match cs with
    | [] => none
    | c :: rest => bif ccN P n c t then some rest else match P.underlying t with
      | some (.struct fs) => fsN P n (c :: rest) 0 fs.toList
      | _ => none
def fsN (P : Program) : Nat → List Cc → Nat → List Field → Option (List Cc)
  | 0, _, _, _ => none
  | n + 1, cs, i, fs => match fs with
    | [] => some cs
    | f :: rest => bif Nat.beq f.offset i then (match layN P n cs f.type with
      | some cs' => bif Nat.beq (P.cellsOf f.type + cs'.length) cs.length then fsN P n cs' (i + P.cellsOf f.type) rest else none
      | none => none) else none
end
theorem kinds_ok {P : Program} : ∀ (n : Nat), (∀ c t, ccN P n c t = true → CcOk P c t) ∧ (∀ cs t rest, layN P n cs t = some rest → ∃ pre, cs = pre ++ rest ∧ LayOk P pre t) ∧ ∀ cs i fs rest, fsN P n cs i fs = some rest → ∃ pre, cs = pre ++ rest ∧ LayFs P pre i fs
  | 0 => ⟨fun _ _ h => by simp [ccN] at h, fun _ _ _ h => by simp [layN] at h, fun _ _ _ _ h => by simp [fsN] at h⟩
  | n + 1 => by
    obtain ⟨h1, h2, h3⟩ := kinds_ok (P := P) n
    refine ⟨fun c t h => ?_, fun cs t rest h => ?_, fun cs i fs rest h => ?_⟩
    · simp only [ccN] at h
      split at h
      · rename_i k k' hu
        have := of_decide_eq_true h
        subst this
        exact .int hu
      · rename_i hu; exact .bool hu
      · rename_i hu; exact .str hu
      · rename_i r e hu
        simp only [Bool.and_eq_true] at h
        obtain ⟨g1, g2⟩ := h
        split at g2
        · rename_i hl
          obtain ⟨pre, e1, e2⟩ := h2 _ _ _ hl
          rw [List.append_nil] at e1
          exact .sl hu (Nat.eq_of_beq_eq_true g1) (e1 ▸ e2)
        · cases g2
      · cases h
    · simp only [layN] at h
      split at h
      · cases h
      · rename_i c rest'
        cases hc : ccN P n c t with
        | true =>
          rw [hc] at h
          cases h
          exact ⟨[c], rfl, .one (h1 _ _ hc)⟩
        | false =>
          rw [hc] at h
          simp only [cond_false] at h
          split at h
          · rename_i fs hu
            obtain ⟨pre, e1, e2⟩ := h3 _ _ _ _ h
            exact ⟨pre, e1, .st hu e2⟩
          · cases h
    · simp only [fsN] at h
      split at h
      · cases h
        exact ⟨[], rfl, .nil⟩
      · rename_i f rest'
        cases ho : Nat.beq f.offset i with
        | false => rw [ho] at h; cases h
        | true =>
          rw [ho] at h
          simp only [cond_true] at h
          split at h
          · rename_i cs' hl
            obtain ⟨pre, e1, e2⟩ := h2 _ _ _ hl
            cases hb : Nat.beq (P.cellsOf f.type + cs'.length) cs.length with
            | false => rw [hb] at h; cases h
            | true =>
              rw [hb] at h
              simp only [cond_true] at h
              have hlen := Nat.eq_of_beq_eq_true hb
              have hp : P.cellsOf f.type = pre.length := by rw [e1, List.length_append] at hlen; omega
              obtain ⟨pre2, e3, e4⟩ := h3 _ _ _ _ h
              rw [hp] at e4
              refine ⟨pre ++ pre2, by rw [e1, e3, List.append_assoc], .cons (Nat.eq_of_beq_eq_true ho) hp e2 e4⟩
          · cases h
def rwB (P : Program) (r : Rw) (t : TypeId) : Bool := match layN P 100 r.list t with
  | some [] => true
  | _ => false
theorem rwB_ok {P : Program} (r : Rw) {t : TypeId} (h : rwB P r t = true) : RwOk P r t := by
  unfold rwB at h
  split at h
  · rename_i hl
    obtain ⟨pre, e1, e2⟩ := (kinds_ok 100).2.1 _ _ _ hl
    rw [List.append_nil] at e1
    show LayOk P r.list t
    rw [e1]; exact e2
  · cases h
end Go.Ev
end
section
/- An argument of one cell. -/
set_option linter.unusedVariables false
namespace Go.Ev
end Go.Ev
end
