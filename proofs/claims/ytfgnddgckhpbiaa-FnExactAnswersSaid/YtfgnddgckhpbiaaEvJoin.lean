/- Small edits, and two that are joined. -/
import Derived.Test.YtfgnddgckhpbiaaEvOutH
import Derived.Test.YtfgnddgckhpbiaaEvConc
import Derived.Test.YtfgnddgckhpbiaaEvSig
namespace Go.Ev.Seat
open Go.RowKit
set_option maxRecDepth 100000
set_option linter.unusedVariables false
variable {I : Nat → World → Prop}
def eb (r : Rw) (x : r.T × Bool) : V := .t [.a (r.cells .deep x.1), .s (.bool x.2)]
def in400 (n : Int) : Bool := decide (0 ≤ n) && decide (n ≤ 400)
def smallE (e : T_Edit) : Bool := in400 e.1 && in400 e.2.1 && decide (((e.2.2.length : Nat) : Int) ≤ 400)
theorem small_iff {e : T_Edit} (h : smallE e = true) : 0 ≤ e.1 ∧ e.1 ≤ 400 ∧ 0 ≤ e.2.1 ∧ e.2.1 ≤ 400 ∧ (List.length e.2.2 : Int) ≤ 400 := by
  simp only [smallE, in400, Bool.and_eq_true, decide_eq_true_eq] at h
  obtain ⟨⟨⟨h1, h2⟩, h3, h4⟩, h5⟩ := h
  exact ⟨h1, h2, h3, h4, h5⟩
def S_small2 : Sm := S_fn [.i] (fun _ => true) (fun d => bl (in400 d.1))
def S_in : Sm := S_fn [.i, .i, .i] (fun _ => true) (fun d => bl (decide (d.2.1 ≤ d.1) && decide (d.1 ≤ d.2.2.1)))
def S_smallE : Sm := S_fn [.a editR] (fun _ => true) (fun d => bl (smallE d.1))
theorem ev_l02Small (a : Int) (K : Ret → Option Ret) : evF (En []) true F.s_l02Small [.s (.int .i64 a)] K = K (bl (decide (0 ≤ a) && decide (a ≤ 400)), []) := by
  have e : evF (En []) true F.s_l02Small [.s (.int .i64 a)] K = (bif decide (a ≥ (0 : Int)) then K (bl (decide (a ≤ (400 : Int))), []) else K (bl false, [])) := by kernel_rfl
  refine e.trans ?_
  show _ = K (bl (decide (0 ≤ a) && decide (a ≤ 400)), [])
  by_cases h : 0 ≤ a
  · rw [decide_eq_true (show a ≥ 0 from h)]; rfl
  · rw [decide_eq_false (show ¬ a ≥ 0 from h)]; rfl
theorem okS_l02Small : OkFn prog I N.s_l02Small true S_small2 := okW (ok_fn (l := []) (p := []) (ls := []) (lend := []) (focus := false) (fuel := 0) mem0 (fn := F.s_l02Small) (by kernel_rfl) (by kernel_rfl) (by kernel_rfl) (by kernel_rfl) (cs := []) (by kernel_rfl) loops0) (S_fn_of fun d K h => ev_l02Small d.1 K)
theorem ev_in (a : Int) (b : Int) (c : Int) (K : Ret → Option Ret) : evF (En []) true F.i_in [.s (.int .i64 a), .s (.int .i64 b), .s (.int .i64 c)] K = K (bl (decide (b ≤ a) && decide (a ≤ c)), []) := by
  have e : evF (En []) true F.i_in [.s (.int .i64 a), .s (.int .i64 b), .s (.int .i64 c)] K = (bif decide (b ≤ a) then K (bl (decide (a ≤ c)), []) else K (bl false, [])) := by kernel_rfl
  refine e.trans ?_
  show _ = K (bl (decide (b ≤ a) && decide (a ≤ c)), [])
  cases decide (b ≤ a) <;> rfl
theorem okS_in : OkFn prog I N.i_in true S_in := okW (ok_fn (l := []) (p := []) (ls := []) (lend := []) (focus := false) (fuel := 0) mem0 (fn := F.i_in) (by kernel_rfl) (by kernel_rfl) (by kernel_rfl) (by kernel_rfl) (cs := []) (by kernel_rfl) loops0) (S_fn_of fun d K h => ev_in d.1 d.2.1 d.2.2.1 K)
theorem ev_l05Small (a : T_Edit) (K : Ret → Option Ret) : evF (En [(N.s_l02Small, true, S_small2)]) true F.s_l05Small [.a (editR.cells .no a)] K = K (bl (in400 a.1 && in400 a.2.1 && decide (((List.length a.2.2 : Nat) : Int) ≤ 400)), []) := by
  have e : evF (En [(N.s_l02Small, true, S_small2)]) true F.s_l05Small [.a (editR.cells .no a)] K = (bif (in400 a.1) then (bif (in400 a.2.1) then K (bl (decide ((((List.length a.2.2) : Nat) : Int) ≤ (400 : Int))), []) else K (bl false, [])) else K (bl false, [])) := by kernel_rfl
  refine e.trans ?_
  show _ = K (bl (in400 a.1 && in400 a.2.1 && decide (((List.length a.2.2 : Nat) : Int) ≤ 400)), [])
  cases in400 a.1 <;> cases in400 a.2.1 <;> rfl
theorem okS_l05Small : OkFn prog I N.s_l05Small true S_smallE := okW (ok_fn (l := [(N.s_l02Small, true, S_small2)]) (p := []) (ls := []) (lend := []) (focus := false) (fuel := 0) (memc okS_l02Small mem0) (fn := F.s_l05Small) (by kernel_rfl) (by kernel_rfl) (by kernel_rfl) (by kernel_rfl) (cs := []) (by kernel_rfl) loops0) (S_fn_of fun d K h => ev_l05Small d.1 K)
theorem ev_isSmall (a : T_Edit) (K : Ret → Option Ret) : evF (En [(N.i_in, true, S_in)]) true F.i_Edit_isSmall [.a (editR.cells .no a)] K = K (bl (in400 a.1 && in400 a.2.1 && decide (((List.length a.2.2 : Nat) : Int) ≤ 400)), []) := by
  have e : evF (En [(N.i_in, true, S_in)]) true F.i_Edit_isSmall [.a (editR.cells .no a)] K = (bif (in400 a.1) then (bif (in400 a.2.1) then K (bl (decide ((((List.length a.2.2) : Nat) : Int) ≤ (400 : Int))), []) else K (bl false, [])) else K (bl false, [])) := by kernel_rfl
  refine e.trans ?_
  show _ = K (bl (in400 a.1 && in400 a.2.1 && decide (((List.length a.2.2 : Nat) : Int) ≤ 400)), [])
  cases in400 a.1 <;> cases in400 a.2.1 <;> rfl
theorem okS_isSmall : OkFn prog I N.i_Edit_isSmall true S_smallE := okW (ok_fn (l := [(N.i_in, true, S_in)]) (p := []) (ls := []) (lend := []) (focus := false) (fuel := 0) (memc okS_in mem0) (fn := F.i_Edit_isSmall) (by kernel_rfl) (by kernel_rfl) (by kernel_rfl) (by kernel_rfl) (cs := []) (by kernel_rfl) loops0) (S_fn_of fun d K h => ev_isSmall d.1 K)
-- do: an edit done to a text that it fits
def doD (e : T_Edit) (t : List Int) : List Int := t.take e.1.toNat ++ e.2.2 ++ t.drop (e.1 + e.2.1).toNat
def fits (e : T_Edit) (t : List Int) : Bool := decide (0 ≤ e.1) && decide (0 ≤ e.2.1) && decide (e.1 + e.2.1 ≤ ((t.length : Nat) : Int)) && Nat.ble t.length 1000000 && Nat.ble (List.length e.2.2) 1000000
def S_do : Sm := S_fn [.a editR, .l bytesR] (fun d => fits d.1 d.2.1) (fun d => .l .deep bytesR (doD d.1 d.2.1))
noncomputable def E_do : Env := En [(N.slices_Concat_bytes_byte, true, S_concat)] [(1, takeB [0, 1, 2, 3, 4, 5, 6, 7, 8, 9, 10, 11, 12] (.fork (.one 13 (.fork (.one 14 (takes [15]))))), [])]
theorem ev_do (a : T_Edit) (t : List Int) (K : Ret → Option Ret) (hp : fits a t = true) : evF E_do true F.i_Edit_do [.a (editR.cells .no a), .l .no bytesR t] K = K (.l .deep bytesR (doD a t), []) := by
  have hp' := hp
  simp only [fits, Bool.and_eq_true, decide_eq_true_eq] at hp'
  obtain ⟨⟨⟨⟨h0, h1⟩, h2⟩, h3⟩, h4⟩ := hp'
  have h3' : t.length ≤ 1000000 := Nat.le_of_ble_eq_true h3
  have h4' : List.length a.2.2 ≤ 1000000 := Nat.le_of_ble_eq_true h4
  have e : evF E_do true F.i_Edit_do [.a (editR.cells .no a), .l .no bytesR t] K =
 (bif ((decide ((0 : Int) ≤ ((0 : Nat) : Int)) && decide (((0 : Nat) : Int) ≤ a.1)) && decide (a.1 ≤ (((List.length t) : Nat) : Int))) then
 (bif ((decide ((0 : Int) ≤ (IntKind.wrap .i64 (a.1 + a.2.1))) && decide ((IntKind.wrap .i64 (a.1 + a.2.1)) ≤ (((List.length t) : Nat) : Int))) && decide ((((List.length t) : Nat) : Int) ≤ (((List.length t) : Nat) : Int))) then
  (bif ((Nat.ble (List.length ((List.drop (Int.toNat ((0 : Nat) : Int)) (List.take (Int.toNat a.1) t)) :: (a.2.2 :: ((List.drop (Int.toNat (IntKind.wrap .i64 (a.1 + a.2.1))) (List.take (Int.toNat (((List.length t) : Nat) : Int)) t)) :: [])))) 4611686018427387904) && (Nat.ble (sumW List.length ((List.drop (Int.toNat ((0 : Nat) : Int)) (List.take (Int.toNat a.1) t)) :: (a.2.2 :: ((List.drop (Int.toNat (IntKind.wrap .i64 (a.1 + a.2.1))) (List.take (Int.toNat (((List.length t) : Nat) : Int)) t)) :: [])))) 1099511627776)) then
   K ((.l .deep bytesR (List.flatten ((List.drop (Int.toNat ((0 : Nat) : Int)) (List.take (Int.toNat a.1) t)) :: (a.2.2 :: ((List.drop (Int.toNat (IntKind.wrap .i64 (a.1 + a.2.1))) (List.take (Int.toNat (((List.length t) : Nat) : Int)) t)) :: []))))), [])
   else none)
  else none)
 else none) := by kernel_rfl
  refine e.trans ?_
  rw [wrap_in (n := a.1 + a.2.1) (by omega) (by omega), decide_eq_true (show ((0 : Nat) : Int) ≤ a.1 by omega), decide_eq_true (show a.1 ≤ ((t.length : Nat) : Int) by omega), decide_eq_true (show (0 : Int) ≤ a.1 + a.2.1 by omega), decide_eq_true h2, decide_eq_true (Int.le_refl ((t.length : Nat) : Int))]
  simp only [Int.toNat_natCast, List.take_length]
  have hs : Nat.ble (sumW List.length [List.drop 0 (List.take (Int.toNat a.1) t), a.2.2, List.drop (Int.toNat (a.1 + a.2.1)) t]) 1099511627776 = true := Nat.ble_eq_true_of_le (by
    have e1 : (List.drop 0 (List.take (Int.toNat a.1) t)).length ≤ 1000000 := by simp; omega
    have e2 : (List.drop (Int.toNat (a.1 + a.2.1)) t).length ≤ 1000000 := by simp; omega
    show _ + (_ + (_ + 0)) ≤ _
    omega)
  rw [hs]
  exact congrArg (fun x : List Int => K (.l .deep bytesR x, [])) (show [List.drop 0 (List.take (Int.toNat a.1) t), a.2.2, List.drop (Int.toNat (a.1 + a.2.1)) (List.take t.length t)].flatten = doD a t by simp [doD])
theorem okS_do : OkFn prog I N.i_Edit_do true S_do := okW (ok_fn (memc okS_Concat mem0) (l := [(N.slices_Concat_bytes_byte, true, S_concat)]) (p := [(1, takeB [0, 1, 2, 3, 4, 5, 6, 7, 8, 9, 10, 11, 12] (.fork (.one 13 (.fork (.one 14 (takes [15]))))), [])]) (ls := []) (lend := []) (focus := false) (fuel := 0) (fn := F.i_Edit_do) (by kernel_rfl) (by kernel_rfl) (by kernel_rfl) (by kernel_rfl) (cs := []) (by kernel_rfl) loops0) (S_fn_of fun d K h => ev_do d.1 d.2.1 K h)
-- EditJoin
def badE : T_Edit × Bool := ((0, 0, []), false)
def joinD (a b : T_Edit) : T_Edit × Bool :=
  bif !smallE a || !smallE b || decide (b.1 < a.1) || decide (b.1 + b.2.1 > a.1 + ((List.length a.2.2 : Nat) : Int)) then badE
  else bif decide ((((a.2.2.take (b.1 - a.1).toNat ++ b.2.2 ++ a.2.2.drop (b.1 - a.1 + b.2.1).toNat).length : Nat) : Int) > 400) then badE
  else ((a.1, a.2.1, a.2.2.take (b.1 - a.1).toNat ++ b.2.2 ++ a.2.2.drop (b.1 - a.1 + b.2.1).toNat), true)
def S_join : Sm := S_fn [.a editR, .a editR] (fun _ => true) (fun d => eb editR (joinD d.1 d.2.1))
abbrev lsJ : List (Nat × Bool × Sm) := [(N.s_l05Small, true, S_smallE)]
abbrev plJ : List (Nat × Plan × List Nat) := [(4, takeB [1, 2, 3, 4, 6, 7, 9, 10, 11, 12, 13, 14, 15] (.fork (.one 0 (.fork (.one 5 (.fork (.one 8 (.fork (.one 16 (takes [17]))))))))), [])]
theorem ev_sJoin (a : T_Edit) (b : T_Edit) (K : Ret → Option Ret) : evF (En lsJ plJ) true F.s_EditJoin [.a (editR.cells .no a), .a (editR.cells .no b)] K = K (eb editR (joinD a b), []) := by
  have e : evF (En lsJ plJ) true F.s_EditJoin [.a (editR.cells .no a), .a (editR.cells .no b)] K =
 (bif (!(smallE a)) then
 K ((.t [(.a [(.s (.int .i64 (0 : Int))), (.s (.int .i64 (0 : Int))), (.l .deep bytesR [])]), (.s (.bool false))]), [])
 else (bif (!(smallE b)) then
  K ((.t [(.a [(.s (.int .i64 (0 : Int))), (.s (.int .i64 (0 : Int))), (.l .deep bytesR [])]), (.s (.bool false))]), [])
  else (bif decide (b.1 < a.1) then
   K ((.t [(.a [(.s (.int .i64 (0 : Int))), (.s (.int .i64 (0 : Int))), (.l .deep bytesR [])]), (.s (.bool false))]), [])
   else (bif decide ((IntKind.wrap .i64 (b.1 + b.2.1)) > (IntKind.wrap .i64 (a.1 + (((List.length a.2.2) : Nat) : Int)))) then
    K ((.t [(.a [(.s (.int .i64 (0 : Int))), (.s (.int .i64 (0 : Int))), (.l .deep bytesR [])]), (.s (.bool false))]), [])
    else (bif ((decide ((0 : Int) ≤ ((0 : Nat) : Int)) && decide (((0 : Nat) : Int) ≤ (IntKind.wrap .i64 (b.1 - a.1)))) && decide ((IntKind.wrap .i64 (b.1 - a.1)) ≤ (((List.length a.2.2) : Nat) : Int))) then
     (bif ((decide ((0 : Int) ≤ (IntKind.wrap .i64 ((IntKind.wrap .i64 (b.1 - a.1)) + b.2.1))) && decide ((IntKind.wrap .i64 ((IntKind.wrap .i64 (b.1 - a.1)) + b.2.1)) ≤ (((List.length a.2.2) : Nat) : Int))) && decide ((((List.length a.2.2) : Nat) : Int) ≤ (((List.length a.2.2) : Nat) : Int))) then
      (bif (Nat.ble (((List.length ([] : List Int)) + (List.length (List.drop (Int.toNat ((0 : Nat) : Int)) (List.take (Int.toNat (IntKind.wrap .i64 (b.1 - a.1))) a.2.2)))) * 1) 140737488355328) then
       (bif (Nat.ble (((List.length ([] ++ (List.drop (Int.toNat ((0 : Nat) : Int)) (List.take (Int.toNat (IntKind.wrap .i64 (b.1 - a.1))) a.2.2)))) + (List.length b.2.2)) * 1) 140737488355328) then
        (bif (Nat.ble (((List.length (([] ++ (List.drop (Int.toNat ((0 : Nat) : Int)) (List.take (Int.toNat (IntKind.wrap .i64 (b.1 - a.1))) a.2.2))) ++ b.2.2)) + (List.length (List.drop (Int.toNat (IntKind.wrap .i64 ((IntKind.wrap .i64 (b.1 - a.1)) + b.2.1))) (List.take (Int.toNat (((List.length a.2.2) : Nat) : Int)) a.2.2)))) * 1) 140737488355328) then
         (bif decide ((((List.length ((([] ++ (List.drop (Int.toNat ((0 : Nat) : Int)) (List.take (Int.toNat (IntKind.wrap .i64 (b.1 - a.1))) a.2.2))) ++ b.2.2) ++ (List.drop (Int.toNat (IntKind.wrap .i64 ((IntKind.wrap .i64 (b.1 - a.1)) + b.2.1))) (List.take (Int.toNat (((List.length a.2.2) : Nat) : Int)) a.2.2)))) : Nat) : Int) > (400 : Int)) then
          K ((.t [(.a [(.s (.int .i64 (0 : Int))), (.s (.int .i64 (0 : Int))), (.l .deep bytesR [])]), (.s (.bool false))]), [])
          else K ((.t [(.a [(.s (.int .i64 a.1)), (.s (.int .i64 a.2.1)), (.l .deep bytesR ((([] ++ (List.drop (Int.toNat ((0 : Nat) : Int)) (List.take (Int.toNat (IntKind.wrap .i64 (b.1 - a.1))) a.2.2))) ++ b.2.2) ++ (List.drop (Int.toNat (IntKind.wrap .i64 ((IntKind.wrap .i64 (b.1 - a.1)) + b.2.1))) (List.take (Int.toNat (((List.length a.2.2) : Nat) : Int)) a.2.2))))]), (.s (.bool true))]), []))
         else none)
        else none)
       else none)
      else none)
     else none))))) := by kernel_rfl
  refine e.trans ?_
  show _ = K (eb editR (joinD a b), [])
  unfold joinD
  cases ha : smallE a with
  | false => rfl
  | true =>
  cases hb : smallE b with
  | false => rfl
  | true =>
  obtain ⟨a1, a2, a3, a4, a5⟩ := small_iff ha
  obtain ⟨b1, b2, b3, b4, b5⟩ := small_iff hb
  rw [wrap_in (n := b.1 + b.2.1) (by omega) (by omega), wrap_in (n := a.1 + ((List.length a.2.2 : Nat) : Int)) (by omega) (by omega), wrap_in (n := b.1 - a.1) (by omega) (by omega), wrap_in (n := b.1 - a.1 + b.2.1) (by omega) (by omega)]
  by_cases h1 : b.1 < a.1
  · rw [decide_eq_true h1]; rfl
  by_cases h2 : b.1 + b.2.1 > a.1 + ((List.length a.2.2 : Nat) : Int)
  · rw [decide_eq_false h1, decide_eq_true h2]; rfl
  have hl1 : (a.2.2.take (b.1 - a.1).toNat).length ≤ 400 := by simp; omega
  have hl2 : (a.2.2.drop (b.1 - a.1 + b.2.1).toNat).length ≤ 400 := by simp; omega
  rw [decide_eq_false h1, decide_eq_false h2, decide_eq_true (show ((0 : Nat) : Int) ≤ b.1 - a.1 by omega), decide_eq_true (show b.1 - a.1 ≤ ((List.length a.2.2 : Nat) : Int) by omega), decide_eq_true (show (0 : Int) ≤ b.1 - a.1 + b.2.1 by omega), decide_eq_true (show b.1 - a.1 + b.2.1 ≤ ((List.length a.2.2 : Nat) : Int) by omega), decide_eq_true (Int.le_refl ((List.length a.2.2 : Nat) : Int))]
  simp only [Int.toNat_natCast, List.take_length, List.drop_zero, List.nil_append]
  rw [Nat.ble_eq_true_of_le (show ((([] : List Int).length + (List.take (b.1 - a.1).toNat a.2.2).length) * 1 ≤ 140737488355328) by simp only [List.length_nil]; omega), Nat.ble_eq_true_of_le (show (((List.take (b.1 - a.1).toNat a.2.2).length + List.length b.2.2) * 1 ≤ 140737488355328) by omega), Nat.ble_eq_true_of_le (show (((List.take (b.1 - a.1).toNat a.2.2 ++ b.2.2).length + (List.drop (b.1 - a.1 + b.2.1).toNat a.2.2).length) * 1 ≤ 140737488355328) by rw [List.length_append]; omega)]
  cases decide ((((a.2.2.take (b.1 - a.1).toNat ++ b.2.2 ++ a.2.2.drop (b.1 - a.1 + b.2.1).toNat).length : Nat) : Int) > 400) <;> rfl
theorem okS_sJoin : OkFn prog I N.s_EditJoin true S_join := okW (ok_fn (memc okS_l05Small mem0) (l := lsJ) (p := plJ) (ls := []) (lend := []) (focus := false) (fuel := 0) (fn := F.s_EditJoin) (by kernel_rfl) (by kernel_rfl) (by kernel_rfl) (by kernel_rfl) (cs := []) (by kernel_rfl) loops0) (S_fn_of fun d K h => ev_sJoin d.1 d.2.1 K)
abbrev lsIJ : List (Nat × Bool × Sm) := [(N.i_Edit_isSmall, true, S_smallE), (N.i_Edit_do, true, S_do)]
theorem ev_iJoin (a b : T_Edit) (K : Ret → Option Ret) : evF (En lsIJ) true F.i_EditJoin [.a (editR.cells .no a), .a (editR.cells .no b)] K = K (eb editR (joinD a b), []) := by
  have e : evF (En lsIJ) true F.i_EditJoin [.a (editR.cells .no a), .a (editR.cells .no b)] K =
 (bif (!(smallE a)) then
 K (eb editR badE, [])
 else (bif (!(smallE b)) then
  K (eb editR badE, [])
  else (bif decide (b.1 < a.1) then
   K (eb editR badE, [])
   else (bif decide ((IntKind.wrap .i64 (b.1 + b.2.1)) > (IntKind.wrap .i64 (a.1 + (((List.length a.2.2) : Nat) : Int)))) then
    K (eb editR badE, [])
    else (bif (fits ((IntKind.wrap .i64 (b.1 - a.1)), b.2) a.2.2) then
     (bif decide ((((List.length (doD ((IntKind.wrap .i64 (b.1 - a.1)), b.2) a.2.2)) : Nat) : Int) > (400 : Int)) then
      K (eb editR badE, [])
      else K (eb editR ((a.1, a.2.1, doD ((IntKind.wrap .i64 (b.1 - a.1)), b.2) a.2.2), true), []))
     else none))))) := by kernel_rfl
  refine e.trans ?_
  unfold joinD
  cases ha : smallE a with
  | false => rfl
  | true =>
  cases hb : smallE b with
  | false => rfl
  | true =>
  obtain ⟨a1, a2, a3, a4, a5⟩ := small_iff ha
  obtain ⟨b1, b2, b3, b4, b5⟩ := small_iff hb
  rw [wrap_in (n := b.1 + b.2.1) (by omega) (by omega), wrap_in (n := a.1 + ((List.length a.2.2 : Nat) : Int)) (by omega) (by omega), wrap_in (n := b.1 - a.1) (by omega) (by omega)]
  by_cases h1 : b.1 < a.1
  · rw [decide_eq_true h1]; rfl
  by_cases h2 : b.1 + b.2.1 > a.1 + ((List.length a.2.2 : Nat) : Int)
  · rw [decide_eq_false h1, decide_eq_true h2]; rfl
  have hf : fits (b.1 - a.1, b.2) a.2.2 = true := by
    unfold fits
    simp only [Bool.and_eq_true, decide_eq_true_eq]
    exact ⟨⟨⟨⟨by omega, by omega⟩, by omega⟩, Nat.ble_eq_true_of_le (by omega)⟩, Nat.ble_eq_true_of_le (by omega)⟩
  rw [decide_eq_false h1, decide_eq_false h2, hf]
  show (bif decide ((((List.length (doD (b.1 - a.1, b.2) a.2.2)) : Nat) : Int) > (400 : Int)) then K (eb editR badE, []) else _) = K (eb editR (bif decide ((((List.length (doD (b.1 - a.1, b.2) a.2.2)) : Nat) : Int) > (400 : Int)) then badE else _), [])
  cases decide ((((List.length (doD (b.1 - a.1, b.2) a.2.2)) : Nat) : Int) > (400 : Int)) <;> rfl
theorem okS_iJoin : OkFn prog I N.i_EditJoin true S_join := okW (ok_fn (memc okS_isSmall (memc okS_do mem0)) (l := lsIJ) (p := []) (ls := []) (lend := []) (focus := false) (fuel := 0) (fn := F.i_EditJoin) (by kernel_rfl) (by kernel_rfl) (by kernel_rfl) (by kernel_rfl) (cs := []) (by kernel_rfl) loops0) (S_fn_of fun d K h => ev_iJoin d.1 d.2.1 K)
theorem editR_w (x : T_Edit) : editR.w x = List.length x.2.2 := by
  have e : editR.w x = 0 + (0 + (Cc.sl bytesR).w x.2.2) := rfl
  have e2 : (Cc.sl bytesR).w x.2.2 = List.length x.2.2 := w_byte x.2.2
  omega
theorem joinD_w (a b : T_Edit) : editR.w (joinD a b).1 ≤ 1099511627776 := by
  have e := editR_w (joinD a b).1
  have : List.length (joinD a b).1.2.2 ≤ 400 := by
    unfold joinD
    cases (!smallE a || !smallE b || decide (b.1 < a.1) || decide (b.1 + b.2.1 > a.1 + ((List.length a.2.2 : Nat) : Int))) with
    | true => exact Nat.zero_le _
    | false =>
      by_cases h : (((a.2.2.take (b.1 - a.1).toNat ++ b.2.2 ++ a.2.2.drop (b.1 - a.1 + b.2.1).toNat).length : Nat) : Int) > 400
      · rw [decide_eq_true h]; exact Nat.zero_le _
      · rw [decide_eq_false h]
        show (a.2.2.take (b.1 - a.1).toNat ++ b.2.2 ++ a.2.2.drop (b.1 - a.1 + b.2.1).toNat).length ≤ 400
        omega
  omega
end Go.Ev.Seat
