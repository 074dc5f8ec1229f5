/- The replies of a session among the outputs. -/
import Derived.Test.YtfgnddgckhpbiaaEvStkOps
namespace Go.Ev.Seat
open Go.RowKit
set_option maxRecDepth 100000
set_option linter.unusedVariables false
variable {I : Nat → World → Prop}
def repOf (o : T_Out) : T_Reply := o.2.2.2.2.2.2.2.2.2
def ansF (s : Int) (acc : List T_Reply) (o : T_Out) : List T_Reply := bif o.2.1 == s then acc ++ [repOf o] else acc
def answersD (l : List T_Out) (s : Int) : List T_Reply := bif decide (((l.length : Nat) : Int) ≤ 300) then l.foldl (ansF s) [] else []
def preO (l : List T_Out) : Bool := (Cc.sl outR).lim l
theorem ans_len (s : Int) : ∀ (l : List T_Out) (acc : List T_Reply), (l.foldl (ansF s) acc).length ≤ acc.length + l.length
  | [], acc => by simp
  | o :: l, acc => by
    have := ans_len s l (ansF s acc o)
    have h2 : (ansF s acc o).length ≤ acc.length + 1 := by
      unfold ansF
      cases (o.2.1 == s) <;> simp
    simp only [List.foldl_cons, List.length_cons]
    omega
theorem ans_snoc (s : Int) (l : List T_Out) {i : Nat} (h : i < l.length) : (l.take (i + 1)).foldl (ansF s) [] = ansF s ((l.take i).foldl (ansF s) []) (l.getD i outR.dflt) := by
  have e : l.take (i + 1) = l.take i ++ [l.getD i outR.dflt] := take_snoc h
  rw [e, List.foldl_append]; rfl
theorem text_lim {o : T_Out} (h : outR.lim o = true) : (Cc.sl bytesR).lim (repOf o).2.2.2 = true := by
  have h' : (true && (true && (true && (true && (true && (true && (true && ((Cc.sl bytesR).lim o.2.2.2.2.2.2.2.1 && (true && (true && (true && (true && (Cc.sl bytesR).lim (repOf o).2.2.2)))))))))))) = true := h
  simp only [Bool.true_and, Bool.and_eq_true] at h'
  exact h'.2
theorem preO_all {l : List T_Out} (h : preO l = true) : l.length ≤ 1048576 ∧ l.all outR.lim = true := by
  have h' : (Nat.ble l.length 1048576 && l.all outR.lim) = true := h
  simp only [Bool.and_eq_true] at h'
  exact ⟨Nat.le_of_ble_eq_true h'.1, h'.2⟩
-- spec.Answers
def sh_sAns : Ss := { tm := (.cons (.l .no outR) (.cons (.int .i64) (.cons (.x) (.cons (.x) (.cons (.x) (.cons (.w 0) (.cons (.int .i64) (xsh 35)))))))), ob := (.arr true true replyR .nil), nx := 1, io := .nil }
def d_sAns (x0 : List T_Out) (x1 : Int) (x6 : Int) (o0 : List T_Reply) : sh_sAns.T := ((x0, (x1, ((), ((), ((), ((), (x6, xd 35))))))), (o0, ()), ())
def z_sAns (o0 : List T_Reply) : St := { tm := ([.x, .x, .x, .x, .x, (.w 0)] ++ List.replicate 36 .x), ob := [(0, (.arr true true replyR o0))], nx := 1, io := [] }
def R_sAns (d : sh_sAns.T) (K : Ex → St → Option Ret) : Option Ret := match d with
  | ((x0, (x1, (_, (_, (_, (_, (x6, _))))))), (o0, _), _) => bif (x6 == 0) && Nat.beq (List.length o0) 0 && preO x0 then K (.ext 0) (z_sAns (answersD x0 x1)) else none
noncomputable abbrev lo_sAns : List (Nat × List Nat × List Nat × LoopFn) := [(3, [0,1,5,6], [5], loopF sh_sAns R_sAns)]
noncomputable abbrev L_sAns (n : Nat) (x0 : List T_Out) (x1 x6 : Int) (o0 : List T_Reply) (K : Ex → St → Option Ret) : Option Ret := rounds (run (En [] [] lo_sAns) (bodyOf F.s_Answers 3)) [0,1,5,6] [5] n (sh_sAns.mk' (d_sAns x0 x1 x6 o0)) K
theorem step_sAns (n : Nat) (x0 : List T_Out) (x1 : Int) (x6 : Int) (o0 : List T_Reply) (K : Ex → St → Option Ret) : L_sAns (n + 1) x0 x1 x6 o0 K =
 (bif decide (x6 < (((List.length x0) : Nat) : Int)) then
 (bif decide ((((List.length x0) : Nat) : Int) ≤ (300 : Int)) then
  (bif (decide ((0 : Int) ≤ x6) && decide (x6 < (((List.length x0) : Nat) : Int))) then
   (bif ((List.getD x0 (Int.toNat x6) (outR.dflt)).2.1 == x1) then
    (bif (decide ((0 : Int) ≤ x6) && decide (x6 < (((List.length x0) : Nat) : Int))) then
     (bif (Nat.ble (((List.length ([] : List Int)) + (List.length (repOf (List.getD x0 (Int.toNat x6) (outR.dflt))).2.2.2)) * 1) 140737488355328) then
      (bif (Nat.ble (((List.length o0) + (List.length ([repOf (List.getD x0 (Int.toNat x6) (outR.dflt))]))) * 48) 140737488355328) then
       L_sAns n x0 x1 (IntKind.wrap .i64 (x6 + (1 : Int))) (o0 ++ [repOf (List.getD x0 (Int.toNat x6) (outR.dflt))]) K
       else none)
      else none)
     else none)
    else L_sAns n x0 x1 (IntKind.wrap .i64 (x6 + (1 : Int))) o0 K)
   else none)
  else K (.ext 0) (z_sAns o0))
 else K (.ext 0) (z_sAns o0)) := by kernel_rfl
theorem go_sAns (x0 : List T_Out) (x1 : Int) (K : Ex → St → Option Ret) (h : preO x0 = true) (h3 : ((x0.length : Nat) : Int) ≤ 300) : L_sAns (x0.length + 1) x0 x1 0 [] K = K (.ext 0) (z_sAns (x0.foldl (ansF x1) [])) := by
  obtain ⟨h1, h2⟩ := preO_all h
  have := loop_idx (R := fun n i (s : List T_Reply) => L_sAns n x0 x1 i s K) (k := K (.ext 0) (z_sAns (x0.foldl (ansF x1) []))) (f := fun i => (x0.take i).foldl (ansF x1) []) x0.length (fun m i hi => by
    refine (step_sAns m x0 x1 i _ K).trans ?_
    have hl := ans_len x1 (x0.take i) []
    have hl2 : (x0.take i).length ≤ 300 := by simp; omega
    simp only [List.length_nil] at hl
    have ht := text_lim (all_getD (p := outR.lim) (z := outR.dflt) h2 hi)
    have ht2 : List.length (repOf (x0.getD i outR.dflt)).2.2.2 ≤ 1048576 := by
      have ht' : (Nat.ble (List.length (repOf (x0.getD i outR.dflt)).2.2.2) 1048576 && List.all (repOf (x0.getD i outR.dflt)).2.2.2 bytesR.lim) = true := ht
      simp only [Bool.and_eq_true] at ht'
      exact Nat.le_of_ble_eq_true ht'.1
    show (bif _ then _ else _) = L_sAns m x0 x1 _ ((x0.take (i + 1)).foldl (ansF x1) []) K
    rw [ans_snoc x1 x0 hi, decide_eq_true (show ((i : Nat) : Int) < ((x0.length : Nat) : Int) by omega), decide_eq_true h3, decide_eq_true (show (0 : Int) ≤ ((i : Nat) : Int) by omega), wrap_nat (show i ≤ 4611686018427387904 by omega), Int.toNat_natCast, Nat.ble_eq_true_of_le (show (([] : List Int).length + List.length (repOf (x0.getD i outR.dflt)).2.2.2) * 1 ≤ 140737488355328 by simp only [List.length_nil]; omega), Nat.ble_eq_true_of_le (show (((x0.take i).foldl (ansF x1) []).length + [repOf (x0.getD i outR.dflt)].length) * 48 ≤ 140737488355328 by simp only [List.length_cons, List.length_nil]; omega)]
    unfold ansF
    cases ((x0.getD i outR.dflt).2.1 == x1) <;> rfl) (fun m => by
    refine (step_sAns m x0 x1 _ _ K).trans ?_
    rw [decide_eq_false (show ¬ ((x0.length : Nat) : Int) < ((x0.length : Nat) : Int) by omega), List.take_length]; rfl)
  exact this
theorem go2_sAns (x0 : List T_Out) (x1 : Int) (K : Ex → St → Option Ret) (h : preO x0 = true) : ∃ m, L_sAns m x0 x1 0 [] K = K (.ext 0) (z_sAns (answersD x0 x1)) := by
  unfold answersD
  by_cases h6 : ((x0.length : Nat) : Int) ≤ 300
  · refine ⟨x0.length + 1, (go_sAns x0 x1 K h h6).trans ?_⟩
    rw [decide_eq_true h6]; rfl
  · refine ⟨1, (step_sAns 0 x0 x1 0 [] K).trans ?_⟩
    rw [decide_eq_false h6, decide_eq_true (show (0 : Int) < ((x0.length : Nat) : Int) by omega)]; rfl
theorem loopK_sAns : LoopOk (En [] [] lo_sAns) (bodyOf F.s_Answers 3) := by
  refine loopF_ok (n := 3) (sh := sh_sAns) (R := R_sAns) (by kernel_rfl) rfl rfl (fun d K r hr => ?_)
  obtain ⟨⟨x0, x1, u1, u2, u3, u4, x6, u5⟩, ⟨o0, u6⟩, u7⟩ := d
  unfold R_sAns at hr
  simp only at hr
  cases hc : ((x6 == 0) && Nat.beq (List.length o0) 0 && preO x0) with
  | false => rw [hc] at hr; cases hr
  | true =>
    rw [hc] at hr
    simp only [Bool.and_eq_true, beq_iff_eq] at hc
    obtain ⟨⟨rfl, h2⟩, h3⟩ := hc
    have h2' : o0 = [] := List.eq_nil_of_length_eq_zero (Nat.eq_of_beq_eq_true h2)
    subst h2'
    obtain ⟨m, hm⟩ := go2_sAns x0 x1 K h3
    exact ⟨m, hm.trans hr⟩
def S_answers : Sm := S_fn [.l outR, .i] (fun d => preO d.1) (fun d => .l .deep replyR (answersD d.1 d.2.1))
theorem ev_sAns (l : List T_Out) (k : Int) (K : Ret → Option Ret) (h : preO l = true) : evF (En [] [] lo_sAns) true F.s_Answers [.l .no outR l, .s (.int .i64 k)] K = K (.l .deep replyR (answersD l k), []) := by
  have eTr : evF (En [] [] lo_sAns) true F.s_Answers [.l .no outR l, .s (.int .i64 k)] K = (bif ((0 : Int) == 0) && Nat.beq 0 0 && preO l then K (.l .deep replyR (answersD l k), []) else none) := by kernel_rfl
  refine eTr.trans ?_
  rw [h]; rfl
theorem okS_sAns : OkFn prog I N.s_Answers true S_answers := okW (ok_fn mem0 (l := []) (p := []) (ls := lo_sAns) (lend := []) (focus := false) (fuel := 0) (fn := F.s_Answers) (by kernel_rfl) (by kernel_rfl) (by kernel_rfl) (by kernel_rfl) (cs := [bodyOf F.s_Answers 3]) (by kernel_rfl) (loopsc loopK_sAns loops0)) (S_fn_of fun d K h => ev_sAns d.1 d.2.1 K h)
-- impl.Answers
def sh_iAns : Ss := { tm := (.cons (.x) (.cons (.int .i64) (.cons (.x) (.cons (.x) (.cons (.x) (.cons (.w 0) (.cons (.x) (.cons (.x) (.cons (.x) (.cons (.x) (.cons (.x) (.cons (.x) (.cons (.x) (.cons (.l .no outR) (.cons (.int .i64) (.cons (.int .i64) (xsh 19))))))))))))))))), ob := (.arr true true replyR .nil), nx := 1, io := .nil }
def d_iAns (x1 : Int) (x13 : List T_Out) (x14 : Int) (x15 : Int) (o0 : List T_Reply) : sh_iAns.T := (((), (x1, ((), ((), ((), ((), ((), ((), ((), ((), ((), ((), ((), (x13, (x14, (x15, xd 19)))))))))))))))), (o0, ()), ())
def z_iAns (o0 : List T_Reply) : St := { tm := ([.x, .x, .x, .x, .x, (.w 0)] ++ List.replicate 29 .x), ob := [(0, (.arr true true replyR o0))], nx := 1, io := [] }
def R_iAns (d : sh_iAns.T) (K : Ex → St → Option Ret) : Option Ret := match d with
  | ((_, (x1, (_, (_, (_, (_, (_, (_, (_, (_, (_, (_, (_, (x13, (x14, (x15, _)))))))))))))))), (o0, _), _) => bif (x15 == 0) && (x14 == ((List.length x13 : Nat) : Int)) && Nat.beq (List.length o0) 0 && preO x13 then K (.ext 0) (z_iAns (List.foldl (ansF x1) [] x13)) else none
noncomputable abbrev ls_iAns : List (Nat × Bool × Sm) := [(N.slices_Clone_bytes_byte, true, S_toL bytesR)]
noncomputable abbrev lo_iAns : List (Nat × List Nat × List Nat × LoopFn) := [(5, [1,5,13,14,15], [5], loopF sh_iAns R_iAns)]
noncomputable abbrev L_iAns (n : Nat) (x1 : Int) (x13 : List T_Out) (x14 x15 : Int) (o0 : List T_Reply) (K : Ex → St → Option Ret) : Option Ret := rounds (run (En ls_iAns [] lo_iAns) (bodyOf F.i_Answers 5)) [1,5,13,14,15] [5] n (sh_iAns.mk' (d_iAns x1 x13 x14 x15 o0)) K
set_option maxHeartbeats 0 in
theorem step_iAns (n : Nat) (x1 : Int) (x13 : List T_Out) (x14 : Int) (x15 : Int) (o0 : List T_Reply) (K : Ex → St → Option Ret) : L_iAns (n + 1) x1 x13 x14 x15 o0 K =
 (bif decide (x15 < x14) then
 (bif (decide ((0 : Int) ≤ x15) && decide (x15 < (((List.length x13) : Nat) : Int))) then
  (bif ((List.getD x13 (Int.toNat x15) (outR.dflt)).2.1 == x1) then
   (bif (Cc.lim (Cc.sl bytesR) (List.getD x13 (Int.toNat x15) (outR.dflt)).2.2.2.2.2.2.2.2.2.2.2.2) then
    (bif (Nat.ble (((List.length o0) + (List.length ([((List.getD x13 (Int.toNat x15) (outR.dflt)).2.2.2.2.2.2.2.2.2.1, (List.getD x13 (Int.toNat x15) (outR.dflt)).2.2.2.2.2.2.2.2.2.2.1, (List.getD x13 (Int.toNat x15) (outR.dflt)).2.2.2.2.2.2.2.2.2.2.2.1, (List.getD x13 (Int.toNat x15) (outR.dflt)).2.2.2.2.2.2.2.2.2.2.2.2)]))) * 48) 140737488355328) then
     L_iAns n x1 x13 x14 (IntKind.wrap .i64 (x15 + (1 : Int))) (o0 ++ [((List.getD x13 (Int.toNat x15) (outR.dflt)).2.2.2.2.2.2.2.2.2.1, (List.getD x13 (Int.toNat x15) (outR.dflt)).2.2.2.2.2.2.2.2.2.2.1, (List.getD x13 (Int.toNat x15) (outR.dflt)).2.2.2.2.2.2.2.2.2.2.2.1, (List.getD x13 (Int.toNat x15) (outR.dflt)).2.2.2.2.2.2.2.2.2.2.2.2)]) K
     else none)
    else none)
   else L_iAns n x1 x13 x14 (IntKind.wrap .i64 (x15 + (1 : Int))) o0 K)
  else none)
 else K (.ext 0) (z_iAns o0)) := by kernel_rfl
end Go.Ev.Seat
