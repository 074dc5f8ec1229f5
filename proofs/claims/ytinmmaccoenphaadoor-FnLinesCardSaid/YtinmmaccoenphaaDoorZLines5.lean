/- Lines: parts Futf8RuneCount FilineOf FiRopeLine FsRopeOk FsRunesTo FsCutOk Fsl04Cut FsRuneCount FsRopeLine FiChunksText FiRopeText FiisText FimeasOf FiMeasOf FiRopeMeas FiplaceOf FiRopePlace FlFnLines EvLLines EvKind EvOne EvTab, packed by squash.py. -/
import GoSem.ClaimWide
import Derived.Lib.LaidTab
import GoSem.PinnedTables
import Derived.Test.YtinmmaccoenphaaDoorZLines0
import Derived.Test.YtinmmaccoenphaaDoorZLines1
import Derived.Test.YtinmmaccoenphaaDoorZLines2
import Derived.Test.YtinmmaccoenphaaDoorZLines3
import Derived.Test.YtinmmaccoenphaaDoorZLines4
set_option linter.unusedVariables false
set_option linter.unusedSimpArgs false
section
/- utf8_RuneCount: its contract. -/
namespace Go.Ev.Seat
open Go.RowKit
set_option maxRecDepth 100000
set_option linter.unusedVariables false
set_option linter.unusedSimpArgs false
def z_utf8_RuneCount_3_0 (x2 : Int) (x4 : Int) : St := { tm := ([.x, .x, (.s (.int .i64 x2)), .x, (.s (.int .i64 x4))] ++ List.replicate 22 .x), ob := [], nx := 0, io := [] }
def z_utf8_RuneCount_3_1 (x4 : Int) : St := { tm := ([.x, .x, .x, .x, (.s (.int .i64 x4))] ++ List.replicate 22 .x), ob := [], nx := 0, io := [] }
def sh_utf8_RuneCount_3_0 : Ss := { tm := (.cons (.l .no bytesR) (.cons (.x) (.cons (.x) (.cons (.int .i64) (.cons (.int .i64) (xsh 22)))))), ob := .nil, nx := 0, io := .nil }
def d_utf8_RuneCount_3_0 (x0 : List Int) (x3 : Int) (x4 : Int) : sh_utf8_RuneCount_3_0.T := ((x0, ((), ((), (x3, (x4, xd 22))))), (), ())
def s_utf8_RuneCount_3_0 (x0 : List Int) (x3 : Int) (x4 : Int) : St := { tm := ([(.l .no bytesR x0), .x, .x, (.s (.int .i64 x3)), (.s (.int .i64 x4))] ++ List.replicate 22 .x), ob := [], nx := 0, io := [] }
theorem se_utf8_RuneCount_3_0 (x0 : List Int) (x3 : Int) (x4 : Int) : sh_utf8_RuneCount_3_0.mk' (d_utf8_RuneCount_3_0 x0 x3 x4) = (s_utf8_RuneCount_3_0 x0 x3 x4) := by kernel_rfl
def w_utf8_RuneCount_3_0 (d : sh_utf8_RuneCount_3_0.T) (f : (List Int) → Int → Int → Option Ret) : Option Ret := match d with | ((x0, (_, (_, (x3, (x4, _))))), _, _) => f x0 x3 x4
noncomputable def P_utf8_RuneCount_3_0 (x0 : List Int) (x3 : Int) (x4 : Int) (nx0 : (List Int) → Int → Int → Option Ret) (k0 : Int → Int → Option Ret) (k1 : Int → Option Ret) : Option Ret := (bif (decide (x4 < x3)) then (bif ((decide ((0 : Int) ≤ x4)) && (decide (x4 < (((List.length x0) : Nat) : Int)))) then (bif (decide ((List.getD x0 (Int.toNat x4) (0 : Int)) ≥ (128 : Int))) then (bif ((decide ((0 : Int) ≤ x4)) && (decide (x4 ≤ (((List.length x0) : Nat) : Int)))) then (bif (Nat.ble (ByteArray.size (bstr (List.drop (Int.toNat x4) x0))) 1099511627776) then (k0 (IntKind.wrap .i64 (x4 + (((Go.Lib.runeCount (bstr (List.drop (Int.toNat x4) x0))) : Nat) : Int))) x4) else none) else none) else (nx0 x0 x3 (IntKind.wrap .i64 (x4 + (1 : Int))))) else none) else (k1 x4))
noncomputable def Q_utf8_RuneCount_3_0 : Nat → (List Int) → Int → Int → (Int → Int → Option Ret) → (Int → Option Ret) → Option Ret
  | 0, _, _, _, _, _ => none
  | m + 1, x0, x3, x4, k0, k1 => P_utf8_RuneCount_3_0 x0 x3 x4 (fun x0 x3 x4 => (Q_utf8_RuneCount_3_0 m x0 x3 x4 k0 k1)) k0 k1
noncomputable def R_utf8_RuneCount_3_0 (x0 : List Int) (x3 : Int) (x4 : Int) (k0 : Int → Int → Option Ret) (k1 : Int → Option Ret) : Option Ret := Q_utf8_RuneCount_3_0 (List.length x0 + x3.toNat + x4.toNat + 2) x0 x3 x4 k0 k1
noncomputable def W_utf8_RuneCount_3 : LoopFn := (fun (σ : St) (K : Ex → St → Option Ret) => (match sh_utf8_RuneCount_3_0.un σ with | some d => w_utf8_RuneCount_3_0 d (fun x0 x3 x4 => R_utf8_RuneCount_3_0 x0 x3 x4 (fun x2 x4 => (K .ret (z_utf8_RuneCount_3_0 x2 x4))) (fun x4 => (K (.ext 0) (z_utf8_RuneCount_3_1 x4)))) | none => none))
noncomputable abbrev ls_utf8_RuneCount : List (Nat × Bool × Sm) := [(N.utf8_RuneCountInString, true, S_utf8_RuneCountInString)]
noncomputable abbrev E_utf8_RuneCount : Env := En ls_utf8_RuneCount [] [(3, [0,3,4], [2,4], W_utf8_RuneCount_3)] [] false 0 []
noncomputable abbrev U_utf8_RuneCount_3 := rounds (run E_utf8_RuneCount (bodyOf F.utf8_RuneCount 3)) [0,3,4] [2,4]
theorem st_utf8_RuneCount_3_0 (m : Nat) (x0 : List Int) (x3 : Int) (x4 : Int) (K : Ex → St → Option Ret) : U_utf8_RuneCount_3 (m + 1) (s_utf8_RuneCount_3_0 x0 x3 x4) K = P_utf8_RuneCount_3_0 x0 x3 x4 (fun x0 x3 x4 => (U_utf8_RuneCount_3 m (s_utf8_RuneCount_3_0 x0 x3 x4) K)) (fun x2 x4 => (K .ret (z_utf8_RuneCount_3_0 x2 x4))) (fun x4 => (K (.ext 0) (z_utf8_RuneCount_3_1 x4))) := by kernel_rfl
theorem q_utf8_RuneCount_3 (K : Ex → St → Option Ret) : ∀ m : Nat, (∀ (x0 : List Int) (x3 : Int) (x4 : Int), U_utf8_RuneCount_3 m (s_utf8_RuneCount_3_0 x0 x3 x4) K = Q_utf8_RuneCount_3_0 m x0 x3 x4 (fun x2 x4 => (K .ret (z_utf8_RuneCount_3_0 x2 x4))) (fun x4 => (K (.ext 0) (z_utf8_RuneCount_3_1 x4))))
  | 0 => (fun _ _ _ => rfl)
  | m + 1 => (fun x0 x3 x4 => (by rw [st_utf8_RuneCount_3_0, show (fun x0 x3 x4 => (U_utf8_RuneCount_3 m (s_utf8_RuneCount_3_0 x0 x3 x4) K)) = (fun x0 x3 x4 => (Q_utf8_RuneCount_3_0 m x0 x3 x4 (fun x2 x4 => (K .ret (z_utf8_RuneCount_3_0 x2 x4))) (fun x4 => (K (.ext 0) (z_utf8_RuneCount_3_1 x4))))) from funext fun x0 => funext fun x3 => funext fun x4 => (q_utf8_RuneCount_3 K m) x0 x3 x4]; rfl))
theorem loopK_utf8_RuneCount_3 : LoopOk E_utf8_RuneCount (bodyOf F.utf8_RuneCount 3) := by
  refine loopW_ok (n := 3) (F := W_utf8_RuneCount_3) (by kernel_rfl) rfl (li := [0,3,4]) (lo := [2,4]) rfl (fun σ K r hr => ?_)
  unfold W_utf8_RuneCount_3 at hr
  split at hr
  · rename_i d hd
    rw [Ss.un_mk hd]
    exact ⟨_, ((congrArg (fun z => U_utf8_RuneCount_3 _ z K) (se_utf8_RuneCount_3_0 _ _ _)).trans ((q_utf8_RuneCount_3 K _) _ _ _)).trans hr⟩
  · cases hr
noncomputable def T_utf8_RuneCount (p : List Int) (K : Ret → Option Ret) : Option Ret := (R_utf8_RuneCount_3_0 p (((List.length p) : Nat) : Int) (0 : Int) (fun y0 y1 => K ((.s (.int .i64 y0)), [])) (fun y2 => K ((.s (.int .i64 y2)), [])))
theorem e_utf8_RuneCount (p : List Int) (K : Ret → Option Ret) : evF E_utf8_RuneCount true F.utf8_RuneCount [.l .no bytesR p] K = T_utf8_RuneCount p K := by kernel_rfl
def S_utf8_RuneCount : Sm := S_fnR [.l bytesR] (fun d => fitB d.1 && valid d.1) (fun d => (sc ((cntR d.1 : Nat) : Int), []))
theorem v_utf8_RuneCount (p : List Int) (h : (fitB p && valid p) = true) (K : Ret → Option Ret) : T_utf8_RuneCount p K = K (sc ((cntR p : Nat) : Int), []) := by
  obtain ⟨hf, hv⟩ := (Bool.and_eq_true _ _).mp h
  have hl := fitB_len hf
  unfold T_utf8_RuneCount R_utf8_RuneCount_3_0
  have key : ∀ (m i : Nat), i ≤ p.length → p.length - i < m → (∀ j, j < i → p.getD j 0 < 128) → Q_utf8_RuneCount_3_0 m p ((p.length : Nat) : Int) ((i : Nat) : Int) (fun y0 y1 => K ((.s (.int .i64 y0)), [])) (fun y2 => K ((.s (.int .i64 y2)), [])) = K (sc ((cntR p : Nat) : Int), []) := by
    intro m
    induction m with
    | zero => intro i _ hm; omega
    | succ m ih =>
      intro i hi hm ha
      show P_utf8_RuneCount_3_0 p ((p.length : Nat) : Int) ((i : Nat) : Int) _ _ _ = _
      unfold P_utf8_RuneCount_3_0
      have hd := valid_dropn i ha hi
      by_cases hlt : i < p.length
      · rw [decide_eq_true (show ((i : Nat) : Int) < ((p.length : Nat) : Int) by omega), decide_eq_true (show (0 : Int) ≤ ((i : Nat) : Int) by omega), Int.toNat_natCast]
        by_cases c : p.getD i 0 ≥ 128
        · have hv' : valid (p.drop i) = true := by rw [valid_drop i hi ha]; exact hv
          have hc := cntR_le (p.drop i)
          rw [List.length_drop] at hc
          rw [decide_eq_true c, decide_eq_true (show ((i : Nat) : Int) ≤ ((p.length : Nat) : Int) by omega), bstr_size, List.length_drop, Nat.ble_eq_true_of_le (show p.length - i ≤ 1099511627776 by omega), runeCount_ok (fitB_drop hf i) hv', wrap_in (by omega) (by omega), hd]
          simp only [Bool.and_self, cond_true, Int.natCast_add]
          rfl
        · rw [decide_eq_false c, wrap_nat (by omega)]
          exact ih (i + 1) (by omega) (by omega) (fun j hj => by
            by_cases e : j = i
            · rw [e]; omega
            · exact ha j (by omega))
      · rw [decide_eq_false (show ¬ ((i : Nat) : Int) < ((p.length : Nat) : Int) by omega)]
        have e : i = p.length := by omega
        rw [List.drop_eq_nil_of_le (by omega), cntR_nil] at hd
        rw [hd]; rfl
  exact key _ 0 (by omega) (by omega) (fun j hj => absurd hj (by omega))
theorem okS_utf8_RuneCount : OkFn prog I N.utf8_RuneCount true S_utf8_RuneCount := okN (ok_fn (memc okS_utf8_RuneCountInString mem0) (l := ls_utf8_RuneCount) (p := []) (ls := [(3, [0,3,4], [2,4], W_utf8_RuneCount_3)]) (lend := []) (focus := false) (fuel := 0) (give := []) (fn := F.utf8_RuneCount) (by kernel_rfl) (by kernel_rfl) (by kernel_rfl) (by kernel_rfl) (cs := [bodyOf F.utf8_RuneCount 3]) (by kernel_rfl) (loopsc loopK_utf8_RuneCount_3 loops0)) (S_fnR_of fun d K h => (e_utf8_RuneCount d.1 K).trans (v_utf8_RuneCount d.1 h K))
end Go.Ev.Seat
end
section
/- i_lineOf: its contract. -/
namespace Go.Ev.Seat
open Go.RowKit
set_option maxRecDepth 100000
set_option linter.unusedVariables false
set_option linter.unusedSimpArgs false
noncomputable abbrev ls_i_lineOf : List (Nat × Bool × Sm) := [(N.bytes_Count, true, S_bytes_Count), (N.bytes_LastIndexByte, true, S_bytes_LastIndexByte), (N.utf8_RuneCount, true, S_utf8_RuneCount)]
noncomputable abbrev E_i_lineOf : Env := En ls_i_lineOf [] [] [] false 0 []
noncomputable def T_i_lineOf (t : List Int) (k : Int) (K : Ret → Option Ret) : Option Ret := (bif ((decide ((0 : Int) ≤ k)) && (decide (k ≤ (((List.length t) : Nat) : Int)))) then (bif ((fitB (List.take (Int.toNat k) t)) && (Nat.beq (List.length ((10 : Int) :: ([] : List Int))) 1)) then (bif (fitB (List.take (Int.toNat k) t)) then (bif ((decide ((0 : Int) ≤ (IntKind.wrap .i64 (((((nlG (List.take (Int.toNat k) t) (10 : Int) (List.length (List.take (Int.toNat k) t))) : Nat) : Int) - (1 : Int)) + (1 : Int))))) && (decide ((IntKind.wrap .i64 (((((nlG (List.take (Int.toNat k) t) (10 : Int) (List.length (List.take (Int.toNat k) t))) : Nat) : Int) - (1 : Int)) + (1 : Int))) ≤ (((List.length (List.take (Int.toNat k) t)) : Nat) : Int)))) then (bif ((fitB (List.drop (Int.toNat (IntKind.wrap .i64 (((((nlG (List.take (Int.toNat k) t) (10 : Int) (List.length (List.take (Int.toNat k) t))) : Nat) : Int) - (1 : Int)) + (1 : Int)))) (List.take (Int.toNat k) t))) && (valid (List.drop (Int.toNat (IntKind.wrap .i64 (((((nlG (List.take (Int.toNat k) t) (10 : Int) (List.length (List.take (Int.toNat k) t))) : Nat) : Int) - (1 : Int)) + (1 : Int)))) (List.take (Int.toNat k) t)))) then K ((.t [(.s (.int .i64 (((cntB (List.take (Int.toNat k) t) ((10 : Int) :: ([] : List Int))) : Nat) : Int))), (.s (.int .i64 (((cntR (List.drop (Int.toNat (IntKind.wrap .i64 (((((nlG (List.take (Int.toNat k) t) (10 : Int) (List.length (List.take (Int.toNat k) t))) : Nat) : Int) - (1 : Int)) + (1 : Int)))) (List.take (Int.toNat k) t))) : Nat) : Int)))]), []) else none) else none) else none) else none) else none)
theorem e_i_lineOf (t : List Int) (k : Int) (K : Ret → Option Ret) : evF E_i_lineOf true F.i_lineOf [.l .no bytesR t, .s (.int .i64 k)] K = T_i_lineOf t k K := by kernel_rfl
def S_i_lineOf : Sm := S_fnR [.l bytesR, .i] (fun d => fitB d.1 && (valid d.1 && isCutD d.1 d.2.1)) (fun d => (.t [sc (lineD d.1 d.2.1.toNat).1, sc (lineD d.1 d.2.1.toNat).2], []))
theorem v_i_lineOf (t : List Int) (k : Int) (h : (fitB t && (valid t && isCutD t k)) = true) (K : Ret → Option Ret) : T_i_lineOf t k K = K (.t [sc (lineD t k.toNat).1, sc (lineD t k.toNat).2], []) := by
  simp only [Bool.and_eq_true] at h
  obtain ⟨hf, hv, hc⟩ := h
  have hl := fitB_len hf
  have hr := isCutD_range hc
  obtain ⟨j, rfl⟩ : ∃ j : Nat, k = j := ⟨k.toNat, by omega⟩
  have hle := nlG_le t 10 j
  have hsg := seg_valid hv hle (by omega) (lineAt_cut hv (k := j) (by omega)) hc
  unfold T_i_lineOf
  rw [decide_eq_true hr.1, decide_eq_true hr.2, Int.toNat_natCast, fitB_take hf j, show (t.take j).length = j by rw [List.length_take]; omega, nlG_take t 10 j (Nat.le_refl _), Int.sub_add_cancel, wrap_in (by omega) (by omega), decide_eq_true (show (0 : Int) ≤ ((nlG t 10 j : Nat) : Int) by omega), decide_eq_true (show ((nlG t 10 j : Nat) : Int) ≤ ((j : Nat) : Int) by omega), Int.toNat_natCast, fitB_drop (fitB_take hf j), hsg]
  rfl
theorem okS_i_lineOf : OkFn prog I N.i_lineOf true S_i_lineOf := okN (ok_fn (memc okS_bytes_Count (memc okS_bytes_LastIndexByte (memc okS_utf8_RuneCount mem0))) (l := ls_i_lineOf) (p := []) (ls := []) (lend := []) (focus := false) (fuel := 0) (give := []) (fn := F.i_lineOf) (by kernel_rfl) (by kernel_rfl) (by kernel_rfl) (by kernel_rfl) (cs := []) (by kernel_rfl) loops0) (S_fnR_of fun d K h => (e_i_lineOf d.1 d.2.1 K).trans (v_i_lineOf d.1 d.2.1 h K))
end Go.Ev.Seat
end
section
/- i_RopeLine: its contract. -/
namespace Go.Ev.Seat
open Go.RowKit
set_option maxRecDepth 100000
set_option linter.unusedVariables false
set_option linter.unusedSimpArgs false
noncomputable abbrev ls_i_RopeLine : List (Nat × Bool × Sm) := [(N.i_isRope, true, S_i_isRope), (N.i_Rope_text, true, S_i_Rope_text), (N.i_isCut, true, S_i_isCut), (N.i_lineOf, true, S_i_lineOf)]
noncomputable abbrev E_i_RopeLine : Env := En ls_i_RopeLine [] [] [] false 0 []
noncomputable def T_i_RopeLine (r : T_Rope) (k : Int) (K : Ret → Option Ret) : Option Ret := (bif (fitC (Cc.sl chunkR) r) then (bif (!(chunksOkD r)) then K ((.t [(.s (.int .i64 (-(1 : Int)))), (.s (.int .i64 (-(1 : Int))))]), []) else (bif ((fitC (Cc.sl chunkR) r) && (chunksOkD r)) then (bif (fitB (chunksTextD r)) then (bif (!(isCutD (chunksTextD r) k)) then K ((.t [(.s (.int .i64 (-(1 : Int)))), (.s (.int .i64 (-(1 : Int))))]), []) else (bif ((fitC (Cc.sl chunkR) r) && (chunksOkD r)) then (bif ((fitB (chunksTextD r)) && ((valid (chunksTextD r)) && (isCutD (chunksTextD r) k))) then K ((.t [(.s (.int .i64 (((linesTo (chunksTextD r) (Int.toNat k)) : Nat) : Int))), (.s (.int .i64 (((cntR (List.drop (lineAt (chunksTextD r) (Int.toNat k)) (List.take (Int.toNat k) (chunksTextD r)))) : Nat) : Int)))]), []) else none) else none)) else none) else none)) else none)
theorem e_i_RopeLine (r : T_Rope) (k : Int) (K : Ret → Option Ret) : evF E_i_RopeLine true F.i_RopeLine [.a (ropeR.cells .no r), .s (.int .i64 k)] K = T_i_RopeLine r k K := by kernel_rfl
def S_i_RopeLine : Sm := S_fnR [.a ropeR, .i] (fun d => fitC (.sl chunkR) d.1) (fun d => (.t [sc (ropeLineD d.1 d.2.1).1, sc (ropeLineD d.1 d.2.1).2], []))
theorem v_i_RopeLine (r : T_Rope) (k : Int) (h : (fitC (.sl chunkR) r) = true) (K : Ret → Option Ret) : T_i_RopeLine r k K = K (.t [sc (ropeLineD r k).1, sc (ropeLineD r k).2], []) := by
  have hf := ropeText_fit (fun d hd => fitC_mem (r := chunkR) h hd)
  unfold T_i_RopeLine ropeLineD
  rw [h]
  cases hk : chunksOkD r with
  | false => rfl
  | true =>
    have hv := (textOk_iff.1 (ropeText_ok hk).1).2
    simp only [hf, hv]
    cases isCutD (chunksTextD r) k <;> rfl
theorem okS_i_RopeLine : OkFn prog I N.i_RopeLine true S_i_RopeLine := okN (ok_fn (memc okS_i_isRope (memc okS_i_Rope_text (memc okS_i_isCut (memc okS_i_lineOf mem0)))) (l := ls_i_RopeLine) (p := []) (ls := []) (lend := []) (focus := false) (fuel := 0) (give := []) (fn := F.i_RopeLine) (by kernel_rfl) (by kernel_rfl) (by kernel_rfl) (by kernel_rfl) (cs := []) (by kernel_rfl) loops0) (S_fnR_of fun d K h => (e_i_RopeLine d.1 d.2.1 K).trans (v_i_RopeLine d.1 d.2.1 h K))
end Go.Ev.Seat
end
section
/- s_RopeOk: its contract. -/
namespace Go.Ev.Seat
open Go.RowKit
set_option maxRecDepth 100000
set_option linter.unusedVariables false
set_option linter.unusedSimpArgs false
noncomputable abbrev ls_s_RopeOk : List (Nat × Bool × Sm) := [(N.s_ChunksOk, true, S_s_ChunksOk)]
noncomputable abbrev E_s_RopeOk : Env := En ls_s_RopeOk [] [] [] false 0 []
noncomputable def T_s_RopeOk (r : T_Rope) (K : Ret → Option Ret) : Option Ret := (bif (fitC (Cc.sl chunkR) r) then K ((.s (.bool (chunksOkD r))), []) else none)
theorem e_s_RopeOk (r : T_Rope) (K : Ret → Option Ret) : evF E_s_RopeOk true F.s_RopeOk [.a (ropeR.cells .no r)] K = T_s_RopeOk r K := by kernel_rfl
def S_s_RopeOk : Sm := S_fnR [.a ropeR] (fun d => fitC (.sl chunkR) d.1) (fun d => (bl (chunksOkD d.1), []))
theorem v_s_RopeOk (r : T_Rope) (h : (fitC (.sl chunkR) r) = true) (K : Ret → Option Ret) : T_s_RopeOk r K = K (bl (chunksOkD r), []) := by
  unfold T_s_RopeOk
  rw [h]; rfl
theorem okS_s_RopeOk : OkFn prog I N.s_RopeOk true S_s_RopeOk := okN (ok_fn (memc okS_s_ChunksOk mem0) (l := ls_s_RopeOk) (p := []) (ls := []) (lend := []) (focus := false) (fuel := 0) (give := []) (fn := F.s_RopeOk) (by kernel_rfl) (by kernel_rfl) (by kernel_rfl) (by kernel_rfl) (cs := []) (by kernel_rfl) loops0) (S_fnR_of fun d K h => (e_s_RopeOk d.1 K).trans (v_s_RopeOk d.1 h K))
end Go.Ev.Seat
end
section
/- s_RunesTo: its contract. -/
namespace Go.Ev.Seat
open Go.RowKit
set_option maxRecDepth 100000
set_option linter.unusedVariables false
set_option linter.unusedSimpArgs false
def z_s_RunesTo_3_0 (x4 : Int) : St := { tm := ([.x, .x, .x, .x, (.s (.int .i64 x4))] ++ List.replicate 17 .x), ob := [], nx := 0, io := [] }
def z_s_RunesTo_3_1 : St := { tm := ([] ++ List.replicate 22 .x), ob := [], nx := 0, io := [] }
def sh_s_RunesTo_3_0 : Ss := { tm := (.cons (.x) (.cons (.int .i64) (.cons (.x) (.cons (.x) (.cons (.x) (.cons (.w 0) (.cons (.int .i64) (xsh 15)))))))), ob := (.arr true true intR .nil), nx := 1, io := .nil }
def d_s_RunesTo_3_0 (x1 : Int) (x6 : Int) (o0 : List Int) : sh_s_RunesTo_3_0.T := (((), (x1, ((), ((), ((), ((), (x6, xd 15))))))), (o0, ()), ())
def s_s_RunesTo_3_0 (x1 : Int) (x6 : Int) (o0 : List Int) : St := { tm := ([.x, (.s (.int .i64 x1)), .x, .x, .x, (.w 0), (.s (.int .i64 x6))] ++ List.replicate 15 .x), ob := [(0, (.arr true true intR o0))], nx := 1, io := [] }
theorem se_s_RunesTo_3_0 (x1 : Int) (x6 : Int) (o0 : List Int) : sh_s_RunesTo_3_0.mk' (d_s_RunesTo_3_0 x1 x6 o0) = (s_s_RunesTo_3_0 x1 x6 o0) := by kernel_rfl
def w_s_RunesTo_3_0 (d : sh_s_RunesTo_3_0.T) (f : Int → Int → (List Int) → Option Ret) : Option Ret := match d with | ((_, (x1, (_, (_, (_, (_, (x6, _))))))), (o0, _), _) => f x1 x6 o0
noncomputable def P_s_RunesTo_3_0 (x1 : Int) (x6 : Int) (o0 : List Int) (nx0 : Int → Int → (List Int) → Option Ret) (k0 : Int → Option Ret) (k1 : Option Ret) : Option Ret := (bif (decide (x6 < (((List.length o0) : Nat) : Int))) then (bif ((decide ((0 : Int) ≤ x6)) && (decide (x6 < (((List.length o0) : Nat) : Int)))) then (bif ((List.getD o0 (Int.toNat x6) (0 : Int)) == x1) then (k0 x6) else (nx0 x1 (IntKind.wrap .i64 (x6 + (1 : Int))) o0)) else none) else k1)
noncomputable def Q_s_RunesTo_3_0 : Nat → Int → Int → (List Int) → (Int → Option Ret) → (Option Ret) → Option Ret
  | 0, _, _, _, _, _ => none
  | m + 1, x1, x6, o0, k0, k1 => P_s_RunesTo_3_0 x1 x6 o0 (fun x1 x6 o0 => (Q_s_RunesTo_3_0 m x1 x6 o0 k0 k1)) k0 k1
noncomputable def R_s_RunesTo_3_0 (x1 : Int) (x6 : Int) (o0 : List Int) (k0 : Int → Option Ret) (k1 : Option Ret) : Option Ret := Q_s_RunesTo_3_0 (x1.toNat + x6.toNat + List.length o0 + 2) x1 x6 o0 k0 k1
noncomputable def W_s_RunesTo_3 : LoopFn := (fun (σ : St) (K : Ex → St → Option Ret) => (match sh_s_RunesTo_3_0.un σ with | some d => w_s_RunesTo_3_0 d (fun x1 x6 o0 => R_s_RunesTo_3_0 x1 x6 o0 (fun x4 => (K .ret (z_s_RunesTo_3_0 x4))) (K (.ext 0) z_s_RunesTo_3_1)) | none => none))
noncomputable abbrev ls_s_RunesTo : List (Nat × Bool × Sm) := [(N.s_l01Cuts, true, S_s_l01Cuts)]
noncomputable abbrev E_s_RunesTo : Env := En ls_s_RunesTo [] [(3, [1,5,6], [4], W_s_RunesTo_3)] [] false 0 []
noncomputable abbrev U_s_RunesTo_3 := rounds (run E_s_RunesTo (bodyOf F.s_RunesTo 3)) [1,5,6] [4]
theorem st_s_RunesTo_3_0 (m : Nat) (x1 : Int) (x6 : Int) (o0 : List Int) (K : Ex → St → Option Ret) : U_s_RunesTo_3 (m + 1) (s_s_RunesTo_3_0 x1 x6 o0) K = P_s_RunesTo_3_0 x1 x6 o0 (fun x1 x6 o0 => (U_s_RunesTo_3 m (s_s_RunesTo_3_0 x1 x6 o0) K)) (fun x4 => (K .ret (z_s_RunesTo_3_0 x4))) (K (.ext 0) z_s_RunesTo_3_1) := by kernel_rfl
theorem q_s_RunesTo_3 (K : Ex → St → Option Ret) : ∀ m : Nat, (∀ (x1 : Int) (x6 : Int) (o0 : List Int), U_s_RunesTo_3 m (s_s_RunesTo_3_0 x1 x6 o0) K = Q_s_RunesTo_3_0 m x1 x6 o0 (fun x4 => (K .ret (z_s_RunesTo_3_0 x4))) (K (.ext 0) z_s_RunesTo_3_1))
  | 0 => (fun _ _ _ => rfl)
  | m + 1 => (fun x1 x6 o0 => (by rw [st_s_RunesTo_3_0, show (fun x1 x6 o0 => (U_s_RunesTo_3 m (s_s_RunesTo_3_0 x1 x6 o0) K)) = (fun x1 x6 o0 => (Q_s_RunesTo_3_0 m x1 x6 o0 (fun x4 => (K .ret (z_s_RunesTo_3_0 x4))) (K (.ext 0) z_s_RunesTo_3_1))) from funext fun x1 => funext fun x6 => funext fun o0 => (q_s_RunesTo_3 K m) x1 x6 o0]; rfl))
theorem loopK_s_RunesTo_3 : LoopOk E_s_RunesTo (bodyOf F.s_RunesTo 3) := by
  refine loopW_ok (n := 3) (F := W_s_RunesTo_3) (by kernel_rfl) rfl (li := [1,5,6]) (lo := [4]) rfl (fun σ K r hr => ?_)
  unfold W_s_RunesTo_3 at hr
  split at hr
  · rename_i d hd
    rw [Ss.un_mk hd]
    exact ⟨_, ((congrArg (fun z => U_s_RunesTo_3 _ z K) (se_s_RunesTo_3_0 _ _ _)).trans ((q_s_RunesTo_3 K _) _ _ _)).trans hr⟩
  · cases hr
noncomputable def T_s_RunesTo (d : List Int) (k : Int) (K : Ret → Option Ret) : Option Ret := (bif (fitB d) then (R_s_RunesTo_3_0 k (0 : Int) (cutsD d) (fun y0 => K ((.s (.int .i64 y0)), [])) (K ((.s (.int .i64 (-(1 : Int)))), []))) else none)
theorem e_s_RunesTo (d : List Int) (k : Int) (K : Ret → Option Ret) : evF E_s_RunesTo true F.s_RunesTo [.l .no bytesR d, .s (.int .i64 k)] K = T_s_RunesTo d k K := by kernel_rfl
def S_s_RunesTo : Sm := S_fnR [.l bytesR, .i] (fun d => fitB d.1) (fun d => (sc (idxOfD (cutsD d.1) d.2.1), []))
theorem v_s_RunesTo (d : List Int) (k : Int) (h : (fitB d) = true) (K : Ret → Option Ret) : T_s_RunesTo d k K = K (sc (idxOfD (cutsD d) k), []) := by
  unfold T_s_RunesTo R_s_RunesTo_3_0
  rw [h]
  have hl : (cutsD d).length ≤ 401 := by
    unfold cutsD
    cases ht : textOk d with
    | false => simp
    | true =>
      have hh := textOk_iff.1 ht
      rw [cond_true, bounds_starts _ d 0 (Nat.le_refl _) hh.2]
      have := starts_len _ d 0 (Nat.le_refl _)
      simp; omega
  have := idx_find (R := fun m i => Q_s_RunesTo_3_0 m k i (cutsD d) (fun y0 => K ((.s (.int .i64 y0)), [])) (K ((.s (.int .i64 (-(1 : Int)))), []))) (p := fun c => c == k) (z := 0) (xs := cutsD d) (kf := fun y0 => K ((.s (.int .i64 y0)), [])) (kt := K ((.s (.int .i64 (-(1 : Int)))), []))
    (fun m i hi => by
      show P_s_RunesTo_3_0 k i (cutsD d) _ _ _ = _
      unfold P_s_RunesTo_3_0
      rw [decide_eq_true (show ((i : Nat) : Int) < (((cutsD d).length : Nat) : Int) by omega), decide_eq_true (show (0 : Int) ≤ ((i : Nat) : Int) by omega), wrap_nat (by omega), Int.toNat_natCast]
      rfl)
    (fun m => by
      show P_s_RunesTo_3_0 k _ (cutsD d) _ _ _ = _
      unfold P_s_RunesTo_3_0
      rw [decide_eq_false (show ¬ (((cutsD d).length : Nat) : Int) < (((cutsD d).length : Nat) : Int) by omega)]; rfl)
    (k.toNat + (0 : Int).toNat + List.length (cutsD d) + 2) 0 (by omega) (by omega)
  refine Eq.trans this ?_
  rw [List.drop_zero]
  unfold idxOfD
  cases (cutsD d).findIdx? (fun c => c == k) with
  | none => rfl
  | some j => show K (V.s (Value.int .i64 ((0 + j : Nat) : Int)), []) = K (sc ((j : Nat) : Int), []); rw [Nat.zero_add]; rfl
theorem okS_s_RunesTo : OkFn prog I N.s_RunesTo true S_s_RunesTo := okN (ok_fn (memc okS_s_l01Cuts mem0) (l := ls_s_RunesTo) (p := []) (ls := [(3, [1,5,6], [4], W_s_RunesTo_3)]) (lend := []) (focus := false) (fuel := 0) (give := []) (fn := F.s_RunesTo) (by kernel_rfl) (by kernel_rfl) (by kernel_rfl) (by kernel_rfl) (cs := [bodyOf F.s_RunesTo 3]) (by kernel_rfl) (loopsc loopK_s_RunesTo_3 loops0)) (S_fnR_of fun d K h => (e_s_RunesTo d.1 d.2.1 K).trans (v_s_RunesTo d.1 d.2.1 h K))
end Go.Ev.Seat
end
section
/- s_CutOk: its contract. -/
namespace Go.Ev.Seat
open Go.RowKit
set_option maxRecDepth 100000
set_option linter.unusedVariables false
set_option linter.unusedSimpArgs false
noncomputable abbrev ls_s_CutOk : List (Nat × Bool × Sm) := [(N.s_RunesTo, true, S_s_RunesTo)]
noncomputable abbrev E_s_CutOk : Env := En ls_s_CutOk [] [] [] false 0 []
noncomputable def T_s_CutOk (d : List Int) (k : Int) (K : Ret → Option Ret) : Option Ret := (bif (fitB d) then K ((.s (.bool (decide ((idxOfD (cutsD d) k) ≥ (0 : Int))))), []) else none)
theorem e_s_CutOk (d : List Int) (k : Int) (K : Ret → Option Ret) : evF E_s_CutOk true F.s_CutOk [.l .no bytesR d, .s (.int .i64 k)] K = T_s_CutOk d k K := by kernel_rfl
def S_s_CutOk : Sm := S_fnR [.l bytesR, .i] (fun d => fitB d.1) (fun d => (bl (cutOk d.1 d.2.1), []))
theorem v_s_CutOk (d : List Int) (k : Int) (h : (fitB d) = true) (K : Ret → Option Ret) : T_s_CutOk d k K = K (bl (cutOk d k), []) := by
  unfold T_s_CutOk
  rw [h, ← cutsD_has, ← idxOfD_any]; rfl
theorem okS_s_CutOk : OkFn prog I N.s_CutOk true S_s_CutOk := okN (ok_fn (memc okS_s_RunesTo mem0) (l := ls_s_CutOk) (p := []) (ls := []) (lend := []) (focus := false) (fuel := 0) (give := []) (fn := F.s_CutOk) (by kernel_rfl) (by kernel_rfl) (by kernel_rfl) (by kernel_rfl) (cs := []) (by kernel_rfl) loops0) (S_fnR_of fun d K h => (e_s_CutOk d.1 d.2.1 K).trans (v_s_CutOk d.1 d.2.1 h K))
end Go.Ev.Seat
end
section
/- s_l04Cut: its contract. -/
namespace Go.Ev.Seat
open Go.RowKit
set_option maxRecDepth 100000
set_option linter.unusedVariables false
set_option linter.unusedSimpArgs false
noncomputable abbrev ls_s_l04Cut : List (Nat × Bool × Sm) := [(N.s_RopeOk, true, S_s_RopeOk), (N.s_RopeText, true, S_s_RopeText), (N.s_CutOk, true, S_s_CutOk)]
noncomputable abbrev E_s_l04Cut : Env := En ls_s_l04Cut [] [] [] false 0 []
noncomputable def T_s_l04Cut (r : T_Rope) (k : Int) (K : Ret → Option Ret) : Option Ret := (bif (fitC (Cc.sl chunkR) r) then (bif (chunksOkD r) then (bif (fitC (Cc.sl chunkR) r) then (bif (fitB (chunksTextD r)) then K ((.s (.bool (cutOk (chunksTextD r) k))), []) else none) else none) else K ((.s (.bool false)), [])) else none)
theorem e_s_l04Cut (r : T_Rope) (k : Int) (K : Ret → Option Ret) : evF E_s_l04Cut true F.s_l04Cut [.a (ropeR.cells .no r), .s (.int .i64 k)] K = T_s_l04Cut r k K := by kernel_rfl
def S_s_l04Cut : Sm := S_fnR [.a ropeR, .i] (fun d => fitC (.sl chunkR) d.1) (fun d => (bl (chunksOkD d.1 && isCutD (chunksTextD d.1) d.2.1), []))
theorem v_s_l04Cut (r : T_Rope) (k : Int) (h : (fitC (.sl chunkR) r) = true) (K : Ret → Option Ret) : T_s_l04Cut r k K = K (bl (chunksOkD r && isCutD (chunksTextD r) k), []) := by
  unfold T_s_l04Cut
  rw [h, ropeText_fit (fun d hd => fitC_mem (r := chunkR) h hd)]
  cases hk : chunksOkD r with
  | false => rfl
  | true =>
    have := (ropeText_ok hk).1
    unfold cutOk
    rw [this]; rfl
theorem okS_s_l04Cut : OkFn prog I N.s_l04Cut true S_s_l04Cut := okN (ok_fn (memc okS_s_RopeOk (memc okS_s_RopeText (memc okS_s_CutOk mem0))) (l := ls_s_l04Cut) (p := []) (ls := []) (lend := []) (focus := false) (fuel := 0) (give := []) (fn := F.s_l04Cut) (by kernel_rfl) (by kernel_rfl) (by kernel_rfl) (by kernel_rfl) (cs := []) (by kernel_rfl) loops0) (S_fnR_of fun d K h => (e_s_l04Cut d.1 d.2.1 K).trans (v_s_l04Cut d.1 d.2.1 h K))
end Go.Ev.Seat
end
section
/- s_RuneCount: its contract. -/
namespace Go.Ev.Seat
open Go.RowKit
set_option maxRecDepth 100000
set_option linter.unusedVariables false
set_option linter.unusedSimpArgs false
noncomputable abbrev ls_s_RuneCount : List (Nat × Bool × Sm) := [(N.s_l01Cuts, true, S_s_l01Cuts)]
noncomputable abbrev E_s_RuneCount : Env := En ls_s_RuneCount [] [] [] false 0 []
noncomputable def T_s_RuneCount (d : List Int) (K : Ret → Option Ret) : Option Ret := (bif (fitB d) then K ((.s (.int .i64 (IntKind.wrap .i64 ((((List.length (cutsD d)) : Nat) : Int) - (1 : Int))))), []) else none)
theorem e_s_RuneCount (d : List Int) (K : Ret → Option Ret) : evF E_s_RuneCount true F.s_RuneCount [.l .no bytesR d] K = T_s_RuneCount d K := by kernel_rfl
def S_s_RuneCount : Sm := S_fnR [.l bytesR] (fun d => fitB d.1) (fun d => (sc (bif textOk d.1 then ((cntR d.1 : Nat) : Int) else -1), []))
theorem v_s_RuneCount (d : List Int) (h : (fitB d) = true) (K : Ret → Option Ret) : T_s_RuneCount d K = K (sc (bif textOk d then ((cntR d : Nat) : Int) else -1), []) := by
  unfold T_s_RuneCount cutsD
  rw [h]
  cases ht : textOk d with
  | false => rfl
  | true =>
    have hh := textOk_iff.1 ht
    have hl := starts_len _ d 0 (Nat.le_refl _)
    simp only [cond_true]
    rw [bounds_starts _ d 0 (Nat.le_refl _) hh.2, List.length_append, wrap_in (by simp only [List.length_cons, List.length_nil]; omega) (by simp only [List.length_cons, List.length_nil]; omega), show (((starts d 0).length + [0 + ((d.length : Nat) : Int)].length : Nat) : Int) - 1 = ((cntR d : Nat) : Int) by unfold cntR; simp]
    rfl
theorem okS_s_RuneCount : OkFn prog I N.s_RuneCount true S_s_RuneCount := okN (ok_fn (memc okS_s_l01Cuts mem0) (l := ls_s_RuneCount) (p := []) (ls := []) (lend := []) (focus := false) (fuel := 0) (give := []) (fn := F.s_RuneCount) (by kernel_rfl) (by kernel_rfl) (by kernel_rfl) (by kernel_rfl) (cs := []) (by kernel_rfl) loops0) (S_fnR_of fun d K h => (e_s_RuneCount d.1 K).trans (v_s_RuneCount d.1 h K))
end Go.Ev.Seat
end
section
/- s_RopeLine: its contract. -/
namespace Go.Ev.Seat
open Go.RowKit
set_option maxRecDepth 100000
set_option linter.unusedVariables false
set_option linter.unusedSimpArgs false
def z_s_RopeLine_7_0 (x6a : Nat) (x6b : Nat) (x7 : Int) (x8 : Int) (o0 : List Int) : St := { tm := ([.x, .x, .x, .x, .x, .x, (.r 0 x6a x6b), (.s (.int .i64 x7)), (.s (.int .i64 x8))] ++ List.replicate 28 .x), ob := [(0, (.arr true true bytesR o0))], nx := 1, io := [] }
def sh_s_RopeLine_7_0 : Ss := { tm := (.cons (.x) (.cons (.int .i64) (.cons (.x) (.cons (.x) (.cons (.x) (.cons (.x) (.cons (.r 0) (.cons (.int .i64) (.cons (.int .i64) (.cons (.int .i64) (xsh 27))))))))))), ob := (.arr true true bytesR .nil), nx := 1, io := .nil }
def d_s_RopeLine_7_0 (x1 : Int) (x6a : Nat) (x6b : Nat) (x7 : Int) (x8 : Int) (x9 : Int) (o0 : List Int) : sh_s_RopeLine_7_0.T := (((), (x1, ((), ((), ((), ((), ((x6a, x6b), (x7, (x8, (x9, xd 27)))))))))), (o0, ()), ())
def s_s_RopeLine_7_0 (x1 : Int) (x6a : Nat) (x6b : Nat) (x7 : Int) (x8 : Int) (x9 : Int) (o0 : List Int) : St := { tm := ([.x, (.s (.int .i64 x1)), .x, .x, .x, .x, (.r 0 x6a x6b), (.s (.int .i64 x7)), (.s (.int .i64 x8)), (.s (.int .i64 x9))] ++ List.replicate 27 .x), ob := [(0, (.arr true true bytesR o0))], nx := 1, io := [] }
theorem se_s_RopeLine_7_0 (x1 : Int) (x6a : Nat) (x6b : Nat) (x7 : Int) (x8 : Int) (x9 : Int) (o0 : List Int) : sh_s_RopeLine_7_0.mk' (d_s_RopeLine_7_0 x1 x6a x6b x7 x8 x9 o0) = (s_s_RopeLine_7_0 x1 x6a x6b x7 x8 x9 o0) := by kernel_rfl
def w_s_RopeLine_7_0 (d : sh_s_RopeLine_7_0.T) (f : Int → Nat → Nat → Int → Int → Int → (List Int) → Option Ret) : Option Ret := match d with | ((_, (x1, (_, (_, (_, (_, ((x6a, x6b), (x7, (x8, (x9, _)))))))))), (o0, _), _) => f x1 x6a x6b x7 x8 x9 o0
noncomputable def P_s_RopeLine_7_0 (x1 : Int) (x6a : Nat) (x6b : Nat) (x7 : Int) (x8 : Int) (x9 : Int) (o0 : List Int) (nx0 : Int → Nat → Nat → Int → Int → Int → (List Int) → Option Ret) (k0 : Nat → Nat → Int → Int → (List Int) → Option Ret) : Option Ret := (bif (decide (x9 < x1)) then (bif ((decide ((0 : Int) ≤ x9)) && (decide (x9 < ((x6b : Nat) : Int)))) then (bif ((List.getD o0 (x6a + (Int.toNat x9)) (0 : Int)) == (10 : Int)) then (nx0 x1 x6a x6b (IntKind.wrap .i64 (x7 + (1 : Int))) (IntKind.wrap .i64 (x9 + (1 : Int))) (IntKind.wrap .i64 (x9 + (1 : Int))) o0) else (nx0 x1 x6a x6b x7 x8 (IntKind.wrap .i64 (x9 + (1 : Int))) o0)) else none) else (k0 x6a x6b x7 x8 o0))
noncomputable def Q_s_RopeLine_7_0 : Nat → Int → Nat → Nat → Int → Int → Int → (List Int) → (Nat → Nat → Int → Int → (List Int) → Option Ret) → Option Ret
  | 0, _, _, _, _, _, _, _, _ => none
  | m + 1, x1, x6a, x6b, x7, x8, x9, o0, k0 => P_s_RopeLine_7_0 x1 x6a x6b x7 x8 x9 o0 (fun x1 x6a x6b x7 x8 x9 o0 => (Q_s_RopeLine_7_0 m x1 x6a x6b x7 x8 x9 o0 k0)) k0
noncomputable def R_s_RopeLine_7_0 (x1 : Int) (x6a : Nat) (x6b : Nat) (x7 : Int) (x8 : Int) (x9 : Int) (o0 : List Int) (k0 : Nat → Nat → Int → Int → (List Int) → Option Ret) : Option Ret := Q_s_RopeLine_7_0 (x1.toNat + x7.toNat + x8.toNat + x9.toNat + List.length o0 + 2) x1 x6a x6b x7 x8 x9 o0 k0
noncomputable def W_s_RopeLine_7 : LoopFn := (fun (σ : St) (K : Ex → St → Option Ret) => (match sh_s_RopeLine_7_0.un σ with | some d => w_s_RopeLine_7_0 d (fun x1 x6a x6b x7 x8 x9 o0 => R_s_RopeLine_7_0 x1 x6a x6b x7 x8 x9 o0 (fun x6a x6b x7 x8 o0 => (K (.ext 0) (z_s_RopeLine_7_0 x6a x6b x7 x8 o0)))) | none => none))
noncomputable abbrev ls_s_RopeLine : List (Nat × Bool × Sm) := [(N.s_l04Cut, true, S_s_l04Cut), (N.s_RopeText, true, S_s_RopeText), (N.s_RuneCount, true, S_s_RuneCount)]
noncomputable abbrev E_s_RopeLine : Env := En ls_s_RopeLine [] [(7, [1,6,7,8,9], [4,5,6,7,8], W_s_RopeLine_7)] [] false 0 []
noncomputable abbrev U_s_RopeLine_7 := rounds (run E_s_RopeLine (bodyOf F.s_RopeLine 7)) [1,6,7,8,9] [4,5,6,7,8]
theorem st_s_RopeLine_7_0 (m : Nat) (x1 : Int) (x6a : Nat) (x6b : Nat) (x7 : Int) (x8 : Int) (x9 : Int) (o0 : List Int) (K : Ex → St → Option Ret) : U_s_RopeLine_7 (m + 1) (s_s_RopeLine_7_0 x1 x6a x6b x7 x8 x9 o0) K = P_s_RopeLine_7_0 x1 x6a x6b x7 x8 x9 o0 (fun x1 x6a x6b x7 x8 x9 o0 => (U_s_RopeLine_7 m (s_s_RopeLine_7_0 x1 x6a x6b x7 x8 x9 o0) K)) (fun x6a x6b x7 x8 o0 => (K (.ext 0) (z_s_RopeLine_7_0 x6a x6b x7 x8 o0))) := by kernel_rfl
theorem q_s_RopeLine_7 (K : Ex → St → Option Ret) : ∀ m : Nat, (∀ (x1 : Int) (x6a : Nat) (x6b : Nat) (x7 : Int) (x8 : Int) (x9 : Int) (o0 : List Int), U_s_RopeLine_7 m (s_s_RopeLine_7_0 x1 x6a x6b x7 x8 x9 o0) K = Q_s_RopeLine_7_0 m x1 x6a x6b x7 x8 x9 o0 (fun x6a x6b x7 x8 o0 => (K (.ext 0) (z_s_RopeLine_7_0 x6a x6b x7 x8 o0))))
  | 0 => (fun _ _ _ _ _ _ _ => rfl)
  | m + 1 => (fun x1 x6a x6b x7 x8 x9 o0 => (by rw [st_s_RopeLine_7_0, show (fun x1 x6a x6b x7 x8 x9 o0 => (U_s_RopeLine_7 m (s_s_RopeLine_7_0 x1 x6a x6b x7 x8 x9 o0) K)) = (fun x1 x6a x6b x7 x8 x9 o0 => (Q_s_RopeLine_7_0 m x1 x6a x6b x7 x8 x9 o0 (fun x6a x6b x7 x8 o0 => (K (.ext 0) (z_s_RopeLine_7_0 x6a x6b x7 x8 o0))))) from funext fun x1 => funext fun x6a => funext fun x6b => funext fun x7 => funext fun x8 => funext fun x9 => funext fun o0 => (q_s_RopeLine_7 K m) x1 x6a x6b x7 x8 x9 o0]; rfl))
theorem loopK_s_RopeLine_7 : LoopOk E_s_RopeLine (bodyOf F.s_RopeLine 7) := by
  refine loopW_ok (n := 7) (F := W_s_RopeLine_7) (by kernel_rfl) rfl (li := [1,6,7,8,9]) (lo := [4,5,6,7,8]) rfl (fun σ K r hr => ?_)
  unfold W_s_RopeLine_7 at hr
  split at hr
  · rename_i d hd
    rw [Ss.un_mk hd]
    exact ⟨_, ((congrArg (fun z => U_s_RopeLine_7 _ z K) (se_s_RopeLine_7_0 _ _ _ _ _ _ _)).trans ((q_s_RopeLine_7 K _) _ _ _ _ _ _ _)).trans hr⟩
  · cases hr
noncomputable def T_s_RopeLine (r : T_Rope) (k : Int) (K : Ret → Option Ret) : Option Ret := (bif (fitC (Cc.sl chunkR) r) then (bif (!((chunksOkD r) && (isCutD (chunksTextD r) k))) then K ((.t [(.s (.int .i64 (-(1 : Int)))), (.s (.int .i64 (-(1 : Int))))]), []) else (bif (fitC (Cc.sl chunkR) r) then (bif ((decide ((0 : Int) ≤ k)) && (decide (k ≤ (((List.length (chunksTextD r)) : Nat) : Int)))) then (R_s_RopeLine_7_0 k 0 ((Int.toNat k) - 0) (0 : Int) (0 : Int) (0 : Int) (chunksTextD r) (fun y0 y1 y2 y3 y4 => (bif ((decide ((0 : Int) ≤ y3)) && (decide (y3 ≤ ((y1 : Nat) : Int)))) then (bif (fitB (List.take ((Int.toNat ((y1 : Nat) : Int)) - (Int.toNat y3)) (List.drop (y0 + (Int.toNat y3)) y4))) then K ((.t [(.s (.int .i64 y2)), (.s (.int .i64 (bif (textOk (List.take ((Int.toNat ((y1 : Nat) : Int)) - (Int.toNat y3)) (List.drop (y0 + (Int.toNat y3)) y4))) then (((cntR (List.take ((Int.toNat ((y1 : Nat) : Int)) - (Int.toNat y3)) (List.drop (y0 + (Int.toNat y3)) y4))) : Nat) : Int) else (-(1 : Int)))))]), []) else none) else none))) else none) else none)) else none)
theorem e_s_RopeLine (r : T_Rope) (k : Int) (K : Ret → Option Ret) : evF E_s_RopeLine true F.s_RopeLine [.a (ropeR.cells .no r), .s (.int .i64 k)] K = T_s_RopeLine r k K := by kernel_rfl
def S_s_RopeLine : Sm := S_fnR [.a ropeR, .i] (fun d => fitC (.sl chunkR) d.1) (fun d => (.t [sc (ropeLineD d.1 d.2.1).1, sc (ropeLineD d.1 d.2.1).2], []))
theorem v_s_RopeLine (r : T_Rope) (k : Int) (h : (fitC (.sl chunkR) r) = true) (K : Ret → Option Ret) : T_s_RopeLine r k K = K (.t [sc (ropeLineD r k).1, sc (ropeLineD r k).2], []) := by
  have hf := ropeText_fit (fun d hd => fitC_mem (r := chunkR) h hd)
  unfold T_s_RopeLine ropeLineD
  rw [h]
  cases hk : chunksOkD r with
  | false => rfl
  | true =>
    have htx := (ropeText_ok hk).1
    have hv := (textOk_iff.1 htx).2
    have hlen := (textOk_iff.1 htx).1
    generalize chunksTextD r = t at *
    cases hc : isCutD t k with
    | false => rfl
    | true =>
      have hr := isCutD_range hc
      obtain ⟨j, rfl⟩ : ∃ j : Nat, k = j := ⟨k.toNat, by omega⟩
      rw [decide_eq_true hr.1, decide_eq_true hr.2]
      simp only [Bool.and_self, Bool.not_true, cond_true, cond_false, Nat.sub_zero, Int.toNat_natCast]
      unfold R_s_RopeLine_7_0
      have q : ∀ (k0 : Nat → Nat → Int → Int → (List Int) → Option Ret) (m i : Nat), i ≤ j → j - i < m → Q_s_RopeLine_7_0 m ((j : Nat) : Int) 0 j ((linesTo t i : Nat) : Int) ((nlG t 10 i : Nat) : Int) ((i : Nat) : Int) t k0 = k0 0 j ((linesTo t j : Nat) : Int) ((nlG t 10 j : Nat) : Int) t := by
        intro k0 m
        induction m with
        | zero => intro i _ hm; omega
        | succ m ih =>
          intro i hi hm
          show P_s_RopeLine_7_0 ((j : Nat) : Int) 0 j _ _ ((i : Nat) : Int) t _ _ = _
          unfold P_s_RopeLine_7_0
          by_cases hlt : i < j
          · have step := ih (i + 1) (by omega) (by omega)
            have hs := linesTo_succ hf (k := i) (by omega)
            have hle := cntB_le (t.take i) [10]
            rw [List.length_take] at hle
            have hli : linesTo t i ≤ 400 := by unfold linesTo; omega
            rw [decide_eq_true (show ((i : Nat) : Int) < ((j : Nat) : Int) by omega), decide_eq_true (show (0 : Int) ≤ ((i : Nat) : Int) by omega), wrap_in (n := ((i : Nat) : Int) + 1) (by omega) (by omega), show ((i : Nat) : Int) + 1 = ((i + 1 : Nat) : Int) by omega, wrap_in (n := ((linesTo t i : Nat) : Int) + 1) (by omega) (by omega), show ((linesTo t i : Nat) : Int) + 1 = ((linesTo t i + 1 : Nat) : Int) by omega, Nat.zero_add, Int.toNat_natCast]
            rw [hs] at step
            conv at step => lhs; unfold nlG
            by_cases e : t.getD i 0 = 10
            · rw [if_pos e, beq_iff_eq.2 e] at step
              rw [beq_iff_eq.2 e]
              exact step
            · rw [if_neg e, beq_eq_false_iff_ne.2 e] at step
              rw [beq_eq_false_iff_ne.2 e]
              exact step
          · obtain rfl : i = j := by omega
            rw [decide_eq_false (show ¬ ((i : Nat) : Int) < ((i : Nat) : Int) by omega)]; rfl
      have q0 := q
      refine Eq.trans (q _ _ 0 (Nat.zero_le _) ?_) ?_
      · omega
      · have hle := nlG_le t 10 j
        have hsg := seg_valid hv hle (by omega) (lineAt_cut hv (k := j) (by omega)) hc
        have e : List.take (j - nlG t 10 j) (List.drop (0 + nlG t 10 j) t) = (t.take j).drop (nlG t 10 j) := by rw [Nat.zero_add, List.drop_take]
        have hl2 : ((t.take j).drop (nlG t 10 j)).length ≤ 400 := by rw [List.length_drop, List.length_take]; omega
        rw [decide_eq_true (show (0 : Int) ≤ ((nlG t 10 j : Nat) : Int) by omega), decide_eq_true (show ((nlG t 10 j : Nat) : Int) ≤ ((j : Nat) : Int) by omega), Int.toNat_natCast, e, fitB_drop (fitB_take hf j), textOk_iff.2 ⟨hl2, hsg⟩]
        rfl
theorem okS_s_RopeLine : OkFn prog I N.s_RopeLine true S_s_RopeLine := okN (ok_fn (memc okS_s_l04Cut (memc okS_s_RopeText (memc okS_s_RuneCount mem0))) (l := ls_s_RopeLine) (p := []) (ls := [(7, [1,6,7,8,9], [4,5,6,7,8], W_s_RopeLine_7)]) (lend := []) (focus := false) (fuel := 0) (give := []) (fn := F.s_RopeLine) (by kernel_rfl) (by kernel_rfl) (by kernel_rfl) (by kernel_rfl) (cs := [bodyOf F.s_RopeLine 7]) (by kernel_rfl) (loopsc loopK_s_RopeLine_7 loops0)) (S_fnR_of fun d K h => (e_s_RopeLine d.1 d.2.1 K).trans (v_s_RopeLine d.1 d.2.1 h K))
end Go.Ev.Seat
end
section
/- i_ChunksText: its contract. -/
namespace Go.Ev.Seat
open Go.RowKit
set_option maxRecDepth 100000
set_option linter.unusedVariables false
set_option linter.unusedSimpArgs false
noncomputable abbrev ls_i_ChunksText : List (Nat × Bool × Sm) := [(N.i_areChunks, true, S_i_areChunks), (N.i_chunksText, true, S_i_chunksText)]
noncomputable abbrev E_i_ChunksText : Env := En ls_i_ChunksText [] [] [] false 0 []
noncomputable def T_i_ChunksText (l : List T_Chunk) (K : Ret → Option Ret) : Option Ret := (bif (fitC (Cc.sl chunkR) l) then (bif (!(chunksOkD l)) then K ((.l .deep bytesR ([] : List Int)), []) else (bif ((fitC (Cc.sl chunkR) l) && (chunksOkD l)) then K ((.l .deep bytesR (List.flatten l)), []) else none)) else none)
theorem e_i_ChunksText (l : List T_Chunk) (K : Ret → Option Ret) : evF E_i_ChunksText true F.i_ChunksText [.l .no chunkR l] K = T_i_ChunksText l K := by kernel_rfl
def S_i_ChunksText : Sm := S_fnR [.l chunkR] (fun d => fitC (.sl chunkR) d.1) (fun d => (.l .deep bytesR (chunksTextD d.1), []))
theorem v_i_ChunksText (l : List T_Chunk) (h : (fitC (.sl chunkR) l) = true) (K : Ret → Option Ret) : T_i_ChunksText l K = K (.l .deep bytesR (chunksTextD l), []) := by
  unfold T_i_ChunksText chunksTextD
  rw [h]
  cases chunksOkD l <;> rfl
theorem okS_i_ChunksText : OkFn prog I N.i_ChunksText true S_i_ChunksText := okN (ok_fn (memc okS_i_areChunks (memc okS_i_chunksText mem0)) (l := ls_i_ChunksText) (p := []) (ls := []) (lend := []) (focus := false) (fuel := 0) (give := []) (fn := F.i_ChunksText) (by kernel_rfl) (by kernel_rfl) (by kernel_rfl) (by kernel_rfl) (cs := []) (by kernel_rfl) loops0) (S_fnR_of fun d K h => (e_i_ChunksText d.1 K).trans (v_i_ChunksText d.1 h K))
end Go.Ev.Seat
end
section
/- i_RopeText: its contract. -/
namespace Go.Ev.Seat
open Go.RowKit
set_option maxRecDepth 100000
set_option linter.unusedVariables false
set_option linter.unusedSimpArgs false
noncomputable abbrev ls_i_RopeText : List (Nat × Bool × Sm) := [(N.i_ChunksText, true, S_i_ChunksText)]
noncomputable abbrev E_i_RopeText : Env := En ls_i_RopeText [] [] [] false 0 []
noncomputable def T_i_RopeText (r : T_Rope) (K : Ret → Option Ret) : Option Ret := (bif (fitC (Cc.sl chunkR) r) then K ((.l .deep bytesR (chunksTextD r)), []) else none)
theorem e_i_RopeText (r : T_Rope) (K : Ret → Option Ret) : evF E_i_RopeText true F.i_RopeText [.a (ropeR.cells .no r)] K = T_i_RopeText r K := by kernel_rfl
def S_i_RopeText : Sm := S_fnR [.a ropeR] (fun d => fitC (.sl chunkR) d.1) (fun d => (.l .deep bytesR (chunksTextD d.1), []))
theorem v_i_RopeText (r : T_Rope) (h : (fitC (.sl chunkR) r) = true) (K : Ret → Option Ret) : T_i_RopeText r K = K (.l .deep bytesR (chunksTextD r), []) := by
  unfold T_i_RopeText
  rw [h]; rfl
theorem okS_i_RopeText : OkFn prog I N.i_RopeText true S_i_RopeText := okN (ok_fn (memc okS_i_ChunksText mem0) (l := ls_i_RopeText) (p := []) (ls := []) (lend := []) (focus := false) (fuel := 0) (give := []) (fn := F.i_RopeText) (by kernel_rfl) (by kernel_rfl) (by kernel_rfl) (by kernel_rfl) (cs := []) (by kernel_rfl) loops0) (S_fnR_of fun d K h => (e_i_RopeText d.1 K).trans (v_i_RopeText d.1 h K))
end Go.Ev.Seat
end
section
/- i_isText: its contract. -/
namespace Go.Ev.Seat
open Go.RowKit
set_option maxRecDepth 100000
set_option linter.unusedVariables false
set_option linter.unusedSimpArgs false
noncomputable abbrev ls_i_isText : List (Nat × Bool × Sm) := [(N.utf8_Valid, true, S_utf8_Valid)]
noncomputable abbrev E_i_isText : Env := En ls_i_isText [] [] [] false 0 []
noncomputable def T_i_isText (t : List Int) (K : Ret → Option Ret) : Option Ret := (bif (decide ((((List.length t) : Nat) : Int) ≤ (400 : Int))) then (bif (fitB t) then K ((.s (.bool (valid t))), []) else none) else K ((.s (.bool false)), []))
theorem e_i_isText (t : List Int) (K : Ret → Option Ret) : evF E_i_isText true F.i_isText [.l .no bytesR t] K = T_i_isText t K := by kernel_rfl
def S_i_isText : Sm := S_fnR [.l bytesR] (fun d => fitB d.1) (fun d => (bl (textOk d.1), []))
theorem v_i_isText (t : List Int) (h : (fitB t) = true) (K : Ret → Option Ret) : T_i_isText t K = K (bl (textOk t), []) := by
  unfold T_i_isText textOk
  rw [h]
  by_cases hl : t.length ≤ 400
  · rw [decide_eq_true (show ((t.length : Nat) : Int) ≤ 400 by omega), Nat.ble_eq_true_of_le hl]; rfl
  · rw [decide_eq_false (show ¬ ((t.length : Nat) : Int) ≤ 400 by omega), Bool.eq_false_iff.2 (fun h => hl (Nat.le_of_ble_eq_true h))]; rfl
theorem okS_i_isText : OkFn prog I N.i_isText true S_i_isText := okN (ok_fn (memc okS_utf8_Valid mem0) (l := ls_i_isText) (p := []) (ls := []) (lend := []) (focus := false) (fuel := 0) (give := []) (fn := F.i_isText) (by kernel_rfl) (by kernel_rfl) (by kernel_rfl) (by kernel_rfl) (cs := []) (by kernel_rfl) loops0) (S_fnR_of fun d K h => (e_i_isText d.1 K).trans (v_i_isText d.1 h K))
end Go.Ev.Seat
end
section
/- i_measOf: its contract. -/
namespace Go.Ev.Seat
open Go.RowKit
set_option maxRecDepth 100000
set_option linter.unusedVariables false
set_option linter.unusedSimpArgs false
noncomputable abbrev ls_i_measOf : List (Nat × Bool × Sm) := [(N.utf8_RuneCount, true, S_utf8_RuneCount), (N.bytes_Count, true, S_bytes_Count)]
noncomputable abbrev E_i_measOf : Env := En ls_i_measOf [] [] [] false 0 []
noncomputable def T_i_measOf (d : List Int) (K : Ret → Option Ret) : Option Ret := (bif ((fitB d) && (valid d)) then (bif ((fitB d) && (Nat.beq (List.length ((10 : Int) :: ([] : List Int))) 1)) then K ((.a [(.s (.int .i64 (((List.length d) : Nat) : Int))), (.s (.int .i64 (((cntR d) : Nat) : Int))), (.s (.int .i64 (((cntB d ((10 : Int) :: ([] : List Int))) : Nat) : Int)))]), []) else none) else none)
theorem e_i_measOf (d : List Int) (K : Ret → Option Ret) : evF E_i_measOf true F.i_measOf [.l .no bytesR d] K = T_i_measOf d K := by kernel_rfl
def S_i_measOf : Sm := S_fnR [.l bytesR] (fun d => fitB d.1 && textOk d.1) (fun d => (.a [sc (measD d.1).1, sc (measD d.1).2.1, sc (measD d.1).2.2], []))
theorem v_i_measOf (d : List Int) (h : (fitB d && textOk d) = true) (K : Ret → Option Ret) : T_i_measOf d K = K (.a [sc (measD d).1, sc (measD d).2.1, sc (measD d).2.2], []) := by
  obtain ⟨hf, ht⟩ := (Bool.and_eq_true _ _).mp h
  unfold T_i_measOf measD
  rw [ht, hf, (textOk_iff.1 ht).2]; rfl
theorem okS_i_measOf : OkFn prog I N.i_measOf true S_i_measOf := okN (ok_fn (memc okS_utf8_RuneCount (memc okS_bytes_Count mem0)) (l := ls_i_measOf) (p := []) (ls := []) (lend := []) (focus := false) (fuel := 0) (give := []) (fn := F.i_measOf) (by kernel_rfl) (by kernel_rfl) (by kernel_rfl) (by kernel_rfl) (cs := []) (by kernel_rfl) loops0) (S_fnR_of fun d K h => (e_i_measOf d.1 K).trans (v_i_measOf d.1 h K))
end Go.Ev.Seat
end
section
/- i_MeasOf: its contract. -/
namespace Go.Ev.Seat
open Go.RowKit
set_option maxRecDepth 100000
set_option linter.unusedVariables false
set_option linter.unusedSimpArgs false
noncomputable abbrev ls_i_MeasOf : List (Nat × Bool × Sm) := [(N.i_isText, true, S_i_isText), (N.i_measOf, true, S_i_measOf)]
noncomputable abbrev E_i_MeasOf : Env := En ls_i_MeasOf [] [] [] false 0 []
noncomputable def T_i_MeasOf (d : List Int) (K : Ret → Option Ret) : Option Ret := (bif (fitB d) then (bif (!(textOk d)) then K ((.a [(.s (.int .i64 (0 : Int))), (.s (.int .i64 (0 : Int))), (.s (.int .i64 (0 : Int)))]), []) else (bif ((fitB d) && (textOk d)) then K ((.a [(.s (.int .i64 (measD d).1)), (.s (.int .i64 (measD d).2.1)), (.s (.int .i64 (measD d).2.2))]), []) else none)) else none)
theorem e_i_MeasOf (d : List Int) (K : Ret → Option Ret) : evF E_i_MeasOf true F.i_MeasOf [.l .no bytesR d] K = T_i_MeasOf d K := by kernel_rfl
def S_i_MeasOf : Sm := S_fnR [.l bytesR] (fun d => fitB d.1) (fun d => (.a [sc (measD d.1).1, sc (measD d.1).2.1, sc (measD d.1).2.2], []))
theorem v_i_MeasOf (d : List Int) (h : (fitB d) = true) (K : Ret → Option Ret) : T_i_MeasOf d K = K (.a [sc (measD d).1, sc (measD d).2.1, sc (measD d).2.2], []) := by
  unfold T_i_MeasOf
  rw [h]
  cases ht : textOk d with
  | false => unfold measD; rw [ht]; rfl
  | true => rfl
theorem okS_i_MeasOf : OkFn prog I N.i_MeasOf true S_i_MeasOf := okN (ok_fn (memc okS_i_isText (memc okS_i_measOf mem0)) (l := ls_i_MeasOf) (p := []) (ls := []) (lend := []) (focus := false) (fuel := 0) (give := []) (fn := F.i_MeasOf) (by kernel_rfl) (by kernel_rfl) (by kernel_rfl) (by kernel_rfl) (cs := []) (by kernel_rfl) loops0) (S_fnR_of fun d K h => (e_i_MeasOf d.1 K).trans (v_i_MeasOf d.1 h K))
end Go.Ev.Seat
end
section
/- i_RopeMeas: its contract. -/
namespace Go.Ev.Seat
open Go.RowKit
set_option maxRecDepth 100000
set_option linter.unusedVariables false
set_option linter.unusedSimpArgs false
noncomputable abbrev ls_i_RopeMeas : List (Nat × Bool × Sm) := [(N.i_RopeText, true, S_i_RopeText), (N.i_MeasOf, true, S_i_MeasOf)]
noncomputable abbrev E_i_RopeMeas : Env := En ls_i_RopeMeas [] [] [] false 0 []
noncomputable def T_i_RopeMeas (r : T_Rope) (K : Ret → Option Ret) : Option Ret := (bif (fitC (Cc.sl chunkR) r) then (bif (fitB (chunksTextD r)) then K ((.a [(.s (.int .i64 (measD (chunksTextD r)).1)), (.s (.int .i64 (measD (chunksTextD r)).2.1)), (.s (.int .i64 (measD (chunksTextD r)).2.2))]), []) else none) else none)
theorem e_i_RopeMeas (r : T_Rope) (K : Ret → Option Ret) : evF E_i_RopeMeas true F.i_RopeMeas [.a (ropeR.cells .no r)] K = T_i_RopeMeas r K := by kernel_rfl
def S_i_RopeMeas : Sm := S_fnR [.a ropeR] (fun d => fitC (.sl chunkR) d.1) (fun d => (.a [sc (measD (chunksTextD d.1)).1, sc (measD (chunksTextD d.1)).2.1, sc (measD (chunksTextD d.1)).2.2], []))
theorem v_i_RopeMeas (r : T_Rope) (h : (fitC (.sl chunkR) r) = true) (K : Ret → Option Ret) : T_i_RopeMeas r K = K (.a [sc (measD (chunksTextD r)).1, sc (measD (chunksTextD r)).2.1, sc (measD (chunksTextD r)).2.2], []) := by
  unfold T_i_RopeMeas
  rw [h, ropeText_fit (fun d hd => fitC_mem (r := chunkR) h hd)]; rfl
theorem okS_i_RopeMeas : OkFn prog I N.i_RopeMeas true S_i_RopeMeas := okN (ok_fn (memc okS_i_RopeText (memc okS_i_MeasOf mem0)) (l := ls_i_RopeMeas) (p := []) (ls := []) (lend := []) (focus := false) (fuel := 0) (give := []) (fn := F.i_RopeMeas) (by kernel_rfl) (by kernel_rfl) (by kernel_rfl) (by kernel_rfl) (cs := []) (by kernel_rfl) loops0) (S_fnR_of fun d K h => (e_i_RopeMeas d.1 K).trans (v_i_RopeMeas d.1 h K))
end Go.Ev.Seat
end
section
/- i_placeOf: its contract. -/
namespace Go.Ev.Seat
open Go.RowKit
set_option maxRecDepth 100000
set_option linter.unusedVariables false
set_option linter.unusedSimpArgs false
def z_i_placeOf_2_0 (x6 : Int) : St := { tm := ([.x, .x, .x, .x, .x, .x, (.s (.int .i64 x6))] ++ List.replicate 29 .x), ob := [], nx := 0, io := [] }
def z_i_placeOf_2_1 : St := { tm := ([] ++ List.replicate 36 .x), ob := [], nx := 0, io := [] }
def sh_i_placeOf_2_0 : Ss := { tm := (.cons (.l .no bytesR) (.cons (.int .i64) (.cons (.int .i64) (.cons (.x) (.cons (.x) (.cons (.x) (.cons (.x) (.cons (.x) (.cons (.x) (.cons (.x) (.cons (.x) (.cons (.x) (.cons (.int .i64) (.cons (.int .i64) (xsh 22))))))))))))))), ob := .nil, nx := 0, io := .nil }
def d_i_placeOf_2_0 (x0 : List Int) (x1 : Int) (x2 : Int) (x12 : Int) (x13 : Int) : sh_i_placeOf_2_0.T := ((x0, (x1, (x2, ((), ((), ((), ((), ((), ((), ((), ((), ((), (x12, (x13, xd 22)))))))))))))), (), ())
def s_i_placeOf_2_0 (x0 : List Int) (x1 : Int) (x2 : Int) (x12 : Int) (x13 : Int) : St := { tm := ([(.l .no bytesR x0), (.s (.int .i64 x1)), (.s (.int .i64 x2)), .x, .x, .x, .x, .x, .x, .x, .x, .x, (.s (.int .i64 x12)), (.s (.int .i64 x13))] ++ List.replicate 22 .x), ob := [], nx := 0, io := [] }
theorem se_i_placeOf_2_0 (x0 : List Int) (x1 : Int) (x2 : Int) (x12 : Int) (x13 : Int) : sh_i_placeOf_2_0.mk' (d_i_placeOf_2_0 x0 x1 x2 x12 x13) = (s_i_placeOf_2_0 x0 x1 x2 x12 x13) := by kernel_rfl
def w_i_placeOf_2_0 (d : sh_i_placeOf_2_0.T) (f : (List Int) → Int → Int → Int → Int → Option Ret) : Option Ret := match d with | ((x0, (x1, (x2, (_, (_, (_, (_, (_, (_, (_, (_, (_, (x12, (x13, _)))))))))))))), _, _) => f x0 x1 x2 x12 x13
noncomputable def P_i_placeOf_2_0 (x0 : List Int) (x1 : Int) (x2 : Int) (x12 : Int) (x13 : Int) (nx0 : (List Int) → Int → Int → Int → Int → Option Ret) (k0 : Int → Option Ret) (k1 : Option Ret) : Option Ret := (bif (decide (x13 < x12)) then (bif (fitB x0) then (bif (!(isCutD x0 x13)) then (nx0 x0 x1 x2 x12 (IntKind.wrap .i64 (x13 + (1 : Int)))) else (bif ((fitB x0) && ((valid x0) && (isCutD x0 x13))) then (bif ((((linesTo x0 (Int.toNat x13)) : Nat) : Int) == x1) then (bif ((((cntR (List.drop (lineAt x0 (Int.toNat x13)) (List.take (Int.toNat x13) x0))) : Nat) : Int) == x2) then (k0 x13) else (nx0 x0 x1 x2 x12 (IntKind.wrap .i64 (x13 + (1 : Int))))) else (nx0 x0 x1 x2 x12 (IntKind.wrap .i64 (x13 + (1 : Int))))) else none)) else none) else k1)
noncomputable def Q_i_placeOf_2_0 : Nat → (List Int) → Int → Int → Int → Int → (Int → Option Ret) → (Option Ret) → Option Ret
  | 0, _, _, _, _, _, _, _ => none
  | m + 1, x0, x1, x2, x12, x13, k0, k1 => P_i_placeOf_2_0 x0 x1 x2 x12 x13 (fun x0 x1 x2 x12 x13 => (Q_i_placeOf_2_0 m x0 x1 x2 x12 x13 k0 k1)) k0 k1
noncomputable def R_i_placeOf_2_0 (x0 : List Int) (x1 : Int) (x2 : Int) (x12 : Int) (x13 : Int) (k0 : Int → Option Ret) (k1 : Option Ret) : Option Ret := Q_i_placeOf_2_0 (List.length x0 + x1.toNat + x2.toNat + x12.toNat + x13.toNat + 2) x0 x1 x2 x12 x13 k0 k1
noncomputable def W_i_placeOf_2 : LoopFn := (fun (σ : St) (K : Ex → St → Option Ret) => (match sh_i_placeOf_2_0.un σ with | some d => w_i_placeOf_2_0 d (fun x0 x1 x2 x12 x13 => R_i_placeOf_2_0 x0 x1 x2 x12 x13 (fun x6 => (K .ret (z_i_placeOf_2_0 x6))) (K (.ext 0) z_i_placeOf_2_1)) | none => none))
noncomputable abbrev ls_i_placeOf : List (Nat × Bool × Sm) := [(N.i_isCut, true, S_i_isCut), (N.i_lineOf, true, S_i_lineOf)]
noncomputable abbrev E_i_placeOf : Env := En ls_i_placeOf [] [(2, [0,1,2,12,13], [6], W_i_placeOf_2)] [] false 0 []
noncomputable abbrev U_i_placeOf_2 := rounds (run E_i_placeOf (bodyOf F.i_placeOf 2)) [0,1,2,12,13] [6]
theorem st_i_placeOf_2_0 (m : Nat) (x0 : List Int) (x1 : Int) (x2 : Int) (x12 : Int) (x13 : Int) (K : Ex → St → Option Ret) : U_i_placeOf_2 (m + 1) (s_i_placeOf_2_0 x0 x1 x2 x12 x13) K = P_i_placeOf_2_0 x0 x1 x2 x12 x13 (fun x0 x1 x2 x12 x13 => (U_i_placeOf_2 m (s_i_placeOf_2_0 x0 x1 x2 x12 x13) K)) (fun x6 => (K .ret (z_i_placeOf_2_0 x6))) (K (.ext 0) z_i_placeOf_2_1) := by kernel_rfl
theorem q_i_placeOf_2 (K : Ex → St → Option Ret) : ∀ m : Nat, (∀ (x0 : List Int) (x1 : Int) (x2 : Int) (x12 : Int) (x13 : Int), U_i_placeOf_2 m (s_i_placeOf_2_0 x0 x1 x2 x12 x13) K = Q_i_placeOf_2_0 m x0 x1 x2 x12 x13 (fun x6 => (K .ret (z_i_placeOf_2_0 x6))) (K (.ext 0) z_i_placeOf_2_1))
  | 0 => (fun _ _ _ _ _ => rfl)
  | m + 1 => (fun x0 x1 x2 x12 x13 => (by rw [st_i_placeOf_2_0, show (fun x0 x1 x2 x12 x13 => (U_i_placeOf_2 m (s_i_placeOf_2_0 x0 x1 x2 x12 x13) K)) = (fun x0 x1 x2 x12 x13 => (Q_i_placeOf_2_0 m x0 x1 x2 x12 x13 (fun x6 => (K .ret (z_i_placeOf_2_0 x6))) (K (.ext 0) z_i_placeOf_2_1))) from funext fun x0 => funext fun x1 => funext fun x2 => funext fun x12 => funext fun x13 => (q_i_placeOf_2 K m) x0 x1 x2 x12 x13]; rfl))
theorem loopK_i_placeOf_2 : LoopOk E_i_placeOf (bodyOf F.i_placeOf 2) := by
  refine loopW_ok (n := 2) (F := W_i_placeOf_2) (by kernel_rfl) rfl (li := [0,1,2,12,13]) (lo := [6]) rfl (fun σ K r hr => ?_)
  unfold W_i_placeOf_2 at hr
  split at hr
  · rename_i d hd
    rw [Ss.un_mk hd]
    exact ⟨_, ((congrArg (fun z => U_i_placeOf_2 _ z K) (se_i_placeOf_2_0 _ _ _ _ _)).trans ((q_i_placeOf_2 K _) _ _ _ _ _)).trans hr⟩
  · cases hr
noncomputable def T_i_placeOf (t : List Int) (x : Int) (y : Int) (K : Ret → Option Ret) : Option Ret := (R_i_placeOf_2_0 t x y (IntKind.wrap .i64 ((((List.length t) : Nat) : Int) + (1 : Int))) (0 : Int) (fun y0 => K ((.s (.int .i64 y0)), [])) (K ((.s (.int .i64 (-(1 : Int)))), [])))
theorem e_i_placeOf (t : List Int) (x : Int) (y : Int) (K : Ret → Option Ret) : evF E_i_placeOf true F.i_placeOf [.l .no bytesR t, .s (.int .i64 x), .s (.int .i64 y)] K = T_i_placeOf t x y K := by kernel_rfl
def S_i_placeOf : Sm := S_fnR [.l bytesR, .i, .i] (fun d => fitB d.1 && valid d.1) (fun d => (sc (ropePlaceD d.1 d.2.1 d.2.2.1), []))
theorem v_i_placeOf (t : List Int) (x : Int) (y : Int) (h : (fitB t && valid t) = true) (K : Ret → Option Ret) : T_i_placeOf t x y K = K (sc (ropePlaceD t x y), []) := by
  simp only [Bool.and_eq_true] at h
  obtain ⟨hf, hv⟩ := h
  have hl := fitB_len hf
  unfold T_i_placeOf ropePlaceD
  rw [wrap_in (n := ((t.length : Nat) : Int) + 1) (by omega) (by omega)]
  have q : ∀ (m n i : Nat), i + n = t.length + 1 → n < m → Q_i_placeOf_2_0 m t x y (((t.length : Nat) : Int) + 1) ((i : Nat) : Int) (fun y0 => K ((.s (.int .i64 y0)), [])) (K ((.s (.int .i64 (-(1 : Int)))), [])) = K (sc (placeF (placeP t x y) n i), []) := by
    intro m
    induction m with
    | zero => intro n i _ hm; omega
    | succ m ih =>
      intro n i hi hm
      show P_i_placeOf_2_0 t x y _ ((i : Nat) : Int) _ _ _ = _
      unfold P_i_placeOf_2_0
      cases n with
      | zero => rw [decide_eq_false (show ¬ ((i : Nat) : Int) < ((t.length : Nat) : Int) + 1 by omega)]; rfl
      | succ n =>
        unfold placeF placeP lineD
        rw [decide_eq_true (show ((i : Nat) : Int) < ((t.length : Nat) : Int) + 1 by omega), hf, hv, wrap_nat (by omega), Int.toNat_natCast]
        have step := ih n (i + 1) (by omega) (by omega)
        cases hc : isCutD t ((i : Nat) : Int) with
        | false => exact step
        | true =>
          cases (((linesTo t i : Nat) : Int) == x)
          · exact step
          · cases (((cntR ((t.take i).drop (lineAt t i)) : Nat) : Int) == y)
            · exact step
            · rfl
  exact q _ _ 0 (by omega) (by omega)
theorem okS_i_placeOf : OkFn prog I N.i_placeOf true S_i_placeOf := okN (ok_fn (memc okS_i_isCut (memc okS_i_lineOf mem0)) (l := ls_i_placeOf) (p := []) (ls := [(2, [0,1,2,12,13], [6], W_i_placeOf_2)]) (lend := []) (focus := false) (fuel := 0) (give := []) (fn := F.i_placeOf) (by kernel_rfl) (by kernel_rfl) (by kernel_rfl) (by kernel_rfl) (cs := [bodyOf F.i_placeOf 2]) (by kernel_rfl) (loopsc loopK_i_placeOf_2 loops0)) (S_fnR_of fun d K h => (e_i_placeOf d.1 d.2.1 d.2.2.1 K).trans (v_i_placeOf d.1 d.2.1 d.2.2.1 h K))
end Go.Ev.Seat
end
section
/- i_RopePlace: its contract. -/
namespace Go.Ev.Seat
open Go.RowKit
set_option maxRecDepth 100000
set_option linter.unusedVariables false
set_option linter.unusedSimpArgs false
noncomputable abbrev ls_i_RopePlace : List (Nat × Bool × Sm) := [(N.i_isRope, true, S_i_isRope), (N.i_Rope_text, true, S_i_Rope_text), (N.i_placeOf, true, S_i_placeOf)]
noncomputable abbrev E_i_RopePlace : Env := En ls_i_RopePlace [] [] [] false 0 []
noncomputable def T_i_RopePlace (r : T_Rope) (x : Int) (y : Int) (K : Ret → Option Ret) : Option Ret := (bif (fitC (Cc.sl chunkR) r) then (bif (!(chunksOkD r)) then K ((.s (.int .i64 (-(1 : Int)))), []) else (bif ((fitC (Cc.sl chunkR) r) && (chunksOkD r)) then (bif ((fitB (chunksTextD r)) && (valid (chunksTextD r))) then K ((.s (.int .i64 (ropePlaceD (chunksTextD r) x y))), []) else none) else none)) else none)
theorem e_i_RopePlace (r : T_Rope) (x : Int) (y : Int) (K : Ret → Option Ret) : evF E_i_RopePlace true F.i_RopePlace [.a (ropeR.cells .no r), .s (.int .i64 x), .s (.int .i64 y)] K = T_i_RopePlace r x y K := by kernel_rfl
def S_i_RopePlace : Sm := S_fnR [.a ropeR, .i, .i] (fun d => fitC (.sl chunkR) d.1) (fun d => (sc (bif chunksOkD d.1 then ropePlaceD (chunksTextD d.1) d.2.1 d.2.2.1 else -1), []))
theorem v_i_RopePlace (r : T_Rope) (x : Int) (y : Int) (h : (fitC (.sl chunkR) r) = true) (K : Ret → Option Ret) : T_i_RopePlace r x y K = K (sc (bif chunksOkD r then ropePlaceD (chunksTextD r) x y else -1), []) := by
  have hf := ropeText_fit (fun d hd => fitC_mem (r := chunkR) h hd)
  unfold T_i_RopePlace
  rw [h]
  cases hk : chunksOkD r with
  | false => rfl
  | true =>
    have hv := (textOk_iff.1 (ropeText_ok hk).1).2
    simp only [hf, hv]
    rfl
theorem okS_i_RopePlace : OkFn prog I N.i_RopePlace true S_i_RopePlace := okN (ok_fn (memc okS_i_isRope (memc okS_i_Rope_text (memc okS_i_placeOf mem0))) (l := ls_i_RopePlace) (p := []) (ls := []) (lend := []) (focus := false) (fuel := 0) (give := []) (fn := F.i_RopePlace) (by kernel_rfl) (by kernel_rfl) (by kernel_rfl) (by kernel_rfl) (cs := []) (by kernel_rfl) loops0) (S_fnR_of fun d K h => (e_i_RopePlace d.1 d.2.1 d.2.2.1 K).trans (v_i_RopePlace d.1 d.2.1 d.2.2.1 h K))
end Go.Ev.Seat
end
section
/- l_FnLines: its contract. -/
namespace Go.Ev.Seat
open Go.RowKit
set_option maxRecDepth 100000
set_option linter.unusedVariables false
set_option linter.unusedSimpArgs false
noncomputable abbrev ls_l_FnLines : List (Nat × Bool × Sm) := [(N.l_big, true, S_l_big), (N.s_DrawRopeLine, false, (SB_s_DrawRopeLine B_s_DrawRopeLine)), (N.i_RopeLine, true, S_i_RopeLine), (N.s_RopeLine, true, S_s_RopeLine), (N.i_RopeMeas, true, S_i_RopeMeas), (N.i_RopePlace, true, S_i_RopePlace)]
noncomputable abbrev E_l_FnLines : Env := En ls_l_FnLines [] [] [] false 0 []
noncomputable def T_l_FnLines (code : List Int) (K : Ret → Option Ret) : Option Ret := (bif (decide ((((List.length code) : Nat) : Int) > (1048576 : Int))) then K ((.s (.bool true)), []) else (B_s_DrawRopeLine code (fun y0 y1 => (bif (fitC (Cc.sl chunkR) y0) then (bif (fitC (Cc.sl chunkR) y0) then (bif ((ropeLineD y0 y1).1 != (ropeLineD y0 y1).1) then (bif ((ropeLineD y0 y1).1 == (ropeLineD y0 y1).1) then K ((.s (.bool ((ropeLineD y0 y1).2 == (ropeLineD y0 y1).2))), []) else K ((.s (.bool false)), [])) else (bif ((ropeLineD y0 y1).2 != (ropeLineD y0 y1).2) then (bif ((ropeLineD y0 y1).1 == (ropeLineD y0 y1).1) then K ((.s (.bool ((ropeLineD y0 y1).2 == (ropeLineD y0 y1).2))), []) else K ((.s (.bool false)), [])) else (bif (decide ((ropeLineD y0 y1).1 < (0 : Int))) then (bif ((ropeLineD y0 y1).1 == (ropeLineD y0 y1).1) then K ((.s (.bool ((ropeLineD y0 y1).2 == (ropeLineD y0 y1).2))), []) else K ((.s (.bool false)), [])) else (bif (fitC (Cc.sl chunkR) y0) then (bif (fitC (Cc.sl chunkR) y0) then (bif (fitC (Cc.sl chunkR) y0) then (bif (fitC (Cc.sl chunkR) y0) then (bif ((bif (chunksOkD y0) then (ropePlaceD (chunksTextD y0) (ropeLineD y0 y1).1 (ropeLineD y0 y1).2) else (-(1 : Int))) == y1) then (bif ((ropeLineD y0 (measD (chunksTextD y0)).1).1 == (measD (chunksTextD y0)).2.2) then (bif (decide ((ropeLineD y0 y1).1 ≤ (ropeLineD y0 (measD (chunksTextD y0)).1).1)) then (bif (decide ((bif (chunksOkD y0) then (ropePlaceD (chunksTextD y0) (ropeLineD y0 y1).1 (0 : Int)) else (-(1 : Int))) ≥ (0 : Int))) then (bif (decide ((bif (chunksOkD y0) then (ropePlaceD (chunksTextD y0) (ropeLineD y0 y1).1 (0 : Int)) else (-(1 : Int))) ≤ y1)) then (bif ((ropeLineD y0 y1).1 == (ropeLineD y0 (measD (chunksTextD y0)).1).1) then K ((.s (.bool true)), []) else (bif (fitC (Cc.sl chunkR) y0) then K ((.s (.bool (decide ((bif (chunksOkD y0) then (ropePlaceD (chunksTextD y0) (IntKind.wrap .i64 ((ropeLineD y0 y1).1 + (1 : Int))) (0 : Int)) else (-(1 : Int))) > y1)))), []) else none)) else K ((.s (.bool false)), [])) else K ((.s (.bool false)), [])) else K ((.s (.bool false)), [])) else K ((.s (.bool false)), [])) else K ((.s (.bool false)), [])) else none) else none) else none) else none)))) else none) else none))))
theorem e_l_FnLines (code : List Int) (K : Ret → Option Ret) : evF E_l_FnLines true F.l_FnLines [.l .no bytesR code] K = T_l_FnLines code K := by kernel_rfl
def S_l_FnLines : Sm := S_fnR [.l bytesR] (fun d => d.1.all isB) (fun d => (bl true, []))
theorem v_l_FnLines (code : List Int) (h : (code.all isB) = true) (K : Ret → Option Ret) : T_l_FnLines code K = K (bl true, []) := by
  unfold T_l_FnLines
  by_cases hc : ((code.length : Nat) : Int) > 1048576
  · rw [decide_eq_true hc]; rfl
  have hf : fitB code = true := by unfold fitB; rw [Bool.and_eq_true]; exact ⟨Nat.ble_eq_true_of_le (by omega), h⟩
  rw [decide_eq_false hc]
  obtain ⟨r, u, ⟨hr, hu0, hu1⟩, hk⟩ := b_s_DrawRopeLine code hf
  rw [cond_false, hk]
  simp only [hr, cond_true, bne_self_eq_false, cond_false, beq_self_eq_true]
  cases hok : chunksOkD r && isCutD (chunksTextD r) u with
  | false =>
    have e : ropeLineD r u = (-1, -1) := by unfold ropeLineD; rw [hok]; rfl
    rw [e]; rfl
  | true =>
    have e : ropeLineD r u = lineD (chunksTextD r) u.toNat := by unfold ropeLineD; rw [hok]; rfl
    rw [Bool.and_eq_true] at hok
    obtain ⟨hk1, hcu⟩ := hok
    have htx := (ropeText_ok hk1).1
    have hft := ropeText_fit (fun d hd => fitC_mem (r := chunkR) hr hd)
    have hlen := (textOk_iff.1 htx).1
    have e2 : ropeLineD r (measD (chunksTextD r)).1 = lineD (chunksTextD r) (chunksTextD r).length := by
      have e3 : (measD (chunksTextD r)).1 = (((chunksTextD r).length : Nat) : Int) := by unfold measD; rw [htx]; rfl
      unfold ropeLineD
      rw [e3, hk1, cut_len, Int.toNat_natCast]; rfl
    have e4 : (measD (chunksTextD r)).2.2 = (lineD (chunksTextD r) (chunksTextD r).length).1 := by
      show _ = ((linesTo (chunksTextD r) (chunksTextD r).length : Nat) : Int)
      unfold measD linesTo
      rw [htx, List.take_length]; rfl
    have hrg := isCutD_range hcu
    rw [e, e2, e4, hk1]
    generalize chunksTextD r = t at *
    have hv := (textOk_iff.1 htx).2
    obtain ⟨j, rfl⟩ : ∃ j : Nat, u = j := ⟨u.toNat, by omega⟩
    rw [Int.toNat_natCast]
    obtain ⟨i, p1, p2⟩ := place_up hft hv (j := j) (by omega)
    have hm := (linesTo_mono hft (k1 := j) (k2 := t.length) (by omega) (Nat.le_refl _)).1
    have hl1 : (lineD t j).1 = ((linesTo t j : Nat) : Int) := rfl
    have hl2 : (lineD t t.length).1 = ((linesTo t t.length : Nat) : Int) := rfl
    have hle := cntB_le (t.take j) [10]
    rw [List.length_take] at hle
    have hle' : linesTo t j ≤ 400 := by unfold linesTo; omega
    simp only [cond_true]
    rw [place_self hft hv (by omega) hcu, p1, beq_self_eq_true, beq_self_eq_true, decide_eq_false (show ¬ (lineD t j).1 < 0 by rw [hl1]; omega), decide_eq_true (show (lineD t j).1 ≤ (lineD t t.length).1 by rw [hl1, hl2]; omega), decide_eq_true (show ((i : Nat) : Int) ≥ 0 by omega), decide_eq_true (show ((i : Nat) : Int) ≤ ((j : Nat) : Int) by omega), wrap_in (n := (lineD t j).1 + 1) (by rw [hl1]; omega) (by rw [hl1]; omega)]
    by_cases hq : (lineD t j).1 = (lineD t t.length).1
    · rw [beq_iff_eq.2 hq]; rfl
    · rw [beq_eq_false_iff_ne.2 hq, decide_eq_true (place_next hft hv (by omega) hq)]; rfl
theorem okS_l_FnLines : OkFn prog I N.l_FnLines true S_l_FnLines := okN (ok_fn (memc okS_l_big (memc okS_s_DrawRopeLine (memc okS_i_RopeLine (memc okS_s_RopeLine (memc okS_i_RopeMeas (memc okS_i_RopePlace mem0)))))) (l := ls_l_FnLines) (p := []) (ls := []) (lend := []) (focus := false) (fuel := 0) (give := []) (fn := F.l_FnLines) (by kernel_rfl) (by kernel_rfl) (by kernel_rfl) (by kernel_rfl) (cs := []) (by kernel_rfl) loops0) (S_fnR_of fun d K h => (e_l_FnLines d.1 K).trans (v_l_FnLines d.1 h K))
end Go.Ev.Seat
end
section
/- The law FnLines: it answers true. Printed by lawrand.py. -/
namespace Go.Ev.Seat
open Go.RowKit
set_option linter.unusedVariables false
theorem ok_Lines (T : MText) : OkFn prog I N.l_FnLines true S_l_FnLines := okS_l_FnLines
theorem law_Lines (T : MText) (code : List Int) (K : Ret → Option Ret) (hwf : (Cc.sl bytesR).wf code) : S_l_FnLines [.l .no bytesR code] K = K (bl true, []) := by
  have hb : code.all isB = true := List.all_eq_true.2 (fun x hx => fitR_of bytesR x (hwf.2 x hx) rfl)
  show (bif code.all isB then K (bl true, []) else none) = _
  rw [hb]; rfl
end Go.Ev.Seat
end
section
/- Kinds of types that come in, checked by reckoning. -/
set_option linter.unusedVariables false
namespace Go.Ev
open Go.RowKit
mutual
def ccN (P : Program) : Nat → Cc → TypeId → Bool
  | 0, _, _ => false
  | n + 1, c, t => match c, P.underlying t with
    | .int k, some (.int k') => decide (k' = k)
    | .bool, some .bool => true
    | .str, some .string => true
    | .sl r, some (.slice e) => Nat.beq (P.cellsOf e) r.n && (match layN P n r.list e with
      | some [] => true
      | _ => false)
    | _, _ => false
/-- The cells of a type, taken off a list: what is left. -/
def layN (P : Program) : Nat → List Cc → TypeId → Option (List Cc)
  | 0, _, _ => none
  | n + 1, cs, t => match cs with
    | [] => none
    | c :: rest => bif ccN P n c t then some rest else match P.underlying t with
      | some (.struct fs) => fsN P n (c :: rest) 0 fs.toList
      | _ => none
def fsN (P : Program) : Nat → List Cc → Nat → List Field → Option (List Cc)
  | 0, _, _, _ => none
  | n + 1, cs, i, fs => match fs with
    | [] => some cs
    | f :: rest => bif Nat.beq f.offset i then (match layN P n cs f.type with
      | some cs' => bif Nat.beq (P.cellsOf f.type + cs'.length) cs.length then fsN P n cs' (i + P.cellsOf f.type) rest else none
      | none => none) else none
end
theorem kinds_ok {P : Program} : ∀ (n : Nat), (∀ c t, ccN P n c t = true → CcOk P c t) ∧ (∀ cs t rest, layN P n cs t = some rest → ∃ pre, cs = pre ++ rest ∧ LayOk P pre t) ∧ ∀ cs i fs rest, fsN P n cs i fs = some rest → ∃ pre, cs = pre ++ rest ∧ LayFs P pre i fs
  | 0 => ⟨fun _ _ h => by simp [ccN] at h, fun _ _ _ h => by simp [layN] at h, fun _ _ _ _ h => by simp [fsN] at h⟩
  | n + 1 => by
    obtain ⟨h1, h2, h3⟩ := kinds_ok (P := P) n
    refine ⟨fun c t h => ?_, fun cs t rest h => ?_, fun cs i fs rest h => ?_⟩
    · simp only [ccN] at h
      split at h
      · rename_i k k' hu
        have := of_decide_eq_true h
        subst this
        exact .int hu
      · rename_i hu; exact .bool hu
      · rename_i hu; exact .str hu
      · rename_i r e hu
        simp only [Bool.and_eq_true] at h
        obtain ⟨g1, g2⟩ := h
        split at g2
        · rename_i hl
          obtain ⟨pre, e1, e2⟩ := h2 _ _ _ hl
          rw [List.append_nil] at e1
          exact .sl hu (Nat.eq_of_beq_eq_true g1) (e1 ▸ e2)
        · cases g2
      · cases h
    · simp only [layN] at h
      split at h
      · cases h
      · rename_i c rest'
        cases hc : ccN P n c t with
        | true =>
          rw [hc] at h
          cases h
          exact ⟨[c], rfl, .one (h1 _ _ hc)⟩
        | false =>
          rw [hc] at h
          simp only [cond_false] at h
          split at h
          · rename_i fs hu
            obtain ⟨pre, e1, e2⟩ := h3 _ _ _ _ h
            exact ⟨pre, e1, .st hu e2⟩
          · cases h
    · simp only [fsN] at h
      split at h
      · cases h
        exact ⟨[], rfl, .nil⟩
      · rename_i f rest'
        cases ho : Nat.beq f.offset i with
        | false => rw [ho] at h; cases h
        | true =>
          rw [ho] at h
          simp only [cond_true] at h
          split at h
          · rename_i cs' hl
            obtain ⟨pre, e1, e2⟩ := h2 _ _ _ hl
            cases hb : Nat.beq (P.cellsOf f.type + cs'.length) cs.length with
            | false => rw [hb] at h; cases h
            | true =>
              rw [hb] at h
              simp only [cond_true] at h
              have hlen := Nat.eq_of_beq_eq_true hb
              have hp : P.cellsOf f.type = pre.length := by rw [e1, List.length_append] at hlen; omega
              obtain ⟨pre2, e3, e4⟩ := h3 _ _ _ _ h
              rw [hp] at e4
              refine ⟨pre ++ pre2, by rw [e1, e3, List.append_assoc], .cons (Nat.eq_of_beq_eq_true ho) hp e2 e4⟩
          · cases h
def ccB (P : Program) (c : Cc) (t : TypeId) : Bool := ccN P 100 c t
theorem ccB_ok {P : Program} (c : Cc) {t : TypeId} (h : ccB P c t = true) : CcOk P c t := (kinds_ok 100).1 c t h
end Go.Ev
end
section
/- An argument of one cell. -/
set_option linter.unusedVariables false
namespace Go.Ev
theorem cells_one {P : Program} {W : World} {r : Reach} {base : Nat} {c : Cc} {t : TypeId} {v : Value} (h : CcOk P c t) (ok : Value.okWide P W r base t v) : v.cells.toList = [v] := by
  cases v with
  | agg cs =>
    exfalso
    unfold Value.okWide at ok
    cases h with
    | int h => rw [h] at ok; simp [Cell.okWide, Cell.ok, h] at ok
    | bool h => rw [h] at ok; simp [Cell.okWide, Cell.ok, h] at ok
    | str h => rw [h] at ok; simp [Cell.okWide, Cell.ok, h] at ok
    | sl h _ _ => rw [h] at ok; simp [Cell.okWide, Cell.ok, h] at ok
  | _ => rfl
end Go.Ev
end
section
/- What a row's list gives of the tables of unicode/utf8. -/
set_option linter.unusedVariables false
namespace Go.Ev
open Go
variable {H : Type} {enc : TypeId × Value → H} {P : Program} {w : World} {base : Nat} {sp : Nat → Bool} {held : Bool}

/-- An array's cells, element by element. -/
theorem trod_arr {fuel : Nat} {t e : TypeId} {n m : Nat} {cs : List Value} {ds : List (DataW H)} {p : List MemPlace}
    (ht : P.underlying t = some (.array n e)) (hce : P.cellsOf e = m) (hct : P.cellsOf t = n * m)
    (h : DataW.trod enc P w base sp held fuel t cs = some (.agg ds, p)) :
    cs.length = n * m ∧ ds.length = n ∧ ∀ (i : Nat) (d : DataW H), ds[i]? = some d → ∃ f q, DataW.trod enc P w base sp held f e ((cs.drop (i * m)).take m) = some (d, q) := by
  cases fuel with
  | zero => simp [DataW.trod] at h
  | succ fuel =>
    simp only [DataW.trod, ht, hce, hct] at h
    split at h
    · rename_i hl
      obtain ⟨xs, hm, hx⟩ := Option.map_eq_some_iff.1 h
      have hxs : xs.map (·.1) = ds := by
        have := congrArg Prod.fst hx
        simpa using this
      have hxl : xs.length = n := by simpa using Lib.mapM_length hm
      refine ⟨by simpa using hl, by rw [← hxs]; simp [hxl], fun i d hd => ?_⟩
      rw [← hxs] at hd
      rw [List.getElem?_map, Option.map_eq_some_iff] at hd
      obtain ⟨b, hb, rfl⟩ := hd
      have hi : i < n := by
        have := (List.getElem?_eq_some_iff.1 hb).1
        omega
      obtain ⟨b', hb', hf⟩ := Lib.mapM_at hm i i (by simp [hi])
      obtain rfl := Option.some.inj (hb.symm.trans hb')
      exact ⟨fuel, b.2, hf⟩
    · cases h
theorem trod_u8 {fuel : Nat} {t : TypeId} {k : IntKind} {cs : List Value} {z : Int} {p : List MemPlace} (ht : P.underlying t = some (.int k))
    (h : DataW.trod enc P w base sp held fuel t cs = some (.lit (.int k z), p)) : cs = [.int k z] := by
  cases fuel with
  | zero => simp [DataW.trod] at h
  | succ fuel =>
    obtain ⟨z', hc, h2, _⟩ := DataW.trod_int ht h
    cases h2
    exact hc
/-- A struct of two small cells. -/
theorem trod_two {fuel : Nat} {t : TypeId} {fs : Array Field} {f g : Field} {k : IntKind} {cs : List Value} {x y : Int} {p : List MemPlace}
    (ht : P.underlying t = some (.struct fs)) (hfs : fs.toList = [f, g]) (hc : P.cellsOf t = 2) (hf0 : f.offset = 0) (hg0 : g.offset = 1) (hf : P.underlying f.type = some (.int k)) (hg : P.underlying g.type = some (.int k))
    (hcf : P.cellsOf f.type = 1) (hcg : P.cellsOf g.type = 1)
    (h : DataW.trod enc P w base sp held fuel t cs = some (.agg [.lit (.int k x), .lit (.int k y)], p)) : cs = [.int k x, .int k y] := by
  cases fuel with
  | zero => simp [DataW.trod] at h
  | succ fuel =>
    simp only [DataW.trod, ht, hfs, hc, hf0, hg0, hcf, hcg] at h
    split at h
    · rename_i hl
      obtain ⟨xs, hm, hx⟩ := Option.map_eq_some_iff.1 h
      have hxs : xs.map (·.1) = [.lit (.int k x), .lit (.int k y)] := by
        have := congrArg Prod.fst hx
        simpa using this
      obtain ⟨b0, hb0, h0⟩ := Lib.mapM_at hm 0 f rfl
      obtain ⟨b1, hb1, h1⟩ := Lib.mapM_at hm 1 g rfl
      have e0 : b0.1 = .lit (.int k x) := by
        have := congrArg (·[0]?) hxs
        simpa [hb0] using this
      have e1 : b1.1 = .lit (.int k y) := by
        have := congrArg (·[1]?) hxs
        simpa [hb1] using this
      obtain ⟨d0, q0⟩ := b0
      obtain ⟨d1, q1⟩ := b1
      simp only at e0 e1
      subst e0 e1
      rw [hf0, hcf] at h0
      rw [hg0, hcg] at h1
      have a0 := trod_u8 hf h0
      have a1 := trod_u8 hg h1
      match cs, hl, a0, a1 with
      | [u, v], _, a0, a1 =>
        simp at a0 a1
        rw [a0, a1]
      | [], hl, _, _ => simp at hl
      | [_], hl, _, _ => simp at hl
      | _ :: _ :: _ :: _, hl, _, _ => simp at hl
    · cases h
theorem laid_at {laid : List (String × DataW Unit)} {W : World} {ps : List MemPlace} (h : DataW.LaidVars P W laid ps) {i : Nat} {name : String} {d : DataW Unit} (hi : laid[i]? = some (name, d)) {g : Nat} {t : TypeId}
    (hg : P.globalNamed name = some g) (hty : (P.globals[g]?).map (·.type) = some t) : ∃ cs fuel p, W.var? P name = some cs ∧ DataW.trod (fun _ => ()) P W 0 (fun _ => true) false fuel t cs.toList = some (d, p) := by
  induction laid generalizing ps i with
  | nil => simp at hi
  | cons x rest ih =>
    obtain ⟨n, d'⟩ := x
    obtain ⟨g', t', cs, fuel, p, q, hg', ht', hvar, hd, hr, _⟩ := h
    cases i with
    | zero =>
      simp only [List.getElem?_cons_zero, Option.some.injEq, Prod.mk.injEq] at hi
      obtain ⟨rfl, rfl⟩ := hi
      obtain rfl := Option.some.inj (hg.symm.trans hg')
      obtain rfl := Option.some.inj (hty.symm.trans ht')
      exact ⟨cs, fuel, p, hvar, hd⟩
    | succ i => exact ih hr (by simpa using hi)
theorem var_lt {W : World} {name : String} {g : Nat} {cs : Array Value} (hg : P.globalNamed name = some g) (h : W.var? P name = some cs) : g < W.heap.size := by
  unfold World.var? at h
  rw [hg] at h
  simp only [Option.bind_some] at h
  split at h
  · rename_i hh
    exact (Array.getElem?_eq_some_iff.1 hh).1
  · cases h
/-- THE TWO TABLES, off the list of a row. -/
theorem globI_utf {W : World} {d0 d1 : DataW Unit} (hm : laidMet P [("unicode/utf8.acceptRanges", d1), ("unicode/utf8.first", d0)] W)
    (hd0 : d0 = .agg (utfFirst.map fun z => .lit (.int .u8 z))) (hd1 : d1 = .agg (utfAccept.map fun z => .agg [.lit (.int .u8 z.1), .lit (.int .u8 z.2)]))
    {t0 t1 e0 e1 : TypeId} (hg0 : P.globalNamed "unicode/utf8.first" = some 0) (hg1 : P.globalNamed "unicode/utf8.acceptRanges" = some 1)
    (hy0 : (P.globals[0]?).map (·.type) = some t0) (hy1 : (P.globals[1]?).map (·.type) = some t1)
    (ht0 : P.underlying t0 = some (.array 256 e0)) (ht1 : P.underlying t1 = some (.array 16 e1)) (he0 : P.underlying e0 = some (.int .u8))
    {fs : Array Field} {f g : Field} (he1 : P.underlying e1 = some (.struct fs)) (hfs : fs.toList = [f, g]) (hf0 : f.offset = 0) (hgo : g.offset = 1) (hf : P.underlying f.type = some (.int .u8)) (hg : P.underlying g.type = some (.int .u8))
    (hcf : P.cellsOf f.type = 1) (hcg : P.cellsOf g.type = 1) (hc0 : P.cellsOf t0 = 256) (hc1 : P.cellsOf t1 = 32) (hce0 : P.cellsOf e0 = 1) (hce1 : P.cellsOf e1 = 2) : GlobI utfGlob W.heap.size W := by
  obtain ⟨ps, hL, _⟩ := hm
  obtain ⟨cs1, fu1, p1, hv1, hr1⟩ := laid_at hL (i := 0) rfl hg1 hy1
  obtain ⟨cs0, fu0, p0, hv0, hr0⟩ := laid_at hL (i := 1) rfl hg0 hy0
  subst hd0 hd1
  obtain ⟨l0, n0, r0⟩ := trod_arr (n := 256) (m := 1) ht0 hce0 hc0 hr0
  obtain ⟨l1, n1, r1⟩ := trod_arr (n := 16) (m := 2) ht1 hce1 hc1 hr1
  intro gg r xs hgg
  unfold utfGlob at hgg
  by_cases h0 : gg = 0
  · subst h0
    simp only [Nat.beq, cond_true, Option.some.injEq, Sigma.mk.injEq] at hgg
    obtain ⟨rfl, hxs⟩ := hgg
    cases hxs
    refine ⟨var_lt hg0 hv0, fun i d hd => ?_⟩
    obtain ⟨f', q, hq⟩ := r0 i _ (by rw [List.getElem?_map, hd]; rfl)
    have hcs := trod_u8 he0 hq
    refine ⟨[.int .u8 d], rfl, fun j v hj => ?_, fun C w => ⟨.int .u8 d, [], rfl, ⟨rfl, rfl⟩, rfl⟩⟩
    match j, hj with
    | 0, hj =>
      cases hj
      rw [World.var?_cell hg0 hv0]
      have := congrArg (·[0]?) hcs
      simpa [Rw.n, List.getElem?_take, List.getElem?_drop] using this
    | j + 1, hj => simp at hj
  · by_cases h1 : gg = 1
    · subst h1
      simp only [Nat.beq, cond_true, cond_false, Option.some.injEq, Sigma.mk.injEq] at hgg
      obtain ⟨rfl, hxs⟩ := hgg
      cases hxs
      refine ⟨var_lt hg1 hv1, fun i d hd => ?_⟩
      obtain ⟨f', q, hq⟩ := r1 i _ (by rw [List.getElem?_map, hd]; rfl)
      have hcs := trod_two he1 hfs hce1 hf0 hgo hf hg hcf hcg hq
      refine ⟨[.int .u8 d.1, .int .u8 d.2], rfl, fun j v hj => ?_, fun C w => ⟨.int .u8 d.1, [.int .u8 d.2], rfl, ⟨rfl, rfl⟩, ⟨.int .u8 d.2, [], rfl, ⟨rfl, rfl⟩, rfl⟩⟩⟩
      match j, hj with
      | 0, hj =>
        cases hj
        rw [World.var?_cell hg1 hv1]
        have := congrArg (·[0]?) hcs
        simpa [Rw.n, List.getElem?_take, List.getElem?_drop] using this
      | 1, hj =>
        cases hj
        rw [World.var?_cell hg1 hv1]
        have := congrArg (·[1]?) hcs
        simpa [Rw.n, List.getElem?_take, List.getElem?_drop] using this
      | j + 2, hj => simp at hj
    · exfalso
      match gg, h0, h1 with
      | 0, h0, _ => exact h0 rfl
      | 1, _, h1 => exact h1 rfl
      | n + 2, _, _ => simp [Nat.beq] at hgg
def u8B (P : Program) (t : TypeId) : Bool := match P.underlying t with
  | some (.int .u8) => P.cellsOf t == 1
  | _ => false
theorem u8B_ok {t : TypeId} (h : u8B P t = true) : P.underlying t = some (.int .u8) ∧ P.cellsOf t = 1 := by
  unfold u8B at h
  split at h
  · rename_i e; exact ⟨e, by simpa using h⟩
  · cases h
def twoB (P : Program) (t : TypeId) : Bool := match P.underlying t with
  | some (.struct fs) => match fs.toList with
    | [f, g] => f.offset == 0 && g.offset == 1 && u8B P f.type && u8B P g.type && P.cellsOf t == 2
    | _ => false
  | _ => false
/-- The two tables' types, looked at. -/
def tabB (P : Program) (t0 t1 e0 e1 : TypeId) : Bool :=
  P.globalNamed "unicode/utf8.first" == some 0 && P.globalNamed "unicode/utf8.acceptRanges" == some 1 && (P.globals[0]?).map (·.type) == some t0 && (P.globals[1]?).map (·.type) == some t1 &&
  P.cellsOf t0 == 256 && P.cellsOf t1 == 32 && u8B P e0 && twoB P e1
theorem globI_utfB {W : World} {d0 d1 : DataW Unit} (hm : laidMet P [("unicode/utf8.acceptRanges", d1), ("unicode/utf8.first", d0)] W)
    (hd0 : d0 = .agg (utfFirst.map fun z => .lit (.int .u8 z))) (hd1 : d1 = .agg (utfAccept.map fun z => .agg [.lit (.int .u8 z.1), .lit (.int .u8 z.2)]))
    (t0 t1 e0 e1 : TypeId) (hB : tabB P t0 t1 e0 e1 = true) (ht0 : P.underlying t0 = some (.array 256 e0)) (ht1 : P.underlying t1 = some (.array 16 e1)) : GlobI utfGlob W.heap.size W := by
  unfold tabB at hB
  simp only [Bool.and_eq_true, beq_iff_eq] at hB
  obtain ⟨⟨⟨⟨⟨⟨⟨a1, a2⟩, a3⟩, a4⟩, a5⟩, a6⟩, a7⟩, a8⟩ := hB
  unfold twoB at a8
  split at a8
  · rename_i fs hfs
    split at a8
    · rename_i f g hfg
      simp only [Bool.and_eq_true, beq_iff_eq] at a8
      obtain ⟨⟨⟨⟨b1, b2⟩, b3⟩, b4⟩, b5⟩ := a8
      obtain ⟨c1, c2⟩ := u8B_ok b3
      obtain ⟨c3, c4⟩ := u8B_ok b4
      obtain ⟨c5, c6⟩ := u8B_ok a7
      exact globI_utf hm hd0 hd1 a1 a2 a3 a4 ht0 ht1 c5 hfs hfg b1 b2 c1 c3 c2 c4 a5 a6 c6 b5
    · cases a8
  · cases a8
def lay (xs : List Value) : Obj → Obj
  | .cells _ t frozen => .cells xs.toArray t frozen
  | o => o
/-- What the tables' initialisers lay. -/
def layUtf (h : Array Obj) : Array Obj := (h.modify 0 (lay (utfFirst.map fun z => .int .u8 z))).modify 1 (lay (utfAccept.flatMap fun z => [.int .u8 z.1, .int .u8 z.2]))
end Go.Ev
end
