/- Chunks: parts FiisCut FslicesClonebytesbyte FichunksOf FiChunksOf Fsl01Rune FsRuneSize Fsl01Cuts FsTextOk Futf8RuneCountInString Futf8RuneCount FbytesCount FimeasOf FiMeasOf FiisMeas FimeasAdd FiMeasAdd FsChunkOk FiisChunk FiareChunks FichunksText FiChunksText FlFnChunks EvLChunks EvKind EvOne EvTab, packed by squash.py. -/
import Derived.Shelf.Spec.RuneCount
import Derived.Shelf.Bytes.SlCountOne
import GoSem.ClaimWide
import Derived.Lib.LaidTab
import GoSem.PinnedTables
import Derived.Test.YtinmmaccoenphaaDoorZChunks0
import Derived.Test.YtinmmaccoenphaaDoorZChunks1
import Derived.Test.YtinmmaccoenphaaDoorZChunks2
import Derived.Test.YtinmmaccoenphaaDoorZChunks3
set_option linter.unusedVariables false
set_option linter.unusedSimpArgs false
section
/- i_isCut: its contract. -/
namespace Go.Ev.Seat
open Go.RowKit
set_option maxRecDepth 100000
set_option linter.unusedVariables false
set_option linter.unusedSimpArgs false
noncomputable abbrev ls_i_isCut : List (Nat × Bool × Sm) := [(N.i_in, true, S_i_in), (N.utf8_RuneStart, true, S_utf8_RuneStart)]
noncomputable abbrev E_i_isCut : Env := En ls_i_isCut [] [] [] false 0 []
noncomputable def T_i_isCut (t : List Int) (k : Int) (K : Ret → Option Ret) : Option Ret := (bif (k == (((List.length t) : Nat) : Int)) then K ((.s (.bool true)), []) else (bif ((decide ((0 : Int) ≤ k)) && (decide (k ≤ (IntKind.wrap .i64 ((((List.length t) : Nat) : Int) - (1 : Int)))))) then (bif ((decide ((0 : Int) ≤ k)) && (decide (k < (((List.length t) : Nat) : Int)))) then K ((.s (.bool ((band .u8 (List.getD t (Int.toNat k) (0 : Int)) (192 : Int)) != (128 : Int)))), []) else none) else K ((.s (.bool false)), [])))
theorem e_i_isCut (t : List Int) (k : Int) (K : Ret → Option Ret) : evF E_i_isCut true F.i_isCut [.l .no bytesR t, .s (.int .i64 k)] K = T_i_isCut t k K := by kernel_rfl
def S_i_isCut : Sm := S_fnR [.l bytesR, .i] (fun d => fitB d.1) (fun d => (bl (isCutD d.1 d.2.1), []))
theorem v_i_isCut (t : List Int) (k : Int) (h : (fitB t) = true) (K : Ret → Option Ret) : T_i_isCut t k K = K (bl (isCutD t k), []) := by
  unfold T_i_isCut isCutD
  have hl := fitB_len h
  by_cases e : k = ((t.length : Nat) : Int)
  · rw [beq_iff_eq.2 e]; rfl
  · rw [beq_eq_false_iff_ne.2 e, wrap_in (by omega) (by omega)]
    simp only [cond_false, Bool.false_or]
    by_cases h1 : 0 ≤ k
    · by_cases h2 : k < ((t.length : Nat) : Int)
      · rw [decide_eq_true h1, decide_eq_true h2, decide_eq_true (show k ≤ ((t.length : Nat) : Int) - 1 by omega)]
        have hb := fitB_get h k.toNat
        rw [cont_at hb.1 hb.2]; rfl
      · rw [decide_eq_true h1, decide_eq_false h2, decide_eq_false (show ¬ k ≤ ((t.length : Nat) : Int) - 1 by omega)]; rfl
    · rw [decide_eq_false h1]; rfl
theorem okS_i_isCut : OkFn prog I N.i_isCut true S_i_isCut := okN (ok_fn (memc okS_i_in (memc okS_utf8_RuneStart mem0)) (l := ls_i_isCut) (p := []) (ls := []) (lend := []) (focus := false) (fuel := 0) (give := []) (fn := F.i_isCut) (by kernel_rfl) (by kernel_rfl) (by kernel_rfl) (by kernel_rfl) (cs := []) (by kernel_rfl) loops0) (S_fnR_of fun d K h => (e_i_isCut d.1 d.2.1 K).trans (v_i_isCut d.1 d.2.1 h K))
end Go.Ev.Seat
end
section
/- slices_Clone_bytes_byte: its contract. -/
namespace Go.Ev.Seat
open Go.RowKit
set_option maxRecDepth 100000
set_option linter.unusedVariables false
set_option linter.unusedSimpArgs false
noncomputable abbrev E_slices_Clone_bytes_byte : Env := En [] [] [] [] false 0 []
noncomputable def T_slices_Clone_bytes_byte (l : List Int) (K : Ret → Option Ret) : Option Ret := (bif (Nat.beq (List.length l) 0) then (meet (K ((.l .deep bytesR ([] : List Int)), [])) ((bif (Nat.ble (((List.length ([] : List Int)) + (List.length l)) * 1) 140737488355328) then K ((.l .deep bytesR (([] : List Int) ++ l)), []) else none))) else (bif (Nat.ble (((List.length ([] : List Int)) + (List.length l)) * 1) 140737488355328) then K ((.l .deep bytesR (([] : List Int) ++ l)), []) else none))
theorem e_slices_Clone_bytes_byte (l : List Int) (K : Ret → Option Ret) : evF E_slices_Clone_bytes_byte true F.slices_Clone_bytes_byte [.l .no bytesR l] K = T_slices_Clone_bytes_byte l K := by kernel_rfl
def S_slices_Clone_bytes_byte : Sm := S_fnR [.l bytesR] (fun d => Cc.lim (Cc.sl bytesR) d.1) (fun d => (.l .deep bytesR d.1, []))
theorem v_slices_Clone_bytes_byte (l : List Int) (h : (Cc.lim (Cc.sl bytesR) l) = true) (K : Ret → Option Ret) : T_slices_Clone_bytes_byte l K = K (.l .deep bytesR l, []) := by
  have h1 : l.length ≤ 1048576 := by
    simp only [Cc.lim, Bool.and_eq_true] at h
    exact Nat.le_of_ble_eq_true h.1
  unfold T_slices_Clone_bytes_byte
  rw [Nat.ble_eq_true_of_le (by simp; omega)]
  cases l with
  | nil => exact meet_self _
  | cons x xs => rfl
theorem okS_slices_Clone_bytes_byte : OkFn prog I N.slices_Clone_bytes_byte true S_slices_Clone_bytes_byte := okN (ok_fn mem0 (l := []) (p := []) (ls := []) (lend := []) (focus := false) (fuel := 0) (give := []) (fn := F.slices_Clone_bytes_byte) (by kernel_rfl) (by kernel_rfl) (by kernel_rfl) (by kernel_rfl) (cs := []) (by kernel_rfl) loops0) (S_fnR_of fun d K h => (e_slices_Clone_bytes_byte d.1 K).trans (v_slices_Clone_bytes_byte d.1 h K))
end Go.Ev.Seat
end
section
/- i_chunksOf: its contract. -/
namespace Go.Ev.Seat
open Go.RowKit
set_option maxRecDepth 100000
set_option linter.unusedVariables false
set_option linter.unusedSimpArgs false
def z_i_chunksOf_4_0 (x0 : List Int) (x4 : Int) (o0 : List T_Piece) : St := { tm := ([(.l .no bytesR x0), .x, .x, (.w 0), (.s (.int .i64 x4))] ++ List.replicate 25 .x), ob := [(0, (.arr true true pieceR o0))], nx := 1, io := [] }
def sh_i_chunksOf_4_0 : Ss := { tm := (.cons (.l .no bytesR) (.cons (.x) (.cons (.x) (.cons (.w 0) (.cons (.int .i64) (xsh 25)))))), ob := (.arr true true pieceR .nil), nx := 1, io := .nil }
def d_i_chunksOf_4_0 (x0 : List Int) (x4 : Int) (o0 : List T_Piece) : sh_i_chunksOf_4_0.T := ((x0, ((), ((), ((), (x4, xd 25))))), (o0, ()), ())
def s_i_chunksOf_4_0 (x0 : List Int) (x4 : Int) (o0 : List T_Piece) : St := { tm := ([(.l .no bytesR x0), .x, .x, (.w 0), (.s (.int .i64 x4))] ++ List.replicate 25 .x), ob := [(0, (.arr true true pieceR o0))], nx := 1, io := [] }
theorem se_i_chunksOf_4_0 (x0 : List Int) (x4 : Int) (o0 : List T_Piece) : sh_i_chunksOf_4_0.mk' (d_i_chunksOf_4_0 x0 x4 o0) = (s_i_chunksOf_4_0 x0 x4 o0) := by kernel_rfl
def w_i_chunksOf_4_0 (d : sh_i_chunksOf_4_0.T) (f : (List Int) → Int → (List T_Piece) → Option Ret) : Option Ret := match d with | ((x0, (_, (_, (_, (x4, _))))), (o0, _), _) => f x0 x4 o0
noncomputable def P_i_chunksOf_4_0 (x0 : List Int) (x4 : Int) (o0 : List T_Piece) (nx0 : (List Int) → Int → (List T_Piece) → Option Ret) (k0 : (List Int) → Int → (List T_Piece) → Option Ret) : Option Ret := (bif (fitB x0) then (bif (!(isCutD x0 x4)) then (nx0 x0 (IntKind.wrap .i64 (x4 - (1 : Int))) o0) else (k0 x0 x4 o0)) else none)
noncomputable def Q_i_chunksOf_4_0 : Nat → (List Int) → Int → (List T_Piece) → ((List Int) → Int → (List T_Piece) → Option Ret) → Option Ret
  | 0, _, _, _, _ => none
  | m + 1, x0, x4, o0, k0 => P_i_chunksOf_4_0 x0 x4 o0 (fun x0 x4 o0 => (Q_i_chunksOf_4_0 m x0 x4 o0 k0)) k0
noncomputable def R_i_chunksOf_4_0 (x0 : List Int) (x4 : Int) (o0 : List T_Piece) (k0 : (List Int) → Int → (List T_Piece) → Option Ret) : Option Ret := Q_i_chunksOf_4_0 (List.length x0 + x4.toNat + List.length o0 + 2) x0 x4 o0 k0
noncomputable def W_i_chunksOf_4 : LoopFn := (fun (σ : St) (K : Ex → St → Option Ret) => (match sh_i_chunksOf_4_0.un σ with | some d => w_i_chunksOf_4_0 d (fun x0 x4 o0 => R_i_chunksOf_4_0 x0 x4 o0 (fun x0 x4 o0 => (K (.ext 2) (z_i_chunksOf_4_0 x0 x4 o0)))) | none => none))
def z_i_chunksOf_2_0 (o0 : List T_Piece) : St := { tm := ([.x, .x, .x, (.w 0)] ++ List.replicate 26 .x), ob := [(0, (.arr true true pieceR o0))], nx := 1, io := [] }
def sh_i_chunksOf_2_0 : Ss := { tm := (.cons (.l .no bytesR) (.cons (.x) (.cons (.x) (.cons (.w 0) (xsh 26))))), ob := (.arr true true pieceR .nil), nx := 1, io := .nil }
def d_i_chunksOf_2_0 (x0 : List Int) (o0 : List T_Piece) : sh_i_chunksOf_2_0.T := ((x0, ((), ((), ((), xd 26)))), (o0, ()), ())
def s_i_chunksOf_2_0 (x0 : List Int) (o0 : List T_Piece) : St := { tm := ([(.l .no bytesR x0), .x, .x, (.w 0)] ++ List.replicate 26 .x), ob := [(0, (.arr true true pieceR o0))], nx := 1, io := [] }
theorem se_i_chunksOf_2_0 (x0 : List Int) (o0 : List T_Piece) : sh_i_chunksOf_2_0.mk' (d_i_chunksOf_2_0 x0 o0) = (s_i_chunksOf_2_0 x0 o0) := by kernel_rfl
def w_i_chunksOf_2_0 (d : sh_i_chunksOf_2_0.T) (f : (List Int) → (List T_Piece) → Option Ret) : Option Ret := match d with | ((x0, (_, (_, (_, _)))), (o0, _), _) => f x0 o0
noncomputable def P_i_chunksOf_2_0 (x0 : List Int) (o0 : List T_Piece) (nx0 : (List Int) → (List T_Piece) → Option Ret) (k0 : (List T_Piece) → Option Ret) : Option Ret := (bif (decide ((((List.length x0) : Nat) : Int) > (0 : Int))) then (R_i_chunksOf_4_0 x0 (if (16 : Int) < (((List.length x0) : Nat) : Int) then (16 : Int) else (((List.length x0) : Nat) : Int)) o0 (fun y0 y1 y2 => (bif ((decide ((0 : Int) ≤ y1)) && (decide (y1 ≤ (((List.length y0) : Nat) : Int)))) then (bif (Cc.lim (Cc.sl bytesR) (List.take (Int.toNat y1) y0)) then (bif (Nat.ble (((List.length y2) + (List.length ((List.take (Int.toNat y1) y0) :: []))) * 24) 140737488355328) then (bif ((decide ((0 : Int) ≤ y1)) && (decide (y1 ≤ (((List.length y0) : Nat) : Int)))) then (nx0 (List.drop (Int.toNat y1) y0) (y2 ++ ((List.take (Int.toNat y1) y0) :: []))) else none) else none) else none) else none))) else (k0 o0))
noncomputable def Q_i_chunksOf_2_0 : Nat → (List Int) → (List T_Piece) → ((List T_Piece) → Option Ret) → Option Ret
  | 0, _, _, _ => none
  | m + 1, x0, o0, k0 => P_i_chunksOf_2_0 x0 o0 (fun x0 o0 => (Q_i_chunksOf_2_0 m x0 o0 k0)) k0
noncomputable def R_i_chunksOf_2_0 (x0 : List Int) (o0 : List T_Piece) (k0 : (List T_Piece) → Option Ret) : Option Ret := Q_i_chunksOf_2_0 (List.length x0 + List.length o0 + 2) x0 o0 k0
noncomputable def W_i_chunksOf_2 : LoopFn := (fun (σ : St) (K : Ex → St → Option Ret) => (match sh_i_chunksOf_2_0.un σ with | some d => w_i_chunksOf_2_0 d (fun x0 o0 => R_i_chunksOf_2_0 x0 o0 (fun o0 => (K (.ext 0) (z_i_chunksOf_2_0 o0)))) | none => none))
noncomputable abbrev ls_i_chunksOf : List (Nat × Bool × Sm) := [(N.i_isCut, true, S_i_isCut), (N.slices_Clone_bytes_byte, true, S_slices_Clone_bytes_byte)]
noncomputable abbrev E_i_chunksOf : Env := En ls_i_chunksOf [] [(4, [0,3,4], [0,2,3,4], W_i_chunksOf_4), (2, [0,3], [2,3], W_i_chunksOf_2)] [] false 0 []
noncomputable abbrev U_i_chunksOf_4 := rounds (run E_i_chunksOf (bodyOf F.i_chunksOf 4)) [0,3,4] [0,2,3,4]
theorem st_i_chunksOf_4_0 (m : Nat) (x0 : List Int) (x4 : Int) (o0 : List T_Piece) (K : Ex → St → Option Ret) : U_i_chunksOf_4 (m + 1) (s_i_chunksOf_4_0 x0 x4 o0) K = P_i_chunksOf_4_0 x0 x4 o0 (fun x0 x4 o0 => (U_i_chunksOf_4 m (s_i_chunksOf_4_0 x0 x4 o0) K)) (fun x0 x4 o0 => (K (.ext 2) (z_i_chunksOf_4_0 x0 x4 o0))) := by kernel_rfl
theorem q_i_chunksOf_4 (K : Ex → St → Option Ret) : ∀ m : Nat, (∀ (x0 : List Int) (x4 : Int) (o0 : List T_Piece), U_i_chunksOf_4 m (s_i_chunksOf_4_0 x0 x4 o0) K = Q_i_chunksOf_4_0 m x0 x4 o0 (fun x0 x4 o0 => (K (.ext 2) (z_i_chunksOf_4_0 x0 x4 o0))))
  | 0 => (fun _ _ _ => rfl)
  | m + 1 => (fun x0 x4 o0 => (by rw [st_i_chunksOf_4_0, show (fun x0 x4 o0 => (U_i_chunksOf_4 m (s_i_chunksOf_4_0 x0 x4 o0) K)) = (fun x0 x4 o0 => (Q_i_chunksOf_4_0 m x0 x4 o0 (fun x0 x4 o0 => (K (.ext 2) (z_i_chunksOf_4_0 x0 x4 o0))))) from funext fun x0 => funext fun x4 => funext fun o0 => (q_i_chunksOf_4 K m) x0 x4 o0]; rfl))
theorem loopK_i_chunksOf_4 : LoopOk E_i_chunksOf (bodyOf F.i_chunksOf 4) := by
  refine loopW_ok (n := 4) (F := W_i_chunksOf_4) (by kernel_rfl) rfl (li := [0,3,4]) (lo := [0,2,3,4]) rfl (fun σ K r hr => ?_)
  unfold W_i_chunksOf_4 at hr
  split at hr
  · rename_i d hd
    rw [Ss.un_mk hd]
    exact ⟨_, ((congrArg (fun z => U_i_chunksOf_4 _ z K) (se_i_chunksOf_4_0 _ _ _)).trans ((q_i_chunksOf_4 K _) _ _ _)).trans hr⟩
  · cases hr
noncomputable abbrev U_i_chunksOf_2 := rounds (run E_i_chunksOf (bodyOf F.i_chunksOf 2)) [0,3] [2,3]
theorem st_i_chunksOf_2_0 (m : Nat) (x0 : List Int) (o0 : List T_Piece) (K : Ex → St → Option Ret) : U_i_chunksOf_2 (m + 1) (s_i_chunksOf_2_0 x0 o0) K = P_i_chunksOf_2_0 x0 o0 (fun x0 o0 => (U_i_chunksOf_2 m (s_i_chunksOf_2_0 x0 o0) K)) (fun o0 => (K (.ext 0) (z_i_chunksOf_2_0 o0))) := by kernel_rfl
theorem q_i_chunksOf_2 (K : Ex → St → Option Ret) : ∀ m : Nat, (∀ (x0 : List Int) (o0 : List T_Piece), U_i_chunksOf_2 m (s_i_chunksOf_2_0 x0 o0) K = Q_i_chunksOf_2_0 m x0 o0 (fun o0 => (K (.ext 0) (z_i_chunksOf_2_0 o0))))
  | 0 => (fun _ _ => rfl)
  | m + 1 => (fun x0 o0 => (by rw [st_i_chunksOf_2_0, show (fun x0 o0 => (U_i_chunksOf_2 m (s_i_chunksOf_2_0 x0 o0) K)) = (fun x0 o0 => (Q_i_chunksOf_2_0 m x0 o0 (fun o0 => (K (.ext 0) (z_i_chunksOf_2_0 o0))))) from funext fun x0 => funext fun o0 => (q_i_chunksOf_2 K m) x0 o0]; rfl))
theorem loopK_i_chunksOf_2 : LoopOk E_i_chunksOf (bodyOf F.i_chunksOf 2) := by
  refine loopW_ok (n := 2) (F := W_i_chunksOf_2) (by kernel_rfl) rfl (li := [0,3]) (lo := [2,3]) rfl (fun σ K r hr => ?_)
  unfold W_i_chunksOf_2 at hr
  split at hr
  · rename_i d hd
    rw [Ss.un_mk hd]
    exact ⟨_, ((congrArg (fun z => U_i_chunksOf_2 _ z K) (se_i_chunksOf_2_0 _ _)).trans ((q_i_chunksOf_2 K _) _ _)).trans hr⟩
  · cases hr
noncomputable def T_i_chunksOf (d : List Int) (K : Ret → Option Ret) : Option Ret := (R_i_chunksOf_2_0 d [] (fun y3 => K ((.l .deep pieceR y3), [])))
theorem e_i_chunksOf (d : List Int) (K : Ret → Option Ret) : evF E_i_chunksOf true F.i_chunksOf [.l .no bytesR d] K = T_i_chunksOf d K := by kernel_rfl
def S_i_chunksOf : Sm := S_fnR [.l bytesR] (fun d => fitB d.1 && valid d.1) (fun d => (.l .deep chunkR (chunksL d.1), []))
theorem v_i_chunksOf (d : List Int) (h : (fitB d && valid d) = true) (K : Ret → Option Ret) : T_i_chunksOf d K = K (.l .deep chunkR (chunksL d), []) := by
  obtain ⟨hf, hv⟩ := (Bool.and_eq_true _ _).mp h
  have hl := fitB_len hf
  unfold T_i_chunksOf R_i_chunksOf_2_0
  have q4 : ∀ (x : List Int) (o : List T_Piece) (k0 : (List Int) → Int → (List T_Piece) → Option Ret) (m n : Nat), fitB x = true → isCutD x 0 = true → n ≤ 16 → n < m → Q_i_chunksOf_4_0 m x ((n : Nat) : Int) o k0 = k0 x ((lastCut x n : Nat) : Int) o := by
    intro x o k0 m
    induction m with
    | zero => intro n _ _ _ hm; omega
    | succ m ih =>
      intro n hx h0 h16 hm
      show P_i_chunksOf_4_0 x ((n : Nat) : Int) o _ k0 = _
      unfold P_i_chunksOf_4_0
      rw [hx]
      cases n with
      | zero => rw [show isCutD x ((0 : Nat) : Int) = true from h0]; rfl
      | succ n =>
        unfold lastCut
        cases hc : isCutD x ((n + 1 : Nat) : Int) with
        | true => rfl
        | false =>
          rw [wrap_in (n := ((n + 1 : Nat) : Int) - 1) (by omega) (by omega), show ((n + 1 : Nat) : Int) - 1 = ((n : Nat) : Int) by omega]
          exact ih n hx h0 (by omega) (by omega)
  have q2 : ∀ (m : Nat) (x : List Int) (o : List T_Piece), fitB x = true → valid x = true → o.length + x.length ≤ 1048576 → x.length < m → Q_i_chunksOf_2_0 m x o (fun y3 => K ((.l .deep pieceR y3), [])) = K (.l .deep pieceR (o ++ chunksL x), []) := by
    intro m
    induction m with
    | zero => intro x o _ _ _ hm; omega
    | succ m ih =>
      intro x o hx hv ho hm
      show P_i_chunksOf_2_0 x o _ _ = _
      unfold P_i_chunksOf_2_0
      by_cases he : x = []
      · subst he
        rw [chunksL_nil, List.append_nil]; rfl
      · have hne : x.length ≠ 0 := fun e => he (List.length_eq_zero_iff.1 e)
        have hp := chunk_pos hv he
        have hle := lastCut_le x (min 16 x.length)
        obtain ⟨v1, v2⟩ := valid_cut _ x _ (Nat.le_refl _) hv (lastCut_cut (cut_zero hv) (min 16 x.length))
        rw [decide_eq_true (show ((x.length : Nat) : Int) > 0 by omega), cond_true]
        have e16 : (if (16 : Int) < ((x.length : Nat) : Int) then (16 : Int) else ((x.length : Nat) : Int)) = ((min 16 x.length : Nat) : Int) := by
          by_cases c : (16 : Int) < ((x.length : Nat) : Int)
          · rw [if_pos c]; omega
          · rw [if_neg c]; omega
        rw [e16, chunksL_step hv he]
        unfold R_i_chunksOf_4_0
        rw [q4 x o _ _ (min 16 x.length) hx (cut_zero hv) (by omega) (by omega)]
        generalize lastCut x (min 16 x.length) = c at *
        rw [decide_eq_true (show (0 : Int) ≤ ((c : Nat) : Int) by omega), decide_eq_true (show ((c : Nat) : Int) ≤ ((x.length : Nat) : Int) by omega), Int.toNat_natCast, show Cc.lim (Cc.sl bytesR) (x.take c) = true from bytes_lim (by rw [List.length_take]; omega), Nat.ble_eq_true_of_le (by simp only [List.length_cons, List.length_nil]; omega)]
        refine (ih (x.drop c) (o ++ [x.take c]) (fitB_drop hx c) v2 (by rw [List.length_append, List.length_drop]; simp only [List.length_cons, List.length_nil]; omega) (by rw [List.length_drop]; omega)).trans ?_
        rw [List.append_assoc]; rfl
  exact (q2 _ d [] hf hv (by rw [List.length_nil]; omega) (by omega)).trans rfl
theorem okS_i_chunksOf : OkFn prog I N.i_chunksOf true S_i_chunksOf := okN (ok_fn (memc okS_i_isCut (memc okS_slices_Clone_bytes_byte mem0)) (l := ls_i_chunksOf) (p := []) (ls := [(4, [0,3,4], [0,2,3,4], W_i_chunksOf_4), (2, [0,3], [2,3], W_i_chunksOf_2)]) (lend := []) (focus := false) (fuel := 0) (give := []) (fn := F.i_chunksOf) (by kernel_rfl) (by kernel_rfl) (by kernel_rfl) (by kernel_rfl) (cs := [bodyOf F.i_chunksOf 2, bodyOf F.i_chunksOf 4]) (by kernel_rfl) (loopsc loopK_i_chunksOf_2 (loopsc loopK_i_chunksOf_4 loops0))) (S_fnR_of fun d K h => (e_i_chunksOf d.1 K).trans (v_i_chunksOf d.1 h K))
end Go.Ev.Seat
end
section
/- i_ChunksOf: its contract. -/
namespace Go.Ev.Seat
open Go.RowKit
set_option maxRecDepth 100000
set_option linter.unusedVariables false
set_option linter.unusedSimpArgs false
noncomputable abbrev ls_i_ChunksOf : List (Nat × Bool × Sm) := [(N.i_isText, true, S_i_isText), (N.i_chunksOf, true, S_i_chunksOf)]
noncomputable abbrev E_i_ChunksOf : Env := En ls_i_ChunksOf [] [] [] false 0 []
noncomputable def T_i_ChunksOf (d : List Int) (K : Ret → Option Ret) : Option Ret := (bif (fitB d) then (bif (!(textOk d)) then K ((.l .deep pieceR []), []) else (bif ((fitB d) && (valid d)) then K ((.l .deep pieceR (chunksL d)), []) else none)) else none)
theorem e_i_ChunksOf (d : List Int) (K : Ret → Option Ret) : evF E_i_ChunksOf true F.i_ChunksOf [.l .no bytesR d] K = T_i_ChunksOf d K := by kernel_rfl
def S_i_ChunksOf : Sm := S_fnR [.l bytesR] (fun d => fitB d.1) (fun d => (.l .deep chunkR (bif textOk d.1 then chunksL d.1 else []), []))
theorem v_i_ChunksOf (d : List Int) (h : (fitB d) = true) (K : Ret → Option Ret) : T_i_ChunksOf d K = K (.l .deep chunkR (bif textOk d then chunksL d else []), []) := by
  unfold T_i_ChunksOf
  rw [h]
  cases ht : textOk d with
  | false => rfl
  | true => rw [(textOk_iff.1 ht).2]; rfl
theorem okS_i_ChunksOf : OkFn prog I N.i_ChunksOf true S_i_ChunksOf := okN (ok_fn (memc okS_i_isText (memc okS_i_chunksOf mem0)) (l := ls_i_ChunksOf) (p := []) (ls := []) (lend := []) (focus := false) (fuel := 0) (give := []) (fn := F.i_ChunksOf) (by kernel_rfl) (by kernel_rfl) (by kernel_rfl) (by kernel_rfl) (cs := []) (by kernel_rfl) loops0) (S_fnR_of fun d K h => (e_i_ChunksOf d.1 K).trans (v_i_ChunksOf d.1 h K))
end Go.Ev.Seat
end
section
/- s_l01Rune: its contract. -/
namespace Go.Ev.Seat
open Go.RowKit
set_option maxRecDepth 100000
set_option linter.unusedVariables false
set_option linter.unusedSimpArgs false
def z_s_l01Rune_18_0 (x0 : List Int) (x1 : Int) (x7 : Int) (x8 : Int) : St := { tm := ([(.l .no bytesR x0), (.s (.int .i64 x1)), .x, .x, .x, .x, .x, (.s (.int .i64 x7)), (.s (.int .i64 x8))] ++ List.replicate 65 .x), ob := [], nx := 0, io := [] }
def sh_s_l01Rune_18_0 : Ss := { tm := (.cons (.l .no bytesR) (.cons (.int .i64) (.cons (.x) (.cons (.x) (.cons (.x) (.cons (.x) (.cons (.x) (.cons (.int .i64) (.cons (.int .i64) (.cons (.int .i64) (xsh 64))))))))))), ob := .nil, nx := 0, io := .nil }
def d_s_l01Rune_18_0 (x0 : List Int) (x1 : Int) (x7 : Int) (x8 : Int) (x9 : Int) : sh_s_l01Rune_18_0.T := ((x0, (x1, ((), ((), ((), ((), ((), (x7, (x8, (x9, xd 64)))))))))), (), ())
def s_s_l01Rune_18_0 (x0 : List Int) (x1 : Int) (x7 : Int) (x8 : Int) (x9 : Int) : St := { tm := ([(.l .no bytesR x0), (.s (.int .i64 x1)), .x, .x, .x, .x, .x, (.s (.int .i64 x7)), (.s (.int .i64 x8)), (.s (.int .i64 x9))] ++ List.replicate 64 .x), ob := [], nx := 0, io := [] }
theorem se_s_l01Rune_18_0 (x0 : List Int) (x1 : Int) (x7 : Int) (x8 : Int) (x9 : Int) : sh_s_l01Rune_18_0.mk' (d_s_l01Rune_18_0 x0 x1 x7 x8 x9) = (s_s_l01Rune_18_0 x0 x1 x7 x8 x9) := by kernel_rfl
def w_s_l01Rune_18_0 (d : sh_s_l01Rune_18_0.T) (f : (List Int) → Int → Int → Int → Int → Option Ret) : Option Ret := match d with | ((x0, (x1, (_, (_, (_, (_, (_, (x7, (x8, (x9, _)))))))))), _, _) => f x0 x1 x7 x8 x9
noncomputable def P_s_l01Rune_18_0 (x0 : List Int) (x1 : Int) (x7 : Int) (x8 : Int) (x9 : Int) (nx0 : (List Int) → Int → Int → Int → Int → Option Ret) (k0 : (List Int) → Int → Int → Int → Option Ret) : Option Ret := (bif (decide (x9 < x7)) then (bif ((decide ((0 : Int) ≤ (IntKind.wrap .i64 (x1 + x9)))) && (decide ((IntKind.wrap .i64 (x1 + x9)) < (((List.length x0) : Nat) : Int)))) then (nx0 x0 x1 x7 (IntKind.wrap .i64 ((IntKind.wrap .i64 ((IntKind.wrap .i64 ((64 : Int) * x8)) + (IntKind.wrap .i64 (List.getD x0 (Int.toNat (IntKind.wrap .i64 (x1 + x9))) (0 : Int))))) - (128 : Int))) (IntKind.wrap .i64 (x9 + (1 : Int)))) else none) else (k0 x0 x1 x7 x8))
noncomputable def Q_s_l01Rune_18_0 : Nat → (List Int) → Int → Int → Int → Int → ((List Int) → Int → Int → Int → Option Ret) → Option Ret
  | 0, _, _, _, _, _, _ => none
  | m + 1, x0, x1, x7, x8, x9, k0 => P_s_l01Rune_18_0 x0 x1 x7 x8 x9 (fun x0 x1 x7 x8 x9 => (Q_s_l01Rune_18_0 m x0 x1 x7 x8 x9 k0)) k0
noncomputable def R_s_l01Rune_18_0 (x0 : List Int) (x1 : Int) (x7 : Int) (x8 : Int) (x9 : Int) (k0 : (List Int) → Int → Int → Int → Option Ret) : Option Ret := Q_s_l01Rune_18_0 (List.length x0 + x1.toNat + x7.toNat + x8.toNat + x9.toNat + 2) x0 x1 x7 x8 x9 k0
noncomputable def W_s_l01Rune_18 : LoopFn := (fun (σ : St) (K : Ex → St → Option Ret) => (match sh_s_l01Rune_18_0.un σ with | some d => w_s_l01Rune_18_0 d (fun x0 x1 x7 x8 x9 => R_s_l01Rune_18_0 x0 x1 x7 x8 x9 (fun x0 x1 x7 x8 => (K (.ext 1) (z_s_l01Rune_18_0 x0 x1 x7 x8)))) | none => none))
noncomputable abbrev pl_s_l01Rune : List (Nat × Plan × List Nat) := [(21, takeB [0, 3, 4, 5, 6, 7, 8] (.fork (.more 1 (.fork (.more 2 (.fork (.one 9 (takes [10]))) (.one 9 (.fork (.one 2 (takes [10])))))) (.one 9 (.fork (.one 1 (.fork (.one 2 (takes [10])))))))), [])]
noncomputable abbrev ls_s_l01Rune : List (Nat × Bool × Sm) := [(N.s_RuneBytes, true, S_s_RuneBytes)]
noncomputable abbrev E_s_l01Rune : Env := En ls_s_l01Rune pl_s_l01Rune [(18, [0,1,7,8,9], [0,1,4,5,7,8], W_s_l01Rune_18)] [] false 0 []
noncomputable abbrev U_s_l01Rune_18 := rounds (run E_s_l01Rune (bodyOf F.s_l01Rune 18)) [0,1,7,8,9] [0,1,4,5,7,8]
theorem st_s_l01Rune_18_0 (m : Nat) (x0 : List Int) (x1 : Int) (x7 : Int) (x8 : Int) (x9 : Int) (K : Ex → St → Option Ret) : U_s_l01Rune_18 (m + 1) (s_s_l01Rune_18_0 x0 x1 x7 x8 x9) K = P_s_l01Rune_18_0 x0 x1 x7 x8 x9 (fun x0 x1 x7 x8 x9 => (U_s_l01Rune_18 m (s_s_l01Rune_18_0 x0 x1 x7 x8 x9) K)) (fun x0 x1 x7 x8 => (K (.ext 1) (z_s_l01Rune_18_0 x0 x1 x7 x8))) := by kernel_rfl
theorem q_s_l01Rune_18 (K : Ex → St → Option Ret) : ∀ m : Nat, (∀ (x0 : List Int) (x1 : Int) (x7 : Int) (x8 : Int) (x9 : Int), U_s_l01Rune_18 m (s_s_l01Rune_18_0 x0 x1 x7 x8 x9) K = Q_s_l01Rune_18_0 m x0 x1 x7 x8 x9 (fun x0 x1 x7 x8 => (K (.ext 1) (z_s_l01Rune_18_0 x0 x1 x7 x8))))
  | 0 => (fun _ _ _ _ _ => rfl)
  | m + 1 => (fun x0 x1 x7 x8 x9 => (by rw [st_s_l01Rune_18_0, show (fun x0 x1 x7 x8 x9 => (U_s_l01Rune_18 m (s_s_l01Rune_18_0 x0 x1 x7 x8 x9) K)) = (fun x0 x1 x7 x8 x9 => (Q_s_l01Rune_18_0 m x0 x1 x7 x8 x9 (fun x0 x1 x7 x8 => (K (.ext 1) (z_s_l01Rune_18_0 x0 x1 x7 x8))))) from funext fun x0 => funext fun x1 => funext fun x7 => funext fun x8 => funext fun x9 => (q_s_l01Rune_18 K m) x0 x1 x7 x8 x9]; rfl))
theorem loopK_s_l01Rune_18 : LoopOk E_s_l01Rune (bodyOf F.s_l01Rune 18) := by
  refine loopW_ok (n := 18) (F := W_s_l01Rune_18) (by kernel_rfl) rfl (li := [0,1,7,8,9]) (lo := [0,1,4,5,7,8]) rfl (fun σ K r hr => ?_)
  unfold W_s_l01Rune_18 at hr
  split at hr
  · rename_i d hd
    rw [Ss.un_mk hd]
    exact ⟨_, ((congrArg (fun z => U_s_l01Rune_18 _ z K) (se_s_l01Rune_18_0 _ _ _ _ _)).trans ((q_s_l01Rune_18 K _) _ _ _ _ _)).trans hr⟩
  · cases hr
noncomputable def T_s_l01Rune (d : List Int) (k : Int) (K : Ret → Option Ret) : Option Ret := (bif (decide (k < (0 : Int))) then K ((.t [(.s (.int .i64 (-(1 : Int)))), (.s (.int .i64 (0 : Int)))]), []) else (bif (decide (k ≥ (((List.length d) : Nat) : Int))) then K ((.t [(.s (.int .i64 (-(1 : Int)))), (.s (.int .i64 (0 : Int)))]), []) else (bif ((decide ((0 : Int) ≤ k)) && (decide (k < (((List.length d) : Nat) : Int)))) then (bif (decide ((IntKind.wrap .i64 (List.getD d (Int.toNat k) (0 : Int))) ≥ (240 : Int))) then (bif (decide ((4 : Int) > (IntKind.wrap .i64 ((((List.length d) : Nat) : Int) - k)))) then K ((.t [(.s (.int .i64 (-(1 : Int)))), (.s (.int .i64 (0 : Int)))]), []) else (R_s_l01Rune_18_0 d k (4 : Int) (IntKind.wrap .i64 ((IntKind.wrap .i64 (List.getD d (Int.toNat k) (0 : Int))) - (240 : Int))) (1 : Int) (fun y0 y1 y2 y3 => (bif (((decide ((0 : Int) ≤ y1)) && (decide (y1 ≤ (IntKind.wrap .i64 (y1 + y2))))) && (decide ((IntKind.wrap .i64 (y1 + y2)) ≤ (((List.length y0) : Nat) : Int)))) then (meet ((meet ((bif (!((ByteArray.toList (bstr (encD y3))) == (ByteArray.toList (bstr (List.drop (Int.toNat y1) (List.take (Int.toNat (IntKind.wrap .i64 (y1 + y2))) y0)))))) then K ((.t [(.s (.int .i64 (-(1 : Int)))), (.s (.int .i64 (0 : Int)))]), []) else K ((.t [(.s (.int .i64 y3)), (.s (.int .i64 y2))]), []))) ((bif (!((ByteArray.toList (bstr (encD y3))) == (ByteArray.toList (bstr (List.drop (Int.toNat y1) (List.take (Int.toNat (IntKind.wrap .i64 (y1 + y2))) y0)))))) then K ((.t [(.s (.int .i64 (-(1 : Int)))), (.s (.int .i64 (0 : Int)))]), []) else K ((.t [(.s (.int .i64 y3)), (.s (.int .i64 y2))]), []))))) ((bif (!((ByteArray.toList (bstr (encD y3))) == (ByteArray.toList (bstr (List.drop (Int.toNat y1) (List.take (Int.toNat (IntKind.wrap .i64 (y1 + y2))) y0)))))) then K ((.t [(.s (.int .i64 (-(1 : Int)))), (.s (.int .i64 (0 : Int)))]), []) else K ((.t [(.s (.int .i64 y3)), (.s (.int .i64 y2))]), [])))) else none)))) else (bif (decide ((IntKind.wrap .i64 (List.getD d (Int.toNat k) (0 : Int))) ≥ (224 : Int))) then (bif (decide ((3 : Int) > (IntKind.wrap .i64 ((((List.length d) : Nat) : Int) - k)))) then K ((.t [(.s (.int .i64 (-(1 : Int)))), (.s (.int .i64 (0 : Int)))]), []) else (R_s_l01Rune_18_0 d k (3 : Int) (IntKind.wrap .i64 ((IntKind.wrap .i64 (List.getD d (Int.toNat k) (0 : Int))) - (224 : Int))) (1 : Int) (fun y4 y5 y6 y7 => (bif (((decide ((0 : Int) ≤ y5)) && (decide (y5 ≤ (IntKind.wrap .i64 (y5 + y6))))) && (decide ((IntKind.wrap .i64 (y5 + y6)) ≤ (((List.length y4) : Nat) : Int)))) then (meet ((meet ((bif (!((ByteArray.toList (bstr (encD y7))) == (ByteArray.toList (bstr (List.drop (Int.toNat y5) (List.take (Int.toNat (IntKind.wrap .i64 (y5 + y6))) y4)))))) then K ((.t [(.s (.int .i64 (-(1 : Int)))), (.s (.int .i64 (0 : Int)))]), []) else K ((.t [(.s (.int .i64 y7)), (.s (.int .i64 y6))]), []))) ((bif (!((ByteArray.toList (bstr (encD y7))) == (ByteArray.toList (bstr (List.drop (Int.toNat y5) (List.take (Int.toNat (IntKind.wrap .i64 (y5 + y6))) y4)))))) then K ((.t [(.s (.int .i64 (-(1 : Int)))), (.s (.int .i64 (0 : Int)))]), []) else K ((.t [(.s (.int .i64 y7)), (.s (.int .i64 y6))]), []))))) ((bif (!((ByteArray.toList (bstr (encD y7))) == (ByteArray.toList (bstr (List.drop (Int.toNat y5) (List.take (Int.toNat (IntKind.wrap .i64 (y5 + y6))) y4)))))) then K ((.t [(.s (.int .i64 (-(1 : Int)))), (.s (.int .i64 (0 : Int)))]), []) else K ((.t [(.s (.int .i64 y7)), (.s (.int .i64 y6))]), [])))) else none)))) else (bif (decide ((IntKind.wrap .i64 (List.getD d (Int.toNat k) (0 : Int))) ≥ (192 : Int))) then (bif (decide ((2 : Int) > (IntKind.wrap .i64 ((((List.length d) : Nat) : Int) - k)))) then K ((.t [(.s (.int .i64 (-(1 : Int)))), (.s (.int .i64 (0 : Int)))]), []) else (R_s_l01Rune_18_0 d k (2 : Int) (IntKind.wrap .i64 ((IntKind.wrap .i64 (List.getD d (Int.toNat k) (0 : Int))) - (192 : Int))) (1 : Int) (fun y8 y9 y10 y11 => (bif (((decide ((0 : Int) ≤ y9)) && (decide (y9 ≤ (IntKind.wrap .i64 (y9 + y10))))) && (decide ((IntKind.wrap .i64 (y9 + y10)) ≤ (((List.length y8) : Nat) : Int)))) then (meet ((meet ((bif (!((ByteArray.toList (bstr (encD y11))) == (ByteArray.toList (bstr (List.drop (Int.toNat y9) (List.take (Int.toNat (IntKind.wrap .i64 (y9 + y10))) y8)))))) then K ((.t [(.s (.int .i64 (-(1 : Int)))), (.s (.int .i64 (0 : Int)))]), []) else K ((.t [(.s (.int .i64 y11)), (.s (.int .i64 y10))]), []))) ((bif (!((ByteArray.toList (bstr (encD y11))) == (ByteArray.toList (bstr (List.drop (Int.toNat y9) (List.take (Int.toNat (IntKind.wrap .i64 (y9 + y10))) y8)))))) then K ((.t [(.s (.int .i64 (-(1 : Int)))), (.s (.int .i64 (0 : Int)))]), []) else K ((.t [(.s (.int .i64 y11)), (.s (.int .i64 y10))]), []))))) ((bif (!((ByteArray.toList (bstr (encD y11))) == (ByteArray.toList (bstr (List.drop (Int.toNat y9) (List.take (Int.toNat (IntKind.wrap .i64 (y9 + y10))) y8)))))) then K ((.t [(.s (.int .i64 (-(1 : Int)))), (.s (.int .i64 (0 : Int)))]), []) else K ((.t [(.s (.int .i64 y11)), (.s (.int .i64 y10))]), [])))) else none)))) else (bif (decide ((1 : Int) > (IntKind.wrap .i64 ((((List.length d) : Nat) : Int) - k)))) then K ((.t [(.s (.int .i64 (-(1 : Int)))), (.s (.int .i64 (0 : Int)))]), []) else (R_s_l01Rune_18_0 d k (1 : Int) (IntKind.wrap .i64 (List.getD d (Int.toNat k) (0 : Int))) (1 : Int) (fun y12 y13 y14 y15 => (bif (((decide ((0 : Int) ≤ y13)) && (decide (y13 ≤ (IntKind.wrap .i64 (y13 + y14))))) && (decide ((IntKind.wrap .i64 (y13 + y14)) ≤ (((List.length y12) : Nat) : Int)))) then (meet ((meet ((bif (!((ByteArray.toList (bstr (encD y15))) == (ByteArray.toList (bstr (List.drop (Int.toNat y13) (List.take (Int.toNat (IntKind.wrap .i64 (y13 + y14))) y12)))))) then K ((.t [(.s (.int .i64 (-(1 : Int)))), (.s (.int .i64 (0 : Int)))]), []) else K ((.t [(.s (.int .i64 y15)), (.s (.int .i64 y14))]), []))) ((bif (!((ByteArray.toList (bstr (encD y15))) == (ByteArray.toList (bstr (List.drop (Int.toNat y13) (List.take (Int.toNat (IntKind.wrap .i64 (y13 + y14))) y12)))))) then K ((.t [(.s (.int .i64 (-(1 : Int)))), (.s (.int .i64 (0 : Int)))]), []) else K ((.t [(.s (.int .i64 y15)), (.s (.int .i64 y14))]), []))))) ((bif (!((ByteArray.toList (bstr (encD y15))) == (ByteArray.toList (bstr (List.drop (Int.toNat y13) (List.take (Int.toNat (IntKind.wrap .i64 (y13 + y14))) y12)))))) then K ((.t [(.s (.int .i64 (-(1 : Int)))), (.s (.int .i64 (0 : Int)))]), []) else K ((.t [(.s (.int .i64 y15)), (.s (.int .i64 y14))]), [])))) else none))))))) else none)))
theorem e_s_l01Rune (d : List Int) (k : Int) (K : Ret → Option Ret) : evF E_s_l01Rune true F.s_l01Rune [.l .no bytesR d, .s (.int .i64 k)] K = T_s_l01Rune d k K := by kernel_rfl
theorem rune_step {m : Nat} {d : List Int} {k n r i : Int} {k0 : List Int → Int → Int → Int → Option Ret} (hd : fitB d = true) (h0 : 0 ≤ k) (hi : 0 < i) (hn : i < n) (hl : k + i < ((d.length : Nat) : Int)) (hr : -1000000000 ≤ r ∧ r ≤ 1000000000) :
    Q_s_l01Rune_18_0 (m + 1) d k n r i k0 = Q_s_l01Rune_18_0 m d k n (64 * r + d.getD (k + i).toNat 0 - 128) (i + 1) k0 := by
  have hb := fitB_get hd (k + i).toNat
  have hlen := fitB_len hd
  show P_s_l01Rune_18_0 d k n r i _ k0 = _
  unfold P_s_l01Rune_18_0
  rw [decide_eq_true hn, wrap_in (n := k + i) (by omega) (by omega), decide_eq_true (show 0 ≤ k + i by omega), decide_eq_true hl, wrap_in (n := d.getD (k + i).toNat 0) (by omega) (by omega), wrap_in (n := 64 * r) (by omega) (by omega), wrap_in (n := 64 * r + d.getD (k + i).toNat 0) (by omega) (by omega), wrap_in (n := 64 * r + d.getD (k + i).toNat 0 - 128) (by omega) (by omega), wrap_in (n := i + 1) (by omega) (by omega)]
  rfl
theorem rune_end {m : Nat} {d : List Int} {k n r i : Int} {k0 : List Int → Int → Int → Int → Option Ret} (hn : ¬ i < n) : Q_s_l01Rune_18_0 (m + 1) d k n r i k0 = k0 d k n r := by
  show P_s_l01Rune_18_0 d k n r i _ k0 = _
  unfold P_s_l01Rune_18_0
  rw [decide_eq_false hn]; rfl
theorem rune_fin {K : Ret → Option Ret} {c : Prop} [Decidable c] {r n v s : Int} (h : (if c then (r, n) else (-1, 0)) = (v, s)) :
    (bif !(decide c) then K ((.t [(.s (.int .i64 (-(1 : Int)))), (.s (.int .i64 (0 : Int)))]), []) else K ((.t [(.s (.int .i64 r)), (.s (.int .i64 n))]), [])) = K (.t [sc v, sc s], []) := by
  by_cases hc : c
  · rw [if_pos hc] at h
    obtain ⟨rfl, rfl⟩ := Prod.mk.inj h
    rw [decide_eq_true hc]; rfl
  · rw [if_neg hc] at h
    obtain ⟨h1, h2⟩ := Prod.mk.inj h
    rw [decide_eq_false hc, ← h1, ← h2]; rfl
theorem rune_part (d : List Int) (k n : Nat) : List.drop k (List.take (k + n) d) = (d.drop k).take n := by
  rw [List.drop_take]; congr 1; omega
theorem rune_k {K : Ret → Option Ret} {d xs : List Int} {k r n v s : Int} (hd : fitB d = true) (h0 : 0 ≤ k) (hn0 : 0 ≤ n) (hn : n ≤ 4) (hl : k + n ≤ ((d.length : Nat) : Int)) (hx : (d.drop k.toNat).take n.toNat = xs) (h : (if encD r = xs then (r, n) else (-1, 0)) = (v, s)) :
    (bif (((decide ((0 : Int) ≤ k)) && (decide (k ≤ (IntKind.wrap .i64 (k + n))))) && (decide ((IntKind.wrap .i64 (k + n)) ≤ (((List.length d) : Nat) : Int)))) then
       (meet
        (meet
         (bif (!((ByteArray.toList (bstr (encD r))) == (ByteArray.toList (bstr (List.drop (Int.toNat k) (List.take (Int.toNat (IntKind.wrap .i64 (k + n))) d)))))) then
          K ((.t [(.s (.int .i64 (-(1 : Int)))), (.s (.int .i64 (0 : Int)))]), [])
          else K ((.t [(.s (.int .i64 r)), (.s (.int .i64 n))]), []))
         (bif (!((ByteArray.toList (bstr (encD r))) == (ByteArray.toList (bstr (List.drop (Int.toNat k) (List.take (Int.toNat (IntKind.wrap .i64 (k + n))) d)))))) then
          K ((.t [(.s (.int .i64 (-(1 : Int)))), (.s (.int .i64 (0 : Int)))]), [])
          else K ((.t [(.s (.int .i64 r)), (.s (.int .i64 n))]), [])))
        (bif (!((ByteArray.toList (bstr (encD r))) == (ByteArray.toList (bstr (List.drop (Int.toNat k) (List.take (Int.toNat (IntKind.wrap .i64 (k + n))) d)))))) then
         K ((.t [(.s (.int .i64 (-(1 : Int)))), (.s (.int .i64 (0 : Int)))]), [])
         else K ((.t [(.s (.int .i64 r)), (.s (.int .i64 n))]), [])))
       else none) = K (.t [sc v, sc s], []) := by
  have hlen := fitB_len hd
  rw [wrap_in (n := k + n) (by omega) (by omega), decide_eq_true h0, decide_eq_true (show k ≤ k + n by omega), decide_eq_true hl]
  rw [meet_self, meet_self]
  have e : List.drop (Int.toNat k) (List.take (Int.toNat (k + n)) d) = xs := by
    rw [← hx, show (k + n).toNat = k.toNat + n.toNat by omega]; exact rune_part d _ _
  rw [e, bstr_eq (encD_byte r) (fun y hy => by
    rw [← hx] at hy
    exact fitB_mem hd (List.mem_of_mem_drop (List.mem_of_mem_take hy)))]
  exact rune_fin h
theorem list1 {xs : List Int} (h : 1 ≤ xs.length) : ∃ a t, xs = a :: t := by
  cases xs with
  | nil => simp at h
  | cons a t => exact ⟨a, t, rfl⟩
def S_s_l01Rune : Sm := S_fnR [.l bytesR, .i] (fun d => fitB d.1) (fun d => (.t [sc (valAt d.1 d.2.1), sc (szAt d.1 d.2.1)], []))
theorem v_s_l01Rune (d : List Int) (k : Int) (h : (fitB d) = true) (K : Ret → Option Ret) : T_s_l01Rune d k K = K (.t [sc (valAt d k), sc (szAt d k)], []) := by
  unfold T_s_l01Rune valAt szAt inD
  have hlen := fitB_len h
  by_cases h1 : k < 0
  · rw [decide_eq_true h1, decide_eq_false (show ¬ 0 ≤ k by omega)]; rfl
  by_cases h2 : k ≥ ((d.length : Nat) : Int)
  · rw [decide_eq_false h1, decide_eq_true h2, decide_eq_true (show 0 ≤ k by omega), decide_eq_false (show ¬ k < ((d.length : Nat) : Int) by omega)]; rfl
  have hbk := fitB_get h k.toNat
  rw [decide_eq_false h1, decide_eq_false h2, decide_eq_true (show 0 ≤ k by omega), decide_eq_true (show k < ((d.length : Nat) : Int) by omega), wrap_in (n := d.getD k.toNat 0) (by omega) (by omega), wrap_in (n := ((d.length : Nat) : Int) - k) (by omega) (by omega)]
  simp only [Bool.and_true, cond_true, cond_false]
  have hg : ∀ i : Nat, (d.drop k.toNat).getD i 0 = d.getD (k + (i : Nat)).toNat 0 := fun i => by
    rw [getD_drop]; congr 1; omega
  have hg0 := hg 0
  rw [show (k + ((0 : Nat) : Int)).toNat = k.toNat by omega] at hg0
  have hdl : (d.drop k.toNat).length = d.length - k.toNat := by simp
  have hbytes := fun i => fitB_get (fitB_drop h k.toNat) i
  by_cases c4 : d.getD k.toNat 0 ≥ 240
  · rw [decide_eq_true c4]
    by_cases s4 : (4 : Int) > ((d.length : Nat) : Int) - k
    · rw [decide_eq_true s4]
      have e := runeSz0 (short4 (xs := d.drop k.toNat) (by rw [hg0]; exact c4) (by omega))
      obtain ⟨e1, e2⟩ := Prod.mk.inj e
      rw [e1, e2]; rfl
    · rw [decide_eq_false s4]
      unfold R_s_l01Rune_18_0
      rw [wrap_in (n := d.getD k.toNat 0 - 240) (by omega) (by omega)]
      obtain ⟨m, hm⟩ : ∃ m, List.length d + k.toNat + (4 : Int).toNat + (d.getD k.toNat 0 - 240).toNat + (1 : Int).toNat + 2 = m + 4 := ⟨List.length d + k.toNat + (4 : Int).toNat + (d.getD k.toNat 0 - 240).toNat + (1 : Int).toNat + 2 - 4, by omega⟩
      have b1 := fitB_get h (k + 1).toNat
      have b2 := fitB_get h (k + (1 + 1)).toNat
      rw [hm, rune_step h (by omega) (by omega) (by omega) (by omega) (by omega), rune_step h (by omega) (by omega) (by omega) (by omega) (by omega), rune_step h (by omega) (by omega) (by omega) (by omega) (by omega), rune_end (by omega)]
      refine rune_k h (by omega) (by omega) (by omega) (by omega) (xs := [(d.drop k.toNat).getD 0 0, (d.drop k.toNat).getD 1 0, (d.drop k.toNat).getD 2 0, (d.drop k.toNat).getD 3 0]) ?_ ?_
      · obtain ⟨a, t, e⟩ := list1 (xs := d.drop k.toNat) (by omega)
        obtain ⟨b, t2, e2⟩ := list1 (xs := t) (by rw [e] at hdl; simp at hdl; omega)
        obtain ⟨c, t3, e3⟩ := list1 (xs := t2) (by rw [e, e2] at hdl; simp at hdl; omega)
        obtain ⟨f, t4, e4⟩ := list1 (xs := t3) (by rw [e, e2, e3] at hdl; simp at hdl; omega)
        rw [e, e2, e3, e4]; rfl
      · obtain ⟨a, t, e⟩ := list1 (xs := d.drop k.toNat) (by omega)
        obtain ⟨b, t2, e2⟩ := list1 (xs := t) (by rw [e] at hdl; simp at hdl; omega)
        obtain ⟨c, t3, e3⟩ := list1 (xs := t2) (by rw [e, e2] at hdl; simp at hdl; omega)
        obtain ⟨f, t4, e4⟩ := list1 (xs := t3) (by rw [e, e2, e3] at hdl; simp at hdl; omega)
        have g1 := hg 1
        have g2 := hg 2
        have g3 := hg 3
        have q0 := hbytes 0
        have q1 := hbytes 1
        have q2 := hbytes 2
        have q3 := hbytes 3
        rw [e, e2, e3, e4] at hg0 g1 g2 g3 q0 q1 q2 q3 ⊢
        rw [show (k + 1).toNat = (k + ((1 : Nat) : Int)).toNat from rfl, show (k + (1 + 1)).toNat = (k + ((2 : Nat) : Int)).toNat by congr 1, show (k + (1 + 1 + 1)).toNat = (k + ((3 : Nat) : Int)).toNat by congr 1, ← g1, ← g2, ← g3, ← hg0]
        exact dec4 (by rw [← hg0] at c4; exact c4) q0.2 q1 q2 q3
  rw [decide_eq_false c4]
  by_cases c3 : d.getD k.toNat 0 ≥ 224
  · rw [decide_eq_true c3]
    by_cases s3 : (3 : Int) > ((d.length : Nat) : Int) - k
    · rw [decide_eq_true s3]
      have e := runeSz0 (short3 (xs := d.drop k.toNat) (by rw [hg0]; exact c3) (by rw [hg0]; omega) (by omega))
      obtain ⟨e1, e2⟩ := Prod.mk.inj e
      rw [e1, e2]; rfl
    · rw [decide_eq_false s3]
      unfold R_s_l01Rune_18_0
      rw [wrap_in (n := d.getD k.toNat 0 - 224) (by omega) (by omega)]
      obtain ⟨m, hm⟩ : ∃ m, List.length d + k.toNat + (3 : Int).toNat + (d.getD k.toNat 0 - 224).toNat + (1 : Int).toNat + 2 = m + 3 := ⟨List.length d + k.toNat + (3 : Int).toNat + (d.getD k.toNat 0 - 224).toNat + (1 : Int).toNat + 2 - 3, by omega⟩
      have b1 := fitB_get h (k + 1).toNat
      rw [hm]
      simp only [cond_false, cond_true]
      rw [rune_step h (by omega) (by omega) (by omega) (by omega) (by omega), rune_step h (by omega) (by omega) (by omega) (by omega) (by omega), rune_end (by omega)]
      refine rune_k h (by omega) (by omega) (by omega) (by omega) (xs := [(d.drop k.toNat).getD 0 0, (d.drop k.toNat).getD 1 0, (d.drop k.toNat).getD 2 0]) ?_ ?_
      · obtain ⟨a, t, e⟩ := list1 (xs := d.drop k.toNat) (by omega)
        obtain ⟨b, t2, e2⟩ := list1 (xs := t) (by rw [e] at hdl; simp at hdl; omega)
        obtain ⟨c, t3, e3⟩ := list1 (xs := t2) (by rw [e, e2] at hdl; simp at hdl; omega)
        rw [e, e2, e3]; rfl
      · obtain ⟨a, t, e⟩ := list1 (xs := d.drop k.toNat) (by omega)
        obtain ⟨b, t2, e2⟩ := list1 (xs := t) (by rw [e] at hdl; simp at hdl; omega)
        obtain ⟨c, t3, e3⟩ := list1 (xs := t2) (by rw [e, e2] at hdl; simp at hdl; omega)
        have g1 := hg 1
        have g2 := hg 2
        have q0 := hbytes 0
        have q1 := hbytes 1
        have q2 := hbytes 2
        rw [e, e2, e3] at hg0 g1 g2 q0 q1 q2 ⊢
        rw [show (k + 1).toNat = (k + ((1 : Nat) : Int)).toNat from rfl, show (k + (1 + 1)).toNat = (k + ((2 : Nat) : Int)).toNat by congr 1, ← g1, ← g2, ← hg0]
        exact dec3 (by rw [← hg0] at c3; exact c3) (by rw [← hg0] at c4; exact Int.not_le.1 c4) q1 q2
  rw [decide_eq_false c3]
  by_cases c2 : d.getD k.toNat 0 ≥ 192
  · rw [decide_eq_true c2]
    by_cases s2 : (2 : Int) > ((d.length : Nat) : Int) - k
    · rw [decide_eq_true s2]
      have e := runeSz0 (short2 (xs := d.drop k.toNat) (by rw [hg0]; exact c2) (by rw [hg0]; omega) (by omega))
      obtain ⟨e1, e2⟩ := Prod.mk.inj e
      rw [e1, e2]; rfl
    · rw [decide_eq_false s2]
      unfold R_s_l01Rune_18_0
      rw [wrap_in (n := d.getD k.toNat 0 - 192) (by omega) (by omega)]
      obtain ⟨m, hm⟩ : ∃ m, List.length d + k.toNat + (2 : Int).toNat + (d.getD k.toNat 0 - 192).toNat + (1 : Int).toNat + 2 = m + 2 := ⟨List.length d + k.toNat + (2 : Int).toNat + (d.getD k.toNat 0 - 192).toNat + (1 : Int).toNat + 2 - 2, by omega⟩
      rw [hm]
      simp only [cond_false, cond_true]
      rw [rune_step h (by omega) (by omega) (by omega) (by omega) (by omega), rune_end (by omega)]
      refine rune_k h (by omega) (by omega) (by omega) (by omega) (xs := [(d.drop k.toNat).getD 0 0, (d.drop k.toNat).getD 1 0]) ?_ ?_
      · obtain ⟨a, t, e⟩ := list1 (xs := d.drop k.toNat) (by omega)
        obtain ⟨b, t2, e2⟩ := list1 (xs := t) (by rw [e] at hdl; simp at hdl; omega)
        rw [e, e2]; rfl
      · obtain ⟨a, t, e⟩ := list1 (xs := d.drop k.toNat) (by omega)
        obtain ⟨b, t2, e2⟩ := list1 (xs := t) (by rw [e] at hdl; simp at hdl; omega)
        have g1 := hg 1
        have q0 := hbytes 0
        have q1 := hbytes 1
        rw [e, e2] at hg0 g1 q0 q1 ⊢
        rw [show (k + 1).toNat = (k + ((1 : Nat) : Int)).toNat from rfl, ← g1, ← hg0]
        exact dec2 (by rw [← hg0] at c2; exact c2) (by rw [← hg0] at c3; exact Int.not_le.1 c3) q1
  rw [decide_eq_false c2, decide_eq_false (show ¬ (1 : Int) > ((d.length : Nat) : Int) - k by omega)]
  unfold R_s_l01Rune_18_0
  obtain ⟨m, hm⟩ : ∃ m, List.length d + k.toNat + (1 : Int).toNat + (d.getD k.toNat 0).toNat + (1 : Int).toNat + 2 = m + 1 := ⟨List.length d + k.toNat + (1 : Int).toNat + (d.getD k.toNat 0).toNat + (1 : Int).toNat + 2 - 1, by omega⟩
  rw [hm]
  simp only [cond_false, cond_true]
  rw [rune_end (by omega)]
  refine rune_k h (by omega) (by omega) (by omega) (by omega) (xs := [(d.drop k.toNat).getD 0 0]) ?_ ?_
  · obtain ⟨a, t, e⟩ := list1 (xs := d.drop k.toNat) (by omega)
    rw [e]; rfl
  · obtain ⟨a, t, e⟩ := list1 (xs := d.drop k.toNat) (by omega)
    have q0 := hbytes 0
    rw [e] at hg0 q0 ⊢
    rw [← hg0]
    exact dec1 q0.1 (by rw [← hg0] at c2; exact Int.not_le.1 c2)
theorem okS_s_l01Rune : OkFn prog I N.s_l01Rune true S_s_l01Rune := okN (ok_fn (memc okS_s_RuneBytes mem0) (l := ls_s_l01Rune) (p := pl_s_l01Rune) (ls := [(18, [0,1,7,8,9], [0,1,4,5,7,8], W_s_l01Rune_18)]) (lend := []) (focus := false) (fuel := 0) (give := []) (fn := F.s_l01Rune) (by kernel_rfl) (by kernel_rfl) (by kernel_rfl) (by kernel_rfl) (cs := [bodyOf F.s_l01Rune 18]) (by kernel_rfl) (loopsc loopK_s_l01Rune_18 loops0)) (S_fnR_of fun d K h => (e_s_l01Rune d.1 d.2.1 K).trans (v_s_l01Rune d.1 d.2.1 h K))
end Go.Ev.Seat
end
section
/- s_RuneSize: its contract. -/
namespace Go.Ev.Seat
open Go.RowKit
set_option maxRecDepth 100000
set_option linter.unusedVariables false
set_option linter.unusedSimpArgs false
noncomputable abbrev ls_s_RuneSize : List (Nat × Bool × Sm) := [(N.s_l01Rune, true, S_s_l01Rune)]
noncomputable abbrev E_s_RuneSize : Env := En ls_s_RuneSize [] [] [] false 0 []
noncomputable def T_s_RuneSize (d : List Int) (k : Int) (K : Ret → Option Ret) : Option Ret := (bif (fitB d) then K ((.s (.int .i64 (szAt d k))), []) else none)
theorem e_s_RuneSize (d : List Int) (k : Int) (K : Ret → Option Ret) : evF E_s_RuneSize true F.s_RuneSize [.l .no bytesR d, .s (.int .i64 k)] K = T_s_RuneSize d k K := by kernel_rfl
def S_s_RuneSize : Sm := S_fnR [.l bytesR, .i] (fun d => fitB d.1) (fun d => (sc (szAt d.1 d.2.1), []))
theorem v_s_RuneSize (d : List Int) (k : Int) (h : (fitB d) = true) (K : Ret → Option Ret) : T_s_RuneSize d k K = K (sc (szAt d k), []) := by
  unfold T_s_RuneSize; rw [h]; rfl
theorem okS_s_RuneSize : OkFn prog I N.s_RuneSize true S_s_RuneSize := okN (ok_fn (memc okS_s_l01Rune mem0) (l := ls_s_RuneSize) (p := []) (ls := []) (lend := []) (focus := false) (fuel := 0) (give := []) (fn := F.s_RuneSize) (by kernel_rfl) (by kernel_rfl) (by kernel_rfl) (by kernel_rfl) (cs := []) (by kernel_rfl) loops0) (S_fnR_of fun d K h => (e_s_RuneSize d.1 d.2.1 K).trans (v_s_RuneSize d.1 d.2.1 h K))
end Go.Ev.Seat
end
section
/- s_l01Cuts: its contract. -/
namespace Go.Ev.Seat
open Go.RowKit
set_option maxRecDepth 100000
set_option linter.unusedVariables false
set_option linter.unusedSimpArgs false
def z_s_l01Cuts_5_0 (x4 : Int) (o0 : List Int) : St := { tm := ([.x, .x, .nl, (.w 0), (.s (.int .i64 x4))] ++ List.replicate 25 .x), ob := [(0, (.arr true true intR o0))], nx := 1, io := [] }
def z_s_l01Cuts_5_1 (x4 : Int) (o0 : List Int) : St := { tm := ([.x, .x, .x, (.w 0), (.s (.int .i64 x4))] ++ List.replicate 25 .x), ob := [(0, (.arr true true intR o0))], nx := 1, io := [] }
def sh_s_l01Cuts_5_0 : Ss := { tm := (.cons (.l .no bytesR) (.cons (.x) (.cons (.x) (.cons (.w 0) (.cons (.int .i64) (xsh 25)))))), ob := (.arr true true intR .nil), nx := 1, io := .nil }
def d_s_l01Cuts_5_0 (x0 : List Int) (x4 : Int) (o0 : List Int) : sh_s_l01Cuts_5_0.T := ((x0, ((), ((), ((), (x4, xd 25))))), (o0, ()), ())
def s_s_l01Cuts_5_0 (x0 : List Int) (x4 : Int) (o0 : List Int) : St := { tm := ([(.l .no bytesR x0), .x, .x, (.w 0), (.s (.int .i64 x4))] ++ List.replicate 25 .x), ob := [(0, (.arr true true intR o0))], nx := 1, io := [] }
theorem se_s_l01Cuts_5_0 (x0 : List Int) (x4 : Int) (o0 : List Int) : sh_s_l01Cuts_5_0.mk' (d_s_l01Cuts_5_0 x0 x4 o0) = (s_s_l01Cuts_5_0 x0 x4 o0) := by kernel_rfl
def w_s_l01Cuts_5_0 (d : sh_s_l01Cuts_5_0.T) (f : (List Int) → Int → (List Int) → Option Ret) : Option Ret := match d with | ((x0, (_, (_, (_, (x4, _))))), (o0, _), _) => f x0 x4 o0
noncomputable def P_s_l01Cuts_5_0 (x0 : List Int) (x4 : Int) (o0 : List Int) (nx0 : (List Int) → Int → (List Int) → Option Ret) (k0 : Int → (List Int) → Option Ret) (k1 : Int → (List Int) → Option Ret) : Option Ret := (bif (decide (x4 < (((List.length x0) : Nat) : Int))) then (bif (fitB x0) then (bif ((szAt x0 x4) == (0 : Int)) then (k0 x4 o0) else (bif (Nat.ble (((List.length o0) + (List.length (x4 :: ([] : List Int)))) * 8) 140737488355328) then (nx0 x0 (IntKind.wrap .i64 (x4 + (szAt x0 x4))) (o0 ++ (x4 :: ([] : List Int)))) else none)) else none) else (k1 x4 o0))
noncomputable def Q_s_l01Cuts_5_0 : Nat → (List Int) → Int → (List Int) → (Int → (List Int) → Option Ret) → (Int → (List Int) → Option Ret) → Option Ret
  | 0, _, _, _, _, _ => none
  | m + 1, x0, x4, o0, k0, k1 => P_s_l01Cuts_5_0 x0 x4 o0 (fun x0 x4 o0 => (Q_s_l01Cuts_5_0 m x0 x4 o0 k0 k1)) k0 k1
noncomputable def R_s_l01Cuts_5_0 (x0 : List Int) (x4 : Int) (o0 : List Int) (k0 : Int → (List Int) → Option Ret) (k1 : Int → (List Int) → Option Ret) : Option Ret := Q_s_l01Cuts_5_0 (List.length x0 + x4.toNat + List.length o0 + 2) x0 x4 o0 k0 k1
noncomputable def W_s_l01Cuts_5 : LoopFn := (fun (σ : St) (K : Ex → St → Option Ret) => (match sh_s_l01Cuts_5_0.un σ with | some d => w_s_l01Cuts_5_0 d (fun x0 x4 o0 => R_s_l01Cuts_5_0 x0 x4 o0 (fun x4 o0 => (K .ret (z_s_l01Cuts_5_0 x4 o0))) (fun x4 o0 => (K (.ext 0) (z_s_l01Cuts_5_1 x4 o0)))) | none => none))
noncomputable abbrev ls_s_l01Cuts : List (Nat × Bool × Sm) := [(N.s_RuneSize, true, S_s_RuneSize)]
noncomputable abbrev E_s_l01Cuts : Env := En ls_s_l01Cuts [] [(5, [0,3,4], [2,3,4], W_s_l01Cuts_5)] [] false 0 []
noncomputable abbrev U_s_l01Cuts_5 := rounds (run E_s_l01Cuts (bodyOf F.s_l01Cuts 5)) [0,3,4] [2,3,4]
theorem st_s_l01Cuts_5_0 (m : Nat) (x0 : List Int) (x4 : Int) (o0 : List Int) (K : Ex → St → Option Ret) : U_s_l01Cuts_5 (m + 1) (s_s_l01Cuts_5_0 x0 x4 o0) K = P_s_l01Cuts_5_0 x0 x4 o0 (fun x0 x4 o0 => (U_s_l01Cuts_5 m (s_s_l01Cuts_5_0 x0 x4 o0) K)) (fun x4 o0 => (K .ret (z_s_l01Cuts_5_0 x4 o0))) (fun x4 o0 => (K (.ext 0) (z_s_l01Cuts_5_1 x4 o0))) := by kernel_rfl
theorem q_s_l01Cuts_5 (K : Ex → St → Option Ret) : ∀ m : Nat, (∀ (x0 : List Int) (x4 : Int) (o0 : List Int), U_s_l01Cuts_5 m (s_s_l01Cuts_5_0 x0 x4 o0) K = Q_s_l01Cuts_5_0 m x0 x4 o0 (fun x4 o0 => (K .ret (z_s_l01Cuts_5_0 x4 o0))) (fun x4 o0 => (K (.ext 0) (z_s_l01Cuts_5_1 x4 o0))))
  | 0 => (fun _ _ _ => rfl)
  | m + 1 => (fun x0 x4 o0 => (by rw [st_s_l01Cuts_5_0, show (fun x0 x4 o0 => (U_s_l01Cuts_5 m (s_s_l01Cuts_5_0 x0 x4 o0) K)) = (fun x0 x4 o0 => (Q_s_l01Cuts_5_0 m x0 x4 o0 (fun x4 o0 => (K .ret (z_s_l01Cuts_5_0 x4 o0))) (fun x4 o0 => (K (.ext 0) (z_s_l01Cuts_5_1 x4 o0))))) from funext fun x0 => funext fun x4 => funext fun o0 => (q_s_l01Cuts_5 K m) x0 x4 o0]; rfl))
theorem loopK_s_l01Cuts_5 : LoopOk E_s_l01Cuts (bodyOf F.s_l01Cuts 5) := by
  refine loopW_ok (n := 5) (F := W_s_l01Cuts_5) (by kernel_rfl) rfl (li := [0,3,4]) (lo := [2,3,4]) rfl (fun σ K r hr => ?_)
  unfold W_s_l01Cuts_5 at hr
  split at hr
  · rename_i d hd
    rw [Ss.un_mk hd]
    exact ⟨_, ((congrArg (fun z => U_s_l01Cuts_5 _ z K) (se_s_l01Cuts_5_0 _ _ _)).trans ((q_s_l01Cuts_5 K _) _ _ _)).trans hr⟩
  · cases hr
noncomputable def T_s_l01Cuts (d : List Int) (K : Ret → Option Ret) : Option Ret := (bif (decide ((((List.length d) : Nat) : Int) > (400 : Int))) then K ((.l .deep intR ([] : List Int)), []) else (R_s_l01Cuts_5_0 d (0 : Int) ([] : List Int) (fun y0 y1 => K ((.l .deep intR ([] : List Int)), [])) (fun y2 y3 => (bif (Nat.ble (((List.length y3) + (List.length (y2 :: ([] : List Int)))) * 8) 140737488355328) then K ((.l .deep intR (y3 ++ (y2 :: ([] : List Int)))), []) else none))))
theorem e_s_l01Cuts (d : List Int) (K : Ret → Option Ret) : evF E_s_l01Cuts true F.s_l01Cuts [.l .no bytesR d] K = T_s_l01Cuts d K := by kernel_rfl
theorem cuts_loop {d : List Int} (hd : fitB d = true) (F : Option Ret) (k1 : Int → List Int → Option Ret) : ∀ (m n : Nat) (o : List Int), n ≤ d.length → d.length - n < m → o.length ≤ n →
    Q_s_l01Cuts_5_0 m d (n : Int) o (fun _ _ => F) k1 = bif valid (d.drop n) then k1 ((d.length : Nat) : Int) (o ++ starts (d.drop n) (n : Int)) else F
  | 0, n, o, _, h, _ => absurd h (by omega)
  | m + 1, n, o, hn, hm, ho => by
    have hlen := fitB_len hd
    show P_s_l01Cuts_5_0 d (n : Int) o _ _ k1 = _
    unfold P_s_l01Cuts_5_0
    by_cases hl : n < d.length
    · rw [decide_eq_true (show (n : Int) < ((d.length : Nat) : Int) by omega), hd, szAt_in (by omega) (by omega), Int.toNat_natCast]
      simp only [cond_true]
      have hle := runeSz_le (d.drop n)
      rw [List.length_drop] at hle
      by_cases h0 : runeSz (d.drop n) = 0
      · rw [h0, valid_stop h0 (by simp; omega)]; rfl
      · rw [beq_eq_false_iff_ne.2 (show ¬ ((runeSz (d.drop n) : Nat) : Int) = 0 by omega), Nat.ble_eq_true_of_le (show (o.length + [(n : Int)].length) * 8 ≤ 140737488355328 by simp; omega), wrap_in (n := (n : Int) + (runeSz (d.drop n) : Nat)) (by omega) (by omega)]
        have e : (n : Int) + ((runeSz (d.drop n) : Nat) : Int) = ((n + runeSz (d.drop n) : Nat) : Int) := by omega
        simp only [cond_false, cond_true]
        rw [e]
        refine (cuts_loop hd F k1 m (n + runeSz (d.drop n)) (o ++ [(n : Int)]) (by omega) (by omega) (by simp; omega)).trans ?_
        rw [valid_step h0, starts_step h0, List.drop_drop, List.append_assoc, List.singleton_append, e]
    · have : n = d.length := by omega
      subst this
      rw [decide_eq_false (show ¬ ((d.length : Nat) : Int) < ((d.length : Nat) : Int) by omega), List.drop_length, valid_nil, starts_stop (by rfl), List.append_nil]; rfl
def S_s_l01Cuts : Sm := S_fnR [.l bytesR] (fun d => fitB d.1) (fun d => (.l .deep intR (cutsD d.1), []))
theorem v_s_l01Cuts (d : List Int) (h : (fitB d) = true) (K : Ret → Option Ret) : T_s_l01Cuts d K = K (.l .deep intR (cutsD d), []) := by
  unfold T_s_l01Cuts cutsD
  by_cases h4 : ((d.length : Nat) : Int) > 400
  · rw [decide_eq_true h4, show textOk d = false from Bool.eq_false_iff.2 (fun he => by have := (textOk_iff.1 he).1; omega)]; rfl
  · rw [decide_eq_false h4]
    unfold R_s_l01Cuts_5_0
    have := cuts_loop h (K (.l .deep intR [], [])) (fun y2 y3 => (bif (Nat.ble (((List.length y3) + (List.length (y2 :: []))) * 8) 140737488355328) then K ((.l .deep intR (y3 ++ (y2 :: []))), []) else none)) (List.length d + (0 : Int).toNat + List.length ([] : List Int) + 2) 0 [] (by omega) (by omega) (by simp)
    refine Eq.trans this ?_
    rw [List.drop_zero]
    cases hv : valid d with
    | false => rw [show textOk d = false from Bool.eq_false_iff.2 (fun he => by have := (textOk_iff.1 he).2; rw [hv] at this; cases this)]; rfl
    | true =>
      rw [textOk_iff.2 ⟨by omega, hv⟩]
      have hs := starts_len _ d 0 (Nat.le_refl _)
      simp only [cond_true, List.nil_append]
      rw [Nat.ble_eq_true_of_le (by simp; omega), bounds_starts _ d 0 (Nat.le_refl _) hv, Int.zero_add]
      rfl
theorem okS_s_l01Cuts : OkFn prog I N.s_l01Cuts true S_s_l01Cuts := okN (ok_fn (memc okS_s_RuneSize mem0) (l := ls_s_l01Cuts) (p := []) (ls := [(5, [0,3,4], [2,3,4], W_s_l01Cuts_5)]) (lend := []) (focus := false) (fuel := 0) (give := []) (fn := F.s_l01Cuts) (by kernel_rfl) (by kernel_rfl) (by kernel_rfl) (by kernel_rfl) (cs := [bodyOf F.s_l01Cuts 5]) (by kernel_rfl) (loopsc loopK_s_l01Cuts_5 loops0)) (S_fnR_of fun d K h => (e_s_l01Cuts d.1 K).trans (v_s_l01Cuts d.1 h K))
end Go.Ev.Seat
end
section
/- s_TextOk: its contract. -/
namespace Go.Ev.Seat
open Go.RowKit
set_option maxRecDepth 100000
set_option linter.unusedVariables false
set_option linter.unusedSimpArgs false
noncomputable abbrev ls_s_TextOk : List (Nat × Bool × Sm) := [(N.s_l01Cuts, true, S_s_l01Cuts)]
noncomputable abbrev E_s_TextOk : Env := En ls_s_TextOk [] [] [] false 0 []
noncomputable def T_s_TextOk (d : List Int) (K : Ret → Option Ret) : Option Ret := (bif (fitB d) then K ((.s (.bool (decide ((((List.length (cutsD d)) : Nat) : Int) > (0 : Int))))), []) else none)
theorem e_s_TextOk (d : List Int) (K : Ret → Option Ret) : evF E_s_TextOk true F.s_TextOk [.l .no bytesR d] K = T_s_TextOk d K := by kernel_rfl
def S_s_TextOk : Sm := S_fnR [.l bytesR] (fun d => fitB d.1) (fun d => (bl (textOk d.1), []))
theorem v_s_TextOk (d : List Int) (h : (fitB d) = true) (K : Ret → Option Ret) : T_s_TextOk d K = K (bl (textOk d), []) := by
  unfold T_s_TextOk
  rw [h]
  have e : decide ((((List.length (cutsD d)) : Nat) : Int) > (0 : Int)) = textOk d := by
    unfold cutsD
    cases textOk d with
    | false => rfl
    | true => exact decide_eq_true (show (((bounds d 0).length : Nat) : Int) > 0 by have := bounds_ne d 0; omega)
  rw [e]; rfl
theorem okS_s_TextOk : OkFn prog I N.s_TextOk true S_s_TextOk := okN (ok_fn (memc okS_s_l01Cuts mem0) (l := ls_s_TextOk) (p := []) (ls := []) (lend := []) (focus := false) (fuel := 0) (give := []) (fn := F.s_TextOk) (by kernel_rfl) (by kernel_rfl) (by kernel_rfl) (by kernel_rfl) (cs := []) (by kernel_rfl) loops0) (S_fnR_of fun d K h => (e_s_TextOk d.1 K).trans (v_s_TextOk d.1 h K))
end Go.Ev.Seat
end
section
/- utf8_RuneCountInString: its contract. -/
namespace Go.Ev
open Go.RowKit Go.Shelf Go.Proofs
def G_rcs : Sm := fun vs K => match vs with
  | [.s (.string b)] => bif Nat.ble b.size 1099511627776 then K (.s (.int .i64 ((Lib.runeCount b : Nat) : Int)), []) else none
  | _ => none
variable {P : Program} {I : Nat → World → Prop}
theorem rcs_ok {ρ : Ren} (L : Lays7.n48 P ρ) (hent : ∀ (args : Array Value) (w : World), (callFunc (ρ.f 48) args).run P w = .ok (.enter (ρ.f 48) args) w) : OkFn P I (ρ.f 48) true G_rcs := by
  refine ⟨hent, fun ws K q hq B0 w0 w N vs O M H hI hbel hB hargs hnd hO hM hH hN => ?_⟩
  unfold G_rcs at hq
  split at hq
  · rename_i b
    cases hc : Nat.ble b.size 1099511627776 with
    | false => rw [hc] at hq; cases hq
    | true =>
      rw [hc] at hq
      have hq' : K (.s (.int .i64 ((Lib.runeCount b : Nat) : Int)), []) = some q := hq
      obtain ⟨v1, vs1, O1, O2, M1, M2, H1, H2, rfl, rfl, rfl, rfl, a1, b1⟩ := hargs
      obtain ⟨rfl, rfl, rfl, rfl⟩ := b1
      have e1 : v1 = .string b := a1.1.1
      subst e1
      refine Calls.mono (Any7.utf8_RuneCountInString L b w (by have := Nat.le_of_ble_eq_true hc; omega)) ?_
      rintro e w' ⟨rfl, pos, rfl⟩
      have hsz : (w.iter b pos).heap.size = w.heap.size + 1 := alloc_size w _
      refine ⟨_, hq', ⟨⟨[], [], [], [], [], [], ⟨⟨rfl, rfl⟩, rfl, rfl⟩, ⟨rfl, rfl, rfl, rfl⟩, List.nodup_nil, by simp, by simp, by simp⟩, hbel.alloc hB _, by rw [hsz]; omega, fun x hx _ => alloc_old w _ x hx⟩⟩
  · cases hq
end Go.Ev
namespace Go.Proofs
open Go.Shelf
def Tryd.rcs_ren : Go.Shelf.Ren := ⟨fun | 48 => 117 | n => n, fun | 9 => 9 | 3 => 3 | 0 => 0 | 4 => 4 | n => n, fun | n => n⟩
theorem Tryd.rcs : Go.Proofs.Lays7.n48 Tryd.prog Tryd.rcs_ren := {
  mixed := by kernel_rfl
  f48 := Tryd.func117.trans (congrArg some (by kernel_rfl))
  t0 := Tryd.underlying0
  a0 := Tryd.isAgg0
  z0 := Tryd.sizeOf0
  v0 := Tryd.zeroValue0
  i0 := by kernel_rfl
  t3 := Tryd.underlying3
  a3 := Tryd.isAgg3
  z3 := Tryd.sizeOf3
  v3 := Tryd.zeroValue3
  i3 := by kernel_rfl
  t4 := Tryd.underlying4
  a4 := Tryd.isAgg4
  z4 := Tryd.sizeOf4
  v4 := Tryd.zeroValue4
  i4 := by kernel_rfl
  t9 := Tryd.underlying9
  a9 := Tryd.isAgg9
  z9 := Tryd.sizeOf9
  v9 := Tryd.zeroValue9
  i9 := by kernel_rfl }
end Go.Proofs
namespace Go.Ev.Seat
open Go.RowKit
set_option maxRecDepth 100000
def S_utf8_RuneCountInString : Sm := S_fnR [.sc1 .str] (fun d => Nat.ble d.1.size 1099511627776) (fun d => (.s (.int .i64 ((Lib.runeCount d.1 : Nat) : Int)), []))
theorem okS_utf8_RuneCountInString : OkFn prog I N.utf8_RuneCountInString true S_utf8_RuneCountInString := okN (rcs_ok Go.Proofs.Tryd.rcs (ok_fn (l := []) (p := []) (ls := []) (lend := []) (focus := false) (fuel := 0) (give := []) (nils := []) (fresh := true) mem0 (g := N.utf8_RuneCountInString) (fn := F.utf8_RuneCountInString) (by kernel_rfl) (by kernel_rfl) (by kernel_rfl) (by kernel_rfl) (cs := [bodyOf F.utf8_RuneCountInString 2]) (by kernel_rfl) (loopsc (fun n F' _ hF => nomatch hF) loops0)).1) (S_fnR_of fun d K h => by
  show (bif Nat.ble d.1.size 1099511627776 then K (.s (.int .i64 ((Lib.runeCount d.1 : Nat) : Int)), []) else none) = _
  rw [h]; rfl)
end Go.Ev.Seat
end
section
/- utf8_RuneCount: its contract. -/
namespace Go.Ev.Seat
open Go.RowKit
set_option maxRecDepth 100000
set_option linter.unusedVariables false
set_option linter.unusedSimpArgs false
def z_utf8_RuneCount_3_0 (x2 : Int) (x4 : Int) : St := { tm := ([.x, .x, (.s (.int .i64 x2)), .x, (.s (.int .i64 x4))] ++ List.replicate 22 .x), ob := [], nx := 0, io := [] }
def z_utf8_RuneCount_3_1 (x4 : Int) : St := { tm := ([.x, .x, .x, .x, (.s (.int .i64 x4))] ++ List.replicate 22 .x), ob := [], nx := 0, io := [] }
def sh_utf8_RuneCount_3_0 : Ss := { tm := (.cons (.l .no bytesR) (.cons (.x) (.cons (.x) (.cons (.int .i64) (.cons (.int .i64) (xsh 22)))))), ob := .nil, nx := 0, io := .nil }
def d_utf8_RuneCount_3_0 (x0 : List Int) (x3 : Int) (x4 : Int) : sh_utf8_RuneCount_3_0.T := ((x0, ((), ((), (x3, (x4, xd 22))))), (), ())
def s_utf8_RuneCount_3_0 (x0 : List Int) (x3 : Int) (x4 : Int) : St := { tm := ([(.l .no bytesR x0), .x, .x, (.s (.int .i64 x3)), (.s (.int .i64 x4))] ++ List.replicate 22 .x), ob := [], nx := 0, io := [] }
theorem se_utf8_RuneCount_3_0 (x0 : List Int) (x3 : Int) (x4 : Int) : sh_utf8_RuneCount_3_0.mk' (d_utf8_RuneCount_3_0 x0 x3 x4) = (s_utf8_RuneCount_3_0 x0 x3 x4) := by kernel_rfl
def w_utf8_RuneCount_3_0 (d : sh_utf8_RuneCount_3_0.T) (f : (List Int) → Int → Int → Option Ret) : Option Ret := match d with | ((x0, (_, (_, (x3, (x4, _))))), _, _) => f x0 x3 x4
noncomputable def P_utf8_RuneCount_3_0 (x0 : List Int) (x3 : Int) (x4 : Int) (nx0 : (List Int) → Int → Int → Option Ret) (k0 : Int → Int → Option Ret) (k1 : Int → Option Ret) : Option Ret := (bif (decide (x4 < x3)) then (bif ((decide ((0 : Int) ≤ x4)) && (decide (x4 < (((List.length x0) : Nat) : Int)))) then (bif (decide ((List.getD x0 (Int.toNat x4) (0 : Int)) ≥ (128 : Int))) then (bif ((decide ((0 : Int) ≤ x4)) && (decide (x4 ≤ (((List.length x0) : Nat) : Int)))) then (bif (Nat.ble (ByteArray.size (bstr (List.drop (Int.toNat x4) x0))) 1099511627776) then (k0 (IntKind.wrap .i64 (x4 + (((Go.Lib.runeCount (bstr (List.drop (Int.toNat x4) x0))) : Nat) : Int))) x4) else none) else none) else (nx0 x0 x3 (IntKind.wrap .i64 (x4 + (1 : Int))))) else none) else (k1 x4))
noncomputable def Q_utf8_RuneCount_3_0 : Nat → (List Int) → Int → Int → (Int → Int → Option Ret) → (Int → Option Ret) → Option Ret
  | 0, _, _, _, _, _ => none
  | m + 1, x0, x3, x4, k0, k1 => P_utf8_RuneCount_3_0 x0 x3 x4 (fun x0 x3 x4 => (Q_utf8_RuneCount_3_0 m x0 x3 x4 k0 k1)) k0 k1
noncomputable def R_utf8_RuneCount_3_0 (x0 : List Int) (x3 : Int) (x4 : Int) (k0 : Int → Int → Option Ret) (k1 : Int → Option Ret) : Option Ret := Q_utf8_RuneCount_3_0 (List.length x0 + x3.toNat + x4.toNat + 2) x0 x3 x4 k0 k1
noncomputable def W_utf8_RuneCount_3 : LoopFn := (fun (σ : St) (K : Ex → St → Option Ret) => (match sh_utf8_RuneCount_3_0.un σ with | some d => w_utf8_RuneCount_3_0 d (fun x0 x3 x4 => R_utf8_RuneCount_3_0 x0 x3 x4 (fun x2 x4 => (K .ret (z_utf8_RuneCount_3_0 x2 x4))) (fun x4 => (K (.ext 0) (z_utf8_RuneCount_3_1 x4)))) | none => none))
noncomputable abbrev ls_utf8_RuneCount : List (Nat × Bool × Sm) := [(N.utf8_RuneCountInString, true, S_utf8_RuneCountInString)]
noncomputable abbrev E_utf8_RuneCount : Env := En ls_utf8_RuneCount [] [(3, [0,3,4], [2,4], W_utf8_RuneCount_3)] [] false 0 []
noncomputable abbrev U_utf8_RuneCount_3 := rounds (run E_utf8_RuneCount (bodyOf F.utf8_RuneCount 3)) [0,3,4] [2,4]
theorem st_utf8_RuneCount_3_0 (m : Nat) (x0 : List Int) (x3 : Int) (x4 : Int) (K : Ex → St → Option Ret) : U_utf8_RuneCount_3 (m + 1) (s_utf8_RuneCount_3_0 x0 x3 x4) K = P_utf8_RuneCount_3_0 x0 x3 x4 (fun x0 x3 x4 => (U_utf8_RuneCount_3 m (s_utf8_RuneCount_3_0 x0 x3 x4) K)) (fun x2 x4 => (K .ret (z_utf8_RuneCount_3_0 x2 x4))) (fun x4 => (K (.ext 0) (z_utf8_RuneCount_3_1 x4))) := by kernel_rfl
theorem q_utf8_RuneCount_3 (K : Ex → St → Option Ret) : ∀ m : Nat, (∀ (x0 : List Int) (x3 : Int) (x4 : Int), U_utf8_RuneCount_3 m (s_utf8_RuneCount_3_0 x0 x3 x4) K = Q_utf8_RuneCount_3_0 m x0 x3 x4 (fun x2 x4 => (K .ret (z_utf8_RuneCount_3_0 x2 x4))) (fun x4 => (K (.ext 0) (z_utf8_RuneCount_3_1 x4))))
  | 0 => (fun _ _ _ => rfl)
  | m + 1 => (fun x0 x3 x4 => (by rw [st_utf8_RuneCount_3_0, show (fun x0 x3 x4 => (U_utf8_RuneCount_3 m (s_utf8_RuneCount_3_0 x0 x3 x4) K)) = (fun x0 x3 x4 => (Q_utf8_RuneCount_3_0 m x0 x3 x4 (fun x2 x4 => (K .ret (z_utf8_RuneCount_3_0 x2 x4))) (fun x4 => (K (.ext 0) (z_utf8_RuneCount_3_1 x4))))) from funext fun x0 => funext fun x3 => funext fun x4 => (q_utf8_RuneCount_3 K m) x0 x3 x4]; rfl))
theorem loopK_utf8_RuneCount_3 : LoopOk E_utf8_RuneCount (bodyOf F.utf8_RuneCount 3) := by
  refine loopW_ok (n := 3) (F := W_utf8_RuneCount_3) (by kernel_rfl) rfl (li := [0,3,4]) (lo := [2,4]) rfl (fun σ K r hr => ?_)
  unfold W_utf8_RuneCount_3 at hr
  split at hr
  · rename_i d hd
    rw [Ss.un_mk hd]
    exact ⟨_, ((congrArg (fun z => U_utf8_RuneCount_3 _ z K) (se_utf8_RuneCount_3_0 _ _ _)).trans ((q_utf8_RuneCount_3 K _) _ _ _)).trans hr⟩
  · cases hr
noncomputable def T_utf8_RuneCount (p : List Int) (K : Ret → Option Ret) : Option Ret := (R_utf8_RuneCount_3_0 p (((List.length p) : Nat) : Int) (0 : Int) (fun y0 y1 => K ((.s (.int .i64 y0)), [])) (fun y2 => K ((.s (.int .i64 y2)), [])))
theorem e_utf8_RuneCount (p : List Int) (K : Ret → Option Ret) : evF E_utf8_RuneCount true F.utf8_RuneCount [.l .no bytesR p] K = T_utf8_RuneCount p K := by kernel_rfl
def S_utf8_RuneCount : Sm := S_fnR [.l bytesR] (fun d => fitB d.1 && valid d.1) (fun d => (sc ((cntR d.1 : Nat) : Int), []))
theorem v_utf8_RuneCount (p : List Int) (h : (fitB p && valid p) = true) (K : Ret → Option Ret) : T_utf8_RuneCount p K = K (sc ((cntR p : Nat) : Int), []) := by
  obtain ⟨hf, hv⟩ := (Bool.and_eq_true _ _).mp h
  have hl := fitB_len hf
  unfold T_utf8_RuneCount R_utf8_RuneCount_3_0
  have key : ∀ (m i : Nat), i ≤ p.length → p.length - i < m → (∀ j, j < i → p.getD j 0 < 128) → Q_utf8_RuneCount_3_0 m p ((p.length : Nat) : Int) ((i : Nat) : Int) (fun y0 y1 => K ((.s (.int .i64 y0)), [])) (fun y2 => K ((.s (.int .i64 y2)), [])) = K (sc ((cntR p : Nat) : Int), []) := by
    intro m
    induction m with
    | zero => intro i _ hm; omega
    | succ m ih =>
      intro i hi hm ha
      show P_utf8_RuneCount_3_0 p ((p.length : Nat) : Int) ((i : Nat) : Int) _ _ _ = _
      unfold P_utf8_RuneCount_3_0
      have hd := valid_dropn i ha hi
      by_cases hlt : i < p.length
      · rw [decide_eq_true (show ((i : Nat) : Int) < ((p.length : Nat) : Int) by omega), decide_eq_true (show (0 : Int) ≤ ((i : Nat) : Int) by omega), Int.toNat_natCast]
        by_cases c : p.getD i 0 ≥ 128
        · have hv' : valid (p.drop i) = true := by rw [valid_drop i hi ha]; exact hv
          have hc := cntR_le (p.drop i)
          rw [List.length_drop] at hc
          rw [decide_eq_true c, decide_eq_true (show ((i : Nat) : Int) ≤ ((p.length : Nat) : Int) by omega), bstr_size, List.length_drop, Nat.ble_eq_true_of_le (show p.length - i ≤ 1099511627776 by omega), runeCount_ok (fitB_drop hf i) hv', wrap_in (by omega) (by omega), hd]
          simp only [Bool.and_self, cond_true, Int.natCast_add]
          rfl
        · rw [decide_eq_false c, wrap_nat (by omega)]
          exact ih (i + 1) (by omega) (by omega) (fun j hj => by
            by_cases e : j = i
            · rw [e]; omega
            · exact ha j (by omega))
      · rw [decide_eq_false (show ¬ ((i : Nat) : Int) < ((p.length : Nat) : Int) by omega)]
        have e : i = p.length := by omega
        rw [List.drop_eq_nil_of_le (by omega), cntR_nil] at hd
        rw [hd]; rfl
  exact key _ 0 (by omega) (by omega) (fun j hj => absurd hj (by omega))
theorem okS_utf8_RuneCount : OkFn prog I N.utf8_RuneCount true S_utf8_RuneCount := okN (ok_fn (memc okS_utf8_RuneCountInString mem0) (l := ls_utf8_RuneCount) (p := []) (ls := [(3, [0,3,4], [2,4], W_utf8_RuneCount_3)]) (lend := []) (focus := false) (fuel := 0) (give := []) (fn := F.utf8_RuneCount) (by kernel_rfl) (by kernel_rfl) (by kernel_rfl) (by kernel_rfl) (cs := [bodyOf F.utf8_RuneCount 3]) (by kernel_rfl) (loopsc loopK_utf8_RuneCount_3 loops0)) (S_fnR_of fun d K h => (e_utf8_RuneCount d.1 K).trans (v_utf8_RuneCount d.1 h K))
end Go.Ev.Seat
end
section
/- bytes_Count: its contract. -/
set_option linter.unusedVariables false
namespace Go.Ev
open Go.RowKit Go.Shelf Go.Proofs
variable {P : Program} {I : Nat → World → Prop}
set_option maxHeartbeats 2000000 in
set_option maxRecDepth 1000000 in
theorem count_nil {ρ : Ren} (L : SlLaysB.n13 P ρ) (c b2 o2 d : Nat) (cv : Int) (w : World) (hc2 : w.cell? ⟨b2, o2, none⟩ = some (.int .u8 cv)) :
    Calls P (ρ.f 13) #[.slice none 0 c, .slice (some ⟨b2, o2, none⟩) 1 d] w fun e w' => e = .returned (.int .i64 0) ∧ w' = w := by
  have mixed := L.mixed
  have t0 := L.t0; have a0 := L.a0; have z0 := L.z0; have v0 := L.v0; have t3 := L.t3; have a3 := L.a3; have z3 := L.z3; have v3 := L.v3; have t4 := L.t4; have a4 := L.a4; have z4 := L.z4; have v4 := L.v4; have t5 := L.t5; have a5 := L.a5; have z5 := L.z5; have v5 := L.v5; have t22 := L.t22; have a22 := L.a22; have z22 := L.z22; have v22 := L.v22
  go_enter L.f13, SlBodyB.n13_ntmps ρ
  go_wp2
  rw [run_callFunc_extern L.f25 (by kernel_rfl) (by kernel_rfl) (by kernel_rfl) (e := Extern.BytealgCount.count) (by kernel_rfl), Lib.run_countNil w 0 c cv]
  simp only [Result.andThen]
  rw [Oper.upon_value]
  go_wp2
  go_ret
  exact ⟨rfl, rfl⟩

def G_bc : Sm := fun vs K => match vs with
  | [.l .no (.one (.int .u8)) xs, .l .no (.one (.int .u8)) ys] => bif fitB xs && Nat.beq ys.length 1 then K (.s (.int .i64 ((cntB xs ys : Nat) : Int)), []) else none
  | _ => none
theorem cells_of {w : World} {b : Nat} {xs : List Int} {o : Nat} {F : List Nat} (h : RowsR (RwR w true (.one (.int .u8))) w 1 b xs o F) : ∀ i, i < xs.length → w.cell? ⟨b, o + i, none⟩ = some (.int .u8 (xs.getD i 0)) := fun i hi => by
  obtain ⟨vs, F', _, hn, hc, hR⟩ := h.get (i := i) (x := xs.getD i 0) (by rw [List.getD_eq_getElem?_getD, List.getElem?_eq_getElem hi]; rfl)
  obtain ⟨v, rfl, hv⟩ := hR
  have hv' : v = .int .u8 (xs.getD i 0) := hv.1
  have := hc 0 v rfl
  rw [Nat.mul_one, Nat.add_zero] at this
  rw [this, hv']
theorem bcount_ok {ρ : Ren} (L : SlLaysB.n13 P ρ) (hent : ∀ (args : Array Value) (w : World), (callFunc (ρ.f 13) args).run P w = .ok (.enter (ρ.f 13) args) w) : OkFn P I (ρ.f 13) true G_bc := by
  refine ⟨hent, fun ws K q hq B0 w0 w N vs O M H hI hbel hB hargs hnd hO hM hH hN => ?_⟩
  unfold G_bc at hq
  split at hq
  · rename_i xs ys
    cases hc : (fitB xs && Nat.beq ys.length 1) with
    | false => rw [hc] at hq; cases hq
    | true =>
      rw [hc] at hq
      have hq' : K (.s (.int .i64 ((cntB xs ys : Nat) : Int)), []) = some q := hq
      rw [Bool.and_eq_true] at hc
      have hy := Nat.eq_of_beq_eq_true hc.2
      obtain ⟨v1, vs1, O1, O2, M1, M2, H1, H2, rfl, rfl, rfl, rfl, a1, b1⟩ := hargs
      obtain ⟨v2, vs2, O3, O4, M3, M4, H3, H4, rfl, rfl, rfl, rfl, a2, b2⟩ := b1
      obtain ⟨rfl, rfl, rfl, rfl⟩ := b2
      obtain ⟨⟨F1, s1, _⟩, rfl, rfl⟩ := a1
      obtain ⟨⟨F2, s2, _⟩, rfl, rfl⟩ := a2
      have s2' : SlT (RwR w true (.one (.int .u8))) w true 1 ys v2 F2 := s2
      have s1' : SlT (RwR w true (.one (.int .u8))) w true 1 xs v1 F1 := s1
      obtain ⟨b2, o2, cap2, rfl, hcv⟩ : ∃ b o cap, v2 = .slice (some ⟨b, o, none⟩) 1 cap ∧ w.cell? ⟨b, o, none⟩ = some (.int .u8 (ys.getD 0 0)) := by
        rcases s2' with ⟨rfl, _⟩ | ⟨b, o, cap, F', e1, e2, e3, e4, e5, e6⟩
        · exact absurd hy (by simp)
        · rw [hy] at e1
          exact ⟨b, o, cap, e1, cells_of e6 0 (by omega)⟩
      rcases s1' with ⟨rfl, _, a, cap, rfl, _⟩ | ⟨b, o, cap, F', e1, e2, e3, e4, e5, e6⟩
      · cases a with
        | none => exact Calls.mono (count_nil L cap b2 o2 cap2 _ w hcv) (by
          rintro e w' ⟨rfl, rfl⟩
          exact ⟨_, hq', ⟨⟨[], [], [], [], [], [], ⟨⟨rfl, rfl⟩, rfl, rfl⟩, ⟨rfl, rfl, rfl, rfl⟩, List.nodup_nil, by simp, by simp, by simp⟩, hbel, Nat.le_refl _, fun _ _ _ => rfl⟩⟩)
        | some a => exact Calls.mono (Any.bytes_Count_one_at L a 0 cap b2 o2 cap2 [] _ w rfl (fun i hi => absurd hi (Nat.not_lt_zero i)) hcv) (by
          rintro e w' ⟨rfl, rfl⟩
          exact ⟨_, hq', ⟨⟨[], [], [], [], [], [], ⟨⟨rfl, rfl⟩, rfl, rfl⟩, ⟨rfl, rfl, rfl, rfl⟩, List.nodup_nil, by simp, by simp, by simp⟩, hbel, Nat.le_refl _, fun _ _ _ => rfl⟩⟩)
      · subst e1
        exact Calls.mono (Any.bytes_Count_one L b o xs.length cap b2 o2 cap2 xs _ w rfl (cells_of e6) hcv) (by
          rintro e w' ⟨rfl, rfl⟩
          exact ⟨_, hq', ⟨⟨[], [], [], [], [], [], ⟨⟨rfl, rfl⟩, rfl, rfl⟩, ⟨rfl, rfl, rfl, rfl⟩, List.nodup_nil, by simp, by simp, by simp⟩, hbel, Nat.le_refl _, fun _ _ _ => rfl⟩⟩)
  · cases hq
end Go.Ev
namespace Go.Proofs
open Go.Shelf
def Tryd.bct_ren : Go.Shelf.Ren := ⟨fun | 13 => 124 | 24 => 77 | 25 => 136 | 12 => 131 | 31 => 117 | 19 => 139 | 20 => 140 | 21 => 141 | 22 => 142 | 23 => 143 | 29 => 145 | 30 => 146 | n => n, fun | 22 => 22 | 3 => 3 | 4 => 4 | 0 => 0 | 5 => 5 | 9 => 9 | 33 => 110 | 40 => 123 | 39 => 103 | n => n, fun | 0 => 2 | n => n⟩
theorem Tryd.bct : Go.Proofs.SlLaysB.n13 Tryd.prog Tryd.bct_ren := {
  mixed := by kernel_rfl
  f13 := Tryd.func124.trans (congrArg some (by kernel_rfl))
  f25 := Tryd.func136.trans (congrArg some (by kernel_rfl))
  t0 := Tryd.underlying0
  a0 := Tryd.isAgg0
  z0 := Tryd.sizeOf0
  v0 := Tryd.zeroValue0
  t3 := Tryd.underlying3
  a3 := Tryd.isAgg3
  z3 := Tryd.sizeOf3
  v3 := Tryd.zeroValue3
  t4 := Tryd.underlying4
  a4 := Tryd.isAgg4
  z4 := Tryd.sizeOf4
  v4 := Tryd.zeroValue4
  t5 := Tryd.underlying5
  a5 := Tryd.isAgg5
  z5 := Tryd.sizeOf5
  v5 := Tryd.zeroValue5
  t22 := Tryd.underlying22
  a22 := Tryd.isAgg22
  z22 := Tryd.sizeOf22
  v22 := Tryd.zeroValue22 }
end Go.Proofs
namespace Go.Ev.Seat
open Go.RowKit
set_option maxRecDepth 100000
def S_bytes_Count : Sm := S_fnR [.l bytesR, .l bytesR] (fun d => fitB d.1 && Nat.beq d.2.1.length 1) (fun d => (.s (.int .i64 ((cntB d.1 d.2.1 : Nat) : Int)), []))
theorem okS_bytes_Count : OkFn prog I N.bytes_Count true S_bytes_Count := okN (bcount_ok Go.Proofs.Tryd.bct (Go.Proofs.enters_of (fn := F.bytes_Count) (c := F.bytes_Count.body.getD .skip) (by kernel_rfl) (by kernel_rfl) (by kernel_rfl))) (S_fnR_of fun d K h => by
  show (bif fitB d.1 && Nat.beq d.2.1.length 1 then K (.s (.int .i64 ((cntB d.1 d.2.1 : Nat) : Int)), []) else none) = _
  rw [h]; rfl)
end Go.Ev.Seat
end
section
/- i_measOf: its contract. -/
namespace Go.Ev.Seat
open Go.RowKit
set_option maxRecDepth 100000
set_option linter.unusedVariables false
set_option linter.unusedSimpArgs false
noncomputable abbrev ls_i_measOf : List (Nat × Bool × Sm) := [(N.utf8_RuneCount, true, S_utf8_RuneCount), (N.bytes_Count, true, S_bytes_Count)]
noncomputable abbrev E_i_measOf : Env := En ls_i_measOf [] [] [] false 0 []
noncomputable def T_i_measOf (d : List Int) (K : Ret → Option Ret) : Option Ret := (bif ((fitB d) && (valid d)) then (bif ((fitB d) && (Nat.beq (List.length ((10 : Int) :: ([] : List Int))) 1)) then K ((.a [(.s (.int .i64 (((List.length d) : Nat) : Int))), (.s (.int .i64 (((cntR d) : Nat) : Int))), (.s (.int .i64 (((cntB d ((10 : Int) :: ([] : List Int))) : Nat) : Int)))]), []) else none) else none)
theorem e_i_measOf (d : List Int) (K : Ret → Option Ret) : evF E_i_measOf true F.i_measOf [.l .no bytesR d] K = T_i_measOf d K := by kernel_rfl
def S_i_measOf : Sm := S_fnR [.l bytesR] (fun d => fitB d.1 && textOk d.1) (fun d => (.a [sc (measD d.1).1, sc (measD d.1).2.1, sc (measD d.1).2.2], []))
theorem v_i_measOf (d : List Int) (h : (fitB d && textOk d) = true) (K : Ret → Option Ret) : T_i_measOf d K = K (.a [sc (measD d).1, sc (measD d).2.1, sc (measD d).2.2], []) := by
  obtain ⟨hf, ht⟩ := (Bool.and_eq_true _ _).mp h
  unfold T_i_measOf measD
  rw [ht, hf, (textOk_iff.1 ht).2]; rfl
theorem okS_i_measOf : OkFn prog I N.i_measOf true S_i_measOf := okN (ok_fn (memc okS_utf8_RuneCount (memc okS_bytes_Count mem0)) (l := ls_i_measOf) (p := []) (ls := []) (lend := []) (focus := false) (fuel := 0) (give := []) (fn := F.i_measOf) (by kernel_rfl) (by kernel_rfl) (by kernel_rfl) (by kernel_rfl) (cs := []) (by kernel_rfl) loops0) (S_fnR_of fun d K h => (e_i_measOf d.1 K).trans (v_i_measOf d.1 h K))
end Go.Ev.Seat
end
section
/- i_MeasOf: its contract. -/
namespace Go.Ev.Seat
open Go.RowKit
set_option maxRecDepth 100000
set_option linter.unusedVariables false
set_option linter.unusedSimpArgs false
noncomputable abbrev ls_i_MeasOf : List (Nat × Bool × Sm) := [(N.i_isText, true, S_i_isText), (N.i_measOf, true, S_i_measOf)]
noncomputable abbrev E_i_MeasOf : Env := En ls_i_MeasOf [] [] [] false 0 []
noncomputable def T_i_MeasOf (d : List Int) (K : Ret → Option Ret) : Option Ret := (bif (fitB d) then (bif (!(textOk d)) then K ((.a [(.s (.int .i64 (0 : Int))), (.s (.int .i64 (0 : Int))), (.s (.int .i64 (0 : Int)))]), []) else (bif ((fitB d) && (textOk d)) then K ((.a [(.s (.int .i64 (measD d).1)), (.s (.int .i64 (measD d).2.1)), (.s (.int .i64 (measD d).2.2))]), []) else none)) else none)
theorem e_i_MeasOf (d : List Int) (K : Ret → Option Ret) : evF E_i_MeasOf true F.i_MeasOf [.l .no bytesR d] K = T_i_MeasOf d K := by kernel_rfl
def S_i_MeasOf : Sm := S_fnR [.l bytesR] (fun d => fitB d.1) (fun d => (.a [sc (measD d.1).1, sc (measD d.1).2.1, sc (measD d.1).2.2], []))
theorem v_i_MeasOf (d : List Int) (h : (fitB d) = true) (K : Ret → Option Ret) : T_i_MeasOf d K = K (.a [sc (measD d).1, sc (measD d).2.1, sc (measD d).2.2], []) := by
  unfold T_i_MeasOf
  rw [h]
  cases ht : textOk d with
  | false => unfold measD; rw [ht]; rfl
  | true => rfl
theorem okS_i_MeasOf : OkFn prog I N.i_MeasOf true S_i_MeasOf := okN (ok_fn (memc okS_i_isText (memc okS_i_measOf mem0)) (l := ls_i_MeasOf) (p := []) (ls := []) (lend := []) (focus := false) (fuel := 0) (give := []) (fn := F.i_MeasOf) (by kernel_rfl) (by kernel_rfl) (by kernel_rfl) (by kernel_rfl) (cs := []) (by kernel_rfl) loops0) (S_fnR_of fun d K h => (e_i_MeasOf d.1 K).trans (v_i_MeasOf d.1 h K))
end Go.Ev.Seat
end
section
/- i_isMeas: its contract. -/
namespace Go.Ev.Seat
open Go.RowKit
set_option maxRecDepth 100000
set_option linter.unusedVariables false
set_option linter.unusedSimpArgs false
noncomputable abbrev ls_i_isMeas : List (Nat × Bool × Sm) := [(N.i_in, true, S_i_in)]
noncomputable abbrev E_i_isMeas : Env := En ls_i_isMeas [] [] [] false 0 []
noncomputable def T_i_isMeas (m : T_Meas) (K : Ret → Option Ret) : Option Ret := (bif ((decide ((0 : Int) ≤ m.1)) && (decide (m.1 ≤ (400 : Int)))) then (bif ((decide ((0 : Int) ≤ m.2.1)) && (decide (m.2.1 ≤ (400 : Int)))) then K ((.s (.bool ((decide ((0 : Int) ≤ m.2.2)) && (decide (m.2.2 ≤ (400 : Int)))))), []) else K ((.s (.bool false)), [])) else K ((.s (.bool false)), []))
theorem e_i_isMeas (m : T_Meas) (K : Ret → Option Ret) : evF E_i_isMeas true F.i_isMeas [.a (measR.cells .no m)] K = T_i_isMeas m K := by kernel_rfl
def S_i_isMeas : Sm := S_fnR [.a measR] (fun d => true) (fun d => (bl (isMeasD d.1), []))
theorem v_i_isMeas (m : T_Meas) (K : Ret → Option Ret) : T_i_isMeas m K = K (bl (isMeasD m), []) := by
  unfold T_i_isMeas isMeasD
  cases (decide ((0 : Int) ≤ m.1) && decide (m.1 ≤ 400))
  · rfl
  · cases (decide ((0 : Int) ≤ m.2.1) && decide (m.2.1 ≤ 400)) <;> rfl
theorem okS_i_isMeas : OkFn prog I N.i_isMeas true S_i_isMeas := okN (ok_fn (memc okS_i_in mem0) (l := ls_i_isMeas) (p := []) (ls := []) (lend := []) (focus := false) (fuel := 0) (give := []) (fn := F.i_isMeas) (by kernel_rfl) (by kernel_rfl) (by kernel_rfl) (by kernel_rfl) (cs := []) (by kernel_rfl) loops0) (S_fnR_of fun d K h => (e_i_isMeas d.1 K).trans (v_i_isMeas d.1 K))
end Go.Ev.Seat
end
section
/- i_measAdd: its contract. -/
namespace Go.Ev.Seat
open Go.RowKit
set_option maxRecDepth 100000
set_option linter.unusedVariables false
set_option linter.unusedSimpArgs false
noncomputable abbrev E_i_measAdd : Env := En [] [] [] [] false 0 []
noncomputable def T_i_measAdd (a : T_Meas) (b : T_Meas) (K : Ret → Option Ret) : Option Ret := K ((.a [(.s (.int .i64 (IntKind.wrap .i64 (a.1 + b.1)))), (.s (.int .i64 (IntKind.wrap .i64 (a.2.1 + b.2.1)))), (.s (.int .i64 (IntKind.wrap .i64 (a.2.2 + b.2.2))))]), [])
theorem e_i_measAdd (a : T_Meas) (b : T_Meas) (K : Ret → Option Ret) : evF E_i_measAdd true F.i_measAdd [.a (measR.cells .no a), .a (measR.cells .no b)] K = T_i_measAdd a b K := by kernel_rfl
def S_i_measAdd : Sm := S_fnR [.a measR, .a measR] (fun d => isMeasD d.1 && isMeasD d.2.1) (fun d => (.a [sc (measAddD d.1 d.2.1).1, sc (measAddD d.1 d.2.1).2.1, sc (measAddD d.1 d.2.1).2.2], []))
theorem v_i_measAdd (a : T_Meas) (b : T_Meas) (h : (isMeasD a && isMeasD b) = true) (K : Ret → Option Ret) : T_i_measAdd a b K = K (.a [sc (measAddD a b).1, sc (measAddD a b).2.1, sc (measAddD a b).2.2], []) := by
  unfold T_i_measAdd measAddD
  rw [h]
  obtain ⟨h1, h2⟩ := (Bool.and_eq_true _ _).mp h
  rw [isMeasD_iff] at h1 h2
  rw [wrap_in (by omega) (by omega), wrap_in (by omega) (by omega), wrap_in (by omega) (by omega)]
  rfl
theorem okS_i_measAdd : OkFn prog I N.i_measAdd true S_i_measAdd := okN (ok_fn mem0 (l := []) (p := []) (ls := []) (lend := []) (focus := false) (fuel := 0) (give := []) (fn := F.i_measAdd) (by kernel_rfl) (by kernel_rfl) (by kernel_rfl) (by kernel_rfl) (cs := []) (by kernel_rfl) loops0) (S_fnR_of fun d K h => (e_i_measAdd d.1 d.2.1 K).trans (v_i_measAdd d.1 d.2.1 h K))
end Go.Ev.Seat
end
section
/- i_MeasAdd: its contract. -/
namespace Go.Ev.Seat
open Go.RowKit
set_option maxRecDepth 100000
set_option linter.unusedVariables false
set_option linter.unusedSimpArgs false
noncomputable abbrev ls_i_MeasAdd : List (Nat × Bool × Sm) := [(N.i_isMeas, true, S_i_isMeas), (N.i_measAdd, true, S_i_measAdd)]
noncomputable abbrev E_i_MeasAdd : Env := En ls_i_MeasAdd [] [] [] false 0 []
noncomputable def T_i_MeasAdd (a : T_Meas) (b : T_Meas) (K : Ret → Option Ret) : Option Ret := (bif (!(isMeasD a)) then K ((.a [(.s (.int .i64 (0 : Int))), (.s (.int .i64 (0 : Int))), (.s (.int .i64 (0 : Int)))]), []) else (bif (!(isMeasD b)) then K ((.a [(.s (.int .i64 (0 : Int))), (.s (.int .i64 (0 : Int))), (.s (.int .i64 (0 : Int)))]), []) else (bif ((isMeasD a) && (isMeasD b)) then K ((.a [(.s (.int .i64 (measAddD a b).1)), (.s (.int .i64 (measAddD a b).2.1)), (.s (.int .i64 (measAddD a b).2.2))]), []) else none)))
theorem e_i_MeasAdd (a : T_Meas) (b : T_Meas) (K : Ret → Option Ret) : evF E_i_MeasAdd true F.i_MeasAdd [.a (measR.cells .no a), .a (measR.cells .no b)] K = T_i_MeasAdd a b K := by kernel_rfl
def S_i_MeasAdd : Sm := S_fnR [.a measR, .a measR] (fun d => true) (fun d => (.a [sc (measAddD d.1 d.2.1).1, sc (measAddD d.1 d.2.1).2.1, sc (measAddD d.1 d.2.1).2.2], []))
theorem v_i_MeasAdd (a : T_Meas) (b : T_Meas) (K : Ret → Option Ret) : T_i_MeasAdd a b K = K (.a [sc (measAddD a b).1, sc (measAddD a b).2.1, sc (measAddD a b).2.2], []) := by
  unfold T_i_MeasAdd
  cases ha : isMeasD a with
  | false => unfold measAddD; rw [ha]; rfl
  | true =>
    cases hb : isMeasD b with
    | false => unfold measAddD; rw [ha, hb]; rfl
    | true => rfl
theorem okS_i_MeasAdd : OkFn prog I N.i_MeasAdd true S_i_MeasAdd := okN (ok_fn (memc okS_i_isMeas (memc okS_i_measAdd mem0)) (l := ls_i_MeasAdd) (p := []) (ls := []) (lend := []) (focus := false) (fuel := 0) (give := []) (fn := F.i_MeasAdd) (by kernel_rfl) (by kernel_rfl) (by kernel_rfl) (by kernel_rfl) (cs := []) (by kernel_rfl) loops0) (S_fnR_of fun d K h => (e_i_MeasAdd d.1 d.2.1 K).trans (v_i_MeasAdd d.1 d.2.1 K))
end Go.Ev.Seat
end
section
/- s_ChunkOk: its contract. -/
namespace Go.Ev.Seat
open Go.RowKit
set_option maxRecDepth 100000
set_option linter.unusedVariables false
set_option linter.unusedSimpArgs false
noncomputable abbrev ls_s_ChunkOk : List (Nat × Bool × Sm) := [(N.s_TextOk, true, S_s_TextOk)]
noncomputable abbrev E_s_ChunkOk : Env := En ls_s_ChunkOk [] [] [] false 0 []
noncomputable def T_s_ChunkOk (d : T_Chunk) (K : Ret → Option Ret) : Option Ret := (bif (decide ((((List.length d) : Nat) : Int) ≥ (1 : Int))) then (bif (decide ((((List.length d) : Nat) : Int) ≤ (16 : Int))) then (bif (fitB d) then K ((.s (.bool (textOk d))), []) else none) else K ((.s (.bool false)), [])) else K ((.s (.bool false)), []))
theorem e_s_ChunkOk (d : T_Chunk) (K : Ret → Option Ret) : evF E_s_ChunkOk true F.s_ChunkOk [.a (chunkR.cells .no d)] K = T_s_ChunkOk d K := by kernel_rfl
def S_s_ChunkOk : Sm := S_fnR [.a chunkR] (fun d => fitB d.1) (fun d => (bl (chunkOkD d.1), []))
theorem v_s_ChunkOk (d : T_Chunk) (h : (fitB d) = true) (K : Ret → Option Ret) : T_s_ChunkOk d K = K (bl (chunkOkD d), []) := by
  unfold T_s_ChunkOk chunkOkD
  rw [h, show decide (((d.length : Nat) : Int) ≥ 1) = decide (1 ≤ ((d.length : Nat) : Int)) from rfl]
  cases decide (1 ≤ ((d.length : Nat) : Int)) <;> cases decide (((d.length : Nat) : Int) ≤ 16) <;> rfl
theorem okS_s_ChunkOk : OkFn prog I N.s_ChunkOk true S_s_ChunkOk := okN (ok_fn (memc okS_s_TextOk mem0) (l := ls_s_ChunkOk) (p := []) (ls := []) (lend := []) (focus := false) (fuel := 0) (give := []) (fn := F.s_ChunkOk) (by kernel_rfl) (by kernel_rfl) (by kernel_rfl) (by kernel_rfl) (cs := []) (by kernel_rfl) loops0) (S_fnR_of fun d K h => (e_s_ChunkOk d.1 K).trans (v_s_ChunkOk d.1 h K))
end Go.Ev.Seat
end
section
/- i_isChunk: its contract. -/
namespace Go.Ev.Seat
open Go.RowKit
set_option maxRecDepth 100000
set_option linter.unusedVariables false
set_option linter.unusedSimpArgs false
noncomputable abbrev ls_i_isChunk : List (Nat × Bool × Sm) := [(N.i_in, true, S_i_in), (N.utf8_Valid, true, S_utf8_Valid)]
noncomputable abbrev E_i_isChunk : Env := En ls_i_isChunk [] [] [] false 0 []
noncomputable def T_i_isChunk (d : T_Chunk) (K : Ret → Option Ret) : Option Ret := (bif ((decide ((1 : Int) ≤ (((List.length d) : Nat) : Int))) && (decide ((((List.length d) : Nat) : Int) ≤ (16 : Int)))) then (bif (fitB d) then K ((.s (.bool (valid d))), []) else none) else K ((.s (.bool false)), []))
theorem e_i_isChunk (d : T_Chunk) (K : Ret → Option Ret) : evF E_i_isChunk true F.i_isChunk [.a (chunkR.cells .no d)] K = T_i_isChunk d K := by kernel_rfl
def S_i_isChunk : Sm := S_fnR [.a chunkR] (fun d => fitB d.1) (fun d => (bl (chunkOkD d.1), []))
theorem v_i_isChunk (d : T_Chunk) (h : (fitB d) = true) (K : Ret → Option Ret) : T_i_isChunk d K = K (bl (chunkOkD d), []) := by
  unfold T_i_isChunk chunkOkD
  rw [h]
  by_cases h1 : ((d.length : Nat) : Int) ≤ 16
  · have e : textOk d = valid d := by
      rw [Bool.eq_iff_iff, textOk_iff]
      exact ⟨fun q => q.2, fun q => ⟨by omega, q⟩⟩
    rw [e]
    cases decide (1 ≤ ((d.length : Nat) : Int)) <;> cases decide (((d.length : Nat) : Int) ≤ 16) <;> rfl
  · rw [decide_eq_false h1]
    cases decide (1 ≤ ((d.length : Nat) : Int)) <;> rfl
theorem okS_i_isChunk : OkFn prog I N.i_isChunk true S_i_isChunk := okN (ok_fn (memc okS_i_in (memc okS_utf8_Valid mem0)) (l := ls_i_isChunk) (p := []) (ls := []) (lend := []) (focus := false) (fuel := 0) (give := []) (fn := F.i_isChunk) (by kernel_rfl) (by kernel_rfl) (by kernel_rfl) (by kernel_rfl) (cs := []) (by kernel_rfl) loops0) (S_fnR_of fun d K h => (e_i_isChunk d.1 K).trans (v_i_isChunk d.1 h K))
end Go.Ev.Seat
end
section
/- i_areChunks: its contract. -/
namespace Go.Ev.Seat
open Go.RowKit
set_option maxRecDepth 100000
set_option linter.unusedVariables false
set_option linter.unusedSimpArgs false
def z_i_areChunks_3_0 (x2 : Bool) : St := { tm := ([.x, .x, (.s (.bool x2))] ++ List.replicate 22 .x), ob := [], nx := 0, io := [] }
def z_i_areChunks_3_1 : St := { tm := ([] ++ List.replicate 25 .x), ob := [], nx := 0, io := [] }
def sh_i_areChunks_3_0 : Ss := { tm := (.cons (.x) (.cons (.x) (.cons (.x) (.cons (.int .i64) (.cons (.x) (.cons (.x) (.cons (.l .no pieceR) (.cons (.int .i64) (.cons (.int .i64) (xsh 16)))))))))), ob := .nil, nx := 0, io := .nil }
def d_i_areChunks_3_0 (x3 : Int) (x6 : List T_Piece) (x7 : Int) (x8 : Int) : sh_i_areChunks_3_0.T := (((), ((), ((), (x3, ((), ((), (x6, (x7, (x8, xd 16))))))))), (), ())
def s_i_areChunks_3_0 (x3 : Int) (x6 : List T_Piece) (x7 : Int) (x8 : Int) : St := { tm := ([.x, .x, .x, (.s (.int .i64 x3)), .x, .x, (.l .no pieceR x6), (.s (.int .i64 x7)), (.s (.int .i64 x8))] ++ List.replicate 16 .x), ob := [], nx := 0, io := [] }
theorem se_i_areChunks_3_0 (x3 : Int) (x6 : List T_Piece) (x7 : Int) (x8 : Int) : sh_i_areChunks_3_0.mk' (d_i_areChunks_3_0 x3 x6 x7 x8) = (s_i_areChunks_3_0 x3 x6 x7 x8) := by kernel_rfl
def w_i_areChunks_3_0 (d : sh_i_areChunks_3_0.T) (f : Int → (List T_Piece) → Int → Int → Option Ret) : Option Ret := match d with | ((_, (_, (_, (x3, (_, (_, (x6, (x7, (x8, _))))))))), _, _) => f x3 x6 x7 x8
noncomputable def P_i_areChunks_3_0 (x3 : Int) (x6 : List T_Piece) (x7 : Int) (x8 : Int) (nx0 : Int → (List T_Piece) → Int → Int → Option Ret) (k0 : Bool → Option Ret) (k1 : Option Ret) : Option Ret := (bif (decide (x8 < x7)) then (bif ((decide ((0 : Int) ≤ x8)) && (decide (x8 < (((List.length x6) : Nat) : Int)))) then (bif (fitB (List.getD x6 (Int.toNat x8) (pieceR.dflt))) then (bif (!(chunkOkD (List.getD x6 (Int.toNat x8) (pieceR.dflt)))) then (k0 false) else (bif (decide ((IntKind.wrap .i64 (x3 + (((List.length (List.getD x6 (Int.toNat x8) (pieceR.dflt))) : Nat) : Int))) > (400 : Int))) then (k0 false) else (nx0 (IntKind.wrap .i64 (x3 + (((List.length (List.getD x6 (Int.toNat x8) (pieceR.dflt))) : Nat) : Int))) x6 x7 (IntKind.wrap .i64 (x8 + (1 : Int)))))) else none) else none) else k1)
noncomputable def Q_i_areChunks_3_0 : Nat → Int → (List T_Piece) → Int → Int → (Bool → Option Ret) → (Option Ret) → Option Ret
  | 0, _, _, _, _, _, _ => none
  | m + 1, x3, x6, x7, x8, k0, k1 => P_i_areChunks_3_0 x3 x6 x7 x8 (fun x3 x6 x7 x8 => (Q_i_areChunks_3_0 m x3 x6 x7 x8 k0 k1)) k0 k1
noncomputable def R_i_areChunks_3_0 (x3 : Int) (x6 : List T_Piece) (x7 : Int) (x8 : Int) (k0 : Bool → Option Ret) (k1 : Option Ret) : Option Ret := Q_i_areChunks_3_0 (x3.toNat + List.length x6 + x7.toNat + x8.toNat + 2) x3 x6 x7 x8 k0 k1
noncomputable def W_i_areChunks_3 : LoopFn := (fun (σ : St) (K : Ex → St → Option Ret) => (match sh_i_areChunks_3_0.un σ with | some d => w_i_areChunks_3_0 d (fun x3 x6 x7 x8 => R_i_areChunks_3_0 x3 x6 x7 x8 (fun x2 => (K .ret (z_i_areChunks_3_0 x2))) (K (.ext 0) z_i_areChunks_3_1)) | none => none))
noncomputable abbrev ls_i_areChunks : List (Nat × Bool × Sm) := [(N.i_isChunk, true, S_i_isChunk)]
noncomputable abbrev E_i_areChunks : Env := En ls_i_areChunks [] [(3, [3,6,7,8], [2], W_i_areChunks_3)] [] false 0 []
noncomputable abbrev U_i_areChunks_3 := rounds (run E_i_areChunks (bodyOf F.i_areChunks 3)) [3,6,7,8] [2]
theorem st_i_areChunks_3_0 (m : Nat) (x3 : Int) (x6 : List T_Piece) (x7 : Int) (x8 : Int) (K : Ex → St → Option Ret) : U_i_areChunks_3 (m + 1) (s_i_areChunks_3_0 x3 x6 x7 x8) K = P_i_areChunks_3_0 x3 x6 x7 x8 (fun x3 x6 x7 x8 => (U_i_areChunks_3 m (s_i_areChunks_3_0 x3 x6 x7 x8) K)) (fun x2 => (K .ret (z_i_areChunks_3_0 x2))) (K (.ext 0) z_i_areChunks_3_1) := by kernel_rfl
theorem q_i_areChunks_3 (K : Ex → St → Option Ret) : ∀ m : Nat, (∀ (x3 : Int) (x6 : List T_Piece) (x7 : Int) (x8 : Int), U_i_areChunks_3 m (s_i_areChunks_3_0 x3 x6 x7 x8) K = Q_i_areChunks_3_0 m x3 x6 x7 x8 (fun x2 => (K .ret (z_i_areChunks_3_0 x2))) (K (.ext 0) z_i_areChunks_3_1))
  | 0 => (fun _ _ _ _ => rfl)
  | m + 1 => (fun x3 x6 x7 x8 => (by rw [st_i_areChunks_3_0, show (fun x3 x6 x7 x8 => (U_i_areChunks_3 m (s_i_areChunks_3_0 x3 x6 x7 x8) K)) = (fun x3 x6 x7 x8 => (Q_i_areChunks_3_0 m x3 x6 x7 x8 (fun x2 => (K .ret (z_i_areChunks_3_0 x2))) (K (.ext 0) z_i_areChunks_3_1))) from funext fun x3 => funext fun x6 => funext fun x7 => funext fun x8 => (q_i_areChunks_3 K m) x3 x6 x7 x8]; rfl))
theorem loopK_i_areChunks_3 : LoopOk E_i_areChunks (bodyOf F.i_areChunks 3) := by
  refine loopW_ok (n := 3) (F := W_i_areChunks_3) (by kernel_rfl) rfl (li := [3,6,7,8]) (lo := [2]) rfl (fun σ K r hr => ?_)
  unfold W_i_areChunks_3 at hr
  split at hr
  · rename_i d hd
    rw [Ss.un_mk hd]
    exact ⟨_, ((congrArg (fun z => U_i_areChunks_3 _ z K) (se_i_areChunks_3_0 _ _ _ _)).trans ((q_i_areChunks_3 K _) _ _ _ _)).trans hr⟩
  · cases hr
noncomputable def T_i_areChunks (l : List T_Chunk) (K : Ret → Option Ret) : Option Ret := (R_i_areChunks_3_0 (0 : Int) l (((List.length l) : Nat) : Int) (0 : Int) (fun y0 => K ((.s (.bool y0)), [])) (K ((.s (.bool true)), [])))
theorem e_i_areChunks (l : List T_Chunk) (K : Ret → Option Ret) : evF E_i_areChunks true F.i_areChunks [.l .no chunkR l] K = T_i_areChunks l K := by kernel_rfl
def S_i_areChunks : Sm := S_fnR [.l chunkR] (fun d => fitC (.sl chunkR) d.1) (fun d => (bl (chunksOkD d.1), []))
theorem v_i_areChunks (l : List T_Chunk) (h : (fitC (.sl chunkR) l) = true) (K : Ret → Option Ret) : T_i_areChunks l K = K (bl (chunksOkD l), []) := by
  have hl := fitC_len h
  unfold T_i_areChunks chunksOkD
  have q : ∀ (m i n : Nat), n ≤ 400 → i ≤ l.length → l.length - i < m → Q_i_areChunks_3_0 m ((n : Nat) : Int) l ((l.length : Nat) : Int) ((i : Nat) : Int) (fun y0 => K ((.s (.bool y0)), [])) (K ((.s (.bool true)), [])) = K (bl (chunksOkL (l.drop i) n), []) := by
    intro m
    induction m with
    | zero => intro i n _ _ hm; omega
    | succ m ih =>
      intro i n hn hi hm
      show P_i_areChunks_3_0 ((n : Nat) : Int) l ((l.length : Nat) : Int) ((i : Nat) : Int) _ _ _ = _
      unfold P_i_areChunks_3_0
      by_cases hlt : i < l.length
      · have hg : l.getD i (pieceR.dflt) = l[i] := getD_lt _ hlt
        have hf : fitB l[i] = true := fitB_fit (fitC_mem (r := chunkR) h (List.getElem_mem hlt))
        have hd : l.drop i = l[i] :: l.drop (i + 1) := (List.getElem_cons_drop hlt).symm
        rw [decide_eq_true (show ((i : Nat) : Int) < ((l.length : Nat) : Int) by omega), decide_eq_true (show (0 : Int) ≤ ((i : Nat) : Int) by omega), Int.toNat_natCast, wrap_nat (by omega), hg, hf, hd]
        cases he : chunkOkD l[i] with
        | false => simp only [chunksOkL, he]; rfl
        | true =>
          have hk := chunkOkD_len he
          have e1 : ((n : Nat) : Int) + ((l[i].length : Nat) : Int) = ((n + l[i].length : Nat) : Int) := by omega
          rw [wrap_in (n := ((n : Nat) : Int) + ((l[i].length : Nat) : Int)) (by omega) (by omega), e1]
          simp only [chunksOkL, he]
          by_cases h4 : ((n + l[i].length : Nat) : Int) > 400
          · rw [decide_eq_true h4]; rfl
          · rw [decide_eq_false h4]
            exact ih (i + 1) (n + l[i].length) (by omega) (by omega) (by omega)
      · obtain rfl : i = l.length := by omega
        rw [decide_eq_false (show ¬ ((l.length : Nat) : Int) < ((l.length : Nat) : Int) by omega), List.drop_length]; rfl
  refine Eq.trans (q _ 0 0 (by omega) (by omega) (by omega)) ?_
  rw [List.drop_zero]
theorem okS_i_areChunks : OkFn prog I N.i_areChunks true S_i_areChunks := okN (ok_fn (memc okS_i_isChunk mem0) (l := ls_i_areChunks) (p := []) (ls := [(3, [3,6,7,8], [2], W_i_areChunks_3)]) (lend := []) (focus := false) (fuel := 0) (give := []) (fn := F.i_areChunks) (by kernel_rfl) (by kernel_rfl) (by kernel_rfl) (by kernel_rfl) (cs := [bodyOf F.i_areChunks 3]) (by kernel_rfl) (loopsc loopK_i_areChunks_3 loops0)) (S_fnR_of fun d K h => (e_i_areChunks d.1 K).trans (v_i_areChunks d.1 h K))
end Go.Ev.Seat
end
section
/- i_chunksText: its contract. -/
namespace Go.Ev.Seat
open Go.RowKit
set_option maxRecDepth 100000
set_option linter.unusedVariables false
set_option linter.unusedSimpArgs false
def z_i_chunksText_3_0 (o0 : List Int) : St := { tm := ([.x, .x, .x, (.w 0)] ++ List.replicate 15 .x), ob := [(0, (.arr true true bytesR o0))], nx := 1, io := [] }
def sh_i_chunksText_3_0 : Ss := { tm := (.cons (.x) (.cons (.x) (.cons (.x) (.cons (.w 0) (.cons (.x) (.cons (.x) (.cons (.x) (.cons (.l .no pieceR) (.cons (.int .i64) (.cons (.int .i64) (xsh 9))))))))))), ob := (.arr true true bytesR .nil), nx := 1, io := .nil }
def d_i_chunksText_3_0 (x7 : List T_Piece) (x8 : Int) (x9 : Int) (o0 : List Int) : sh_i_chunksText_3_0.T := (((), ((), ((), ((), ((), ((), ((), (x7, (x8, (x9, xd 9)))))))))), (o0, ()), ())
def s_i_chunksText_3_0 (x7 : List T_Piece) (x8 : Int) (x9 : Int) (o0 : List Int) : St := { tm := ([.x, .x, .x, (.w 0), .x, .x, .x, (.l .no pieceR x7), (.s (.int .i64 x8)), (.s (.int .i64 x9))] ++ List.replicate 9 .x), ob := [(0, (.arr true true bytesR o0))], nx := 1, io := [] }
theorem se_i_chunksText_3_0 (x7 : List T_Piece) (x8 : Int) (x9 : Int) (o0 : List Int) : sh_i_chunksText_3_0.mk' (d_i_chunksText_3_0 x7 x8 x9 o0) = (s_i_chunksText_3_0 x7 x8 x9 o0) := by kernel_rfl
def w_i_chunksText_3_0 (d : sh_i_chunksText_3_0.T) (f : (List T_Piece) → Int → Int → (List Int) → Option Ret) : Option Ret := match d with | ((_, (_, (_, (_, (_, (_, (_, (x7, (x8, (x9, _)))))))))), (o0, _), _) => f x7 x8 x9 o0
noncomputable def P_i_chunksText_3_0 (x7 : List T_Piece) (x8 : Int) (x9 : Int) (o0 : List Int) (nx0 : (List T_Piece) → Int → Int → (List Int) → Option Ret) (k0 : (List Int) → Option Ret) : Option Ret := (bif (decide (x9 < x8)) then (bif ((decide ((0 : Int) ≤ x9)) && (decide (x9 < (((List.length x7) : Nat) : Int)))) then (bif (Nat.ble (((List.length o0) + (List.length (List.getD x7 (Int.toNat x9) (pieceR.dflt)))) * 1) 140737488355328) then (nx0 x7 x8 (IntKind.wrap .i64 (x9 + (1 : Int))) (o0 ++ (List.getD x7 (Int.toNat x9) (pieceR.dflt)))) else none) else none) else (k0 o0))
noncomputable def Q_i_chunksText_3_0 : Nat → (List T_Piece) → Int → Int → (List Int) → ((List Int) → Option Ret) → Option Ret
  | 0, _, _, _, _, _ => none
  | m + 1, x7, x8, x9, o0, k0 => P_i_chunksText_3_0 x7 x8 x9 o0 (fun x7 x8 x9 o0 => (Q_i_chunksText_3_0 m x7 x8 x9 o0 k0)) k0
noncomputable def R_i_chunksText_3_0 (x7 : List T_Piece) (x8 : Int) (x9 : Int) (o0 : List Int) (k0 : (List Int) → Option Ret) : Option Ret := Q_i_chunksText_3_0 (List.length x7 + x8.toNat + x9.toNat + List.length o0 + 2) x7 x8 x9 o0 k0
noncomputable def W_i_chunksText_3 : LoopFn := (fun (σ : St) (K : Ex → St → Option Ret) => (match sh_i_chunksText_3_0.un σ with | some d => w_i_chunksText_3_0 d (fun x7 x8 x9 o0 => R_i_chunksText_3_0 x7 x8 x9 o0 (fun o0 => (K (.ext 0) (z_i_chunksText_3_0 o0)))) | none => none))
noncomputable abbrev E_i_chunksText : Env := En [] [] [(3, [3,7,8,9], [2,3], W_i_chunksText_3)] [] false 0 []
noncomputable abbrev U_i_chunksText_3 := rounds (run E_i_chunksText (bodyOf F.i_chunksText 3)) [3,7,8,9] [2,3]
theorem st_i_chunksText_3_0 (m : Nat) (x7 : List T_Piece) (x8 : Int) (x9 : Int) (o0 : List Int) (K : Ex → St → Option Ret) : U_i_chunksText_3 (m + 1) (s_i_chunksText_3_0 x7 x8 x9 o0) K = P_i_chunksText_3_0 x7 x8 x9 o0 (fun x7 x8 x9 o0 => (U_i_chunksText_3 m (s_i_chunksText_3_0 x7 x8 x9 o0) K)) (fun o0 => (K (.ext 0) (z_i_chunksText_3_0 o0))) := by kernel_rfl
theorem q_i_chunksText_3 (K : Ex → St → Option Ret) : ∀ m : Nat, (∀ (x7 : List T_Piece) (x8 : Int) (x9 : Int) (o0 : List Int), U_i_chunksText_3 m (s_i_chunksText_3_0 x7 x8 x9 o0) K = Q_i_chunksText_3_0 m x7 x8 x9 o0 (fun o0 => (K (.ext 0) (z_i_chunksText_3_0 o0))))
  | 0 => (fun _ _ _ _ => rfl)
  | m + 1 => (fun x7 x8 x9 o0 => (by rw [st_i_chunksText_3_0, show (fun x7 x8 x9 o0 => (U_i_chunksText_3 m (s_i_chunksText_3_0 x7 x8 x9 o0) K)) = (fun x7 x8 x9 o0 => (Q_i_chunksText_3_0 m x7 x8 x9 o0 (fun o0 => (K (.ext 0) (z_i_chunksText_3_0 o0))))) from funext fun x7 => funext fun x8 => funext fun x9 => funext fun o0 => (q_i_chunksText_3 K m) x7 x8 x9 o0]; rfl))
theorem loopK_i_chunksText_3 : LoopOk E_i_chunksText (bodyOf F.i_chunksText 3) := by
  refine loopW_ok (n := 3) (F := W_i_chunksText_3) (by kernel_rfl) rfl (li := [3,7,8,9]) (lo := [2,3]) rfl (fun σ K r hr => ?_)
  unfold W_i_chunksText_3 at hr
  split at hr
  · rename_i d hd
    rw [Ss.un_mk hd]
    exact ⟨_, ((congrArg (fun z => U_i_chunksText_3 _ z K) (se_i_chunksText_3_0 _ _ _ _)).trans ((q_i_chunksText_3 K _) _ _ _ _)).trans hr⟩
  · cases hr
noncomputable def T_i_chunksText (l : List T_Chunk) (K : Ret → Option Ret) : Option Ret := (R_i_chunksText_3_0 l (((List.length l) : Nat) : Int) (0 : Int) ([] : List Int) (fun y0 => K ((.l .deep bytesR y0), [])))
theorem e_i_chunksText (l : List T_Chunk) (K : Ret → Option Ret) : evF E_i_chunksText true F.i_chunksText [.l .no chunkR l] K = T_i_chunksText l K := by kernel_rfl
def S_i_chunksText : Sm := S_fnR [.l chunkR] (fun d => fitC (.sl chunkR) d.1 && chunksOkD d.1) (fun d => (.l .deep bytesR d.1.flatten, []))
theorem v_i_chunksText (l : List T_Chunk) (h : (fitC (.sl chunkR) l && chunksOkD l) = true) (K : Ret → Option Ret) : T_i_chunksText l K = K (.l .deep bytesR l.flatten, []) := by
  obtain ⟨h, hk⟩ := (Bool.and_eq_true _ _).mp h
  have hl := fitC_len h
  have hs := (chunksOkD_iff.1 hk).2
  unfold T_i_chunksText
  have q : ∀ (m i : Nat), i ≤ l.length → l.length - i < m → Q_i_chunksText_3_0 m l ((l.length : Nat) : Int) ((i : Nat) : Int) (l.take i).flatten (fun y0 => K ((.l .deep bytesR y0), [])) = K (.l .deep bytesR l.flatten, []) := by
    intro m
    induction m with
    | zero => intro i _ hm; omega
    | succ m ih =>
      intro i hi hm
      show P_i_chunksText_3_0 l ((l.length : Nat) : Int) ((i : Nat) : Int) _ _ _ = _
      unfold P_i_chunksText_3_0
      by_cases hlt : i < l.length
      · have h2 : (l.take i).flatten.length ≤ 400 := by
          rw [sumW_flat]
          exact Nat.le_trans sumW_take_le hs
        have h3 : (l.getD i []).length ≤ 400 := by
          rw [getD_lt [] hlt]
          have := chunkOkD_len ((chunksOkD_iff.1 hk).1 l[i] (List.getElem_mem hlt)); omega
        have hf2 : (l.take (i + 1)).flatten = (l.take i).flatten ++ l.getD i [] := flatten_take hlt
        rw [decide_eq_true (show ((i : Nat) : Int) < ((l.length : Nat) : Int) by omega), decide_eq_true (show (0 : Int) ≤ ((i : Nat) : Int) by omega), Int.toNat_natCast, wrap_nat (by omega), show l.getD i pieceR.dflt = l.getD i [] from rfl, Nat.ble_eq_true_of_le (by omega), ← hf2]
        exact ih (i + 1) (by omega) (by omega)
      · obtain rfl : i = l.length := by omega
        rw [decide_eq_false (show ¬ ((l.length : Nat) : Int) < ((l.length : Nat) : Int) by omega), List.take_length]; rfl
  exact q _ 0 (by omega) (by omega)
theorem okS_i_chunksText : OkFn prog I N.i_chunksText true S_i_chunksText := okN (ok_fn mem0 (l := []) (p := []) (ls := [(3, [3,7,8,9], [2,3], W_i_chunksText_3)]) (lend := []) (focus := false) (fuel := 0) (give := []) (fn := F.i_chunksText) (by kernel_rfl) (by kernel_rfl) (by kernel_rfl) (by kernel_rfl) (cs := [bodyOf F.i_chunksText 3]) (by kernel_rfl) (loopsc loopK_i_chunksText_3 loops0)) (S_fnR_of fun d K h => (e_i_chunksText d.1 K).trans (v_i_chunksText d.1 h K))
end Go.Ev.Seat
end
section
/- i_ChunksText: its contract. -/
namespace Go.Ev.Seat
open Go.RowKit
set_option maxRecDepth 100000
set_option linter.unusedVariables false
set_option linter.unusedSimpArgs false
noncomputable abbrev ls_i_ChunksText : List (Nat × Bool × Sm) := [(N.i_areChunks, true, S_i_areChunks), (N.i_chunksText, true, S_i_chunksText)]
noncomputable abbrev E_i_ChunksText : Env := En ls_i_ChunksText [] [] [] false 0 []
noncomputable def T_i_ChunksText (l : List T_Chunk) (K : Ret → Option Ret) : Option Ret := (bif (fitC (Cc.sl chunkR) l) then (bif (!(chunksOkD l)) then K ((.l .deep bytesR ([] : List Int)), []) else (bif ((fitC (Cc.sl chunkR) l) && (chunksOkD l)) then K ((.l .deep bytesR (List.flatten l)), []) else none)) else none)
theorem e_i_ChunksText (l : List T_Chunk) (K : Ret → Option Ret) : evF E_i_ChunksText true F.i_ChunksText [.l .no chunkR l] K = T_i_ChunksText l K := by kernel_rfl
def S_i_ChunksText : Sm := S_fnR [.l chunkR] (fun d => fitC (.sl chunkR) d.1) (fun d => (.l .deep bytesR (chunksTextD d.1), []))
theorem v_i_ChunksText (l : List T_Chunk) (h : (fitC (.sl chunkR) l) = true) (K : Ret → Option Ret) : T_i_ChunksText l K = K (.l .deep bytesR (chunksTextD l), []) := by
  unfold T_i_ChunksText chunksTextD
  rw [h]
  cases chunksOkD l <;> rfl
theorem okS_i_ChunksText : OkFn prog I N.i_ChunksText true S_i_ChunksText := okN (ok_fn (memc okS_i_areChunks (memc okS_i_chunksText mem0)) (l := ls_i_ChunksText) (p := []) (ls := []) (lend := []) (focus := false) (fuel := 0) (give := []) (fn := F.i_ChunksText) (by kernel_rfl) (by kernel_rfl) (by kernel_rfl) (by kernel_rfl) (cs := []) (by kernel_rfl) loops0) (S_fnR_of fun d K h => (e_i_ChunksText d.1 K).trans (v_i_ChunksText d.1 h K))
end Go.Ev.Seat
end
section
/- l_FnChunks: its contract. -/
namespace Go.Ev.Seat
open Go.RowKit
set_option maxRecDepth 100000
set_option linter.unusedVariables false
set_option linter.unusedSimpArgs false
def z_l_FnChunks_9_0 (x2 : Bool) (o0 : List Int) (o1 : List T_Piece) (b20 : Int) (b21 : Int) (b22 : Int) : St := { tm := ([.x, .x, (.s (.bool x2)), (.w 0), (.w 1), (.pb 2 0)] ++ List.replicate 78 .x), ob := [(0, (.arr true true bytesR o0)), (1, (.arr true true pieceR o1)), (2, (.box [(.s (.int .i64 b20)), (.s (.int .i64 b21)), (.s (.int .i64 b22))]))], nx := 3, io := [] }
def z_l_FnChunks_9_1 (o0 : List Int) (o1 : List T_Piece) (b20 : Int) (b21 : Int) (b22 : Int) : St := { tm := ([.x, .x, .x, (.w 0), (.w 1), (.pb 2 0)] ++ List.replicate 78 .x), ob := [(0, (.arr true true bytesR o0)), (1, (.arr true true pieceR o1)), (2, (.box [(.s (.int .i64 b20)), (.s (.int .i64 b21)), (.s (.int .i64 b22))]))], nx := 3, io := [] }
def sh_l_FnChunks_9_0 : Ss := { tm := (.cons (.x) (.cons (.x) (.cons (.x) (.cons (.w 0) (.cons (.w 1) (.cons (.pb 2 0) (.cons (.int .i64) (xsh 77)))))))), ob := (.arr true true bytesR (.arr true true pieceR (.box (.cons (.int .i64) (.cons (.int .i64) (.cons (.int .i64) .nil))) .nil))), nx := 3, io := .nil }
def d_l_FnChunks_9_0 (x6 : Int) (o0 : List Int) (o1 : List T_Piece) (b20 : Int) (b21 : Int) (b22 : Int) : sh_l_FnChunks_9_0.T := (((), ((), ((), ((), ((), ((), (x6, xd 77))))))), (o0, (o1, ((b20, (b21, (b22, ()))), ()))), ())
def s_l_FnChunks_9_0 (x6 : Int) (o0 : List Int) (o1 : List T_Piece) (b20 : Int) (b21 : Int) (b22 : Int) : St := { tm := ([.x, .x, .x, (.w 0), (.w 1), (.pb 2 0), (.s (.int .i64 x6))] ++ List.replicate 77 .x), ob := [(0, (.arr true true bytesR o0)), (1, (.arr true true pieceR o1)), (2, (.box [(.s (.int .i64 b20)), (.s (.int .i64 b21)), (.s (.int .i64 b22))]))], nx := 3, io := [] }
theorem se_l_FnChunks_9_0 (x6 : Int) (o0 : List Int) (o1 : List T_Piece) (b20 : Int) (b21 : Int) (b22 : Int) : sh_l_FnChunks_9_0.mk' (d_l_FnChunks_9_0 x6 o0 o1 b20 b21 b22) = (s_l_FnChunks_9_0 x6 o0 o1 b20 b21 b22) := by kernel_rfl
def w_l_FnChunks_9_0 (d : sh_l_FnChunks_9_0.T) (f : Int → (List Int) → (List T_Piece) → Int → Int → Int → Option Ret) : Option Ret := match d with | ((_, (_, (_, (_, (_, (_, (x6, _))))))), (o0, (o1, ((b20, (b21, (b22, _))), _))), _) => f x6 o0 o1 b20 b21 b22
noncomputable def P_l_FnChunks_9_0 (x6 : Int) (o0 : List Int) (o1 : List T_Piece) (b20 : Int) (b21 : Int) (b22 : Int) (nx0 : Int → (List Int) → (List T_Piece) → Int → Int → Int → Option Ret) (k0 : Bool → (List Int) → (List T_Piece) → Int → Int → Int → Option Ret) (k1 : (List Int) → (List T_Piece) → Int → Int → Int → Option Ret) : Option Ret := (bif (decide (x6 < (((List.length o1) : Nat) : Int))) then (bif ((decide ((0 : Int) ≤ x6)) && (decide (x6 < (((List.length o1) : Nat) : Int)))) then (bif (fitB (List.getD o1 (Int.toNat x6) (pieceR.dflt))) then (bif ((decide ((0 : Int) ≤ x6)) && (decide (x6 < (((List.length o1) : Nat) : Int)))) then (bif (fitB (List.getD o1 (Int.toNat x6) (pieceR.dflt))) then (bif (!(chunkOkD (List.getD o1 (Int.toNat x6) (pieceR.dflt)))) then (k0 false o0 o1 (measAddD (b20, (b21, b22)) (measD (List.getD o1 (Int.toNat x6) (pieceR.dflt)))).1 (measAddD (b20, (b21, b22)) (measD (List.getD o1 (Int.toNat x6) (pieceR.dflt)))).2.1 (measAddD (b20, (b21, b22)) (measD (List.getD o1 (Int.toNat x6) (pieceR.dflt)))).2.2) else (bif (decide ((IntKind.wrap .i64 (x6 + (1 : Int))) < (((List.length o1) : Nat) : Int))) then (bif ((decide ((0 : Int) ≤ x6)) && (decide (x6 < (((List.length o1) : Nat) : Int)))) then (bif ((decide ((0 : Int) ≤ (IntKind.wrap .i64 (x6 + (1 : Int))))) && (decide ((IntKind.wrap .i64 (x6 + (1 : Int))) < (((List.length o1) : Nat) : Int)))) then (bif (fitB (List.getD o1 (Int.toNat (IntKind.wrap .i64 (x6 + (1 : Int)))) (pieceR.dflt))) then (bif (decide ((IntKind.wrap .i64 ((((List.length (List.getD o1 (Int.toNat x6) (pieceR.dflt))) : Nat) : Int) + (szAt (List.getD o1 (Int.toNat (IntKind.wrap .i64 (x6 + (1 : Int)))) (pieceR.dflt)) (0 : Int)))) ≤ (16 : Int))) then (k0 false o0 o1 (measAddD (b20, (b21, b22)) (measD (List.getD o1 (Int.toNat x6) (pieceR.dflt)))).1 (measAddD (b20, (b21, b22)) (measD (List.getD o1 (Int.toNat x6) (pieceR.dflt)))).2.1 (measAddD (b20, (b21, b22)) (measD (List.getD o1 (Int.toNat x6) (pieceR.dflt)))).2.2) else (nx0 (IntKind.wrap .i64 (x6 + (1 : Int))) o0 o1 (measAddD (b20, (b21, b22)) (measD (List.getD o1 (Int.toNat x6) (pieceR.dflt)))).1 (measAddD (b20, (b21, b22)) (measD (List.getD o1 (Int.toNat x6) (pieceR.dflt)))).2.1 (measAddD (b20, (b21, b22)) (measD (List.getD o1 (Int.toNat x6) (pieceR.dflt)))).2.2)) else none) else none) else none) else (nx0 (IntKind.wrap .i64 (x6 + (1 : Int))) o0 o1 (measAddD (b20, (b21, b22)) (measD (List.getD o1 (Int.toNat x6) (pieceR.dflt)))).1 (measAddD (b20, (b21, b22)) (measD (List.getD o1 (Int.toNat x6) (pieceR.dflt)))).2.1 (measAddD (b20, (b21, b22)) (measD (List.getD o1 (Int.toNat x6) (pieceR.dflt)))).2.2))) else none) else none) else none) else none) else (k1 o0 o1 b20 b21 b22))
noncomputable def Q_l_FnChunks_9_0 : Nat → Int → (List Int) → (List T_Piece) → Int → Int → Int → (Bool → (List Int) → (List T_Piece) → Int → Int → Int → Option Ret) → ((List Int) → (List T_Piece) → Int → Int → Int → Option Ret) → Option Ret
  | 0, _, _, _, _, _, _, _, _ => none
  | m + 1, x6, o0, o1, b20, b21, b22, k0, k1 => P_l_FnChunks_9_0 x6 o0 o1 b20 b21 b22 (fun x6 o0 o1 b20 b21 b22 => (Q_l_FnChunks_9_0 m x6 o0 o1 b20 b21 b22 k0 k1)) k0 k1
noncomputable def R_l_FnChunks_9_0 (x6 : Int) (o0 : List Int) (o1 : List T_Piece) (b20 : Int) (b21 : Int) (b22 : Int) (k0 : Bool → (List Int) → (List T_Piece) → Int → Int → Int → Option Ret) (k1 : (List Int) → (List T_Piece) → Int → Int → Int → Option Ret) : Option Ret := Q_l_FnChunks_9_0 (x6.toNat + List.length o0 + List.length o1 + b20.toNat + b21.toNat + b22.toNat + 2) x6 o0 o1 b20 b21 b22 k0 k1
noncomputable def W_l_FnChunks_9 : LoopFn := (fun (σ : St) (K : Ex → St → Option Ret) => (match sh_l_FnChunks_9_0.un σ with | some d => w_l_FnChunks_9_0 d (fun x6 o0 o1 b20 b21 b22 => R_l_FnChunks_9_0 x6 o0 o1 b20 b21 b22 (fun x2 o0 o1 b20 b21 b22 => (K .ret (z_l_FnChunks_9_0 x2 o0 o1 b20 b21 b22))) (fun o0 o1 b20 b21 b22 => (K (.ext 0) (z_l_FnChunks_9_1 o0 o1 b20 b21 b22)))) | none => none))
noncomputable abbrev pl_l_FnChunks : List (Nat × Plan × List Nat) := [(11, takeB [0, 1, 2, 3, 4, 5] (.fork (.one 6 (.fork (.one 7 (.fork (.one 8 (.done))))))), []), (12, takeB [0, 1, 2, 3] (.fork (.one 4 (takeB [5, 6, 7, 8, 9, 10, 11, 12, 13, 14, 15, 16, 17, 18, 19, 20, 21, 22, 23, 24] (.fork (.one 25 (takes [26, 27, 28, 29])))))), []), (14, takeB [0, 3] (.fork (.more 1 (.fork (.more 2 (.fork (.one 4 (takeB [5, 6, 7, 8] (.fork (.one 9 (takes [10, 11, 12, 13, 14, 15, 16, 17, 18, 19])))))) (.one 4 (.fork (.one 2 (takeB [5, 6, 7, 8] (.fork (.one 9 (takes [10, 11, 12, 13, 14, 15, 16, 17, 18, 19]))))))))) (.one 4 (.fork (.one 1 (.fork (.one 2 (takeB [5, 6, 7, 8] (.fork (.one 9 (takes [10, 11, 12, 13, 14, 15, 16, 17, 18, 19]))))))))))), [])]
noncomputable abbrev ls_l_FnChunks : List (Nat × Bool × Sm) := [(N.l_big, true, S_l_big), (N.s_DrawChunksOf, false, (SB_s_DrawChunksOf B_s_DrawChunksOf)), (N.l_bytesOf, true, S_l_bytesOf), (N.i_ChunksOf, true, S_i_ChunksOf), (N.s_TextOk, true, S_s_TextOk), (N.i_MeasOf, true, S_i_MeasOf), (N.i_MeasAdd, true, S_i_MeasAdd), (N.s_ChunkOk, true, S_s_ChunkOk), (N.s_RuneSize, true, S_s_RuneSize), (N.i_ChunksText, true, S_i_ChunksText)]
noncomputable abbrev E_l_FnChunks : Env := En ls_l_FnChunks pl_l_FnChunks [(9, [3,4,5,6], [2,3,4,5], W_l_FnChunks_9)] [] false 0 []
noncomputable abbrev U_l_FnChunks_9 := rounds (run E_l_FnChunks (bodyOf F.l_FnChunks 9)) [3,4,5,6] [2,3,4,5]
theorem st_l_FnChunks_9_0 (m : Nat) (x6 : Int) (o0 : List Int) (o1 : List T_Piece) (b20 : Int) (b21 : Int) (b22 : Int) (K : Ex → St → Option Ret) : U_l_FnChunks_9 (m + 1) (s_l_FnChunks_9_0 x6 o0 o1 b20 b21 b22) K = P_l_FnChunks_9_0 x6 o0 o1 b20 b21 b22 (fun x6 o0 o1 b20 b21 b22 => (U_l_FnChunks_9 m (s_l_FnChunks_9_0 x6 o0 o1 b20 b21 b22) K)) (fun x2 o0 o1 b20 b21 b22 => (K .ret (z_l_FnChunks_9_0 x2 o0 o1 b20 b21 b22))) (fun o0 o1 b20 b21 b22 => (K (.ext 0) (z_l_FnChunks_9_1 o0 o1 b20 b21 b22))) := by kernel_rfl
theorem q_l_FnChunks_9 (K : Ex → St → Option Ret) : ∀ m : Nat, (∀ (x6 : Int) (o0 : List Int) (o1 : List T_Piece) (b20 : Int) (b21 : Int) (b22 : Int), U_l_FnChunks_9 m (s_l_FnChunks_9_0 x6 o0 o1 b20 b21 b22) K = Q_l_FnChunks_9_0 m x6 o0 o1 b20 b21 b22 (fun x2 o0 o1 b20 b21 b22 => (K .ret (z_l_FnChunks_9_0 x2 o0 o1 b20 b21 b22))) (fun o0 o1 b20 b21 b22 => (K (.ext 0) (z_l_FnChunks_9_1 o0 o1 b20 b21 b22))))
  | 0 => (fun _ _ _ _ _ _ => rfl)
  | m + 1 => (fun x6 o0 o1 b20 b21 b22 => (by rw [st_l_FnChunks_9_0, show (fun x6 o0 o1 b20 b21 b22 => (U_l_FnChunks_9 m (s_l_FnChunks_9_0 x6 o0 o1 b20 b21 b22) K)) = (fun x6 o0 o1 b20 b21 b22 => (Q_l_FnChunks_9_0 m x6 o0 o1 b20 b21 b22 (fun x2 o0 o1 b20 b21 b22 => (K .ret (z_l_FnChunks_9_0 x2 o0 o1 b20 b21 b22))) (fun o0 o1 b20 b21 b22 => (K (.ext 0) (z_l_FnChunks_9_1 o0 o1 b20 b21 b22))))) from funext fun x6 => funext fun o0 => funext fun o1 => funext fun b20 => funext fun b21 => funext fun b22 => (q_l_FnChunks_9 K m) x6 o0 o1 b20 b21 b22]; rfl))
theorem loopK_l_FnChunks_9 : LoopOk E_l_FnChunks (bodyOf F.l_FnChunks 9) := by
  refine loopW_ok (n := 9) (F := W_l_FnChunks_9) (by kernel_rfl) rfl (li := [3,4,5,6]) (lo := [2,3,4,5]) rfl (fun σ K r hr => ?_)
  unfold W_l_FnChunks_9 at hr
  split at hr
  · rename_i d hd
    rw [Ss.un_mk hd]
    exact ⟨_, ((congrArg (fun z => U_l_FnChunks_9 _ z K) (se_l_FnChunks_9_0 _ _ _ _ _ _)).trans ((q_l_FnChunks_9 K _) _ _ _ _ _ _)).trans hr⟩
  · cases hr
noncomputable def T_l_FnChunks (code : List Int) (K : Ret → Option Ret) : Option Ret := (bif (decide ((((List.length code) : Nat) : Int) > (1048576 : Int))) then K ((.s (.bool true)), []) else (B_s_DrawChunksOf code (fun y0 => (bif (fitB y0) then (bif (fitB y0) then (bif (fitB y0) then (bif (!(textOk y0)) then K ((.s (.bool ((((List.length (bif (textOk y0) then (chunksL y0) else [])) : Nat) : Int) == (0 : Int)))), []) else (R_l_FnChunks_9_0 (0 : Int) y0 (bif (textOk y0) then (chunksL y0) else []) (0 : Int) (0 : Int) (0 : Int) (fun y1 y2 y3 y4 y5 y6 => K ((.s (.bool y1)), [])) (fun y7 y8 y9 y10 y11 => (meet ((bif (fitC (Cc.sl chunkR) y8) then (meet ((bif ((ByteArray.toList (bstr (chunksTextD y8))) == (ByteArray.toList (bstr y7))) then (bif (fitB y7) then (bif (eqI (y9 :: (y10 :: (y11 :: ([] : List Int)))) ((measD y7).1 :: ((measD y7).2.1 :: ((measD y7).2.2 :: ([] : List Int))))) then K ((.s (.bool (y9 == (((List.length y7) : Nat) : Int)))), []) else K ((.s (.bool false)), [])) else none) else K ((.s (.bool false)), []))) ((bif ((ByteArray.toList (bstr (chunksTextD y8))) == (ByteArray.toList (bstr y7))) then (bif (fitB y7) then (bif (eqI (y9 :: (y10 :: (y11 :: ([] : List Int)))) ((measD y7).1 :: ((measD y7).2.1 :: ((measD y7).2.2 :: ([] : List Int))))) then K ((.s (.bool (y9 == (((List.length y7) : Nat) : Int)))), []) else K ((.s (.bool false)), [])) else none) else K ((.s (.bool false)), [])))) else none)) ((bif (fitC (Cc.sl chunkR) y8) then (bif ((ByteArray.toList (bstr (chunksTextD y8))) == (ByteArray.toList (bstr y7))) then (bif (fitB y7) then (bif (eqI (y9 :: (y10 :: (y11 :: ([] : List Int)))) ((measD y7).1 :: ((measD y7).2.1 :: ((measD y7).2.2 :: ([] : List Int))))) then K ((.s (.bool (y9 == (((List.length y7) : Nat) : Int)))), []) else K ((.s (.bool false)), [])) else none) else K ((.s (.bool false)), [])) else none)))))) else none) else none) else none))))
theorem e_l_FnChunks (code : List Int) (K : Ret → Option Ret) : evF E_l_FnChunks true F.l_FnChunks [.l .no bytesR code] K = T_l_FnChunks code K := by kernel_rfl
theorem valid_flat : ∀ (l : List (List Int)), (∀ d ∈ l, valid d = true) → valid l.flatten = true
  | [], _ => valid_nil
  | d :: l, h => by
    rw [List.flatten_cons]
    exact valid_append (h d List.mem_cons_self) (valid_flat l (fun x hx => h x (List.mem_cons_of_mem _ hx)))
theorem flat_take_len (l : List (List Int)) (i : Nat) : (l.take i).flatten.length ≤ l.flatten.length := by
  rw [sumW_flat, sumW_flat]; exact sumW_take_le
theorem chunks_go {t : List Int} (hx : textOk t = true) (hf : fitB t = true) {k0 : Bool → (List Int) → (List T_Piece) → Int → Int → Int → Option Ret} {k1 : (List Int) → (List T_Piece) → Int → Int → Int → Option Ret} : ∀ (m i : Nat), i ≤ (chunksL t).length → (chunksL t).length - i < m →
    Q_l_FnChunks_9_0 m ((i : Nat) : Int) t (chunksL t) (measD ((chunksL t).take i).flatten).1 (measD ((chunksL t).take i).flatten).2.1 (measD ((chunksL t).take i).flatten).2.2 k0 k1 = k1 t (chunksL t) (measD t).1 (measD t).2.1 (measD t).2.2
  | 0, i, _, hm => by omega
  | m + 1, i, hi, hm => by
    have hv := (textOk_iff.1 hx).2
    have hlen := (textOk_iff.1 hx).1
    obtain ⟨h1, h2, h3, _⟩ := chunksL_ok _ t (Nat.le_refl _) hv
    have ih := chunks_go hx hf (k0 := k0) (k1 := k1) m
    have hcnt : (chunksL t).length ≤ 400 := by
      have : ∀ (l : List (List Int)), (∀ d ∈ l, 1 ≤ d.length) → l.length ≤ l.flatten.length := fun l => by
        induction l with
        | nil => intro _; simp
        | cons d l ihl =>
          intro hh
          have a := ihl fun x hx => hh x (List.mem_cons_of_mem _ hx)
          have b := hh d List.mem_cons_self
          rw [List.flatten_cons, List.length_append, List.length_cons]; omega
      have := this _ (fun d hd => (h2 d hd).1)
      rw [h1] at this
      omega
    have htk : ∀ j, textOk ((chunksL t).take j).flatten = true := fun j => by
      rw [textOk_iff]
      have := flat_take_len (chunksL t) j
      rw [h1] at this
      exact ⟨by omega, valid_flat _ (fun d hd => (h2 d (List.mem_of_mem_take hd)).2.2)⟩
    have hsub : ∀ d ∈ chunksL t, fitB d = true := fun d hd => by
      refine fitB_of (by have := h2 d hd; omega) (fun x hx => fitB_mem hf ?_)
      rw [← h1]
      exact List.mem_flatten.2 ⟨d, hd, hx⟩
    show P_l_FnChunks_9_0 ((i : Nat) : Int) t (chunksL t) _ _ _ _ _ _ = _
    unfold P_l_FnChunks_9_0
    generalize chunksL t = L at *
    by_cases hlt : i < L.length
    · have hmem : L.getD i [] ∈ L := by rw [getD_lt [] hlt]; exact List.getElem_mem hlt
      obtain ⟨d1, d2, d3⟩ := h2 _ hmem
      have hd4 : textOk (L.getD i []) = true := textOk_iff.2 ⟨by omega, d3⟩
      have hck : chunkOkD (L.getD i []) = true := by
        unfold chunkOkD
        rw [decide_eq_true (show (1 : Int) ≤ (((L.getD i []).length : Nat) : Int) by omega), decide_eq_true (show (((L.getD i []).length : Nat) : Int) ≤ 16 by omega), hd4]; rfl
      have hfl : (L.take (i + 1)).flatten = (L.take i).flatten ++ L.getD i [] := flatten_take hlt
      have hadd : measAddD ((measD (L.take i).flatten).1, ((measD (L.take i).flatten).2.1, (measD (L.take i).flatten).2.2)) (measD (L.getD i [])) = measD (L.take (i + 1)).flatten := by
        rw [hfl]
        exact measD_app (htk i) hd4 (by rw [← hfl]; exact htk (i + 1))
      rw [decide_eq_true (show ((i : Nat) : Int) < ((L.length : Nat) : Int) by omega), decide_eq_true (show (0 : Int) ≤ ((i : Nat) : Int) by omega), Int.toNat_natCast, show L.getD i pieceR.dflt = L.getD i [] from rfl, hsub _ hmem, hck, wrap_in (n := ((i : Nat) : Int) + 1) (by omega) (by omega), show ((i : Nat) : Int) + 1 = ((i + 1 : Nat) : Int) by omega, hadd, Int.toNat_natCast]
      have step := ih (i + 1) (by omega) (by omega)
      by_cases hl2 : i + 1 < L.length
      · have hmem2 : L.getD (i + 1) [] ∈ L := by rw [getD_lt [] hl2]; exact List.getElem_mem hl2
        have hti := tight_get i h3 hl2
        have hle := runeSz_le (L.getD (i + 1) [])
        have hl16 := h2 _ hmem2
        rw [decide_eq_true (show ((i + 1 : Nat) : Int) < ((L.length : Nat) : Int) by omega), decide_eq_true (show (0 : Int) ≤ ((i + 1 : Nat) : Int) by omega), show L.getD (i + 1) pieceR.dflt = L.getD (i + 1) [] from rfl, hsub _ hmem2, szAt_in (by omega) (by omega), show Int.toNat 0 = 0 from rfl, List.drop_zero, wrap_in (by omega) (by omega), decide_eq_false (show ¬ (((L.getD i []).length : Nat) : Int) + ((runeSz (L.getD (i + 1) []) : Nat) : Int) ≤ 16 by omega)]
        exact step
      · rw [decide_eq_false (show ¬ ((i + 1 : Nat) : Int) < ((L.length : Nat) : Int) by omega)]
        exact step
    · obtain rfl : i = L.length := by omega
      rw [decide_eq_false (show ¬ ((L.length : Nat) : Int) < ((L.length : Nat) : Int) by omega), List.take_length, h1]; rfl
def S_l_FnChunks : Sm := S_fnR [.l bytesR] (fun d => d.1.all isB) (fun d => (bl true, []))
theorem v_l_FnChunks (code : List Int) (h : (code.all isB) = true) (K : Ret → Option Ret) : T_l_FnChunks code K = K (bl true, []) := by
  unfold T_l_FnChunks
  by_cases hc : ((code.length : Nat) : Int) > 1048576
  · rw [decide_eq_true hc]; rfl
  have hf : fitB code = true := by unfold fitB; rw [Bool.and_eq_true]; exact ⟨Nat.ble_eq_true_of_le (by omega), h⟩
  rw [decide_eq_false hc]
  obtain ⟨t, ⟨ht, htl⟩, hk⟩ := b_s_DrawChunksOf code hf
  rw [cond_false, hk, ht]
  simp only [cond_true, meet_self]
  cases hx : textOk t with
  | false => rfl
  | true =>
    simp only [Bool.not_true, cond_false, cond_true]
    have hv := (textOk_iff.1 hx).2
    have hlen := (textOk_iff.1 hx).1
    obtain ⟨h1, h2, _, _⟩ := chunksL_ok _ t (Nat.le_refl _) hv
    unfold R_l_FnChunks_9_0
    have hm0 : measD ((chunksL t).take 0).flatten = (0, 0, 0) := by
      rw [List.take_zero]
      show measD [] = _
      unfold measD
      rw [show textOk [] = true from textOk_iff.2 ⟨Nat.zero_le _, valid_nil⟩, cntR_nil]; rfl
    have go : ∀ (k0 : Bool → (List Int) → (List T_Piece) → Int → Int → Int → Option Ret) (k1 : (List Int) → (List T_Piece) → Int → Int → Int → Option Ret) (m : Nat), (chunksL t).length < m → Q_l_FnChunks_9_0 m (0 : Int) t (chunksL t) 0 0 0 k0 k1 = k1 t (chunksL t) (measD t).1 (measD t).2.1 (measD t).2.2 := fun k0 k1 m hm => by
      have g := chunks_go hx ht (k0 := k0) (k1 := k1) m 0 (Nat.zero_le _) (by omega)
      rw [hm0] at g
      exact g
    refine (go _ _ _ (by omega)).trans ?_
    have hsub : ∀ d ∈ chunksL t, fitB d = true := fun d hd => by
      refine fitB_of (by have := h2 d hd; omega) (fun x hx => fitB_mem ht ?_)
      rw [← h1]
      exact List.mem_flatten.2 ⟨d, hd, hx⟩
    have hok : chunksOkD (chunksL t) = true := chunksOkD_iff.2 ⟨fun d hd => by
      obtain ⟨d1, d2, d3⟩ := h2 d hd
      unfold chunkOkD
      rw [decide_eq_true (show (1 : Int) ≤ ((d.length : Nat) : Int) by omega), decide_eq_true (show ((d.length : Nat) : Int) ≤ 16 by omega), textOk_iff.2 ⟨by omega, d3⟩]; rfl, by rw [← sumW_flat, h1]; exact hlen⟩
    have hcn := chunksOkD_count hok
    have hfit : fitC (.sl chunkR) (chunksL t) = true := fitC_mk (by omega) (fun x hx => hsub x hx)
    have htx : chunksTextD (chunksL t) = t := by unfold chunksTextD; rw [hok, cond_true, h1]
    have he : eqI ((measD t).1 :: ((measD t).2.1 :: ((measD t).2.2 :: ([] : List Int)))) ((measD t).1 :: ((measD t).2.1 :: ((measD t).2.2 :: ([] : List Int)))) = true := by simp [eqI]
    rw [hfit, htx, ht, he, beq_self_eq_true, show (measD t).1 = ((t.length : Nat) : Int) by unfold measD; rw [hx]; rfl, beq_self_eq_true]
    rfl
theorem okS_l_FnChunks : OkFn prog I N.l_FnChunks true S_l_FnChunks := okN (ok_fn (memc okS_l_big (memc okS_s_DrawChunksOf (memc okS_l_bytesOf (memc okS_i_ChunksOf (memc okS_s_TextOk (memc okS_i_MeasOf (memc okS_i_MeasAdd (memc okS_s_ChunkOk (memc okS_s_RuneSize (memc okS_i_ChunksText mem0)))))))))) (l := ls_l_FnChunks) (p := pl_l_FnChunks) (ls := [(9, [3,4,5,6], [2,3,4,5], W_l_FnChunks_9)]) (lend := []) (focus := false) (fuel := 0) (give := []) (fn := F.l_FnChunks) (by kernel_rfl) (by kernel_rfl) (by kernel_rfl) (by kernel_rfl) (cs := [bodyOf F.l_FnChunks 9]) (by kernel_rfl) (loopsc loopK_l_FnChunks_9 loops0)) (S_fnR_of fun d K h => (e_l_FnChunks d.1 K).trans (v_l_FnChunks d.1 h K))
end Go.Ev.Seat
end
section
/- The law FnChunks: it answers true. Printed by lawrand.py. -/
namespace Go.Ev.Seat
open Go.RowKit
set_option linter.unusedVariables false
theorem ok_Chunks (T : MText) : OkFn prog I N.l_FnChunks true S_l_FnChunks := okS_l_FnChunks
theorem law_Chunks (T : MText) (code : List Int) (K : Ret → Option Ret) (hwf : (Cc.sl bytesR).wf code) : S_l_FnChunks [.l .no bytesR code] K = K (bl true, []) := by
  have hb : code.all isB = true := List.all_eq_true.2 (fun x hx => fitR_of bytesR x (hwf.2 x hx) rfl)
  show (bif code.all isB then K (bl true, []) else none) = _
  rw [hb]; rfl
end Go.Ev.Seat
end
section
/- Kinds of types that come in, checked by reckoning. -/
set_option linter.unusedVariables false
namespace Go.Ev
open Go.RowKit
mutual
def ccN (P : Program) : Nat → Cc → TypeId → Bool
  | 0, _, _ => false
  | n + 1, c, t => match c, P.underlying t with
    | .int k, some (.int k') => decide (k' = k)
    | .bool, some .bool => true
    | .str, some .string => true
    | .sl r, some (.slice e) => Nat.beq (P.cellsOf e) r.n && (match layN P n r.list e with
      | some [] => true
      | _ => false)
    | _, _ => false
/-- The cells of a type, taken off a list: what is left. -/
def layN (P : Program) : Nat → List Cc → TypeId → Option (List Cc)
  | 0, _, _ => none
  | n + 1, cs, t => match cs with
    | [] => none
    | c :: rest => bif ccN P n c t then some rest else match P.underlying t with
      | some (.struct fs) => fsN P n (c :: rest) 0 fs.toList
      | _ => none
def fsN (P : Program) : Nat → List Cc → Nat → List Field → Option (List Cc)
  | 0, _, _, _ => none
  | n + 1, cs, i, fs => match fs with
    | [] => some cs
    | f :: rest => bif Nat.beq f.offset i then (match layN P n cs f.type with
      | some cs' => bif Nat.beq (P.cellsOf f.type + cs'.length) cs.length then fsN P n cs' (i + P.cellsOf f.type) rest else none
      | none => none) else none
end
theorem kinds_ok {P : Program} : ∀ (n : Nat), (∀ c t, ccN P n c t = true → CcOk P c t) ∧ (∀ cs t rest, layN P n cs t = some rest → ∃ pre, cs = pre ++ rest ∧ LayOk P pre t) ∧ ∀ cs i fs rest, fsN P n cs i fs = some rest → ∃ pre, cs = pre ++ rest ∧ LayFs P pre i fs
  | 0 => ⟨fun _ _ h => by simp [ccN] at h, fun _ _ _ h => by simp [layN] at h, fun _ _ _ _ h => by simp [fsN] at h⟩
  | n + 1 => by
    obtain ⟨h1, h2, h3⟩ := kinds_ok (P := P) n
    refine ⟨fun c t h => ?_, fun cs t rest h => ?_, fun cs i fs rest h => ?_⟩
    · simp only [ccN] at h
      split at h
      · rename_i k k' hu
        have := of_decide_eq_true h
        subst this
        exact .int hu
      · rename_i hu; exact .bool hu
      · rename_i hu; exact .str hu
      · rename_i r e hu
        simp only [Bool.and_eq_true] at h
        obtain ⟨g1, g2⟩ := h
        split at g2
        · rename_i hl
          obtain ⟨pre, e1, e2⟩ := h2 _ _ _ hl
          rw [List.append_nil] at e1
          exact .sl hu (Nat.eq_of_beq_eq_true g1) (e1 ▸ e2)
        · cases g2
      · cases h
    · simp only [layN] at h
      split at h
      · cases h
      · rename_i c rest'
        cases hc : ccN P n c t with
        | true =>
          rw [hc] at h
          cases h
          exact ⟨[c], rfl, .one (h1 _ _ hc)⟩
        | false =>
          rw [hc] at h
          simp only [cond_false] at h
          split at h
          · rename_i fs hu
            obtain ⟨pre, e1, e2⟩ := h3 _ _ _ _ h
            exact ⟨pre, e1, .st hu e2⟩
          · cases h
    · simp only [fsN] at h
      split at h
      · cases h
        exact ⟨[], rfl, .nil⟩
      · rename_i f rest'
        cases ho : Nat.beq f.offset i with
        | false => rw [ho] at h; cases h
        | true =>
          rw [ho] at h
          simp only [cond_true] at h
          split at h
          · rename_i cs' hl
            obtain ⟨pre, e1, e2⟩ := h2 _ _ _ hl
            cases hb : Nat.beq (P.cellsOf f.type + cs'.length) cs.length with
            | false => rw [hb] at h; cases h
            | true =>
              rw [hb] at h
              simp only [cond_true] at h
              have hlen := Nat.eq_of_beq_eq_true hb
              have hp : P.cellsOf f.type = pre.length := by rw [e1, List.length_append] at hlen; omega
              obtain ⟨pre2, e3, e4⟩ := h3 _ _ _ _ h
              rw [hp] at e4
              refine ⟨pre ++ pre2, by rw [e1, e3, List.append_assoc], .cons (Nat.eq_of_beq_eq_true ho) hp e2 e4⟩
          · cases h
def ccB (P : Program) (c : Cc) (t : TypeId) : Bool := ccN P 100 c t
theorem ccB_ok {P : Program} (c : Cc) {t : TypeId} (h : ccB P c t = true) : CcOk P c t := (kinds_ok 100).1 c t h
end Go.Ev
end
section
/- An argument of one cell. -/
set_option linter.unusedVariables false
namespace Go.Ev
theorem cells_one {P : Program} {W : World} {r : Reach} {base : Nat} {c : Cc} {t : TypeId} {v : Value} (h : CcOk P c t) (ok : Value.okWide P W r base t v) : v.cells.toList = [v] := by
  cases v with
  | agg cs =>
    exfalso
    unfold Value.okWide at ok
    cases h with
    | int h => rw [h] at ok; simp [Cell.okWide, Cell.ok, h] at ok
    | bool h => rw [h] at ok; simp [Cell.okWide, Cell.ok, h] at ok
    | str h => rw [h] at ok; simp [Cell.okWide, Cell.ok, h] at ok
    | sl h _ _ => rw [h] at ok; simp [Cell.okWide, Cell.ok, h] at ok
  | _ => rfl
end Go.Ev
end
section
/- What a row's list gives of the tables of unicode/utf8. -/
set_option linter.unusedVariables false
namespace Go.Ev
open Go
variable {H : Type} {enc : TypeId × Value → H} {P : Program} {w : World} {base : Nat} {sp : Nat → Bool} {held : Bool}

/-- An array's cells, element by element. -/
theorem trod_arr {fuel : Nat} {t e : TypeId} {n m : Nat} {cs : List Value} {ds : List (DataW H)} {p : List MemPlace}
    (ht : P.underlying t = some (.array n e)) (hce : P.cellsOf e = m) (hct : P.cellsOf t = n * m)
    (h : DataW.trod enc P w base sp held fuel t cs = some (.agg ds, p)) :
    cs.length = n * m ∧ ds.length = n ∧ ∀ (i : Nat) (d : DataW H), ds[i]? = some d → ∃ f q, DataW.trod enc P w base sp held f e ((cs.drop (i * m)).take m) = some (d, q) := by
  cases fuel with
  | zero => simp [DataW.trod] at h
  | succ fuel =>
    simp only [DataW.trod, ht, hce, hct] at h
    split at h
    · rename_i hl
      obtain ⟨xs, hm, hx⟩ := Option.map_eq_some_iff.1 h
      have hxs : xs.map (·.1) = ds := by
        have := congrArg Prod.fst hx
        simpa using this
      have hxl : xs.length = n := by simpa using Lib.mapM_length hm
      refine ⟨by simpa using hl, by rw [← hxs]; simp [hxl], fun i d hd => ?_⟩
      rw [← hxs] at hd
      rw [List.getElem?_map, Option.map_eq_some_iff] at hd
      obtain ⟨b, hb, rfl⟩ := hd
      have hi : i < n := by
        have := (List.getElem?_eq_some_iff.1 hb).1
        omega
      obtain ⟨b', hb', hf⟩ := Lib.mapM_at hm i i (by simp [hi])
      obtain rfl := Option.some.inj (hb.symm.trans hb')
      exact ⟨fuel, b.2, hf⟩
    · cases h
theorem trod_u8 {fuel : Nat} {t : TypeId} {k : IntKind} {cs : List Value} {z : Int} {p : List MemPlace} (ht : P.underlying t = some (.int k))
    (h : DataW.trod enc P w base sp held fuel t cs = some (.lit (.int k z), p)) : cs = [.int k z] := by
  cases fuel with
  | zero => simp [DataW.trod] at h
  | succ fuel =>
    obtain ⟨z', hc, h2, _⟩ := DataW.trod_int ht h
    cases h2
    exact hc
/-- A struct of two small cells. -/
theorem trod_two {fuel : Nat} {t : TypeId} {fs : Array Field} {f g : Field} {k : IntKind} {cs : List Value} {x y : Int} {p : List MemPlace}
    (ht : P.underlying t = some (.struct fs)) (hfs : fs.toList = [f, g]) (hc : P.cellsOf t = 2) (hf0 : f.offset = 0) (hg0 : g.offset = 1) (hf : P.underlying f.type = some (.int k)) (hg : P.underlying g.type = some (.int k))
    (hcf : P.cellsOf f.type = 1) (hcg : P.cellsOf g.type = 1)
    (h : DataW.trod enc P w base sp held fuel t cs = some (.agg [.lit (.int k x), .lit (.int k y)], p)) : cs = [.int k x, .int k y] := by
  cases fuel with
  | zero => simp [DataW.trod] at h
  | succ fuel =>
    simp only [DataW.trod, ht, hfs, hc, hf0, hg0, hcf, hcg] at h
    split at h
    · rename_i hl
      obtain ⟨xs, hm, hx⟩ := Option.map_eq_some_iff.1 h
      have hxs : xs.map (·.1) = [.lit (.int k x), .lit (.int k y)] := by
        have := congrArg Prod.fst hx
        simpa using this
      obtain ⟨b0, hb0, h0⟩ := Lib.mapM_at hm 0 f rfl
      obtain ⟨b1, hb1, h1⟩ := Lib.mapM_at hm 1 g rfl
      have e0 : b0.1 = .lit (.int k x) := by
        have := congrArg (·[0]?) hxs
        simpa [hb0] using this
      have e1 : b1.1 = .lit (.int k y) := by
        have := congrArg (·[1]?) hxs
        simpa [hb1] using this
      obtain ⟨d0, q0⟩ := b0
      obtain ⟨d1, q1⟩ := b1
      simp only at e0 e1
      subst e0 e1
      rw [hf0, hcf] at h0
      rw [hg0, hcg] at h1
      have a0 := trod_u8 hf h0
      have a1 := trod_u8 hg h1
      match cs, hl, a0, a1 with
      | [u, v], _, a0, a1 =>
        simp at a0 a1
        rw [a0, a1]
      | [], hl, _, _ => simp at hl
      | [_], hl, _, _ => simp at hl
      | _ :: _ :: _ :: _, hl, _, _ => simp at hl
    · cases h
theorem laid_at {laid : List (String × DataW Unit)} {W : World} {ps : List MemPlace} (h : DataW.LaidVars P W laid ps) {i : Nat} {name : String} {d : DataW Unit} (hi : laid[i]? = some (name, d)) {g : Nat} {t : TypeId}
    (hg : P.globalNamed name = some g) (hty : (P.globals[g]?).map (·.type) = some t) : ∃ cs fuel p, W.var? P name = some cs ∧ DataW.trod (fun _ => ()) P W 0 (fun _ => true) false fuel t cs.toList = some (d, p) := by
  induction laid generalizing ps i with
  | nil => simp at hi
  | cons x rest ih =>
    obtain ⟨n, d'⟩ := x
    obtain ⟨g', t', cs, fuel, p, q, hg', ht', hvar, hd, hr, _⟩ := h
    cases i with
    | zero =>
      simp only [List.getElem?_cons_zero, Option.some.injEq, Prod.mk.injEq] at hi
      obtain ⟨rfl, rfl⟩ := hi
      obtain rfl := Option.some.inj (hg.symm.trans hg')
      obtain rfl := Option.some.inj (hty.symm.trans ht')
      exact ⟨cs, fuel, p, hvar, hd⟩
    | succ i => exact ih hr (by simpa using hi)
theorem var_lt {W : World} {name : String} {g : Nat} {cs : Array Value} (hg : P.globalNamed name = some g) (h : W.var? P name = some cs) : g < W.heap.size := by
  unfold World.var? at h
  rw [hg] at h
  simp only [Option.bind_some] at h
  split at h
  · rename_i hh
    exact (Array.getElem?_eq_some_iff.1 hh).1
  · cases h
/-- THE TWO TABLES, off the list of a row. -/
theorem globI_utf {W : World} {d0 d1 : DataW Unit} (hm : laidMet P [("unicode/utf8.acceptRanges", d1), ("unicode/utf8.first", d0)] W)
    (hd0 : d0 = .agg (utfFirst.map fun z => .lit (.int .u8 z))) (hd1 : d1 = .agg (utfAccept.map fun z => .agg [.lit (.int .u8 z.1), .lit (.int .u8 z.2)]))
    {t0 t1 e0 e1 : TypeId} (hg0 : P.globalNamed "unicode/utf8.first" = some 0) (hg1 : P.globalNamed "unicode/utf8.acceptRanges" = some 1)
    (hy0 : (P.globals[0]?).map (·.type) = some t0) (hy1 : (P.globals[1]?).map (·.type) = some t1)
    (ht0 : P.underlying t0 = some (.array 256 e0)) (ht1 : P.underlying t1 = some (.array 16 e1)) (he0 : P.underlying e0 = some (.int .u8))
    {fs : Array Field} {f g : Field} (he1 : P.underlying e1 = some (.struct fs)) (hfs : fs.toList = [f, g]) (hf0 : f.offset = 0) (hgo : g.offset = 1) (hf : P.underlying f.type = some (.int .u8)) (hg : P.underlying g.type = some (.int .u8))
    (hcf : P.cellsOf f.type = 1) (hcg : P.cellsOf g.type = 1) (hc0 : P.cellsOf t0 = 256) (hc1 : P.cellsOf t1 = 32) (hce0 : P.cellsOf e0 = 1) (hce1 : P.cellsOf e1 = 2) : GlobI utfGlob W.heap.size W := by
  obtain ⟨ps, hL, _⟩ := hm
  obtain ⟨cs1, fu1, p1, hv1, hr1⟩ := laid_at hL (i := 0) rfl hg1 hy1
  obtain ⟨cs0, fu0, p0, hv0, hr0⟩ := laid_at hL (i := 1) rfl hg0 hy0
  subst hd0 hd1
  obtain ⟨l0, n0, r0⟩ := trod_arr (n := 256) (m := 1) ht0 hce0 hc0 hr0
  obtain ⟨l1, n1, r1⟩ := trod_arr (n := 16) (m := 2) ht1 hce1 hc1 hr1
  intro gg r xs hgg
  unfold utfGlob at hgg
  by_cases h0 : gg = 0
  · subst h0
    simp only [Nat.beq, cond_true, Option.some.injEq, Sigma.mk.injEq] at hgg
    obtain ⟨rfl, hxs⟩ := hgg
    cases hxs
    refine ⟨var_lt hg0 hv0, fun i d hd => ?_⟩
    obtain ⟨f', q, hq⟩ := r0 i _ (by rw [List.getElem?_map, hd]; rfl)
    have hcs := trod_u8 he0 hq
    refine ⟨[.int .u8 d], rfl, fun j v hj => ?_, fun C w => ⟨.int .u8 d, [], rfl, ⟨rfl, rfl⟩, rfl⟩⟩
    match j, hj with
    | 0, hj =>
      cases hj
      rw [World.var?_cell hg0 hv0]
      have := congrArg (·[0]?) hcs
      simpa [Rw.n, List.getElem?_take, List.getElem?_drop] using this
    | j + 1, hj => simp at hj
  · by_cases h1 : gg = 1
    · subst h1
      simp only [Nat.beq, cond_true, cond_false, Option.some.injEq, Sigma.mk.injEq] at hgg
      obtain ⟨rfl, hxs⟩ := hgg
      cases hxs
      refine ⟨var_lt hg1 hv1, fun i d hd => ?_⟩
      obtain ⟨f', q, hq⟩ := r1 i _ (by rw [List.getElem?_map, hd]; rfl)
      have hcs := trod_two he1 hfs hce1 hf0 hgo hf hg hcf hcg hq
      refine ⟨[.int .u8 d.1, .int .u8 d.2], rfl, fun j v hj => ?_, fun C w => ⟨.int .u8 d.1, [.int .u8 d.2], rfl, ⟨rfl, rfl⟩, ⟨.int .u8 d.2, [], rfl, ⟨rfl, rfl⟩, rfl⟩⟩⟩
      match j, hj with
      | 0, hj =>
        cases hj
        rw [World.var?_cell hg1 hv1]
        have := congrArg (·[0]?) hcs
        simpa [Rw.n, List.getElem?_take, List.getElem?_drop] using this
      | 1, hj =>
        cases hj
        rw [World.var?_cell hg1 hv1]
        have := congrArg (·[1]?) hcs
        simpa [Rw.n, List.getElem?_take, List.getElem?_drop] using this
      | j + 2, hj => simp at hj
    · exfalso
      match gg, h0, h1 with
      | 0, h0, _ => exact h0 rfl
      | 1, _, h1 => exact h1 rfl
      | n + 2, _, _ => simp [Nat.beq] at hgg
def u8B (P : Program) (t : TypeId) : Bool := match P.underlying t with
  | some (.int .u8) => P.cellsOf t == 1
  | _ => false
theorem u8B_ok {t : TypeId} (h : u8B P t = true) : P.underlying t = some (.int .u8) ∧ P.cellsOf t = 1 := by
  unfold u8B at h
  split at h
  · rename_i e; exact ⟨e, by simpa using h⟩
  · cases h
def twoB (P : Program) (t : TypeId) : Bool := match P.underlying t with
  | some (.struct fs) => match fs.toList with
    | [f, g] => f.offset == 0 && g.offset == 1 && u8B P f.type && u8B P g.type && P.cellsOf t == 2
    | _ => false
  | _ => false
/-- The two tables' types, looked at. -/
def tabB (P : Program) (t0 t1 e0 e1 : TypeId) : Bool :=
  P.globalNamed "unicode/utf8.first" == some 0 && P.globalNamed "unicode/utf8.acceptRanges" == some 1 && (P.globals[0]?).map (·.type) == some t0 && (P.globals[1]?).map (·.type) == some t1 &&
  P.cellsOf t0 == 256 && P.cellsOf t1 == 32 && u8B P e0 && twoB P e1
theorem globI_utfB {W : World} {d0 d1 : DataW Unit} (hm : laidMet P [("unicode/utf8.acceptRanges", d1), ("unicode/utf8.first", d0)] W)
    (hd0 : d0 = .agg (utfFirst.map fun z => .lit (.int .u8 z))) (hd1 : d1 = .agg (utfAccept.map fun z => .agg [.lit (.int .u8 z.1), .lit (.int .u8 z.2)]))
    (t0 t1 e0 e1 : TypeId) (hB : tabB P t0 t1 e0 e1 = true) (ht0 : P.underlying t0 = some (.array 256 e0)) (ht1 : P.underlying t1 = some (.array 16 e1)) : GlobI utfGlob W.heap.size W := by
  unfold tabB at hB
  simp only [Bool.and_eq_true, beq_iff_eq] at hB
  obtain ⟨⟨⟨⟨⟨⟨⟨a1, a2⟩, a3⟩, a4⟩, a5⟩, a6⟩, a7⟩, a8⟩ := hB
  unfold twoB at a8
  split at a8
  · rename_i fs hfs
    split at a8
    · rename_i f g hfg
      simp only [Bool.and_eq_true, beq_iff_eq] at a8
      obtain ⟨⟨⟨⟨b1, b2⟩, b3⟩, b4⟩, b5⟩ := a8
      obtain ⟨c1, c2⟩ := u8B_ok b3
      obtain ⟨c3, c4⟩ := u8B_ok b4
      obtain ⟨c5, c6⟩ := u8B_ok a7
      exact globI_utf hm hd0 hd1 a1 a2 a3 a4 ht0 ht1 c5 hfs hfg b1 b2 c1 c3 c2 c4 a5 a6 c6 b5
    · cases a8
  · cases a8
def lay (xs : List Value) : Obj → Obj
  | .cells _ t frozen => .cells xs.toArray t frozen
  | o => o
/-- What the tables' initialisers lay. -/
def layUtf (h : Array Obj) : Array Obj := (h.modify 0 (lay (utfFirst.map fun z => .int .u8 z))).modify 1 (lay (utfAccept.flatMap fun z => [.int .u8 z.1, .int .u8 z.2]))
end Go.Ev
end
