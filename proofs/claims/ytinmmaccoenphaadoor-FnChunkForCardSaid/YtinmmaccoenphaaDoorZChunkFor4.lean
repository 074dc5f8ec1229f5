/- ChunkFor: parts FsRuneSize Fsl01Cuts FsTextOk FsChunkOk FsChunksOk FsChunksText Fsl01Curraw Fsl01Curplace FsDrawChunkFor Fiin Futf8wordbytes Futf8Valid FiisChunk FiareChunks PUtf3 PUtf4 PUtf2 PUtf5 PUtf6 PChunk FichunksText FichunkFor FiChunkFor FsChunkFor FiChunksText FlFnChunkFor EvLChunkFor EvKind EvOne EvTab, packed by squash.py. -/
import Derived.Lib.RuneCountTail
import GoSem.ClaimWide
import Derived.Lib.LaidTab
import GoSem.PinnedTables
import Derived.Test.YtinmmaccoenphaaDoorZChunkFor0
import Derived.Test.YtinmmaccoenphaaDoorZChunkFor1
import Derived.Test.YtinmmaccoenphaaDoorZChunkFor2
import Derived.Test.YtinmmaccoenphaaDoorZChunkFor3
set_option linter.unusedVariables false
set_option linter.unusedSimpArgs false
section
/- s_RuneSize: its contract. -/
namespace Go.Ev.Seat
open Go.RowKit
set_option maxRecDepth 100000
set_option linter.unusedVariables false
set_option linter.unusedSimpArgs false
noncomputable abbrev ls_s_RuneSize : List (Nat × Bool × Sm) := [(N.s_l01Rune, true, S_s_l01Rune)]
noncomputable abbrev E_s_RuneSize : Env := En ls_s_RuneSize [] [] [] false 0 []
noncomputable def T_s_RuneSize (d : List Int) (k : Int) (K : Ret → Option Ret) : Option Ret := (bif (fitB d) then K ((.s (.int .i64 (szAt d k))), []) else none)
theorem e_s_RuneSize (d : List Int) (k : Int) (K : Ret → Option Ret) : evF E_s_RuneSize true F.s_RuneSize [.l .no bytesR d, .s (.int .i64 k)] K = T_s_RuneSize d k K := by kernel_rfl
def S_s_RuneSize : Sm := S_fnR [.l bytesR, .i] (fun d => fitB d.1) (fun d => (sc (szAt d.1 d.2.1), []))
theorem v_s_RuneSize (d : List Int) (k : Int) (h : (fitB d) = true) (K : Ret → Option Ret) : T_s_RuneSize d k K = K (sc (szAt d k), []) := by
  unfold T_s_RuneSize; rw [h]; rfl
theorem okS_s_RuneSize : OkFn prog I N.s_RuneSize true S_s_RuneSize := okN (ok_fn (memc okS_s_l01Rune mem0) (l := ls_s_RuneSize) (p := []) (ls := []) (lend := []) (focus := false) (fuel := 0) (give := []) (fn := F.s_RuneSize) (by kernel_rfl) (by kernel_rfl) (by kernel_rfl) (by kernel_rfl) (cs := []) (by kernel_rfl) loops0) (S_fnR_of fun d K h => (e_s_RuneSize d.1 d.2.1 K).trans (v_s_RuneSize d.1 d.2.1 h K))
end Go.Ev.Seat
end
section
/- s_l01Cuts: its contract. -/
namespace Go.Ev.Seat
open Go.RowKit
set_option maxRecDepth 100000
set_option linter.unusedVariables false
set_option linter.unusedSimpArgs false
def z_s_l01Cuts_5_0 (x4 : Int) (o0 : List Int) : St := { tm := ([.x, .x, .nl, (.w 0), (.s (.int .i64 x4))] ++ List.replicate 25 .x), ob := [(0, (.arr true true intR o0))], nx := 1, io := [] }
def z_s_l01Cuts_5_1 (x4 : Int) (o0 : List Int) : St := { tm := ([.x, .x, .x, (.w 0), (.s (.int .i64 x4))] ++ List.replicate 25 .x), ob := [(0, (.arr true true intR o0))], nx := 1, io := [] }
def sh_s_l01Cuts_5_0 : Ss := { tm := (.cons (.l .no bytesR) (.cons (.x) (.cons (.x) (.cons (.w 0) (.cons (.int .i64) (xsh 25)))))), ob := (.arr true true intR .nil), nx := 1, io := .nil }
def d_s_l01Cuts_5_0 (x0 : List Int) (x4 : Int) (o0 : List Int) : sh_s_l01Cuts_5_0.T := ((x0, ((), ((), ((), (x4, xd 25))))), (o0, ()), ())
def s_s_l01Cuts_5_0 (x0 : List Int) (x4 : Int) (o0 : List Int) : St := { tm := ([(.l .no bytesR x0), .x, .x, (.w 0), (.s (.int .i64 x4))] ++ List.replicate 25 .x), ob := [(0, (.arr true true intR o0))], nx := 1, io := [] }
theorem se_s_l01Cuts_5_0 (x0 : List Int) (x4 : Int) (o0 : List Int) : sh_s_l01Cuts_5_0.mk' (d_s_l01Cuts_5_0 x0 x4 o0) = (s_s_l01Cuts_5_0 x0 x4 o0) := by kernel_rfl
def w_s_l01Cuts_5_0 (d : sh_s_l01Cuts_5_0.T) (f : (List Int) → Int → (List Int) → Option Ret) : Option Ret := match d with | ((x0, (_, (_, (_, (x4, _))))), (o0, _), _) => f x0 x4 o0
noncomputable def P_s_l01Cuts_5_0 (x0 : List Int) (x4 : Int) (o0 : List Int) (nx0 : (List Int) → Int → (List Int) → Option Ret) (k0 : Int → (List Int) → Option Ret) (k1 : Int → (List Int) → Option Ret) : Option Ret := (bif (decide (x4 < (((List.length x0) : Nat) : Int))) then (bif (fitB x0) then (bif ((szAt x0 x4) == (0 : Int)) then (k0 x4 o0) else (bif (Nat.ble (((List.length o0) + (List.length (x4 :: ([] : List Int)))) * 8) 140737488355328) then (nx0 x0 (IntKind.wrap .i64 (x4 + (szAt x0 x4))) (o0 ++ (x4 :: ([] : List Int)))) else none)) else none) else (k1 x4 o0))
noncomputable def Q_s_l01Cuts_5_0 : Nat → (List Int) → Int → (List Int) → (Int → (List Int) → Option Ret) → (Int → (List Int) → Option Ret) → Option Ret
  | 0, _, _, _, _, _ => none
  | m + 1, x0, x4, o0, k0, k1 => P_s_l01Cuts_5_0 x0 x4 o0 (fun x0 x4 o0 => (Q_s_l01Cuts_5_0 m x0 x4 o0 k0 k1)) k0 k1
noncomputable def R_s_l01Cuts_5_0 (x0 : List Int) (x4 : Int) (o0 : List Int) (k0 : Int → (List Int) → Option Ret) (k1 : Int → (List Int) → Option Ret) : Option Ret := Q_s_l01Cuts_5_0 (List.length x0 + x4.toNat + List.length o0 + 2) x0 x4 o0 k0 k1
noncomputable def W_s_l01Cuts_5 : LoopFn := (fun (σ : St) (K : Ex → St → Option Ret) => (match sh_s_l01Cuts_5_0.un σ with | some d => w_s_l01Cuts_5_0 d (fun x0 x4 o0 => R_s_l01Cuts_5_0 x0 x4 o0 (fun x4 o0 => (K .ret (z_s_l01Cuts_5_0 x4 o0))) (fun x4 o0 => (K (.ext 0) (z_s_l01Cuts_5_1 x4 o0)))) | none => none))
noncomputable abbrev ls_s_l01Cuts : List (Nat × Bool × Sm) := [(N.s_RuneSize, true, S_s_RuneSize)]
noncomputable abbrev E_s_l01Cuts : Env := En ls_s_l01Cuts [] [(5, [0,3,4], [2,3,4], W_s_l01Cuts_5)] [] false 0 []
noncomputable abbrev U_s_l01Cuts_5 := rounds (run E_s_l01Cuts (bodyOf F.s_l01Cuts 5)) [0,3,4] [2,3,4]
theorem st_s_l01Cuts_5_0 (m : Nat) (x0 : List Int) (x4 : Int) (o0 : List Int) (K : Ex → St → Option Ret) : U_s_l01Cuts_5 (m + 1) (s_s_l01Cuts_5_0 x0 x4 o0) K = P_s_l01Cuts_5_0 x0 x4 o0 (fun x0 x4 o0 => (U_s_l01Cuts_5 m (s_s_l01Cuts_5_0 x0 x4 o0) K)) (fun x4 o0 => (K .ret (z_s_l01Cuts_5_0 x4 o0))) (fun x4 o0 => (K (.ext 0) (z_s_l01Cuts_5_1 x4 o0))) := by kernel_rfl
theorem q_s_l01Cuts_5 (K : Ex → St → Option Ret) : ∀ m : Nat, (∀ (x0 : List Int) (x4 : Int) (o0 : List Int), U_s_l01Cuts_5 m (s_s_l01Cuts_5_0 x0 x4 o0) K = Q_s_l01Cuts_5_0 m x0 x4 o0 (fun x4 o0 => (K .ret (z_s_l01Cuts_5_0 x4 o0))) (fun x4 o0 => (K (.ext 0) (z_s_l01Cuts_5_1 x4 o0))))
  | 0 => (fun _ _ _ => rfl)
  | m + 1 => (fun x0 x4 o0 => (by rw [st_s_l01Cuts_5_0, show (fun x0 x4 o0 => (U_s_l01Cuts_5 m (s_s_l01Cuts_5_0 x0 x4 o0) K)) = (fun x0 x4 o0 => (Q_s_l01Cuts_5_0 m x0 x4 o0 (fun x4 o0 => (K .ret (z_s_l01Cuts_5_0 x4 o0))) (fun x4 o0 => (K (.ext 0) (z_s_l01Cuts_5_1 x4 o0))))) from funext fun x0 => funext fun x4 => funext fun o0 => (q_s_l01Cuts_5 K m) x0 x4 o0]; rfl))
theorem loopK_s_l01Cuts_5 : LoopOk E_s_l01Cuts (bodyOf F.s_l01Cuts 5) := by
  refine loopW_ok (n := 5) (F := W_s_l01Cuts_5) (by kernel_rfl) rfl (li := [0,3,4]) (lo := [2,3,4]) rfl (fun σ K r hr => ?_)
  unfold W_s_l01Cuts_5 at hr
  split at hr
  · rename_i d hd
    rw [Ss.un_mk hd]
    exact ⟨_, ((congrArg (fun z => U_s_l01Cuts_5 _ z K) (se_s_l01Cuts_5_0 _ _ _)).trans ((q_s_l01Cuts_5 K _) _ _ _)).trans hr⟩
  · cases hr
noncomputable def T_s_l01Cuts (d : List Int) (K : Ret → Option Ret) : Option Ret := (bif (decide ((((List.length d) : Nat) : Int) > (400 : Int))) then K ((.l .deep intR ([] : List Int)), []) else (R_s_l01Cuts_5_0 d (0 : Int) ([] : List Int) (fun y0 y1 => K ((.l .deep intR ([] : List Int)), [])) (fun y2 y3 => (bif (Nat.ble (((List.length y3) + (List.length (y2 :: ([] : List Int)))) * 8) 140737488355328) then K ((.l .deep intR (y3 ++ (y2 :: ([] : List Int)))), []) else none))))
theorem e_s_l01Cuts (d : List Int) (K : Ret → Option Ret) : evF E_s_l01Cuts true F.s_l01Cuts [.l .no bytesR d] K = T_s_l01Cuts d K := by kernel_rfl
theorem cuts_loop {d : List Int} (hd : fitB d = true) (F : Option Ret) (k1 : Int → List Int → Option Ret) : ∀ (m n : Nat) (o : List Int), n ≤ d.length → d.length - n < m → o.length ≤ n →
    Q_s_l01Cuts_5_0 m d (n : Int) o (fun _ _ => F) k1 = bif valid (d.drop n) then k1 ((d.length : Nat) : Int) (o ++ starts (d.drop n) (n : Int)) else F
  | 0, n, o, _, h, _ => absurd h (by omega)
  | m + 1, n, o, hn, hm, ho => by
    have hlen := fitB_len hd
    show P_s_l01Cuts_5_0 d (n : Int) o _ _ k1 = _
    unfold P_s_l01Cuts_5_0
    by_cases hl : n < d.length
    · rw [decide_eq_true (show (n : Int) < ((d.length : Nat) : Int) by omega), hd, szAt_in (by omega) (by omega), Int.toNat_natCast]
      simp only [cond_true]
      have hle := runeSz_le (d.drop n)
      rw [List.length_drop] at hle
      by_cases h0 : runeSz (d.drop n) = 0
      · rw [h0, valid_stop h0 (by simp; omega)]; rfl
      · rw [beq_eq_false_iff_ne.2 (show ¬ ((runeSz (d.drop n) : Nat) : Int) = 0 by omega), Nat.ble_eq_true_of_le (show (o.length + [(n : Int)].length) * 8 ≤ 140737488355328 by simp; omega), wrap_in (n := (n : Int) + (runeSz (d.drop n) : Nat)) (by omega) (by omega)]
        have e : (n : Int) + ((runeSz (d.drop n) : Nat) : Int) = ((n + runeSz (d.drop n) : Nat) : Int) := by omega
        simp only [cond_false, cond_true]
        rw [e]
        refine (cuts_loop hd F k1 m (n + runeSz (d.drop n)) (o ++ [(n : Int)]) (by omega) (by omega) (by simp; omega)).trans ?_
        rw [valid_step h0, starts_step h0, List.drop_drop, List.append_assoc, List.singleton_append, e]
    · have : n = d.length := by omega
      subst this
      rw [decide_eq_false (show ¬ ((d.length : Nat) : Int) < ((d.length : Nat) : Int) by omega), List.drop_length, valid_nil, starts_stop (by rfl), List.append_nil]; rfl
def S_s_l01Cuts : Sm := S_fnR [.l bytesR] (fun d => fitB d.1) (fun d => (.l .deep intR (cutsD d.1), []))
theorem v_s_l01Cuts (d : List Int) (h : (fitB d) = true) (K : Ret → Option Ret) : T_s_l01Cuts d K = K (.l .deep intR (cutsD d), []) := by
  unfold T_s_l01Cuts cutsD
  by_cases h4 : ((d.length : Nat) : Int) > 400
  · rw [decide_eq_true h4, show textOk d = false from Bool.eq_false_iff.2 (fun he => by have := (textOk_iff.1 he).1; omega)]; rfl
  · rw [decide_eq_false h4]
    unfold R_s_l01Cuts_5_0
    have := cuts_loop h (K (.l .deep intR [], [])) (fun y2 y3 => (bif (Nat.ble (((List.length y3) + (List.length (y2 :: []))) * 8) 140737488355328) then K ((.l .deep intR (y3 ++ (y2 :: []))), []) else none)) (List.length d + (0 : Int).toNat + List.length ([] : List Int) + 2) 0 [] (by omega) (by omega) (by simp)
    refine Eq.trans this ?_
    rw [List.drop_zero]
    cases hv : valid d with
    | false => rw [show textOk d = false from Bool.eq_false_iff.2 (fun he => by have := (textOk_iff.1 he).2; rw [hv] at this; cases this)]; rfl
    | true =>
      rw [textOk_iff.2 ⟨by omega, hv⟩]
      have hs := starts_len _ d 0 (Nat.le_refl _)
      simp only [cond_true, List.nil_append]
      rw [Nat.ble_eq_true_of_le (by simp; omega), bounds_starts _ d 0 (Nat.le_refl _) hv, Int.zero_add]
      rfl
theorem okS_s_l01Cuts : OkFn prog I N.s_l01Cuts true S_s_l01Cuts := okN (ok_fn (memc okS_s_RuneSize mem0) (l := ls_s_l01Cuts) (p := []) (ls := [(5, [0,3,4], [2,3,4], W_s_l01Cuts_5)]) (lend := []) (focus := false) (fuel := 0) (give := []) (fn := F.s_l01Cuts) (by kernel_rfl) (by kernel_rfl) (by kernel_rfl) (by kernel_rfl) (cs := [bodyOf F.s_l01Cuts 5]) (by kernel_rfl) (loopsc loopK_s_l01Cuts_5 loops0)) (S_fnR_of fun d K h => (e_s_l01Cuts d.1 K).trans (v_s_l01Cuts d.1 h K))
end Go.Ev.Seat
end
section
/- s_TextOk: its contract. -/
namespace Go.Ev.Seat
open Go.RowKit
set_option maxRecDepth 100000
set_option linter.unusedVariables false
set_option linter.unusedSimpArgs false
noncomputable abbrev ls_s_TextOk : List (Nat × Bool × Sm) := [(N.s_l01Cuts, true, S_s_l01Cuts)]
noncomputable abbrev E_s_TextOk : Env := En ls_s_TextOk [] [] [] false 0 []
noncomputable def T_s_TextOk (d : List Int) (K : Ret → Option Ret) : Option Ret := (bif (fitB d) then K ((.s (.bool (decide ((((List.length (cutsD d)) : Nat) : Int) > (0 : Int))))), []) else none)
theorem e_s_TextOk (d : List Int) (K : Ret → Option Ret) : evF E_s_TextOk true F.s_TextOk [.l .no bytesR d] K = T_s_TextOk d K := by kernel_rfl
def S_s_TextOk : Sm := S_fnR [.l bytesR] (fun d => fitB d.1) (fun d => (bl (textOk d.1), []))
theorem v_s_TextOk (d : List Int) (h : (fitB d) = true) (K : Ret → Option Ret) : T_s_TextOk d K = K (bl (textOk d), []) := by
  unfold T_s_TextOk
  rw [h]
  have e : decide ((((List.length (cutsD d)) : Nat) : Int) > (0 : Int)) = textOk d := by
    unfold cutsD
    cases textOk d with
    | false => rfl
    | true => exact decide_eq_true (show (((bounds d 0).length : Nat) : Int) > 0 by have := bounds_ne d 0; omega)
  rw [e]; rfl
theorem okS_s_TextOk : OkFn prog I N.s_TextOk true S_s_TextOk := okN (ok_fn (memc okS_s_l01Cuts mem0) (l := ls_s_TextOk) (p := []) (ls := []) (lend := []) (focus := false) (fuel := 0) (give := []) (fn := F.s_TextOk) (by kernel_rfl) (by kernel_rfl) (by kernel_rfl) (by kernel_rfl) (cs := []) (by kernel_rfl) loops0) (S_fnR_of fun d K h => (e_s_TextOk d.1 K).trans (v_s_TextOk d.1 h K))
end Go.Ev.Seat
end
section
/- s_ChunkOk: its contract. -/
namespace Go.Ev.Seat
open Go.RowKit
set_option maxRecDepth 100000
set_option linter.unusedVariables false
set_option linter.unusedSimpArgs false
noncomputable abbrev ls_s_ChunkOk : List (Nat × Bool × Sm) := [(N.s_TextOk, true, S_s_TextOk)]
noncomputable abbrev E_s_ChunkOk : Env := En ls_s_ChunkOk [] [] [] false 0 []
noncomputable def T_s_ChunkOk (d : T_Chunk) (K : Ret → Option Ret) : Option Ret := (bif (decide ((((List.length d) : Nat) : Int) ≥ (1 : Int))) then (bif (decide ((((List.length d) : Nat) : Int) ≤ (16 : Int))) then (bif (fitB d) then K ((.s (.bool (textOk d))), []) else none) else K ((.s (.bool false)), [])) else K ((.s (.bool false)), []))
theorem e_s_ChunkOk (d : T_Chunk) (K : Ret → Option Ret) : evF E_s_ChunkOk true F.s_ChunkOk [.a (chunkR.cells .no d)] K = T_s_ChunkOk d K := by kernel_rfl
def S_s_ChunkOk : Sm := S_fnR [.a chunkR] (fun d => fitB d.1) (fun d => (bl (chunkOkD d.1), []))
theorem v_s_ChunkOk (d : T_Chunk) (h : (fitB d) = true) (K : Ret → Option Ret) : T_s_ChunkOk d K = K (bl (chunkOkD d), []) := by
  unfold T_s_ChunkOk chunkOkD
  rw [h, show decide (((d.length : Nat) : Int) ≥ 1) = decide (1 ≤ ((d.length : Nat) : Int)) from rfl]
  cases decide (1 ≤ ((d.length : Nat) : Int)) <;> cases decide (((d.length : Nat) : Int) ≤ 16) <;> rfl
theorem okS_s_ChunkOk : OkFn prog I N.s_ChunkOk true S_s_ChunkOk := okN (ok_fn (memc okS_s_TextOk mem0) (l := ls_s_ChunkOk) (p := []) (ls := []) (lend := []) (focus := false) (fuel := 0) (give := []) (fn := F.s_ChunkOk) (by kernel_rfl) (by kernel_rfl) (by kernel_rfl) (by kernel_rfl) (cs := []) (by kernel_rfl) loops0) (S_fnR_of fun d K h => (e_s_ChunkOk d.1 K).trans (v_s_ChunkOk d.1 h K))
end Go.Ev.Seat
end
section
/- s_ChunksOk: its contract. -/
namespace Go.Ev.Seat
open Go.RowKit
set_option maxRecDepth 100000
set_option linter.unusedVariables false
set_option linter.unusedSimpArgs false
def z_s_ChunksOk_3_0 (x2 : Bool) : St := { tm := ([.x, .x, (.s (.bool x2))] ++ List.replicate 24 .x), ob := [], nx := 0, io := [] }
def z_s_ChunksOk_3_1 : St := { tm := ([] ++ List.replicate 27 .x), ob := [], nx := 0, io := [] }
def sh_s_ChunksOk_3_0 : Ss := { tm := (.cons (.l .no pieceR) (.cons (.x) (.cons (.x) (.cons (.int .i64) (.cons (.int .i64) (xsh 22)))))), ob := .nil, nx := 0, io := .nil }
def d_s_ChunksOk_3_0 (x0 : List T_Piece) (x3 : Int) (x4 : Int) : sh_s_ChunksOk_3_0.T := ((x0, ((), ((), (x3, (x4, xd 22))))), (), ())
def s_s_ChunksOk_3_0 (x0 : List T_Piece) (x3 : Int) (x4 : Int) : St := { tm := ([(.l .no pieceR x0), .x, .x, (.s (.int .i64 x3)), (.s (.int .i64 x4))] ++ List.replicate 22 .x), ob := [], nx := 0, io := [] }
theorem se_s_ChunksOk_3_0 (x0 : List T_Piece) (x3 : Int) (x4 : Int) : sh_s_ChunksOk_3_0.mk' (d_s_ChunksOk_3_0 x0 x3 x4) = (s_s_ChunksOk_3_0 x0 x3 x4) := by kernel_rfl
def w_s_ChunksOk_3_0 (d : sh_s_ChunksOk_3_0.T) (f : (List T_Piece) → Int → Int → Option Ret) : Option Ret := match d with | ((x0, (_, (_, (x3, (x4, _))))), _, _) => f x0 x3 x4
noncomputable def P_s_ChunksOk_3_0 (x0 : List T_Piece) (x3 : Int) (x4 : Int) (nx0 : (List T_Piece) → Int → Int → Option Ret) (k0 : Bool → Option Ret) (k1 : Option Ret) : Option Ret := (bif (decide (x4 < (((List.length x0) : Nat) : Int))) then (bif ((decide ((0 : Int) ≤ x4)) && (decide (x4 < (((List.length x0) : Nat) : Int)))) then (bif (fitB (List.getD x0 (Int.toNat x4) (pieceR.dflt))) then (bif (!(chunkOkD (List.getD x0 (Int.toNat x4) (pieceR.dflt)))) then (k0 false) else (bif ((decide ((0 : Int) ≤ x4)) && (decide (x4 < (((List.length x0) : Nat) : Int)))) then (bif (decide ((IntKind.wrap .i64 (x3 + (((List.length (List.getD x0 (Int.toNat x4) (pieceR.dflt))) : Nat) : Int))) > (400 : Int))) then (k0 false) else (nx0 x0 (IntKind.wrap .i64 (x3 + (((List.length (List.getD x0 (Int.toNat x4) (pieceR.dflt))) : Nat) : Int))) (IntKind.wrap .i64 (x4 + (1 : Int))))) else none)) else none) else none) else k1)
noncomputable def Q_s_ChunksOk_3_0 : Nat → (List T_Piece) → Int → Int → (Bool → Option Ret) → (Option Ret) → Option Ret
  | 0, _, _, _, _, _ => none
  | m + 1, x0, x3, x4, k0, k1 => P_s_ChunksOk_3_0 x0 x3 x4 (fun x0 x3 x4 => (Q_s_ChunksOk_3_0 m x0 x3 x4 k0 k1)) k0 k1
noncomputable def R_s_ChunksOk_3_0 (x0 : List T_Piece) (x3 : Int) (x4 : Int) (k0 : Bool → Option Ret) (k1 : Option Ret) : Option Ret := Q_s_ChunksOk_3_0 (List.length x0 + x3.toNat + x4.toNat + 2) x0 x3 x4 k0 k1
noncomputable def W_s_ChunksOk_3 : LoopFn := (fun (σ : St) (K : Ex → St → Option Ret) => (match sh_s_ChunksOk_3_0.un σ with | some d => w_s_ChunksOk_3_0 d (fun x0 x3 x4 => R_s_ChunksOk_3_0 x0 x3 x4 (fun x2 => (K .ret (z_s_ChunksOk_3_0 x2))) (K (.ext 0) z_s_ChunksOk_3_1)) | none => none))
noncomputable abbrev ls_s_ChunksOk : List (Nat × Bool × Sm) := [(N.s_ChunkOk, true, S_s_ChunkOk)]
noncomputable abbrev E_s_ChunksOk : Env := En ls_s_ChunksOk [] [(3, [0,3,4], [2], W_s_ChunksOk_3)] [] false 0 []
noncomputable abbrev U_s_ChunksOk_3 := rounds (run E_s_ChunksOk (bodyOf F.s_ChunksOk 3)) [0,3,4] [2]
theorem st_s_ChunksOk_3_0 (m : Nat) (x0 : List T_Piece) (x3 : Int) (x4 : Int) (K : Ex → St → Option Ret) : U_s_ChunksOk_3 (m + 1) (s_s_ChunksOk_3_0 x0 x3 x4) K = P_s_ChunksOk_3_0 x0 x3 x4 (fun x0 x3 x4 => (U_s_ChunksOk_3 m (s_s_ChunksOk_3_0 x0 x3 x4) K)) (fun x2 => (K .ret (z_s_ChunksOk_3_0 x2))) (K (.ext 0) z_s_ChunksOk_3_1) := by kernel_rfl
theorem q_s_ChunksOk_3 (K : Ex → St → Option Ret) : ∀ m : Nat, (∀ (x0 : List T_Piece) (x3 : Int) (x4 : Int), U_s_ChunksOk_3 m (s_s_ChunksOk_3_0 x0 x3 x4) K = Q_s_ChunksOk_3_0 m x0 x3 x4 (fun x2 => (K .ret (z_s_ChunksOk_3_0 x2))) (K (.ext 0) z_s_ChunksOk_3_1))
  | 0 => (fun _ _ _ => rfl)
  | m + 1 => (fun x0 x3 x4 => (by rw [st_s_ChunksOk_3_0, show (fun x0 x3 x4 => (U_s_ChunksOk_3 m (s_s_ChunksOk_3_0 x0 x3 x4) K)) = (fun x0 x3 x4 => (Q_s_ChunksOk_3_0 m x0 x3 x4 (fun x2 => (K .ret (z_s_ChunksOk_3_0 x2))) (K (.ext 0) z_s_ChunksOk_3_1))) from funext fun x0 => funext fun x3 => funext fun x4 => (q_s_ChunksOk_3 K m) x0 x3 x4]; rfl))
theorem loopK_s_ChunksOk_3 : LoopOk E_s_ChunksOk (bodyOf F.s_ChunksOk 3) := by
  refine loopW_ok (n := 3) (F := W_s_ChunksOk_3) (by kernel_rfl) rfl (li := [0,3,4]) (lo := [2]) rfl (fun σ K r hr => ?_)
  unfold W_s_ChunksOk_3 at hr
  split at hr
  · rename_i d hd
    rw [Ss.un_mk hd]
    exact ⟨_, ((congrArg (fun z => U_s_ChunksOk_3 _ z K) (se_s_ChunksOk_3_0 _ _ _)).trans ((q_s_ChunksOk_3 K _) _ _ _)).trans hr⟩
  · cases hr
noncomputable def T_s_ChunksOk (l : List T_Chunk) (K : Ret → Option Ret) : Option Ret := (R_s_ChunksOk_3_0 l (0 : Int) (0 : Int) (fun y0 => K ((.s (.bool y0)), [])) (K ((.s (.bool true)), [])))
theorem e_s_ChunksOk (l : List T_Chunk) (K : Ret → Option Ret) : evF E_s_ChunksOk true F.s_ChunksOk [.l .no chunkR l] K = T_s_ChunksOk l K := by kernel_rfl
def S_s_ChunksOk : Sm := S_fnR [.l chunkR] (fun d => fitC (.sl chunkR) d.1) (fun d => (bl (chunksOkD d.1), []))
theorem v_s_ChunksOk (l : List T_Chunk) (h : (fitC (.sl chunkR) l) = true) (K : Ret → Option Ret) : T_s_ChunksOk l K = K (bl (chunksOkD l), []) := by
  have hl := fitC_len h
  unfold T_s_ChunksOk chunksOkD
  have q : ∀ (m i n : Nat), n ≤ 400 → i ≤ l.length → l.length - i < m → Q_s_ChunksOk_3_0 m l ((n : Nat) : Int) ((i : Nat) : Int) (fun y0 => K ((.s (.bool y0)), [])) (K ((.s (.bool true)), [])) = K (bl (chunksOkL (l.drop i) n), []) := by
    intro m
    induction m with
    | zero => intro i n _ _ hm; omega
    | succ m ih =>
      intro i n hn hi hm
      show P_s_ChunksOk_3_0 l ((n : Nat) : Int) ((i : Nat) : Int) _ _ _ = _
      unfold P_s_ChunksOk_3_0
      by_cases hlt : i < l.length
      · have hg : l.getD i (pieceR.dflt) = l[i] := getD_lt _ hlt
        have hf : fitB l[i] = true := fitB_fit (fitC_mem (r := chunkR) h (List.getElem_mem hlt))
        have hd : l.drop i = l[i] :: l.drop (i + 1) := (List.getElem_cons_drop hlt).symm
        rw [decide_eq_true (show ((i : Nat) : Int) < ((l.length : Nat) : Int) by omega), decide_eq_true (show (0 : Int) ≤ ((i : Nat) : Int) by omega), Int.toNat_natCast, wrap_nat (by omega), hg, hf, hd]
        cases he : chunkOkD l[i] with
        | false => simp only [chunksOkL, he]; rfl
        | true =>
          have hk := chunkOkD_len he
          have e1 : ((n : Nat) : Int) + ((l[i].length : Nat) : Int) = ((n + l[i].length : Nat) : Int) := by omega
          rw [wrap_in (n := ((n : Nat) : Int) + ((l[i].length : Nat) : Int)) (by omega) (by omega), e1]
          simp only [chunksOkL, he]
          by_cases h4 : ((n + l[i].length : Nat) : Int) > 400
          · rw [decide_eq_true h4]; rfl
          · rw [decide_eq_false h4]
            exact ih (i + 1) (n + l[i].length) (by omega) (by omega) (by omega)
      · obtain rfl : i = l.length := by omega
        rw [decide_eq_false (show ¬ ((l.length : Nat) : Int) < ((l.length : Nat) : Int) by omega), List.drop_length]; rfl
  refine Eq.trans (q _ 0 0 (by omega) (by omega) (by omega)) ?_
  rw [List.drop_zero]
theorem okS_s_ChunksOk : OkFn prog I N.s_ChunksOk true S_s_ChunksOk := okN (ok_fn (memc okS_s_ChunkOk mem0) (l := ls_s_ChunksOk) (p := []) (ls := [(3, [0,3,4], [2], W_s_ChunksOk_3)]) (lend := []) (focus := false) (fuel := 0) (give := []) (fn := F.s_ChunksOk) (by kernel_rfl) (by kernel_rfl) (by kernel_rfl) (by kernel_rfl) (cs := [bodyOf F.s_ChunksOk 3]) (by kernel_rfl) (loopsc loopK_s_ChunksOk_3 loops0)) (S_fnR_of fun d K h => (e_s_ChunksOk d.1 K).trans (v_s_ChunksOk d.1 h K))
end Go.Ev.Seat
end
section
/- s_ChunksText: its contract. -/
namespace Go.Ev.Seat
open Go.RowKit
set_option maxRecDepth 100000
set_option linter.unusedVariables false
set_option linter.unusedSimpArgs false
def z_s_ChunksText_3_0 (o0 : List Int) : St := { tm := ([.x, .x, .x, (.w 0)] ++ List.replicate 20 .x), ob := [(0, (.arr true true bytesR o0))], nx := 1, io := [] }
def sh_s_ChunksText_3_0 : Ss := { tm := (.cons (.l .no pieceR) (.cons (.x) (.cons (.x) (.cons (.w 0) (.cons (.int .i64) (xsh 19)))))), ob := (.arr true true bytesR .nil), nx := 1, io := .nil }
def d_s_ChunksText_3_0 (x0 : List T_Piece) (x4 : Int) (o0 : List Int) : sh_s_ChunksText_3_0.T := ((x0, ((), ((), ((), (x4, xd 19))))), (o0, ()), ())
def s_s_ChunksText_3_0 (x0 : List T_Piece) (x4 : Int) (o0 : List Int) : St := { tm := ([(.l .no pieceR x0), .x, .x, (.w 0), (.s (.int .i64 x4))] ++ List.replicate 19 .x), ob := [(0, (.arr true true bytesR o0))], nx := 1, io := [] }
theorem se_s_ChunksText_3_0 (x0 : List T_Piece) (x4 : Int) (o0 : List Int) : sh_s_ChunksText_3_0.mk' (d_s_ChunksText_3_0 x0 x4 o0) = (s_s_ChunksText_3_0 x0 x4 o0) := by kernel_rfl
def w_s_ChunksText_3_0 (d : sh_s_ChunksText_3_0.T) (f : (List T_Piece) → Int → (List Int) → Option Ret) : Option Ret := match d with | ((x0, (_, (_, (_, (x4, _))))), (o0, _), _) => f x0 x4 o0
noncomputable def P_s_ChunksText_3_0 (x0 : List T_Piece) (x4 : Int) (o0 : List Int) (nx0 : (List T_Piece) → Int → (List Int) → Option Ret) (k0 : (List Int) → Option Ret) : Option Ret := (bif (fitC (Cc.sl chunkR) x0) then (bif (chunksOkD x0) then (bif (decide (x4 < (((List.length x0) : Nat) : Int))) then (bif ((decide ((0 : Int) ≤ x4)) && (decide (x4 < (((List.length x0) : Nat) : Int)))) then (bif (Nat.ble (((List.length o0) + (List.length (List.getD x0 (Int.toNat x4) (pieceR.dflt)))) * 1) 140737488355328) then (nx0 x0 (IntKind.wrap .i64 (x4 + (1 : Int))) (o0 ++ (List.getD x0 (Int.toNat x4) (pieceR.dflt)))) else none) else none) else (k0 o0)) else (k0 o0)) else none)
noncomputable def Q_s_ChunksText_3_0 : Nat → (List T_Piece) → Int → (List Int) → ((List Int) → Option Ret) → Option Ret
  | 0, _, _, _, _ => none
  | m + 1, x0, x4, o0, k0 => P_s_ChunksText_3_0 x0 x4 o0 (fun x0 x4 o0 => (Q_s_ChunksText_3_0 m x0 x4 o0 k0)) k0
noncomputable def R_s_ChunksText_3_0 (x0 : List T_Piece) (x4 : Int) (o0 : List Int) (k0 : (List Int) → Option Ret) : Option Ret := Q_s_ChunksText_3_0 (List.length x0 + x4.toNat + List.length o0 + 2) x0 x4 o0 k0
noncomputable def W_s_ChunksText_3 : LoopFn := (fun (σ : St) (K : Ex → St → Option Ret) => (match sh_s_ChunksText_3_0.un σ with | some d => w_s_ChunksText_3_0 d (fun x0 x4 o0 => R_s_ChunksText_3_0 x0 x4 o0 (fun o0 => (K (.ext 0) (z_s_ChunksText_3_0 o0)))) | none => none))
noncomputable abbrev ls_s_ChunksText : List (Nat × Bool × Sm) := [(N.s_ChunksOk, true, S_s_ChunksOk)]
noncomputable abbrev E_s_ChunksText : Env := En ls_s_ChunksText [] [(3, [0,3,4], [2,3], W_s_ChunksText_3)] [] false 0 []
noncomputable abbrev U_s_ChunksText_3 := rounds (run E_s_ChunksText (bodyOf F.s_ChunksText 3)) [0,3,4] [2,3]
theorem st_s_ChunksText_3_0 (m : Nat) (x0 : List T_Piece) (x4 : Int) (o0 : List Int) (K : Ex → St → Option Ret) : U_s_ChunksText_3 (m + 1) (s_s_ChunksText_3_0 x0 x4 o0) K = P_s_ChunksText_3_0 x0 x4 o0 (fun x0 x4 o0 => (U_s_ChunksText_3 m (s_s_ChunksText_3_0 x0 x4 o0) K)) (fun o0 => (K (.ext 0) (z_s_ChunksText_3_0 o0))) := by kernel_rfl
theorem q_s_ChunksText_3 (K : Ex → St → Option Ret) : ∀ m : Nat, (∀ (x0 : List T_Piece) (x4 : Int) (o0 : List Int), U_s_ChunksText_3 m (s_s_ChunksText_3_0 x0 x4 o0) K = Q_s_ChunksText_3_0 m x0 x4 o0 (fun o0 => (K (.ext 0) (z_s_ChunksText_3_0 o0))))
  | 0 => (fun _ _ _ => rfl)
  | m + 1 => (fun x0 x4 o0 => (by rw [st_s_ChunksText_3_0, show (fun x0 x4 o0 => (U_s_ChunksText_3 m (s_s_ChunksText_3_0 x0 x4 o0) K)) = (fun x0 x4 o0 => (Q_s_ChunksText_3_0 m x0 x4 o0 (fun o0 => (K (.ext 0) (z_s_ChunksText_3_0 o0))))) from funext fun x0 => funext fun x4 => funext fun o0 => (q_s_ChunksText_3 K m) x0 x4 o0]; rfl))
theorem loopK_s_ChunksText_3 : LoopOk E_s_ChunksText (bodyOf F.s_ChunksText 3) := by
  refine loopW_ok (n := 3) (F := W_s_ChunksText_3) (by kernel_rfl) rfl (li := [0,3,4]) (lo := [2,3]) rfl (fun σ K r hr => ?_)
  unfold W_s_ChunksText_3 at hr
  split at hr
  · rename_i d hd
    rw [Ss.un_mk hd]
    exact ⟨_, ((congrArg (fun z => U_s_ChunksText_3 _ z K) (se_s_ChunksText_3_0 _ _ _)).trans ((q_s_ChunksText_3 K _) _ _ _)).trans hr⟩
  · cases hr
noncomputable def T_s_ChunksText (l : List T_Chunk) (K : Ret → Option Ret) : Option Ret := (R_s_ChunksText_3_0 l (0 : Int) ([] : List Int) (fun y0 => K ((.l .deep bytesR y0), [])))
theorem e_s_ChunksText (l : List T_Chunk) (K : Ret → Option Ret) : evF E_s_ChunksText true F.s_ChunksText [.l .no chunkR l] K = T_s_ChunksText l K := by kernel_rfl
def S_s_ChunksText : Sm := S_fnR [.l chunkR] (fun d => fitC (.sl chunkR) d.1) (fun d => (.l .deep bytesR (chunksTextD d.1), []))
theorem v_s_ChunksText (l : List T_Chunk) (h : (fitC (.sl chunkR) l) = true) (K : Ret → Option Ret) : T_s_ChunksText l K = K (.l .deep bytesR (chunksTextD l), []) := by
  have hl := fitC_len h
  unfold T_s_ChunksText chunksTextD
  cases hk : chunksOkD l with
  | false =>
    have hq : ∀ (m : Nat) (k : List Int → Option Ret), Q_s_ChunksText_3_0 (m + 1) l 0 [] k = P_s_ChunksText_3_0 l 0 [] (fun a b c => Q_s_ChunksText_3_0 m a b c k) k := fun _ _ => rfl
    refine (hq (List.length l + (0 : Int).toNat + List.length ([] : List Int) + 1) _).trans ?_
    unfold P_s_ChunksText_3_0
    rw [h, hk]; rfl
  | true =>
    have hs := (chunksOkD_iff.1 hk).2
    have q : ∀ (m i : Nat), i ≤ l.length → l.length - i < m → Q_s_ChunksText_3_0 m l ((i : Nat) : Int) (l.take i).flatten (fun y0 => K ((.l .deep bytesR y0), [])) = K (.l .deep bytesR l.flatten, []) := by
      intro m
      induction m with
      | zero => intro i _ hm; omega
      | succ m ih =>
        intro i hi hm
        show P_s_ChunksText_3_0 l ((i : Nat) : Int) _ _ _ = _
        unfold P_s_ChunksText_3_0
        rw [h, hk]
        by_cases hlt : i < l.length
        · have h2 : (l.take i).flatten.length ≤ 400 := by
            rw [sumW_flat]
            exact Nat.le_trans sumW_take_le hs
          have h3 : (l.getD i []).length ≤ 400 := by
            rw [getD_lt [] hlt]
            have := chunkOkD_len ((chunksOkD_iff.1 hk).1 l[i] (List.getElem_mem hlt)); omega
          have hf2 : (l.take (i + 1)).flatten = (l.take i).flatten ++ l.getD i [] := flatten_take hlt
          rw [decide_eq_true (show ((i : Nat) : Int) < ((l.length : Nat) : Int) by omega), decide_eq_true (show (0 : Int) ≤ ((i : Nat) : Int) by omega), Int.toNat_natCast, wrap_nat (by omega), show l.getD i pieceR.dflt = l.getD i [] from rfl, Nat.ble_eq_true_of_le (by omega), ← hf2]
          exact ih (i + 1) (by omega) (by omega)
        · obtain rfl : i = l.length := by omega
          rw [decide_eq_false (show ¬ ((l.length : Nat) : Int) < ((l.length : Nat) : Int) by omega), List.take_length]; rfl
    exact q _ 0 (by omega) (by omega)
theorem okS_s_ChunksText : OkFn prog I N.s_ChunksText true S_s_ChunksText := okN (ok_fn (memc okS_s_ChunksOk mem0) (l := ls_s_ChunksText) (p := []) (ls := [(3, [0,3,4], [2,3], W_s_ChunksText_3)]) (lend := []) (focus := false) (fuel := 0) (give := []) (fn := F.s_ChunksText) (by kernel_rfl) (by kernel_rfl) (by kernel_rfl) (by kernel_rfl) (cs := [bodyOf F.s_ChunksText 3]) (by kernel_rfl) (loopsc loopK_s_ChunksText_3 loops0)) (S_fnR_of fun d K h => (e_s_ChunksText d.1 K).trans (v_s_ChunksText d.1 h K))
end Go.Ev.Seat
end
section
/- s_l01Cur_raw: its contract. -/
namespace Go.Ev.Seat
open Go.RowKit
set_option maxRecDepth 100000
set_option linter.unusedVariables false
set_option linter.unusedSimpArgs false
noncomputable abbrev ls_s_l01Cur_raw : List (Nat × Bool × Sm) := [(N.s_l01Cur_pick, false, (SB_s_l01Cur_pick B_s_l01Cur_pick))]
noncomputable abbrev E_s_l01Cur_raw : Env := En ls_s_l01Cur_raw [] [] [] false 0 []
noncomputable def T_s_l01Cur_raw (cc : List Int) (ca : Int) (cs : Int) (K : Ret → Option Ret) : Option Ret := (B_s_l01Cur_pick cc ca cs (8 : Int) (fun y0 y1 y2 => (bif (y0 == (0 : Int)) then (B_s_l01Cur_pick cc y1 y2 (256 : Int) (fun y3 y4 y5 => K ((.s (.int .i64 (IntKind.wrap .i64 (y3 - (128 : Int))))), [(.io [(.l .no bytesR cc), (.s (.int .i64 y4)), (.s (.int .i64 y5))])]))) else (bif (y0 == (1 : Int)) then (B_s_l01Cur_pick cc y1 y2 (8 : Int) (fun y6 y7 y8 => (bif ((decide ((0 : Int) ≤ y6)) && (decide (y6 < (((List.length ((9223372036854775807 : Int) :: ((-(9223372036854775808 : Int)) :: ((4611686018427387904 : Int) :: ((55296 : Int) :: ((57343 : Int) :: ((65536 : Int) :: ((1114111 : Int) :: ((1114112 : Int) :: ([] : List Int)))))))))) : Nat) : Int)))) then K ((.s (.int .i64 (List.getD ((9223372036854775807 : Int) :: ((-(9223372036854775808 : Int)) :: ((4611686018427387904 : Int) :: ((55296 : Int) :: ((57343 : Int) :: ((65536 : Int) :: ((1114111 : Int) :: ((1114112 : Int) :: ([] : List Int))))))))) (Int.toNat y6) (0 : Int)))), [(.io [(.l .no bytesR cc), (.s (.int .i64 y7)), (.s (.int .i64 y8))])]) else none))) else (B_s_l01Cur_pick cc y1 y2 (14 : Int) (fun y9 y10 y11 => K ((.s (.int .i64 (IntKind.wrap .i64 (y9 - (3 : Int))))), [(.io [(.l .no bytesR cc), (.s (.int .i64 y10)), (.s (.int .i64 y11))])])))))))
theorem e_s_l01Cur_raw (cc : List Int) (ca : Int) (cs : Int) (K : Ret → Option Ret) : evF E_s_l01Cur_raw false F.s_l01Cur_raw [.io [.l .no bytesR cc, .s (.int .i64 ca), .s (.int .i64 cs)]] K = T_s_l01Cur_raw cc ca cs K := by kernel_rfl
theorem x_s_l01Cur_raw (cc : List Int) (ca : Int) (cs : Int) (h : (curB 3000000000000000000 cc ca cs) = true) : ∃ (y : Int) (a : Int) (s : Int), ((-9223372036854775808 ≤ y ∧ y ≤ 9223372036854775807) ∧ 0 ≤ a ∧ a ≤ ca + 2 ∧ 0 ≤ s ∧ s < 65536) ∧ ∀ K : Ret → Option Ret, T_s_l01Cur_raw cc ca cs K = K (.s (.int .i64 y), [.io [.l .no bytesR cc, .s (.int .i64 a), .s (.int .i64 s)]]) := by
  suffices hd : Dr (fun r : Ret => ∃ (y : Int) (a : Int) (s : Int), ((-9223372036854775808 ≤ y ∧ y ≤ 9223372036854775807) ∧ 0 ≤ a ∧ a ≤ ca + 2 ∧ 0 ≤ s ∧ s < 65536) ∧ r = (.s (.int .i64 y), [.io [.l .no bytesR cc, .s (.int .i64 a), .s (.int .i64 s)]])) (fun K : Ret → Option Ret => T_s_l01Cur_raw cc ca cs K) by
    obtain ⟨_, ⟨y, a, s, hp, rfl⟩, hk⟩ := hd
    exact ⟨y, a, s, hp, hk⟩
  obtain ⟨hf, h2, h3, h4, h5⟩ := curB_iff.1 h
  have hl := fitB_len hf
  unfold T_s_l01Cur_raw
  repeat' first
    | exact Dr.leaf ⟨_, _, _, ⟨by first | omega | exact rng_get rfl, by omega, by omega, by omega, by omega⟩, rfl⟩
    | refine Dr.b3 (b_s_l01Cur_pick _ _ _ _ (curB_iff.2 ⟨hf, by omega, by omega, by omega, by omega⟩)) (fun _ _ _ hy => ?_)
    | refine Dr.meet ?_
    | simp (disch := omega) only [wrap_in]
    | refine Dr.must (by first | rfl | (simp only [List.length_cons, List.length_nil, BEq.rfl, Bool.true_and, Bool.and_eq_true, decide_eq_true_eq]; omega)) ?_
    | refine Dr.bif (fun hb => ?_) (fun hb => ?_)
noncomputable def g_s_l01Cur_raw (cc : List Int) (ca : Int) (cs : Int) : Int × Int × Int := Classical.epsilon fun g => ((-9223372036854775808 ≤ (g).1 ∧ (g).1 ≤ 9223372036854775807) ∧ 0 ≤ (g).2.1 ∧ (g).2.1 ≤ ca + 2 ∧ 0 ≤ (g).2.2 ∧ (g).2.2 < 65536) ∧ ∀ K : Ret → Option Ret, T_s_l01Cur_raw cc ca cs K = K (.s (.int .i64 (g).1), [.io [.l .no bytesR cc, .s (.int .i64 (g).2.1), .s (.int .i64 (g).2.2)]])
theorem gs_s_l01Cur_raw (cc : List Int) (ca : Int) (cs : Int) (h : (curB 3000000000000000000 cc ca cs) = true) : ((-9223372036854775808 ≤ (g_s_l01Cur_raw cc ca cs).1 ∧ (g_s_l01Cur_raw cc ca cs).1 ≤ 9223372036854775807) ∧ 0 ≤ (g_s_l01Cur_raw cc ca cs).2.1 ∧ (g_s_l01Cur_raw cc ca cs).2.1 ≤ ca + 2 ∧ 0 ≤ (g_s_l01Cur_raw cc ca cs).2.2 ∧ (g_s_l01Cur_raw cc ca cs).2.2 < 65536) ∧ ∀ K : Ret → Option Ret, T_s_l01Cur_raw cc ca cs K = K (.s (.int .i64 (g_s_l01Cur_raw cc ca cs).1), [.io [.l .no bytesR cc, .s (.int .i64 (g_s_l01Cur_raw cc ca cs).2.1), .s (.int .i64 (g_s_l01Cur_raw cc ca cs).2.2)]]) := by
  obtain ⟨y, a, s, hy, hk⟩ := x_s_l01Cur_raw cc ca cs h
  exact Classical.epsilon_spec (p := fun g : Int × Int × Int => ((-9223372036854775808 ≤ (g).1 ∧ (g).1 ≤ 9223372036854775807) ∧ 0 ≤ (g).2.1 ∧ (g).2.1 ≤ ca + 2 ∧ 0 ≤ (g).2.2 ∧ (g).2.2 < 65536) ∧ ∀ K : Ret → Option Ret, T_s_l01Cur_raw cc ca cs K = K (.s (.int .i64 (g).1), [.io [.l .no bytesR cc, .s (.int .i64 (g).2.1), .s (.int .i64 (g).2.2)]])) ⟨⟨y, a, s⟩, hy, hk⟩
noncomputable def B_s_l01Cur_raw (cc : List Int) (ca : Int) (cs : Int) (k : (Int) → (Int) → (Int) → Option Ret) : Option Ret := bif curB 3000000000000000000 cc ca cs then k (g_s_l01Cur_raw cc ca cs).1 (g_s_l01Cur_raw cc ca cs).2.1 (g_s_l01Cur_raw cc ca cs).2.2 else none
theorem b_s_l01Cur_raw (cc : List Int) (ca : Int) (cs : Int) (h : (curB 3000000000000000000 cc ca cs) = true) : ∃ (y : Int) (a : Int) (s : Int), ((-9223372036854775808 ≤ y ∧ y ≤ 9223372036854775807) ∧ 0 ≤ a ∧ a ≤ ca + 2 ∧ 0 ≤ s ∧ s < 65536) ∧ ∀ k, B_s_l01Cur_raw cc ca cs k = k y a s :=
  ⟨(g_s_l01Cur_raw cc ca cs).1, (g_s_l01Cur_raw cc ca cs).2.1, (g_s_l01Cur_raw cc ca cs).2.2, (gs_s_l01Cur_raw cc ca cs h).1, fun k => by unfold B_s_l01Cur_raw; rw [h]; rfl⟩
def SB_s_l01Cur_raw (B : (List Int) → (Int) → (Int) → ((Int) → (Int) → (Int) → Option Ret) → Option Ret) : Sm := S_B [.sh (.io (.cons (.l .no bytesR) (.cons (.int .i64) (.cons (.int .i64) .nil))))] (fun d K => B d.1.1 d.1.2.1 d.1.2.2.1 (fun y a s => K (.s (.int .i64 y), [.io [.l .no bytesR d.1.1, .s (.int .i64 a), .s (.int .i64 s)]])))
theorem okS_s_l01Cur_raw : OkFn prog I N.s_l01Cur_raw false (SB_s_l01Cur_raw B_s_l01Cur_raw) := okN (ok_fn (memc okS_s_l01Cur_pick mem0) (l := ls_s_l01Cur_raw) (p := []) (ls := []) (lend := []) (focus := false) (fuel := 0) (give := []) (fn := F.s_l01Cur_raw) (by kernel_rfl) (by kernel_rfl) (by kernel_rfl) (by kernel_rfl) (cs := []) (by kernel_rfl) loops0) (S_B_of fun d K q hq => by
  refine (e_s_l01Cur_raw d.1.1 d.1.2.1 d.1.2.2.1 K).trans ?_
  unfold B_s_l01Cur_raw at hq
  cases hp : (curB 3000000000000000000 d.1.1 d.1.2.1 d.1.2.2.1) with
  | false => rw [hp] at hq; cases hq
  | true =>
    rw [hp] at hq
    exact ((gs_s_l01Cur_raw d.1.1 d.1.2.1 d.1.2.2.1 hp).2 K).trans hq)
end Go.Ev.Seat
end
section
/- s_l01Cur_place: its contract. -/
namespace Go.Ev.Seat
open Go.RowKit
set_option maxRecDepth 100000
set_option linter.unusedVariables false
set_option linter.unusedSimpArgs false
noncomputable abbrev ls_s_l01Cur_place : List (Nat × Bool × Sm) := [(N.s_l01Cur_pick, false, (SB_s_l01Cur_pick B_s_l01Cur_pick)), (N.s_l01Cur_raw, false, (SB_s_l01Cur_raw B_s_l01Cur_raw))]
noncomputable abbrev E_s_l01Cur_place : Env := En ls_s_l01Cur_place [] [] [] false 0 []
noncomputable def T_s_l01Cur_place (cc : List Int) (ca : Int) (cs : Int) (n : Int) (K : Ret → Option Ret) : Option Ret := (B_s_l01Cur_pick cc ca cs (if (IntKind.wrap .i64 (n + (1 : Int))) > (1 : Int) then (IntKind.wrap .i64 (n + (1 : Int))) else (1 : Int)) (fun y0 y1 y2 => (B_s_l01Cur_pick cc y1 y2 (if (IntKind.wrap .i64 (n + (1 : Int))) > (1 : Int) then (IntKind.wrap .i64 (n + (1 : Int))) else (1 : Int)) (fun y3 y4 y5 => (B_s_l01Cur_raw cc y4 y5 (fun y6 y7 y8 => (B_s_l01Cur_pick cc y7 y8 (5 : Int) (fun y9 y10 y11 => (bif ((decide ((0 : Int) ≤ y9)) && (decide (y9 < (((List.length (y0 :: (y3 :: (n :: ((IntKind.wrap .i64 (n + (1 : Int))) :: (y6 :: ([] : List Int))))))) : Nat) : Int)))) then K ((.s (.int .i64 (List.getD (y0 :: (y3 :: (n :: ((IntKind.wrap .i64 (n + (1 : Int))) :: (y6 :: ([] : List Int)))))) (Int.toNat y9) (0 : Int)))), [(.io [(.l .no bytesR cc), (.s (.int .i64 y10)), (.s (.int .i64 y11))])]) else none)))))))))
theorem e_s_l01Cur_place (cc : List Int) (ca : Int) (cs : Int) (n : Int) (K : Ret → Option Ret) : evF E_s_l01Cur_place false F.s_l01Cur_place [.io [.l .no bytesR cc, .s (.int .i64 ca), .s (.int .i64 cs)], .s (.int .i64 n)] K = T_s_l01Cur_place cc ca cs n K := by kernel_rfl
theorem x_s_l01Cur_place (cc : List Int) (ca : Int) (cs : Int) (n : Int) (h : (curB 2000000000000000000 cc ca cs && (decide (0 ≤ n) && decide (n ≤ 1000))) = true) : ∃ (y : Int) (a : Int) (s : Int), ((-9223372036854775808 ≤ y ∧ y ≤ 9223372036854775807) ∧ 0 ≤ a ∧ a ≤ ca + 6 ∧ 0 ≤ s ∧ s < 65536) ∧ ∀ K : Ret → Option Ret, T_s_l01Cur_place cc ca cs n K = K (.s (.int .i64 y), [.io [.l .no bytesR cc, .s (.int .i64 a), .s (.int .i64 s)]]) := by
  suffices hd : Dr (fun r : Ret => ∃ (y : Int) (a : Int) (s : Int), ((-9223372036854775808 ≤ y ∧ y ≤ 9223372036854775807) ∧ 0 ≤ a ∧ a ≤ ca + 6 ∧ 0 ≤ s ∧ s < 65536) ∧ r = (.s (.int .i64 y), [.io [.l .no bytesR cc, .s (.int .i64 a), .s (.int .i64 s)]])) (fun K : Ret → Option Ret => T_s_l01Cur_place cc ca cs n K) by
    obtain ⟨_, ⟨y, a, s, hp, rfl⟩, hk⟩ := hd
    exact ⟨y, a, s, hp, hk⟩
  obtain ⟨h, hpre⟩ := (Bool.and_eq_true _ _).mp h
  obtain ⟨hf, h2, h3, h4, h5⟩ := curB_iff.1 h
  have hl := fitB_len hf
  unfold T_s_l01Cur_place
  simp only [Bool.and_eq_true, decide_eq_true_eq] at hpre
  rw [wrap_in (n := n + 1) (by omega) (by omega)]
  obtain ⟨m, hm, hm1, hm2⟩ : ∃ m : Int, (if n + 1 > (1 : Int) then n + 1 else (1 : Int)) = m ∧ 1 ≤ m ∧ m ≤ n + 1 := by
    by_cases q : n + 1 > (1 : Int)
    · rw [if_pos q]; exact ⟨_, rfl, by omega, by omega⟩
    · rw [if_neg q]; exact ⟨_, rfl, by omega, by omega⟩
  rw [hm]
  refine Dr.b3 (b_s_l01Cur_pick _ _ _ _ (curB_iff.2 ⟨hf, by omega, by omega, by omega, by omega⟩)) (fun y0 a0 s0 h0 => ?_)
  refine Dr.b3 (b_s_l01Cur_pick _ _ _ _ (curB_iff.2 ⟨hf, by omega, by omega, by omega, by omega⟩)) (fun y1 a1 s1 h1 => ?_)
  refine Dr.b3 (b_s_l01Cur_raw _ _ _ (curB_iff.2 ⟨hf, by omega, by omega, by omega, by omega⟩)) (fun y2 a2 s2 h2 => ?_)
  refine Dr.b3 (b_s_l01Cur_pick _ _ _ _ (curB_iff.2 ⟨hf, by omega, by omega, by omega, by omega⟩)) (fun y3 a3 s3 h3 => ?_)
  refine Dr.must (by simp only [List.length_cons, List.length_nil, Bool.and_eq_true, decide_eq_true_eq]; omega) ?_
  exact Dr.leaf ⟨_, _, _, ⟨rng_cons (by omega) (rng_cons (by omega) (rng_cons (by omega) (rng_cons (by omega) (rng_cons (by omega) rng_nil)))), by omega, by omega, by omega, by omega⟩, rfl⟩
noncomputable def g_s_l01Cur_place (cc : List Int) (ca : Int) (cs : Int) (n : Int) : Int × Int × Int := Classical.epsilon fun g => ((-9223372036854775808 ≤ (g).1 ∧ (g).1 ≤ 9223372036854775807) ∧ 0 ≤ (g).2.1 ∧ (g).2.1 ≤ ca + 6 ∧ 0 ≤ (g).2.2 ∧ (g).2.2 < 65536) ∧ ∀ K : Ret → Option Ret, T_s_l01Cur_place cc ca cs n K = K (.s (.int .i64 (g).1), [.io [.l .no bytesR cc, .s (.int .i64 (g).2.1), .s (.int .i64 (g).2.2)]])
theorem gs_s_l01Cur_place (cc : List Int) (ca : Int) (cs : Int) (n : Int) (h : (curB 2000000000000000000 cc ca cs && (decide (0 ≤ n) && decide (n ≤ 1000))) = true) : ((-9223372036854775808 ≤ (g_s_l01Cur_place cc ca cs n).1 ∧ (g_s_l01Cur_place cc ca cs n).1 ≤ 9223372036854775807) ∧ 0 ≤ (g_s_l01Cur_place cc ca cs n).2.1 ∧ (g_s_l01Cur_place cc ca cs n).2.1 ≤ ca + 6 ∧ 0 ≤ (g_s_l01Cur_place cc ca cs n).2.2 ∧ (g_s_l01Cur_place cc ca cs n).2.2 < 65536) ∧ ∀ K : Ret → Option Ret, T_s_l01Cur_place cc ca cs n K = K (.s (.int .i64 (g_s_l01Cur_place cc ca cs n).1), [.io [.l .no bytesR cc, .s (.int .i64 (g_s_l01Cur_place cc ca cs n).2.1), .s (.int .i64 (g_s_l01Cur_place cc ca cs n).2.2)]]) := by
  obtain ⟨y, a, s, hy, hk⟩ := x_s_l01Cur_place cc ca cs n h
  exact Classical.epsilon_spec (p := fun g : Int × Int × Int => ((-9223372036854775808 ≤ (g).1 ∧ (g).1 ≤ 9223372036854775807) ∧ 0 ≤ (g).2.1 ∧ (g).2.1 ≤ ca + 6 ∧ 0 ≤ (g).2.2 ∧ (g).2.2 < 65536) ∧ ∀ K : Ret → Option Ret, T_s_l01Cur_place cc ca cs n K = K (.s (.int .i64 (g).1), [.io [.l .no bytesR cc, .s (.int .i64 (g).2.1), .s (.int .i64 (g).2.2)]])) ⟨⟨y, a, s⟩, hy, hk⟩
noncomputable def B_s_l01Cur_place (cc : List Int) (ca : Int) (cs : Int) (n : Int) (k : (Int) → (Int) → (Int) → Option Ret) : Option Ret := bif curB 2000000000000000000 cc ca cs && (decide (0 ≤ n) && decide (n ≤ 1000)) then k (g_s_l01Cur_place cc ca cs n).1 (g_s_l01Cur_place cc ca cs n).2.1 (g_s_l01Cur_place cc ca cs n).2.2 else none
theorem b_s_l01Cur_place (cc : List Int) (ca : Int) (cs : Int) (n : Int) (h : (curB 2000000000000000000 cc ca cs && (decide (0 ≤ n) && decide (n ≤ 1000))) = true) : ∃ (y : Int) (a : Int) (s : Int), ((-9223372036854775808 ≤ y ∧ y ≤ 9223372036854775807) ∧ 0 ≤ a ∧ a ≤ ca + 6 ∧ 0 ≤ s ∧ s < 65536) ∧ ∀ k, B_s_l01Cur_place cc ca cs n k = k y a s :=
  ⟨(g_s_l01Cur_place cc ca cs n).1, (g_s_l01Cur_place cc ca cs n).2.1, (g_s_l01Cur_place cc ca cs n).2.2, (gs_s_l01Cur_place cc ca cs n h).1, fun k => by unfold B_s_l01Cur_place; rw [h]; rfl⟩
def SB_s_l01Cur_place (B : (List Int) → (Int) → (Int) → (Int) → ((Int) → (Int) → (Int) → Option Ret) → Option Ret) : Sm := S_B [.sh (.io (.cons (.l .no bytesR) (.cons (.int .i64) (.cons (.int .i64) .nil)))), .i] (fun d K => B d.1.1 d.1.2.1 d.1.2.2.1 d.2.1 (fun y a s => K (.s (.int .i64 y), [.io [.l .no bytesR d.1.1, .s (.int .i64 a), .s (.int .i64 s)]])))
theorem okS_s_l01Cur_place : OkFn prog I N.s_l01Cur_place false (SB_s_l01Cur_place B_s_l01Cur_place) := okN (ok_fn (memc okS_s_l01Cur_pick (memc okS_s_l01Cur_raw mem0)) (l := ls_s_l01Cur_place) (p := []) (ls := []) (lend := []) (focus := false) (fuel := 0) (give := []) (fn := F.s_l01Cur_place) (by kernel_rfl) (by kernel_rfl) (by kernel_rfl) (by kernel_rfl) (cs := []) (by kernel_rfl) loops0) (S_B_of fun d K q hq => by
  refine (e_s_l01Cur_place d.1.1 d.1.2.1 d.1.2.2.1 d.2.1 K).trans ?_
  unfold B_s_l01Cur_place at hq
  cases hp : (curB 2000000000000000000 d.1.1 d.1.2.1 d.1.2.2.1 && (decide (0 ≤ d.2.1) && decide (d.2.1 ≤ 1000))) with
  | false => rw [hp] at hq; cases hq
  | true =>
    rw [hp] at hq
    exact ((gs_s_l01Cur_place d.1.1 d.1.2.1 d.1.2.2.1 d.2.1 hp).2 K).trans hq)
end Go.Ev.Seat
end
section
/- s_DrawChunkFor: its contract. -/
namespace Go.Ev.Seat
open Go.RowKit
set_option maxRecDepth 100000
set_option linter.unusedVariables false
set_option linter.unusedSimpArgs false
noncomputable abbrev ls_s_DrawChunkFor : List (Nat × Bool × Sm) := [(N.s_l01Open, false, S_s_l01Open), (N.s_l01Cur_badChunks, false, (SB_s_l01Cur_badChunks B_s_l01Cur_badChunks)), (N.s_ChunksText, true, S_s_ChunksText), (N.s_l01Cur_place, false, (SB_s_l01Cur_place B_s_l01Cur_place))]
noncomputable abbrev E_s_DrawChunkFor : Env := En ls_s_DrawChunkFor [] [] [] false 0 []
noncomputable def T_s_DrawChunkFor (code : List Int) (K : Ret → Option Ret) : Option Ret := (bif (fitB code) then (B_s_l01Cur_badChunks code (0 : Int) (seedD code) (8 : Int) (fun y0 y1 y2 => (bif (fitC (Cc.sl chunkR) y0) then (B_s_l01Cur_place code y1 y2 (if (((List.length (chunksTextD y0)) : Nat) : Int) < (200 : Int) then (((List.length (chunksTextD y0)) : Nat) : Int) else (200 : Int)) (fun y3 y4 y5 => K ((.t [(.l .no pieceR y0), (.s (.int .i64 y3))]), []))) else none))) else none)
theorem e_s_DrawChunkFor (code : List Int) (K : Ret → Option Ret) : evF E_s_DrawChunkFor false F.s_DrawChunkFor [.l .no bytesR code] K = T_s_DrawChunkFor code K := by kernel_rfl
theorem x_s_DrawChunkFor (code : List Int) (h : (fitB code) = true) : ∃ (t : List T_Piece) (u : Int), (fitC (.sl chunkR) t = true ∧ (-9223372036854775808 ≤ u ∧ u ≤ 9223372036854775807)) ∧ ∀ K : Ret → Option Ret, T_s_DrawChunkFor code K = K (.t [.l .no pieceR t, .s (.int .i64 u)], []) := by
  suffices hd : Dr (fun r : Ret => ∃ (t : List T_Piece) (u : Int), (fitC (.sl chunkR) t = true ∧ (-9223372036854775808 ≤ u ∧ u ≤ 9223372036854775807)) ∧ r = (.t [.l .no pieceR t, .s (.int .i64 u)], [])) (fun K : Ret → Option Ret => T_s_DrawChunkFor code K) by
    obtain ⟨_, ⟨t, u, hp, rfl⟩, hk⟩ := hd
    exact ⟨t, u, hp, hk⟩
  have hs : 0 ≤ seedD code ∧ seedD code < 65536 := by unfold seedD; omega
  have hl := fitB_len h
  unfold T_s_DrawChunkFor
  refine Dr.must h ?_
  refine Dr.b3 (b_s_l01Cur_badChunks _ _ _ _ ((Bool.and_eq_true _ _).mpr ⟨curB_iff.2 ⟨h, by omega, by omega, by omega, by omega⟩, by simp only [Bool.and_eq_true, decide_eq_true_eq]; omega⟩)) (fun v0_0 a0 s0 hy0 => ?_)
  obtain ⟨⟨hq1, hq2⟩, hq3⟩ := hy0
  have hq : fitC (.sl chunkR) v0_0 = true := fitC_mk (by omega) (fun x hx => hq1 x hx)
  refine Dr.must hq ?_
  obtain ⟨m, hm, hm1, hm2⟩ : ∃ m : Int, (if (((List.length (chunksTextD v0_0)) : Nat) : Int) < (200 : Int) then (((List.length (chunksTextD v0_0)) : Nat) : Int) else (200 : Int)) = m ∧ 0 ≤ m ∧ m ≤ 200 := by
    by_cases q : (((List.length (chunksTextD v0_0)) : Nat) : Int) < 200
    · rw [if_pos q]; exact ⟨_, rfl, by omega, by omega⟩
    · rw [if_neg q]; exact ⟨_, rfl, by omega, by omega⟩
  rw [hm]
  refine Dr.b3 (b_s_l01Cur_place _ _ _ _ ((Bool.and_eq_true _ _).mpr ⟨curB_iff.2 ⟨h, by omega, by omega, by omega, by omega⟩, by simp only [Bool.and_eq_true, decide_eq_true_eq]; omega⟩)) (fun u a3 s3 hy3 => ?_)
  exact Dr.leaf ⟨_, _, ⟨hq, hy3.1⟩, rfl⟩
noncomputable def g_s_DrawChunkFor (code : List Int) : List T_Piece × Int := Classical.epsilon fun g => (fitC (.sl chunkR) (g).1 = true ∧ (-9223372036854775808 ≤ (g).2 ∧ (g).2 ≤ 9223372036854775807)) ∧ ∀ K : Ret → Option Ret, T_s_DrawChunkFor code K = K (.t [.l .no pieceR (g).1, .s (.int .i64 (g).2)], [])
theorem gs_s_DrawChunkFor (code : List Int) (h : (fitB code) = true) : (fitC (.sl chunkR) (g_s_DrawChunkFor code).1 = true ∧ (-9223372036854775808 ≤ (g_s_DrawChunkFor code).2 ∧ (g_s_DrawChunkFor code).2 ≤ 9223372036854775807)) ∧ ∀ K : Ret → Option Ret, T_s_DrawChunkFor code K = K (.t [.l .no pieceR (g_s_DrawChunkFor code).1, .s (.int .i64 (g_s_DrawChunkFor code).2)], []) := by
  obtain ⟨t, u, hy, hk⟩ := x_s_DrawChunkFor code h
  exact Classical.epsilon_spec (p := fun g : List T_Piece × Int => (fitC (.sl chunkR) (g).1 = true ∧ (-9223372036854775808 ≤ (g).2 ∧ (g).2 ≤ 9223372036854775807)) ∧ ∀ K : Ret → Option Ret, T_s_DrawChunkFor code K = K (.t [.l .no pieceR (g).1, .s (.int .i64 (g).2)], [])) ⟨⟨t, u⟩, hy, hk⟩
noncomputable def B_s_DrawChunkFor (code : List Int) (k : (List T_Piece) → (Int) → Option Ret) : Option Ret := bif fitB code then k (g_s_DrawChunkFor code).1 (g_s_DrawChunkFor code).2 else none
theorem b_s_DrawChunkFor (code : List Int) (h : (fitB code) = true) : ∃ (t : List T_Piece) (u : Int), (fitC (.sl chunkR) t = true ∧ (-9223372036854775808 ≤ u ∧ u ≤ 9223372036854775807)) ∧ ∀ k, B_s_DrawChunkFor code k = k t u :=
  ⟨(g_s_DrawChunkFor code).1, (g_s_DrawChunkFor code).2, (gs_s_DrawChunkFor code h).1, fun k => by unfold B_s_DrawChunkFor; rw [h]; rfl⟩
def SB_s_DrawChunkFor (B : (List Int) → ((List T_Piece) → (Int) → Option Ret) → Option Ret) : Sm := S_B [.l bytesR] (fun d K => B d.1 (fun t u => K (.t [.l .no pieceR t, .s (.int .i64 u)], [])))
theorem okS_s_DrawChunkFor : OkFn prog I N.s_DrawChunkFor false (SB_s_DrawChunkFor B_s_DrawChunkFor) := okN (ok_fn (memc okS_s_l01Open (memc okS_s_l01Cur_badChunks (memc okS_s_ChunksText (memc okS_s_l01Cur_place mem0)))) (l := ls_s_DrawChunkFor) (p := []) (ls := []) (lend := []) (focus := false) (fuel := 0) (give := []) (fn := F.s_DrawChunkFor) (by kernel_rfl) (by kernel_rfl) (by kernel_rfl) (by kernel_rfl) (cs := []) (by kernel_rfl) loops0) (S_B_of fun d K q hq => by
  refine (e_s_DrawChunkFor d.1 K).trans ?_
  unfold B_s_DrawChunkFor at hq
  cases hp : (fitB d.1) with
  | false => rw [hp] at hq; cases hq
  | true =>
    rw [hp] at hq
    exact ((gs_s_DrawChunkFor d.1 hp).2 K).trans hq)
end Go.Ev.Seat
end
section
/- i_in: its contract. -/
namespace Go.Ev.Seat
open Go.RowKit
set_option maxRecDepth 100000
set_option linter.unusedVariables false
set_option linter.unusedSimpArgs false
noncomputable abbrev E_i_in : Env := En [] [] [] [] false 0 []
noncomputable def T_i_in (n : Int) (low : Int) (high : Int) (K : Ret → Option Ret) : Option Ret := (bif (decide (low ≤ n)) then K ((.s (.bool (decide (n ≤ high)))), []) else K ((.s (.bool false)), []))
theorem e_i_in (n : Int) (low : Int) (high : Int) (K : Ret → Option Ret) : evF E_i_in true F.i_in [.s (.int .i64 n), .s (.int .i64 low), .s (.int .i64 high)] K = T_i_in n low high K := by kernel_rfl
def S_i_in : Sm := S_fnR [.i, .i, .i] (fun d => true) (fun d => (bl (decide (d.2.1 ≤ d.1) && decide (d.1 ≤ d.2.2.1)), []))
theorem v_i_in (n : Int) (low : Int) (high : Int) (K : Ret → Option Ret) : T_i_in n low high K = K (bl (decide (low ≤ n) && decide (n ≤ high)), []) := by
  unfold T_i_in; cases decide (low ≤ n) <;> rfl
theorem okS_i_in : OkFn prog I N.i_in true S_i_in := okN (ok_fn mem0 (l := []) (p := []) (ls := []) (lend := []) (focus := false) (fuel := 0) (give := []) (fn := F.i_in) (by kernel_rfl) (by kernel_rfl) (by kernel_rfl) (by kernel_rfl) (cs := []) (by kernel_rfl) loops0) (S_fnR_of fun d K h => (e_i_in d.1 d.2.1 d.2.2.1 K).trans (v_i_in d.1 d.2.1 d.2.2.1 K))
end Go.Ev.Seat
end
section
/- utf8_word_bytes: its contract. -/
namespace Go.Ev.Seat
open Go.RowKit
set_option maxRecDepth 100000
set_option linter.unusedVariables false
set_option linter.unusedSimpArgs false
def w8 (p : List Int) : Int := bor .u64 (bor .u64 (bor .u64 (bor .u64 (bor .u64 (bor .u64 (bor .u64 (IntKind.wrap .u64 (p.getD 0 0)) (shlI .u64 (IntKind.wrap .u64 (p.getD 1 0)) 8)) (shlI .u64 (IntKind.wrap .u64 (p.getD 2 0)) 16)) (shlI .u64 (IntKind.wrap .u64 (p.getD 3 0)) 24)) (shlI .u64 (IntKind.wrap .u64 (p.getD 4 0)) 32)) (shlI .u64 (IntKind.wrap .u64 (p.getD 5 0)) 40)) (shlI .u64 (IntKind.wrap .u64 (p.getD 6 0)) 48)) (shlI .u64 (IntKind.wrap .u64 (p.getD 7 0)) 56)
noncomputable abbrev pl_utf8_word_bytes : List (Nat × Plan × List Nat) := [(1, takes [0, 1, 2, 3, 4, 5, 6, 7, 8, 9, 10, 11, 12, 13, 14, 15, 16, 17, 18, 19, 20, 21, 22], []), (2, takes [0, 1, 2, 3, 4, 5, 6, 7, 8, 9, 10, 11, 12, 13, 14, 15, 16, 17, 18, 19, 20, 21, 22, 23, 24, 25, 26, 27, 28, 29, 30, 31, 32, 33, 34, 35, 36, 37, 38, 39, 40, 41, 42, 43, 44, 45, 46], [])]
noncomputable abbrev E_utf8_word_bytes : Env := En [] pl_utf8_word_bytes [] [] false 0 []
noncomputable def T_utf8_word_bytes (p : List Int) (K : Ret → Option Ret) : Option Ret := (bif (decide ((0 : Int) < (((List.length p) : Nat) : Int))) then (bif (decide ((1 : Int) < (((List.length p) : Nat) : Int))) then (bif (decide ((2 : Int) < (((List.length p) : Nat) : Int))) then (bif (decide ((3 : Int) < (((List.length p) : Nat) : Int))) then (bif (decide ((4 : Int) < (((List.length p) : Nat) : Int))) then (bif (decide ((5 : Int) < (((List.length p) : Nat) : Int))) then (bif (decide ((6 : Int) < (((List.length p) : Nat) : Int))) then (bif (decide ((7 : Int) < (((List.length p) : Nat) : Int))) then K ((.s (.int .u64 (bor .u64 (bor .u64 (bor .u64 (bor .u64 (bor .u64 (bor .u64 (bor .u64 (IntKind.wrap .u64 (List.getD p 0 (0 : Int))) (shlI .u64 (IntKind.wrap .u64 (List.getD p 1 (0 : Int))) (8 : Int))) (shlI .u64 (IntKind.wrap .u64 (List.getD p 2 (0 : Int))) (16 : Int))) (shlI .u64 (IntKind.wrap .u64 (List.getD p 3 (0 : Int))) (24 : Int))) (shlI .u64 (IntKind.wrap .u64 (List.getD p 4 (0 : Int))) (32 : Int))) (shlI .u64 (IntKind.wrap .u64 (List.getD p 5 (0 : Int))) (40 : Int))) (shlI .u64 (IntKind.wrap .u64 (List.getD p 6 (0 : Int))) (48 : Int))) (shlI .u64 (IntKind.wrap .u64 (List.getD p 7 (0 : Int))) (56 : Int))))), []) else none) else none) else none) else none) else none) else none) else none) else none)
theorem e_utf8_word_bytes (p : List Int) (K : Ret → Option Ret) : evF E_utf8_word_bytes true F.utf8_word_bytes [.l .no bytesR p] K = T_utf8_word_bytes p K := by kernel_rfl
def S_utf8_word_bytes : Sm := S_fnR [.l bytesR] (fun d => Nat.ble 8 d.1.length) (fun d => (.s (.int .u64 (w8 d.1)), []))
theorem v_utf8_word_bytes (p : List Int) (h : (Nat.ble 8 p.length) = true) (K : Ret → Option Ret) : T_utf8_word_bytes p K = K (.s (.int .u64 (w8 p)), []) := by
  have h' := Nat.le_of_ble_eq_true h
  unfold T_utf8_word_bytes
  simp (disch := omega) only [decide_eq_true, Bool.true_and, cond_true]
  rfl
theorem okS_utf8_word_bytes : OkFn prog I N.utf8_word_bytes true S_utf8_word_bytes := okN (ok_fn mem0 (l := []) (p := pl_utf8_word_bytes) (ls := []) (lend := []) (focus := false) (fuel := 0) (give := []) (fn := F.utf8_word_bytes) (by kernel_rfl) (by kernel_rfl) (by kernel_rfl) (by kernel_rfl) (cs := []) (by kernel_rfl) loops0) (S_fnR_of fun d K h => (e_utf8_word_bytes d.1 K).trans (v_utf8_word_bytes d.1 h K))
end Go.Ev.Seat
end
section
/- utf8_Valid: its contract. -/
namespace Go.Ev.Seat
open Go.RowKit
set_option maxRecDepth 100000
set_option linter.unusedVariables false
set_option linter.unusedSimpArgs false
def z_utf8_Valid_10_0 (x0 : List Int) (x3 : Int) : St := { tm := ([(.l .no bytesR x0), .x, .x, (.s (.int .u8 x3))] ++ List.replicate 184 .x), ob := [], nx := 0, io := [] }
def sh_utf8_Valid_10_0 : Ss := { tm := (.cons (.l .no bytesR) (.cons (.x) (.cons (.x) (.cons (.int .u8) (xsh 184))))), ob := .nil, nx := 0, io := .nil }
def d_utf8_Valid_10_0 (x0 : List Int) (x3 : Int) : sh_utf8_Valid_10_0.T := ((x0, ((), ((), (x3, xd 184)))), (), ())
def s_utf8_Valid_10_0 (x0 : List Int) (x3 : Int) : St := { tm := ([(.l .no bytesR x0), .x, .x, (.s (.int .u8 x3))] ++ List.replicate 184 .x), ob := [], nx := 0, io := [] }
theorem se_utf8_Valid_10_0 (x0 : List Int) (x3 : Int) : sh_utf8_Valid_10_0.mk' (d_utf8_Valid_10_0 x0 x3) = (s_utf8_Valid_10_0 x0 x3) := by kernel_rfl
def w_utf8_Valid_10_0 (d : sh_utf8_Valid_10_0.T) (f : (List Int) → Int → Option Ret) : Option Ret := match d with | ((x0, (_, (_, (x3, _)))), _, _) => f x0 x3
noncomputable def P_utf8_Valid_10_0 (x0 : List Int) (x3 : Int) (nx0 : (List Int) → Int → Option Ret) (k0 : (List Int) → Int → Option Ret) : Option Ret := (bif (decide ((((List.length x0) : Nat) : Int) > (32 : Int))) then (bif (decide ((8 : Int) ≤ (((List.length x0) : Nat) : Int))) then (bif (decide ((16 : Int) ≤ (((List.length x0) : Nat) : Int))) then (bif (decide ((24 : Int) ≤ (((List.length x0) : Nat) : Int))) then (bif (Nat.ble 8 (List.length x0)) then (bif (Nat.ble 8 (List.length (List.drop 8 x0))) then (bif (Nat.ble 8 (List.length (List.drop 16 x0))) then (bif (Nat.ble 8 (List.length (List.drop 24 x0))) then (bif ((band .u64 (bor .u64 (bor .u64 (w8 x0) (w8 (List.drop 8 x0))) (bor .u64 (w8 (List.drop 16 x0)) (w8 (List.drop 24 x0)))) (9259542123273814144 : Int)) == (0 : Int)) then (bif (decide ((32 : Int) ≤ (((List.length x0) : Nat) : Int))) then (nx0 (List.drop 32 x0) x3) else none) else (k0 x0 x3)) else none) else none) else none) else none) else none) else none) else none) else (k0 x0 x3))
noncomputable def Q_utf8_Valid_10_0 : Nat → (List Int) → Int → ((List Int) → Int → Option Ret) → Option Ret
  | 0, _, _, _ => none
  | m + 1, x0, x3, k0 => P_utf8_Valid_10_0 x0 x3 (fun x0 x3 => (Q_utf8_Valid_10_0 m x0 x3 k0)) k0
noncomputable def R_utf8_Valid_10_0 (x0 : List Int) (x3 : Int) (k0 : (List Int) → Int → Option Ret) : Option Ret := Q_utf8_Valid_10_0 (List.length x0 + x3.toNat + 2) x0 x3 k0
noncomputable def W_utf8_Valid_10 : LoopFn := (fun (σ : St) (K : Ex → St → Option Ret) => (match sh_utf8_Valid_10_0.un σ with | some d => w_utf8_Valid_10_0 d (fun x0 x3 => R_utf8_Valid_10_0 x0 x3 (fun x0 x3 => (K (.ext 2) (z_utf8_Valid_10_0 x0 x3)))) | none => none))
def z_utf8_Valid_2_0 (x2 : Bool) : St := { tm := ([.x, .x, (.s (.bool x2))] ++ List.replicate 185 .x), ob := [], nx := 0, io := [] }
def z_utf8_Valid_2_1 : St := { tm := ([] ++ List.replicate 188 .x), ob := [], nx := 0, io := [] }
def sh_utf8_Valid_2_0 : Ss := { tm := (.cons (.l .no bytesR) (xsh 187)), ob := .nil, nx := 0, io := .nil }
def d_utf8_Valid_2_0 (x0 : List Int) : sh_utf8_Valid_2_0.T := ((x0, xd 187), (), ())
def s_utf8_Valid_2_0 (x0 : List Int) : St := { tm := ([(.l .no bytesR x0)] ++ List.replicate 187 .x), ob := [], nx := 0, io := [] }
theorem se_utf8_Valid_2_0 (x0 : List Int) : sh_utf8_Valid_2_0.mk' (d_utf8_Valid_2_0 x0) = (s_utf8_Valid_2_0 x0) := by kernel_rfl
def w_utf8_Valid_2_0 (d : sh_utf8_Valid_2_0.T) (f : (List Int) → Option Ret) : Option Ret := match d with | ((x0, _), _, _) => f x0
noncomputable def P_utf8_Valid_2_0 (x0 : List Int) (nx0 : (List Int) → Option Ret) (k0 : Bool → Option Ret) (k1 : Option Ret) : Option Ret := (bif (decide ((((List.length x0) : Nat) : Int) > (0 : Int))) then (bif (decide ((0 : Int) < (((List.length x0) : Nat) : Int))) then (bif (decide ((List.getD x0 0 (0 : Int)) < (128 : Int))) then (bif (decide ((1 : Int) ≤ (((List.length x0) : Nat) : Int))) then (bif (decide ((((List.length (List.drop 1 x0)) : Nat) : Int) > (8 : Int))) then (bif (Nat.ble 8 (List.length (List.drop 1 x0))) then (bif ((band .u64 (w8 (List.drop 1 x0)) (9259542123273814144 : Int)) == (0 : Int)) then (bif (decide ((8 : Int) ≤ (((List.length (List.drop 1 x0)) : Nat) : Int))) then (bif (decide ((((List.length (List.drop 8 (List.drop 1 x0))) : Nat) : Int) > (16 : Int))) then (bif (decide ((8 : Int) ≤ (((List.length (List.drop 8 (List.drop 1 x0))) : Nat) : Int))) then (bif (Nat.ble 8 (List.length (List.drop 8 (List.drop 1 x0)))) then (bif (Nat.ble 8 (List.length (List.drop 8 (List.drop 8 (List.drop 1 x0))))) then (bif ((band .u64 (bor .u64 (w8 (List.drop 8 (List.drop 1 x0))) (w8 (List.drop 8 (List.drop 8 (List.drop 1 x0))))) (9259542123273814144 : Int)) == (0 : Int)) then (bif (decide ((16 : Int) ≤ (((List.length (List.drop 8 (List.drop 1 x0))) : Nat) : Int))) then (R_utf8_Valid_10_0 (List.drop 16 (List.drop 8 (List.drop 1 x0))) (List.getD x0 0 (0 : Int)) (fun y0 y1 => (nx0 y0))) else none) else (nx0 (List.drop 8 (List.drop 1 x0)))) else none) else none) else none) else (nx0 (List.drop 8 (List.drop 1 x0)))) else none) else (nx0 (List.drop 1 x0))) else none) else (nx0 (List.drop 1 x0))) else none) else (bif ((decide ((0 : Int) ≤ (List.getD x0 0 (0 : Int)))) && (decide ((List.getD x0 0 (0 : Int)) < ((256 : Nat) : Int)))) then (bif (Nat.blt (Int.toNat (List.getD x0 0 (0 : Int))) (List.length utfFirst)) then (bif ((decide ((0 : Int) ≤ (shrI .u8 (List.getD utfFirst (Int.toNat (List.getD x0 0 (0 : Int))) (0 : Int)) (4 : Int)))) && (decide ((shrI .u8 (List.getD utfFirst (Int.toNat (List.getD x0 0 (0 : Int))) (0 : Int)) (4 : Int)) < ((16 : Nat) : Int)))) then (bif (Nat.blt (Int.toNat (shrI .u8 (List.getD utfFirst (Int.toNat (List.getD x0 0 (0 : Int))) (0 : Int)) (4 : Int))) (List.length utfAccept)) then (bif ((IntKind.wrap .i64 (band .u8 (List.getD utfFirst (Int.toNat (List.getD x0 0 (0 : Int))) (0 : Int)) (7 : Int))) == (2 : Int)) then (bif (decide ((((List.length x0) : Nat) : Int) < (2 : Int))) then (k0 false) else (bif (decide ((1 : Int) < (((List.length x0) : Nat) : Int))) then (bif (decide ((List.getD x0 1 (0 : Int)) < (List.getD utfAccept (Int.toNat (shrI .u8 (List.getD utfFirst (Int.toNat (List.getD x0 0 (0 : Int))) (0 : Int)) (4 : Int))) (accR.dflt)).1)) then (k0 false) else (bif (decide ((1 : Int) < (((List.length x0) : Nat) : Int))) then (bif (decide ((List.getD utfAccept (Int.toNat (shrI .u8 (List.getD utfFirst (Int.toNat (List.getD x0 0 (0 : Int))) (0 : Int)) (4 : Int))) (accR.dflt)).2 < (List.getD x0 1 (0 : Int)))) then (k0 false) else (bif (decide ((2 : Int) ≤ (((List.length x0) : Nat) : Int))) then (nx0 (List.drop 2 x0)) else none)) else none)) else none)) else (bif ((IntKind.wrap .i64 (band .u8 (List.getD utfFirst (Int.toNat (List.getD x0 0 (0 : Int))) (0 : Int)) (7 : Int))) == (3 : Int)) then (bif (decide ((((List.length x0) : Nat) : Int) < (3 : Int))) then (k0 false) else (bif (decide ((1 : Int) < (((List.length x0) : Nat) : Int))) then (bif (decide ((List.getD x0 1 (0 : Int)) < (List.getD utfAccept (Int.toNat (shrI .u8 (List.getD utfFirst (Int.toNat (List.getD x0 0 (0 : Int))) (0 : Int)) (4 : Int))) (accR.dflt)).1)) then (k0 false) else (bif (decide ((1 : Int) < (((List.length x0) : Nat) : Int))) then (bif (decide ((List.getD utfAccept (Int.toNat (shrI .u8 (List.getD utfFirst (Int.toNat (List.getD x0 0 (0 : Int))) (0 : Int)) (4 : Int))) (accR.dflt)).2 < (List.getD x0 1 (0 : Int)))) then (k0 false) else (bif (decide ((2 : Int) < (((List.length x0) : Nat) : Int))) then (bif (decide ((List.getD x0 2 (0 : Int)) < (128 : Int))) then (k0 false) else (bif (decide ((2 : Int) < (((List.length x0) : Nat) : Int))) then (bif (decide ((191 : Int) < (List.getD x0 2 (0 : Int)))) then (k0 false) else (bif (decide ((3 : Int) ≤ (((List.length x0) : Nat) : Int))) then (nx0 (List.drop 3 x0)) else none)) else none)) else none)) else none)) else none)) else (bif ((IntKind.wrap .i64 (band .u8 (List.getD utfFirst (Int.toNat (List.getD x0 0 (0 : Int))) (0 : Int)) (7 : Int))) == (4 : Int)) then (bif (decide ((((List.length x0) : Nat) : Int) < (4 : Int))) then (k0 false) else (bif (decide ((1 : Int) < (((List.length x0) : Nat) : Int))) then (bif (decide ((List.getD x0 1 (0 : Int)) < (List.getD utfAccept (Int.toNat (shrI .u8 (List.getD utfFirst (Int.toNat (List.getD x0 0 (0 : Int))) (0 : Int)) (4 : Int))) (accR.dflt)).1)) then (k0 false) else (bif (decide ((1 : Int) < (((List.length x0) : Nat) : Int))) then (bif (decide ((List.getD utfAccept (Int.toNat (shrI .u8 (List.getD utfFirst (Int.toNat (List.getD x0 0 (0 : Int))) (0 : Int)) (4 : Int))) (accR.dflt)).2 < (List.getD x0 1 (0 : Int)))) then (k0 false) else (bif (decide ((2 : Int) < (((List.length x0) : Nat) : Int))) then (bif (decide ((List.getD x0 2 (0 : Int)) < (128 : Int))) then (k0 false) else (bif (decide ((2 : Int) < (((List.length x0) : Nat) : Int))) then (bif (decide ((191 : Int) < (List.getD x0 2 (0 : Int)))) then (k0 false) else (bif (decide ((3 : Int) < (((List.length x0) : Nat) : Int))) then (bif (decide ((List.getD x0 3 (0 : Int)) < (128 : Int))) then (k0 false) else (bif (decide ((3 : Int) < (((List.length x0) : Nat) : Int))) then (bif (decide ((191 : Int) < (List.getD x0 3 (0 : Int)))) then (k0 false) else (bif (decide ((4 : Int) ≤ (((List.length x0) : Nat) : Int))) then (nx0 (List.drop 4 x0)) else none)) else none)) else none)) else none)) else none)) else none)) else none)) else (k0 false)))) else none) else none) else none) else none)) else none) else k1)
noncomputable def Q_utf8_Valid_2_0 : Nat → (List Int) → (Bool → Option Ret) → (Option Ret) → Option Ret
  | 0, _, _, _ => none
  | m + 1, x0, k0, k1 => P_utf8_Valid_2_0 x0 (fun x0 => (Q_utf8_Valid_2_0 m x0 k0 k1)) k0 k1
noncomputable def R_utf8_Valid_2_0 (x0 : List Int) (k0 : Bool → Option Ret) (k1 : Option Ret) : Option Ret := Q_utf8_Valid_2_0 (List.length x0 + 2) x0 k0 k1
noncomputable def W_utf8_Valid_2 : LoopFn := (fun (σ : St) (K : Ex → St → Option Ret) => (match sh_utf8_Valid_2_0.un σ with | some d => w_utf8_Valid_2_0 d (fun x0 => R_utf8_Valid_2_0 x0 (fun x2 => (K .ret (z_utf8_Valid_2_0 x2))) (K (.ext 0) z_utf8_Valid_2_1)) | none => none))
noncomputable abbrev pl_utf8_Valid : List (Nat × Plan × List Nat) := [(8, takeB [0, 1, 2, 3, 4, 6, 7] (.fork (.one 5 (.fork (.one 8 (takes [9, 10, 11, 12]))))), []), (10, takeB [0, 1, 2, 3, 4, 6, 7, 10, 11, 13, 14] (.fork (.one 5 (.fork (.one 8 (takeB [9] (.fork (.one 12 (.fork (.one 15 (takes [16, 17, 18, 19, 20])))))))))), []), (18, takes [0, 1, 2, 3, 4, 5, 6, 7, 8, 9, 10, 11, 12, 13, 14, 15, 16, 17, 18], []), (22, takes [0, 1, 2, 3, 4, 5, 6, 7, 8, 9, 10, 11, 12, 13, 14, 15, 16, 17, 18, 19, 20, 21, 22, 23, 24, 25, 26, 27, 28, 29, 30], []), (26, takes [0, 1, 2, 3, 4, 5, 6, 7, 8, 9, 10, 11, 12, 13, 14, 15, 16, 17, 18, 19, 20, 21, 22, 23, 24, 25, 26, 27, 28, 29, 30, 31, 32, 33, 34, 35, 36, 37, 38, 39, 40, 41, 42], [])]
noncomputable abbrev ls_utf8_Valid : List (Nat × Bool × Sm) := [(N.utf8_word_bytes, true, S_utf8_word_bytes)]
noncomputable abbrev E_utf8_Valid : Env := En ls_utf8_Valid pl_utf8_Valid [(10, [0,3], [0,2,3], W_utf8_Valid_10), (2, [0], [2], W_utf8_Valid_2)] [] false 0 []
noncomputable abbrev U_utf8_Valid_10 := rounds (run E_utf8_Valid (bodyOf F.utf8_Valid 10)) [0,3] [0,2,3]
theorem st_utf8_Valid_10_0 (m : Nat) (x0 : List Int) (x3 : Int) (K : Ex → St → Option Ret) : U_utf8_Valid_10 (m + 1) (s_utf8_Valid_10_0 x0 x3) K = P_utf8_Valid_10_0 x0 x3 (fun x0 x3 => (U_utf8_Valid_10 m (s_utf8_Valid_10_0 x0 x3) K)) (fun x0 x3 => (K (.ext 2) (z_utf8_Valid_10_0 x0 x3))) := by kernel_rfl
theorem q_utf8_Valid_10 (K : Ex → St → Option Ret) : ∀ m : Nat, (∀ (x0 : List Int) (x3 : Int), U_utf8_Valid_10 m (s_utf8_Valid_10_0 x0 x3) K = Q_utf8_Valid_10_0 m x0 x3 (fun x0 x3 => (K (.ext 2) (z_utf8_Valid_10_0 x0 x3))))
  | 0 => (fun _ _ => rfl)
  | m + 1 => (fun x0 x3 => (by rw [st_utf8_Valid_10_0, show (fun x0 x3 => (U_utf8_Valid_10 m (s_utf8_Valid_10_0 x0 x3) K)) = (fun x0 x3 => (Q_utf8_Valid_10_0 m x0 x3 (fun x0 x3 => (K (.ext 2) (z_utf8_Valid_10_0 x0 x3))))) from funext fun x0 => funext fun x3 => (q_utf8_Valid_10 K m) x0 x3]; rfl))
theorem loopK_utf8_Valid_10 : LoopOk E_utf8_Valid (bodyOf F.utf8_Valid 10) := by
  refine loopW_ok (n := 10) (F := W_utf8_Valid_10) (by kernel_rfl) rfl (li := [0,3]) (lo := [0,2,3]) rfl (fun σ K r hr => ?_)
  unfold W_utf8_Valid_10 at hr
  split at hr
  · rename_i d hd
    rw [Ss.un_mk hd]
    exact ⟨_, ((congrArg (fun z => U_utf8_Valid_10 _ z K) (se_utf8_Valid_10_0 _ _)).trans ((q_utf8_Valid_10 K _) _ _)).trans hr⟩
  · cases hr
noncomputable abbrev U_utf8_Valid_2 := rounds (run E_utf8_Valid (bodyOf F.utf8_Valid 2)) [0] [2]
theorem st_utf8_Valid_2_0 (m : Nat) (x0 : List Int) (K : Ex → St → Option Ret) : U_utf8_Valid_2 (m + 1) (s_utf8_Valid_2_0 x0) K = P_utf8_Valid_2_0 x0 (fun x0 => (U_utf8_Valid_2 m (s_utf8_Valid_2_0 x0) K)) (fun x2 => (K .ret (z_utf8_Valid_2_0 x2))) (K (.ext 0) z_utf8_Valid_2_1) := by kernel_rfl
theorem q_utf8_Valid_2 (K : Ex → St → Option Ret) : ∀ m : Nat, (∀ (x0 : List Int), U_utf8_Valid_2 m (s_utf8_Valid_2_0 x0) K = Q_utf8_Valid_2_0 m x0 (fun x2 => (K .ret (z_utf8_Valid_2_0 x2))) (K (.ext 0) z_utf8_Valid_2_1))
  | 0 => (fun _ => rfl)
  | m + 1 => (fun x0 => (by rw [st_utf8_Valid_2_0, show (fun x0 => (U_utf8_Valid_2 m (s_utf8_Valid_2_0 x0) K)) = (fun x0 => (Q_utf8_Valid_2_0 m x0 (fun x2 => (K .ret (z_utf8_Valid_2_0 x2))) (K (.ext 0) z_utf8_Valid_2_1))) from funext fun x0 => (q_utf8_Valid_2 K m) x0]; rfl))
theorem loopK_utf8_Valid_2 : LoopOk E_utf8_Valid (bodyOf F.utf8_Valid 2) := by
  refine loopW_ok (n := 2) (F := W_utf8_Valid_2) (by kernel_rfl) rfl (li := [0]) (lo := [2]) rfl (fun σ K r hr => ?_)
  unfold W_utf8_Valid_2 at hr
  split at hr
  · rename_i d hd
    rw [Ss.un_mk hd]
    exact ⟨_, ((congrArg (fun z => U_utf8_Valid_2 _ z K) (se_utf8_Valid_2_0 _)).trans ((q_utf8_Valid_2 K _) _)).trans hr⟩
  · cases hr
noncomputable def T_utf8_Valid (p : List Int) (K : Ret → Option Ret) : Option Ret := (bif ((decide ((((List.length p) : Nat) : Int) ≤ (((List.length p) : Nat) : Int))) && (decide ((((List.length p) : Nat) : Int) ≤ (((List.length p) : Nat) : Int)))) then (R_utf8_Valid_2_0 (List.drop 0 (List.take (List.length p) p)) (fun y2 => K ((.s (.bool y2)), [])) (K ((.s (.bool true)), []))) else none)
theorem e_utf8_Valid (p : List Int) (K : Ret → Option Ret) : evF E_utf8_Valid true F.utf8_Valid [.l .no bytesR p] K = T_utf8_Valid p K := by kernel_rfl
theorem w8_nat {xs : List Int} (h : fitB xs = true) : ∃ W : Nat, w8 xs = (W : Int) ∧ W < 18446744073709551616 ∧ (W &&& M8 = 0 ↔ ∀ i, i < 8 → xs.getD i 0 < 128) := by
  have hb : ∀ i : Nat, ∃ n : Nat, xs.getD i 0 = (n : Int) ∧ n < 256 := fun i => by
    have := fitB_get h i
    exact ⟨(xs.getD i 0).toNat, by omega, by omega⟩
  obtain ⟨n0, e0, l0⟩ := hb 0
  obtain ⟨n1, e1, l1⟩ := hb 1
  obtain ⟨n2, e2, l2⟩ := hb 2
  obtain ⟨n3, e3, l3⟩ := hb 3
  obtain ⟨n4, e4, l4⟩ := hb 4
  obtain ⟨n5, e5, l5⟩ := hb 5
  obtain ⟨n6, e6, l6⟩ := hb 6
  obtain ⟨n7, e7, l7⟩ := hb 7
  have o : ∀ {a b : Nat}, a < 18446744073709551616 → b < 18446744073709551616 → a ||| b < 18446744073709551616 := fun ha hb => Nat.or_lt_two_pow (n := 64) ha hb
  have s0 : n0 < 18446744073709551616 := by omega
  have s1 := shl_lt l1 (show 1 < 8 by omega)
  have s2 := shl_lt l2 (show 2 < 8 by omega)
  have s3 := shl_lt l3 (show 3 < 8 by omega)
  have s4 := shl_lt l4 (show 4 < 8 by omega)
  have s5 := shl_lt l5 (show 5 < 8 by omega)
  have s6 := shl_lt l6 (show 6 < 8 by omega)
  have s7 := shl_lt l7 (show 7 < 8 by omega)
  refine ⟨((((((n0 ||| n1 * 2 ^ (8 * 1)) ||| n2 * 2 ^ (8 * 2)) ||| n3 * 2 ^ (8 * 3)) ||| n4 * 2 ^ (8 * 4)) ||| n5 * 2 ^ (8 * 5)) ||| n6 * 2 ^ (8 * 6)) ||| n7 * 2 ^ (8 * 7), ?_, o (o (o (o (o (o (o s0 s1) s2) s3) s4) s5) s6) s7, ?_⟩
  · unfold w8
    rw [e0, e1, e2, e3, e4, e5, e6, e7]
    rw [show (8 : Int) = ((8 * 1 : Nat) : Int) from rfl, show (16 : Int) = ((8 * 2 : Nat) : Int) from rfl, show (24 : Int) = ((8 * 3 : Nat) : Int) from rfl, show (32 : Int) = ((8 * 4 : Nat) : Int) from rfl, show (40 : Int) = ((8 * 5 : Nat) : Int) from rfl, show (48 : Int) = ((8 * 6 : Nat) : Int) from rfl, show (56 : Int) = ((8 * 7 : Nat) : Int) from rfl]
    rw [shl64 l1 (by omega), shl64 l2 (by omega), shl64 l3 (by omega), shl64 l4 (by omega), shl64 l5 (by omega), shl64 l6 (by omega), shl64 l7 (by omega), wrap64 s0]
    rw [bor64 s0 s1, bor64 (o s0 s1) s2, bor64 (o (o s0 s1) s2) s3, bor64 (o (o (o s0 s1) s2) s3) s4, bor64 (o (o (o (o s0 s1) s2) s3) s4) s5, bor64 (o (o (o (o (o s0 s1) s2) s3) s4) s5) s6, bor64 (o (o (o (o (o (o s0 s1) s2) s3) s4) s5) s6) s7]
  · rw [or_mask, or_mask, or_mask, or_mask, or_mask, or_mask, or_mask, hi_ok l1 (by omega), hi_ok l2 (by omega), hi_ok l3 (by omega), hi_ok l4 (by omega), hi_ok l5 (by omega), hi_ok l6 (by omega), hi_ok l7 (by omega)]
    have h0 := hi_ok l0 (show 0 < 8 by omega)
    rw [show n0 * 2 ^ (8 * 0) = n0 by simp] at h0
    rw [h0]
    constructor
    · intro hh i hi
      have hc : i = 0 ∨ i = 1 ∨ i = 2 ∨ i = 3 ∨ i = 4 ∨ i = 5 ∨ i = 6 ∨ i = 7 := by omega
      rcases hc with rfl | rfl | rfl | rfl | rfl | rfl | rfl | rfl
      · rw [e0]; omega
      · rw [e1]; omega
      · rw [e2]; omega
      · rw [e3]; omega
      · rw [e4]; omega
      · rw [e5]; omega
      · rw [e6]; omega
      · rw [e7]; omega
    · intro hh
      have g0 := hh 0 (by omega)
      have g1 := hh 1 (by omega)
      have g2 := hh 2 (by omega)
      have g3 := hh 3 (by omega)
      have g4 := hh 4 (by omega)
      have g5 := hh 5 (by omega)
      have g6 := hh 6 (by omega)
      have g7 := hh 7 (by omega)
      rw [e0] at g0; rw [e1] at g1; rw [e2] at g2; rw [e3] at g3; rw [e4] at g4; rw [e5] at g5; rw [e6] at g6; rw [e7] at g7
      omega
theorem mask1 {xs : List Int} (h : fitB xs = true) (hm : (band .u64 (w8 xs) (9259542123273814144 : Int) == (0 : Int)) = true) : ∀ i, i < 8 → xs.getD i 0 < 128 := by
  obtain ⟨W, e, l, hw⟩ := w8_nat h
  rw [e, show (9259542123273814144 : Int) = ((M8 : Nat) : Int) from rfl, band64 l (by decide), beq_iff_eq] at hm
  exact hw.1 (by omega)
theorem mask2 {xs ys : List Int} (h : fitB xs = true) (h2 : fitB ys = true) (hm : (band .u64 (bor .u64 (w8 xs) (w8 ys)) (9259542123273814144 : Int) == (0 : Int)) = true) : (∀ i, i < 8 → xs.getD i 0 < 128) ∧ ∀ i, i < 8 → ys.getD i 0 < 128 := by
  obtain ⟨W, e, l, hw⟩ := w8_nat h
  obtain ⟨V, e2, l2, hv⟩ := w8_nat h2
  rw [e, e2, bor64 l l2, show (9259542123273814144 : Int) = ((M8 : Nat) : Int) from rfl, band64 (Nat.or_lt_two_pow (n := 64) l l2) (by decide), beq_iff_eq] at hm
  have : (W ||| V) &&& M8 = 0 := by omega
  rw [or_mask] at this
  exact ⟨hw.1 this.1, hv.1 this.2⟩
theorem mask4 {a b c d : List Int} (ha : fitB a = true) (hb : fitB b = true) (hc : fitB c = true) (hd : fitB d = true) (hm : (band .u64 (bor .u64 (bor .u64 (w8 a) (w8 b)) (bor .u64 (w8 c) (w8 d))) (9259542123273814144 : Int) == (0 : Int)) = true) :
    (∀ i, i < 8 → a.getD i 0 < 128) ∧ (∀ i, i < 8 → b.getD i 0 < 128) ∧ (∀ i, i < 8 → c.getD i 0 < 128) ∧ ∀ i, i < 8 → d.getD i 0 < 128 := by
  obtain ⟨A, e1, l1, h1⟩ := w8_nat ha
  obtain ⟨B, e2, l2, h2⟩ := w8_nat hb
  obtain ⟨C, e3, l3, h3⟩ := w8_nat hc
  obtain ⟨D, e4, l4, h4⟩ := w8_nat hd
  have o : ∀ {a b : Nat}, a < 18446744073709551616 → b < 18446744073709551616 → a ||| b < 18446744073709551616 := fun ha hb => Nat.or_lt_two_pow (n := 64) ha hb
  rw [e1, e2, e3, e4, bor64 l1 l2, bor64 l3 l4, bor64 (o l1 l2) (o l3 l4), show (9259542123273814144 : Int) = ((M8 : Nat) : Int) from rfl, band64 (o (o l1 l2) (o l3 l4)) (by decide), beq_iff_eq] at hm
  have : ((A ||| B) ||| (C ||| D)) &&& M8 = 0 := by omega
  rw [or_mask, or_mask, or_mask] at this
  exact ⟨h1.1 this.1.1, h2.1 this.1.2, h3.1 this.2.1, h4.1 this.2.2⟩
theorem ascii_more {xs : List Int} {n m : Nat} (h1 : ∀ i, i < n → xs.getD i 0 < 128) (h2 : ∀ i, i < m → (xs.drop n).getD i 0 < 128) : ∀ i, i < n + m → xs.getD i 0 < 128 := fun i hi => by
  by_cases h : i < n
  · exact h1 i h
  · have := h2 (i - n) (by omega)
    rw [getD_drop, show n + (i - n) = i by omega] at this
    exact this
theorem loop10 (k0 : List Int → Int → Option Ret) (x3 : Int) : ∀ (m : Nat) (xs : List Int), fitB xs = true → xs.length < m → ∃ ys, fitB ys = true ∧ ys.length ≤ xs.length ∧ valid ys = valid xs ∧ Q_utf8_Valid_10_0 m xs x3 k0 = k0 ys x3
  | 0, xs, _, h => absurd h (by omega)
  | m + 1, xs, hf, hl => by
    show ∃ ys, fitB ys = true ∧ ys.length ≤ xs.length ∧ valid ys = valid xs ∧ P_utf8_Valid_10_0 xs x3 _ k0 = k0 ys x3
    unfold P_utf8_Valid_10_0
    by_cases h32 : ((xs.length : Nat) : Int) > 32
    · simp (disch := omega) only [decide_eq_true, decide_eq_false, Bool.true_and, cond_true, List.length_drop, Nat.ble_eq_true_of_le]
      cases hm : (band .u64 (bor .u64 (bor .u64 (w8 xs) (w8 (List.drop 8 xs))) (bor .u64 (w8 (List.drop 16 xs)) (w8 (List.drop 24 xs)))) (9259542123273814144 : Int) == (0 : Int)) with
      | false => exact ⟨xs, hf, Nat.le_refl _, rfl, rfl⟩
      | true =>
        obtain ⟨a1, a2, a3, a4⟩ := mask4 hf (fitB_drop hf 8) (fitB_drop hf 16) (fitB_drop hf 24) hm
        have a := ascii_more (n := 24) (ascii_more (n := 16) (ascii_more (n := 8) a1 a2) a3) a4
        obtain ⟨ys, g1, g2, g3, g4⟩ := loop10 k0 x3 m (List.drop 32 xs) (fitB_drop hf 32) (by simp; omega)
        exact ⟨ys, g1, by simp at g2; omega, g3.trans (valid_drop 32 (by omega) a), g4⟩
    · rw [decide_eq_false h32]
      exact ⟨xs, hf, Nat.le_refl _, rfl, rfl⟩
theorem step2 (x0 : List Int) (hx : fitB x0 = true) (nx : List Int → Option Ret) (k0 : Bool → Option Ret) (k1 RES : Option Ret)
    (hn : ∀ ys, fitB ys = true → ys.length < x0.length → valid ys = valid x0 → nx ys = RES) (h1 : valid x0 = true → k1 = RES) (h0 : valid x0 = false → k0 false = RES) : P_utf8_Valid_2_0 x0 nx k0 k1 = RES := by
  unfold P_utf8_Valid_2_0
  by_cases hl : ((x0.length : Nat) : Int) > 0
  case neg =>
    rw [decide_eq_false hl]
    have : x0 = [] := List.length_eq_zero_iff.1 (by omega)
    exact h1 (by rw [this]; exact valid_nil)
  case pos =>
  have hb := fitB_get hx 0
  by_cases hb1 : x0.getD 0 0 < 128
  · have hd : ∀ n, 1 ≤ n → n ≤ x0.length → (∀ i, i < n → x0.getD i 0 < 128) → nx (x0.drop n) = RES := fun n hn1 hn2 ha => hn _ (fitB_drop hx n) (by simp; omega) (valid_drop n hn2 ha)
    have a0 : ∀ i, i < 1 → x0.getD i 0 < 128 := fun i hi => by rw [show i = 0 by omega]; exact hb1
    simp (disch := omega) only [decide_eq_true, Bool.true_and, cond_true, List.length_drop, List.drop_drop]
    by_cases h9 : ((x0.length - 1 : Nat) : Int) > 8
    case neg => rw [decide_eq_false h9]; exact hd 1 (by omega) (by omega) a0
    rw [decide_eq_true h9, Nat.ble_eq_true_of_le (show 8 ≤ x0.length - 1 by omega)]
    cases hm : (band .u64 (w8 (List.drop 1 x0)) (9259542123273814144 : Int) == (0 : Int)) with
    | false => exact hd 1 (by omega) (by omega) a0
    | true =>
    have a9 := ascii_more a0 (mask1 (fitB_drop hx 1) hm)
    rw [decide_eq_true (show (8 : Int) ≤ ((x0.length - 1 : Nat) : Int) by omega)]
    simp only [cond_true]
    by_cases h17 : ((x0.length - (1 + 8) : Nat) : Int) > 16
    case neg => rw [decide_eq_false h17]; exact hd 9 (by omega) (by omega) a9
    simp (disch := omega) only [decide_eq_true, Nat.ble_eq_true_of_le, Bool.true_and, cond_true]
    cases hm2 : (band .u64 (bor .u64 (w8 (List.drop (1 + 8) x0)) (w8 (List.drop (1 + 8 + 8) x0))) (9259542123273814144 : Int) == (0 : Int)) with
    | false => exact hd 9 (by omega) (by omega) a9
    | true =>
    obtain ⟨m1, m2⟩ := mask2 (fitB_drop hx _) (fitB_drop hx _) hm2
    have a25 := ascii_more (ascii_more a9 m1) m2
    unfold R_utf8_Valid_10_0
    obtain ⟨ys, g1, g2, g3, g4⟩ := loop10 (fun y0 y1 => nx y0) (x0.getD 0 0) ((List.drop (1 + 8 + 16) x0).length + (x0.getD 0 0).toNat + 2) (List.drop (1 + 8 + 16) x0) (fitB_drop hx _) (by omega)
    refine g4.trans (hn ys g1 ?_ (g3.trans (valid_drop 25 (by omega) a25)))
    simp at g2; omega
  · have hsh := first_sh hb.1 hb.2
    have hlen := first_len
    have hacc := accept_len
    have e1 : shrI .u8 (List.getD utfFirst (Int.toNat (List.getD x0 0 (0 : Int))) (0 : Int)) (4 : Int) = fsh (x0.getD 0 0) := rfl
    have e2 : IntKind.wrap .i64 (band .u8 (List.getD utfFirst (Int.toNat (List.getD x0 0 (0 : Int))) (0 : Int)) (7 : Int)) = fsz (x0.getD 0 0) := rfl
    have e3 : List.getD utfAccept (Int.toNat (fsh (x0.getD 0 0))) (Seat.accR.dflt) = fac (x0.getD 0 0) := rfl
    rw [e1, e2, e3]
    have c1 : Nat.blt (Int.toNat (List.getD x0 0 (0 : Int))) (List.length utfFirst) = true := by rw [hlen, Nat.blt_eq]; omega
    have c2 : Nat.blt (Int.toNat (fsh (x0.getD 0 0))) (List.length utfAccept) = true := by rw [hacc, Nat.blt_eq]; omega
    rw [c1, c2]
    simp (disch := omega) only [decide_eq_true, decide_eq_false, Bool.true_and, cond_true, cond_false]
    have stop : runeSz x0 = 0 → k0 false = RES := fun h => h0 (valid_stop h (by omega))
    have go : ∀ n, runeSz x0 = n → 1 ≤ n → nx (x0.drop n) = RES := fun n h hn1 => by
      subst h
      exact hn _ (fitB_drop hx _) (by have := runeSz_le x0; simp; omega) (valid_step (by omega)).symm
    by_cases r1 : x0.getD 0 0 < 194 ∨ 245 ≤ x0.getD 0 0
    · rw [first_1 (by omega) hb.2 r1]
      refine stop ?_
      unfold runeSz
      repeat' split
      all_goals first | omega | rfl
    by_cases r2 : x0.getD 0 0 < 224
    · obtain ⟨f1, f2⟩ := first_2 (by omega) r2
      rw [f1, f2]
      have er : runeSz x0 = if 2 ≤ x0.length ∧ 128 ≤ x0.getD 1 0 ∧ x0.getD 1 0 ≤ 191 then 2 else 0 := by
        unfold runeSz; rw [if_neg (by omega), if_neg (by omega), if_neg (by omega), if_pos r2]
      simp only [BEq.rfl, cond_true]
      by_cases c : ((x0.length : Nat) : Int) < 2
      · rw [decide_eq_true c]; exact stop (by rw [er, if_neg (by omega)])
      rw [decide_eq_false c, decide_eq_true (show (1 : Int) < ((x0.length : Nat) : Int) by omega)]
      simp only [cond_true, cond_false]
      by_cases d1 : x0.getD 1 0 < 128
      · rw [decide_eq_true d1]; exact stop (by rw [er, if_neg (by omega)])
      by_cases d2 : 191 < x0.getD 1 0
      · rw [decide_eq_false d1, decide_eq_true d2]; exact stop (by rw [er, if_neg (by omega)])
      rw [decide_eq_false d1, decide_eq_false d2, decide_eq_true (show (2 : Int) ≤ ((x0.length : Nat) : Int) by omega)]
      exact go 2 (by rw [er, if_pos (by omega)]) (by omega)
    by_cases r3 : x0.getD 0 0 < 240
    · obtain ⟨f1, f2⟩ := first_3 (by omega) r3
      rw [f1, f2]
      have er : runeSz x0 = if 3 ≤ x0.length ∧ lo3 (x0.getD 0 0) ≤ x0.getD 1 0 ∧ x0.getD 1 0 ≤ hi3 (x0.getD 0 0) ∧ 128 ≤ x0.getD 2 0 ∧ x0.getD 2 0 ≤ 191 then 3 else 0 := by
        unfold runeSz; rw [if_neg (by omega), if_neg (by omega), if_neg (by omega), if_neg (by omega), if_pos r3]
      rw [show ((3 : Int) == 2) = false from rfl]
      simp only [BEq.rfl, cond_true, cond_false]
      by_cases c : ((x0.length : Nat) : Int) < 3
      · rw [decide_eq_true c]; exact stop (by rw [er, if_neg (by omega)])
      rw [decide_eq_false c, decide_eq_true (show (1 : Int) < ((x0.length : Nat) : Int) by omega), decide_eq_true (show (2 : Int) < ((x0.length : Nat) : Int) by omega), decide_eq_true (show (3 : Int) ≤ ((x0.length : Nat) : Int) by omega)]
      simp only [cond_true, cond_false]
      by_cases d1 : x0.getD 1 0 < lo3 (x0.getD 0 0)
      · rw [decide_eq_true d1]; exact stop (by rw [er, if_neg (by omega)])
      by_cases d2 : hi3 (x0.getD 0 0) < x0.getD 1 0
      · rw [decide_eq_false d1, decide_eq_true d2]; exact stop (by rw [er, if_neg (by omega)])
      by_cases d3 : x0.getD 2 0 < 128
      · rw [decide_eq_false d1, decide_eq_false d2, decide_eq_true d3]; exact stop (by rw [er, if_neg (by omega)])
      by_cases d4 : 191 < x0.getD 2 0
      · rw [decide_eq_false d1, decide_eq_false d2, decide_eq_false d3, decide_eq_true d4]; exact stop (by rw [er, if_neg (by omega)])
      rw [decide_eq_false d1, decide_eq_false d2, decide_eq_false d3, decide_eq_false d4]
      exact go 3 (by rw [er, if_pos (by omega)]) (by omega)
    · obtain ⟨f1, f2⟩ := first_4 (b := x0.getD 0 0) (by omega) (by omega)
      rw [f1, f2]
      have er : runeSz x0 = if 4 ≤ x0.length ∧ lo4 (x0.getD 0 0) ≤ x0.getD 1 0 ∧ x0.getD 1 0 ≤ hi4 (x0.getD 0 0) ∧ 128 ≤ x0.getD 2 0 ∧ x0.getD 2 0 ≤ 191 ∧ 128 ≤ x0.getD 3 0 ∧ x0.getD 3 0 ≤ 191 then 4 else 0 := by
        unfold runeSz; rw [if_neg (by omega), if_neg (by omega), if_neg (by omega), if_neg (by omega), if_neg r3, if_pos (by omega)]
      rw [show ((4 : Int) == 2) = false from rfl, show ((4 : Int) == 3) = false from rfl]
      simp only [BEq.rfl, cond_true, cond_false]
      by_cases c : ((x0.length : Nat) : Int) < 4
      · rw [decide_eq_true c]; exact stop (by rw [er, if_neg (by omega)])
      rw [decide_eq_false c, decide_eq_true (show (1 : Int) < ((x0.length : Nat) : Int) by omega), decide_eq_true (show (2 : Int) < ((x0.length : Nat) : Int) by omega), decide_eq_true (show (3 : Int) < ((x0.length : Nat) : Int) by omega), decide_eq_true (show (4 : Int) ≤ ((x0.length : Nat) : Int) by omega)]
      simp only [cond_true, cond_false]
      by_cases d1 : x0.getD 1 0 < lo4 (x0.getD 0 0)
      · rw [decide_eq_true d1]; exact stop (by rw [er, if_neg (by omega)])
      by_cases d2 : hi4 (x0.getD 0 0) < x0.getD 1 0
      · rw [decide_eq_false d1, decide_eq_true d2]; exact stop (by rw [er, if_neg (by omega)])
      by_cases d3 : x0.getD 2 0 < 128
      · rw [decide_eq_false d1, decide_eq_false d2, decide_eq_true d3]; exact stop (by rw [er, if_neg (by omega)])
      by_cases d4 : 191 < x0.getD 2 0
      · rw [decide_eq_false d1, decide_eq_false d2, decide_eq_false d3, decide_eq_true d4]; exact stop (by rw [er, if_neg (by omega)])
      by_cases d5 : x0.getD 3 0 < 128
      · rw [decide_eq_false d1, decide_eq_false d2, decide_eq_false d3, decide_eq_false d4, decide_eq_true d5]; exact stop (by rw [er, if_neg (by omega)])
      by_cases d6 : 191 < x0.getD 3 0
      · rw [decide_eq_false d1, decide_eq_false d2, decide_eq_false d3, decide_eq_false d4, decide_eq_false d5, decide_eq_true d6]; exact stop (by rw [er, if_neg (by omega)])
      rw [decide_eq_false d1, decide_eq_false d2, decide_eq_false d3, decide_eq_false d4, decide_eq_false d5, decide_eq_false d6]
      exact go 4 (by rw [er, if_pos (by omega)]) (by omega)
theorem loop2 (k0 : Bool → Option Ret) (k1 : Option Ret) : ∀ (m : Nat) (xs : List Int), fitB xs = true → xs.length < m → Q_utf8_Valid_2_0 m xs k0 k1 = bif valid xs then k1 else k0 false
  | 0, xs, _, h => absurd h (by omega)
  | m + 1, xs, hf, hl => by
    show P_utf8_Valid_2_0 xs _ k0 k1 = _
    refine step2 xs hf _ k0 k1 _ (fun ys h1 h2 h3 => ?_) (fun h => by rw [h]; rfl) (fun h => by rw [h]; rfl)
    have := loop2 k0 k1 m ys h1 (by omega)
    rw [h3] at this
    exact this
def S_utf8_Valid : Sm := S_fnR [.l bytesR] (fun d => fitB d.1) (fun d => (bl (valid d.1), []))
theorem v_utf8_Valid (p : List Int) (h : (fitB p) = true) (K : Ret → Option Ret) : T_utf8_Valid p K = K (bl (valid p), []) := by
  unfold T_utf8_Valid R_utf8_Valid_2_0
  rw [decide_eq_true (Int.le_refl _), List.take_length]
  simp only [Bool.true_and, cond_true, List.drop_zero]
  rw [loop2 _ _ _ p h (by omega)]
  cases valid p <;> rfl
theorem okS_utf8_Valid : OkFn prog I N.utf8_Valid true S_utf8_Valid := okN (ok_fn (memc okS_utf8_word_bytes mem0) (l := ls_utf8_Valid) (p := pl_utf8_Valid) (ls := [(10, [0,3], [0,2,3], W_utf8_Valid_10), (2, [0], [2], W_utf8_Valid_2)]) (lend := []) (focus := false) (fuel := 0) (give := []) (fn := F.utf8_Valid) (by kernel_rfl) (by kernel_rfl) (by kernel_rfl) (by kernel_rfl) (cs := [bodyOf F.utf8_Valid 2, bodyOf F.utf8_Valid 10]) (by kernel_rfl) (loopsc loopK_utf8_Valid_2 (loopsc loopK_utf8_Valid_10 loops0))) (S_fnR_of fun d K h => (e_utf8_Valid d.1 K).trans (v_utf8_Valid d.1 h K))
end Go.Ev.Seat
end
section
/- i_isChunk: its contract. -/
namespace Go.Ev.Seat
open Go.RowKit
set_option maxRecDepth 100000
set_option linter.unusedVariables false
set_option linter.unusedSimpArgs false
noncomputable abbrev ls_i_isChunk : List (Nat × Bool × Sm) := [(N.i_in, true, S_i_in), (N.utf8_Valid, true, S_utf8_Valid)]
noncomputable abbrev E_i_isChunk : Env := En ls_i_isChunk [] [] [] false 0 []
noncomputable def T_i_isChunk (d : T_Chunk) (K : Ret → Option Ret) : Option Ret := (bif ((decide ((1 : Int) ≤ (((List.length d) : Nat) : Int))) && (decide ((((List.length d) : Nat) : Int) ≤ (16 : Int)))) then (bif (fitB d) then K ((.s (.bool (valid d))), []) else none) else K ((.s (.bool false)), []))
theorem e_i_isChunk (d : T_Chunk) (K : Ret → Option Ret) : evF E_i_isChunk true F.i_isChunk [.a (chunkR.cells .no d)] K = T_i_isChunk d K := by kernel_rfl
def S_i_isChunk : Sm := S_fnR [.a chunkR] (fun d => fitB d.1) (fun d => (bl (chunkOkD d.1), []))
theorem v_i_isChunk (d : T_Chunk) (h : (fitB d) = true) (K : Ret → Option Ret) : T_i_isChunk d K = K (bl (chunkOkD d), []) := by
  unfold T_i_isChunk chunkOkD
  rw [h]
  by_cases h1 : ((d.length : Nat) : Int) ≤ 16
  · have e : textOk d = valid d := by
      rw [Bool.eq_iff_iff, textOk_iff]
      exact ⟨fun q => q.2, fun q => ⟨by omega, q⟩⟩
    rw [e]
    cases decide (1 ≤ ((d.length : Nat) : Int)) <;> cases decide (((d.length : Nat) : Int) ≤ 16) <;> rfl
  · rw [decide_eq_false h1]
    cases decide (1 ≤ ((d.length : Nat) : Int)) <;> rfl
theorem okS_i_isChunk : OkFn prog I N.i_isChunk true S_i_isChunk := okN (ok_fn (memc okS_i_in (memc okS_utf8_Valid mem0)) (l := ls_i_isChunk) (p := []) (ls := []) (lend := []) (focus := false) (fuel := 0) (give := []) (fn := F.i_isChunk) (by kernel_rfl) (by kernel_rfl) (by kernel_rfl) (by kernel_rfl) (cs := []) (by kernel_rfl) loops0) (S_fnR_of fun d K h => (e_i_isChunk d.1 K).trans (v_i_isChunk d.1 h K))
end Go.Ev.Seat
end
section
/- i_areChunks: its contract. -/
namespace Go.Ev.Seat
open Go.RowKit
set_option maxRecDepth 100000
set_option linter.unusedVariables false
set_option linter.unusedSimpArgs false
def z_i_areChunks_3_0 (x2 : Bool) : St := { tm := ([.x, .x, (.s (.bool x2))] ++ List.replicate 22 .x), ob := [], nx := 0, io := [] }
def z_i_areChunks_3_1 : St := { tm := ([] ++ List.replicate 25 .x), ob := [], nx := 0, io := [] }
def sh_i_areChunks_3_0 : Ss := { tm := (.cons (.x) (.cons (.x) (.cons (.x) (.cons (.int .i64) (.cons (.x) (.cons (.x) (.cons (.l .no pieceR) (.cons (.int .i64) (.cons (.int .i64) (xsh 16)))))))))), ob := .nil, nx := 0, io := .nil }
def d_i_areChunks_3_0 (x3 : Int) (x6 : List T_Piece) (x7 : Int) (x8 : Int) : sh_i_areChunks_3_0.T := (((), ((), ((), (x3, ((), ((), (x6, (x7, (x8, xd 16))))))))), (), ())
def s_i_areChunks_3_0 (x3 : Int) (x6 : List T_Piece) (x7 : Int) (x8 : Int) : St := { tm := ([.x, .x, .x, (.s (.int .i64 x3)), .x, .x, (.l .no pieceR x6), (.s (.int .i64 x7)), (.s (.int .i64 x8))] ++ List.replicate 16 .x), ob := [], nx := 0, io := [] }
theorem se_i_areChunks_3_0 (x3 : Int) (x6 : List T_Piece) (x7 : Int) (x8 : Int) : sh_i_areChunks_3_0.mk' (d_i_areChunks_3_0 x3 x6 x7 x8) = (s_i_areChunks_3_0 x3 x6 x7 x8) := by kernel_rfl
def w_i_areChunks_3_0 (d : sh_i_areChunks_3_0.T) (f : Int → (List T_Piece) → Int → Int → Option Ret) : Option Ret := match d with | ((_, (_, (_, (x3, (_, (_, (x6, (x7, (x8, _))))))))), _, _) => f x3 x6 x7 x8
noncomputable def P_i_areChunks_3_0 (x3 : Int) (x6 : List T_Piece) (x7 : Int) (x8 : Int) (nx0 : Int → (List T_Piece) → Int → Int → Option Ret) (k0 : Bool → Option Ret) (k1 : Option Ret) : Option Ret := (bif (decide (x8 < x7)) then (bif ((decide ((0 : Int) ≤ x8)) && (decide (x8 < (((List.length x6) : Nat) : Int)))) then (bif (fitB (List.getD x6 (Int.toNat x8) (pieceR.dflt))) then (bif (!(chunkOkD (List.getD x6 (Int.toNat x8) (pieceR.dflt)))) then (k0 false) else (bif (decide ((IntKind.wrap .i64 (x3 + (((List.length (List.getD x6 (Int.toNat x8) (pieceR.dflt))) : Nat) : Int))) > (400 : Int))) then (k0 false) else (nx0 (IntKind.wrap .i64 (x3 + (((List.length (List.getD x6 (Int.toNat x8) (pieceR.dflt))) : Nat) : Int))) x6 x7 (IntKind.wrap .i64 (x8 + (1 : Int)))))) else none) else none) else k1)
noncomputable def Q_i_areChunks_3_0 : Nat → Int → (List T_Piece) → Int → Int → (Bool → Option Ret) → (Option Ret) → Option Ret
  | 0, _, _, _, _, _, _ => none
  | m + 1, x3, x6, x7, x8, k0, k1 => P_i_areChunks_3_0 x3 x6 x7 x8 (fun x3 x6 x7 x8 => (Q_i_areChunks_3_0 m x3 x6 x7 x8 k0 k1)) k0 k1
noncomputable def R_i_areChunks_3_0 (x3 : Int) (x6 : List T_Piece) (x7 : Int) (x8 : Int) (k0 : Bool → Option Ret) (k1 : Option Ret) : Option Ret := Q_i_areChunks_3_0 (x3.toNat + List.length x6 + x7.toNat + x8.toNat + 2) x3 x6 x7 x8 k0 k1
noncomputable def W_i_areChunks_3 : LoopFn := (fun (σ : St) (K : Ex → St → Option Ret) => (match sh_i_areChunks_3_0.un σ with | some d => w_i_areChunks_3_0 d (fun x3 x6 x7 x8 => R_i_areChunks_3_0 x3 x6 x7 x8 (fun x2 => (K .ret (z_i_areChunks_3_0 x2))) (K (.ext 0) z_i_areChunks_3_1)) | none => none))
noncomputable abbrev ls_i_areChunks : List (Nat × Bool × Sm) := [(N.i_isChunk, true, S_i_isChunk)]
noncomputable abbrev E_i_areChunks : Env := En ls_i_areChunks [] [(3, [3,6,7,8], [2], W_i_areChunks_3)] [] false 0 []
noncomputable abbrev U_i_areChunks_3 := rounds (run E_i_areChunks (bodyOf F.i_areChunks 3)) [3,6,7,8] [2]
theorem st_i_areChunks_3_0 (m : Nat) (x3 : Int) (x6 : List T_Piece) (x7 : Int) (x8 : Int) (K : Ex → St → Option Ret) : U_i_areChunks_3 (m + 1) (s_i_areChunks_3_0 x3 x6 x7 x8) K = P_i_areChunks_3_0 x3 x6 x7 x8 (fun x3 x6 x7 x8 => (U_i_areChunks_3 m (s_i_areChunks_3_0 x3 x6 x7 x8) K)) (fun x2 => (K .ret (z_i_areChunks_3_0 x2))) (K (.ext 0) z_i_areChunks_3_1) := by kernel_rfl
theorem q_i_areChunks_3 (K : Ex → St → Option Ret) : ∀ m : Nat, (∀ (x3 : Int) (x6 : List T_Piece) (x7 : Int) (x8 : Int), U_i_areChunks_3 m (s_i_areChunks_3_0 x3 x6 x7 x8) K = Q_i_areChunks_3_0 m x3 x6 x7 x8 (fun x2 => (K .ret (z_i_areChunks_3_0 x2))) (K (.ext 0) z_i_areChunks_3_1))
  | 0 => (fun _ _ _ _ => rfl)
  | m + 1 => (fun x3 x6 x7 x8 => (by rw [st_i_areChunks_3_0, show (fun x3 x6 x7 x8 => (U_i_areChunks_3 m (s_i_areChunks_3_0 x3 x6 x7 x8) K)) = (fun x3 x6 x7 x8 => (Q_i_areChunks_3_0 m x3 x6 x7 x8 (fun x2 => (K .ret (z_i_areChunks_3_0 x2))) (K (.ext 0) z_i_areChunks_3_1))) from funext fun x3 => funext fun x6 => funext fun x7 => funext fun x8 => (q_i_areChunks_3 K m) x3 x6 x7 x8]; rfl))
theorem loopK_i_areChunks_3 : LoopOk E_i_areChunks (bodyOf F.i_areChunks 3) := by
  refine loopW_ok (n := 3) (F := W_i_areChunks_3) (by kernel_rfl) rfl (li := [3,6,7,8]) (lo := [2]) rfl (fun σ K r hr => ?_)
  unfold W_i_areChunks_3 at hr
  split at hr
  · rename_i d hd
    rw [Ss.un_mk hd]
    exact ⟨_, ((congrArg (fun z => U_i_areChunks_3 _ z K) (se_i_areChunks_3_0 _ _ _ _)).trans ((q_i_areChunks_3 K _) _ _ _ _)).trans hr⟩
  · cases hr
noncomputable def T_i_areChunks (l : List T_Chunk) (K : Ret → Option Ret) : Option Ret := (R_i_areChunks_3_0 (0 : Int) l (((List.length l) : Nat) : Int) (0 : Int) (fun y0 => K ((.s (.bool y0)), [])) (K ((.s (.bool true)), [])))
theorem e_i_areChunks (l : List T_Chunk) (K : Ret → Option Ret) : evF E_i_areChunks true F.i_areChunks [.l .no chunkR l] K = T_i_areChunks l K := by kernel_rfl
def S_i_areChunks : Sm := S_fnR [.l chunkR] (fun d => fitC (.sl chunkR) d.1) (fun d => (bl (chunksOkD d.1), []))
theorem v_i_areChunks (l : List T_Chunk) (h : (fitC (.sl chunkR) l) = true) (K : Ret → Option Ret) : T_i_areChunks l K = K (bl (chunksOkD l), []) := by
  have hl := fitC_len h
  unfold T_i_areChunks chunksOkD
  have q : ∀ (m i n : Nat), n ≤ 400 → i ≤ l.length → l.length - i < m → Q_i_areChunks_3_0 m ((n : Nat) : Int) l ((l.length : Nat) : Int) ((i : Nat) : Int) (fun y0 => K ((.s (.bool y0)), [])) (K ((.s (.bool true)), [])) = K (bl (chunksOkL (l.drop i) n), []) := by
    intro m
    induction m with
    | zero => intro i n _ _ hm; omega
    | succ m ih =>
      intro i n hn hi hm
      show P_i_areChunks_3_0 ((n : Nat) : Int) l ((l.length : Nat) : Int) ((i : Nat) : Int) _ _ _ = _
      unfold P_i_areChunks_3_0
      by_cases hlt : i < l.length
      · have hg : l.getD i (pieceR.dflt) = l[i] := getD_lt _ hlt
        have hf : fitB l[i] = true := fitB_fit (fitC_mem (r := chunkR) h (List.getElem_mem hlt))
        have hd : l.drop i = l[i] :: l.drop (i + 1) := (List.getElem_cons_drop hlt).symm
        rw [decide_eq_true (show ((i : Nat) : Int) < ((l.length : Nat) : Int) by omega), decide_eq_true (show (0 : Int) ≤ ((i : Nat) : Int) by omega), Int.toNat_natCast, wrap_nat (by omega), hg, hf, hd]
        cases he : chunkOkD l[i] with
        | false => simp only [chunksOkL, he]; rfl
        | true =>
          have hk := chunkOkD_len he
          have e1 : ((n : Nat) : Int) + ((l[i].length : Nat) : Int) = ((n + l[i].length : Nat) : Int) := by omega
          rw [wrap_in (n := ((n : Nat) : Int) + ((l[i].length : Nat) : Int)) (by omega) (by omega), e1]
          simp only [chunksOkL, he]
          by_cases h4 : ((n + l[i].length : Nat) : Int) > 400
          · rw [decide_eq_true h4]; rfl
          · rw [decide_eq_false h4]
            exact ih (i + 1) (n + l[i].length) (by omega) (by omega) (by omega)
      · obtain rfl : i = l.length := by omega
        rw [decide_eq_false (show ¬ ((l.length : Nat) : Int) < ((l.length : Nat) : Int) by omega), List.drop_length]; rfl
  refine Eq.trans (q _ 0 0 (by omega) (by omega) (by omega)) ?_
  rw [List.drop_zero]
theorem okS_i_areChunks : OkFn prog I N.i_areChunks true S_i_areChunks := okN (ok_fn (memc okS_i_isChunk mem0) (l := ls_i_areChunks) (p := []) (ls := [(3, [3,6,7,8], [2], W_i_areChunks_3)]) (lend := []) (focus := false) (fuel := 0) (give := []) (fn := F.i_areChunks) (by kernel_rfl) (by kernel_rfl) (by kernel_rfl) (by kernel_rfl) (cs := [bodyOf F.i_areChunks 3]) (by kernel_rfl) (loopsc loopK_i_areChunks_3 loops0)) (S_fnR_of fun d K h => (e_i_areChunks d.1 K).trans (v_i_areChunks d.1 h K))
end Go.Ev.Seat
end
section
/- Decoding by bits. -/
set_option linter.unusedVariables false
namespace Go.Ev
open Go.RowKit
end Go.Ev
end
section
/- Encoding and decoding are inverse to each other. -/
set_option linter.unusedVariables false
namespace Go.Ev
open Go.RowKit
end Go.Ev
end
section
/- UTF-8: texts put together and cut. -/
set_option linter.unusedVariables false
namespace Go.Ev
open Go.RowKit
theorem getD_app {xs ys : List Int} {i : Nat} (h : i < xs.length) : (xs ++ ys).getD i 0 = xs.getD i 0 := by
  rw [List.getD_eq_getElem?_getD, List.getD_eq_getElem?_getD, List.getElem?_append_left h]
end Go.Ev
end
section
/- How many runes a text has. -/
set_option linter.unusedVariables false
namespace Go.Ev
open Go.RowKit
end Go.Ev
end
section
/- Offsets and places of a text. -/
set_option linter.unusedVariables false
namespace Go.Ev
open Go.RowKit
end Go.Ev
end
section
/- Offsets in chunks. -/
set_option linter.unusedVariables false
namespace Go.Ev
open Go.RowKit
def chunkForL : List (List Int) → Nat → Int → Int × Int
  | [], i, _ => ((i : Nat), 0)
  | d :: l, i, k => bif decide (k < ((d.length : Nat) : Int)) then ((i : Nat), k) else chunkForL l (i + 1) (k - (d.length : Nat))
def chunkForD (l : List (List Int)) (k : Int) : Int × Int := bif chunksOkD l && (decide (0 ≤ k) && decide (k ≤ ((l.flatten.length : Nat) : Int))) then chunkForL l 0 k else (-1, -1)
theorem chunkForL_in : ∀ (l : List (List Int)) (i : Nat) (k : Int), 0 ≤ k → k ≤ ((l.flatten.length : Nat) : Int) → ∃ (a b : Nat), chunkForL l i k = (((i + a : Nat) : Int), ((b : Nat) : Int)) ∧ k = ((sumW List.length (l.take a) : Nat) : Int) + b ∧ a ≤ l.length ∧ (a = l.length → b = 0) ∧ (a < l.length → b < (l.getD a []).length ∧ k < ((l.flatten.length : Nat) : Int) ∧ (l.getD a []).getD b 0 = l.flatten.getD k.toNat 0)
  | [], i, k, h0, h1 => ⟨0, 0, rfl, by simp at h1; simp [sumW]; omega, Nat.le_refl _, fun _ => rfl, fun h => absurd h (by simp)⟩
  | d :: l, i, k, h0, h1 => by
    rw [List.flatten_cons, List.length_append] at h1
    unfold chunkForL
    by_cases hk : k < ((d.length : Nat) : Int)
    · rw [decide_eq_true hk, cond_true]
      refine ⟨0, k.toNat, by rw [Int.toNat_of_nonneg h0]; rfl, by simp [sumW]; omega, Nat.zero_le _, fun h => by simp at h, fun _ => ⟨?_, by rw [List.flatten_cons, List.length_append]; omega, ?_⟩⟩
      · show k.toNat < d.length
        omega
      · show d.getD k.toNat 0 = (d ++ l.flatten).getD k.toNat 0
        rw [getD_app (by omega)]
    · rw [decide_eq_false hk, cond_false]
      obtain ⟨a, b, g1, g2, g3, g4, g5⟩ := chunkForL_in l (i + 1) (k - (d.length : Nat)) (by omega) (by omega)
      refine ⟨a + 1, b, by rw [g1]; congr 1; omega, ?_, by simp; omega, fun h => g4 (by simp at h; omega), fun h => ?_⟩
      · rw [List.take_succ_cons]
        simp only [sumW]
        omega
      · obtain ⟨j1, j2, j3⟩ := g5 (by simp at h; omega)
        refine ⟨j1, by rw [List.flatten_cons, List.length_append]; omega, ?_⟩
        show (l.getD a []).getD b 0 = (d ++ l.flatten).getD k.toNat 0
        rw [j3, List.getD_eq_getElem?_getD, List.getD_eq_getElem?_getD, List.getElem?_append_right (by omega)]
        congr 2; omega
end Go.Ev
end
section
/- i_chunksText: its contract. -/
namespace Go.Ev.Seat
open Go.RowKit
set_option maxRecDepth 100000
set_option linter.unusedVariables false
set_option linter.unusedSimpArgs false
def z_i_chunksText_3_0 (o0 : List Int) : St := { tm := ([.x, .x, .x, (.w 0)] ++ List.replicate 15 .x), ob := [(0, (.arr true true bytesR o0))], nx := 1, io := [] }
def sh_i_chunksText_3_0 : Ss := { tm := (.cons (.x) (.cons (.x) (.cons (.x) (.cons (.w 0) (.cons (.x) (.cons (.x) (.cons (.x) (.cons (.l .no pieceR) (.cons (.int .i64) (.cons (.int .i64) (xsh 9))))))))))), ob := (.arr true true bytesR .nil), nx := 1, io := .nil }
def d_i_chunksText_3_0 (x7 : List T_Piece) (x8 : Int) (x9 : Int) (o0 : List Int) : sh_i_chunksText_3_0.T := (((), ((), ((), ((), ((), ((), ((), (x7, (x8, (x9, xd 9)))))))))), (o0, ()), ())
def s_i_chunksText_3_0 (x7 : List T_Piece) (x8 : Int) (x9 : Int) (o0 : List Int) : St := { tm := ([.x, .x, .x, (.w 0), .x, .x, .x, (.l .no pieceR x7), (.s (.int .i64 x8)), (.s (.int .i64 x9))] ++ List.replicate 9 .x), ob := [(0, (.arr true true bytesR o0))], nx := 1, io := [] }
theorem se_i_chunksText_3_0 (x7 : List T_Piece) (x8 : Int) (x9 : Int) (o0 : List Int) : sh_i_chunksText_3_0.mk' (d_i_chunksText_3_0 x7 x8 x9 o0) = (s_i_chunksText_3_0 x7 x8 x9 o0) := by kernel_rfl
def w_i_chunksText_3_0 (d : sh_i_chunksText_3_0.T) (f : (List T_Piece) → Int → Int → (List Int) → Option Ret) : Option Ret := match d with | ((_, (_, (_, (_, (_, (_, (_, (x7, (x8, (x9, _)))))))))), (o0, _), _) => f x7 x8 x9 o0
noncomputable def P_i_chunksText_3_0 (x7 : List T_Piece) (x8 : Int) (x9 : Int) (o0 : List Int) (nx0 : (List T_Piece) → Int → Int → (List Int) → Option Ret) (k0 : (List Int) → Option Ret) : Option Ret := (bif (decide (x9 < x8)) then (bif ((decide ((0 : Int) ≤ x9)) && (decide (x9 < (((List.length x7) : Nat) : Int)))) then (bif (Nat.ble (((List.length o0) + (List.length (List.getD x7 (Int.toNat x9) (pieceR.dflt)))) * 1) 140737488355328) then (nx0 x7 x8 (IntKind.wrap .i64 (x9 + (1 : Int))) (o0 ++ (List.getD x7 (Int.toNat x9) (pieceR.dflt)))) else none) else none) else (k0 o0))
noncomputable def Q_i_chunksText_3_0 : Nat → (List T_Piece) → Int → Int → (List Int) → ((List Int) → Option Ret) → Option Ret
  | 0, _, _, _, _, _ => none
  | m + 1, x7, x8, x9, o0, k0 => P_i_chunksText_3_0 x7 x8 x9 o0 (fun x7 x8 x9 o0 => (Q_i_chunksText_3_0 m x7 x8 x9 o0 k0)) k0
noncomputable def R_i_chunksText_3_0 (x7 : List T_Piece) (x8 : Int) (x9 : Int) (o0 : List Int) (k0 : (List Int) → Option Ret) : Option Ret := Q_i_chunksText_3_0 (List.length x7 + x8.toNat + x9.toNat + List.length o0 + 2) x7 x8 x9 o0 k0
noncomputable def W_i_chunksText_3 : LoopFn := (fun (σ : St) (K : Ex → St → Option Ret) => (match sh_i_chunksText_3_0.un σ with | some d => w_i_chunksText_3_0 d (fun x7 x8 x9 o0 => R_i_chunksText_3_0 x7 x8 x9 o0 (fun o0 => (K (.ext 0) (z_i_chunksText_3_0 o0)))) | none => none))
noncomputable abbrev E_i_chunksText : Env := En [] [] [(3, [3,7,8,9], [2,3], W_i_chunksText_3)] [] false 0 []
noncomputable abbrev U_i_chunksText_3 := rounds (run E_i_chunksText (bodyOf F.i_chunksText 3)) [3,7,8,9] [2,3]
theorem st_i_chunksText_3_0 (m : Nat) (x7 : List T_Piece) (x8 : Int) (x9 : Int) (o0 : List Int) (K : Ex → St → Option Ret) : U_i_chunksText_3 (m + 1) (s_i_chunksText_3_0 x7 x8 x9 o0) K = P_i_chunksText_3_0 x7 x8 x9 o0 (fun x7 x8 x9 o0 => (U_i_chunksText_3 m (s_i_chunksText_3_0 x7 x8 x9 o0) K)) (fun o0 => (K (.ext 0) (z_i_chunksText_3_0 o0))) := by kernel_rfl
theorem q_i_chunksText_3 (K : Ex → St → Option Ret) : ∀ m : Nat, (∀ (x7 : List T_Piece) (x8 : Int) (x9 : Int) (o0 : List Int), U_i_chunksText_3 m (s_i_chunksText_3_0 x7 x8 x9 o0) K = Q_i_chunksText_3_0 m x7 x8 x9 o0 (fun o0 => (K (.ext 0) (z_i_chunksText_3_0 o0))))
  | 0 => (fun _ _ _ _ => rfl)
  | m + 1 => (fun x7 x8 x9 o0 => (by rw [st_i_chunksText_3_0, show (fun x7 x8 x9 o0 => (U_i_chunksText_3 m (s_i_chunksText_3_0 x7 x8 x9 o0) K)) = (fun x7 x8 x9 o0 => (Q_i_chunksText_3_0 m x7 x8 x9 o0 (fun o0 => (K (.ext 0) (z_i_chunksText_3_0 o0))))) from funext fun x7 => funext fun x8 => funext fun x9 => funext fun o0 => (q_i_chunksText_3 K m) x7 x8 x9 o0]; rfl))
theorem loopK_i_chunksText_3 : LoopOk E_i_chunksText (bodyOf F.i_chunksText 3) := by
  refine loopW_ok (n := 3) (F := W_i_chunksText_3) (by kernel_rfl) rfl (li := [3,7,8,9]) (lo := [2,3]) rfl (fun σ K r hr => ?_)
  unfold W_i_chunksText_3 at hr
  split at hr
  · rename_i d hd
    rw [Ss.un_mk hd]
    exact ⟨_, ((congrArg (fun z => U_i_chunksText_3 _ z K) (se_i_chunksText_3_0 _ _ _ _)).trans ((q_i_chunksText_3 K _) _ _ _ _)).trans hr⟩
  · cases hr
noncomputable def T_i_chunksText (l : List T_Chunk) (K : Ret → Option Ret) : Option Ret := (R_i_chunksText_3_0 l (((List.length l) : Nat) : Int) (0 : Int) ([] : List Int) (fun y0 => K ((.l .deep bytesR y0), [])))
theorem e_i_chunksText (l : List T_Chunk) (K : Ret → Option Ret) : evF E_i_chunksText true F.i_chunksText [.l .no chunkR l] K = T_i_chunksText l K := by kernel_rfl
def S_i_chunksText : Sm := S_fnR [.l chunkR] (fun d => fitC (.sl chunkR) d.1 && chunksOkD d.1) (fun d => (.l .deep bytesR d.1.flatten, []))
theorem v_i_chunksText (l : List T_Chunk) (h : (fitC (.sl chunkR) l && chunksOkD l) = true) (K : Ret → Option Ret) : T_i_chunksText l K = K (.l .deep bytesR l.flatten, []) := by
  obtain ⟨h, hk⟩ := (Bool.and_eq_true _ _).mp h
  have hl := fitC_len h
  have hs := (chunksOkD_iff.1 hk).2
  unfold T_i_chunksText
  have q : ∀ (m i : Nat), i ≤ l.length → l.length - i < m → Q_i_chunksText_3_0 m l ((l.length : Nat) : Int) ((i : Nat) : Int) (l.take i).flatten (fun y0 => K ((.l .deep bytesR y0), [])) = K (.l .deep bytesR l.flatten, []) := by
    intro m
    induction m with
    | zero => intro i _ hm; omega
    | succ m ih =>
      intro i hi hm
      show P_i_chunksText_3_0 l ((l.length : Nat) : Int) ((i : Nat) : Int) _ _ _ = _
      unfold P_i_chunksText_3_0
      by_cases hlt : i < l.length
      · have h2 : (l.take i).flatten.length ≤ 400 := by
          rw [sumW_flat]
          exact Nat.le_trans sumW_take_le hs
        have h3 : (l.getD i []).length ≤ 400 := by
          rw [getD_lt [] hlt]
          have := chunkOkD_len ((chunksOkD_iff.1 hk).1 l[i] (List.getElem_mem hlt)); omega
        have hf2 : (l.take (i + 1)).flatten = (l.take i).flatten ++ l.getD i [] := flatten_take hlt
        rw [decide_eq_true (show ((i : Nat) : Int) < ((l.length : Nat) : Int) by omega), decide_eq_true (show (0 : Int) ≤ ((i : Nat) : Int) by omega), Int.toNat_natCast, wrap_nat (by omega), show l.getD i pieceR.dflt = l.getD i [] from rfl, Nat.ble_eq_true_of_le (by omega), ← hf2]
        exact ih (i + 1) (by omega) (by omega)
      · obtain rfl : i = l.length := by omega
        rw [decide_eq_false (show ¬ ((l.length : Nat) : Int) < ((l.length : Nat) : Int) by omega), List.take_length]; rfl
  exact q _ 0 (by omega) (by omega)
theorem okS_i_chunksText : OkFn prog I N.i_chunksText true S_i_chunksText := okN (ok_fn mem0 (l := []) (p := []) (ls := [(3, [3,7,8,9], [2,3], W_i_chunksText_3)]) (lend := []) (focus := false) (fuel := 0) (give := []) (fn := F.i_chunksText) (by kernel_rfl) (by kernel_rfl) (by kernel_rfl) (by kernel_rfl) (cs := [bodyOf F.i_chunksText 3]) (by kernel_rfl) (loopsc loopK_i_chunksText_3 loops0)) (S_fnR_of fun d K h => (e_i_chunksText d.1 K).trans (v_i_chunksText d.1 h K))
end Go.Ev.Seat
end
section
/- i_chunkFor: its contract. -/
namespace Go.Ev.Seat
open Go.RowKit
set_option maxRecDepth 100000
set_option linter.unusedVariables false
set_option linter.unusedSimpArgs false
def z_i_chunkFor_2_0 (x0 : List T_Piece) (x4 : Int) (x5 : Int) : St := { tm := ([(.l .no pieceR x0), .x, .x, .x, (.s (.int .i64 x4)), (.s (.int .i64 x5))] ++ List.replicate 24 .x), ob := [], nx := 0, io := [] }
def z_i_chunkFor_2_1 (x0 : List T_Piece) : St := { tm := ([(.l .no pieceR x0)] ++ List.replicate 29 .x), ob := [], nx := 0, io := [] }
def sh_i_chunkFor_2_0 : Ss := { tm := (.cons (.l .no pieceR) (.cons (.int .i64) (.cons (.x) (.cons (.x) (.cons (.x) (.cons (.x) (.cons (.x) (.cons (.x) (.cons (.l .no pieceR) (.cons (.int .i64) (.cons (.int .i64) (xsh 19)))))))))))), ob := .nil, nx := 0, io := .nil }
def d_i_chunkFor_2_0 (x0 : List T_Piece) (x1 : Int) (x8 : List T_Piece) (x9 : Int) (x10 : Int) : sh_i_chunkFor_2_0.T := ((x0, (x1, ((), ((), ((), ((), ((), ((), (x8, (x9, (x10, xd 19))))))))))), (), ())
def s_i_chunkFor_2_0 (x0 : List T_Piece) (x1 : Int) (x8 : List T_Piece) (x9 : Int) (x10 : Int) : St := { tm := ([(.l .no pieceR x0), (.s (.int .i64 x1)), .x, .x, .x, .x, .x, .x, (.l .no pieceR x8), (.s (.int .i64 x9)), (.s (.int .i64 x10))] ++ List.replicate 19 .x), ob := [], nx := 0, io := [] }
theorem se_i_chunkFor_2_0 (x0 : List T_Piece) (x1 : Int) (x8 : List T_Piece) (x9 : Int) (x10 : Int) : sh_i_chunkFor_2_0.mk' (d_i_chunkFor_2_0 x0 x1 x8 x9 x10) = (s_i_chunkFor_2_0 x0 x1 x8 x9 x10) := by kernel_rfl
def w_i_chunkFor_2_0 (d : sh_i_chunkFor_2_0.T) (f : (List T_Piece) → Int → (List T_Piece) → Int → Int → Option Ret) : Option Ret := match d with | ((x0, (x1, (_, (_, (_, (_, (_, (_, (x8, (x9, (x10, _))))))))))), _, _) => f x0 x1 x8 x9 x10
noncomputable def P_i_chunkFor_2_0 (x0 : List T_Piece) (x1 : Int) (x8 : List T_Piece) (x9 : Int) (x10 : Int) (nx0 : (List T_Piece) → Int → (List T_Piece) → Int → Int → Option Ret) (k0 : (List T_Piece) → Int → Int → Option Ret) (k1 : (List T_Piece) → Option Ret) : Option Ret := (bif (decide (x10 < x9)) then (bif ((decide ((0 : Int) ≤ x10)) && (decide (x10 < (((List.length x8) : Nat) : Int)))) then (bif (decide (x1 < (((List.length (List.getD x8 (Int.toNat x10) (pieceR.dflt))) : Nat) : Int))) then (k0 x0 x10 x1) else (nx0 x0 (IntKind.wrap .i64 (x1 - (((List.length (List.getD x8 (Int.toNat x10) (pieceR.dflt))) : Nat) : Int))) x8 x9 (IntKind.wrap .i64 (x10 + (1 : Int))))) else none) else (k1 x0))
noncomputable def Q_i_chunkFor_2_0 : Nat → (List T_Piece) → Int → (List T_Piece) → Int → Int → ((List T_Piece) → Int → Int → Option Ret) → ((List T_Piece) → Option Ret) → Option Ret
  | 0, _, _, _, _, _, _, _ => none
  | m + 1, x0, x1, x8, x9, x10, k0, k1 => P_i_chunkFor_2_0 x0 x1 x8 x9 x10 (fun x0 x1 x8 x9 x10 => (Q_i_chunkFor_2_0 m x0 x1 x8 x9 x10 k0 k1)) k0 k1
noncomputable def R_i_chunkFor_2_0 (x0 : List T_Piece) (x1 : Int) (x8 : List T_Piece) (x9 : Int) (x10 : Int) (k0 : (List T_Piece) → Int → Int → Option Ret) (k1 : (List T_Piece) → Option Ret) : Option Ret := Q_i_chunkFor_2_0 (List.length x0 + x1.toNat + List.length x8 + x9.toNat + x10.toNat + 2) x0 x1 x8 x9 x10 k0 k1
noncomputable def W_i_chunkFor_2 : LoopFn := (fun (σ : St) (K : Ex → St → Option Ret) => (match sh_i_chunkFor_2_0.un σ with | some d => w_i_chunkFor_2_0 d (fun x0 x1 x8 x9 x10 => R_i_chunkFor_2_0 x0 x1 x8 x9 x10 (fun x0 x4 x5 => (K .ret (z_i_chunkFor_2_0 x0 x4 x5))) (fun x0 => (K (.ext 0) (z_i_chunkFor_2_1 x0)))) | none => none))
noncomputable abbrev E_i_chunkFor : Env := En [] [] [(2, [0,1,8,9,10], [0,4,5], W_i_chunkFor_2)] [] false 0 []
noncomputable abbrev U_i_chunkFor_2 := rounds (run E_i_chunkFor (bodyOf F.i_chunkFor 2)) [0,1,8,9,10] [0,4,5]
theorem st_i_chunkFor_2_0 (m : Nat) (x0 : List T_Piece) (x1 : Int) (x8 : List T_Piece) (x9 : Int) (x10 : Int) (K : Ex → St → Option Ret) : U_i_chunkFor_2 (m + 1) (s_i_chunkFor_2_0 x0 x1 x8 x9 x10) K = P_i_chunkFor_2_0 x0 x1 x8 x9 x10 (fun x0 x1 x8 x9 x10 => (U_i_chunkFor_2 m (s_i_chunkFor_2_0 x0 x1 x8 x9 x10) K)) (fun x0 x4 x5 => (K .ret (z_i_chunkFor_2_0 x0 x4 x5))) (fun x0 => (K (.ext 0) (z_i_chunkFor_2_1 x0))) := by kernel_rfl
theorem q_i_chunkFor_2 (K : Ex → St → Option Ret) : ∀ m : Nat, (∀ (x0 : List T_Piece) (x1 : Int) (x8 : List T_Piece) (x9 : Int) (x10 : Int), U_i_chunkFor_2 m (s_i_chunkFor_2_0 x0 x1 x8 x9 x10) K = Q_i_chunkFor_2_0 m x0 x1 x8 x9 x10 (fun x0 x4 x5 => (K .ret (z_i_chunkFor_2_0 x0 x4 x5))) (fun x0 => (K (.ext 0) (z_i_chunkFor_2_1 x0))))
  | 0 => (fun _ _ _ _ _ => rfl)
  | m + 1 => (fun x0 x1 x8 x9 x10 => (by rw [st_i_chunkFor_2_0, show (fun x0 x1 x8 x9 x10 => (U_i_chunkFor_2 m (s_i_chunkFor_2_0 x0 x1 x8 x9 x10) K)) = (fun x0 x1 x8 x9 x10 => (Q_i_chunkFor_2_0 m x0 x1 x8 x9 x10 (fun x0 x4 x5 => (K .ret (z_i_chunkFor_2_0 x0 x4 x5))) (fun x0 => (K (.ext 0) (z_i_chunkFor_2_1 x0))))) from funext fun x0 => funext fun x1 => funext fun x8 => funext fun x9 => funext fun x10 => (q_i_chunkFor_2 K m) x0 x1 x8 x9 x10]; rfl))
theorem loopK_i_chunkFor_2 : LoopOk E_i_chunkFor (bodyOf F.i_chunkFor 2) := by
  refine loopW_ok (n := 2) (F := W_i_chunkFor_2) (by kernel_rfl) rfl (li := [0,1,8,9,10]) (lo := [0,4,5]) rfl (fun σ K r hr => ?_)
  unfold W_i_chunkFor_2 at hr
  split at hr
  · rename_i d hd
    rw [Ss.un_mk hd]
    exact ⟨_, ((congrArg (fun z => U_i_chunkFor_2 _ z K) (se_i_chunkFor_2_0 _ _ _ _ _)).trans ((q_i_chunkFor_2 K _) _ _ _ _ _)).trans hr⟩
  · cases hr
noncomputable def T_i_chunkFor (l : List T_Chunk) (k : Int) (K : Ret → Option Ret) : Option Ret := (R_i_chunkFor_2_0 l k l (((List.length l) : Nat) : Int) (0 : Int) (fun y0 y1 y2 => K ((.t [(.s (.int .i64 y1)), (.s (.int .i64 y2))]), [])) (fun y3 => K ((.t [(.s (.int .i64 (((List.length y3) : Nat) : Int))), (.s (.int .i64 (0 : Int)))]), [])))
theorem e_i_chunkFor (l : List T_Chunk) (k : Int) (K : Ret → Option Ret) : evF E_i_chunkFor true F.i_chunkFor [.l .no chunkR l, .s (.int .i64 k)] K = T_i_chunkFor l k K := by kernel_rfl
def S_i_chunkFor : Sm := S_fnR [.l chunkR, .i] (fun d => fitC (.sl chunkR) d.1 && decide (0 ≤ d.2.1) && decide (d.2.1 ≤ 1000000000)) (fun d => (.t [sc (chunkForL d.1 0 d.2.1).1, sc (chunkForL d.1 0 d.2.1).2], []))
theorem v_i_chunkFor (l : List T_Chunk) (k : Int) (h : (fitC (.sl chunkR) l && decide (0 ≤ k) && decide (k ≤ 1000000000)) = true) (K : Ret → Option Ret) : T_i_chunkFor l k K = K (.t [sc (chunkForL l 0 k).1, sc (chunkForL l 0 k).2], []) := by
  simp only [Bool.and_eq_true, decide_eq_true_eq] at h
  obtain ⟨⟨h, h0⟩, h1⟩ := h
  have hl := fitC_len h
  unfold T_i_chunkFor
  have q : ∀ (m i : Nat) (k : Int), -1000000000000000 ≤ k → k ≤ 1000000000 → i ≤ l.length → l.length - i < m → Q_i_chunkFor_2_0 m l k l ((l.length : Nat) : Int) ((i : Nat) : Int) (fun y0 y1 y2 => K ((.t [(.s (.int .i64 y1)), (.s (.int .i64 y2))]), [])) (fun y3 => K ((.t [(.s (.int .i64 (((List.length y3) : Nat) : Int))), (.s (.int .i64 (0 : Int)))]), [])) = K (.t [sc (chunkForL (l.drop i) i k).1, sc (chunkForL (l.drop i) i k).2], []) := by
    intro m
    induction m with
    | zero => intro i k _ _ _ hm; omega
    | succ m ih =>
      intro i k hk0 hk1 hi hm
      show P_i_chunkFor_2_0 l k l ((l.length : Nat) : Int) ((i : Nat) : Int) _ _ _ = _
      unfold P_i_chunkFor_2_0
      by_cases hlt : i < l.length
      · have hd : l.drop i = l.getD i [] :: l.drop (i + 1) := by rw [getD_lt [] hlt]; exact (List.getElem_cons_drop hlt).symm
        have hx : fitB (l.getD i []) = true := by rw [getD_lt [] hlt]; exact fitB_fit (fitC_mem (r := chunkR) h (List.getElem_mem hlt))
        have hxl := fitB_len hx
        rw [decide_eq_true (show ((i : Nat) : Int) < ((l.length : Nat) : Int) by omega), decide_eq_true (show (0 : Int) ≤ ((i : Nat) : Int) by omega), Int.toNat_natCast, wrap_nat (by omega), show l.getD i pieceR.dflt = l.getD i [] from rfl, hd]
        unfold chunkForL
        by_cases hc : k < (((l.getD i []).length : Nat) : Int)
        · rw [decide_eq_true hc]; rfl
        · rw [decide_eq_false hc]
          by_cases hlow : 0 ≤ k
          · rw [wrap_in (by omega) (by omega)]
            exact ih (i + 1) _ (by omega) (by omega) (by omega) (by omega)
          · omega
      · obtain rfl : i = l.length := by omega
        rw [decide_eq_false (show ¬ ((l.length : Nat) : Int) < ((l.length : Nat) : Int) by omega), List.drop_length]; rfl
  refine (q _ 0 k (by omega) (by omega) (by omega) (by omega)).trans ?_
  rw [List.drop_zero]
theorem okS_i_chunkFor : OkFn prog I N.i_chunkFor true S_i_chunkFor := okN (ok_fn mem0 (l := []) (p := []) (ls := [(2, [0,1,8,9,10], [0,4,5], W_i_chunkFor_2)]) (lend := []) (focus := false) (fuel := 0) (give := []) (fn := F.i_chunkFor) (by kernel_rfl) (by kernel_rfl) (by kernel_rfl) (by kernel_rfl) (cs := [bodyOf F.i_chunkFor 2]) (by kernel_rfl) (loopsc loopK_i_chunkFor_2 loops0)) (S_fnR_of fun d K h => (e_i_chunkFor d.1 d.2.1 K).trans (v_i_chunkFor d.1 d.2.1 h K))
end Go.Ev.Seat
end
section
/- i_ChunkFor: its contract. -/
namespace Go.Ev.Seat
open Go.RowKit
set_option maxRecDepth 100000
set_option linter.unusedVariables false
set_option linter.unusedSimpArgs false
noncomputable abbrev ls_i_ChunkFor : List (Nat × Bool × Sm) := [(N.i_areChunks, true, S_i_areChunks), (N.i_chunksText, true, S_i_chunksText), (N.i_in, true, S_i_in), (N.i_chunkFor, true, S_i_chunkFor)]
noncomputable abbrev E_i_ChunkFor : Env := En ls_i_ChunkFor [] [] [] false 0 []
noncomputable def T_i_ChunkFor (l : List T_Chunk) (k : Int) (K : Ret → Option Ret) : Option Ret := (bif (fitC (Cc.sl chunkR) l) then (bif (!(chunksOkD l)) then K ((.t [(.s (.int .i64 (-(1 : Int)))), (.s (.int .i64 (-(1 : Int))))]), []) else (bif ((fitC (Cc.sl chunkR) l) && (chunksOkD l)) then (bif (!((decide ((0 : Int) ≤ k)) && (decide (k ≤ (((List.length (List.flatten l)) : Nat) : Int))))) then K ((.t [(.s (.int .i64 (-(1 : Int)))), (.s (.int .i64 (-(1 : Int))))]), []) else (bif (((fitC (Cc.sl chunkR) l) && (decide ((0 : Int) ≤ k))) && (decide (k ≤ (1000000000 : Int)))) then K ((.t [(.s (.int .i64 (chunkForL l 0 k).1)), (.s (.int .i64 (chunkForL l 0 k).2))]), []) else none)) else none)) else none)
theorem e_i_ChunkFor (l : List T_Chunk) (k : Int) (K : Ret → Option Ret) : evF E_i_ChunkFor true F.i_ChunkFor [.l .no chunkR l, .s (.int .i64 k)] K = T_i_ChunkFor l k K := by kernel_rfl
def S_i_ChunkFor : Sm := S_fnR [.l chunkR, .i] (fun d => fitC (.sl chunkR) d.1) (fun d => (.t [sc (chunkForD d.1 d.2.1).1, sc (chunkForD d.1 d.2.1).2], []))
theorem v_i_ChunkFor (l : List T_Chunk) (k : Int) (h : (fitC (.sl chunkR) l) = true) (K : Ret → Option Ret) : T_i_ChunkFor l k K = K (.t [sc (chunkForD l k).1, sc (chunkForD l k).2], []) := by
  unfold T_i_ChunkFor chunkForD
  rw [h]
  cases hk : chunksOkD l with
  | false => rfl
  | true =>
    have hs := (chunksOkD_iff.1 hk).2
    rw [← sumW_flat] at hs
    by_cases h0 : 0 ≤ k
    · by_cases h1 : k ≤ ((l.flatten.length : Nat) : Int)
      · rw [decide_eq_true h0, decide_eq_true h1, decide_eq_true (show k ≤ 1000000000 by omega)]; rfl
      · rw [decide_eq_true h0, decide_eq_false h1]; rfl
    · rw [decide_eq_false h0]; rfl
theorem okS_i_ChunkFor : OkFn prog I N.i_ChunkFor true S_i_ChunkFor := okN (ok_fn (memc okS_i_areChunks (memc okS_i_chunksText (memc okS_i_in (memc okS_i_chunkFor mem0)))) (l := ls_i_ChunkFor) (p := []) (ls := []) (lend := []) (focus := false) (fuel := 0) (give := []) (fn := F.i_ChunkFor) (by kernel_rfl) (by kernel_rfl) (by kernel_rfl) (by kernel_rfl) (cs := []) (by kernel_rfl) loops0) (S_fnR_of fun d K h => (e_i_ChunkFor d.1 d.2.1 K).trans (v_i_ChunkFor d.1 d.2.1 h K))
end Go.Ev.Seat
end
section
/- s_ChunkFor: its contract. -/
namespace Go.Ev.Seat
open Go.RowKit
set_option maxRecDepth 100000
set_option linter.unusedVariables false
set_option linter.unusedSimpArgs false
def z_s_ChunkFor_4_0 (x0 : List T_Piece) (x1 : Int) (x4 : Int) (x5 : Int) : St := { tm := ([(.l .no pieceR x0), (.s (.int .i64 x1)), .x, .x, (.s (.int .i64 x4)), (.s (.int .i64 x5))] ++ List.replicate 36 .x), ob := [], nx := 0, io := [] }
def z_s_ChunkFor_4_1 (x0 : List T_Piece) (x1 : Int) : St := { tm := ([(.l .no pieceR x0), (.s (.int .i64 x1))] ++ List.replicate 40 .x), ob := [], nx := 0, io := [] }
def sh_s_ChunkFor_4_0 : Ss := { tm := (.cons (.l .no pieceR) (.cons (.int .i64) (.cons (.x) (.cons (.x) (.cons (.x) (.cons (.x) (.cons (.int .i64) (xsh 35)))))))), ob := .nil, nx := 0, io := .nil }
def d_s_ChunkFor_4_0 (x0 : List T_Piece) (x1 : Int) (x6 : Int) : sh_s_ChunkFor_4_0.T := ((x0, (x1, ((), ((), ((), ((), (x6, xd 35))))))), (), ())
def s_s_ChunkFor_4_0 (x0 : List T_Piece) (x1 : Int) (x6 : Int) : St := { tm := ([(.l .no pieceR x0), (.s (.int .i64 x1)), .x, .x, .x, .x, (.s (.int .i64 x6))] ++ List.replicate 35 .x), ob := [], nx := 0, io := [] }
theorem se_s_ChunkFor_4_0 (x0 : List T_Piece) (x1 : Int) (x6 : Int) : sh_s_ChunkFor_4_0.mk' (d_s_ChunkFor_4_0 x0 x1 x6) = (s_s_ChunkFor_4_0 x0 x1 x6) := by kernel_rfl
def w_s_ChunkFor_4_0 (d : sh_s_ChunkFor_4_0.T) (f : (List T_Piece) → Int → Int → Option Ret) : Option Ret := match d with | ((x0, (x1, (_, (_, (_, (_, (x6, _))))))), _, _) => f x0 x1 x6
noncomputable def P_s_ChunkFor_4_0 (x0 : List T_Piece) (x1 : Int) (x6 : Int) (nx0 : (List T_Piece) → Int → Int → Option Ret) (k0 : (List T_Piece) → Int → Int → Int → Option Ret) (k1 : (List T_Piece) → Int → Option Ret) : Option Ret := (bif (decide (x6 < (((List.length x0) : Nat) : Int))) then (bif ((decide ((0 : Int) ≤ x6)) && (decide (x6 < (((List.length x0) : Nat) : Int)))) then (bif (decide (x1 < (((List.length (List.getD x0 (Int.toNat x6) (pieceR.dflt))) : Nat) : Int))) then (k0 x0 x1 x6 x1) else (bif ((decide ((0 : Int) ≤ x6)) && (decide (x6 < (((List.length x0) : Nat) : Int)))) then (nx0 x0 (IntKind.wrap .i64 (x1 - (((List.length (List.getD x0 (Int.toNat x6) (pieceR.dflt))) : Nat) : Int))) (IntKind.wrap .i64 (x6 + (1 : Int)))) else none)) else none) else (k1 x0 x1))
noncomputable def Q_s_ChunkFor_4_0 : Nat → (List T_Piece) → Int → Int → ((List T_Piece) → Int → Int → Int → Option Ret) → ((List T_Piece) → Int → Option Ret) → Option Ret
  | 0, _, _, _, _, _ => none
  | m + 1, x0, x1, x6, k0, k1 => P_s_ChunkFor_4_0 x0 x1 x6 (fun x0 x1 x6 => (Q_s_ChunkFor_4_0 m x0 x1 x6 k0 k1)) k0 k1
noncomputable def R_s_ChunkFor_4_0 (x0 : List T_Piece) (x1 : Int) (x6 : Int) (k0 : (List T_Piece) → Int → Int → Int → Option Ret) (k1 : (List T_Piece) → Int → Option Ret) : Option Ret := Q_s_ChunkFor_4_0 (List.length x0 + x1.toNat + x6.toNat + 2) x0 x1 x6 k0 k1
noncomputable def W_s_ChunkFor_4 : LoopFn := (fun (σ : St) (K : Ex → St → Option Ret) => (match sh_s_ChunkFor_4_0.un σ with | some d => w_s_ChunkFor_4_0 d (fun x0 x1 x6 => R_s_ChunkFor_4_0 x0 x1 x6 (fun x0 x1 x4 x5 => (K .ret (z_s_ChunkFor_4_0 x0 x1 x4 x5))) (fun x0 x1 => (K (.ext 0) (z_s_ChunkFor_4_1 x0 x1)))) | none => none))
noncomputable abbrev ls_s_ChunkFor : List (Nat × Bool × Sm) := [(N.s_ChunksOk, true, S_s_ChunksOk)]
noncomputable abbrev E_s_ChunkFor : Env := En ls_s_ChunkFor [] [(4, [0,1,6], [0,1,4,5], W_s_ChunkFor_4)] [] false 0 []
noncomputable abbrev U_s_ChunkFor_4 := rounds (run E_s_ChunkFor (bodyOf F.s_ChunkFor 4)) [0,1,6] [0,1,4,5]
theorem st_s_ChunkFor_4_0 (m : Nat) (x0 : List T_Piece) (x1 : Int) (x6 : Int) (K : Ex → St → Option Ret) : U_s_ChunkFor_4 (m + 1) (s_s_ChunkFor_4_0 x0 x1 x6) K = P_s_ChunkFor_4_0 x0 x1 x6 (fun x0 x1 x6 => (U_s_ChunkFor_4 m (s_s_ChunkFor_4_0 x0 x1 x6) K)) (fun x0 x1 x4 x5 => (K .ret (z_s_ChunkFor_4_0 x0 x1 x4 x5))) (fun x0 x1 => (K (.ext 0) (z_s_ChunkFor_4_1 x0 x1))) := by kernel_rfl
theorem q_s_ChunkFor_4 (K : Ex → St → Option Ret) : ∀ m : Nat, (∀ (x0 : List T_Piece) (x1 : Int) (x6 : Int), U_s_ChunkFor_4 m (s_s_ChunkFor_4_0 x0 x1 x6) K = Q_s_ChunkFor_4_0 m x0 x1 x6 (fun x0 x1 x4 x5 => (K .ret (z_s_ChunkFor_4_0 x0 x1 x4 x5))) (fun x0 x1 => (K (.ext 0) (z_s_ChunkFor_4_1 x0 x1))))
  | 0 => (fun _ _ _ => rfl)
  | m + 1 => (fun x0 x1 x6 => (by rw [st_s_ChunkFor_4_0, show (fun x0 x1 x6 => (U_s_ChunkFor_4 m (s_s_ChunkFor_4_0 x0 x1 x6) K)) = (fun x0 x1 x6 => (Q_s_ChunkFor_4_0 m x0 x1 x6 (fun x0 x1 x4 x5 => (K .ret (z_s_ChunkFor_4_0 x0 x1 x4 x5))) (fun x0 x1 => (K (.ext 0) (z_s_ChunkFor_4_1 x0 x1))))) from funext fun x0 => funext fun x1 => funext fun x6 => (q_s_ChunkFor_4 K m) x0 x1 x6]; rfl))
theorem loopK_s_ChunkFor_4 : LoopOk E_s_ChunkFor (bodyOf F.s_ChunkFor 4) := by
  refine loopW_ok (n := 4) (F := W_s_ChunkFor_4) (by kernel_rfl) rfl (li := [0,1,6]) (lo := [0,1,4,5]) rfl (fun σ K r hr => ?_)
  unfold W_s_ChunkFor_4 at hr
  split at hr
  · rename_i d hd
    rw [Ss.un_mk hd]
    exact ⟨_, ((congrArg (fun z => U_s_ChunkFor_4 _ z K) (se_s_ChunkFor_4_0 _ _ _)).trans ((q_s_ChunkFor_4 K _) _ _ _)).trans hr⟩
  · cases hr
noncomputable def T_s_ChunkFor (l : List T_Chunk) (k : Int) (K : Ret → Option Ret) : Option Ret := (bif (fitC (Cc.sl chunkR) l) then (bif (!(chunksOkD l)) then K ((.t [(.s (.int .i64 (-(1 : Int)))), (.s (.int .i64 (-(1 : Int))))]), []) else (bif (decide (k < (0 : Int))) then K ((.t [(.s (.int .i64 (-(1 : Int)))), (.s (.int .i64 (-(1 : Int))))]), []) else (R_s_ChunkFor_4_0 l k (0 : Int) (fun y0 y1 y2 y3 => K ((.t [(.s (.int .i64 y2)), (.s (.int .i64 y3))]), [])) (fun y4 y5 => (bif (decide (y5 > (0 : Int))) then K ((.t [(.s (.int .i64 (-(1 : Int)))), (.s (.int .i64 (-(1 : Int))))]), []) else K ((.t [(.s (.int .i64 (((List.length y4) : Nat) : Int))), (.s (.int .i64 (0 : Int)))]), [])))))) else none)
theorem e_s_ChunkFor (l : List T_Chunk) (k : Int) (K : Ret → Option Ret) : evF E_s_ChunkFor true F.s_ChunkFor [.l .no chunkR l, .s (.int .i64 k)] K = T_s_ChunkFor l k K := by kernel_rfl
def S_s_ChunkFor : Sm := S_fnR [.l chunkR, .i] (fun d => fitC (.sl chunkR) d.1 && decide (d.2.1 ≤ 9223372036854775807)) (fun d => (.t [sc (chunkForD d.1 d.2.1).1, sc (chunkForD d.1 d.2.1).2], []))
theorem v_s_ChunkFor (l : List T_Chunk) (k : Int) (h : (fitC (.sl chunkR) l && decide (k ≤ 9223372036854775807)) = true) (K : Ret → Option Ret) : T_s_ChunkFor l k K = K (.t [sc (chunkForD l k).1, sc (chunkForD l k).2], []) := by
  simp only [Bool.and_eq_true, decide_eq_true_eq] at h
  obtain ⟨h, h1⟩ := h
  have hl := fitC_len h
  unfold T_s_ChunkFor chunkForD
  rw [h]
  cases hk : chunksOkD l with
  | false => rfl
  | true =>
    by_cases h0 : k < 0
    · rw [decide_eq_true h0, decide_eq_false (show ¬ 0 ≤ k by omega)]; rfl
    rw [decide_eq_false h0, decide_eq_true (show 0 ≤ k by omega)]
    have q : ∀ (m i : Nat) (k : Int), 0 ≤ k → k ≤ 9223372036854775807 → i ≤ l.length → l.length - i < m → Q_s_ChunkFor_4_0 m l k ((i : Nat) : Int) (fun y0 y1 y2 y3 => K ((.t [(.s (.int .i64 y2)), (.s (.int .i64 y3))]), [])) (fun y4 y5 =>
    (bif (decide (y5 > (0 : Int))) then
     K ((.t [(.s (.int .i64 (-(1 : Int)))), (.s (.int .i64 (-(1 : Int))))]), [])
     else K ((.t [(.s (.int .i64 (((List.length y4) : Nat) : Int))), (.s (.int .i64 (0 : Int)))]), []))) = K (.t [sc (bif decide (k ≤ (((l.drop i).flatten.length : Nat) : Int)) then chunkForL (l.drop i) i k else (-1, -1)).1, sc (bif decide (k ≤ (((l.drop i).flatten.length : Nat) : Int)) then chunkForL (l.drop i) i k else (-1, -1)).2], []) := by
      intro m
      induction m with
      | zero => intro i k _ _ _ hm; omega
      | succ m ih =>
        intro i k hk0 hk1 hi hm
        show P_s_ChunkFor_4_0 l k ((i : Nat) : Int) _ _ _ = _
        unfold P_s_ChunkFor_4_0
        by_cases hlt : i < l.length
        · have hd : l.drop i = l.getD i [] :: l.drop (i + 1) := by rw [getD_lt [] hlt]; exact (List.getElem_cons_drop hlt).symm
          have hx : fitB (l.getD i []) = true := by rw [getD_lt [] hlt]; exact fitB_fit (fitC_mem (r := chunkR) h (List.getElem_mem hlt))
          have hxl := fitB_len hx
          rw [decide_eq_true (show ((i : Nat) : Int) < ((l.length : Nat) : Int) by omega), decide_eq_true (show (0 : Int) ≤ ((i : Nat) : Int) by omega), Int.toNat_natCast, wrap_nat (by omega), show l.getD i pieceR.dflt = l.getD i [] from rfl, hd, List.flatten_cons, List.length_append]
          by_cases hc : k < (((l.getD i []).length : Nat) : Int)
          · rw [decide_eq_true hc, decide_eq_true (show k ≤ (((l.getD i []).length + (l.drop (i + 1)).flatten.length : Nat) : Int) by omega)]
            unfold chunkForL
            rw [decide_eq_true hc]; rfl
          · rw [decide_eq_false hc, wrap_in (by omega) (by omega)]
            refine (ih (i + 1) _ (by omega) (by omega) (by omega) (by omega)).trans ?_
            rw [show chunkForL (l.getD i [] :: l.drop (i + 1)) i k = chunkForL (l.drop (i + 1)) (i + 1) (k - (((l.getD i []).length : Nat) : Int)) by
              conv => lhs; unfold chunkForL
              rw [decide_eq_false hc]; rfl, show decide (k - (((l.getD i []).length : Nat) : Int) ≤ (((l.drop (i + 1)).flatten.length : Nat) : Int)) = decide (k ≤ (((l.getD i []).length + (l.drop (i + 1)).flatten.length : Nat) : Int)) from decide_eq_decide.2 (by omega)]
        · obtain rfl : i = l.length := by omega
          rw [decide_eq_false (show ¬ ((l.length : Nat) : Int) < ((l.length : Nat) : Int) by omega), List.drop_length]
          by_cases hp : k > 0
          · show (bif decide (k > 0) then _ else _) = _
            rw [decide_eq_true hp, decide_eq_false (show ¬ k ≤ (((([] : List (List Int)).flatten).length : Nat) : Int) by simp; omega)]; rfl
          · show (bif decide (k > 0) then _ else _) = _
            rw [decide_eq_false hp, decide_eq_true (show k ≤ (((([] : List (List Int)).flatten).length : Nat) : Int) by simp; omega)]; rfl
    refine (q _ 0 k (by omega) (by omega) (by omega) (by omega)).trans ?_
    rw [List.drop_zero]; rfl
theorem okS_s_ChunkFor : OkFn prog I N.s_ChunkFor true S_s_ChunkFor := okN (ok_fn (memc okS_s_ChunksOk mem0) (l := ls_s_ChunkFor) (p := []) (ls := [(4, [0,1,6], [0,1,4,5], W_s_ChunkFor_4)]) (lend := []) (focus := false) (fuel := 0) (give := []) (fn := F.s_ChunkFor) (by kernel_rfl) (by kernel_rfl) (by kernel_rfl) (by kernel_rfl) (cs := [bodyOf F.s_ChunkFor 4]) (by kernel_rfl) (loopsc loopK_s_ChunkFor_4 loops0)) (S_fnR_of fun d K h => (e_s_ChunkFor d.1 d.2.1 K).trans (v_s_ChunkFor d.1 d.2.1 h K))
end Go.Ev.Seat
end
section
/- i_ChunksText: its contract. -/
namespace Go.Ev.Seat
open Go.RowKit
set_option maxRecDepth 100000
set_option linter.unusedVariables false
set_option linter.unusedSimpArgs false
noncomputable abbrev ls_i_ChunksText : List (Nat × Bool × Sm) := [(N.i_areChunks, true, S_i_areChunks), (N.i_chunksText, true, S_i_chunksText)]
noncomputable abbrev E_i_ChunksText : Env := En ls_i_ChunksText [] [] [] false 0 []
noncomputable def T_i_ChunksText (l : List T_Chunk) (K : Ret → Option Ret) : Option Ret := (bif (fitC (Cc.sl chunkR) l) then (bif (!(chunksOkD l)) then K ((.l .deep bytesR ([] : List Int)), []) else (bif ((fitC (Cc.sl chunkR) l) && (chunksOkD l)) then K ((.l .deep bytesR (List.flatten l)), []) else none)) else none)
theorem e_i_ChunksText (l : List T_Chunk) (K : Ret → Option Ret) : evF E_i_ChunksText true F.i_ChunksText [.l .no chunkR l] K = T_i_ChunksText l K := by kernel_rfl
def S_i_ChunksText : Sm := S_fnR [.l chunkR] (fun d => fitC (.sl chunkR) d.1) (fun d => (.l .deep bytesR (chunksTextD d.1), []))
theorem v_i_ChunksText (l : List T_Chunk) (h : (fitC (.sl chunkR) l) = true) (K : Ret → Option Ret) : T_i_ChunksText l K = K (.l .deep bytesR (chunksTextD l), []) := by
  unfold T_i_ChunksText chunksTextD
  rw [h]
  cases chunksOkD l <;> rfl
theorem okS_i_ChunksText : OkFn prog I N.i_ChunksText true S_i_ChunksText := okN (ok_fn (memc okS_i_areChunks (memc okS_i_chunksText mem0)) (l := ls_i_ChunksText) (p := []) (ls := []) (lend := []) (focus := false) (fuel := 0) (give := []) (fn := F.i_ChunksText) (by kernel_rfl) (by kernel_rfl) (by kernel_rfl) (by kernel_rfl) (cs := []) (by kernel_rfl) loops0) (S_fnR_of fun d K h => (e_i_ChunksText d.1 K).trans (v_i_ChunksText d.1 h K))
end Go.Ev.Seat
end
section
/- l_FnChunkFor: its contract. -/
namespace Go.Ev.Seat
open Go.RowKit
set_option maxRecDepth 100000
set_option linter.unusedVariables false
set_option linter.unusedSimpArgs false
def z_l_FnChunkFor_10_0 (x3 : List T_Piece) (x4 : Int) (x5 : Int) (x6 : Int) (x9 : Int) : St := { tm := ([.x, .x, .x, (.l .no pieceR x3), (.s (.int .i64 x4)), (.s (.int .i64 x5)), (.s (.int .i64 x6)), .x, .x, (.s (.int .i64 x9))] ++ List.replicate 99 .x), ob := [], nx := 0, io := [] }
def sh_l_FnChunkFor_10_0 : Ss := { tm := (.cons (.x) (.cons (.x) (.cons (.x) (.cons (.l .no pieceR) (.cons (.int .i64) (.cons (.int .i64) (.cons (.int .i64) (.cons (.x) (.cons (.x) (.cons (.int .i64) (.cons (.int .i64) (xsh 98)))))))))))), ob := .nil, nx := 0, io := .nil }
def d_l_FnChunkFor_10_0 (x3 : List T_Piece) (x4 : Int) (x5 : Int) (x6 : Int) (x9 : Int) (x10 : Int) : sh_l_FnChunkFor_10_0.T := (((), ((), ((), (x3, (x4, (x5, (x6, ((), ((), (x9, (x10, xd 98))))))))))), (), ())
def s_l_FnChunkFor_10_0 (x3 : List T_Piece) (x4 : Int) (x5 : Int) (x6 : Int) (x9 : Int) (x10 : Int) : St := { tm := ([.x, .x, .x, (.l .no pieceR x3), (.s (.int .i64 x4)), (.s (.int .i64 x5)), (.s (.int .i64 x6)), .x, .x, (.s (.int .i64 x9)), (.s (.int .i64 x10))] ++ List.replicate 98 .x), ob := [], nx := 0, io := [] }
theorem se_l_FnChunkFor_10_0 (x3 : List T_Piece) (x4 : Int) (x5 : Int) (x6 : Int) (x9 : Int) (x10 : Int) : sh_l_FnChunkFor_10_0.mk' (d_l_FnChunkFor_10_0 x3 x4 x5 x6 x9 x10) = (s_l_FnChunkFor_10_0 x3 x4 x5 x6 x9 x10) := by kernel_rfl
def w_l_FnChunkFor_10_0 (d : sh_l_FnChunkFor_10_0.T) (f : (List T_Piece) → Int → Int → Int → Int → Int → Option Ret) : Option Ret := match d with | ((_, (_, (_, (x3, (x4, (x5, (x6, (_, (_, (x9, (x10, _))))))))))), _, _) => f x3 x4 x5 x6 x9 x10
noncomputable def P_l_FnChunkFor_10_0 (x3 : List T_Piece) (x4 : Int) (x5 : Int) (x6 : Int) (x9 : Int) (x10 : Int) (nx0 : (List T_Piece) → Int → Int → Int → Int → Int → Option Ret) (k0 : (List T_Piece) → Int → Int → Int → Int → Option Ret) : Option Ret := (bif (decide (x10 < x5)) then (bif ((decide ((0 : Int) ≤ x10)) && (decide (x10 < (((List.length x3) : Nat) : Int)))) then (nx0 x3 x4 x5 x6 (IntKind.wrap .i64 (x9 + (((List.length (List.getD x3 (Int.toNat x10) (pieceR.dflt))) : Nat) : Int))) (IntKind.wrap .i64 (x10 + (1 : Int)))) else none) else (k0 x3 x4 x5 x6 x9))
noncomputable def Q_l_FnChunkFor_10_0 : Nat → (List T_Piece) → Int → Int → Int → Int → Int → ((List T_Piece) → Int → Int → Int → Int → Option Ret) → Option Ret
  | 0, _, _, _, _, _, _, _ => none
  | m + 1, x3, x4, x5, x6, x9, x10, k0 => P_l_FnChunkFor_10_0 x3 x4 x5 x6 x9 x10 (fun x3 x4 x5 x6 x9 x10 => (Q_l_FnChunkFor_10_0 m x3 x4 x5 x6 x9 x10 k0)) k0
noncomputable def R_l_FnChunkFor_10_0 (x3 : List T_Piece) (x4 : Int) (x5 : Int) (x6 : Int) (x9 : Int) (x10 : Int) (k0 : (List T_Piece) → Int → Int → Int → Int → Option Ret) : Option Ret := Q_l_FnChunkFor_10_0 (List.length x3 + x4.toNat + x5.toNat + x6.toNat + x9.toNat + x10.toNat + 2) x3 x4 x5 x6 x9 x10 k0
noncomputable def W_l_FnChunkFor_10 : LoopFn := (fun (σ : St) (K : Ex → St → Option Ret) => (match sh_l_FnChunkFor_10_0.un σ with | some d => w_l_FnChunkFor_10_0 d (fun x3 x4 x5 x6 x9 x10 => R_l_FnChunkFor_10_0 x3 x4 x5 x6 x9 x10 (fun x3 x4 x5 x6 x9 => (K (.ext 0) (z_l_FnChunkFor_10_0 x3 x4 x5 x6 x9)))) | none => none))
noncomputable abbrev pl_l_FnChunkFor : List (Nat × Plan × List Nat) := [(14, takes [0, 1, 2, 3, 4, 5, 6, 7, 8, 9, 10, 11, 12, 13, 14, 15, 16, 17, 18, 19, 20, 21, 22, 23, 24, 25, 26, 27, 28, 29, 30, 31, 32, 33, 34, 35, 36, 37, 38, 39, 40, 41, 42], [])]
noncomputable abbrev ls_l_FnChunkFor : List (Nat × Bool × Sm) := [(N.l_big, true, S_l_big), (N.s_DrawChunkFor, false, (SB_s_DrawChunkFor B_s_DrawChunkFor)), (N.i_ChunkFor, true, S_i_ChunkFor), (N.s_ChunkFor, true, S_s_ChunkFor), (N.i_ChunksText, true, S_i_ChunksText)]
noncomputable abbrev E_l_FnChunkFor : Env := En ls_l_FnChunkFor pl_l_FnChunkFor [(10, [3,4,5,6,9,10], [2,3,4,5,6,9], W_l_FnChunkFor_10)] [] false 0 []
noncomputable abbrev U_l_FnChunkFor_10 := rounds (run E_l_FnChunkFor (bodyOf F.l_FnChunkFor 10)) [3,4,5,6,9,10] [2,3,4,5,6,9]
theorem st_l_FnChunkFor_10_0 (m : Nat) (x3 : List T_Piece) (x4 : Int) (x5 : Int) (x6 : Int) (x9 : Int) (x10 : Int) (K : Ex → St → Option Ret) : U_l_FnChunkFor_10 (m + 1) (s_l_FnChunkFor_10_0 x3 x4 x5 x6 x9 x10) K = P_l_FnChunkFor_10_0 x3 x4 x5 x6 x9 x10 (fun x3 x4 x5 x6 x9 x10 => (U_l_FnChunkFor_10 m (s_l_FnChunkFor_10_0 x3 x4 x5 x6 x9 x10) K)) (fun x3 x4 x5 x6 x9 => (K (.ext 0) (z_l_FnChunkFor_10_0 x3 x4 x5 x6 x9))) := by kernel_rfl
theorem q_l_FnChunkFor_10 (K : Ex → St → Option Ret) : ∀ m : Nat, (∀ (x3 : List T_Piece) (x4 : Int) (x5 : Int) (x6 : Int) (x9 : Int) (x10 : Int), U_l_FnChunkFor_10 m (s_l_FnChunkFor_10_0 x3 x4 x5 x6 x9 x10) K = Q_l_FnChunkFor_10_0 m x3 x4 x5 x6 x9 x10 (fun x3 x4 x5 x6 x9 => (K (.ext 0) (z_l_FnChunkFor_10_0 x3 x4 x5 x6 x9))))
  | 0 => (fun _ _ _ _ _ _ => rfl)
  | m + 1 => (fun x3 x4 x5 x6 x9 x10 => (by rw [st_l_FnChunkFor_10_0, show (fun x3 x4 x5 x6 x9 x10 => (U_l_FnChunkFor_10 m (s_l_FnChunkFor_10_0 x3 x4 x5 x6 x9 x10) K)) = (fun x3 x4 x5 x6 x9 x10 => (Q_l_FnChunkFor_10_0 m x3 x4 x5 x6 x9 x10 (fun x3 x4 x5 x6 x9 => (K (.ext 0) (z_l_FnChunkFor_10_0 x3 x4 x5 x6 x9))))) from funext fun x3 => funext fun x4 => funext fun x5 => funext fun x6 => funext fun x9 => funext fun x10 => (q_l_FnChunkFor_10 K m) x3 x4 x5 x6 x9 x10]; rfl))
theorem loopK_l_FnChunkFor_10 : LoopOk E_l_FnChunkFor (bodyOf F.l_FnChunkFor 10) := by
  refine loopW_ok (n := 10) (F := W_l_FnChunkFor_10) (by kernel_rfl) rfl (li := [3,4,5,6,9,10]) (lo := [2,3,4,5,6,9]) rfl (fun σ K r hr => ?_)
  unfold W_l_FnChunkFor_10 at hr
  split at hr
  · rename_i d hd
    rw [Ss.un_mk hd]
    exact ⟨_, ((congrArg (fun z => U_l_FnChunkFor_10 _ z K) (se_l_FnChunkFor_10_0 _ _ _ _ _ _)).trans ((q_l_FnChunkFor_10 K _) _ _ _ _ _ _)).trans hr⟩
  · cases hr
noncomputable def T_l_FnChunkFor (code : List Int) (K : Ret → Option Ret) : Option Ret := (bif (decide ((((List.length code) : Nat) : Int) > (1048576 : Int))) then K ((.s (.bool true)), []) else (B_s_DrawChunkFor code (fun y0 y1 => (bif (fitC (Cc.sl chunkR) y0) then (bif ((fitC (Cc.sl chunkR) y0) && (decide (y1 ≤ (9223372036854775807 : Int)))) then (bif ((chunkForD y0 y1).1 != (chunkForD y0 y1).1) then (bif ((chunkForD y0 y1).1 == (chunkForD y0 y1).1) then K ((.s (.bool ((chunkForD y0 y1).2 == (chunkForD y0 y1).2))), []) else K ((.s (.bool false)), [])) else (bif ((chunkForD y0 y1).2 != (chunkForD y0 y1).2) then (bif ((chunkForD y0 y1).1 == (chunkForD y0 y1).1) then K ((.s (.bool ((chunkForD y0 y1).2 == (chunkForD y0 y1).2))), []) else K ((.s (.bool false)), [])) else (bif (decide ((chunkForD y0 y1).1 < (0 : Int))) then (bif ((chunkForD y0 y1).1 == (chunkForD y0 y1).1) then K ((.s (.bool ((chunkForD y0 y1).2 == (chunkForD y0 y1).2))), []) else K ((.s (.bool false)), [])) else (R_l_FnChunkFor_10_0 y0 y1 (chunkForD y0 y1).1 (chunkForD y0 y1).2 (chunkForD y0 y1).2 (0 : Int) (fun y2 y3 y4 y5 y6 => (bif (fitC (Cc.sl chunkR) y2) then (bif (y6 == y3) then (bif (y4 == (((List.length y2) : Nat) : Int)) then (bif (y3 == (((List.length (chunksTextD y2)) : Nat) : Int)) then K ((.s (.bool true)), []) else (bif (decide (y4 < (((List.length y2) : Nat) : Int))) then (bif (decide (y3 < (((List.length (chunksTextD y2)) : Nat) : Int))) then (bif ((decide ((0 : Int) ≤ y3)) && (decide (y3 < (((List.length (chunksTextD y2)) : Nat) : Int)))) then (bif ((decide ((0 : Int) ≤ y4)) && (decide (y4 < (((List.length y2) : Nat) : Int)))) then (bif ((decide ((0 : Int) ≤ y5)) && (decide (y5 < (((List.length (List.getD y2 (Int.toNat y4) (pieceR.dflt))) : Nat) : Int)))) then K ((.s (.bool ((List.getD (chunksTextD y2) (Int.toNat y3) (0 : Int)) == (List.getD (List.getD y2 (Int.toNat y4) (pieceR.dflt)) (Int.toNat y5) (0 : Int))))), []) else none) else none) else none) else K ((.s (.bool false)), [])) else K ((.s (.bool false)), []))) else (bif (decide (y4 < (((List.length y2) : Nat) : Int))) then (bif (decide (y3 < (((List.length (chunksTextD y2)) : Nat) : Int))) then (bif ((decide ((0 : Int) ≤ y3)) && (decide (y3 < (((List.length (chunksTextD y2)) : Nat) : Int)))) then (bif ((decide ((0 : Int) ≤ y4)) && (decide (y4 < (((List.length y2) : Nat) : Int)))) then (bif ((decide ((0 : Int) ≤ y5)) && (decide (y5 < (((List.length (List.getD y2 (Int.toNat y4) (pieceR.dflt))) : Nat) : Int)))) then K ((.s (.bool ((List.getD (chunksTextD y2) (Int.toNat y3) (0 : Int)) == (List.getD (List.getD y2 (Int.toNat y4) (pieceR.dflt)) (Int.toNat y5) (0 : Int))))), []) else none) else none) else none) else K ((.s (.bool false)), [])) else K ((.s (.bool false)), []))) else K ((.s (.bool false)), [])) else none)))))) else none) else none))))
theorem e_l_FnChunkFor (code : List Int) (K : Ret → Option Ret) : evF E_l_FnChunkFor true F.l_FnChunkFor [.l .no bytesR code] K = T_l_FnChunkFor code K := by kernel_rfl
def S_l_FnChunkFor : Sm := S_fnR [.l bytesR] (fun d => d.1.all isB) (fun d => (bl true, []))
theorem v_l_FnChunkFor (code : List Int) (h : (code.all isB) = true) (K : Ret → Option Ret) : T_l_FnChunkFor code K = K (bl true, []) := by
  unfold T_l_FnChunkFor
  by_cases hc : ((code.length : Nat) : Int) > 1048576
  · rw [decide_eq_true hc]; rfl
  have hf : fitB code = true := by unfold fitB; rw [Bool.and_eq_true]; exact ⟨Nat.ble_eq_true_of_le (by omega), h⟩
  rw [decide_eq_false hc]
  obtain ⟨t, u, ⟨ht, hu0, hu1⟩, hk⟩ := b_s_DrawChunkFor code hf
  rw [cond_false, hk]
  simp only [ht, cond_true, bne_self_eq_false, cond_false, decide_eq_true hu1, Bool.and_self]
  cases hok : chunksOkD t && (decide (0 ≤ u) && decide (u ≤ ((t.flatten.length : Nat) : Int))) with
  | false =>
    have e : chunkForD t u = (-1, -1) := by unfold chunkForD; rw [hok]; rfl
    rw [e]; rfl
  | true =>
    have e : chunkForD t u = chunkForL t 0 u := by unfold chunkForD; rw [hok]; rfl
    rw [Bool.and_eq_true, Bool.and_eq_true, decide_eq_true_eq, decide_eq_true_eq] at hok
    obtain ⟨hk1, h0, h1⟩ := hok
    have hs := (chunksOkD_iff.1 hk1).2
    have hcnt := chunksOkD_count hk1
    have htx : chunksTextD t = t.flatten := by unfold chunksTextD; rw [hk1]; rfl
    obtain ⟨a, b, g1, g2, g3, g4, g5⟩ := chunkForL_in t 0 u h0 h1
    rw [Nat.zero_add] at g1
    rw [e, g1]
    dsimp only
    rw [decide_eq_false (show ¬ ((a : Nat) : Int) < 0 by omega), cond_false]
    unfold R_l_FnChunkFor_10_0
    have hb : b ≤ 1000 := by
      rw [sumW_flat] at h1
      omega
    have q : ∀ (k0 : (List T_Piece) → Int → Int → Int → Int → Option Ret) (m j : Nat), j ≤ a → a - j < m → Q_l_FnChunkFor_10_0 m t u ((a : Nat) : Int) ((b : Nat) : Int) (((b + sumW List.length (t.take j) : Nat)) : Int) ((j : Nat) : Int) k0 = k0 t u ((a : Nat) : Int) ((b : Nat) : Int) u := by
      intro k0 m
      induction m with
      | zero => intro j _ hm; omega
      | succ m ih =>
        intro j hj hm
        show P_l_FnChunkFor_10_0 t u _ _ _ ((j : Nat) : Int) _ _ = _
        unfold P_l_FnChunkFor_10_0
        by_cases hlt : j < a
        · have hw : sumW List.length (List.take (j + 1) t) = sumW List.length (List.take j t) + List.length (t.getD j []) := sumW_take (g := List.length) (z := []) (by omega)
          have hle : sumW List.length (t.take (j + 1)) ≤ sumW List.length t := sumW_take_le
          rw [decide_eq_true (show ((j : Nat) : Int) < ((a : Nat) : Int) by omega), decide_eq_true (show (0 : Int) ≤ ((j : Nat) : Int) by omega), decide_eq_true (show ((j : Nat) : Int) < ((t.length : Nat) : Int) by omega), Int.toNat_natCast, wrap_nat (by omega), show t.getD j pieceR.dflt = t.getD j [] from rfl, wrap_in (by omega) (by omega), show (((b + sumW List.length (t.take j) : Nat)) : Int) + (((t.getD j []).length : Nat) : Int) = (((b + sumW List.length (t.take (j + 1)) : Nat)) : Int) by omega]
          exact ih (j + 1) (by omega) (by omega)
        · obtain rfl : j = a := by omega
          rw [decide_eq_false (show ¬ ((j : Nat) : Int) < ((j : Nat) : Int) by omega), show (((b + sumW List.length (t.take j) : Nat)) : Int) = u by omega]; rfl
    refine (q _ _ 0 (Nat.zero_le _) (by omega)).trans ?_
    rw [ht, htx, beq_self_eq_true]
    by_cases ha : a = t.length
    · have := g4 ha
      have hu : u = ((t.flatten.length : Nat) : Int) := by
        rw [ha, List.take_length] at g2
        rw [sumW_flat]; omega
      rw [beq_iff_eq.2 (show ((a : Nat) : Int) = ((t.length : Nat) : Int) by omega), beq_iff_eq.2 hu]; rfl
    · obtain ⟨j1, j2, j3⟩ := g5 (by omega)
      rw [beq_eq_false_iff_ne.2 (show ((a : Nat) : Int) ≠ ((t.length : Nat) : Int) by omega), decide_eq_true (show ((a : Nat) : Int) < ((t.length : Nat) : Int) by omega), decide_eq_true j2, decide_eq_true h0, decide_eq_true (show (0 : Int) ≤ ((a : Nat) : Int) by omega), decide_eq_true (show (0 : Int) ≤ ((b : Nat) : Int) by omega), Int.toNat_natCast, show t.getD a pieceR.dflt = t.getD a [] from rfl, decide_eq_true (show ((b : Nat) : Int) < (((t.getD a []).length : Nat) : Int) by omega), Int.toNat_natCast, j3, beq_self_eq_true]
      rfl
theorem okS_l_FnChunkFor : OkFn prog I N.l_FnChunkFor true S_l_FnChunkFor := okN (ok_fn (memc okS_l_big (memc okS_s_DrawChunkFor (memc okS_i_ChunkFor (memc okS_s_ChunkFor (memc okS_i_ChunksText mem0))))) (l := ls_l_FnChunkFor) (p := pl_l_FnChunkFor) (ls := [(10, [3,4,5,6,9,10], [2,3,4,5,6,9], W_l_FnChunkFor_10)]) (lend := []) (focus := false) (fuel := 0) (give := []) (fn := F.l_FnChunkFor) (by kernel_rfl) (by kernel_rfl) (by kernel_rfl) (by kernel_rfl) (cs := [bodyOf F.l_FnChunkFor 10]) (by kernel_rfl) (loopsc loopK_l_FnChunkFor_10 loops0)) (S_fnR_of fun d K h => (e_l_FnChunkFor d.1 K).trans (v_l_FnChunkFor d.1 h K))
end Go.Ev.Seat
end
section
/- The law FnChunkFor: it answers true. Printed by lawrand.py. -/
namespace Go.Ev.Seat
open Go.RowKit
set_option linter.unusedVariables false
theorem ok_ChunkFor (T : MText) : OkFn prog I N.l_FnChunkFor true S_l_FnChunkFor := okS_l_FnChunkFor
theorem law_ChunkFor (T : MText) (code : List Int) (K : Ret → Option Ret) (hwf : (Cc.sl bytesR).wf code) : S_l_FnChunkFor [.l .no bytesR code] K = K (bl true, []) := by
  have hb : code.all isB = true := List.all_eq_true.2 (fun x hx => fitR_of bytesR x (hwf.2 x hx) rfl)
  show (bif code.all isB then K (bl true, []) else none) = _
  rw [hb]; rfl
end Go.Ev.Seat
end
section
/- Kinds of types that come in, checked by reckoning. -/
set_option linter.unusedVariables false
namespace Go.Ev
open Go.RowKit
mutual
def ccN (P : Program) : Nat → Cc → TypeId → Bool
  | 0, _, _ => false
  | n + 1, c, t => match c, P.underlying t with
    | .int k, some (.int k') => decide (k' = k)
    | .bool, some .bool => true
    | .str, some .string => true
    | .sl r, some (.slice e) => Nat.beq (P.cellsOf e) r.n && (match layN P n r.list e with
      | some [] => true
      | _ => false)
    | _, _ => false
/-- The cells of a type, taken off a list: what is left. -/
def layN (P : Program) : Nat → List Cc → TypeId → Option (List Cc)
  | 0, _, _ => none
  | n + 1, cs, t => match cs with
    | [] => none
    | c :: rest => bif ccN P n c t then some rest else match P.underlying t with
      | some (.struct fs) => fsN P n (c :: rest) 0 fs.toList
      | _ => none
def fsN (P : Program) : Nat → List Cc → Nat → List Field → Option (List Cc)
  | 0, _, _, _ => none
  | n + 1, cs, i, fs => match fs with
    | [] => some cs
    | f :: rest => bif Nat.beq f.offset i then (match layN P n cs f.type with
      | some cs' => bif Nat.beq (P.cellsOf f.type + cs'.length) cs.length then fsN P n cs' (i + P.cellsOf f.type) rest else none
      | none => none) else none
end
theorem kinds_ok {P : Program} : ∀ (n : Nat), (∀ c t, ccN P n c t = true → CcOk P c t) ∧ (∀ cs t rest, layN P n cs t = some rest → ∃ pre, cs = pre ++ rest ∧ LayOk P pre t) ∧ ∀ cs i fs rest, fsN P n cs i fs = some rest → ∃ pre, cs = pre ++ rest ∧ LayFs P pre i fs
  | 0 => ⟨fun _ _ h => by simp [ccN] at h, fun _ _ _ h => by simp [layN] at h, fun _ _ _ _ h => by simp [fsN] at h⟩
  | n + 1 => by
    obtain ⟨h1, h2, h3⟩ := kinds_ok (P := P) n
    refine ⟨fun c t h => ?_, fun cs t rest h => ?_, fun cs i fs rest h => ?_⟩
    · simp only [ccN] at h
      split at h
      · rename_i k k' hu
        have := of_decide_eq_true h
        subst this
        exact .int hu
      · rename_i hu; exact .bool hu
      · rename_i hu; exact .str hu
      · rename_i r e hu
        simp only [Bool.and_eq_true] at h
        obtain ⟨g1, g2⟩ := h
        split at g2
        · rename_i hl
          obtain ⟨pre, e1, e2⟩ := h2 _ _ _ hl
          rw [List.append_nil] at e1
          exact .sl hu (Nat.eq_of_beq_eq_true g1) (e1 ▸ e2)
        · cases g2
      · cases h
    · simp only [layN] at h
      split at h
      · cases h
      · rename_i c rest'
        cases hc : ccN P n c t with
        | true =>
          rw [hc] at h
          cases h
          exact ⟨[c], rfl, .one (h1 _ _ hc)⟩
        | false =>
          rw [hc] at h
          simp only [cond_false] at h
          split at h
          · rename_i fs hu
            obtain ⟨pre, e1, e2⟩ := h3 _ _ _ _ h
            exact ⟨pre, e1, .st hu e2⟩
          · cases h
    · simp only [fsN] at h
      split at h
      · cases h
        exact ⟨[], rfl, .nil⟩
      · rename_i f rest'
        cases ho : Nat.beq f.offset i with
        | false => rw [ho] at h; cases h
        | true =>
          rw [ho] at h
          simp only [cond_true] at h
          split at h
          · rename_i cs' hl
            obtain ⟨pre, e1, e2⟩ := h2 _ _ _ hl
            cases hb : Nat.beq (P.cellsOf f.type + cs'.length) cs.length with
            | false => rw [hb] at h; cases h
            | true =>
              rw [hb] at h
              simp only [cond_true] at h
              have hlen := Nat.eq_of_beq_eq_true hb
              have hp : P.cellsOf f.type = pre.length := by rw [e1, List.length_append] at hlen; omega
              obtain ⟨pre2, e3, e4⟩ := h3 _ _ _ _ h
              rw [hp] at e4
              refine ⟨pre ++ pre2, by rw [e1, e3, List.append_assoc], .cons (Nat.eq_of_beq_eq_true ho) hp e2 e4⟩
          · cases h
def ccB (P : Program) (c : Cc) (t : TypeId) : Bool := ccN P 100 c t
theorem ccB_ok {P : Program} (c : Cc) {t : TypeId} (h : ccB P c t = true) : CcOk P c t := (kinds_ok 100).1 c t h
end Go.Ev
end
section
/- An argument of one cell. -/
set_option linter.unusedVariables false
namespace Go.Ev
theorem cells_one {P : Program} {W : World} {r : Reach} {base : Nat} {c : Cc} {t : TypeId} {v : Value} (h : CcOk P c t) (ok : Value.okWide P W r base t v) : v.cells.toList = [v] := by
  cases v with
  | agg cs =>
    exfalso
    unfold Value.okWide at ok
    cases h with
    | int h => rw [h] at ok; simp [Cell.okWide, Cell.ok, h] at ok
    | bool h => rw [h] at ok; simp [Cell.okWide, Cell.ok, h] at ok
    | str h => rw [h] at ok; simp [Cell.okWide, Cell.ok, h] at ok
    | sl h _ _ => rw [h] at ok; simp [Cell.okWide, Cell.ok, h] at ok
  | _ => rfl
end Go.Ev
end
section
/- What a row's list gives of the tables of unicode/utf8. -/
set_option linter.unusedVariables false
namespace Go.Ev
open Go
variable {H : Type} {enc : TypeId × Value → H} {P : Program} {w : World} {base : Nat} {sp : Nat → Bool} {held : Bool}

/-- An array's cells, element by element. -/
theorem trod_arr {fuel : Nat} {t e : TypeId} {n m : Nat} {cs : List Value} {ds : List (DataW H)} {p : List MemPlace}
    (ht : P.underlying t = some (.array n e)) (hce : P.cellsOf e = m) (hct : P.cellsOf t = n * m)
    (h : DataW.trod enc P w base sp held fuel t cs = some (.agg ds, p)) :
    cs.length = n * m ∧ ds.length = n ∧ ∀ (i : Nat) (d : DataW H), ds[i]? = some d → ∃ f q, DataW.trod enc P w base sp held f e ((cs.drop (i * m)).take m) = some (d, q) := by
  cases fuel with
  | zero => simp [DataW.trod] at h
  | succ fuel =>
    simp only [DataW.trod, ht, hce, hct] at h
    split at h
    · rename_i hl
      obtain ⟨xs, hm, hx⟩ := Option.map_eq_some_iff.1 h
      have hxs : xs.map (·.1) = ds := by
        have := congrArg Prod.fst hx
        simpa using this
      have hxl : xs.length = n := by simpa using Lib.mapM_length hm
      refine ⟨by simpa using hl, by rw [← hxs]; simp [hxl], fun i d hd => ?_⟩
      rw [← hxs] at hd
      rw [List.getElem?_map, Option.map_eq_some_iff] at hd
      obtain ⟨b, hb, rfl⟩ := hd
      have hi : i < n := by
        have := (List.getElem?_eq_some_iff.1 hb).1
        omega
      obtain ⟨b', hb', hf⟩ := Lib.mapM_at hm i i (by simp [hi])
      obtain rfl := Option.some.inj (hb.symm.trans hb')
      exact ⟨fuel, b.2, hf⟩
    · cases h
theorem trod_u8 {fuel : Nat} {t : TypeId} {k : IntKind} {cs : List Value} {z : Int} {p : List MemPlace} (ht : P.underlying t = some (.int k))
    (h : DataW.trod enc P w base sp held fuel t cs = some (.lit (.int k z), p)) : cs = [.int k z] := by
  cases fuel with
  | zero => simp [DataW.trod] at h
  | succ fuel =>
    obtain ⟨z', hc, h2, _⟩ := DataW.trod_int ht h
    cases h2
    exact hc
/-- A struct of two small cells. -/
theorem trod_two {fuel : Nat} {t : TypeId} {fs : Array Field} {f g : Field} {k : IntKind} {cs : List Value} {x y : Int} {p : List MemPlace}
    (ht : P.underlying t = some (.struct fs)) (hfs : fs.toList = [f, g]) (hc : P.cellsOf t = 2) (hf0 : f.offset = 0) (hg0 : g.offset = 1) (hf : P.underlying f.type = some (.int k)) (hg : P.underlying g.type = some (.int k))
    (hcf : P.cellsOf f.type = 1) (hcg : P.cellsOf g.type = 1)
    (h : DataW.trod enc P w base sp held fuel t cs = some (.agg [.lit (.int k x), .lit (.int k y)], p)) : cs = [.int k x, .int k y] := by
  cases fuel with
  | zero => simp [DataW.trod] at h
  | succ fuel =>
    simp only [DataW.trod, ht, hfs, hc, hf0, hg0, hcf, hcg] at h
    split at h
    · rename_i hl
      obtain ⟨xs, hm, hx⟩ := Option.map_eq_some_iff.1 h
      have hxs : xs.map (·.1) = [.lit (.int k x), .lit (.int k y)] := by
        have := congrArg Prod.fst hx
        simpa using this
      obtain ⟨b0, hb0, h0⟩ := Lib.mapM_at hm 0 f rfl
      obtain ⟨b1, hb1, h1⟩ := Lib.mapM_at hm 1 g rfl
      have e0 : b0.1 = .lit (.int k x) := by
        have := congrArg (·[0]?) hxs
        simpa [hb0] using this
      have e1 : b1.1 = .lit (.int k y) := by
        have := congrArg (·[1]?) hxs
        simpa [hb1] using this
      obtain ⟨d0, q0⟩ := b0
      obtain ⟨d1, q1⟩ := b1
      simp only at e0 e1
      subst e0 e1
      rw [hf0, hcf] at h0
      rw [hg0, hcg] at h1
      have a0 := trod_u8 hf h0
      have a1 := trod_u8 hg h1
      match cs, hl, a0, a1 with
      | [u, v], _, a0, a1 =>
        simp at a0 a1
        rw [a0, a1]
      | [], hl, _, _ => simp at hl
      | [_], hl, _, _ => simp at hl
      | _ :: _ :: _ :: _, hl, _, _ => simp at hl
    · cases h
theorem laid_at {laid : List (String × DataW Unit)} {W : World} {ps : List MemPlace} (h : DataW.LaidVars P W laid ps) {i : Nat} {name : String} {d : DataW Unit} (hi : laid[i]? = some (name, d)) {g : Nat} {t : TypeId}
    (hg : P.globalNamed name = some g) (hty : (P.globals[g]?).map (·.type) = some t) : ∃ cs fuel p, W.var? P name = some cs ∧ DataW.trod (fun _ => ()) P W 0 (fun _ => true) false fuel t cs.toList = some (d, p) := by
  induction laid generalizing ps i with
  | nil => simp at hi
  | cons x rest ih =>
    obtain ⟨n, d'⟩ := x
    obtain ⟨g', t', cs, fuel, p, q, hg', ht', hvar, hd, hr, _⟩ := h
    cases i with
    | zero =>
      simp only [List.getElem?_cons_zero, Option.some.injEq, Prod.mk.injEq] at hi
      obtain ⟨rfl, rfl⟩ := hi
      obtain rfl := Option.some.inj (hg.symm.trans hg')
      obtain rfl := Option.some.inj (hty.symm.trans ht')
      exact ⟨cs, fuel, p, hvar, hd⟩
    | succ i => exact ih hr (by simpa using hi)
theorem var_lt {W : World} {name : String} {g : Nat} {cs : Array Value} (hg : P.globalNamed name = some g) (h : W.var? P name = some cs) : g < W.heap.size := by
  unfold World.var? at h
  rw [hg] at h
  simp only [Option.bind_some] at h
  split at h
  · rename_i hh
    exact (Array.getElem?_eq_some_iff.1 hh).1
  · cases h
/-- THE TWO TABLES, off the list of a row. -/
theorem globI_utf {W : World} {d0 d1 : DataW Unit} (hm : laidMet P [("unicode/utf8.acceptRanges", d1), ("unicode/utf8.first", d0)] W)
    (hd0 : d0 = .agg (utfFirst.map fun z => .lit (.int .u8 z))) (hd1 : d1 = .agg (utfAccept.map fun z => .agg [.lit (.int .u8 z.1), .lit (.int .u8 z.2)]))
    {t0 t1 e0 e1 : TypeId} (hg0 : P.globalNamed "unicode/utf8.first" = some 0) (hg1 : P.globalNamed "unicode/utf8.acceptRanges" = some 1)
    (hy0 : (P.globals[0]?).map (·.type) = some t0) (hy1 : (P.globals[1]?).map (·.type) = some t1)
    (ht0 : P.underlying t0 = some (.array 256 e0)) (ht1 : P.underlying t1 = some (.array 16 e1)) (he0 : P.underlying e0 = some (.int .u8))
    {fs : Array Field} {f g : Field} (he1 : P.underlying e1 = some (.struct fs)) (hfs : fs.toList = [f, g]) (hf0 : f.offset = 0) (hgo : g.offset = 1) (hf : P.underlying f.type = some (.int .u8)) (hg : P.underlying g.type = some (.int .u8))
    (hcf : P.cellsOf f.type = 1) (hcg : P.cellsOf g.type = 1) (hc0 : P.cellsOf t0 = 256) (hc1 : P.cellsOf t1 = 32) (hce0 : P.cellsOf e0 = 1) (hce1 : P.cellsOf e1 = 2) : GlobI utfGlob W.heap.size W := by
  obtain ⟨ps, hL, _⟩ := hm
  obtain ⟨cs1, fu1, p1, hv1, hr1⟩ := laid_at hL (i := 0) rfl hg1 hy1
  obtain ⟨cs0, fu0, p0, hv0, hr0⟩ := laid_at hL (i := 1) rfl hg0 hy0
  subst hd0 hd1
  obtain ⟨l0, n0, r0⟩ := trod_arr (n := 256) (m := 1) ht0 hce0 hc0 hr0
  obtain ⟨l1, n1, r1⟩ := trod_arr (n := 16) (m := 2) ht1 hce1 hc1 hr1
  intro gg r xs hgg
  unfold utfGlob at hgg
  by_cases h0 : gg = 0
  · subst h0
    simp only [Nat.beq, cond_true, Option.some.injEq, Sigma.mk.injEq] at hgg
    obtain ⟨rfl, hxs⟩ := hgg
    cases hxs
    refine ⟨var_lt hg0 hv0, fun i d hd => ?_⟩
    obtain ⟨f', q, hq⟩ := r0 i _ (by rw [List.getElem?_map, hd]; rfl)
    have hcs := trod_u8 he0 hq
    refine ⟨[.int .u8 d], rfl, fun j v hj => ?_, fun C w => ⟨.int .u8 d, [], rfl, ⟨rfl, rfl⟩, rfl⟩⟩
    match j, hj with
    | 0, hj =>
      cases hj
      rw [World.var?_cell hg0 hv0]
      have := congrArg (·[0]?) hcs
      simpa [Rw.n, List.getElem?_take, List.getElem?_drop] using this
    | j + 1, hj => simp at hj
  · by_cases h1 : gg = 1
    · subst h1
      simp only [Nat.beq, cond_true, cond_false, Option.some.injEq, Sigma.mk.injEq] at hgg
      obtain ⟨rfl, hxs⟩ := hgg
      cases hxs
      refine ⟨var_lt hg1 hv1, fun i d hd => ?_⟩
      obtain ⟨f', q, hq⟩ := r1 i _ (by rw [List.getElem?_map, hd]; rfl)
      have hcs := trod_two he1 hfs hce1 hf0 hgo hf hg hcf hcg hq
      refine ⟨[.int .u8 d.1, .int .u8 d.2], rfl, fun j v hj => ?_, fun C w => ⟨.int .u8 d.1, [.int .u8 d.2], rfl, ⟨rfl, rfl⟩, ⟨.int .u8 d.2, [], rfl, ⟨rfl, rfl⟩, rfl⟩⟩⟩
      match j, hj with
      | 0, hj =>
        cases hj
        rw [World.var?_cell hg1 hv1]
        have := congrArg (·[0]?) hcs
        simpa [Rw.n, List.getElem?_take, List.getElem?_drop] using this
      | 1, hj =>
        cases hj
        rw [World.var?_cell hg1 hv1]
        have := congrArg (·[1]?) hcs
        simpa [Rw.n, List.getElem?_take, List.getElem?_drop] using this
      | j + 2, hj => simp at hj
    · exfalso
      match gg, h0, h1 with
      | 0, h0, _ => exact h0 rfl
      | 1, _, h1 => exact h1 rfl
      | n + 2, _, _ => simp [Nat.beq] at hgg
def u8B (P : Program) (t : TypeId) : Bool := match P.underlying t with
  | some (.int .u8) => P.cellsOf t == 1
  | _ => false
theorem u8B_ok {t : TypeId} (h : u8B P t = true) : P.underlying t = some (.int .u8) ∧ P.cellsOf t = 1 := by
  unfold u8B at h
  split at h
  · rename_i e; exact ⟨e, by simpa using h⟩
  · cases h
def twoB (P : Program) (t : TypeId) : Bool := match P.underlying t with
  | some (.struct fs) => match fs.toList with
    | [f, g] => f.offset == 0 && g.offset == 1 && u8B P f.type && u8B P g.type && P.cellsOf t == 2
    | _ => false
  | _ => false
/-- The two tables' types, looked at. -/
def tabB (P : Program) (t0 t1 e0 e1 : TypeId) : Bool :=
  P.globalNamed "unicode/utf8.first" == some 0 && P.globalNamed "unicode/utf8.acceptRanges" == some 1 && (P.globals[0]?).map (·.type) == some t0 && (P.globals[1]?).map (·.type) == some t1 &&
  P.cellsOf t0 == 256 && P.cellsOf t1 == 32 && u8B P e0 && twoB P e1
theorem globI_utfB {W : World} {d0 d1 : DataW Unit} (hm : laidMet P [("unicode/utf8.acceptRanges", d1), ("unicode/utf8.first", d0)] W)
    (hd0 : d0 = .agg (utfFirst.map fun z => .lit (.int .u8 z))) (hd1 : d1 = .agg (utfAccept.map fun z => .agg [.lit (.int .u8 z.1), .lit (.int .u8 z.2)]))
    (t0 t1 e0 e1 : TypeId) (hB : tabB P t0 t1 e0 e1 = true) (ht0 : P.underlying t0 = some (.array 256 e0)) (ht1 : P.underlying t1 = some (.array 16 e1)) : GlobI utfGlob W.heap.size W := by
  unfold tabB at hB
  simp only [Bool.and_eq_true, beq_iff_eq] at hB
  obtain ⟨⟨⟨⟨⟨⟨⟨a1, a2⟩, a3⟩, a4⟩, a5⟩, a6⟩, a7⟩, a8⟩ := hB
  unfold twoB at a8
  split at a8
  · rename_i fs hfs
    split at a8
    · rename_i f g hfg
      simp only [Bool.and_eq_true, beq_iff_eq] at a8
      obtain ⟨⟨⟨⟨b1, b2⟩, b3⟩, b4⟩, b5⟩ := a8
      obtain ⟨c1, c2⟩ := u8B_ok b3
      obtain ⟨c3, c4⟩ := u8B_ok b4
      obtain ⟨c5, c6⟩ := u8B_ok a7
      exact globI_utf hm hd0 hd1 a1 a2 a3 a4 ht0 ht1 c5 hfs hfg b1 b2 c1 c3 c2 c4 a5 a6 c6 b5
    · cases a8
  · cases a8
def lay (xs : List Value) : Obj → Obj
  | .cells _ t frozen => .cells xs.toArray t frozen
  | o => o
/-- What the tables' initialisers lay. -/
def layUtf (h : Array Obj) : Array Obj := (h.modify 0 (lay (utfFirst.map fun z => .int .u8 z))).modify 1 (lay (utfAccept.flatMap fun z => [.int .u8 z.1, .int .u8 z.2]))
end Go.Ev
end
