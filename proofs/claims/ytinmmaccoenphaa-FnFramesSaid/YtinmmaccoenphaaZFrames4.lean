/- Frames: parts Fsl01Rune FsRuneSize Fsl01Cuts FsTextOk Fsl09Is FsReqOk Fsl09Two FsReqBytes Fsl01Curpieces PUtf2 PFrame FsDrawFramesOf Fiword EvGrow EvBytes EvConc FiFramesOf FsFramesOf FlbytesOf FireadWord FslicesClonebytesbyte FiframesCut FiFramesCut Flpick FlFnFrames EvLFrames EvKind EvOne, packed by squash.py. -/
import Derived.Shelf.Spec.SlicesGrow
import Derived.Laws.AppendOwn
import GoSem.ClaimWide
import Derived.Test.YtinmmaccoenphaaZFrames0
import Derived.Test.YtinmmaccoenphaaZFrames1
import Derived.Test.YtinmmaccoenphaaZFrames2
import Derived.Test.YtinmmaccoenphaaZFrames3
set_option linter.unusedVariables false
set_option linter.unusedSimpArgs false
section
/- s_l01Rune: its contract. -/
namespace Go.Ev.Seat
open Go.RowKit
set_option maxRecDepth 100000
set_option linter.unusedVariables false
set_option linter.unusedSimpArgs false
def z_s_l01Rune_18_0 (x0 : List Int) (x1 : Int) (x7 : Int) (x8 : Int) : St := { tm := ([(.l .no bytesR x0), (.s (.int .i64 x1)), .x, .x, .x, .x, .x, (.s (.int .i64 x7)), (.s (.int .i64 x8))] ++ List.replicate 65 .x), ob := [], nx := 0, io := [] }
def sh_s_l01Rune_18_0 : Ss := { tm := (.cons (.l .no bytesR) (.cons (.int .i64) (.cons (.x) (.cons (.x) (.cons (.x) (.cons (.x) (.cons (.x) (.cons (.int .i64) (.cons (.int .i64) (.cons (.int .i64) (xsh 64))))))))))), ob := .nil, nx := 0, io := .nil }
def d_s_l01Rune_18_0 (x0 : List Int) (x1 : Int) (x7 : Int) (x8 : Int) (x9 : Int) : sh_s_l01Rune_18_0.T := ((x0, (x1, ((), ((), ((), ((), ((), (x7, (x8, (x9, xd 64)))))))))), (), ())
def s_s_l01Rune_18_0 (x0 : List Int) (x1 : Int) (x7 : Int) (x8 : Int) (x9 : Int) : St := { tm := ([(.l .no bytesR x0), (.s (.int .i64 x1)), .x, .x, .x, .x, .x, (.s (.int .i64 x7)), (.s (.int .i64 x8)), (.s (.int .i64 x9))] ++ List.replicate 64 .x), ob := [], nx := 0, io := [] }
theorem se_s_l01Rune_18_0 (x0 : List Int) (x1 : Int) (x7 : Int) (x8 : Int) (x9 : Int) : sh_s_l01Rune_18_0.mk' (d_s_l01Rune_18_0 x0 x1 x7 x8 x9) = (s_s_l01Rune_18_0 x0 x1 x7 x8 x9) := by kernel_rfl
def w_s_l01Rune_18_0 (d : sh_s_l01Rune_18_0.T) (f : (List Int) → Int → Int → Int → Int → Option Ret) : Option Ret := match d with | ((x0, (x1, (_, (_, (_, (_, (_, (x7, (x8, (x9, _)))))))))), _, _) => f x0 x1 x7 x8 x9
noncomputable def P_s_l01Rune_18_0 (x0 : List Int) (x1 : Int) (x7 : Int) (x8 : Int) (x9 : Int) (nx0 : (List Int) → Int → Int → Int → Int → Option Ret) (k0 : (List Int) → Int → Int → Int → Option Ret) : Option Ret := (bif (decide (x9 < x7)) then (bif ((decide ((0 : Int) ≤ (IntKind.wrap .i64 (x1 + x9)))) && (decide ((IntKind.wrap .i64 (x1 + x9)) < (((List.length x0) : Nat) : Int)))) then (nx0 x0 x1 x7 (IntKind.wrap .i64 ((IntKind.wrap .i64 ((IntKind.wrap .i64 ((64 : Int) * x8)) + (IntKind.wrap .i64 (List.getD x0 (Int.toNat (IntKind.wrap .i64 (x1 + x9))) (0 : Int))))) - (128 : Int))) (IntKind.wrap .i64 (x9 + (1 : Int)))) else none) else (k0 x0 x1 x7 x8))
noncomputable def Q_s_l01Rune_18_0 : Nat → (List Int) → Int → Int → Int → Int → ((List Int) → Int → Int → Int → Option Ret) → Option Ret
  | 0, _, _, _, _, _, _ => none
  | m + 1, x0, x1, x7, x8, x9, k0 => P_s_l01Rune_18_0 x0 x1 x7 x8 x9 (fun x0 x1 x7 x8 x9 => (Q_s_l01Rune_18_0 m x0 x1 x7 x8 x9 k0)) k0
noncomputable def R_s_l01Rune_18_0 (x0 : List Int) (x1 : Int) (x7 : Int) (x8 : Int) (x9 : Int) (k0 : (List Int) → Int → Int → Int → Option Ret) : Option Ret := Q_s_l01Rune_18_0 (List.length x0 + x1.toNat + x7.toNat + x8.toNat + x9.toNat + 2) x0 x1 x7 x8 x9 k0
noncomputable def W_s_l01Rune_18 : LoopFn := (fun (σ : St) (K : Ex → St → Option Ret) => (match sh_s_l01Rune_18_0.un σ with | some d => w_s_l01Rune_18_0 d (fun x0 x1 x7 x8 x9 => R_s_l01Rune_18_0 x0 x1 x7 x8 x9 (fun x0 x1 x7 x8 => (K (.ext 1) (z_s_l01Rune_18_0 x0 x1 x7 x8)))) | none => none))
noncomputable abbrev pl_s_l01Rune : List (Nat × Plan × List Nat) := [(21, takeB [0, 3, 4, 5, 6, 7, 8] (.fork (.more 1 (.fork (.more 2 (.fork (.one 9 (takes [10]))) (.one 9 (.fork (.one 2 (takes [10])))))) (.one 9 (.fork (.one 1 (.fork (.one 2 (takes [10])))))))), [])]
noncomputable abbrev ls_s_l01Rune : List (Nat × Bool × Sm) := [(N.s_RuneBytes, true, S_s_RuneBytes)]
noncomputable abbrev E_s_l01Rune : Env := En ls_s_l01Rune pl_s_l01Rune [(18, [0,1,7,8,9], [0,1,4,5,7,8], W_s_l01Rune_18)] [] false 0 []
noncomputable abbrev U_s_l01Rune_18 := rounds (run E_s_l01Rune (bodyOf F.s_l01Rune 18)) [0,1,7,8,9] [0,1,4,5,7,8]
theorem st_s_l01Rune_18_0 (m : Nat) (x0 : List Int) (x1 : Int) (x7 : Int) (x8 : Int) (x9 : Int) (K : Ex → St → Option Ret) : U_s_l01Rune_18 (m + 1) (s_s_l01Rune_18_0 x0 x1 x7 x8 x9) K = P_s_l01Rune_18_0 x0 x1 x7 x8 x9 (fun x0 x1 x7 x8 x9 => (U_s_l01Rune_18 m (s_s_l01Rune_18_0 x0 x1 x7 x8 x9) K)) (fun x0 x1 x7 x8 => (K (.ext 1) (z_s_l01Rune_18_0 x0 x1 x7 x8))) := by kernel_rfl
theorem q_s_l01Rune_18 (K : Ex → St → Option Ret) : ∀ m : Nat, (∀ (x0 : List Int) (x1 : Int) (x7 : Int) (x8 : Int) (x9 : Int), U_s_l01Rune_18 m (s_s_l01Rune_18_0 x0 x1 x7 x8 x9) K = Q_s_l01Rune_18_0 m x0 x1 x7 x8 x9 (fun x0 x1 x7 x8 => (K (.ext 1) (z_s_l01Rune_18_0 x0 x1 x7 x8))))
  | 0 => (fun _ _ _ _ _ => rfl)
  | m + 1 => (fun x0 x1 x7 x8 x9 => (by rw [st_s_l01Rune_18_0, show (fun x0 x1 x7 x8 x9 => (U_s_l01Rune_18 m (s_s_l01Rune_18_0 x0 x1 x7 x8 x9) K)) = (fun x0 x1 x7 x8 x9 => (Q_s_l01Rune_18_0 m x0 x1 x7 x8 x9 (fun x0 x1 x7 x8 => (K (.ext 1) (z_s_l01Rune_18_0 x0 x1 x7 x8))))) from funext fun x0 => funext fun x1 => funext fun x7 => funext fun x8 => funext fun x9 => (q_s_l01Rune_18 K m) x0 x1 x7 x8 x9]; rfl))
theorem loopK_s_l01Rune_18 : LoopOk E_s_l01Rune (bodyOf F.s_l01Rune 18) := by
  refine loopW_ok (n := 18) (F := W_s_l01Rune_18) (by kernel_rfl) rfl (li := [0,1,7,8,9]) (lo := [0,1,4,5,7,8]) rfl (fun σ K r hr => ?_)
  unfold W_s_l01Rune_18 at hr
  split at hr
  · rename_i d hd
    rw [Ss.un_mk hd]
    exact ⟨_, ((congrArg (fun z => U_s_l01Rune_18 _ z K) (se_s_l01Rune_18_0 _ _ _ _ _)).trans ((q_s_l01Rune_18 K _) _ _ _ _ _)).trans hr⟩
  · cases hr
noncomputable def T_s_l01Rune (d : List Int) (k : Int) (K : Ret → Option Ret) : Option Ret := (bif (decide (k < (0 : Int))) then K ((.t [(.s (.int .i64 (-(1 : Int)))), (.s (.int .i64 (0 : Int)))]), []) else (bif (decide (k ≥ (((List.length d) : Nat) : Int))) then K ((.t [(.s (.int .i64 (-(1 : Int)))), (.s (.int .i64 (0 : Int)))]), []) else (bif ((decide ((0 : Int) ≤ k)) && (decide (k < (((List.length d) : Nat) : Int)))) then (bif (decide ((IntKind.wrap .i64 (List.getD d (Int.toNat k) (0 : Int))) ≥ (240 : Int))) then (bif (decide ((4 : Int) > (IntKind.wrap .i64 ((((List.length d) : Nat) : Int) - k)))) then K ((.t [(.s (.int .i64 (-(1 : Int)))), (.s (.int .i64 (0 : Int)))]), []) else (R_s_l01Rune_18_0 d k (4 : Int) (IntKind.wrap .i64 ((IntKind.wrap .i64 (List.getD d (Int.toNat k) (0 : Int))) - (240 : Int))) (1 : Int) (fun y0 y1 y2 y3 => (bif (((decide ((0 : Int) ≤ y1)) && (decide (y1 ≤ (IntKind.wrap .i64 (y1 + y2))))) && (decide ((IntKind.wrap .i64 (y1 + y2)) ≤ (((List.length y0) : Nat) : Int)))) then (meet ((meet ((bif (!((ByteArray.toList (bstr (encD y3))) == (ByteArray.toList (bstr (List.drop (Int.toNat y1) (List.take (Int.toNat (IntKind.wrap .i64 (y1 + y2))) y0)))))) then K ((.t [(.s (.int .i64 (-(1 : Int)))), (.s (.int .i64 (0 : Int)))]), []) else K ((.t [(.s (.int .i64 y3)), (.s (.int .i64 y2))]), []))) ((bif (!((ByteArray.toList (bstr (encD y3))) == (ByteArray.toList (bstr (List.drop (Int.toNat y1) (List.take (Int.toNat (IntKind.wrap .i64 (y1 + y2))) y0)))))) then K ((.t [(.s (.int .i64 (-(1 : Int)))), (.s (.int .i64 (0 : Int)))]), []) else K ((.t [(.s (.int .i64 y3)), (.s (.int .i64 y2))]), []))))) ((bif (!((ByteArray.toList (bstr (encD y3))) == (ByteArray.toList (bstr (List.drop (Int.toNat y1) (List.take (Int.toNat (IntKind.wrap .i64 (y1 + y2))) y0)))))) then K ((.t [(.s (.int .i64 (-(1 : Int)))), (.s (.int .i64 (0 : Int)))]), []) else K ((.t [(.s (.int .i64 y3)), (.s (.int .i64 y2))]), [])))) else none)))) else (bif (decide ((IntKind.wrap .i64 (List.getD d (Int.toNat k) (0 : Int))) ≥ (224 : Int))) then (bif (decide ((3 : Int) > (IntKind.wrap .i64 ((((List.length d) : Nat) : Int) - k)))) then K ((.t [(.s (.int .i64 (-(1 : Int)))), (.s (.int .i64 (0 : Int)))]), []) else (R_s_l01Rune_18_0 d k (3 : Int) (IntKind.wrap .i64 ((IntKind.wrap .i64 (List.getD d (Int.toNat k) (0 : Int))) - (224 : Int))) (1 : Int) (fun y4 y5 y6 y7 => (bif (((decide ((0 : Int) ≤ y5)) && (decide (y5 ≤ (IntKind.wrap .i64 (y5 + y6))))) && (decide ((IntKind.wrap .i64 (y5 + y6)) ≤ (((List.length y4) : Nat) : Int)))) then (meet ((meet ((bif (!((ByteArray.toList (bstr (encD y7))) == (ByteArray.toList (bstr (List.drop (Int.toNat y5) (List.take (Int.toNat (IntKind.wrap .i64 (y5 + y6))) y4)))))) then K ((.t [(.s (.int .i64 (-(1 : Int)))), (.s (.int .i64 (0 : Int)))]), []) else K ((.t [(.s (.int .i64 y7)), (.s (.int .i64 y6))]), []))) ((bif (!((ByteArray.toList (bstr (encD y7))) == (ByteArray.toList (bstr (List.drop (Int.toNat y5) (List.take (Int.toNat (IntKind.wrap .i64 (y5 + y6))) y4)))))) then K ((.t [(.s (.int .i64 (-(1 : Int)))), (.s (.int .i64 (0 : Int)))]), []) else K ((.t [(.s (.int .i64 y7)), (.s (.int .i64 y6))]), []))))) ((bif (!((ByteArray.toList (bstr (encD y7))) == (ByteArray.toList (bstr (List.drop (Int.toNat y5) (List.take (Int.toNat (IntKind.wrap .i64 (y5 + y6))) y4)))))) then K ((.t [(.s (.int .i64 (-(1 : Int)))), (.s (.int .i64 (0 : Int)))]), []) else K ((.t [(.s (.int .i64 y7)), (.s (.int .i64 y6))]), [])))) else none)))) else (bif (decide ((IntKind.wrap .i64 (List.getD d (Int.toNat k) (0 : Int))) ≥ (192 : Int))) then (bif (decide ((2 : Int) > (IntKind.wrap .i64 ((((List.length d) : Nat) : Int) - k)))) then K ((.t [(.s (.int .i64 (-(1 : Int)))), (.s (.int .i64 (0 : Int)))]), []) else (R_s_l01Rune_18_0 d k (2 : Int) (IntKind.wrap .i64 ((IntKind.wrap .i64 (List.getD d (Int.toNat k) (0 : Int))) - (192 : Int))) (1 : Int) (fun y8 y9 y10 y11 => (bif (((decide ((0 : Int) ≤ y9)) && (decide (y9 ≤ (IntKind.wrap .i64 (y9 + y10))))) && (decide ((IntKind.wrap .i64 (y9 + y10)) ≤ (((List.length y8) : Nat) : Int)))) then (meet ((meet ((bif (!((ByteArray.toList (bstr (encD y11))) == (ByteArray.toList (bstr (List.drop (Int.toNat y9) (List.take (Int.toNat (IntKind.wrap .i64 (y9 + y10))) y8)))))) then K ((.t [(.s (.int .i64 (-(1 : Int)))), (.s (.int .i64 (0 : Int)))]), []) else K ((.t [(.s (.int .i64 y11)), (.s (.int .i64 y10))]), []))) ((bif (!((ByteArray.toList (bstr (encD y11))) == (ByteArray.toList (bstr (List.drop (Int.toNat y9) (List.take (Int.toNat (IntKind.wrap .i64 (y9 + y10))) y8)))))) then K ((.t [(.s (.int .i64 (-(1 : Int)))), (.s (.int .i64 (0 : Int)))]), []) else K ((.t [(.s (.int .i64 y11)), (.s (.int .i64 y10))]), []))))) ((bif (!((ByteArray.toList (bstr (encD y11))) == (ByteArray.toList (bstr (List.drop (Int.toNat y9) (List.take (Int.toNat (IntKind.wrap .i64 (y9 + y10))) y8)))))) then K ((.t [(.s (.int .i64 (-(1 : Int)))), (.s (.int .i64 (0 : Int)))]), []) else K ((.t [(.s (.int .i64 y11)), (.s (.int .i64 y10))]), [])))) else none)))) else (bif (decide ((1 : Int) > (IntKind.wrap .i64 ((((List.length d) : Nat) : Int) - k)))) then K ((.t [(.s (.int .i64 (-(1 : Int)))), (.s (.int .i64 (0 : Int)))]), []) else (R_s_l01Rune_18_0 d k (1 : Int) (IntKind.wrap .i64 (List.getD d (Int.toNat k) (0 : Int))) (1 : Int) (fun y12 y13 y14 y15 => (bif (((decide ((0 : Int) ≤ y13)) && (decide (y13 ≤ (IntKind.wrap .i64 (y13 + y14))))) && (decide ((IntKind.wrap .i64 (y13 + y14)) ≤ (((List.length y12) : Nat) : Int)))) then (meet ((meet ((bif (!((ByteArray.toList (bstr (encD y15))) == (ByteArray.toList (bstr (List.drop (Int.toNat y13) (List.take (Int.toNat (IntKind.wrap .i64 (y13 + y14))) y12)))))) then K ((.t [(.s (.int .i64 (-(1 : Int)))), (.s (.int .i64 (0 : Int)))]), []) else K ((.t [(.s (.int .i64 y15)), (.s (.int .i64 y14))]), []))) ((bif (!((ByteArray.toList (bstr (encD y15))) == (ByteArray.toList (bstr (List.drop (Int.toNat y13) (List.take (Int.toNat (IntKind.wrap .i64 (y13 + y14))) y12)))))) then K ((.t [(.s (.int .i64 (-(1 : Int)))), (.s (.int .i64 (0 : Int)))]), []) else K ((.t [(.s (.int .i64 y15)), (.s (.int .i64 y14))]), []))))) ((bif (!((ByteArray.toList (bstr (encD y15))) == (ByteArray.toList (bstr (List.drop (Int.toNat y13) (List.take (Int.toNat (IntKind.wrap .i64 (y13 + y14))) y12)))))) then K ((.t [(.s (.int .i64 (-(1 : Int)))), (.s (.int .i64 (0 : Int)))]), []) else K ((.t [(.s (.int .i64 y15)), (.s (.int .i64 y14))]), [])))) else none))))))) else none)))
theorem e_s_l01Rune (d : List Int) (k : Int) (K : Ret → Option Ret) : evF E_s_l01Rune true F.s_l01Rune [.l .no bytesR d, .s (.int .i64 k)] K = T_s_l01Rune d k K := by kernel_rfl
theorem rune_step {m : Nat} {d : List Int} {k n r i : Int} {k0 : List Int → Int → Int → Int → Option Ret} (hd : fitB d = true) (h0 : 0 ≤ k) (hi : 0 < i) (hn : i < n) (hl : k + i < ((d.length : Nat) : Int)) (hr : -1000000000 ≤ r ∧ r ≤ 1000000000) :
    Q_s_l01Rune_18_0 (m + 1) d k n r i k0 = Q_s_l01Rune_18_0 m d k n (64 * r + d.getD (k + i).toNat 0 - 128) (i + 1) k0 := by
  have hb := fitB_get hd (k + i).toNat
  have hlen := fitB_len hd
  show P_s_l01Rune_18_0 d k n r i _ k0 = _
  unfold P_s_l01Rune_18_0
  rw [decide_eq_true hn, wrap_in (n := k + i) (by omega) (by omega), decide_eq_true (show 0 ≤ k + i by omega), decide_eq_true hl, wrap_in (n := d.getD (k + i).toNat 0) (by omega) (by omega), wrap_in (n := 64 * r) (by omega) (by omega), wrap_in (n := 64 * r + d.getD (k + i).toNat 0) (by omega) (by omega), wrap_in (n := 64 * r + d.getD (k + i).toNat 0 - 128) (by omega) (by omega), wrap_in (n := i + 1) (by omega) (by omega)]
  rfl
theorem rune_end {m : Nat} {d : List Int} {k n r i : Int} {k0 : List Int → Int → Int → Int → Option Ret} (hn : ¬ i < n) : Q_s_l01Rune_18_0 (m + 1) d k n r i k0 = k0 d k n r := by
  show P_s_l01Rune_18_0 d k n r i _ k0 = _
  unfold P_s_l01Rune_18_0
  rw [decide_eq_false hn]; rfl
theorem rune_fin {K : Ret → Option Ret} {c : Prop} [Decidable c] {r n v s : Int} (h : (if c then (r, n) else (-1, 0)) = (v, s)) :
    (bif !(decide c) then K ((.t [(.s (.int .i64 (-(1 : Int)))), (.s (.int .i64 (0 : Int)))]), []) else K ((.t [(.s (.int .i64 r)), (.s (.int .i64 n))]), [])) = K (.t [sc v, sc s], []) := by
  by_cases hc : c
  · rw [if_pos hc] at h
    obtain ⟨rfl, rfl⟩ := Prod.mk.inj h
    rw [decide_eq_true hc]; rfl
  · rw [if_neg hc] at h
    obtain ⟨h1, h2⟩ := Prod.mk.inj h
    rw [decide_eq_false hc, ← h1, ← h2]; rfl
theorem rune_part (d : List Int) (k n : Nat) : List.drop k (List.take (k + n) d) = (d.drop k).take n := by
  rw [List.drop_take]; congr 1; omega
theorem rune_k {K : Ret → Option Ret} {d xs : List Int} {k r n v s : Int} (hd : fitB d = true) (h0 : 0 ≤ k) (hn0 : 0 ≤ n) (hn : n ≤ 4) (hl : k + n ≤ ((d.length : Nat) : Int)) (hx : (d.drop k.toNat).take n.toNat = xs) (h : (if encD r = xs then (r, n) else (-1, 0)) = (v, s)) :
    (bif (((decide ((0 : Int) ≤ k)) && (decide (k ≤ (IntKind.wrap .i64 (k + n))))) && (decide ((IntKind.wrap .i64 (k + n)) ≤ (((List.length d) : Nat) : Int)))) then
       (meet
        (meet
         (bif (!((ByteArray.toList (bstr (encD r))) == (ByteArray.toList (bstr (List.drop (Int.toNat k) (List.take (Int.toNat (IntKind.wrap .i64 (k + n))) d)))))) then
          K ((.t [(.s (.int .i64 (-(1 : Int)))), (.s (.int .i64 (0 : Int)))]), [])
          else K ((.t [(.s (.int .i64 r)), (.s (.int .i64 n))]), []))
         (bif (!((ByteArray.toList (bstr (encD r))) == (ByteArray.toList (bstr (List.drop (Int.toNat k) (List.take (Int.toNat (IntKind.wrap .i64 (k + n))) d)))))) then
          K ((.t [(.s (.int .i64 (-(1 : Int)))), (.s (.int .i64 (0 : Int)))]), [])
          else K ((.t [(.s (.int .i64 r)), (.s (.int .i64 n))]), [])))
        (bif (!((ByteArray.toList (bstr (encD r))) == (ByteArray.toList (bstr (List.drop (Int.toNat k) (List.take (Int.toNat (IntKind.wrap .i64 (k + n))) d)))))) then
         K ((.t [(.s (.int .i64 (-(1 : Int)))), (.s (.int .i64 (0 : Int)))]), [])
         else K ((.t [(.s (.int .i64 r)), (.s (.int .i64 n))]), [])))
       else none) = K (.t [sc v, sc s], []) := by
  have hlen := fitB_len hd
  rw [wrap_in (n := k + n) (by omega) (by omega), decide_eq_true h0, decide_eq_true (show k ≤ k + n by omega), decide_eq_true hl]
  rw [meet_self, meet_self]
  have e : List.drop (Int.toNat k) (List.take (Int.toNat (k + n)) d) = xs := by
    rw [← hx, show (k + n).toNat = k.toNat + n.toNat by omega]; exact rune_part d _ _
  rw [e, bstr_eq (encD_byte r) (fun y hy => by
    rw [← hx] at hy
    exact fitB_mem hd (List.mem_of_mem_drop (List.mem_of_mem_take hy)))]
  exact rune_fin h
theorem list1 {xs : List Int} (h : 1 ≤ xs.length) : ∃ a t, xs = a :: t := by
  cases xs with
  | nil => simp at h
  | cons a t => exact ⟨a, t, rfl⟩
def S_s_l01Rune : Sm := S_fnR [.l bytesR, .i] (fun d => fitB d.1) (fun d => (.t [sc (valAt d.1 d.2.1), sc (szAt d.1 d.2.1)], []))
theorem v_s_l01Rune (d : List Int) (k : Int) (h : (fitB d) = true) (K : Ret → Option Ret) : T_s_l01Rune d k K = K (.t [sc (valAt d k), sc (szAt d k)], []) := by
  unfold T_s_l01Rune valAt szAt inD
  have hlen := fitB_len h
  by_cases h1 : k < 0
  · rw [decide_eq_true h1, decide_eq_false (show ¬ 0 ≤ k by omega)]; rfl
  by_cases h2 : k ≥ ((d.length : Nat) : Int)
  · rw [decide_eq_false h1, decide_eq_true h2, decide_eq_true (show 0 ≤ k by omega), decide_eq_false (show ¬ k < ((d.length : Nat) : Int) by omega)]; rfl
  have hbk := fitB_get h k.toNat
  rw [decide_eq_false h1, decide_eq_false h2, decide_eq_true (show 0 ≤ k by omega), decide_eq_true (show k < ((d.length : Nat) : Int) by omega), wrap_in (n := d.getD k.toNat 0) (by omega) (by omega), wrap_in (n := ((d.length : Nat) : Int) - k) (by omega) (by omega)]
  simp only [Bool.and_true, cond_true, cond_false]
  have hg : ∀ i : Nat, (d.drop k.toNat).getD i 0 = d.getD (k + (i : Nat)).toNat 0 := fun i => by
    rw [getD_drop]; congr 1; omega
  have hg0 := hg 0
  rw [show (k + ((0 : Nat) : Int)).toNat = k.toNat by omega] at hg0
  have hdl : (d.drop k.toNat).length = d.length - k.toNat := by simp
  have hbytes := fun i => fitB_get (fitB_drop h k.toNat) i
  by_cases c4 : d.getD k.toNat 0 ≥ 240
  · rw [decide_eq_true c4]
    by_cases s4 : (4 : Int) > ((d.length : Nat) : Int) - k
    · rw [decide_eq_true s4]
      have e := runeSz0 (short4 (xs := d.drop k.toNat) (by rw [hg0]; exact c4) (by omega))
      obtain ⟨e1, e2⟩ := Prod.mk.inj e
      rw [e1, e2]; rfl
    · rw [decide_eq_false s4]
      unfold R_s_l01Rune_18_0
      rw [wrap_in (n := d.getD k.toNat 0 - 240) (by omega) (by omega)]
      obtain ⟨m, hm⟩ : ∃ m, List.length d + k.toNat + (4 : Int).toNat + (d.getD k.toNat 0 - 240).toNat + (1 : Int).toNat + 2 = m + 4 := ⟨List.length d + k.toNat + (4 : Int).toNat + (d.getD k.toNat 0 - 240).toNat + (1 : Int).toNat + 2 - 4, by omega⟩
      have b1 := fitB_get h (k + 1).toNat
      have b2 := fitB_get h (k + (1 + 1)).toNat
      rw [hm, rune_step h (by omega) (by omega) (by omega) (by omega) (by omega), rune_step h (by omega) (by omega) (by omega) (by omega) (by omega), rune_step h (by omega) (by omega) (by omega) (by omega) (by omega), rune_end (by omega)]
      refine rune_k h (by omega) (by omega) (by omega) (by omega) (xs := [(d.drop k.toNat).getD 0 0, (d.drop k.toNat).getD 1 0, (d.drop k.toNat).getD 2 0, (d.drop k.toNat).getD 3 0]) ?_ ?_
      · obtain ⟨a, t, e⟩ := list1 (xs := d.drop k.toNat) (by omega)
        obtain ⟨b, t2, e2⟩ := list1 (xs := t) (by rw [e] at hdl; simp at hdl; omega)
        obtain ⟨c, t3, e3⟩ := list1 (xs := t2) (by rw [e, e2] at hdl; simp at hdl; omega)
        obtain ⟨f, t4, e4⟩ := list1 (xs := t3) (by rw [e, e2, e3] at hdl; simp at hdl; omega)
        rw [e, e2, e3, e4]; rfl
      · obtain ⟨a, t, e⟩ := list1 (xs := d.drop k.toNat) (by omega)
        obtain ⟨b, t2, e2⟩ := list1 (xs := t) (by rw [e] at hdl; simp at hdl; omega)
        obtain ⟨c, t3, e3⟩ := list1 (xs := t2) (by rw [e, e2] at hdl; simp at hdl; omega)
        obtain ⟨f, t4, e4⟩ := list1 (xs := t3) (by rw [e, e2, e3] at hdl; simp at hdl; omega)
        have g1 := hg 1
        have g2 := hg 2
        have g3 := hg 3
        have q0 := hbytes 0
        have q1 := hbytes 1
        have q2 := hbytes 2
        have q3 := hbytes 3
        rw [e, e2, e3, e4] at hg0 g1 g2 g3 q0 q1 q2 q3 ⊢
        rw [show (k + 1).toNat = (k + ((1 : Nat) : Int)).toNat from rfl, show (k + (1 + 1)).toNat = (k + ((2 : Nat) : Int)).toNat by congr 1, show (k + (1 + 1 + 1)).toNat = (k + ((3 : Nat) : Int)).toNat by congr 1, ← g1, ← g2, ← g3, ← hg0]
        exact dec4 (by rw [← hg0] at c4; exact c4) q0.2 q1 q2 q3
  rw [decide_eq_false c4]
  by_cases c3 : d.getD k.toNat 0 ≥ 224
  · rw [decide_eq_true c3]
    by_cases s3 : (3 : Int) > ((d.length : Nat) : Int) - k
    · rw [decide_eq_true s3]
      have e := runeSz0 (short3 (xs := d.drop k.toNat) (by rw [hg0]; exact c3) (by rw [hg0]; omega) (by omega))
      obtain ⟨e1, e2⟩ := Prod.mk.inj e
      rw [e1, e2]; rfl
    · rw [decide_eq_false s3]
      unfold R_s_l01Rune_18_0
      rw [wrap_in (n := d.getD k.toNat 0 - 224) (by omega) (by omega)]
      obtain ⟨m, hm⟩ : ∃ m, List.length d + k.toNat + (3 : Int).toNat + (d.getD k.toNat 0 - 224).toNat + (1 : Int).toNat + 2 = m + 3 := ⟨List.length d + k.toNat + (3 : Int).toNat + (d.getD k.toNat 0 - 224).toNat + (1 : Int).toNat + 2 - 3, by omega⟩
      have b1 := fitB_get h (k + 1).toNat
      rw [hm]
      simp only [cond_false, cond_true]
      rw [rune_step h (by omega) (by omega) (by omega) (by omega) (by omega), rune_step h (by omega) (by omega) (by omega) (by omega) (by omega), rune_end (by omega)]
      refine rune_k h (by omega) (by omega) (by omega) (by omega) (xs := [(d.drop k.toNat).getD 0 0, (d.drop k.toNat).getD 1 0, (d.drop k.toNat).getD 2 0]) ?_ ?_
      · obtain ⟨a, t, e⟩ := list1 (xs := d.drop k.toNat) (by omega)
        obtain ⟨b, t2, e2⟩ := list1 (xs := t) (by rw [e] at hdl; simp at hdl; omega)
        obtain ⟨c, t3, e3⟩ := list1 (xs := t2) (by rw [e, e2] at hdl; simp at hdl; omega)
        rw [e, e2, e3]; rfl
      · obtain ⟨a, t, e⟩ := list1 (xs := d.drop k.toNat) (by omega)
        obtain ⟨b, t2, e2⟩ := list1 (xs := t) (by rw [e] at hdl; simp at hdl; omega)
        obtain ⟨c, t3, e3⟩ := list1 (xs := t2) (by rw [e, e2] at hdl; simp at hdl; omega)
        have g1 := hg 1
        have g2 := hg 2
        have q0 := hbytes 0
        have q1 := hbytes 1
        have q2 := hbytes 2
        rw [e, e2, e3] at hg0 g1 g2 q0 q1 q2 ⊢
        rw [show (k + 1).toNat = (k + ((1 : Nat) : Int)).toNat from rfl, show (k + (1 + 1)).toNat = (k + ((2 : Nat) : Int)).toNat by congr 1, ← g1, ← g2, ← hg0]
        exact dec3 (by rw [← hg0] at c3; exact c3) (by rw [← hg0] at c4; exact Int.not_le.1 c4) q1 q2
  rw [decide_eq_false c3]
  by_cases c2 : d.getD k.toNat 0 ≥ 192
  · rw [decide_eq_true c2]
    by_cases s2 : (2 : Int) > ((d.length : Nat) : Int) - k
    · rw [decide_eq_true s2]
      have e := runeSz0 (short2 (xs := d.drop k.toNat) (by rw [hg0]; exact c2) (by rw [hg0]; omega) (by omega))
      obtain ⟨e1, e2⟩ := Prod.mk.inj e
      rw [e1, e2]; rfl
    · rw [decide_eq_false s2]
      unfold R_s_l01Rune_18_0
      rw [wrap_in (n := d.getD k.toNat 0 - 192) (by omega) (by omega)]
      obtain ⟨m, hm⟩ : ∃ m, List.length d + k.toNat + (2 : Int).toNat + (d.getD k.toNat 0 - 192).toNat + (1 : Int).toNat + 2 = m + 2 := ⟨List.length d + k.toNat + (2 : Int).toNat + (d.getD k.toNat 0 - 192).toNat + (1 : Int).toNat + 2 - 2, by omega⟩
      rw [hm]
      simp only [cond_false, cond_true]
      rw [rune_step h (by omega) (by omega) (by omega) (by omega) (by omega), rune_end (by omega)]
      refine rune_k h (by omega) (by omega) (by omega) (by omega) (xs := [(d.drop k.toNat).getD 0 0, (d.drop k.toNat).getD 1 0]) ?_ ?_
      · obtain ⟨a, t, e⟩ := list1 (xs := d.drop k.toNat) (by omega)
        obtain ⟨b, t2, e2⟩ := list1 (xs := t) (by rw [e] at hdl; simp at hdl; omega)
        rw [e, e2]; rfl
      · obtain ⟨a, t, e⟩ := list1 (xs := d.drop k.toNat) (by omega)
        obtain ⟨b, t2, e2⟩ := list1 (xs := t) (by rw [e] at hdl; simp at hdl; omega)
        have g1 := hg 1
        have q0 := hbytes 0
        have q1 := hbytes 1
        rw [e, e2] at hg0 g1 q0 q1 ⊢
        rw [show (k + 1).toNat = (k + ((1 : Nat) : Int)).toNat from rfl, ← g1, ← hg0]
        exact dec2 (by rw [← hg0] at c2; exact c2) (by rw [← hg0] at c3; exact Int.not_le.1 c3) q1
  rw [decide_eq_false c2, decide_eq_false (show ¬ (1 : Int) > ((d.length : Nat) : Int) - k by omega)]
  unfold R_s_l01Rune_18_0
  obtain ⟨m, hm⟩ : ∃ m, List.length d + k.toNat + (1 : Int).toNat + (d.getD k.toNat 0).toNat + (1 : Int).toNat + 2 = m + 1 := ⟨List.length d + k.toNat + (1 : Int).toNat + (d.getD k.toNat 0).toNat + (1 : Int).toNat + 2 - 1, by omega⟩
  rw [hm]
  simp only [cond_false, cond_true]
  rw [rune_end (by omega)]
  refine rune_k h (by omega) (by omega) (by omega) (by omega) (xs := [(d.drop k.toNat).getD 0 0]) ?_ ?_
  · obtain ⟨a, t, e⟩ := list1 (xs := d.drop k.toNat) (by omega)
    rw [e]; rfl
  · obtain ⟨a, t, e⟩ := list1 (xs := d.drop k.toNat) (by omega)
    have q0 := hbytes 0
    rw [e] at hg0 q0 ⊢
    rw [← hg0]
    exact dec1 q0.1 (by rw [← hg0] at c2; exact Int.not_le.1 c2)
theorem okS_s_l01Rune : OkFn prog I N.s_l01Rune true S_s_l01Rune := okN (ok_fn (memc okS_s_RuneBytes mem0) (l := ls_s_l01Rune) (p := pl_s_l01Rune) (ls := [(18, [0,1,7,8,9], [0,1,4,5,7,8], W_s_l01Rune_18)]) (lend := []) (focus := false) (fuel := 0) (give := []) (fn := F.s_l01Rune) (by kernel_rfl) (by kernel_rfl) (by kernel_rfl) (by kernel_rfl) (cs := [bodyOf F.s_l01Rune 18]) (by kernel_rfl) (loopsc loopK_s_l01Rune_18 loops0)) (S_fnR_of fun d K h => (e_s_l01Rune d.1 d.2.1 K).trans (v_s_l01Rune d.1 d.2.1 h K))
end Go.Ev.Seat
end
section
/- s_RuneSize: its contract. -/
namespace Go.Ev.Seat
open Go.RowKit
set_option maxRecDepth 100000
set_option linter.unusedVariables false
set_option linter.unusedSimpArgs false
noncomputable abbrev ls_s_RuneSize : List (Nat × Bool × Sm) := [(N.s_l01Rune, true, S_s_l01Rune)]
noncomputable abbrev E_s_RuneSize : Env := En ls_s_RuneSize [] [] [] false 0 []
noncomputable def T_s_RuneSize (d : List Int) (k : Int) (K : Ret → Option Ret) : Option Ret := (bif (fitB d) then K ((.s (.int .i64 (szAt d k))), []) else none)
theorem e_s_RuneSize (d : List Int) (k : Int) (K : Ret → Option Ret) : evF E_s_RuneSize true F.s_RuneSize [.l .no bytesR d, .s (.int .i64 k)] K = T_s_RuneSize d k K := by kernel_rfl
def S_s_RuneSize : Sm := S_fnR [.l bytesR, .i] (fun d => fitB d.1) (fun d => (sc (szAt d.1 d.2.1), []))
theorem v_s_RuneSize (d : List Int) (k : Int) (h : (fitB d) = true) (K : Ret → Option Ret) : T_s_RuneSize d k K = K (sc (szAt d k), []) := by
  unfold T_s_RuneSize; rw [h]; rfl
theorem okS_s_RuneSize : OkFn prog I N.s_RuneSize true S_s_RuneSize := okN (ok_fn (memc okS_s_l01Rune mem0) (l := ls_s_RuneSize) (p := []) (ls := []) (lend := []) (focus := false) (fuel := 0) (give := []) (fn := F.s_RuneSize) (by kernel_rfl) (by kernel_rfl) (by kernel_rfl) (by kernel_rfl) (cs := []) (by kernel_rfl) loops0) (S_fnR_of fun d K h => (e_s_RuneSize d.1 d.2.1 K).trans (v_s_RuneSize d.1 d.2.1 h K))
end Go.Ev.Seat
end
section
/- s_l01Cuts: its contract. -/
namespace Go.Ev.Seat
open Go.RowKit
set_option maxRecDepth 100000
set_option linter.unusedVariables false
set_option linter.unusedSimpArgs false
def z_s_l01Cuts_5_0 (x4 : Int) (o0 : List Int) : St := { tm := ([.x, .x, .nl, (.w 0), (.s (.int .i64 x4))] ++ List.replicate 25 .x), ob := [(0, (.arr true true intR o0))], nx := 1, io := [] }
def z_s_l01Cuts_5_1 (x4 : Int) (o0 : List Int) : St := { tm := ([.x, .x, .x, (.w 0), (.s (.int .i64 x4))] ++ List.replicate 25 .x), ob := [(0, (.arr true true intR o0))], nx := 1, io := [] }
def sh_s_l01Cuts_5_0 : Ss := { tm := (.cons (.l .no bytesR) (.cons (.x) (.cons (.x) (.cons (.w 0) (.cons (.int .i64) (xsh 25)))))), ob := (.arr true true intR .nil), nx := 1, io := .nil }
def d_s_l01Cuts_5_0 (x0 : List Int) (x4 : Int) (o0 : List Int) : sh_s_l01Cuts_5_0.T := ((x0, ((), ((), ((), (x4, xd 25))))), (o0, ()), ())
def s_s_l01Cuts_5_0 (x0 : List Int) (x4 : Int) (o0 : List Int) : St := { tm := ([(.l .no bytesR x0), .x, .x, (.w 0), (.s (.int .i64 x4))] ++ List.replicate 25 .x), ob := [(0, (.arr true true intR o0))], nx := 1, io := [] }
theorem se_s_l01Cuts_5_0 (x0 : List Int) (x4 : Int) (o0 : List Int) : sh_s_l01Cuts_5_0.mk' (d_s_l01Cuts_5_0 x0 x4 o0) = (s_s_l01Cuts_5_0 x0 x4 o0) := by kernel_rfl
def w_s_l01Cuts_5_0 (d : sh_s_l01Cuts_5_0.T) (f : (List Int) → Int → (List Int) → Option Ret) : Option Ret := match d with | ((x0, (_, (_, (_, (x4, _))))), (o0, _), _) => f x0 x4 o0
noncomputable def P_s_l01Cuts_5_0 (x0 : List Int) (x4 : Int) (o0 : List Int) (nx0 : (List Int) → Int → (List Int) → Option Ret) (k0 : Int → (List Int) → Option Ret) (k1 : Int → (List Int) → Option Ret) : Option Ret := (bif (decide (x4 < (((List.length x0) : Nat) : Int))) then (bif (fitB x0) then (bif ((szAt x0 x4) == (0 : Int)) then (k0 x4 o0) else (bif (Nat.ble (((List.length o0) + (List.length (x4 :: ([] : List Int)))) * 8) 140737488355328) then (nx0 x0 (IntKind.wrap .i64 (x4 + (szAt x0 x4))) (o0 ++ (x4 :: ([] : List Int)))) else none)) else none) else (k1 x4 o0))
noncomputable def Q_s_l01Cuts_5_0 : Nat → (List Int) → Int → (List Int) → (Int → (List Int) → Option Ret) → (Int → (List Int) → Option Ret) → Option Ret
  | 0, _, _, _, _, _ => none
  | m + 1, x0, x4, o0, k0, k1 => P_s_l01Cuts_5_0 x0 x4 o0 (fun x0 x4 o0 => (Q_s_l01Cuts_5_0 m x0 x4 o0 k0 k1)) k0 k1
noncomputable def R_s_l01Cuts_5_0 (x0 : List Int) (x4 : Int) (o0 : List Int) (k0 : Int → (List Int) → Option Ret) (k1 : Int → (List Int) → Option Ret) : Option Ret := Q_s_l01Cuts_5_0 (List.length x0 + x4.toNat + List.length o0 + 2) x0 x4 o0 k0 k1
noncomputable def W_s_l01Cuts_5 : LoopFn := (fun (σ : St) (K : Ex → St → Option Ret) => (match sh_s_l01Cuts_5_0.un σ with | some d => w_s_l01Cuts_5_0 d (fun x0 x4 o0 => R_s_l01Cuts_5_0 x0 x4 o0 (fun x4 o0 => (K .ret (z_s_l01Cuts_5_0 x4 o0))) (fun x4 o0 => (K (.ext 0) (z_s_l01Cuts_5_1 x4 o0)))) | none => none))
noncomputable abbrev ls_s_l01Cuts : List (Nat × Bool × Sm) := [(N.s_RuneSize, true, S_s_RuneSize)]
noncomputable abbrev E_s_l01Cuts : Env := En ls_s_l01Cuts [] [(5, [0,3,4], [2,3,4], W_s_l01Cuts_5)] [] false 0 []
noncomputable abbrev U_s_l01Cuts_5 := rounds (run E_s_l01Cuts (bodyOf F.s_l01Cuts 5)) [0,3,4] [2,3,4]
theorem st_s_l01Cuts_5_0 (m : Nat) (x0 : List Int) (x4 : Int) (o0 : List Int) (K : Ex → St → Option Ret) : U_s_l01Cuts_5 (m + 1) (s_s_l01Cuts_5_0 x0 x4 o0) K = P_s_l01Cuts_5_0 x0 x4 o0 (fun x0 x4 o0 => (U_s_l01Cuts_5 m (s_s_l01Cuts_5_0 x0 x4 o0) K)) (fun x4 o0 => (K .ret (z_s_l01Cuts_5_0 x4 o0))) (fun x4 o0 => (K (.ext 0) (z_s_l01Cuts_5_1 x4 o0))) := by kernel_rfl
theorem q_s_l01Cuts_5 (K : Ex → St → Option Ret) : ∀ m : Nat, (∀ (x0 : List Int) (x4 : Int) (o0 : List Int), U_s_l01Cuts_5 m (s_s_l01Cuts_5_0 x0 x4 o0) K = Q_s_l01Cuts_5_0 m x0 x4 o0 (fun x4 o0 => (K .ret (z_s_l01Cuts_5_0 x4 o0))) (fun x4 o0 => (K (.ext 0) (z_s_l01Cuts_5_1 x4 o0))))
  | 0 => (fun _ _ _ => rfl)
  | m + 1 => (fun x0 x4 o0 => (by rw [st_s_l01Cuts_5_0, show (fun x0 x4 o0 => (U_s_l01Cuts_5 m (s_s_l01Cuts_5_0 x0 x4 o0) K)) = (fun x0 x4 o0 => (Q_s_l01Cuts_5_0 m x0 x4 o0 (fun x4 o0 => (K .ret (z_s_l01Cuts_5_0 x4 o0))) (fun x4 o0 => (K (.ext 0) (z_s_l01Cuts_5_1 x4 o0))))) from funext fun x0 => funext fun x4 => funext fun o0 => (q_s_l01Cuts_5 K m) x0 x4 o0]; rfl))
theorem loopK_s_l01Cuts_5 : LoopOk E_s_l01Cuts (bodyOf F.s_l01Cuts 5) := by
  refine loopW_ok (n := 5) (F := W_s_l01Cuts_5) (by kernel_rfl) rfl (li := [0,3,4]) (lo := [2,3,4]) rfl (fun σ K r hr => ?_)
  unfold W_s_l01Cuts_5 at hr
  split at hr
  · rename_i d hd
    rw [Ss.un_mk hd]
    exact ⟨_, ((congrArg (fun z => U_s_l01Cuts_5 _ z K) (se_s_l01Cuts_5_0 _ _ _)).trans ((q_s_l01Cuts_5 K _) _ _ _)).trans hr⟩
  · cases hr
noncomputable def T_s_l01Cuts (d : List Int) (K : Ret → Option Ret) : Option Ret := (bif (decide ((((List.length d) : Nat) : Int) > (400 : Int))) then K ((.l .deep intR ([] : List Int)), []) else (R_s_l01Cuts_5_0 d (0 : Int) ([] : List Int) (fun y0 y1 => K ((.l .deep intR ([] : List Int)), [])) (fun y2 y3 => (bif (Nat.ble (((List.length y3) + (List.length (y2 :: ([] : List Int)))) * 8) 140737488355328) then K ((.l .deep intR (y3 ++ (y2 :: ([] : List Int)))), []) else none))))
theorem e_s_l01Cuts (d : List Int) (K : Ret → Option Ret) : evF E_s_l01Cuts true F.s_l01Cuts [.l .no bytesR d] K = T_s_l01Cuts d K := by kernel_rfl
theorem cuts_loop {d : List Int} (hd : fitB d = true) (F : Option Ret) (k1 : Int → List Int → Option Ret) : ∀ (m n : Nat) (o : List Int), n ≤ d.length → d.length - n < m → o.length ≤ n →
    Q_s_l01Cuts_5_0 m d (n : Int) o (fun _ _ => F) k1 = bif valid (d.drop n) then k1 ((d.length : Nat) : Int) (o ++ starts (d.drop n) (n : Int)) else F
  | 0, n, o, _, h, _ => absurd h (by omega)
  | m + 1, n, o, hn, hm, ho => by
    have hlen := fitB_len hd
    show P_s_l01Cuts_5_0 d (n : Int) o _ _ k1 = _
    unfold P_s_l01Cuts_5_0
    by_cases hl : n < d.length
    · rw [decide_eq_true (show (n : Int) < ((d.length : Nat) : Int) by omega), hd, szAt_in (by omega) (by omega), Int.toNat_natCast]
      simp only [cond_true]
      have hle := runeSz_le (d.drop n)
      rw [List.length_drop] at hle
      by_cases h0 : runeSz (d.drop n) = 0
      · rw [h0, valid_stop h0 (by simp; omega)]; rfl
      · rw [beq_eq_false_iff_ne.2 (show ¬ ((runeSz (d.drop n) : Nat) : Int) = 0 by omega), Nat.ble_eq_true_of_le (show (o.length + [(n : Int)].length) * 8 ≤ 140737488355328 by simp; omega), wrap_in (n := (n : Int) + (runeSz (d.drop n) : Nat)) (by omega) (by omega)]
        have e : (n : Int) + ((runeSz (d.drop n) : Nat) : Int) = ((n + runeSz (d.drop n) : Nat) : Int) := by omega
        simp only [cond_false, cond_true]
        rw [e]
        refine (cuts_loop hd F k1 m (n + runeSz (d.drop n)) (o ++ [(n : Int)]) (by omega) (by omega) (by simp; omega)).trans ?_
        rw [valid_step h0, starts_step h0, List.drop_drop, List.append_assoc, List.singleton_append, e]
    · have : n = d.length := by omega
      subst this
      rw [decide_eq_false (show ¬ ((d.length : Nat) : Int) < ((d.length : Nat) : Int) by omega), List.drop_length, valid_nil, starts_stop (by rfl), List.append_nil]; rfl
def S_s_l01Cuts : Sm := S_fnR [.l bytesR] (fun d => fitB d.1) (fun d => (.l .deep intR (cutsD d.1), []))
theorem v_s_l01Cuts (d : List Int) (h : (fitB d) = true) (K : Ret → Option Ret) : T_s_l01Cuts d K = K (.l .deep intR (cutsD d), []) := by
  unfold T_s_l01Cuts cutsD
  by_cases h4 : ((d.length : Nat) : Int) > 400
  · rw [decide_eq_true h4, show textOk d = false from Bool.eq_false_iff.2 (fun he => by have := (textOk_iff.1 he).1; omega)]; rfl
  · rw [decide_eq_false h4]
    unfold R_s_l01Cuts_5_0
    have := cuts_loop h (K (.l .deep intR [], [])) (fun y2 y3 => (bif (Nat.ble (((List.length y3) + (List.length (y2 :: []))) * 8) 140737488355328) then K ((.l .deep intR (y3 ++ (y2 :: []))), []) else none)) (List.length d + (0 : Int).toNat + List.length ([] : List Int) + 2) 0 [] (by omega) (by omega) (by simp)
    refine Eq.trans this ?_
    rw [List.drop_zero]
    cases hv : valid d with
    | false => rw [show textOk d = false from Bool.eq_false_iff.2 (fun he => by have := (textOk_iff.1 he).2; rw [hv] at this; cases this)]; rfl
    | true =>
      rw [textOk_iff.2 ⟨by omega, hv⟩]
      have hs := starts_len _ d 0 (Nat.le_refl _)
      simp only [cond_true, List.nil_append]
      rw [Nat.ble_eq_true_of_le (by simp; omega), bounds_starts _ d 0 (Nat.le_refl _) hv, Int.zero_add]
      rfl
theorem okS_s_l01Cuts : OkFn prog I N.s_l01Cuts true S_s_l01Cuts := okN (ok_fn (memc okS_s_RuneSize mem0) (l := ls_s_l01Cuts) (p := []) (ls := [(5, [0,3,4], [2,3,4], W_s_l01Cuts_5)]) (lend := []) (focus := false) (fuel := 0) (give := []) (fn := F.s_l01Cuts) (by kernel_rfl) (by kernel_rfl) (by kernel_rfl) (by kernel_rfl) (cs := [bodyOf F.s_l01Cuts 5]) (by kernel_rfl) (loopsc loopK_s_l01Cuts_5 loops0)) (S_fnR_of fun d K h => (e_s_l01Cuts d.1 K).trans (v_s_l01Cuts d.1 h K))
end Go.Ev.Seat
end
section
/- s_TextOk: its contract. -/
namespace Go.Ev.Seat
open Go.RowKit
set_option maxRecDepth 100000
set_option linter.unusedVariables false
set_option linter.unusedSimpArgs false
noncomputable abbrev ls_s_TextOk : List (Nat × Bool × Sm) := [(N.s_l01Cuts, true, S_s_l01Cuts)]
noncomputable abbrev E_s_TextOk : Env := En ls_s_TextOk [] [] [] false 0 []
noncomputable def T_s_TextOk (d : List Int) (K : Ret → Option Ret) : Option Ret := (bif (fitB d) then K ((.s (.bool (decide ((((List.length (cutsD d)) : Nat) : Int) > (0 : Int))))), []) else none)
theorem e_s_TextOk (d : List Int) (K : Ret → Option Ret) : evF E_s_TextOk true F.s_TextOk [.l .no bytesR d] K = T_s_TextOk d K := by kernel_rfl
def S_s_TextOk : Sm := S_fnR [.l bytesR] (fun d => fitB d.1) (fun d => (bl (textOk d.1), []))
theorem v_s_TextOk (d : List Int) (h : (fitB d) = true) (K : Ret → Option Ret) : T_s_TextOk d K = K (bl (textOk d), []) := by
  unfold T_s_TextOk
  rw [h]
  have e : decide ((((List.length (cutsD d)) : Nat) : Int) > (0 : Int)) = textOk d := by
    unfold cutsD
    cases textOk d with
    | false => rfl
    | true => exact decide_eq_true (show (((bounds d 0).length : Nat) : Int) > 0 by have := bounds_ne d 0; omega)
  rw [e]; rfl
theorem okS_s_TextOk : OkFn prog I N.s_TextOk true S_s_TextOk := okN (ok_fn (memc okS_s_l01Cuts mem0) (l := ls_s_TextOk) (p := []) (ls := []) (lend := []) (focus := false) (fuel := 0) (give := []) (fn := F.s_TextOk) (by kernel_rfl) (by kernel_rfl) (by kernel_rfl) (by kernel_rfl) (cs := []) (by kernel_rfl) loops0) (S_fnR_of fun d K h => (e_s_TextOk d.1 K).trans (v_s_TextOk d.1 h K))
end Go.Ev.Seat
end
section
/- s_l09Is: its contract. -/
namespace Go.Ev.Seat
open Go.RowKit
set_option maxRecDepth 100000
set_option linter.unusedVariables false
set_option linter.unusedSimpArgs false
def z_s_l09Is_2_0 (x4 : Bool) : St := { tm := ([.x, .x, .x, .x, (.s (.bool x4))] ++ List.replicate 13 .x), ob := [], nx := 0, io := [] }
def z_s_l09Is_2_1 : St := { tm := ([] ++ List.replicate 18 .x), ob := [], nx := 0, io := [] }
def sh_s_l09Is_2_0 : Ss := { tm := (.cons (.int .i64) (.cons (.l .no intR) (.cons (.x) (.cons (.x) (.cons (.x) (.cons (.int .i64) (xsh 12))))))), ob := .nil, nx := 0, io := .nil }
def d_s_l09Is_2_0 (x0 : Int) (x1 : List Int) (x5 : Int) : sh_s_l09Is_2_0.T := ((x0, (x1, ((), ((), ((), (x5, xd 12)))))), (), ())
def s_s_l09Is_2_0 (x0 : Int) (x1 : List Int) (x5 : Int) : St := { tm := ([(.s (.int .i64 x0)), (.l .no intR x1), .x, .x, .x, (.s (.int .i64 x5))] ++ List.replicate 12 .x), ob := [], nx := 0, io := [] }
theorem se_s_l09Is_2_0 (x0 : Int) (x1 : List Int) (x5 : Int) : sh_s_l09Is_2_0.mk' (d_s_l09Is_2_0 x0 x1 x5) = (s_s_l09Is_2_0 x0 x1 x5) := by kernel_rfl
def w_s_l09Is_2_0 (d : sh_s_l09Is_2_0.T) (f : Int → (List Int) → Int → Option Ret) : Option Ret := match d with | ((x0, (x1, (_, (_, (_, (x5, _)))))), _, _) => f x0 x1 x5
noncomputable def P_s_l09Is_2_0 (x0 : Int) (x1 : List Int) (x5 : Int) (nx0 : Int → (List Int) → Int → Option Ret) (k0 : Bool → Option Ret) (k1 : Option Ret) : Option Ret := (bif (decide (x5 < (((List.length x1) : Nat) : Int))) then (bif ((decide ((0 : Int) ≤ x5)) && (decide (x5 < (((List.length x1) : Nat) : Int)))) then (bif ((List.getD x1 (Int.toNat x5) (0 : Int)) == x0) then (k0 true) else (nx0 x0 x1 (IntKind.wrap .i64 (x5 + (1 : Int))))) else none) else k1)
noncomputable def Q_s_l09Is_2_0 : Nat → Int → (List Int) → Int → (Bool → Option Ret) → (Option Ret) → Option Ret
  | 0, _, _, _, _, _ => none
  | m + 1, x0, x1, x5, k0, k1 => P_s_l09Is_2_0 x0 x1 x5 (fun x0 x1 x5 => (Q_s_l09Is_2_0 m x0 x1 x5 k0 k1)) k0 k1
noncomputable def R_s_l09Is_2_0 (x0 : Int) (x1 : List Int) (x5 : Int) (k0 : Bool → Option Ret) (k1 : Option Ret) : Option Ret := Q_s_l09Is_2_0 (x0.toNat + List.length x1 + x5.toNat + 2) x0 x1 x5 k0 k1
noncomputable def W_s_l09Is_2 : LoopFn := (fun (σ : St) (K : Ex → St → Option Ret) => (match sh_s_l09Is_2_0.un σ with | some d => w_s_l09Is_2_0 d (fun x0 x1 x5 => R_s_l09Is_2_0 x0 x1 x5 (fun x4 => (K .ret (z_s_l09Is_2_0 x4))) (K (.ext 0) z_s_l09Is_2_1)) | none => none))
noncomputable abbrev E_s_l09Is : Env := En [] [] [(2, [0,1,5], [4], W_s_l09Is_2)] [] false 0 []
noncomputable abbrev U_s_l09Is_2 := rounds (run E_s_l09Is (bodyOf F.s_l09Is 2)) [0,1,5] [4]
theorem st_s_l09Is_2_0 (m : Nat) (x0 : Int) (x1 : List Int) (x5 : Int) (K : Ex → St → Option Ret) : U_s_l09Is_2 (m + 1) (s_s_l09Is_2_0 x0 x1 x5) K = P_s_l09Is_2_0 x0 x1 x5 (fun x0 x1 x5 => (U_s_l09Is_2 m (s_s_l09Is_2_0 x0 x1 x5) K)) (fun x4 => (K .ret (z_s_l09Is_2_0 x4))) (K (.ext 0) z_s_l09Is_2_1) := by kernel_rfl
theorem q_s_l09Is_2 (K : Ex → St → Option Ret) : ∀ m : Nat, (∀ (x0 : Int) (x1 : List Int) (x5 : Int), U_s_l09Is_2 m (s_s_l09Is_2_0 x0 x1 x5) K = Q_s_l09Is_2_0 m x0 x1 x5 (fun x4 => (K .ret (z_s_l09Is_2_0 x4))) (K (.ext 0) z_s_l09Is_2_1))
  | 0 => (fun _ _ _ => rfl)
  | m + 1 => (fun x0 x1 x5 => (by rw [st_s_l09Is_2_0, show (fun x0 x1 x5 => (U_s_l09Is_2 m (s_s_l09Is_2_0 x0 x1 x5) K)) = (fun x0 x1 x5 => (Q_s_l09Is_2_0 m x0 x1 x5 (fun x4 => (K .ret (z_s_l09Is_2_0 x4))) (K (.ext 0) z_s_l09Is_2_1))) from funext fun x0 => funext fun x1 => funext fun x5 => (q_s_l09Is_2 K m) x0 x1 x5]; rfl))
theorem loopK_s_l09Is_2 : LoopOk E_s_l09Is (bodyOf F.s_l09Is 2) := by
  refine loopW_ok (n := 2) (F := W_s_l09Is_2) (by kernel_rfl) rfl (li := [0,1,5]) (lo := [4]) rfl (fun σ K r hr => ?_)
  unfold W_s_l09Is_2 at hr
  split at hr
  · rename_i d hd
    rw [Ss.un_mk hd]
    exact ⟨_, ((congrArg (fun z => U_s_l09Is_2 _ z K) (se_s_l09Is_2_0 _ _ _)).trans ((q_s_l09Is_2 K _) _ _ _)).trans hr⟩
  · cases hr
noncomputable def T_s_l09Is (k : Int) (l : List Int) (K : Ret → Option Ret) : Option Ret := (R_s_l09Is_2_0 k l (0 : Int) (fun y0 => K ((.s (.bool y0)), [])) (K ((.s (.bool false)), [])))
theorem e_s_l09Is (k : Int) (l : List Int) (K : Ret → Option Ret) : evF E_s_l09Is true F.s_l09Is [.s (.int .i64 k), .l .no intR l] K = T_s_l09Is k l K := by kernel_rfl
def S_s_l09Is : Sm := S_fnR [.i, .l intR] (fun d => Nat.ble d.2.1.length 1048576) (fun d => (bl (d.2.1.any fun c => c == d.1), []))
theorem v_s_l09Is (k : Int) (l : List Int) (h : (Nat.ble l.length 1048576) = true) (K : Ret → Option Ret) : T_s_l09Is k l K = K (bl (l.any fun c => c == k), []) := by
  have hl := Nat.le_of_ble_eq_true h
  unfold T_s_l09Is

  show R_s_l09Is_2_0 k l 0 _ _ = _
  unfold R_s_l09Is_2_0
  have q := idx_all (R := fun m i => Q_s_l09Is_2_0 m k l i (fun y0 => K ((.s (.bool y0)), [])) (K ((.s (.bool false)), []))) (p := fun c => !(c == k)) (xs := l) (z := (0 : Int)) (kt := K ((.s (.bool false)), [])) (kf := K ((.s (.bool true)), []))
    (fun m i hi => by
      show P_s_l09Is_2_0 k l i _ _ _ = _
      unfold P_s_l09Is_2_0
      rw [decide_eq_true (show ((i : Nat) : Int) < ((l.length : Nat) : Int) by omega), decide_eq_true (show (0 : Int) ≤ ((i : Nat) : Int) by omega), wrap_nat (by omega), Int.toNat_natCast]
      cases l.getD i 0 == k <;> rfl)
    (fun m => by
      show P_s_l09Is_2_0 k l _ _ _ _ = _
      unfold P_s_l09Is_2_0
      rw [decide_eq_false (show ¬ ((l.length : Nat) : Int) < ((l.length : Nat) : Int) by omega)]; rfl)
    (k.toNat + List.length l + (0 : Int).toNat + 2) 0 (by omega) (by omega)
  refine Eq.trans (show _ = _ from q) ?_
  rw [List.drop_zero]
  have e : (l.all fun c => !(c == k)) = !(l.any fun c => c == k) := by rw [List.not_any_eq_all_not]
  rw [e]
  cases l.any fun c => c == k <;> rfl
theorem okS_s_l09Is : OkFn prog I N.s_l09Is true S_s_l09Is := okN (ok_fn mem0 (l := []) (p := []) (ls := [(2, [0,1,5], [4], W_s_l09Is_2)]) (lend := []) (focus := false) (fuel := 0) (give := []) (fn := F.s_l09Is) (by kernel_rfl) (by kernel_rfl) (by kernel_rfl) (by kernel_rfl) (cs := [bodyOf F.s_l09Is 2]) (by kernel_rfl) (loopsc loopK_s_l09Is_2 loops0)) (S_fnR_of fun d K h => (e_s_l09Is d.1 d.2.1 K).trans (v_s_l09Is d.1 d.2.1 h K))
end Go.Ev.Seat
end
section
/- s_ReqOk: its contract. -/
namespace Go.Ev.Seat
open Go.RowKit
set_option maxRecDepth 100000
set_option linter.unusedVariables false
set_option linter.unusedSimpArgs false
noncomputable abbrev E_s_ReqOk : Env := En [(N.s_l09Word, true, S_s_l09Word), (N.s_TextOk, true, S_s_TextOk), (N.s_l09Is, true, S_s_l09Is)] [] [] [] false 0 []
noncomputable abbrev E1_s_ReqOk : Env := En [] [] [] [] false 0 []
theorem ok0_s_ReqOk : OkFn prog I N.s_ReqOk true (evF E_s_ReqOk true F.s_ReqOk) := ok_fn (memc okS_s_l09Word (memc okS_s_TextOk (memc okS_s_l09Is mem0))) (l := [(N.s_l09Word, true, S_s_l09Word), (N.s_TextOk, true, S_s_TextOk), (N.s_l09Is, true, S_s_l09Is)]) (p := []) (ls := []) (lend := []) (focus := false) (fuel := 0) (give := []) (fn := F.s_ReqOk) (by kernel_rfl) (by kernel_rfl) (by kernel_rfl) (by kernel_rfl) (cs := []) (by kernel_rfl) loops0
theorem ok1_s_ReqOk : OkFn prog I N.s_ReqOk true (evF E1_s_ReqOk true F.s_ReqOk) := ok_fn mem0 (l := []) (p := []) (ls := []) (lend := []) (focus := false) (fuel := 0) (give := []) (fn := F.s_ReqOk) (by kernel_rfl) (by kernel_rfl) (by kernel_rfl) (by kernel_rfl) (cs := []) (by kernel_rfl) loops0
theorem e1_s_ReqOk (r : T_Req) (K : Ret → Option Ret) : evF E1_s_ReqOk true F.s_ReqOk [.a (reqR.cells .no r)] K =
  (bif (decide (r.1 < 1)) then K ((.s (.bool false)), []) else (bif (decide (r.1 > 16)) then K ((.s (.bool false)), []) else
   (bif (decide (r.2.1 < 1)) then K ((.s (.bool false)), []) else (bif (decide (r.2.1 > 8)) then K ((.s (.bool false)), []) else none)))) := by kernel_rfl
theorem e_s_ReqOk_1 (s a b d : Int) (t : List Int) (K : Ret → Option Ret) : evF E_s_ReqOk true F.s_ReqOk [.a (reqR.cells .no (1, s, a, b, d, t))] K =
  (bif (decide (s < 1)) then K ((.s (.bool false)), []) else (bif (decide (s > 8)) then K ((.s (.bool false)), []) else (bif (!(isWordD a)) then K ((.s (.bool false)), []) else (bif (!(isWordD b)) then K ((.s (.bool false)), []) else (bif (!(isWordD d)) then K ((.s (.bool false)), []) else (bif fitB t then (bif (!(textOk t)) then K ((.s (.bool false)), []) else (bif (decide (((List.length t : Nat) : Int) > 100)) then K ((.s (.bool false)), []) else (bif (a != (0 : Int)) then K ((.s (.bool false)), []) else (bif (b != (0 : Int)) then K ((.s (.bool false)), []) else (bif (d != (0 : Int)) then K ((.s (.bool false)), []) else (bif (decide (((List.length t : Nat) : Int) > 0)) then K ((.s (.bool false)), []) else K ((.s (.bool true)), []))))))) else none)))))) := by kernel_rfl
theorem v_s_ReqOk_1 (s a b d : Int) (t : List Int) (h : fitB t = true) (K : Ret → Option Ret) : evF E_s_ReqOk true F.s_ReqOk [.a (reqR.cells .no (1, s, a, b, d, t))] K = K (bl (reqOkD (1, s, a, b, d, t)), []) := by
  refine (e_s_ReqOk_1 s a b d t K).trans ?_
  unfold reqOkD
  simp only [bne, h]
  by_cases h3 : s < 1
  · rw [decide_eq_true h3, decide_eq_false (show ¬ 1 ≤ s by omega)]; rfl
  by_cases h4 : s > 8
  · rw [decide_eq_false h3, decide_eq_true h4, decide_eq_true (show 1 ≤ s by omega), decide_eq_false (show ¬ s ≤ 8 by omega)]; rfl
  rw [decide_eq_false h3, decide_eq_false h4, decide_eq_true (show 1 ≤ s by omega), decide_eq_true (show s ≤ 8 by omega)]
  by_cases h5 : ((t.length : Nat) : Int) > 100
  · rw [decide_eq_true h5, decide_eq_false (show ¬ ((t.length : Nat) : Int) ≤ 100 by omega)]
    cases isWordD a <;> cases isWordD b <;> cases isWordD d <;> cases textOk t <;> rfl
  rw [decide_eq_false h5, decide_eq_true (show ((t.length : Nat) : Int) ≤ 100 by omega)]
  unfold reqKindD
  generalize decide (((t.length : Nat) : Int) > 0) = n
  generalize (a == 0) = x
  generalize (b == 0) = y
  generalize (d == 0) = z
  generalize textOk t = p
  cases isWordD a <;> cases isWordD b <;> cases isWordD d <;> cases p <;> first | rfl | (cases x <;> cases y <;> cases z <;> cases n <;> rfl)
theorem e_s_ReqOk_2 (s a b d : Int) (t : List Int) (K : Ret → Option Ret) : evF E_s_ReqOk true F.s_ReqOk [.a (reqR.cells .no (2, s, a, b, d, t))] K =
  (bif (decide (s < 1)) then K ((.s (.bool false)), []) else (bif (decide (s > 8)) then K ((.s (.bool false)), []) else (bif (!(isWordD a)) then K ((.s (.bool false)), []) else (bif (!(isWordD b)) then K ((.s (.bool false)), []) else (bif (!(isWordD d)) then K ((.s (.bool false)), []) else (bif fitB t then (bif (!(textOk t)) then K ((.s (.bool false)), []) else (bif (decide (((List.length t : Nat) : Int) > 100)) then K ((.s (.bool false)), []) else (bif (a != (0 : Int)) then K ((.s (.bool false)), []) else (bif (b != (0 : Int)) then K ((.s (.bool false)), []) else (bif (d != (0 : Int)) then K ((.s (.bool false)), []) else (bif (decide (((List.length t : Nat) : Int) > 0)) then K ((.s (.bool false)), []) else K ((.s (.bool true)), []))))))) else none)))))) := by kernel_rfl
theorem v_s_ReqOk_2 (s a b d : Int) (t : List Int) (h : fitB t = true) (K : Ret → Option Ret) : evF E_s_ReqOk true F.s_ReqOk [.a (reqR.cells .no (2, s, a, b, d, t))] K = K (bl (reqOkD (2, s, a, b, d, t)), []) := by
  refine (e_s_ReqOk_2 s a b d t K).trans ?_
  unfold reqOkD
  simp only [bne, h]
  by_cases h3 : s < 1
  · rw [decide_eq_true h3, decide_eq_false (show ¬ 1 ≤ s by omega)]; rfl
  by_cases h4 : s > 8
  · rw [decide_eq_false h3, decide_eq_true h4, decide_eq_true (show 1 ≤ s by omega), decide_eq_false (show ¬ s ≤ 8 by omega)]; rfl
  rw [decide_eq_false h3, decide_eq_false h4, decide_eq_true (show 1 ≤ s by omega), decide_eq_true (show s ≤ 8 by omega)]
  by_cases h5 : ((t.length : Nat) : Int) > 100
  · rw [decide_eq_true h5, decide_eq_false (show ¬ ((t.length : Nat) : Int) ≤ 100 by omega)]
    cases isWordD a <;> cases isWordD b <;> cases isWordD d <;> cases textOk t <;> rfl
  rw [decide_eq_false h5, decide_eq_true (show ((t.length : Nat) : Int) ≤ 100 by omega)]
  unfold reqKindD
  generalize decide (((t.length : Nat) : Int) > 0) = n
  generalize (a == 0) = x
  generalize (b == 0) = y
  generalize (d == 0) = z
  generalize textOk t = p
  cases isWordD a <;> cases isWordD b <;> cases isWordD d <;> cases p <;> first | rfl | (cases x <;> cases y <;> cases z <;> cases n <;> rfl)
theorem e_s_ReqOk_3 (s a b d : Int) (t : List Int) (K : Ret → Option Ret) : evF E_s_ReqOk true F.s_ReqOk [.a (reqR.cells .no (3, s, a, b, d, t))] K =
  (bif (decide (s < 1)) then K ((.s (.bool false)), []) else (bif (decide (s > 8)) then K ((.s (.bool false)), []) else (bif (!(isWordD a)) then K ((.s (.bool false)), []) else (bif (!(isWordD b)) then K ((.s (.bool false)), []) else (bif (!(isWordD d)) then K ((.s (.bool false)), []) else (bif fitB t then (bif (!(textOk t)) then K ((.s (.bool false)), []) else (bif (decide (((List.length t : Nat) : Int) > 100)) then K ((.s (.bool false)), []) else (bif (b != (0 : Int)) then K ((.s (.bool false)), []) else (bif (d != (0 : Int)) then K ((.s (.bool false)), []) else K ((.s (.bool true)), []))))) else none)))))) := by kernel_rfl
theorem v_s_ReqOk_3 (s a b d : Int) (t : List Int) (h : fitB t = true) (K : Ret → Option Ret) : evF E_s_ReqOk true F.s_ReqOk [.a (reqR.cells .no (3, s, a, b, d, t))] K = K (bl (reqOkD (3, s, a, b, d, t)), []) := by
  refine (e_s_ReqOk_3 s a b d t K).trans ?_
  unfold reqOkD
  simp only [bne, h]
  by_cases h3 : s < 1
  · rw [decide_eq_true h3, decide_eq_false (show ¬ 1 ≤ s by omega)]; rfl
  by_cases h4 : s > 8
  · rw [decide_eq_false h3, decide_eq_true h4, decide_eq_true (show 1 ≤ s by omega), decide_eq_false (show ¬ s ≤ 8 by omega)]; rfl
  rw [decide_eq_false h3, decide_eq_false h4, decide_eq_true (show 1 ≤ s by omega), decide_eq_true (show s ≤ 8 by omega)]
  by_cases h5 : ((t.length : Nat) : Int) > 100
  · rw [decide_eq_true h5, decide_eq_false (show ¬ ((t.length : Nat) : Int) ≤ 100 by omega)]
    cases isWordD a <;> cases isWordD b <;> cases isWordD d <;> cases textOk t <;> rfl
  rw [decide_eq_false h5, decide_eq_true (show ((t.length : Nat) : Int) ≤ 100 by omega)]
  unfold reqKindD
  generalize decide (((t.length : Nat) : Int) > 0) = n
  generalize (a == 0) = x
  generalize (b == 0) = y
  generalize (d == 0) = z
  generalize textOk t = p
  cases isWordD a <;> cases isWordD b <;> cases isWordD d <;> cases p <;> first | rfl | (cases x <;> cases y <;> cases z <;> cases n <;> rfl)
theorem e_s_ReqOk_4 (s a b d : Int) (t : List Int) (K : Ret → Option Ret) : evF E_s_ReqOk true F.s_ReqOk [.a (reqR.cells .no (4, s, a, b, d, t))] K =
  (bif (decide (s < 1)) then K ((.s (.bool false)), []) else (bif (decide (s > 8)) then K ((.s (.bool false)), []) else (bif (!(isWordD a)) then K ((.s (.bool false)), []) else (bif (!(isWordD b)) then K ((.s (.bool false)), []) else (bif (!(isWordD d)) then K ((.s (.bool false)), []) else (bif fitB t then (bif (!(textOk t)) then K ((.s (.bool false)), []) else (bif (decide (((List.length t : Nat) : Int) > 100)) then K ((.s (.bool false)), []) else (bif (d != (0 : Int)) then K ((.s (.bool false)), []) else (bif (decide (((List.length t : Nat) : Int) > 0)) then K ((.s (.bool false)), []) else K ((.s (.bool true)), []))))) else none)))))) := by kernel_rfl
theorem v_s_ReqOk_4 (s a b d : Int) (t : List Int) (h : fitB t = true) (K : Ret → Option Ret) : evF E_s_ReqOk true F.s_ReqOk [.a (reqR.cells .no (4, s, a, b, d, t))] K = K (bl (reqOkD (4, s, a, b, d, t)), []) := by
  refine (e_s_ReqOk_4 s a b d t K).trans ?_
  unfold reqOkD
  simp only [bne, h]
  by_cases h3 : s < 1
  · rw [decide_eq_true h3, decide_eq_false (show ¬ 1 ≤ s by omega)]; rfl
  by_cases h4 : s > 8
  · rw [decide_eq_false h3, decide_eq_true h4, decide_eq_true (show 1 ≤ s by omega), decide_eq_false (show ¬ s ≤ 8 by omega)]; rfl
  rw [decide_eq_false h3, decide_eq_false h4, decide_eq_true (show 1 ≤ s by omega), decide_eq_true (show s ≤ 8 by omega)]
  by_cases h5 : ((t.length : Nat) : Int) > 100
  · rw [decide_eq_true h5, decide_eq_false (show ¬ ((t.length : Nat) : Int) ≤ 100 by omega)]
    cases isWordD a <;> cases isWordD b <;> cases isWordD d <;> cases textOk t <;> rfl
  rw [decide_eq_false h5, decide_eq_true (show ((t.length : Nat) : Int) ≤ 100 by omega)]
  unfold reqKindD
  generalize decide (((t.length : Nat) : Int) > 0) = n
  generalize (a == 0) = x
  generalize (b == 0) = y
  generalize (d == 0) = z
  generalize textOk t = p
  cases isWordD a <;> cases isWordD b <;> cases isWordD d <;> cases p <;> first | rfl | (cases x <;> cases y <;> cases z <;> cases n <;> rfl)
theorem e_s_ReqOk_5 (s a b d : Int) (t : List Int) (K : Ret → Option Ret) : evF E_s_ReqOk true F.s_ReqOk [.a (reqR.cells .no (5, s, a, b, d, t))] K =
  (bif (decide (s < 1)) then K ((.s (.bool false)), []) else (bif (decide (s > 8)) then K ((.s (.bool false)), []) else (bif (!(isWordD a)) then K ((.s (.bool false)), []) else (bif (!(isWordD b)) then K ((.s (.bool false)), []) else (bif (!(isWordD d)) then K ((.s (.bool false)), []) else (bif fitB t then (bif (!(textOk t)) then K ((.s (.bool false)), []) else (bif (decide (((List.length t : Nat) : Int) > 100)) then K ((.s (.bool false)), []) else (bif (d != (0 : Int)) then K ((.s (.bool false)), []) else K ((.s (.bool true)), [])))) else none)))))) := by kernel_rfl
theorem v_s_ReqOk_5 (s a b d : Int) (t : List Int) (h : fitB t = true) (K : Ret → Option Ret) : evF E_s_ReqOk true F.s_ReqOk [.a (reqR.cells .no (5, s, a, b, d, t))] K = K (bl (reqOkD (5, s, a, b, d, t)), []) := by
  refine (e_s_ReqOk_5 s a b d t K).trans ?_
  unfold reqOkD
  simp only [bne, h]
  by_cases h3 : s < 1
  · rw [decide_eq_true h3, decide_eq_false (show ¬ 1 ≤ s by omega)]; rfl
  by_cases h4 : s > 8
  · rw [decide_eq_false h3, decide_eq_true h4, decide_eq_true (show 1 ≤ s by omega), decide_eq_false (show ¬ s ≤ 8 by omega)]; rfl
  rw [decide_eq_false h3, decide_eq_false h4, decide_eq_true (show 1 ≤ s by omega), decide_eq_true (show s ≤ 8 by omega)]
  by_cases h5 : ((t.length : Nat) : Int) > 100
  · rw [decide_eq_true h5, decide_eq_false (show ¬ ((t.length : Nat) : Int) ≤ 100 by omega)]
    cases isWordD a <;> cases isWordD b <;> cases isWordD d <;> cases textOk t <;> rfl
  rw [decide_eq_false h5, decide_eq_true (show ((t.length : Nat) : Int) ≤ 100 by omega)]
  unfold reqKindD
  generalize decide (((t.length : Nat) : Int) > 0) = n
  generalize (a == 0) = x
  generalize (b == 0) = y
  generalize (d == 0) = z
  generalize textOk t = p
  cases isWordD a <;> cases isWordD b <;> cases isWordD d <;> cases p <;> first | rfl | (cases x <;> cases y <;> cases z <;> cases n <;> rfl)
theorem e_s_ReqOk_6 (s a b d : Int) (t : List Int) (K : Ret → Option Ret) : evF E_s_ReqOk true F.s_ReqOk [.a (reqR.cells .no (6, s, a, b, d, t))] K =
  (bif (decide (s < 1)) then K ((.s (.bool false)), []) else (bif (decide (s > 8)) then K ((.s (.bool false)), []) else (bif (!(isWordD a)) then K ((.s (.bool false)), []) else (bif (!(isWordD b)) then K ((.s (.bool false)), []) else (bif (!(isWordD d)) then K ((.s (.bool false)), []) else (bif fitB t then (bif (!(textOk t)) then K ((.s (.bool false)), []) else (bif (decide (((List.length t : Nat) : Int) > 100)) then K ((.s (.bool false)), []) else (bif (d != (0 : Int)) then K ((.s (.bool false)), []) else (bif (decide (((List.length t : Nat) : Int) > 0)) then K ((.s (.bool false)), []) else K ((.s (.bool true)), []))))) else none)))))) := by kernel_rfl
theorem v_s_ReqOk_6 (s a b d : Int) (t : List Int) (h : fitB t = true) (K : Ret → Option Ret) : evF E_s_ReqOk true F.s_ReqOk [.a (reqR.cells .no (6, s, a, b, d, t))] K = K (bl (reqOkD (6, s, a, b, d, t)), []) := by
  refine (e_s_ReqOk_6 s a b d t K).trans ?_
  unfold reqOkD
  simp only [bne, h]
  by_cases h3 : s < 1
  · rw [decide_eq_true h3, decide_eq_false (show ¬ 1 ≤ s by omega)]; rfl
  by_cases h4 : s > 8
  · rw [decide_eq_false h3, decide_eq_true h4, decide_eq_true (show 1 ≤ s by omega), decide_eq_false (show ¬ s ≤ 8 by omega)]; rfl
  rw [decide_eq_false h3, decide_eq_false h4, decide_eq_true (show 1 ≤ s by omega), decide_eq_true (show s ≤ 8 by omega)]
  by_cases h5 : ((t.length : Nat) : Int) > 100
  · rw [decide_eq_true h5, decide_eq_false (show ¬ ((t.length : Nat) : Int) ≤ 100 by omega)]
    cases isWordD a <;> cases isWordD b <;> cases isWordD d <;> cases textOk t <;> rfl
  rw [decide_eq_false h5, decide_eq_true (show ((t.length : Nat) : Int) ≤ 100 by omega)]
  unfold reqKindD
  generalize decide (((t.length : Nat) : Int) > 0) = n
  generalize (a == 0) = x
  generalize (b == 0) = y
  generalize (d == 0) = z
  generalize textOk t = p
  cases isWordD a <;> cases isWordD b <;> cases isWordD d <;> cases p <;> first | rfl | (cases x <;> cases y <;> cases z <;> cases n <;> rfl)
theorem e_s_ReqOk_7 (s a b d : Int) (t : List Int) (K : Ret → Option Ret) : evF E_s_ReqOk true F.s_ReqOk [.a (reqR.cells .no (7, s, a, b, d, t))] K =
  (bif (decide (s < 1)) then K ((.s (.bool false)), []) else (bif (decide (s > 8)) then K ((.s (.bool false)), []) else (bif (!(isWordD a)) then K ((.s (.bool false)), []) else (bif (!(isWordD b)) then K ((.s (.bool false)), []) else (bif (!(isWordD d)) then K ((.s (.bool false)), []) else (bif fitB t then (bif (!(textOk t)) then K ((.s (.bool false)), []) else (bif (decide (((List.length t : Nat) : Int) > 100)) then K ((.s (.bool false)), []) else (bif (b != (0 : Int)) then K ((.s (.bool false)), []) else (bif (d != (0 : Int)) then K ((.s (.bool false)), []) else K ((.s (.bool (decide (((List.length t : Nat) : Int) > 0)))), []))))) else none)))))) := by kernel_rfl
theorem v_s_ReqOk_7 (s a b d : Int) (t : List Int) (h : fitB t = true) (K : Ret → Option Ret) : evF E_s_ReqOk true F.s_ReqOk [.a (reqR.cells .no (7, s, a, b, d, t))] K = K (bl (reqOkD (7, s, a, b, d, t)), []) := by
  refine (e_s_ReqOk_7 s a b d t K).trans ?_
  unfold reqOkD
  simp only [bne, h]
  by_cases h3 : s < 1
  · rw [decide_eq_true h3, decide_eq_false (show ¬ 1 ≤ s by omega)]; rfl
  by_cases h4 : s > 8
  · rw [decide_eq_false h3, decide_eq_true h4, decide_eq_true (show 1 ≤ s by omega), decide_eq_false (show ¬ s ≤ 8 by omega)]; rfl
  rw [decide_eq_false h3, decide_eq_false h4, decide_eq_true (show 1 ≤ s by omega), decide_eq_true (show s ≤ 8 by omega)]
  by_cases h5 : ((t.length : Nat) : Int) > 100
  · rw [decide_eq_true h5, decide_eq_false (show ¬ ((t.length : Nat) : Int) ≤ 100 by omega)]
    cases isWordD a <;> cases isWordD b <;> cases isWordD d <;> cases textOk t <;> rfl
  rw [decide_eq_false h5, decide_eq_true (show ((t.length : Nat) : Int) ≤ 100 by omega)]
  unfold reqKindD
  generalize decide (((t.length : Nat) : Int) > 0) = n
  generalize (a == 0) = x
  generalize (b == 0) = y
  generalize (d == 0) = z
  generalize textOk t = p
  cases isWordD a <;> cases isWordD b <;> cases isWordD d <;> cases p <;> first | rfl | (cases x <;> cases y <;> cases z <;> cases n <;> rfl)
theorem e_s_ReqOk_8 (s a b d : Int) (t : List Int) (K : Ret → Option Ret) : evF E_s_ReqOk true F.s_ReqOk [.a (reqR.cells .no (8, s, a, b, d, t))] K =
  (bif (decide (s < 1)) then K ((.s (.bool false)), []) else (bif (decide (s > 8)) then K ((.s (.bool false)), []) else (bif (!(isWordD a)) then K ((.s (.bool false)), []) else (bif (!(isWordD b)) then K ((.s (.bool false)), []) else (bif (!(isWordD d)) then K ((.s (.bool false)), []) else (bif fitB t then (bif (!(textOk t)) then K ((.s (.bool false)), []) else (bif (decide (((List.length t : Nat) : Int) > 100)) then K ((.s (.bool false)), []) else (bif (b != (0 : Int)) then K ((.s (.bool false)), []) else (bif (d != (0 : Int)) then K ((.s (.bool false)), []) else K ((.s (.bool (decide (((List.length t : Nat) : Int) > 0)))), []))))) else none)))))) := by kernel_rfl
theorem v_s_ReqOk_8 (s a b d : Int) (t : List Int) (h : fitB t = true) (K : Ret → Option Ret) : evF E_s_ReqOk true F.s_ReqOk [.a (reqR.cells .no (8, s, a, b, d, t))] K = K (bl (reqOkD (8, s, a, b, d, t)), []) := by
  refine (e_s_ReqOk_8 s a b d t K).trans ?_
  unfold reqOkD
  simp only [bne, h]
  by_cases h3 : s < 1
  · rw [decide_eq_true h3, decide_eq_false (show ¬ 1 ≤ s by omega)]; rfl
  by_cases h4 : s > 8
  · rw [decide_eq_false h3, decide_eq_true h4, decide_eq_true (show 1 ≤ s by omega), decide_eq_false (show ¬ s ≤ 8 by omega)]; rfl
  rw [decide_eq_false h3, decide_eq_false h4, decide_eq_true (show 1 ≤ s by omega), decide_eq_true (show s ≤ 8 by omega)]
  by_cases h5 : ((t.length : Nat) : Int) > 100
  · rw [decide_eq_true h5, decide_eq_false (show ¬ ((t.length : Nat) : Int) ≤ 100 by omega)]
    cases isWordD a <;> cases isWordD b <;> cases isWordD d <;> cases textOk t <;> rfl
  rw [decide_eq_false h5, decide_eq_true (show ((t.length : Nat) : Int) ≤ 100 by omega)]
  unfold reqKindD
  generalize decide (((t.length : Nat) : Int) > 0) = n
  generalize (a == 0) = x
  generalize (b == 0) = y
  generalize (d == 0) = z
  generalize textOk t = p
  cases isWordD a <;> cases isWordD b <;> cases isWordD d <;> cases p <;> first | rfl | (cases x <;> cases y <;> cases z <;> cases n <;> rfl)
theorem e_s_ReqOk_9 (s a b d : Int) (t : List Int) (K : Ret → Option Ret) : evF E_s_ReqOk true F.s_ReqOk [.a (reqR.cells .no (9, s, a, b, d, t))] K =
  (bif (decide (s < 1)) then K ((.s (.bool false)), []) else (bif (decide (s > 8)) then K ((.s (.bool false)), []) else (bif (!(isWordD a)) then K ((.s (.bool false)), []) else (bif (!(isWordD b)) then K ((.s (.bool false)), []) else (bif (!(isWordD d)) then K ((.s (.bool false)), []) else (bif fitB t then (bif (!(textOk t)) then K ((.s (.bool false)), []) else (bif (decide (((List.length t : Nat) : Int) > 100)) then K ((.s (.bool false)), []) else (bif (b != (0 : Int)) then K ((.s (.bool false)), []) else (bif (d != (0 : Int)) then K ((.s (.bool false)), []) else (bif (decide (((List.length t : Nat) : Int) > 0)) then K ((.s (.bool false)), []) else K ((.s (.bool true)), [])))))) else none)))))) := by kernel_rfl
theorem v_s_ReqOk_9 (s a b d : Int) (t : List Int) (h : fitB t = true) (K : Ret → Option Ret) : evF E_s_ReqOk true F.s_ReqOk [.a (reqR.cells .no (9, s, a, b, d, t))] K = K (bl (reqOkD (9, s, a, b, d, t)), []) := by
  refine (e_s_ReqOk_9 s a b d t K).trans ?_
  unfold reqOkD
  simp only [bne, h]
  by_cases h3 : s < 1
  · rw [decide_eq_true h3, decide_eq_false (show ¬ 1 ≤ s by omega)]; rfl
  by_cases h4 : s > 8
  · rw [decide_eq_false h3, decide_eq_true h4, decide_eq_true (show 1 ≤ s by omega), decide_eq_false (show ¬ s ≤ 8 by omega)]; rfl
  rw [decide_eq_false h3, decide_eq_false h4, decide_eq_true (show 1 ≤ s by omega), decide_eq_true (show s ≤ 8 by omega)]
  by_cases h5 : ((t.length : Nat) : Int) > 100
  · rw [decide_eq_true h5, decide_eq_false (show ¬ ((t.length : Nat) : Int) ≤ 100 by omega)]
    cases isWordD a <;> cases isWordD b <;> cases isWordD d <;> cases textOk t <;> rfl
  rw [decide_eq_false h5, decide_eq_true (show ((t.length : Nat) : Int) ≤ 100 by omega)]
  unfold reqKindD
  generalize decide (((t.length : Nat) : Int) > 0) = n
  generalize (a == 0) = x
  generalize (b == 0) = y
  generalize (d == 0) = z
  generalize textOk t = p
  cases isWordD a <;> cases isWordD b <;> cases isWordD d <;> cases p <;> first | rfl | (cases x <;> cases y <;> cases z <;> cases n <;> rfl)
theorem e_s_ReqOk_10 (s a b d : Int) (t : List Int) (K : Ret → Option Ret) : evF E_s_ReqOk true F.s_ReqOk [.a (reqR.cells .no (10, s, a, b, d, t))] K =
  (bif (decide (s < 1)) then K ((.s (.bool false)), []) else (bif (decide (s > 8)) then K ((.s (.bool false)), []) else (bif (!(isWordD a)) then K ((.s (.bool false)), []) else (bif (!(isWordD b)) then K ((.s (.bool false)), []) else (bif (!(isWordD d)) then K ((.s (.bool false)), []) else (bif fitB t then (bif (!(textOk t)) then K ((.s (.bool false)), []) else (bif (decide (((List.length t : Nat) : Int) > 100)) then K ((.s (.bool false)), []) else (bif (d != (0 : Int)) then K ((.s (.bool false)), []) else (bif (decide (((List.length t : Nat) : Int) > 0)) then K ((.s (.bool false)), []) else K ((.s (.bool true)), []))))) else none)))))) := by kernel_rfl
theorem v_s_ReqOk_10 (s a b d : Int) (t : List Int) (h : fitB t = true) (K : Ret → Option Ret) : evF E_s_ReqOk true F.s_ReqOk [.a (reqR.cells .no (10, s, a, b, d, t))] K = K (bl (reqOkD (10, s, a, b, d, t)), []) := by
  refine (e_s_ReqOk_10 s a b d t K).trans ?_
  unfold reqOkD
  simp only [bne, h]
  by_cases h3 : s < 1
  · rw [decide_eq_true h3, decide_eq_false (show ¬ 1 ≤ s by omega)]; rfl
  by_cases h4 : s > 8
  · rw [decide_eq_false h3, decide_eq_true h4, decide_eq_true (show 1 ≤ s by omega), decide_eq_false (show ¬ s ≤ 8 by omega)]; rfl
  rw [decide_eq_false h3, decide_eq_false h4, decide_eq_true (show 1 ≤ s by omega), decide_eq_true (show s ≤ 8 by omega)]
  by_cases h5 : ((t.length : Nat) : Int) > 100
  · rw [decide_eq_true h5, decide_eq_false (show ¬ ((t.length : Nat) : Int) ≤ 100 by omega)]
    cases isWordD a <;> cases isWordD b <;> cases isWordD d <;> cases textOk t <;> rfl
  rw [decide_eq_false h5, decide_eq_true (show ((t.length : Nat) : Int) ≤ 100 by omega)]
  unfold reqKindD
  generalize decide (((t.length : Nat) : Int) > 0) = n
  generalize (a == 0) = x
  generalize (b == 0) = y
  generalize (d == 0) = z
  generalize textOk t = p
  cases isWordD a <;> cases isWordD b <;> cases isWordD d <;> cases p <;> first | rfl | (cases x <;> cases y <;> cases z <;> cases n <;> rfl)
theorem e_s_ReqOk_11 (s a b d : Int) (t : List Int) (K : Ret → Option Ret) : evF E_s_ReqOk true F.s_ReqOk [.a (reqR.cells .no (11, s, a, b, d, t))] K =
  (bif (decide (s < 1)) then K ((.s (.bool false)), []) else (bif (decide (s > 8)) then K ((.s (.bool false)), []) else (bif (!(isWordD a)) then K ((.s (.bool false)), []) else (bif (!(isWordD b)) then K ((.s (.bool false)), []) else (bif (!(isWordD d)) then K ((.s (.bool false)), []) else (bif fitB t then (bif (!(textOk t)) then K ((.s (.bool false)), []) else (bif (decide (((List.length t : Nat) : Int) > 100)) then K ((.s (.bool false)), []) else (bif (d != (0 : Int)) then K ((.s (.bool false)), []) else (bif (decide (((List.length t : Nat) : Int) > 0)) then K ((.s (.bool false)), []) else K ((.s (.bool true)), []))))) else none)))))) := by kernel_rfl
theorem v_s_ReqOk_11 (s a b d : Int) (t : List Int) (h : fitB t = true) (K : Ret → Option Ret) : evF E_s_ReqOk true F.s_ReqOk [.a (reqR.cells .no (11, s, a, b, d, t))] K = K (bl (reqOkD (11, s, a, b, d, t)), []) := by
  refine (e_s_ReqOk_11 s a b d t K).trans ?_
  unfold reqOkD
  simp only [bne, h]
  by_cases h3 : s < 1
  · rw [decide_eq_true h3, decide_eq_false (show ¬ 1 ≤ s by omega)]; rfl
  by_cases h4 : s > 8
  · rw [decide_eq_false h3, decide_eq_true h4, decide_eq_true (show 1 ≤ s by omega), decide_eq_false (show ¬ s ≤ 8 by omega)]; rfl
  rw [decide_eq_false h3, decide_eq_false h4, decide_eq_true (show 1 ≤ s by omega), decide_eq_true (show s ≤ 8 by omega)]
  by_cases h5 : ((t.length : Nat) : Int) > 100
  · rw [decide_eq_true h5, decide_eq_false (show ¬ ((t.length : Nat) : Int) ≤ 100 by omega)]
    cases isWordD a <;> cases isWordD b <;> cases isWordD d <;> cases textOk t <;> rfl
  rw [decide_eq_false h5, decide_eq_true (show ((t.length : Nat) : Int) ≤ 100 by omega)]
  unfold reqKindD
  generalize decide (((t.length : Nat) : Int) > 0) = n
  generalize (a == 0) = x
  generalize (b == 0) = y
  generalize (d == 0) = z
  generalize textOk t = p
  cases isWordD a <;> cases isWordD b <;> cases isWordD d <;> cases p <;> first | rfl | (cases x <;> cases y <;> cases z <;> cases n <;> rfl)
theorem e_s_ReqOk_12 (s a b d : Int) (t : List Int) (K : Ret → Option Ret) : evF E_s_ReqOk true F.s_ReqOk [.a (reqR.cells .no (12, s, a, b, d, t))] K =
  (bif (decide (s < 1)) then K ((.s (.bool false)), []) else (bif (decide (s > 8)) then K ((.s (.bool false)), []) else (bif (!(isWordD a)) then K ((.s (.bool false)), []) else (bif (!(isWordD b)) then K ((.s (.bool false)), []) else (bif (!(isWordD d)) then K ((.s (.bool false)), []) else (bif fitB t then (bif (!(textOk t)) then K ((.s (.bool false)), []) else (bif (decide (((List.length t : Nat) : Int) > 100)) then K ((.s (.bool false)), []) else (bif (decide (((List.length t : Nat) : Int) > 0)) then K ((.s (.bool false)), []) else K ((.s (.bool true)), [])))) else none)))))) := by kernel_rfl
theorem v_s_ReqOk_12 (s a b d : Int) (t : List Int) (h : fitB t = true) (K : Ret → Option Ret) : evF E_s_ReqOk true F.s_ReqOk [.a (reqR.cells .no (12, s, a, b, d, t))] K = K (bl (reqOkD (12, s, a, b, d, t)), []) := by
  refine (e_s_ReqOk_12 s a b d t K).trans ?_
  unfold reqOkD
  simp only [bne, h]
  by_cases h3 : s < 1
  · rw [decide_eq_true h3, decide_eq_false (show ¬ 1 ≤ s by omega)]; rfl
  by_cases h4 : s > 8
  · rw [decide_eq_false h3, decide_eq_true h4, decide_eq_true (show 1 ≤ s by omega), decide_eq_false (show ¬ s ≤ 8 by omega)]; rfl
  rw [decide_eq_false h3, decide_eq_false h4, decide_eq_true (show 1 ≤ s by omega), decide_eq_true (show s ≤ 8 by omega)]
  by_cases h5 : ((t.length : Nat) : Int) > 100
  · rw [decide_eq_true h5, decide_eq_false (show ¬ ((t.length : Nat) : Int) ≤ 100 by omega)]
    cases isWordD a <;> cases isWordD b <;> cases isWordD d <;> cases textOk t <;> rfl
  rw [decide_eq_false h5, decide_eq_true (show ((t.length : Nat) : Int) ≤ 100 by omega)]
  unfold reqKindD
  generalize decide (((t.length : Nat) : Int) > 0) = n
  generalize (a == 0) = x
  generalize (b == 0) = y
  generalize (d == 0) = z
  generalize textOk t = p
  cases isWordD a <;> cases isWordD b <;> cases isWordD d <;> cases p <;> first | rfl | (cases x <;> cases y <;> cases z <;> cases n <;> rfl)
theorem e_s_ReqOk_13 (s a b d : Int) (t : List Int) (K : Ret → Option Ret) : evF E_s_ReqOk true F.s_ReqOk [.a (reqR.cells .no (13, s, a, b, d, t))] K =
  (bif (decide (s < 1)) then K ((.s (.bool false)), []) else (bif (decide (s > 8)) then K ((.s (.bool false)), []) else (bif (!(isWordD a)) then K ((.s (.bool false)), []) else (bif (!(isWordD b)) then K ((.s (.bool false)), []) else (bif (!(isWordD d)) then K ((.s (.bool false)), []) else (bif fitB t then (bif (!(textOk t)) then K ((.s (.bool false)), []) else (bif (decide (((List.length t : Nat) : Int) > 100)) then K ((.s (.bool false)), []) else (bif (decide (((List.length t : Nat) : Int) > 0)) then K ((.s (.bool false)), []) else K ((.s (.bool true)), [])))) else none)))))) := by kernel_rfl
theorem v_s_ReqOk_13 (s a b d : Int) (t : List Int) (h : fitB t = true) (K : Ret → Option Ret) : evF E_s_ReqOk true F.s_ReqOk [.a (reqR.cells .no (13, s, a, b, d, t))] K = K (bl (reqOkD (13, s, a, b, d, t)), []) := by
  refine (e_s_ReqOk_13 s a b d t K).trans ?_
  unfold reqOkD
  simp only [bne, h]
  by_cases h3 : s < 1
  · rw [decide_eq_true h3, decide_eq_false (show ¬ 1 ≤ s by omega)]; rfl
  by_cases h4 : s > 8
  · rw [decide_eq_false h3, decide_eq_true h4, decide_eq_true (show 1 ≤ s by omega), decide_eq_false (show ¬ s ≤ 8 by omega)]; rfl
  rw [decide_eq_false h3, decide_eq_false h4, decide_eq_true (show 1 ≤ s by omega), decide_eq_true (show s ≤ 8 by omega)]
  by_cases h5 : ((t.length : Nat) : Int) > 100
  · rw [decide_eq_true h5, decide_eq_false (show ¬ ((t.length : Nat) : Int) ≤ 100 by omega)]
    cases isWordD a <;> cases isWordD b <;> cases isWordD d <;> cases textOk t <;> rfl
  rw [decide_eq_false h5, decide_eq_true (show ((t.length : Nat) : Int) ≤ 100 by omega)]
  unfold reqKindD
  generalize decide (((t.length : Nat) : Int) > 0) = n
  generalize (a == 0) = x
  generalize (b == 0) = y
  generalize (d == 0) = z
  generalize textOk t = p
  cases isWordD a <;> cases isWordD b <;> cases isWordD d <;> cases p <;> first | rfl | (cases x <;> cases y <;> cases z <;> cases n <;> rfl)
theorem e_s_ReqOk_14 (s a b d : Int) (t : List Int) (K : Ret → Option Ret) : evF E_s_ReqOk true F.s_ReqOk [.a (reqR.cells .no (14, s, a, b, d, t))] K =
  (bif (decide (s < 1)) then K ((.s (.bool false)), []) else (bif (decide (s > 8)) then K ((.s (.bool false)), []) else (bif (!(isWordD a)) then K ((.s (.bool false)), []) else (bif (!(isWordD b)) then K ((.s (.bool false)), []) else (bif (!(isWordD d)) then K ((.s (.bool false)), []) else (bif fitB t then (bif (!(textOk t)) then K ((.s (.bool false)), []) else (bif (decide (((List.length t : Nat) : Int) > 100)) then K ((.s (.bool false)), []) else (bif (d != (0 : Int)) then K ((.s (.bool false)), []) else (bif (decide (((List.length t : Nat) : Int) > 0)) then K ((.s (.bool false)), []) else K ((.s (.bool true)), []))))) else none)))))) := by kernel_rfl
theorem v_s_ReqOk_14 (s a b d : Int) (t : List Int) (h : fitB t = true) (K : Ret → Option Ret) : evF E_s_ReqOk true F.s_ReqOk [.a (reqR.cells .no (14, s, a, b, d, t))] K = K (bl (reqOkD (14, s, a, b, d, t)), []) := by
  refine (e_s_ReqOk_14 s a b d t K).trans ?_
  unfold reqOkD
  simp only [bne, h]
  by_cases h3 : s < 1
  · rw [decide_eq_true h3, decide_eq_false (show ¬ 1 ≤ s by omega)]; rfl
  by_cases h4 : s > 8
  · rw [decide_eq_false h3, decide_eq_true h4, decide_eq_true (show 1 ≤ s by omega), decide_eq_false (show ¬ s ≤ 8 by omega)]; rfl
  rw [decide_eq_false h3, decide_eq_false h4, decide_eq_true (show 1 ≤ s by omega), decide_eq_true (show s ≤ 8 by omega)]
  by_cases h5 : ((t.length : Nat) : Int) > 100
  · rw [decide_eq_true h5, decide_eq_false (show ¬ ((t.length : Nat) : Int) ≤ 100 by omega)]
    cases isWordD a <;> cases isWordD b <;> cases isWordD d <;> cases textOk t <;> rfl
  rw [decide_eq_false h5, decide_eq_true (show ((t.length : Nat) : Int) ≤ 100 by omega)]
  unfold reqKindD
  generalize decide (((t.length : Nat) : Int) > 0) = n
  generalize (a == 0) = x
  generalize (b == 0) = y
  generalize (d == 0) = z
  generalize textOk t = p
  cases isWordD a <;> cases isWordD b <;> cases isWordD d <;> cases p <;> first | rfl | (cases x <;> cases y <;> cases z <;> cases n <;> rfl)
theorem e_s_ReqOk_15 (s a b d : Int) (t : List Int) (K : Ret → Option Ret) : evF E_s_ReqOk true F.s_ReqOk [.a (reqR.cells .no (15, s, a, b, d, t))] K =
  (bif (decide (s < 1)) then K ((.s (.bool false)), []) else (bif (decide (s > 8)) then K ((.s (.bool false)), []) else (bif (!(isWordD a)) then K ((.s (.bool false)), []) else (bif (!(isWordD b)) then K ((.s (.bool false)), []) else (bif (!(isWordD d)) then K ((.s (.bool false)), []) else (bif fitB t then (bif (!(textOk t)) then K ((.s (.bool false)), []) else (bif (decide (((List.length t : Nat) : Int) > 100)) then K ((.s (.bool false)), []) else (bif (a != (0 : Int)) then K ((.s (.bool false)), []) else (bif (b != (0 : Int)) then K ((.s (.bool false)), []) else (bif (d != (0 : Int)) then K ((.s (.bool false)), []) else (bif (decide (((List.length t : Nat) : Int) > 0)) then K ((.s (.bool false)), []) else K ((.s (.bool true)), []))))))) else none)))))) := by kernel_rfl
theorem v_s_ReqOk_15 (s a b d : Int) (t : List Int) (h : fitB t = true) (K : Ret → Option Ret) : evF E_s_ReqOk true F.s_ReqOk [.a (reqR.cells .no (15, s, a, b, d, t))] K = K (bl (reqOkD (15, s, a, b, d, t)), []) := by
  refine (e_s_ReqOk_15 s a b d t K).trans ?_
  unfold reqOkD
  simp only [bne, h]
  by_cases h3 : s < 1
  · rw [decide_eq_true h3, decide_eq_false (show ¬ 1 ≤ s by omega)]; rfl
  by_cases h4 : s > 8
  · rw [decide_eq_false h3, decide_eq_true h4, decide_eq_true (show 1 ≤ s by omega), decide_eq_false (show ¬ s ≤ 8 by omega)]; rfl
  rw [decide_eq_false h3, decide_eq_false h4, decide_eq_true (show 1 ≤ s by omega), decide_eq_true (show s ≤ 8 by omega)]
  by_cases h5 : ((t.length : Nat) : Int) > 100
  · rw [decide_eq_true h5, decide_eq_false (show ¬ ((t.length : Nat) : Int) ≤ 100 by omega)]
    cases isWordD a <;> cases isWordD b <;> cases isWordD d <;> cases textOk t <;> rfl
  rw [decide_eq_false h5, decide_eq_true (show ((t.length : Nat) : Int) ≤ 100 by omega)]
  unfold reqKindD
  generalize decide (((t.length : Nat) : Int) > 0) = n
  generalize (a == 0) = x
  generalize (b == 0) = y
  generalize (d == 0) = z
  generalize textOk t = p
  cases isWordD a <;> cases isWordD b <;> cases isWordD d <;> cases p <;> first | rfl | (cases x <;> cases y <;> cases z <;> cases n <;> rfl)
theorem e_s_ReqOk_16 (s a b d : Int) (t : List Int) (K : Ret → Option Ret) : evF E_s_ReqOk true F.s_ReqOk [.a (reqR.cells .no (16, s, a, b, d, t))] K =
  (bif (decide (s < 1)) then K ((.s (.bool false)), []) else (bif (decide (s > 8)) then K ((.s (.bool false)), []) else (bif (!(isWordD a)) then K ((.s (.bool false)), []) else (bif (!(isWordD b)) then K ((.s (.bool false)), []) else (bif (!(isWordD d)) then K ((.s (.bool false)), []) else (bif fitB t then (bif (!(textOk t)) then K ((.s (.bool false)), []) else (bif (decide (((List.length t : Nat) : Int) > 100)) then K ((.s (.bool false)), []) else (bif (a != (0 : Int)) then K ((.s (.bool false)), []) else (bif (b != (0 : Int)) then K ((.s (.bool false)), []) else (bif (d != (0 : Int)) then K ((.s (.bool false)), []) else (bif (decide (((List.length t : Nat) : Int) > 0)) then K ((.s (.bool false)), []) else K ((.s (.bool true)), []))))))) else none)))))) := by kernel_rfl
theorem v_s_ReqOk_16 (s a b d : Int) (t : List Int) (h : fitB t = true) (K : Ret → Option Ret) : evF E_s_ReqOk true F.s_ReqOk [.a (reqR.cells .no (16, s, a, b, d, t))] K = K (bl (reqOkD (16, s, a, b, d, t)), []) := by
  refine (e_s_ReqOk_16 s a b d t K).trans ?_
  unfold reqOkD
  simp only [bne, h]
  by_cases h3 : s < 1
  · rw [decide_eq_true h3, decide_eq_false (show ¬ 1 ≤ s by omega)]; rfl
  by_cases h4 : s > 8
  · rw [decide_eq_false h3, decide_eq_true h4, decide_eq_true (show 1 ≤ s by omega), decide_eq_false (show ¬ s ≤ 8 by omega)]; rfl
  rw [decide_eq_false h3, decide_eq_false h4, decide_eq_true (show 1 ≤ s by omega), decide_eq_true (show s ≤ 8 by omega)]
  by_cases h5 : ((t.length : Nat) : Int) > 100
  · rw [decide_eq_true h5, decide_eq_false (show ¬ ((t.length : Nat) : Int) ≤ 100 by omega)]
    cases isWordD a <;> cases isWordD b <;> cases isWordD d <;> cases textOk t <;> rfl
  rw [decide_eq_false h5, decide_eq_true (show ((t.length : Nat) : Int) ≤ 100 by omega)]
  unfold reqKindD
  generalize decide (((t.length : Nat) : Int) > 0) = n
  generalize (a == 0) = x
  generalize (b == 0) = y
  generalize (d == 0) = z
  generalize textOk t = p
  cases isWordD a <;> cases isWordD b <;> cases isWordD d <;> cases p <;> first | rfl | (cases x <;> cases y <;> cases z <;> cases n <;> rfl)
theorem v_s_ReqOk (r : T_Req) (h : fitB r.2.2.2.2.2 = true) (K : Ret → Option Ret) : ∃ G', OkFn prog I N.s_ReqOk true G' ∧ G' [.a (reqR.cells .no r)] K = K (bl (reqOkD r), []) := by
  obtain ⟨k, s, a, b, d, t⟩ := r
  by_cases h1 : k < 1
  · refine ⟨_, ok1_s_ReqOk, (e1_s_ReqOk (k, s, a, b, d, t) K).trans ?_⟩
    unfold reqOkD
    rw [decide_eq_true h1, decide_eq_false (show ¬ 1 ≤ k by omega)]; rfl
  by_cases h2 : k > 16
  · refine ⟨_, ok1_s_ReqOk, (e1_s_ReqOk (k, s, a, b, d, t) K).trans ?_⟩
    unfold reqOkD
    rw [decide_eq_false h1, decide_eq_true h2, decide_eq_true (show 1 ≤ k by omega), decide_eq_false (show ¬ k ≤ 16 by omega)]; rfl
  refine ⟨_, ok0_s_ReqOk, ?_⟩
  rcases kinds (k := k) (by omega) (by omega) with rfl | rfl | rfl | rfl | rfl | rfl | rfl | rfl | rfl | rfl | rfl | rfl | rfl | rfl | rfl | rfl
  · exact v_s_ReqOk_1 s a b d t h K
  · exact v_s_ReqOk_2 s a b d t h K
  · exact v_s_ReqOk_3 s a b d t h K
  · exact v_s_ReqOk_4 s a b d t h K
  · exact v_s_ReqOk_5 s a b d t h K
  · exact v_s_ReqOk_6 s a b d t h K
  · exact v_s_ReqOk_7 s a b d t h K
  · exact v_s_ReqOk_8 s a b d t h K
  · exact v_s_ReqOk_9 s a b d t h K
  · exact v_s_ReqOk_10 s a b d t h K
  · exact v_s_ReqOk_11 s a b d t h K
  · exact v_s_ReqOk_12 s a b d t h K
  · exact v_s_ReqOk_13 s a b d t h K
  · exact v_s_ReqOk_14 s a b d t h K
  · exact v_s_ReqOk_15 s a b d t h K
  · exact v_s_ReqOk_16 s a b d t h K
def S_s_ReqOk : Sm := S_fn [.a reqR] (fun d => fitB d.1.2.2.2.2.2) (fun d => bl (reqOkD d.1))
theorem okS_s_ReqOk : OkFn prog I N.s_ReqOk true S_s_ReqOk := OkFn.weak (fun ws K q hr => by
  unfold S_s_ReqOk S_fn at hr
  split at hr
  · rename_i dd hd
    have hw := sgD_ok _ hd
    replace hr : (bif fitB dd.1.2.2.2.2.2 then K (bl (reqOkD dd.1), []) else none) = some q := hr
    cases hp : fitB dd.1.2.2.2.2.2 with
    | false => rw [hp] at hr; cases hr
    | true =>
    rw [hp] at hr
    obtain ⟨G', g1, g2⟩ := v_s_ReqOk dd.1 hp K
    exact ⟨G', g1, by rw [hw]; exact g2.trans hr⟩
  · cases hr) ok0_s_ReqOk.1
end Go.Ev.Seat
end
section
/- s_l09Two: its contract. -/
namespace Go.Ev.Seat
open Go.RowKit
set_option maxRecDepth 100000
set_option linter.unusedVariables false
set_option linter.unusedSimpArgs false
noncomputable abbrev E_s_l09Two : Env := En [] [] [] [] false 0 []
noncomputable def T_s_l09Two (n : Int) (K : Ret → Option Ret) : Option Ret := K ((.l .deep bytesR ((IntKind.wrap .u8 (IntKind.wrap .i64 (Int.tdiv n (256 : Int)))) :: ((IntKind.wrap .u8 (Int.tmod n (256 : Int))) :: ([] : List Int)))), [])
theorem e_s_l09Two (n : Int) (K : Ret → Option Ret) : evF E_s_l09Two true F.s_l09Two [.s (.int .i64 n)] K = T_s_l09Two n K := by kernel_rfl
def S_s_l09Two : Sm := S_fnR [.i] (fun d => isWordD d.1) (fun d => (.l .deep bytesR (wordD d.1), []))
theorem v_s_l09Two (n : Int) (h : (isWordD n) = true) (K : Ret → Option Ret) : T_s_l09Two n K = K (.l .deep bytesR (wordD n), []) := by
  have h' := isWordD_iff.1 h
  unfold T_s_l09Two wordD
  rw [Int.tdiv_eq_ediv_of_nonneg (by omega), Int.tmod_eq_emod_of_nonneg (by omega), wrap_in (by omega) (by omega), wrap8 (by omega) (by omega), wrap8 (by omega) (by omega)]
theorem okS_s_l09Two : OkFn prog I N.s_l09Two true S_s_l09Two := okN (ok_fn mem0 (l := []) (p := []) (ls := []) (lend := []) (focus := false) (fuel := 0) (give := []) (fn := F.s_l09Two) (by kernel_rfl) (by kernel_rfl) (by kernel_rfl) (by kernel_rfl) (cs := []) (by kernel_rfl) loops0) (S_fnR_of fun d K h => (e_s_l09Two d.1 K).trans (v_s_l09Two d.1 h K))
end Go.Ev.Seat
end
section
/- s_ReqBytes: its contract. -/
namespace Go.Ev.Seat
open Go.RowKit
set_option maxRecDepth 100000
set_option linter.unusedVariables false
set_option linter.unusedSimpArgs false
noncomputable abbrev pl_s_ReqBytes : List (Nat × Plan × List Nat) := [(3, takeB [0, 1, 2, 3, 4, 5, 7, 8] (.fork (.more 6 (.fork (.one 9 (.fork (.one 10 (takes [11]))))) (.one 9 (.fork (.one 6 (.fork (.one 10 (takes [11])))))))), []), (4, takeB [0, 1, 2, 5, 6] (.fork (.one 3 (.fork (.one 4 (.fork (.one 7 (.fork (.one 8 (takes [9]))))))))), [3]), (5, takeB [0, 1, 2, 3, 4, 7, 8] (.fork (.one 5 (.fork (.one 6 (.fork (.one 9 (takes [10]))))))), [3])]
noncomputable abbrev ls_s_ReqBytes : List (Nat × Bool × Sm) := [(N.s_ReqOk, true, S_s_ReqOk), (N.s_l09Two, true, S_s_l09Two)]
noncomputable abbrev E_s_ReqBytes : Env := En ls_s_ReqBytes pl_s_ReqBytes [] [] false 0 []
noncomputable def T_s_ReqBytes (r : T_Req) (K : Ret → Option Ret) : Option Ret := (bif (fitB r.2.2.2.2.2) then (bif (!(reqOkD r)) then K ((.l .deep bytesR ([] : List Int)), []) else (meet ((bif (isWordD r.2.2.1) then (bif (isWordD r.2.2.2.1) then (bif (isWordD r.2.2.2.2.1) then (bif (Nat.ble (((List.length ((((((IntKind.wrap .u8 r.1) :: ((IntKind.wrap .u8 r.2.1) :: ([] : List Int))) ++ (wordD r.2.2.1)) ++ (wordD r.2.2.2.1)) ++ (wordD r.2.2.2.2.1)) ++ ((IntKind.wrap .u8 (((List.length r.2.2.2.2.2) : Nat) : Int)) :: ([] : List Int)))) + (List.length r.2.2.2.2.2)) * 1) 140737488355328) then K ((.l .deep bytesR (((((((IntKind.wrap .u8 r.1) :: ((IntKind.wrap .u8 r.2.1) :: ([] : List Int))) ++ (wordD r.2.2.1)) ++ (wordD r.2.2.2.1)) ++ (wordD r.2.2.2.2.1)) ++ ((IntKind.wrap .u8 (((List.length r.2.2.2.2.2) : Nat) : Int)) :: ([] : List Int))) ++ r.2.2.2.2.2)), []) else none) else none) else none) else none)) ((bif (isWordD r.2.2.1) then (bif (isWordD r.2.2.2.1) then (bif (isWordD r.2.2.2.2.1) then (bif (Nat.ble (((List.length ((((((IntKind.wrap .u8 r.1) :: ((IntKind.wrap .u8 r.2.1) :: ([] : List Int))) ++ (wordD r.2.2.1)) ++ (wordD r.2.2.2.1)) ++ (wordD r.2.2.2.2.1)) ++ ((IntKind.wrap .u8 (((List.length r.2.2.2.2.2) : Nat) : Int)) :: ([] : List Int)))) + (List.length r.2.2.2.2.2)) * 1) 140737488355328) then K ((.l .deep bytesR (((((((IntKind.wrap .u8 r.1) :: ((IntKind.wrap .u8 r.2.1) :: ([] : List Int))) ++ (wordD r.2.2.1)) ++ (wordD r.2.2.2.1)) ++ (wordD r.2.2.2.2.1)) ++ ((IntKind.wrap .u8 (((List.length r.2.2.2.2.2) : Nat) : Int)) :: ([] : List Int))) ++ r.2.2.2.2.2)), []) else none) else none) else none) else none)))) else none)
theorem e_s_ReqBytes (r : T_Req) (K : Ret → Option Ret) : evF E_s_ReqBytes true F.s_ReqBytes [.a (reqR.cells .no r)] K = T_s_ReqBytes r K := by kernel_rfl
def S_s_ReqBytes : Sm := S_fnR [.a reqR] (fun d => fitB d.1.2.2.2.2.2) (fun d => (.l .deep bytesR (reqBytesD d.1), []))
theorem v_s_ReqBytes (r : T_Req) (h : (fitB r.2.2.2.2.2) = true) (K : Ret → Option Ret) : T_s_ReqBytes r K = K (.l .deep bytesR (reqBytesD r), []) := by
  unfold T_s_ReqBytes reqBytesD
  rw [h]
  cases hk : reqOkD r with
  | false => rfl
  | true =>
  obtain ⟨a0, a1, s0, s1, l1, q1, q2, q3⟩ := reqOkD_q hk
  rw [q1, q2, q3, wrap8_mod, wrap8_mod, wrap8_mod, Int.emod_eq_of_lt a0 a1, Int.emod_eq_of_lt s0 s1, Int.emod_eq_of_lt (b := 256) (a := ((r.2.2.2.2.2.length : Nat) : Int)) (by omega) (by omega)]
  simp only [cond_true, meet_self]
  rw [Nat.ble_eq_true_of_le (by simp [wordD]; omega)]
  rfl
theorem okS_s_ReqBytes : OkFn prog I N.s_ReqBytes true S_s_ReqBytes := okN (ok_fn (memc okS_s_ReqOk (memc okS_s_l09Two mem0)) (l := ls_s_ReqBytes) (p := pl_s_ReqBytes) (ls := []) (lend := []) (focus := false) (fuel := 0) (give := []) (fn := F.s_ReqBytes) (by kernel_rfl) (by kernel_rfl) (by kernel_rfl) (by kernel_rfl) (cs := []) (by kernel_rfl) loops0) (S_fnR_of fun d K h => (e_s_ReqBytes d.1 K).trans (v_s_ReqBytes d.1 h K))
end Go.Ev.Seat
end
section
/- s_l01Cur_pieces: its contract. -/
namespace Go.Ev.Seat
open Go.RowKit
set_option maxRecDepth 100000
set_option linter.unusedVariables false
set_option linter.unusedSimpArgs false
def z_s_l01Cur_pieces_3_0 (o0 : List T_Piece) (b10 : List Int) (b11 : Int) (b12 : Int) : St := { tm := ([.x, .x, .x, (.w 0)] ++ List.replicate 16 .x), ob := [(0, (.arr true true pieceR o0)), (1, (.box [(.l .no bytesR b10), (.s (.int .i64 b11)), (.s (.int .i64 b12))]))], nx := 2, io := [(.pb 1 0)] }
def sh_s_l01Cur_pieces_3_0 : Ss := { tm := (.cons (.pb 0 0) (.cons (.x) (.cons (.x) (.cons (.w 1) (.cons (.int .i64) (xsh 15)))))), ob := (.box (.cons (.l .no bytesR) (.cons (.int .i64) (.cons (.int .i64) .nil))) (.arr true true pieceR .nil)), nx := 2, io := (.cons (.pb 0 0) .nil) }
def d_s_l01Cur_pieces_3_0 (x4 : Int) (b00 : List Int) (b01 : Int) (b02 : Int) (o1 : List T_Piece) : sh_s_l01Cur_pieces_3_0.T := (((), ((), ((), ((), (x4, xd 15))))), ((b00, (b01, (b02, ()))), (o1, ())), ((), ()))
def s_s_l01Cur_pieces_3_0 (x4 : Int) (b00 : List Int) (b01 : Int) (b02 : Int) (o1 : List T_Piece) : St := { tm := ([(.pb 0 0), .x, .x, (.w 1), (.s (.int .i64 x4))] ++ List.replicate 15 .x), ob := [(0, (.box [(.l .no bytesR b00), (.s (.int .i64 b01)), (.s (.int .i64 b02))])), (1, (.arr true true pieceR o1))], nx := 2, io := [(.pb 0 0)] }
theorem se_s_l01Cur_pieces_3_0 (x4 : Int) (b00 : List Int) (b01 : Int) (b02 : Int) (o1 : List T_Piece) : sh_s_l01Cur_pieces_3_0.mk' (d_s_l01Cur_pieces_3_0 x4 b00 b01 b02 o1) = (s_s_l01Cur_pieces_3_0 x4 b00 b01 b02 o1) := by kernel_rfl
def w_s_l01Cur_pieces_3_0 (d : sh_s_l01Cur_pieces_3_0.T) (f : Int → (List Int) → Int → Int → (List T_Piece) → Option Ret) : Option Ret := match d with | ((_, (_, (_, (_, (x4, _))))), ((b00, (b01, (b02, _))), (o1, _)), (_, _)) => f x4 b00 b01 b02 o1
noncomputable def P_s_l01Cur_pieces_3_0 (x4 : Int) (b00 : List Int) (b01 : Int) (b02 : Int) (o1 : List T_Piece) (nx0 : Int → (List Int) → Int → Int → (List T_Piece) → Option Ret) (k0 : (List T_Piece) → (List Int) → Int → Int → Option Ret) : Option Ret := (bif (decide (x4 > (0 : Int))) then (B_s_l01Cur_req b00 b01 b02 (fun y0 y1 y2 y3 y4 y5 y6 y7 => (bif (fitB y5) then (bif (Nat.ble (((List.length o1) + (List.length ((reqBytesD (y0, (y1, (y2, (y3, (y4, y5)))))) :: []))) * 24) 140737488355328) then (nx0 (IntKind.wrap .i64 (x4 - (1 : Int))) b00 y6 y7 (o1 ++ ((reqBytesD (y0, (y1, (y2, (y3, (y4, y5)))))) :: []))) else none) else none))) else (k0 o1 b00 b01 b02))
noncomputable def Q_s_l01Cur_pieces_3_0 : Nat → Int → (List Int) → Int → Int → (List T_Piece) → ((List T_Piece) → (List Int) → Int → Int → Option Ret) → Option Ret
  | 0, _, _, _, _, _, _ => none
  | m + 1, x4, b00, b01, b02, o1, k0 => P_s_l01Cur_pieces_3_0 x4 b00 b01 b02 o1 (fun x4 b00 b01 b02 o1 => (Q_s_l01Cur_pieces_3_0 m x4 b00 b01 b02 o1 k0)) k0
noncomputable def R_s_l01Cur_pieces_3_0 (x4 : Int) (b00 : List Int) (b01 : Int) (b02 : Int) (o1 : List T_Piece) (k0 : (List T_Piece) → (List Int) → Int → Int → Option Ret) : Option Ret := Q_s_l01Cur_pieces_3_0 (x4.toNat + List.length b00 + b01.toNat + b02.toNat + List.length o1 + 2) x4 b00 b01 b02 o1 k0
noncomputable def W_s_l01Cur_pieces_3 : LoopFn := (fun (σ : St) (K : Ex → St → Option Ret) => (match sh_s_l01Cur_pieces_3_0.un σ with | some d => w_s_l01Cur_pieces_3_0 d (fun x4 b00 b01 b02 o1 => R_s_l01Cur_pieces_3_0 x4 b00 b01 b02 o1 (fun o0 b10 b11 b12 => (K (.ext 0) (z_s_l01Cur_pieces_3_0 o0 b10 b11 b12)))) | none => none))
noncomputable abbrev ls_s_l01Cur_pieces : List (Nat × Bool × Sm) := [(N.s_l01Cur_pick, false, (SB_s_l01Cur_pick B_s_l01Cur_pick)), (N.s_l01Cur_req, false, (SB_s_l01Cur_req B_s_l01Cur_req)), (N.s_ReqBytes, true, S_s_ReqBytes)]
noncomputable abbrev E_s_l01Cur_pieces : Env := En ls_s_l01Cur_pieces [] [(3, [0,3,4], [2,3], W_s_l01Cur_pieces_3)] [] false 0 []
noncomputable abbrev U_s_l01Cur_pieces_3 := rounds (run E_s_l01Cur_pieces (bodyOf F.s_l01Cur_pieces 3)) [0,3,4] [2,3]
theorem st_s_l01Cur_pieces_3_0 (m : Nat) (x4 : Int) (b00 : List Int) (b01 : Int) (b02 : Int) (o1 : List T_Piece) (K : Ex → St → Option Ret) : U_s_l01Cur_pieces_3 (m + 1) (s_s_l01Cur_pieces_3_0 x4 b00 b01 b02 o1) K = P_s_l01Cur_pieces_3_0 x4 b00 b01 b02 o1 (fun x4 b00 b01 b02 o1 => (U_s_l01Cur_pieces_3 m (s_s_l01Cur_pieces_3_0 x4 b00 b01 b02 o1) K)) (fun o0 b10 b11 b12 => (K (.ext 0) (z_s_l01Cur_pieces_3_0 o0 b10 b11 b12))) := by kernel_rfl
theorem q_s_l01Cur_pieces_3 (K : Ex → St → Option Ret) : ∀ m : Nat, (∀ (x4 : Int) (b00 : List Int) (b01 : Int) (b02 : Int) (o1 : List T_Piece), U_s_l01Cur_pieces_3 m (s_s_l01Cur_pieces_3_0 x4 b00 b01 b02 o1) K = Q_s_l01Cur_pieces_3_0 m x4 b00 b01 b02 o1 (fun o0 b10 b11 b12 => (K (.ext 0) (z_s_l01Cur_pieces_3_0 o0 b10 b11 b12))))
  | 0 => (fun _ _ _ _ _ => rfl)
  | m + 1 => (fun x4 b00 b01 b02 o1 => (by rw [st_s_l01Cur_pieces_3_0, show (fun x4 b00 b01 b02 o1 => (U_s_l01Cur_pieces_3 m (s_s_l01Cur_pieces_3_0 x4 b00 b01 b02 o1) K)) = (fun x4 b00 b01 b02 o1 => (Q_s_l01Cur_pieces_3_0 m x4 b00 b01 b02 o1 (fun o0 b10 b11 b12 => (K (.ext 0) (z_s_l01Cur_pieces_3_0 o0 b10 b11 b12))))) from funext fun x4 => funext fun b00 => funext fun b01 => funext fun b02 => funext fun o1 => (q_s_l01Cur_pieces_3 K m) x4 b00 b01 b02 o1]; rfl))
theorem loopK_s_l01Cur_pieces_3 : LoopOk E_s_l01Cur_pieces (bodyOf F.s_l01Cur_pieces 3) := by
  refine loopW_ok (n := 3) (F := W_s_l01Cur_pieces_3) (by kernel_rfl) rfl (li := [0,3,4]) (lo := [2,3]) rfl (fun σ K r hr => ?_)
  unfold W_s_l01Cur_pieces_3 at hr
  split at hr
  · rename_i d hd
    rw [Ss.un_mk hd]
    exact ⟨_, ((congrArg (fun z => U_s_l01Cur_pieces_3 _ z K) (se_s_l01Cur_pieces_3_0 _ _ _ _ _)).trans ((q_s_l01Cur_pieces_3 K _) _ _ _ _ _)).trans hr⟩
  · cases hr
noncomputable def T_s_l01Cur_pieces (cc : List Int) (ca : Int) (cs : Int) (K : Ret → Option Ret) : Option Ret := (B_s_l01Cur_pick cc ca cs (6 : Int) (fun y8 y9 y10 => (R_s_l01Cur_pieces_3_0 y8 cc y9 y10 [] (fun y11 y12 y13 y14 => K ((.l .deep pieceR y11), [(.io [(.l .no bytesR y12), (.s (.int .i64 y13)), (.s (.int .i64 y14))])])))))
theorem e_s_l01Cur_pieces (cc : List Int) (ca : Int) (cs : Int) (K : Ret → Option Ret) : evF E_s_l01Cur_pieces false F.s_l01Cur_pieces [.io [.l .no bytesR cc, .s (.int .i64 ca), .s (.int .i64 cs)]] K = T_s_l01Cur_pieces cc ca cs K := by kernel_rfl
theorem pieces_loop {P : Ret → Prop} {cc : List Int} (hf : fitB cc = true) {F : List T_Piece → List Int → Int → Int → (Ret → Option Ret) → Option Ret} : ∀ (m k : Nat) (ca cs : Int) (o : List T_Piece), k < m → 0 ≤ ca → ca + 30 * k ≤ 900000000000000000 → 0 ≤ cs → cs < 65536 → (∀ d ∈ o, fitB d = true) → o.length + k ≤ 100000 →
    (∀ (a s : Int) (o' : List T_Piece), 0 ≤ a → a ≤ ca + 30 * k → 0 ≤ s → s < 65536 → (∀ d ∈ o', fitB d = true) → o'.length ≤ o.length + k → Dr P (F o' cc a s)) → Dr P (fun K => Q_s_l01Cur_pieces_3_0 m (k : Int) cc ca cs o (fun a b c d => F a b c d K))
  | 0, k, ca, cs, o, h, _, _, _, _, _, _, _ => absurd h (by omega)
  | m + 1, k, ca, cs, o, h, h0, h1, h2, h3, hb, hl, hF => by
    show Dr P (fun K => P_s_l01Cur_pieces_3_0 (k : Int) cc ca cs o _ _)
    unfold P_s_l01Cur_pieces_3_0
    cases k with
    | zero =>
      refine Dr.bif (fun hc => ?_) (fun _ => hF ca cs o h0 (by omega) h2 h3 hb (by omega))
      simp at hc
    | succ k =>
      refine Dr.must (decide_eq_true (by omega)) ?_
      refine Dr.b8 (b_s_l01Cur_req _ _ _ (curB_iff.2 ⟨hf, by omega, by omega, by omega, by omega⟩)) (fun y0 y1 y2 y3 y4 t a s hy => ?_)
      obtain ⟨⟨hy1, hy2⟩, hy3, hy4, hy5, hy6⟩ := hy
      refine Dr.must hy1 (Dr.must (Nat.ble_eq_true_of_le (by simp only [List.length_cons, List.length_nil]; omega)) ?_)
      rw [show IntKind.wrap .i64 (((k + 1 : Nat) : Int) - 1) = (k : Int) by rw [wrap_in (by omega) (by omega)]; omega]
      have hr : fitB (reqBytesD (y0, (y1, (y2, (y3, (y4, t)))))) = true := by
        refine fitB_of (Nat.le_trans (reqBytesD_len _) (by omega)) (fun x hx => ?_)
        unfold reqBytesD at hx
        cases hok : reqOkD (y0, (y1, (y2, (y3, (y4, t))))) with
        | false => rw [hok] at hx; cases hx
        | true => rw [hok] at hx; exact fitB_reqBytesL (r := (y0, (y1, (y2, (y3, (y4, t)))))) hy1 hok x hx
      refine pieces_loop hf m k a s (o ++ [reqBytesD (y0, (y1, (y2, (y3, (y4, t)))))]) (by omega) (by omega) (by omega) (by omega) (by omega) (fun d hd => (List.mem_append.1 hd).elim (hb d) (fun hd => by rw [List.mem_singleton.1 hd]; exact hr)) (by rw [List.length_append]; simp only [List.length_cons, List.length_nil]; omega) (fun a' s' o' q1 q2 q3 q4 q5 q6 => hF a' s' o' q1 (by omega) q3 q4 q5 ?_)
      rw [List.length_append] at q6
      simp only [List.length_cons, List.length_nil] at q6
      omega
theorem x_s_l01Cur_pieces (cc : List Int) (ca : Int) (cs : Int) (h : (curB 500000000000000000 cc ca cs) = true) : ∃ (y : List T_Piece) (a : Int) (s : Int), (((∀ d ∈ y, fitB d = true) ∧ y.length ≤ 5) ∧ 0 ≤ a ∧ a ≤ ca + 200 ∧ 0 ≤ s ∧ s < 65536) ∧ ∀ K : Ret → Option Ret, T_s_l01Cur_pieces cc ca cs K = K (.l .deep pieceR y, [.io [.l .no bytesR cc, .s (.int .i64 a), .s (.int .i64 s)]]) := by
  suffices hd : Dr (fun r : Ret => ∃ (y : List T_Piece) (a : Int) (s : Int), (((∀ d ∈ y, fitB d = true) ∧ y.length ≤ 5) ∧ 0 ≤ a ∧ a ≤ ca + 200 ∧ 0 ≤ s ∧ s < 65536) ∧ r = (.l .deep pieceR y, [.io [.l .no bytesR cc, .s (.int .i64 a), .s (.int .i64 s)]])) (fun K : Ret → Option Ret => T_s_l01Cur_pieces cc ca cs K) by
    obtain ⟨_, ⟨y, a, s, hp, rfl⟩, hk⟩ := hd
    exact ⟨y, a, s, hp, hk⟩
  obtain ⟨hf, h2, h3, h4, h5⟩ := curB_iff.1 h
  have hl := fitB_len hf
  unfold T_s_l01Cur_pieces
  refine Dr.b3 (b_s_l01Cur_pick _ _ _ _ (curB_iff.2 ⟨hf, by omega, by omega, by omega, by omega⟩)) (fun y0 a0 s0 hy => ?_)
  obtain ⟨k, rfl⟩ : ∃ k : Nat, y0 = k := ⟨y0.toNat, by omega⟩
  unfold R_s_l01Cur_pieces_3_0
  refine pieces_loop hf (F := fun y6 y7 y8 y9 K => K ((.l .deep pieceR y6), [(.io [(.l .no bytesR y7), (.s (.int .i64 y8)), (.s (.int .i64 y9))])])) _ k a0 s0 [] (by omega) (by omega) (by omega) (by omega) (by omega) (fun _ h => nomatch h) (by rw [List.length_nil]; omega) (fun a s o q1 q2 q3 q4 q5 q6 => ?_)
  simp only [List.length_nil] at q6
  exact Dr.leaf ⟨_, _, _, ⟨⟨q5, by omega⟩, by omega, by omega, by omega, by omega⟩, rfl⟩
noncomputable def g_s_l01Cur_pieces (cc : List Int) (ca : Int) (cs : Int) : List T_Piece × Int × Int := Classical.epsilon fun g => (((∀ d ∈ (g).1, fitB d = true) ∧ (g).1.length ≤ 5) ∧ 0 ≤ (g).2.1 ∧ (g).2.1 ≤ ca + 200 ∧ 0 ≤ (g).2.2 ∧ (g).2.2 < 65536) ∧ ∀ K : Ret → Option Ret, T_s_l01Cur_pieces cc ca cs K = K (.l .deep pieceR (g).1, [.io [.l .no bytesR cc, .s (.int .i64 (g).2.1), .s (.int .i64 (g).2.2)]])
theorem gs_s_l01Cur_pieces (cc : List Int) (ca : Int) (cs : Int) (h : (curB 500000000000000000 cc ca cs) = true) : (((∀ d ∈ (g_s_l01Cur_pieces cc ca cs).1, fitB d = true) ∧ (g_s_l01Cur_pieces cc ca cs).1.length ≤ 5) ∧ 0 ≤ (g_s_l01Cur_pieces cc ca cs).2.1 ∧ (g_s_l01Cur_pieces cc ca cs).2.1 ≤ ca + 200 ∧ 0 ≤ (g_s_l01Cur_pieces cc ca cs).2.2 ∧ (g_s_l01Cur_pieces cc ca cs).2.2 < 65536) ∧ ∀ K : Ret → Option Ret, T_s_l01Cur_pieces cc ca cs K = K (.l .deep pieceR (g_s_l01Cur_pieces cc ca cs).1, [.io [.l .no bytesR cc, .s (.int .i64 (g_s_l01Cur_pieces cc ca cs).2.1), .s (.int .i64 (g_s_l01Cur_pieces cc ca cs).2.2)]]) := by
  obtain ⟨y, a, s, hy, hk⟩ := x_s_l01Cur_pieces cc ca cs h
  exact Classical.epsilon_spec (p := fun g : List T_Piece × Int × Int => (((∀ d ∈ (g).1, fitB d = true) ∧ (g).1.length ≤ 5) ∧ 0 ≤ (g).2.1 ∧ (g).2.1 ≤ ca + 200 ∧ 0 ≤ (g).2.2 ∧ (g).2.2 < 65536) ∧ ∀ K : Ret → Option Ret, T_s_l01Cur_pieces cc ca cs K = K (.l .deep pieceR (g).1, [.io [.l .no bytesR cc, .s (.int .i64 (g).2.1), .s (.int .i64 (g).2.2)]])) ⟨⟨y, a, s⟩, hy, hk⟩
noncomputable def B_s_l01Cur_pieces (cc : List Int) (ca : Int) (cs : Int) (k : (List T_Piece) → (Int) → (Int) → Option Ret) : Option Ret := bif curB 500000000000000000 cc ca cs then k (g_s_l01Cur_pieces cc ca cs).1 (g_s_l01Cur_pieces cc ca cs).2.1 (g_s_l01Cur_pieces cc ca cs).2.2 else none
theorem b_s_l01Cur_pieces (cc : List Int) (ca : Int) (cs : Int) (h : (curB 500000000000000000 cc ca cs) = true) : ∃ (y : List T_Piece) (a : Int) (s : Int), (((∀ d ∈ y, fitB d = true) ∧ y.length ≤ 5) ∧ 0 ≤ a ∧ a ≤ ca + 200 ∧ 0 ≤ s ∧ s < 65536) ∧ ∀ k, B_s_l01Cur_pieces cc ca cs k = k y a s :=
  ⟨(g_s_l01Cur_pieces cc ca cs).1, (g_s_l01Cur_pieces cc ca cs).2.1, (g_s_l01Cur_pieces cc ca cs).2.2, (gs_s_l01Cur_pieces cc ca cs h).1, fun k => by unfold B_s_l01Cur_pieces; rw [h]; rfl⟩
def SB_s_l01Cur_pieces (B : (List Int) → (Int) → (Int) → ((List T_Piece) → (Int) → (Int) → Option Ret) → Option Ret) : Sm := S_B [.sh (.io (.cons (.l .no bytesR) (.cons (.int .i64) (.cons (.int .i64) .nil))))] (fun d K => B d.1.1 d.1.2.1 d.1.2.2.1 (fun y a s => K (.l .deep pieceR y, [.io [.l .no bytesR d.1.1, .s (.int .i64 a), .s (.int .i64 s)]])))
theorem okS_s_l01Cur_pieces : OkFn prog I N.s_l01Cur_pieces false (SB_s_l01Cur_pieces B_s_l01Cur_pieces) := okN (ok_fn (memc okS_s_l01Cur_pick (memc okS_s_l01Cur_req (memc okS_s_ReqBytes mem0))) (l := ls_s_l01Cur_pieces) (p := []) (ls := [(3, [0,3,4], [2,3], W_s_l01Cur_pieces_3)]) (lend := []) (focus := false) (fuel := 0) (give := []) (fn := F.s_l01Cur_pieces) (by kernel_rfl) (by kernel_rfl) (by kernel_rfl) (by kernel_rfl) (cs := [bodyOf F.s_l01Cur_pieces 3]) (by kernel_rfl) (loopsc loopK_s_l01Cur_pieces_3 loops0)) (S_B_of fun d K q hq => by
  refine (e_s_l01Cur_pieces d.1.1 d.1.2.1 d.1.2.2.1 K).trans ?_
  unfold B_s_l01Cur_pieces at hq
  cases hp : (curB 500000000000000000 d.1.1 d.1.2.1 d.1.2.2.1) with
  | false => rw [hp] at hq; cases hq
  | true =>
    rw [hp] at hq
    exact ((gs_s_l01Cur_pieces d.1.1 d.1.2.1 d.1.2.2.1 hp).2 K).trans hq)
end Go.Ev.Seat
end
section
/- UTF-8: texts put together and cut. -/
set_option linter.unusedVariables false
namespace Go.Ev
open Go.RowKit
end Go.Ev
end
section
/- Frames of pieces. -/
set_option linter.unusedVariables false
namespace Go.Ev
open Go.RowKit
def frameD (p : List Int) : List Int := wordD ((p.length : Nat) : Int) ++ p
def frameL (l : List (List Int)) : List Int := (l.map frameD).flatten
def framesOkD (l : List (List Int)) : Bool := Nat.ble l.length 100 && l.all (fun p => Nat.ble p.length 1000)
def framesD (l : List (List Int)) : List Int := bif framesOkD l then frameL l else []
theorem frameD_len (p : List Int) : (frameD p).length = p.length + 2 := by
  unfold frameD wordD; rw [List.length_append]; simp; omega
theorem frameL_app (l m : List (List Int)) : frameL (l ++ m) = frameL l ++ frameL m := by
  unfold frameL; rw [List.map_append, List.flatten_append]
theorem frameL_one (p : List Int) : frameL [p] = frameD p := by simp [frameL]
theorem frameL_len : ∀ (l : List (List Int)), (∀ p ∈ l, p.length ≤ 1000) → (frameL l).length ≤ 1002 * l.length
  | [], _ => by simp [frameL]
  | p :: l, h => by
    have a := frameL_len l (fun x hx => h x (List.mem_cons_of_mem _ hx))
    have b := h p List.mem_cons_self
    rw [show p :: l = [p] ++ l from rfl, frameL_app, frameL_one, List.length_append, frameD_len, List.length_append, List.length_singleton]; omega
theorem atD_frame {n : Int} (h0 : 0 ≤ n) (h1 : n ≤ 65535) (q : List Int) : atD (wordD n ++ q) 0 = n := by
  unfold atD wordD
  show 256 * (n / 256) + n % 256 = n
  omega
/-- The pieces in front, at most so many, and how much they take. -/
def cutF : Nat → List Int → List (List Int) × Nat
  | 0, _ => ([], 0)
  | n + 1, d => bif decide (((2 : Nat)) ≤ d.length) && (decide (atD d 0 ≤ 1000) && decide (2 + atD d 0 ≤ ((d.length : Nat) : Int))) then
      ((d.drop 2).take (atD d 0).toNat :: (cutF n (d.drop (2 + (atD d 0).toNat))).1, 2 + (atD d 0).toNat + (cutF n (d.drop (2 + (atD d 0).toNat))).2) else ([], 0)
theorem cutF_succ (n : Nat) (d : List Int) : cutF (n + 1) d = bif decide (2 ≤ d.length) && (decide (atD d 0 ≤ 1000) && decide (2 + atD d 0 ≤ ((d.length : Nat) : Int))) then
      ((d.drop 2).take (atD d 0).toNat :: (cutF n (d.drop (2 + (atD d 0).toNat))).1, 2 + (atD d 0).toNat + (cutF n (d.drop (2 + (atD d 0).toNat))).2) else ([], 0) := rfl
theorem cutF_frame {p : List Int} (hp : p.length ≤ 1000) (n : Nat) (r : List Int) : cutF (n + 1) (frameD p ++ r) = (p :: (cutF n r).1, (frameD p).length + (cutF n r).2) := by
  have e : atD (frameD p ++ r) 0 = ((p.length : Nat) : Int) := by
    unfold frameD
    rw [List.append_assoc]
    exact atD_frame (by omega) (by omega) _
  have hl : (frameD p ++ r).length = p.length + 2 + r.length := by rw [List.length_append, frameD_len]
  have e2 : (frameD p ++ r).drop 2 = p ++ r := rfl
  have e3 : (frameD p ++ r).drop (2 + p.length) = r := by rw [← List.drop_drop, e2]; simp
  rw [cutF_succ]
  rw [e, hl, decide_eq_true (show 2 ≤ p.length + 2 + r.length by omega), decide_eq_true (show ((p.length : Nat) : Int) ≤ 1000 by omega), decide_eq_true (show 2 + ((p.length : Nat) : Int) ≤ ((p.length + 2 + r.length : Nat) : Int) by omega), Int.toNat_natCast, e2, e3, frameD_len, Bool.and_self, Bool.and_self, cond_true, List.take_left, Nat.add_comm 2 p.length]
theorem cutF_all : ∀ (l : List (List Int)) (n : Nat) (r : List Int), (∀ p ∈ l, p.length ≤ 1000) → l.length ≤ n → cutF n (frameL l ++ r) = (l ++ (cutF (n - l.length) r).1, (frameL l).length + (cutF (n - l.length) r).2)
  | [], n, r, _, _ => by simp [frameL]
  | p :: l, n, r, h, hn => by
    cases n with
    | zero => simp at hn
    | succ n =>
      rw [show p :: l = [p] ++ l from rfl, frameL_app, frameL_one, List.append_assoc, cutF_frame (h p List.mem_cons_self), cutF_all l n r (fun x hx => h x (List.mem_cons_of_mem _ hx)) (by simpa using hn)]
      simp [List.length_append]
      omega
theorem cutF_short {p : List Int} (hp : p.length ≤ 1000) (hb : ∀ x ∈ p, 0 ≤ x ∧ x ≤ 255) (n k : Nat) (hk : k < (frameD p).length) : cutF n ((frameD p).take k) = ([], 0) := by
  cases n with
  | zero => rfl
  | succ n =>
    rw [frameD_len] at hk
    have hl : ((frameD p).take k).length = k := by rw [List.length_take, frameD_len]; omega
    rw [cutF_succ]
    by_cases h2 : 2 ≤ k
    · have e : atD ((frameD p).take k) 0 = ((p.length : Nat) : Int) := by
        obtain ⟨j, rfl⟩ : ∃ j, k = j + 2 := ⟨k - 2, by omega⟩
        have := atD_frame (n := ((p.length : Nat) : Int)) (by omega) (by omega) (p.take j)
        exact this
      rw [e, hl, decide_eq_false (show ¬ 2 + ((p.length : Nat) : Int) ≤ ((k : Nat) : Int) by omega), Bool.and_false, Bool.and_false]; rfl
    · rw [hl, decide_eq_false h2]; rfl
end Go.Ev
end
section
/- s_DrawFramesOf: its contract. -/
namespace Go.Ev.Seat
open Go.RowKit
set_option maxRecDepth 100000
set_option linter.unusedVariables false
set_option linter.unusedSimpArgs false
noncomputable abbrev ls_s_DrawFramesOf : List (Nat × Bool × Sm) := [(N.s_l01Open, false, S_s_l01Open), (N.s_l01Cur_pieces, false, (SB_s_l01Cur_pieces B_s_l01Cur_pieces)), (N.s_l01Cur_pick, false, (SB_s_l01Cur_pick B_s_l01Cur_pick))]
noncomputable abbrev E_s_DrawFramesOf : Env := En ls_s_DrawFramesOf [] [] [] false 0 []
noncomputable def T_s_DrawFramesOf (code : List Int) (K : Ret → Option Ret) : Option Ret := (bif (fitB code) then (B_s_l01Cur_pieces code (0 : Int) (seedD code) (fun y0 y1 y2 => (B_s_l01Cur_pick code y1 y2 (12 : Int) (fun y3 y4 y5 => (bif (y3 == (0 : Int)) then (B_s_l01Cur_pick code y4 y5 (2 : Int) (fun y6 y7 y8 => (bif (((((IntKind.wrap .i64 ((1000 : Int) + y6)) == (IntKind.wrap .i64 ((1000 : Int) + y6))) && (decide ((0 : Int) ≤ (IntKind.wrap .i64 ((1000 : Int) + y6))))) && (decide (((Int.toNat (IntKind.wrap .i64 ((1000 : Int) + y6))) * 1) ≤ 140737488355328))) && (decide ((IntKind.wrap .i64 ((1000 : Int) + y6)) ≤ (4611686018427387904 : Int)))) then (bif (Nat.ble (((List.length y0) + (List.length ((List.replicate (Int.toNat (IntKind.wrap .i64 ((1000 : Int) + y6))) (0 : Int)) :: []))) * 24) 140737488355328) then K ((.l .deep pieceR (y0 ++ ((List.replicate (Int.toNat (IntKind.wrap .i64 ((1000 : Int) + y6))) (0 : Int)) :: []))), []) else none) else none))) else (bif (y3 == (1 : Int)) then (B_s_l01Cur_pick code y4 y5 (2 : Int) (fun y9 y10 y11 => (bif (((((IntKind.wrap .i64 ((100 : Int) + y9)) == (IntKind.wrap .i64 ((100 : Int) + y9))) && (decide ((0 : Int) ≤ (IntKind.wrap .i64 ((100 : Int) + y9))))) && (decide (((Int.toNat (IntKind.wrap .i64 ((100 : Int) + y9))) * 24) ≤ 140737488355328))) && (decide ((IntKind.wrap .i64 ((100 : Int) + y9)) ≤ (4611686018427387904 : Int)))) then K ((.l .deep pieceR (List.replicate (Int.toNat (IntKind.wrap .i64 ((100 : Int) + y9))) (pieceR.dflt))), []) else none))) else K ((.l .deep pieceR y0), []))))))) else none)
theorem e_s_DrawFramesOf (code : List Int) (K : Ret → Option Ret) : evF E_s_DrawFramesOf false F.s_DrawFramesOf [.l .no bytesR code] K = T_s_DrawFramesOf code K := by kernel_rfl
theorem x_s_DrawFramesOf (code : List Int) (h : (fitB code) = true) : ∃ (t : List T_Piece), (fitC (.sl pieceR) t = true) ∧ ∀ K : Ret → Option Ret, T_s_DrawFramesOf code K = K (.l .deep pieceR t, []) := by
  suffices hd : Dr (fun r : Ret => ∃ (t : List T_Piece), (fitC (.sl pieceR) t = true) ∧ r = (.l .deep pieceR t, [])) (fun K : Ret → Option Ret => T_s_DrawFramesOf code K) by
    obtain ⟨_, ⟨t, hp, rfl⟩, hk⟩ := hd
    exact ⟨t, hp, hk⟩
  have hs : 0 ≤ seedD code ∧ seedD code < 65536 := by unfold seedD; omega
  have hl := fitB_len h
  unfold T_s_DrawFramesOf
  refine Dr.must h ?_
  refine Dr.b3 (b_s_l01Cur_pieces _ _ _ (curB_iff.2 ⟨h, by omega, by omega, by omega, by omega⟩)) (fun y0 a0 s0 hy0 => ?_)
  obtain ⟨⟨hq1, hq2⟩, hq3⟩ := hy0
  refine Dr.b3 (b_s_l01Cur_pick _ _ _ _ (curB_iff.2 ⟨h, by omega, by omega, by omega, by omega⟩)) (fun y1 a1 s1 hy1 => ?_)
  refine Dr.bif (fun _ => ?_) (fun _ => Dr.bif (fun _ => ?_) (fun _ => ?_))
  · refine Dr.b3 (b_s_l01Cur_pick _ _ _ _ (curB_iff.2 ⟨h, by omega, by omega, by omega, by omega⟩)) (fun y2 a2 s2 hy2 => ?_)
    rw [wrap_in (n := 1000 + y2) (by omega) (by omega)]
    refine Dr.must (by simp only [beq_self_eq_true, Bool.true_and, Bool.and_eq_true, decide_eq_true_eq]; omega) (Dr.must (Nat.ble_eq_true_of_le (by simp only [List.length_cons, List.length_nil]; omega)) ?_)
    exact Dr.leaf ⟨_, fitC_mk (by rw [List.length_append]; simp only [List.length_cons, List.length_nil]; omega) (fun x hx => (List.mem_append.1 hx).elim (fun hx => hq1 x hx) (fun hx => by rw [List.mem_singleton.1 hx]; exact fitB_rep (by omega))), rfl⟩
  · refine Dr.b3 (b_s_l01Cur_pick _ _ _ _ (curB_iff.2 ⟨h, by omega, by omega, by omega, by omega⟩)) (fun y2 a2 s2 hy2 => ?_)
    rw [wrap_in (n := 100 + y2) (by omega) (by omega)]
    refine Dr.must (by simp only [beq_self_eq_true, Bool.true_and, Bool.and_eq_true, decide_eq_true_eq]; omega) ?_
    exact Dr.leaf ⟨_, fitC_mk (by rw [List.length_replicate]; omega) (fun x hx => by rw [(List.mem_replicate.1 hx).2]; rfl), rfl⟩
  · exact Dr.leaf ⟨_, fitC_mk (by omega) (fun x hx => hq1 x hx), rfl⟩
noncomputable def g_s_DrawFramesOf (code : List Int) : List T_Piece := Classical.epsilon fun g => (fitC (.sl pieceR) (g) = true) ∧ ∀ K : Ret → Option Ret, T_s_DrawFramesOf code K = K (.l .deep pieceR (g), [])
theorem gs_s_DrawFramesOf (code : List Int) (h : (fitB code) = true) : (fitC (.sl pieceR) (g_s_DrawFramesOf code) = true) ∧ ∀ K : Ret → Option Ret, T_s_DrawFramesOf code K = K (.l .deep pieceR (g_s_DrawFramesOf code), []) := by
  obtain ⟨t, hy, hk⟩ := x_s_DrawFramesOf code h
  exact Classical.epsilon_spec (p := fun g : List T_Piece => (fitC (.sl pieceR) (g) = true) ∧ ∀ K : Ret → Option Ret, T_s_DrawFramesOf code K = K (.l .deep pieceR (g), [])) ⟨t, hy, hk⟩
noncomputable def B_s_DrawFramesOf (code : List Int) (k : (List T_Piece) → Option Ret) : Option Ret := bif fitB code then k (g_s_DrawFramesOf code) else none
theorem b_s_DrawFramesOf (code : List Int) (h : (fitB code) = true) : ∃ (t : List T_Piece), (fitC (.sl pieceR) t = true) ∧ ∀ k, B_s_DrawFramesOf code k = k t :=
  ⟨(g_s_DrawFramesOf code), (gs_s_DrawFramesOf code h).1, fun k => by unfold B_s_DrawFramesOf; rw [h]; rfl⟩
def SB_s_DrawFramesOf (B : (List Int) → ((List T_Piece) → Option Ret) → Option Ret) : Sm := S_B [.l bytesR] (fun d K => B d.1 (fun t => K (.l .deep pieceR t, [])))
theorem okS_s_DrawFramesOf : OkFn prog I N.s_DrawFramesOf false (SB_s_DrawFramesOf B_s_DrawFramesOf) := okN (ok_fn (memc okS_s_l01Open (memc okS_s_l01Cur_pieces (memc okS_s_l01Cur_pick mem0))) (l := ls_s_DrawFramesOf) (p := []) (ls := []) (lend := []) (focus := false) (fuel := 0) (give := []) (fn := F.s_DrawFramesOf) (by kernel_rfl) (by kernel_rfl) (by kernel_rfl) (by kernel_rfl) (cs := []) (by kernel_rfl) loops0) (S_B_of fun d K q hq => by
  refine (e_s_DrawFramesOf d.1 K).trans ?_
  unfold B_s_DrawFramesOf at hq
  cases hp : (fitB d.1) with
  | false => rw [hp] at hq; cases hq
  | true =>
    rw [hp] at hq
    exact ((gs_s_DrawFramesOf d.1 hp).2 K).trans hq)
end Go.Ev.Seat
end
section
/- i_word: its contract. -/
namespace Go.Ev.Seat
open Go.RowKit
set_option maxRecDepth 100000
set_option linter.unusedVariables false
set_option linter.unusedSimpArgs false
noncomputable abbrev E_i_word : Env := En [] [] [] [] false 0 []
noncomputable def T_i_word (n : Int) (K : Ret → Option Ret) : Option Ret := K ((.l .deep bytesR ((IntKind.wrap .u8 (shrI .i64 n (8 : Int))) :: ((IntKind.wrap .u8 n) :: ([] : List Int)))), [])
theorem e_i_word (n : Int) (K : Ret → Option Ret) : evF E_i_word true F.i_word [.s (.int .i64 n)] K = T_i_word n K := by kernel_rfl
def S_i_word : Sm := S_fnR [.i] (fun d => isWordD d.1) (fun d => (.l .deep bytesR (wordD d.1), []))
theorem v_i_word (n : Int) (h : (isWordD n) = true) (K : Ret → Option Ret) : T_i_word n K = K (.l .deep bytesR (wordD n), []) := by
  have h' := isWordD_iff.1 h
  unfold T_i_word wordD
  rw [shr8, wrap8 (by omega) (by omega), wrap8_mod]
theorem okS_i_word : OkFn prog I N.i_word true S_i_word := okN (ok_fn mem0 (l := []) (p := []) (ls := []) (lend := []) (focus := false) (fuel := 0) (give := []) (fn := F.i_word) (by kernel_rfl) (by kernel_rfl) (by kernel_rfl) (by kernel_rfl) (cs := []) (by kernel_rfl) loops0) (S_fnR_of fun d K h => (e_i_word d.1 K).trans (v_i_word d.1 h K))
end Go.Ev.Seat
end
section
/- slices.Grow of a nil slice: room and nothing else. -/
set_option linter.unusedVariables false
namespace Go.Ev
open Go.RowKit Go.Shelf Go.Proofs
def S_growN (r : Rw) : Sm := fun vs K => match vs with
  | [.nl, .s (.int .i64 n)] => bif decide (0 ≤ n) && decide (n ≤ 1099511627776) then K (.l .deep r [], []) else none
  | _ => none
variable {P : Program} {I : Nat → World → Prop}
theorem grow_ok {ρ : Ren} (L : Lays8.n4 P ρ) (hent : ∀ (args : Array Value) (w : World), (callFunc (ρ.f 4) args).run P w = .ok (.enter (ρ.f 4) args) w) {r : Rw} {i0 : TypeInfo} {z : Value} (hi0 : P.info? (ρ.t 25) = some i0) (hz0 : i0.zero = some z) (hs0 : 0 < i0.size) (hb : i0.bytes ≤ 64) (hn : z.cells.size = r.n) : OkFn P I (ρ.f 4) true (S_growN r) := by
  refine ⟨hent, fun ws K q hq B0 w0 w N vs O M H hI hbel hB hargs hnd hO hM hH hN => ?_⟩
  unfold S_growN at hq
  split at hq
  · rename_i n
    cases hc : (decide (0 ≤ n) && decide (n ≤ 1099511627776)) with
    | false => rw [hc] at hq; cases hq
    | true =>
      rw [hc] at hq
      simp only [Bool.and_eq_true, decide_eq_true_eq] at hc
      obtain ⟨h0, h1⟩ := hc
      have hq' : K (.l .deep r [], []) = some q := hq
      obtain ⟨v1, vs1, O1, O2, M1, M2, H1, H2, rfl, rfl, rfl, rfl, a1, b1⟩ := hargs
      obtain ⟨v2, vs2, O3, O4, M3, M4, H3, H4, rfl, rfl, rfl, rfl, a2, b2⟩ := b1
      obtain ⟨rfl, rfl, rfl, rfl⟩ := b2
      have e1 : v1 = .slice none 0 0 := a1.1
      have e2 : v2 = .int .i64 n := a2.1.1
      subst e1 e2
      obtain ⟨k, rfl⟩ : ∃ k : Nat, n = (k : Int) := ⟨n.toNat, by omega⟩
      by_cases hk : k = 0
      · subst hk
        refine Calls.mono (Any8.slices_Grow_room L none 0 0 0 w (Nat.le_refl _) (by omega) (by omega) (by omega)) ?_
        rintro e w' ⟨rfl, rfl⟩
        refine ⟨_, hq', ⟨⟨[], [], [], [], [], [], ⟨.inl ⟨rfl, rfl, none, 0, rfl, fun _ => ⟨rfl, rfl⟩⟩, rfl, rfl⟩, ⟨rfl, rfl, rfl, rfl⟩, List.nodup_nil, by simp, by simp, by simp⟩, hbel, Nat.le_refl _, fun _ _ _ => rfl⟩⟩
      · have hmul : (0 + k) * i0.bytes ≤ 1099511627776 * 64 := Nat.mul_le_mul (by omega) hb
        refine Calls.mono (Any8.slices_Grow_grow L i0 z hi0 hz0 hs0 none 0 0 k [] w (Nat.le_refl _) (by omega) (by omega) (by omega) (by simp) (fun _ => rfl) (fun a h => nomatch h)) ?_
        rintro e w' ⟨rfl, rfl⟩
        have hsz : ∀ cs t, (w.drew.alloc (.cells cs t)).heap.size = w.heap.size + 1 := fun cs t => alloc_size w.drew _
        have hnew : ∀ cs t, (w.drew.alloc (.cells cs t)).heap[w.heap.size]? = some (.cells cs t (0, 0)) := fun cs t => alloc_new w.drew _
        refine ⟨_, hq', ⟨⟨[w.heap.size], [], [w.heap.size], [], [], [], ⟨.inr ⟨w.heap.size, 0, _, [], rfl, Nat.zero_le _, rfl, by rw [hsz]; omega, fun _ => ⟨_, _, hnew _ _, ?_⟩, rfl⟩, rfl, rfl⟩, ⟨rfl, rfl, rfl, rfl⟩, by simp, ?_, by simp, ?_⟩, (hbel.drew).alloc hB _, by rw [hsz]; omega, fun x hx _ => alloc_old w.drew _ x hx⟩⟩
        · simp only [Array.size_append, size_zeroCells, hn]
          have : ∀ c : Nat, 0 + c * r.n ≤ ([] : List Value).toArray.size + (0 + k - 0) * r.n + (c - (0 + k)) * r.n := fun c => by
            rw [Nat.add_assoc, ← Nat.add_mul]
            have : c * r.n ≤ (0 + k - 0 + (c - (0 + k))) * r.n := Nat.mul_le_mul_right _ (by omega)
            omega
          exact this _
        · intro x hx
          simp at hx
          subst hx
          exact ⟨.inr (Nat.le_refl _), by rw [hsz]; omega⟩
        · intro x hx
          simp at hx
          subst hx
          exact ⟨by simp, fun h => by have := hN _ h; omega⟩
  · cases hq
end Go.Ev
namespace Go.Proofs
open Go.Shelf
def Try.grow_ren : Go.Shelf.Ren := ⟨fun | 4 => 61 | n => n, fun | 22 => 22 | 25 => 5 | 3 => 3 | 4 => 4 | 9 => 9 | 20 => 20 | 0 => 0 | n => n, fun | n => n⟩
theorem Try.grow : Go.Proofs.Lays8.n4 Try.prog Try.grow_ren := {
  mixed := by kernel_rfl
  f4 := ⟨Try.f61.name, by decide, Try.func61.trans (congrArg some (by kernel_rfl))⟩
  t0 := Try.underlying0
  a0 := Try.isAgg0
  z0 := Try.sizeOf0
  v0 := Try.zeroValue0
  t3 := Try.underlying3
  a3 := Try.isAgg3
  z3 := Try.sizeOf3
  v3 := Try.zeroValue3
  t4 := Try.underlying4
  a4 := Try.isAgg4
  z4 := Try.sizeOf4
  v4 := Try.zeroValue4
  t9 := Try.underlying9
  a9 := Try.isAgg9
  z9 := Try.sizeOf9
  v9 := Try.zeroValue9
  t20 := Try.underlying20
  a20 := Try.isAgg20
  z20 := Try.sizeOf20
  v20 := Try.zeroValue20
  t22 := Try.underlying22
  a22 := Try.isAgg22
  z22 := Try.sizeOf22
  v22 := Try.zeroValue22 }
end Go.Proofs
namespace Go.Ev.Seat
open Go.RowKit
set_option maxRecDepth 100000
theorem okS_Grow : OkFn prog I N.slices_Grow_bytes_byte true (S_growN bytesR) := by
  refine grow_ok (i0 := (prog.info? 5).getD default) (z := .int .u8 0) Go.Proofs.Try.grow (ok_fn (l := []) (p := []) (ls := []) (lend := []) (focus := false) (fuel := 0) (give := []) (nils := []) (fresh := true) mem0 (g := N.slices_Grow_bytes_byte) (fn := F.slices_Grow_bytes_byte) (by kernel_rfl) (by kernel_rfl) (by kernel_rfl) (by kernel_rfl) (cs := []) (by kernel_rfl) loops0).1 (by kernel_rfl) (by kernel_rfl) (Nat.le_of_ble_eq_true (by kernel_rfl)) (Nat.le_of_ble_eq_true (by kernel_rfl)) rfl
end Go.Ev.Seat
end
section
/- The laws' helpers for bytes. -/
namespace Go.Ev.Seat
open Go.RowKit
set_option maxRecDepth 100000
set_option linter.unusedVariables false
end Go.Ev.Seat
end
section
/- slices.Clone and slices.Concat of bytes. -/
namespace Go.Ev.Seat
open Go.RowKit
set_option maxRecDepth 100000
set_option linter.unusedVariables false
-- Clone
def sh_cc1 : Ss := { tm := (.cons (.l .no pieceR) (.cons (.x) (.cons (.x) (.cons (.int .i64) (.cons (.x) (.cons (.x) (.cons (.x) (.cons (.x) (.cons (.x) (.cons (.l .no pieceR) (.cons (.int .i64) (.cons (.int .i64) (xsh 24))))))))))))), ob := .nil, nx := 0, io := .nil }
def d_cc1 (x0 : List (List (Int))) (x3 : Int) (x9 : List (List (Int))) (x10 : Int) (x11 : Int) : sh_cc1.T := ((x0, ((), ((), (x3, ((), ((), ((), ((), ((), (x9, (x10, (x11, xd 24)))))))))))), (), ())
def z_cc1 (x0 : List (List Int)) (x3 : Int) : St := { tm := ([(.l .no pieceR x0), .x, .x, (.s (.int .i64 x3))] ++ List.replicate 32 .x), ob := [], nx := 0, io := [] }
def R_cc1 (d : sh_cc1.T) (K : Ex → St → Option Ret) : Option Ret := match d with
  | ((x0, (_, (_, (x3, (_, (_, (_, (_, (_, (x9, (x10, (x11, _)))))))))))), _, _) => bif (x11 == 0) && (x3 == 0) && (x10 == ((x9.length : Nat) : Int)) && Nat.ble x9.length 4611686018427387904 && Nat.ble (sumW List.length x9) 1099511627776 then K (.ext 0) (z_cc1 x0 ((sumW List.length x9 : Nat) : Int)) else none
def sh_cc2 : Ss := { tm := (.cons (.x) (.cons (.x) (.cons (.x) (.cons (.x) (.cons (.x) (.cons (.x) (.cons (.w 0) (.cons (.x) (.cons (.x) (.cons (.x) (.cons (.x) (.cons (.x) (.cons (.x) (.cons (.x) (.cons (.x) (.cons (.x) (.cons (.x) (.cons (.x) (.cons (.x) (.cons (.x) (.cons (.x) (.cons (.x) (.cons (.x) (.cons (.x) (.cons (.x) (.cons (.l .no pieceR) (.cons (.int .i64) (.cons (.int .i64) (xsh 8))))))))))))))))))))))))))))), ob := (.arr true true bytesR .nil), nx := 1, io := .nil }
def d_cc2 (x25 : List (List (Int))) (x26 : Int) (x27 : Int) (o0 : List (Int)) : sh_cc2.T := (((), ((), ((), ((), ((), ((), ((), ((), ((), ((), ((), ((), ((), ((), ((), ((), ((), ((), ((), ((), ((), ((), ((), ((), ((), (x25, (x26, (x27, xd 8)))))))))))))))))))))))))))), (o0, ()), ())
def z_cc2 (o0 : List Int) : St := { tm := ([.x, .x, .x, .x, .x, .x, (.w 0)] ++ List.replicate 29 .x), ob := [(0, (.arr true true bytesR o0))], nx := 1, io := [] }
def R_cc2 (d : sh_cc2.T) (K : Ex → St → Option Ret) : Option Ret := match d with
  | ((_, (_, (_, (_, (_, (_, (_, (_, (_, (_, (_, (_, (_, (_, (_, (_, (_, (_, (_, (_, (_, (_, (_, (_, (_, (x25, (x26, (x27, _)))))))))))))))))))))))))))), (o0, _), _) => bif (x27 == 0) && (x26 == ((x25.length : Nat) : Int)) && Nat.ble x25.length 4611686018427387904 && Nat.beq o0.length 0 && Nat.ble (sumW List.length x25) 1099511627776 then K (.ext 2) (z_cc2 x25.flatten) else none
noncomputable def E_cc : Env := En [(N.slices_Grow_bytes_byte, true, S_growN bytesR)] [] [(3, [0,3,9,10,11], [0,3], loopF sh_cc1 R_cc1), (11, [6,25,26,27], [6], loopF sh_cc2 R_cc2)]
noncomputable abbrev L_cc1 (n : Nat) (x0 : List (List Int)) (x3 : Int) (x9 : List (List (Int))) (x10 x11 : Int) (K : Ex → St → Option Ret) : Option Ret := rounds (run E_cc (bodyOf F.slices_Concat_bytes_byte 3)) [0,3,9,10,11] [0,3] n (sh_cc1.mk' (d_cc1 x0 x3 x9 x10 x11)) K
noncomputable abbrev L_cc2 (n : Nat) (x25 : List (List (Int))) (x26 x27 : Int) (o0 : List Int) (K : Ex → St → Option Ret) : Option Ret := rounds (run E_cc (bodyOf F.slices_Concat_bytes_byte 11)) [6,25,26,27] [6] n (sh_cc2.mk' (d_cc2 x25 x26 x27 o0)) K
theorem step_cc1 (n : Nat) (x0 : List (List (Int))) (x3 : Int) (x9 : List (List (Int))) (x10 : Int) (x11 : Int) (K : Ex → St → Option Ret) : L_cc1 (n + 1) x0 x3 x9 x10 x11 K =
 (bif decide (x11 < x10) then
 (bif (decide ((0 : Int) ≤ x11) && decide (x11 < (((List.length x9) : Nat) : Int))) then
  (bif decide ((IntKind.wrap .i64 (x3 + (((List.length (List.getD x9 (Int.toNat x11) (pieceR.dflt))) : Nat) : Int))) < (0 : Int)) then
   none
   else L_cc1 n x0 (IntKind.wrap .i64 (x3 + (((List.length (List.getD x9 (Int.toNat x11) (pieceR.dflt))) : Nat) : Int))) x9 x10 (IntKind.wrap .i64 (x11 + (1 : Int))) K)
  else none)
 else K (.ext 0) (z_cc1 x0 x3)) := by kernel_rfl
theorem step_cc2 (n : Nat) (x25 : List (List (Int))) (x26 : Int) (x27 : Int) (o0 : List (Int)) (K : Ex → St → Option Ret) : L_cc2 (n + 1) x25 x26 x27 o0 K =
 (bif decide (x27 < x26) then
 (bif (decide ((0 : Int) ≤ x27) && decide (x27 < (((List.length x25) : Nat) : Int))) then
  (bif (Nat.ble (((List.length o0) + (List.length (List.getD x25 (Int.toNat x27) (pieceR.dflt)))) * 1) 140737488355328) then
   L_cc2 n x25 x26 (IntKind.wrap .i64 (x27 + (1 : Int))) (o0 ++ (List.getD x25 (Int.toNat x27) (pieceR.dflt))) K
   else none)
  else none)
 else K (.ext 2) (z_cc2 o0)) := by kernel_rfl
theorem go_cc1 (x0 x9 : List (List Int)) (K : Ex → St → Option Ret) (h1 : x9.length ≤ 4611686018427387904) (h2 : sumW List.length x9 ≤ 1099511627776) : L_cc1 (x9.length + 1) x0 0 x9 ((x9.length : Nat) : Int) 0 K = K (.ext 0) (z_cc1 x0 ((sumW List.length x9 : Nat) : Int)) := by
  have := loop_idx (R := fun n i (s : Int) => L_cc1 n x0 s x9 ((x9.length : Nat) : Int) i K) (k := K (.ext 0) (z_cc1 x0 ((sumW List.length x9 : Nat) : Int))) (f := fun i => ((sumW List.length (x9.take i) : Nat) : Int)) x9.length (fun m i hi => by
    show L_cc1 (m + 1) x0 _ x9 _ i K = L_cc1 m x0 ((sumW List.length (x9.take (i + 1)) : Nat) : Int) x9 _ ((i + 1 : Nat) : Int) K
    have hs := sumW_take (g := List.length) (z := (pieceR.dflt : List Int)) hi
    have hs' : sumW List.length (List.take (i + 1) x9) = sumW List.length (List.take i x9) + List.length (x9.getD i pieceR.dflt) := hs
    have hle : sumW List.length (x9.take (i + 1)) ≤ sumW List.length x9 := sumW_take_le
    rw [step_cc1, decide_eq_true (show ((i : Nat) : Int) < ((x9.length : Nat) : Int) by omega), decide_eq_true (show (0 : Int) ≤ ((i : Nat) : Int) by omega), wrap_nat (show i ≤ 4611686018427387904 by omega), Int.toNat_natCast, wrap_id (by omega) (by omega), hs', decide_eq_false (show ¬ ((((sumW List.length (List.take i x9) : Nat) : Int) + ((List.length (x9.getD i pieceR.dflt) : Nat) : Int)) < 0) by omega), Int.natCast_add]
    rfl) (fun m => by
    show L_cc1 (m + 1) x0 _ x9 _ _ K = _
    rw [step_cc1, decide_eq_false (show ¬ ((x9.length : Nat) : Int) < ((x9.length : Nat) : Int) by omega), List.take_length]; rfl)
  exact this
theorem go_cc2 (x25 : List (List Int)) (K : Ex → St → Option Ret) (h1 : x25.length ≤ 4611686018427387904) (h2 : sumW List.length x25 ≤ 1099511627776) : L_cc2 (x25.length + 1) x25 ((x25.length : Nat) : Int) 0 [] K = K (.ext 2) (z_cc2 x25.flatten) := by
  have := loop_idx (R := fun n i (s : List Int) => L_cc2 n x25 ((x25.length : Nat) : Int) i s K) (k := K (.ext 2) (z_cc2 x25.flatten)) (f := fun i => (x25.take i).flatten) x25.length (fun m i hi => by
    show L_cc2 (m + 1) x25 _ i _ K = L_cc2 m x25 _ ((i + 1 : Nat) : Int) (x25.take (i + 1)).flatten K
    have hs := sumW_take (g := List.length) (z := (pieceR.dflt : List Int)) hi
    have hs' : sumW List.length (List.take (i + 1) x25) = sumW List.length (List.take i x25) + List.length (x25.getD i pieceR.dflt) := hs
    have hle : sumW List.length (x25.take (i + 1)) ≤ sumW List.length x25 := sumW_take_le
    have hfl := sumW_flatten (x25.take i)
    rw [step_cc2, decide_eq_true (show ((i : Nat) : Int) < ((x25.length : Nat) : Int) by omega), decide_eq_true (show (0 : Int) ≤ ((i : Nat) : Int) by omega), wrap_nat (show i ≤ 4611686018427387904 by omega), Int.toNat_natCast, Nat.ble_eq_true_of_le (show (((x25.take i).flatten.length + (x25.getD i pieceR.dflt).length) * 1) ≤ 140737488355328 by omega)]
    show L_cc2 m x25 _ _ ((x25.take i).flatten ++ x25.getD i pieceR.dflt) K = _
    have hf2 : (x25.take (i + 1)).flatten = (x25.take i).flatten ++ x25.getD i pieceR.dflt := flatten_take hi
    rw [hf2]) (fun m => by
    show L_cc2 (m + 1) x25 _ _ _ K = _
    rw [step_cc2, decide_eq_false (show ¬ ((x25.length : Nat) : Int) < ((x25.length : Nat) : Int) by omega), List.take_length]; rfl)
  exact this
theorem loop_cc1 : LoopOk E_cc (bodyOf F.slices_Concat_bytes_byte 3) := by
  refine loopF_ok (n := 3) (sh := sh_cc1) (R := R_cc1) (by kernel_rfl) rfl rfl (fun d K r hr => ?_)
  obtain ⟨⟨x0, u1, u2, x3, u4, u5, u6, u7, u8, x9, x10, x11, u12⟩, u13, u14⟩ := d
  unfold R_cc1 at hr
  simp only at hr
  cases hc : ((x11 == 0) && (x3 == 0) && (x10 == ((x9.length : Nat) : Int)) && Nat.ble x9.length 4611686018427387904 && Nat.ble (sumW List.length x9) 1099511627776) with
  | false => rw [hc] at hr; cases hr
  | true =>
    rw [hc] at hr
    simp only [Bool.and_eq_true, beq_iff_eq] at hc
    obtain ⟨⟨⟨⟨rfl, rfl⟩, rfl⟩, h1⟩, h2⟩ := hc
    exact ⟨x9.length + 1, (go_cc1 x0 x9 K (Nat.le_of_ble_eq_true h1) (Nat.le_of_ble_eq_true h2)).trans hr⟩
theorem loop_cc2 : LoopOk E_cc (bodyOf F.slices_Concat_bytes_byte 11) := by
  refine loopF_ok (n := 11) (sh := sh_cc2) (R := R_cc2) (by kernel_rfl) rfl rfl (fun d K r hr => ?_)
  obtain ⟨⟨_, _, _, _, _, _, _, _, _, _, _, _, _, _, _, _, _, _, _, _, _, _, _, _, _, x25, x26, x27, u12⟩, ⟨o0, u13⟩, u14⟩ := d
  unfold R_cc2 at hr
  simp only at hr
  cases hc : ((x27 == 0) && (x26 == ((x25.length : Nat) : Int)) && Nat.ble x25.length 4611686018427387904 && Nat.beq o0.length 0 && Nat.ble (sumW List.length x25) 1099511627776) with
  | false => rw [hc] at hr; cases hr
  | true =>
    rw [hc] at hr
    simp only [Bool.and_eq_true, beq_iff_eq] at hc
    obtain ⟨⟨⟨⟨rfl, rfl⟩, h1⟩, h3⟩, h2⟩ := hc
    have h3' : o0 = [] := List.eq_nil_of_length_eq_zero (Nat.eq_of_beq_eq_true h3)
    subst h3'
    exact ⟨x25.length + 1, (go_cc2 x25 K (Nat.le_of_ble_eq_true h1) (Nat.le_of_ble_eq_true h2)).trans hr⟩
noncomputable def G_Concat := evF E_cc true F.slices_Concat_bytes_byte
theorem ok_Concat : OkFn prog I N.slices_Concat_bytes_byte true G_Concat := ok_fn (memc okS_Grow mem0) (by kernel_rfl) (by kernel_rfl) (by kernel_rfl) (by kernel_rfl) (cs := [bodyOf F.slices_Concat_bytes_byte 3, bodyOf F.slices_Concat_bytes_byte 11]) (by kernel_rfl) (loopsc loop_cc1 (loopsc loop_cc2 loops0))
def S_concat : Sm := fun vs K => match vs with
  | [v] => match (Cc.sl pieceR).dec v with
    | some (xs : List (List Int)) => bif Nat.ble xs.length 4611686018427387904 && Nat.ble (sumW List.length xs) 1099511627776 then K (.l .deep bytesR xs.flatten, []) else none
    | none => none
  | _ => none
theorem okS_Concat : OkFn prog I N.slices_Concat_bytes_byte true S_concat := okW ok_Concat (by
  intro ws K q hr
  unfold S_concat at hr
  split at hr
  · split at hr
    · rename_i xs hx
      rw [Cc.dec_ok _ hx]
      have e : G_Concat [.l .no pieceR xs] K = (bif ((0 : Int) == 0) && ((0 : Int) == 0) && (((List.length xs : Nat) : Int) == ((List.length xs : Nat) : Int)) && Nat.ble (List.length xs) 4611686018427387904 && Nat.ble (sumW List.length xs) 1099511627776 then
        (bif decide (0 ≤ ((sumW List.length xs : Nat) : Int)) && decide (((sumW List.length xs : Nat) : Int) ≤ 1099511627776) then
         (bif ((0 : Int) == 0) && (((List.length xs : Nat) : Int) == ((List.length xs : Nat) : Int)) && Nat.ble (List.length xs) 4611686018427387904 && Nat.beq 0 0 && Nat.ble (sumW List.length xs) 1099511627776 then K (.l .deep bytesR (List.flatten xs), []) else none)
         else none) else none) := by kernel_rfl
      cases hl : (Nat.ble xs.length 4611686018427387904 && Nat.ble (sumW List.length xs) 1099511627776) with
      | false => rw [hl] at hr; cases hr
      | true =>
        rw [hl] at hr
        simp only [Bool.and_eq_true] at hl
        refine e.trans (Eq.trans ?_ hr)
        rw [hl.1, hl.2, beq_self_eq_true, beq_self_eq_true, decide_eq_true (show (0 : Int) ≤ ((sumW List.length xs : Nat) : Int) by omega), decide_eq_true (show ((sumW List.length xs : Nat) : Int) ≤ 1099511627776 by have := Nat.le_of_ble_eq_true hl.2; omega)]
        rfl
    · cases hr
  · cases hr)
end Go.Ev.Seat
end
section
/- i_FramesOf: its contract. -/
namespace Go.Ev.Seat
open Go.RowKit
set_option maxRecDepth 100000
set_option linter.unusedVariables false
set_option linter.unusedSimpArgs false
def z_i_FramesOf_5_0 (o0 : List Int) : St := { tm := ([.x, .x, .nl, (.w 0)] ++ List.replicate 27 .x), ob := [(0, (.arr true true bytesR o0))], nx := 1, io := [] }
def z_i_FramesOf_5_1 (o0 : List Int) : St := { tm := ([.x, .x, .x, (.w 0)] ++ List.replicate 27 .x), ob := [(0, (.arr true true bytesR o0))], nx := 1, io := [] }
def sh_i_FramesOf_5_0 : Ss := { tm := (.cons (.x) (.cons (.x) (.cons (.x) (.cons (.w 0) (.cons (.x) (.cons (.x) (.cons (.x) (.cons (.x) (.cons (.x) (.cons (.x) (.cons (.l .no pieceR) (.cons (.int .i64) (.cons (.int .i64) (xsh 18)))))))))))))), ob := (.arr true true bytesR .nil), nx := 1, io := .nil }
def d_i_FramesOf_5_0 (x10 : List T_Piece) (x11 : Int) (x12 : Int) (o0 : List Int) : sh_i_FramesOf_5_0.T := (((), ((), ((), ((), ((), ((), ((), ((), ((), ((), (x10, (x11, (x12, xd 18))))))))))))), (o0, ()), ())
def s_i_FramesOf_5_0 (x10 : List T_Piece) (x11 : Int) (x12 : Int) (o0 : List Int) : St := { tm := ([.x, .x, .x, (.w 0), .x, .x, .x, .x, .x, .x, (.l .no pieceR x10), (.s (.int .i64 x11)), (.s (.int .i64 x12))] ++ List.replicate 18 .x), ob := [(0, (.arr true true bytesR o0))], nx := 1, io := [] }
theorem se_i_FramesOf_5_0 (x10 : List T_Piece) (x11 : Int) (x12 : Int) (o0 : List Int) : sh_i_FramesOf_5_0.mk' (d_i_FramesOf_5_0 x10 x11 x12 o0) = (s_i_FramesOf_5_0 x10 x11 x12 o0) := by kernel_rfl
def w_i_FramesOf_5_0 (d : sh_i_FramesOf_5_0.T) (f : (List T_Piece) → Int → Int → (List Int) → Option Ret) : Option Ret := match d with | ((_, (_, (_, (_, (_, (_, (_, (_, (_, (_, (x10, (x11, (x12, _))))))))))))), (o0, _), _) => f x10 x11 x12 o0
noncomputable def P_i_FramesOf_5_0 (x10 : List T_Piece) (x11 : Int) (x12 : Int) (o0 : List Int) (nx0 : (List T_Piece) → Int → Int → (List Int) → Option Ret) (k0 : (List Int) → Option Ret) (k1 : (List Int) → Option Ret) : Option Ret := (bif (decide (x12 < x11)) then (bif ((decide ((0 : Int) ≤ x12)) && (decide (x12 < (((List.length x10) : Nat) : Int)))) then (bif (decide ((((List.length (List.getD x10 (Int.toNat x12) (pieceR.dflt))) : Nat) : Int) > (1000 : Int))) then (k0 o0) else (bif (isWordD (((List.length (List.getD x10 (Int.toNat x12) (pieceR.dflt))) : Nat) : Int)) then (bif (Nat.ble (sumW List.length (o0 :: ((wordD (((List.length (List.getD x10 (Int.toNat x12) (pieceR.dflt))) : Nat) : Int)) :: ((List.getD x10 (Int.toNat x12) (pieceR.dflt)) :: [])))) 1099511627776) then (nx0 x10 x11 (IntKind.wrap .i64 (x12 + (1 : Int))) (List.flatten (o0 :: ((wordD (((List.length (List.getD x10 (Int.toNat x12) (pieceR.dflt))) : Nat) : Int)) :: ((List.getD x10 (Int.toNat x12) (pieceR.dflt)) :: []))))) else none) else none)) else none) else (k1 o0))
noncomputable def Q_i_FramesOf_5_0 : Nat → (List T_Piece) → Int → Int → (List Int) → ((List Int) → Option Ret) → ((List Int) → Option Ret) → Option Ret
  | 0, _, _, _, _, _, _ => none
  | m + 1, x10, x11, x12, o0, k0, k1 => P_i_FramesOf_5_0 x10 x11 x12 o0 (fun x10 x11 x12 o0 => (Q_i_FramesOf_5_0 m x10 x11 x12 o0 k0 k1)) k0 k1
noncomputable def R_i_FramesOf_5_0 (x10 : List T_Piece) (x11 : Int) (x12 : Int) (o0 : List Int) (k0 : (List Int) → Option Ret) (k1 : (List Int) → Option Ret) : Option Ret := Q_i_FramesOf_5_0 (List.length x10 + x11.toNat + x12.toNat + List.length o0 + 2) x10 x11 x12 o0 k0 k1
noncomputable def W_i_FramesOf_5 : LoopFn := (fun (σ : St) (K : Ex → St → Option Ret) => (match sh_i_FramesOf_5_0.un σ with | some d => w_i_FramesOf_5_0 d (fun x10 x11 x12 o0 => R_i_FramesOf_5_0 x10 x11 x12 o0 (fun o0 => (K .ret (z_i_FramesOf_5_0 o0))) (fun o0 => (K (.ext 0) (z_i_FramesOf_5_1 o0)))) | none => none))
noncomputable abbrev pl_i_FramesOf : List (Nat × Plan × List Nat) := [(9, takeB [0, 1, 2, 3, 5, 6] (.fork (.one 4 (.fork (.one 7 (.fork (.one 8 (takes [9]))))))), [])]
noncomputable abbrev ls_i_FramesOf : List (Nat × Bool × Sm) := [(N.i_word, true, S_i_word), (N.slices_Concat_bytes_byte, true, S_concat)]
noncomputable abbrev E_i_FramesOf : Env := En ls_i_FramesOf pl_i_FramesOf [(5, [3,10,11,12], [2,3], W_i_FramesOf_5)] [] false 0 []
noncomputable abbrev U_i_FramesOf_5 := rounds (run E_i_FramesOf (bodyOf F.i_FramesOf 5)) [3,10,11,12] [2,3]
theorem st_i_FramesOf_5_0 (m : Nat) (x10 : List T_Piece) (x11 : Int) (x12 : Int) (o0 : List Int) (K : Ex → St → Option Ret) : U_i_FramesOf_5 (m + 1) (s_i_FramesOf_5_0 x10 x11 x12 o0) K = P_i_FramesOf_5_0 x10 x11 x12 o0 (fun x10 x11 x12 o0 => (U_i_FramesOf_5 m (s_i_FramesOf_5_0 x10 x11 x12 o0) K)) (fun o0 => (K .ret (z_i_FramesOf_5_0 o0))) (fun o0 => (K (.ext 0) (z_i_FramesOf_5_1 o0))) := by kernel_rfl
theorem q_i_FramesOf_5 (K : Ex → St → Option Ret) : ∀ m : Nat, (∀ (x10 : List T_Piece) (x11 : Int) (x12 : Int) (o0 : List Int), U_i_FramesOf_5 m (s_i_FramesOf_5_0 x10 x11 x12 o0) K = Q_i_FramesOf_5_0 m x10 x11 x12 o0 (fun o0 => (K .ret (z_i_FramesOf_5_0 o0))) (fun o0 => (K (.ext 0) (z_i_FramesOf_5_1 o0))))
  | 0 => (fun _ _ _ _ => rfl)
  | m + 1 => (fun x10 x11 x12 o0 => (by rw [st_i_FramesOf_5_0, show (fun x10 x11 x12 o0 => (U_i_FramesOf_5 m (s_i_FramesOf_5_0 x10 x11 x12 o0) K)) = (fun x10 x11 x12 o0 => (Q_i_FramesOf_5_0 m x10 x11 x12 o0 (fun o0 => (K .ret (z_i_FramesOf_5_0 o0))) (fun o0 => (K (.ext 0) (z_i_FramesOf_5_1 o0))))) from funext fun x10 => funext fun x11 => funext fun x12 => funext fun o0 => (q_i_FramesOf_5 K m) x10 x11 x12 o0]; rfl))
theorem loopK_i_FramesOf_5 : LoopOk E_i_FramesOf (bodyOf F.i_FramesOf 5) := by
  refine loopW_ok (n := 5) (F := W_i_FramesOf_5) (by kernel_rfl) rfl (li := [3,10,11,12]) (lo := [2,3]) rfl (fun σ K r hr => ?_)
  unfold W_i_FramesOf_5 at hr
  split at hr
  · rename_i d hd
    rw [Ss.un_mk hd]
    exact ⟨_, ((congrArg (fun z => U_i_FramesOf_5 _ z K) (se_i_FramesOf_5_0 _ _ _ _)).trans ((q_i_FramesOf_5 K _) _ _ _ _)).trans hr⟩
  · cases hr
noncomputable def T_i_FramesOf (l : List T_Piece) (K : Ret → Option Ret) : Option Ret := (bif (decide ((((List.length l) : Nat) : Int) > (100 : Int))) then K ((.l .deep bytesR ([] : List Int)), []) else (R_i_FramesOf_5_0 l (((List.length l) : Nat) : Int) (0 : Int) ([] : List Int) (fun y0 => K ((.l .deep bytesR ([] : List Int)), [])) (fun y1 => K ((.l .deep bytesR y1), []))))
theorem e_i_FramesOf (l : List T_Piece) (K : Ret → Option Ret) : evF E_i_FramesOf true F.i_FramesOf [.l .no pieceR l] K = T_i_FramesOf l K := by kernel_rfl
def S_i_FramesOf : Sm := S_fnR [.l pieceR] (fun d => fitC (.sl pieceR) d.1) (fun d => (.l .deep bytesR (framesD d.1), []))
theorem v_i_FramesOf (l : List T_Piece) (h : (fitC (.sl pieceR) l) = true) (K : Ret → Option Ret) : T_i_FramesOf l K = K (.l .deep bytesR (framesD l), []) := by
  have hl := fitC_len h
  unfold T_i_FramesOf framesD framesOkD
  by_cases h100 : ((l.length : Nat) : Int) > 100
  · rw [decide_eq_true h100, show Nat.ble l.length 100 = false from Bool.eq_false_iff.2 (fun e => by have := Nat.le_of_ble_eq_true e; omega)]; rfl
  rw [decide_eq_false h100, Nat.ble_eq_true_of_le (show l.length ≤ 100 by omega)]
  have q : ∀ (m i : Nat), i ≤ l.length → l.length - i < m → (∀ p ∈ l.take i, p.length ≤ 1000) → Q_i_FramesOf_5_0 m l ((l.length : Nat) : Int) ((i : Nat) : Int) (frameL (l.take i)) (fun y0 => K ((.l .deep bytesR ([] : List Int)), [])) (fun y1 => K ((.l .deep bytesR y1), [])) = K (.l .deep bytesR (bif (l.drop i).all (fun p => Nat.ble p.length 1000) then frameL l else []), []) := by
    intro m
    induction m with
    | zero => intro i _ hm; omega
    | succ m ih =>
      intro i hi hm hp
      show P_i_FramesOf_5_0 l ((l.length : Nat) : Int) ((i : Nat) : Int) _ _ _ _ = _
      unfold P_i_FramesOf_5_0
      by_cases hlt : i < l.length
      · have hd : l.drop i = l.getD i [] :: l.drop (i + 1) := by rw [getD_lt [] hlt]; exact (List.getElem_cons_drop hlt).symm
        have hf2 : frameL (l.take (i + 1)) = frameL (l.take i) ++ frameD (l.getD i []) := by rw [← take_one [] hlt, frameL_app, frameL_one]
        have hfl := frameL_len (l.take i) hp
        rw [List.length_take] at hfl
        rw [decide_eq_true (show ((i : Nat) : Int) < ((l.length : Nat) : Int) by omega), decide_eq_true (show (0 : Int) ≤ ((i : Nat) : Int) by omega), Int.toNat_natCast, wrap_in (n := ((i : Nat) : Int) + 1) (by omega) (by omega), show ((i : Nat) : Int) + 1 = ((i + 1 : Nat) : Int) by omega, show l.getD i pieceR.dflt = l.getD i [] from rfl, hd, List.all_cons]
        by_cases hc : (l.getD i []).length ≤ 1000
        · have hw : isWordD (((l.getD i []).length : Nat) : Int) = true := isWordD_iff.2 ⟨by omega, by omega⟩
          have hwl : (wordD (((l.getD i []).length : Nat) : Int)).length = 2 := rfl
          rw [decide_eq_false (show ¬ (((l.getD i []).length : Nat) : Int) > 1000 by omega), hw, Nat.ble_eq_true_of_le hc, Nat.ble_eq_true_of_le (by simp only [sumW]; rw [hwl]; omega), show List.flatten (frameL (l.take i) :: (wordD (((l.getD i []).length : Nat) : Int) :: (l.getD i [] :: []))) = frameL (l.take i) ++ frameD (l.getD i []) by simp [frameD]]
          have step := ih (i + 1) (by omega) (by omega) (fun p hq => by
            rw [← take_one [] hlt] at hq
            rcases List.mem_append.1 hq with hq | hq
            · exact hp p hq
            · rw [List.mem_singleton.1 hq]; exact hc)
          rw [hf2] at step
          exact step
        · rw [decide_eq_true (show (((l.getD i []).length : Nat) : Int) > 1000 by omega), show Nat.ble (l.getD i []).length 1000 = false from Bool.eq_false_iff.2 (fun e => hc (Nat.le_of_ble_eq_true e))]; rfl
      · obtain rfl : i = l.length := by omega
        rw [decide_eq_false (show ¬ ((l.length : Nat) : Int) < ((l.length : Nat) : Int) by omega), List.take_length, List.drop_length]; rfl
  refine (q _ 0 (Nat.zero_le _) (by omega) (fun p hq => by rw [List.take_zero] at hq; cases hq)).trans ?_
  rw [List.drop_zero]; rfl
theorem okS_i_FramesOf : OkFn prog I N.i_FramesOf true S_i_FramesOf := okN (ok_fn (memc okS_i_word (memc okS_Concat mem0)) (l := ls_i_FramesOf) (p := pl_i_FramesOf) (ls := [(5, [3,10,11,12], [2,3], W_i_FramesOf_5)]) (lend := []) (focus := false) (fuel := 0) (give := []) (fn := F.i_FramesOf) (by kernel_rfl) (by kernel_rfl) (by kernel_rfl) (by kernel_rfl) (cs := [bodyOf F.i_FramesOf 5]) (by kernel_rfl) (loopsc loopK_i_FramesOf_5 loops0)) (S_fnR_of fun d K h => (e_i_FramesOf d.1 K).trans (v_i_FramesOf d.1 h K))
end Go.Ev.Seat
end
section
/- s_FramesOf: its contract. -/
namespace Go.Ev.Seat
open Go.RowKit
set_option maxRecDepth 100000
set_option linter.unusedVariables false
set_option linter.unusedSimpArgs false
def z_s_FramesOf_5_0 (o0 : List Int) : St := { tm := ([.x, .x, .nl, (.w 0)] ++ List.replicate 34 .x), ob := [(0, (.arr true true bytesR o0))], nx := 1, io := [] }
def z_s_FramesOf_5_1 (o0 : List Int) : St := { tm := ([.x, .x, .x, (.w 0)] ++ List.replicate 34 .x), ob := [(0, (.arr true true bytesR o0))], nx := 1, io := [] }
def sh_s_FramesOf_5_0 : Ss := { tm := (.cons (.l .no pieceR) (.cons (.x) (.cons (.x) (.cons (.w 0) (.cons (.int .i64) (xsh 33)))))), ob := (.arr true true bytesR .nil), nx := 1, io := .nil }
def d_s_FramesOf_5_0 (x0 : List T_Piece) (x4 : Int) (o0 : List Int) : sh_s_FramesOf_5_0.T := ((x0, ((), ((), ((), (x4, xd 33))))), (o0, ()), ())
def s_s_FramesOf_5_0 (x0 : List T_Piece) (x4 : Int) (o0 : List Int) : St := { tm := ([(.l .no pieceR x0), .x, .x, (.w 0), (.s (.int .i64 x4))] ++ List.replicate 33 .x), ob := [(0, (.arr true true bytesR o0))], nx := 1, io := [] }
theorem se_s_FramesOf_5_0 (x0 : List T_Piece) (x4 : Int) (o0 : List Int) : sh_s_FramesOf_5_0.mk' (d_s_FramesOf_5_0 x0 x4 o0) = (s_s_FramesOf_5_0 x0 x4 o0) := by kernel_rfl
def w_s_FramesOf_5_0 (d : sh_s_FramesOf_5_0.T) (f : (List T_Piece) → Int → (List Int) → Option Ret) : Option Ret := match d with | ((x0, (_, (_, (_, (x4, _))))), (o0, _), _) => f x0 x4 o0
noncomputable def P_s_FramesOf_5_0 (x0 : List T_Piece) (x4 : Int) (o0 : List Int) (nx0 : (List T_Piece) → Int → (List Int) → Option Ret) (k0 : (List Int) → Option Ret) (k1 : (List Int) → Option Ret) : Option Ret := (bif (decide (x4 < (((List.length x0) : Nat) : Int))) then (bif ((decide ((0 : Int) ≤ x4)) && (decide (x4 < (((List.length x0) : Nat) : Int)))) then (bif (decide ((((List.length (List.getD x0 (Int.toNat x4) (pieceR.dflt))) : Nat) : Int) > (1000 : Int))) then (k0 o0) else (bif ((decide ((0 : Int) ≤ x4)) && (decide (x4 < (((List.length x0) : Nat) : Int)))) then (bif ((decide ((0 : Int) ≤ x4)) && (decide (x4 < (((List.length x0) : Nat) : Int)))) then (bif (isWordD (((List.length (List.getD x0 (Int.toNat x4) (pieceR.dflt))) : Nat) : Int)) then (bif (Nat.ble (((List.length o0) + (List.length (wordD (((List.length (List.getD x0 (Int.toNat x4) (pieceR.dflt))) : Nat) : Int)))) * 1) 140737488355328) then (bif (Nat.ble (((List.length (o0 ++ (wordD (((List.length (List.getD x0 (Int.toNat x4) (pieceR.dflt))) : Nat) : Int)))) + (List.length (List.getD x0 (Int.toNat x4) (pieceR.dflt)))) * 1) 140737488355328) then (nx0 x0 (IntKind.wrap .i64 (x4 + (1 : Int))) ((o0 ++ (wordD (((List.length (List.getD x0 (Int.toNat x4) (pieceR.dflt))) : Nat) : Int))) ++ (List.getD x0 (Int.toNat x4) (pieceR.dflt)))) else none) else none) else none) else none) else none)) else none) else (k1 o0))
noncomputable def Q_s_FramesOf_5_0 : Nat → (List T_Piece) → Int → (List Int) → ((List Int) → Option Ret) → ((List Int) → Option Ret) → Option Ret
  | 0, _, _, _, _, _ => none
  | m + 1, x0, x4, o0, k0, k1 => P_s_FramesOf_5_0 x0 x4 o0 (fun x0 x4 o0 => (Q_s_FramesOf_5_0 m x0 x4 o0 k0 k1)) k0 k1
noncomputable def R_s_FramesOf_5_0 (x0 : List T_Piece) (x4 : Int) (o0 : List Int) (k0 : (List Int) → Option Ret) (k1 : (List Int) → Option Ret) : Option Ret := Q_s_FramesOf_5_0 (List.length x0 + x4.toNat + List.length o0 + 2) x0 x4 o0 k0 k1
noncomputable def W_s_FramesOf_5 : LoopFn := (fun (σ : St) (K : Ex → St → Option Ret) => (match sh_s_FramesOf_5_0.un σ with | some d => w_s_FramesOf_5_0 d (fun x0 x4 o0 => R_s_FramesOf_5_0 x0 x4 o0 (fun o0 => (K .ret (z_s_FramesOf_5_0 o0))) (fun o0 => (K (.ext 0) (z_s_FramesOf_5_1 o0)))) | none => none))
noncomputable abbrev pl_s_FramesOf : List (Nat × Plan × List Nat) := [(9, takeB [0, 1, 2, 3, 4, 5, 6, 9, 10, 11, 12, 13] (.fork (.one 7 (.fork (.one 8 (.fork (.one 14 (takes [15]))))))), [3])]
noncomputable abbrev ls_s_FramesOf : List (Nat × Bool × Sm) := [(N.s_l09Two, true, S_s_l09Two)]
noncomputable abbrev E_s_FramesOf : Env := En ls_s_FramesOf pl_s_FramesOf [(5, [0,3,4], [2,3], W_s_FramesOf_5)] [] false 0 []
noncomputable abbrev U_s_FramesOf_5 := rounds (run E_s_FramesOf (bodyOf F.s_FramesOf 5)) [0,3,4] [2,3]
theorem st_s_FramesOf_5_0 (m : Nat) (x0 : List T_Piece) (x4 : Int) (o0 : List Int) (K : Ex → St → Option Ret) : U_s_FramesOf_5 (m + 1) (s_s_FramesOf_5_0 x0 x4 o0) K = P_s_FramesOf_5_0 x0 x4 o0 (fun x0 x4 o0 => (U_s_FramesOf_5 m (s_s_FramesOf_5_0 x0 x4 o0) K)) (fun o0 => (K .ret (z_s_FramesOf_5_0 o0))) (fun o0 => (K (.ext 0) (z_s_FramesOf_5_1 o0))) := by kernel_rfl
theorem q_s_FramesOf_5 (K : Ex → St → Option Ret) : ∀ m : Nat, (∀ (x0 : List T_Piece) (x4 : Int) (o0 : List Int), U_s_FramesOf_5 m (s_s_FramesOf_5_0 x0 x4 o0) K = Q_s_FramesOf_5_0 m x0 x4 o0 (fun o0 => (K .ret (z_s_FramesOf_5_0 o0))) (fun o0 => (K (.ext 0) (z_s_FramesOf_5_1 o0))))
  | 0 => (fun _ _ _ => rfl)
  | m + 1 => (fun x0 x4 o0 => (by rw [st_s_FramesOf_5_0, show (fun x0 x4 o0 => (U_s_FramesOf_5 m (s_s_FramesOf_5_0 x0 x4 o0) K)) = (fun x0 x4 o0 => (Q_s_FramesOf_5_0 m x0 x4 o0 (fun o0 => (K .ret (z_s_FramesOf_5_0 o0))) (fun o0 => (K (.ext 0) (z_s_FramesOf_5_1 o0))))) from funext fun x0 => funext fun x4 => funext fun o0 => (q_s_FramesOf_5 K m) x0 x4 o0]; rfl))
theorem loopK_s_FramesOf_5 : LoopOk E_s_FramesOf (bodyOf F.s_FramesOf 5) := by
  refine loopW_ok (n := 5) (F := W_s_FramesOf_5) (by kernel_rfl) rfl (li := [0,3,4]) (lo := [2,3]) rfl (fun σ K r hr => ?_)
  unfold W_s_FramesOf_5 at hr
  split at hr
  · rename_i d hd
    rw [Ss.un_mk hd]
    exact ⟨_, ((congrArg (fun z => U_s_FramesOf_5 _ z K) (se_s_FramesOf_5_0 _ _ _)).trans ((q_s_FramesOf_5 K _) _ _ _)).trans hr⟩
  · cases hr
noncomputable def T_s_FramesOf (l : List T_Piece) (K : Ret → Option Ret) : Option Ret := (bif (decide ((((List.length l) : Nat) : Int) > (100 : Int))) then K ((.l .deep bytesR ([] : List Int)), []) else (R_s_FramesOf_5_0 l (0 : Int) ([] : List Int) (fun y0 => K ((.l .deep bytesR ([] : List Int)), [])) (fun y1 => K ((.l .deep bytesR y1), []))))
theorem e_s_FramesOf (l : List T_Piece) (K : Ret → Option Ret) : evF E_s_FramesOf true F.s_FramesOf [.l .no pieceR l] K = T_s_FramesOf l K := by kernel_rfl
def S_s_FramesOf : Sm := S_fnR [.l pieceR] (fun d => fitC (.sl pieceR) d.1) (fun d => (.l .deep bytesR (framesD d.1), []))
theorem v_s_FramesOf (l : List T_Piece) (h : (fitC (.sl pieceR) l) = true) (K : Ret → Option Ret) : T_s_FramesOf l K = K (.l .deep bytesR (framesD l), []) := by
  have hl := fitC_len h
  unfold T_s_FramesOf framesD framesOkD
  by_cases h100 : ((l.length : Nat) : Int) > 100
  · rw [decide_eq_true h100, show Nat.ble l.length 100 = false from Bool.eq_false_iff.2 (fun e => by have := Nat.le_of_ble_eq_true e; omega)]; rfl
  rw [decide_eq_false h100, Nat.ble_eq_true_of_le (show l.length ≤ 100 by omega)]
  have q : ∀ (m i : Nat), i ≤ l.length → l.length - i < m → (∀ p ∈ l.take i, p.length ≤ 1000) → Q_s_FramesOf_5_0 m l ((i : Nat) : Int) (frameL (l.take i)) (fun y0 => K ((.l .deep bytesR ([] : List Int)), [])) (fun y1 => K ((.l .deep bytesR y1), [])) = K (.l .deep bytesR (bif (l.drop i).all (fun p => Nat.ble p.length 1000) then frameL l else []), []) := by
    intro m
    induction m with
    | zero => intro i _ hm; omega
    | succ m ih =>
      intro i hi hm hp
      show P_s_FramesOf_5_0 l ((i : Nat) : Int) _ _ _ _ = _
      unfold P_s_FramesOf_5_0
      by_cases hlt : i < l.length
      · have hd : l.drop i = l.getD i [] :: l.drop (i + 1) := by rw [getD_lt [] hlt]; exact (List.getElem_cons_drop hlt).symm
        have hf2 : frameL (l.take (i + 1)) = frameL (l.take i) ++ frameD (l.getD i []) := by rw [← take_one [] hlt, frameL_app, frameL_one]
        have hfl := frameL_len (l.take i) hp
        rw [List.length_take] at hfl
        rw [decide_eq_true (show ((i : Nat) : Int) < ((l.length : Nat) : Int) by omega), decide_eq_true (show (0 : Int) ≤ ((i : Nat) : Int) by omega), Int.toNat_natCast, wrap_in (n := ((i : Nat) : Int) + 1) (by omega) (by omega), show ((i : Nat) : Int) + 1 = ((i + 1 : Nat) : Int) by omega, show l.getD i pieceR.dflt = l.getD i [] from rfl, hd, List.all_cons]
        by_cases hc : (l.getD i []).length ≤ 1000
        · have hw : isWordD (((l.getD i []).length : Nat) : Int) = true := isWordD_iff.2 ⟨by omega, by omega⟩
          have hwl : (wordD (((l.getD i []).length : Nat) : Int)).length = 2 := rfl
          rw [decide_eq_false (show ¬ (((l.getD i []).length : Nat) : Int) > 1000 by omega), hw, Nat.ble_eq_true_of_le hc, Nat.ble_eq_true_of_le (by rw [hwl]; omega), Nat.ble_eq_true_of_le (by rw [List.length_append, hwl]; omega)]
          have step := ih (i + 1) (by omega) (by omega) (fun p hq => by
            rw [← take_one [] hlt] at hq
            rcases List.mem_append.1 hq with hq | hq
            · exact hp p hq
            · rw [List.mem_singleton.1 hq]; exact hc)
          rw [hf2] at step
          rw [show frameL (l.take i) ++ frameD (l.getD i []) = frameL (l.take i) ++ wordD (((l.getD i []).length : Nat) : Int) ++ l.getD i [] by unfold frameD; rw [List.append_assoc]] at step
          exact step
        · rw [decide_eq_true (show (((l.getD i []).length : Nat) : Int) > 1000 by omega), show Nat.ble (l.getD i []).length 1000 = false from Bool.eq_false_iff.2 (fun e => hc (Nat.le_of_ble_eq_true e))]; rfl
      · obtain rfl : i = l.length := by omega
        rw [decide_eq_false (show ¬ ((l.length : Nat) : Int) < ((l.length : Nat) : Int) by omega), List.take_length, List.drop_length]; rfl
  refine (q _ 0 (Nat.zero_le _) (by omega) (fun p hq => by rw [List.take_zero] at hq; cases hq)).trans ?_
  rw [List.drop_zero]; rfl
theorem okS_s_FramesOf : OkFn prog I N.s_FramesOf true S_s_FramesOf := okN (ok_fn (memc okS_s_l09Two mem0) (l := ls_s_FramesOf) (p := pl_s_FramesOf) (ls := [(5, [0,3,4], [2,3], W_s_FramesOf_5)]) (lend := []) (focus := false) (fuel := 0) (give := []) (fn := F.s_FramesOf) (by kernel_rfl) (by kernel_rfl) (by kernel_rfl) (by kernel_rfl) (cs := [bodyOf F.s_FramesOf 5]) (by kernel_rfl) (loopsc loopK_s_FramesOf_5 loops0)) (S_fnR_of fun d K h => (e_s_FramesOf d.1 K).trans (v_s_FramesOf d.1 h K))
end Go.Ev.Seat
end
section
/- l_bytesOf: its contract. -/
namespace Go.Ev.Seat
open Go.RowKit
set_option maxRecDepth 100000
set_option linter.unusedVariables false
set_option linter.unusedSimpArgs false
noncomputable abbrev E_l_bytesOf : Env := En [] [] [] [] false 0 []
noncomputable def T_l_bytesOf (d : List Int) (K : Ret → Option Ret) : Option Ret := (bif (Nat.ble (((List.length ([] : List Int)) + (List.length d)) * 1) 140737488355328) then K ((.l .deep bytesR (([] : List Int) ++ d)), []) else none)
theorem e_l_bytesOf (d : List Int) (K : Ret → Option Ret) : evF E_l_bytesOf true F.l_bytesOf [.l .no bytesR d] K = T_l_bytesOf d K := by kernel_rfl
def S_l_bytesOf : Sm := S_fnR [.l bytesR] (fun d => fitB d.1) (fun d => (.l .deep bytesR d.1, []))
theorem v_l_bytesOf (d : List Int) (h : (fitB d) = true) (K : Ret → Option Ret) : T_l_bytesOf d K = K (.l .deep bytesR d, []) := by
  have hl := fitB_len h
  unfold T_l_bytesOf
  rw [Nat.ble_eq_true_of_le (by rw [List.length_nil]; omega)]; rfl
theorem okS_l_bytesOf : OkFn prog I N.l_bytesOf true S_l_bytesOf := okN (ok_fn mem0 (l := []) (p := []) (ls := []) (lend := []) (focus := false) (fuel := 0) (give := []) (fn := F.l_bytesOf) (by kernel_rfl) (by kernel_rfl) (by kernel_rfl) (by kernel_rfl) (cs := []) (by kernel_rfl) loops0) (S_fnR_of fun d K h => (e_l_bytesOf d.1 K).trans (v_l_bytesOf d.1 h K))
end Go.Ev.Seat
end
section
/- i_readWord: its contract. -/
namespace Go.Ev.Seat
open Go.RowKit
set_option maxRecDepth 100000
set_option linter.unusedVariables false
set_option linter.unusedSimpArgs false
noncomputable abbrev pl_i_readWord : List (Nat × Plan × List Nat) := [(1, takes [0, 1, 2, 3, 4, 5, 6, 7, 8, 9, 10], [])]
noncomputable abbrev E_i_readWord : Env := En [] pl_i_readWord [] [] false 0 []
noncomputable def T_i_readWord (d : List Int) (K : Ret → Option Ret) : Option Ret := (bif (decide ((0 : Int) < (((List.length d) : Nat) : Int))) then (bif (decide ((1 : Int) < (((List.length d) : Nat) : Int))) then K ((.s (.int .i64 (bor .i64 (shlI .i64 (IntKind.wrap .i64 (List.getD d 0 (0 : Int))) (8 : Int)) (IntKind.wrap .i64 (List.getD d 1 (0 : Int)))))), []) else none) else none)
theorem e_i_readWord (d : List Int) (K : Ret → Option Ret) : evF E_i_readWord true F.i_readWord [.l .no bytesR d] K = T_i_readWord d K := by kernel_rfl
def S_i_readWord : Sm := S_fnR [.l bytesR] (fun d => fitB d.1 && decide (1 < ((d.1.length : Nat) : Int))) (fun d => (.s (.int .i64 (atD d.1 0)), []))
theorem v_i_readWord (d : List Int) (h : (fitB d && decide (1 < ((d.length : Nat) : Int))) = true) (K : Ret → Option Ret) : T_i_readWord d K = K (.s (.int .i64 (atD d 0)), []) := by
  simp only [Bool.and_eq_true, decide_eq_true_eq] at h
  obtain ⟨h1, h2⟩ := h
  have hl := fitB_len h1
  have a := fitB_getD h1 0
  have b := fitB_getD h1 1
  unfold T_i_readWord
  rw [decide_eq_true h2, decide_eq_true (show 0 < ((d.length : Nat) : Int) by omega), wrap_in (n := d.getD 0 0) (by omega) (by omega), wrap_in (n := d.getD 1 0) (by omega) (by omega)]
  have e : bor .i64 (shlI .i64 (d.getD 0 0) 8) (d.getD 1 0) = atD d 0 := by
    have q := bor_word (a := (d.getD 0 0).toNat) (b := (d.getD 1 0).toNat) (by omega) (by omega)
    rw [Int.toNat_of_nonneg a.1, Int.toNat_of_nonneg b.1] at q
    rw [q]
    show _ = 256 * d.getD 0 0 + d.getD 1 0
    omega
  rw [e]; rfl
theorem okS_i_readWord : OkFn prog I N.i_readWord true S_i_readWord := okN (ok_fn mem0 (l := []) (p := pl_i_readWord) (ls := []) (lend := []) (focus := false) (fuel := 0) (give := []) (fn := F.i_readWord) (by kernel_rfl) (by kernel_rfl) (by kernel_rfl) (by kernel_rfl) (cs := []) (by kernel_rfl) loops0) (S_fnR_of fun d K h => (e_i_readWord d.1 K).trans (v_i_readWord d.1 h K))
end Go.Ev.Seat
end
section
/- slices_Clone_bytes_byte: its contract. -/
namespace Go.Ev.Seat
open Go.RowKit
set_option maxRecDepth 100000
set_option linter.unusedVariables false
set_option linter.unusedSimpArgs false
noncomputable abbrev E_slices_Clone_bytes_byte : Env := En [] [] [] [] false 0 []
noncomputable def T_slices_Clone_bytes_byte (l : List Int) (K : Ret → Option Ret) : Option Ret := (bif (Nat.beq (List.length l) 0) then (meet (K ((.l .deep bytesR ([] : List Int)), [])) ((bif (Nat.ble (((List.length ([] : List Int)) + (List.length l)) * 1) 140737488355328) then K ((.l .deep bytesR (([] : List Int) ++ l)), []) else none))) else (bif (Nat.ble (((List.length ([] : List Int)) + (List.length l)) * 1) 140737488355328) then K ((.l .deep bytesR (([] : List Int) ++ l)), []) else none))
theorem e_slices_Clone_bytes_byte (l : List Int) (K : Ret → Option Ret) : evF E_slices_Clone_bytes_byte true F.slices_Clone_bytes_byte [.l .no bytesR l] K = T_slices_Clone_bytes_byte l K := by kernel_rfl
def S_slices_Clone_bytes_byte : Sm := S_fnR [.l bytesR] (fun d => Cc.lim (Cc.sl bytesR) d.1) (fun d => (.l .deep bytesR d.1, []))
theorem v_slices_Clone_bytes_byte (l : List Int) (h : (Cc.lim (Cc.sl bytesR) l) = true) (K : Ret → Option Ret) : T_slices_Clone_bytes_byte l K = K (.l .deep bytesR l, []) := by
  have h1 : l.length ≤ 1048576 := by
    simp only [Cc.lim, Bool.and_eq_true] at h
    exact Nat.le_of_ble_eq_true h.1
  unfold T_slices_Clone_bytes_byte
  rw [Nat.ble_eq_true_of_le (by simp; omega)]
  cases l with
  | nil => exact meet_self _
  | cons x xs => rfl
theorem okS_slices_Clone_bytes_byte : OkFn prog I N.slices_Clone_bytes_byte true S_slices_Clone_bytes_byte := okN (ok_fn mem0 (l := []) (p := []) (ls := []) (lend := []) (focus := false) (fuel := 0) (give := []) (fn := F.slices_Clone_bytes_byte) (by kernel_rfl) (by kernel_rfl) (by kernel_rfl) (by kernel_rfl) (cs := []) (by kernel_rfl) loops0) (S_fnR_of fun d K h => (e_slices_Clone_bytes_byte d.1 K).trans (v_slices_Clone_bytes_byte d.1 h K))
end Go.Ev.Seat
end
section
/- i_framesCut: its contract. -/
namespace Go.Ev.Seat
open Go.RowKit
set_option maxRecDepth 100000
set_option linter.unusedVariables false
set_option linter.unusedSimpArgs false
def z_i_framesCut_2_0 (x5 : Int) (o0 : List T_Piece) : St := { tm := ([.x, .x, .x, .x, (.w 0), (.s (.int .i64 x5))] ++ List.replicate 46 .x), ob := [(0, (.arr true true pieceR o0))], nx := 1, io := [] }
def sh_i_framesCut_2_0 : Ss := { tm := (.cons (.l .no bytesR) (.cons (.x) (.cons (.x) (.cons (.x) (.cons (.w 0) (.cons (.int .i64) (xsh 46))))))), ob := (.arr true true pieceR .nil), nx := 1, io := .nil }
def d_i_framesCut_2_0 (x0 : List Int) (x5 : Int) (o0 : List T_Piece) : sh_i_framesCut_2_0.T := ((x0, ((), ((), ((), ((), (x5, xd 46)))))), (o0, ()), ())
def s_i_framesCut_2_0 (x0 : List Int) (x5 : Int) (o0 : List T_Piece) : St := { tm := ([(.l .no bytesR x0), .x, .x, .x, (.w 0), (.s (.int .i64 x5))] ++ List.replicate 46 .x), ob := [(0, (.arr true true pieceR o0))], nx := 1, io := [] }
theorem se_i_framesCut_2_0 (x0 : List Int) (x5 : Int) (o0 : List T_Piece) : sh_i_framesCut_2_0.mk' (d_i_framesCut_2_0 x0 x5 o0) = (s_i_framesCut_2_0 x0 x5 o0) := by kernel_rfl
def w_i_framesCut_2_0 (d : sh_i_framesCut_2_0.T) (f : (List Int) → Int → (List T_Piece) → Option Ret) : Option Ret := match d with | ((x0, (_, (_, (_, (_, (x5, _)))))), (o0, _), _) => f x0 x5 o0
noncomputable def P_i_framesCut_2_0 (x0 : List Int) (x5 : Int) (o0 : List T_Piece) (nx0 : (List Int) → Int → (List T_Piece) → Option Ret) (k0 : Int → (List T_Piece) → Option Ret) : Option Ret := (bif (decide ((((List.length o0) : Nat) : Int) < (100 : Int))) then (bif (decide ((IntKind.wrap .i64 (x5 + (2 : Int))) ≤ (((List.length x0) : Nat) : Int))) then (bif ((decide ((0 : Int) ≤ x5)) && (decide (x5 ≤ (((List.length x0) : Nat) : Int)))) then (bif ((fitB (List.drop (Int.toNat x5) x0)) && (decide ((1 : Int) < (((List.length (List.drop (Int.toNat x5) x0)) : Nat) : Int)))) then (bif (decide ((atD (List.drop (Int.toNat x5) x0) (0 : Int)) > (1000 : Int))) then (k0 x5 o0) else (bif (decide ((IntKind.wrap .i64 ((IntKind.wrap .i64 (x5 + (2 : Int))) + (atD (List.drop (Int.toNat x5) x0) (0 : Int)))) > (((List.length x0) : Nat) : Int))) then (k0 x5 o0) else (bif (((decide ((0 : Int) ≤ (IntKind.wrap .i64 (x5 + (2 : Int))))) && (decide ((IntKind.wrap .i64 (x5 + (2 : Int))) ≤ (IntKind.wrap .i64 ((IntKind.wrap .i64 (x5 + (2 : Int))) + (atD (List.drop (Int.toNat x5) x0) (0 : Int))))))) && (decide ((IntKind.wrap .i64 ((IntKind.wrap .i64 (x5 + (2 : Int))) + (atD (List.drop (Int.toNat x5) x0) (0 : Int)))) ≤ (((List.length x0) : Nat) : Int)))) then (bif (Cc.lim (Cc.sl bytesR) (List.drop (Int.toNat (IntKind.wrap .i64 (x5 + (2 : Int)))) (List.take (Int.toNat (IntKind.wrap .i64 ((IntKind.wrap .i64 (x5 + (2 : Int))) + (atD (List.drop (Int.toNat x5) x0) (0 : Int))))) x0))) then (bif (Nat.ble (((List.length o0) + (List.length ((List.drop (Int.toNat (IntKind.wrap .i64 (x5 + (2 : Int)))) (List.take (Int.toNat (IntKind.wrap .i64 ((IntKind.wrap .i64 (x5 + (2 : Int))) + (atD (List.drop (Int.toNat x5) x0) (0 : Int))))) x0)) :: []))) * 24) 140737488355328) then (nx0 x0 (IntKind.wrap .i64 (x5 + (IntKind.wrap .i64 ((2 : Int) + (atD (List.drop (Int.toNat x5) x0) (0 : Int)))))) (o0 ++ ((List.drop (Int.toNat (IntKind.wrap .i64 (x5 + (2 : Int)))) (List.take (Int.toNat (IntKind.wrap .i64 ((IntKind.wrap .i64 (x5 + (2 : Int))) + (atD (List.drop (Int.toNat x5) x0) (0 : Int))))) x0)) :: []))) else none) else none) else none))) else none) else none) else (k0 x5 o0)) else (k0 x5 o0))
noncomputable def Q_i_framesCut_2_0 : Nat → (List Int) → Int → (List T_Piece) → (Int → (List T_Piece) → Option Ret) → Option Ret
  | 0, _, _, _, _ => none
  | m + 1, x0, x5, o0, k0 => P_i_framesCut_2_0 x0 x5 o0 (fun x0 x5 o0 => (Q_i_framesCut_2_0 m x0 x5 o0 k0)) k0
noncomputable def R_i_framesCut_2_0 (x0 : List Int) (x5 : Int) (o0 : List T_Piece) (k0 : Int → (List T_Piece) → Option Ret) : Option Ret := Q_i_framesCut_2_0 (List.length x0 + x5.toNat + List.length o0 + 2) x0 x5 o0 k0
noncomputable def W_i_framesCut_2 : LoopFn := (fun (σ : St) (K : Ex → St → Option Ret) => (match sh_i_framesCut_2_0.un σ with | some d => w_i_framesCut_2_0 d (fun x0 x5 o0 => R_i_framesCut_2_0 x0 x5 o0 (fun x5 o0 => (K (.ext 0) (z_i_framesCut_2_0 x5 o0)))) | none => none))
noncomputable abbrev ls_i_framesCut : List (Nat × Bool × Sm) := [(N.i_readWord, true, S_i_readWord), (N.slices_Clone_bytes_byte, true, S_slices_Clone_bytes_byte)]
noncomputable abbrev E_i_framesCut : Env := En ls_i_framesCut [] [(2, [0,4,5], [2,3,4,5], W_i_framesCut_2)] [] false 0 []
noncomputable abbrev U_i_framesCut_2 := rounds (run E_i_framesCut (bodyOf F.i_framesCut 2)) [0,4,5] [2,3,4,5]
theorem st_i_framesCut_2_0 (m : Nat) (x0 : List Int) (x5 : Int) (o0 : List T_Piece) (K : Ex → St → Option Ret) : U_i_framesCut_2 (m + 1) (s_i_framesCut_2_0 x0 x5 o0) K = P_i_framesCut_2_0 x0 x5 o0 (fun x0 x5 o0 => (U_i_framesCut_2 m (s_i_framesCut_2_0 x0 x5 o0) K)) (fun x5 o0 => (K (.ext 0) (z_i_framesCut_2_0 x5 o0))) := by kernel_rfl
theorem q_i_framesCut_2 (K : Ex → St → Option Ret) : ∀ m : Nat, (∀ (x0 : List Int) (x5 : Int) (o0 : List T_Piece), U_i_framesCut_2 m (s_i_framesCut_2_0 x0 x5 o0) K = Q_i_framesCut_2_0 m x0 x5 o0 (fun x5 o0 => (K (.ext 0) (z_i_framesCut_2_0 x5 o0))))
  | 0 => (fun _ _ _ => rfl)
  | m + 1 => (fun x0 x5 o0 => (by rw [st_i_framesCut_2_0, show (fun x0 x5 o0 => (U_i_framesCut_2 m (s_i_framesCut_2_0 x0 x5 o0) K)) = (fun x0 x5 o0 => (Q_i_framesCut_2_0 m x0 x5 o0 (fun x5 o0 => (K (.ext 0) (z_i_framesCut_2_0 x5 o0))))) from funext fun x0 => funext fun x5 => funext fun o0 => (q_i_framesCut_2 K m) x0 x5 o0]; rfl))
theorem loopK_i_framesCut_2 : LoopOk E_i_framesCut (bodyOf F.i_framesCut 2) := by
  refine loopW_ok (n := 2) (F := W_i_framesCut_2) (by kernel_rfl) rfl (li := [0,4,5]) (lo := [2,3,4,5]) rfl (fun σ K r hr => ?_)
  unfold W_i_framesCut_2 at hr
  split at hr
  · rename_i d hd
    rw [Ss.un_mk hd]
    exact ⟨_, ((congrArg (fun z => U_i_framesCut_2 _ z K) (se_i_framesCut_2_0 _ _ _)).trans ((q_i_framesCut_2 K _) _ _ _)).trans hr⟩
  · cases hr
noncomputable def T_i_framesCut (d : List Int) (K : Ret → Option Ret) : Option Ret := (R_i_framesCut_2_0 d (0 : Int) [] (fun y0 y1 => K ((.t [(.l .deep pieceR y1), (.s (.int .i64 y0))]), [])))
theorem e_i_framesCut (d : List Int) (K : Ret → Option Ret) : evF E_i_framesCut true F.i_framesCut [.l .no bytesR d] K = T_i_framesCut d K := by kernel_rfl
def S_i_framesCut : Sm := S_fnR [.l bytesR] (fun d => fitB d.1) (fun d => (.t [.l .deep pieceR (cutF 100 d.1).1, sc (((cutF 100 d.1).2 : Nat) : Int)], []))
theorem v_i_framesCut (d : List Int) (h : (fitB d) = true) (K : Ret → Option Ret) : T_i_framesCut d K = K (.t [.l .deep pieceR (cutF 100 d).1, sc (((cutF 100 d).2 : Nat) : Int)], []) := by
  have hl := fitB_len h
  unfold T_i_framesCut
  have q : ∀ (m n a : Nat) (o : List T_Piece), a ≤ d.length → o.length + n = 100 → d.length - a < m → Q_i_framesCut_2_0 m d ((a : Nat) : Int) o (fun y0 y1 => K ((.t [(.l .deep pieceR y1), (.s (.int .i64 y0))]), [])) = K (.t [.l .deep pieceR (o ++ (cutF n (d.drop a)).1), .s (.int .i64 ((a + (cutF n (d.drop a)).2 : Nat) : Int))], []) := by
    intro m
    induction m with
    | zero => intro n a o _ _ hm; omega
    | succ m ih =>
      intro n a o ha ho hm
      show P_i_framesCut_2_0 d ((a : Nat) : Int) o _ _ = _
      unfold P_i_framesCut_2_0
      have hfd := fitB_drop h a
      cases n with
      | zero =>
        rw [decide_eq_false (show ¬ ((o.length : Nat) : Int) < 100 by omega)]
        show K (.t [.l .deep pieceR o, .s (.int .i64 ((a : Nat) : Int))], []) = K (.t [.l .deep pieceR (o ++ []), .s (.int .i64 ((a + 0 : Nat) : Int))], [])
        rw [List.append_nil, Nat.add_zero]
      | succ n =>
        have stop : (cutF (n + 1) (d.drop a)) = ([], 0) → K (.t [.l .deep pieceR o, .s (.int .i64 ((a : Nat) : Int))], []) = K (.t [.l .deep pieceR (o ++ (cutF (n + 1) (d.drop a)).1), .s (.int .i64 ((a + (cutF (n + 1) (d.drop a)).2 : Nat) : Int))], []) := fun e => by
          rw [e, List.append_nil]; rfl
        have hdl : (d.drop a).length = d.length - a := List.length_drop
        rw [decide_eq_true (show ((o.length : Nat) : Int) < 100 by omega), wrap_in (n := ((a : Nat) : Int) + 2) (by omega) (by omega)]
        by_cases h2 : a + 2 ≤ d.length
        · have b0 := fitB_get hfd 0
          have b1 := fitB_get hfd 1
          have hat : 0 ≤ atD (d.drop a) 0 ∧ atD (d.drop a) 0 ≤ 65535 := by
            unfold atD
            show 0 ≤ 256 * (d.drop a).getD 0 0 + (d.drop a).getD 1 0 ∧ 256 * (d.drop a).getD 0 0 + (d.drop a).getD 1 0 ≤ 65535
            omega
          rw [decide_eq_true (show ((a : Nat) : Int) + 2 ≤ ((d.length : Nat) : Int) by omega), decide_eq_true (show (0 : Int) ≤ ((a : Nat) : Int) by omega), decide_eq_true (show ((a : Nat) : Int) ≤ ((d.length : Nat) : Int) by omega), Int.toNat_natCast, hfd, decide_eq_true (show (1 : Int) < (((d.drop a).length : Nat) : Int) by omega)]
          have unf : cutF (n + 1) (d.drop a) = bif decide (2 ≤ (d.drop a).length) && (decide (atD (d.drop a) 0 ≤ 1000) && decide (2 + atD (d.drop a) 0 ≤ (((d.drop a).length : Nat) : Int))) then
              (((d.drop a).drop 2).take (atD (d.drop a) 0).toNat :: (cutF n ((d.drop a).drop (2 + (atD (d.drop a) 0).toNat))).1, 2 + (atD (d.drop a) 0).toNat + (cutF n ((d.drop a).drop (2 + (atD (d.drop a) 0).toNat))).2) else ([], 0) := rfl
          rw [decide_eq_true (show 2 ≤ (d.drop a).length by omega), Bool.true_and] at unf
          obtain ⟨z, hz⟩ : ∃ z : Nat, atD (d.drop a) 0 = z := ⟨(atD (d.drop a) 0).toNat, by omega⟩
          rw [hz] at unf hat ⊢
          by_cases h1000 : ((z : Nat) : Int) > 1000
          · rw [decide_eq_true h1000]
            exact stop (by rw [unf, decide_eq_false (show ¬ ((z : Nat) : Int) ≤ 1000 by omega)]; rfl)
          rw [decide_eq_false h1000, wrap_in (n := ((a : Nat) : Int) + 2 + ((z : Nat) : Int)) (by omega) (by omega)]
          rw [decide_eq_true (show ((z : Nat) : Int) ≤ 1000 by omega), Bool.true_and] at unf
          by_cases hend : a + 2 + z ≤ d.length
          · rw [decide_eq_true (show 2 + ((z : Nat) : Int) ≤ (((d.drop a).length : Nat) : Int) by omega), cond_true, Int.toNat_natCast, List.drop_drop, List.drop_drop] at unf
            rw [decide_eq_false (show ¬ ((a : Nat) : Int) + 2 + ((z : Nat) : Int) > ((d.length : Nat) : Int) by omega), decide_eq_true (show (0 : Int) ≤ ((a : Nat) : Int) + 2 by omega), decide_eq_true (show ((a : Nat) : Int) + 2 ≤ ((a : Nat) : Int) + 2 + ((z : Nat) : Int) by omega), decide_eq_true (show ((a : Nat) : Int) + 2 + ((z : Nat) : Int) ≤ ((d.length : Nat) : Int) by omega), show (((a : Nat) : Int) + 2).toNat = a + 2 by omega, show (((a : Nat) : Int) + 2 + ((z : Nat) : Int)).toNat = a + 2 + z by omega, show List.drop (a + 2) (List.take (a + 2 + z) d) = (d.drop (a + 2)).take z by rw [List.drop_take, Nat.add_sub_cancel_left], show Cc.lim (Cc.sl bytesR) ((d.drop (a + 2)).take z) = true from bytes_lim (by rw [List.length_take, List.length_drop]; omega), Nat.ble_eq_true_of_le (by simp only [List.length_cons, List.length_nil]; omega), wrap_in (n := 2 + ((z : Nat) : Int)) (by omega) (by omega), wrap_in (n := ((a : Nat) : Int) + (2 + ((z : Nat) : Int))) (by omega) (by omega), show ((a : Nat) : Int) + (2 + ((z : Nat) : Int)) = ((a + (2 + z) : Nat) : Int) by omega]
            refine (ih n (a + (2 + z)) (o ++ [(d.drop (a + 2)).take z]) (by omega) (by rw [List.length_append]; simp only [List.length_cons, List.length_nil]; omega) (by omega)).trans ?_
            rw [unf, List.append_assoc]
            dsimp only
            rw [show a + (2 + z) + (cutF n (d.drop (a + (2 + z)))).2 = a + (2 + z + (cutF n (d.drop (a + (2 + z)))).2) by omega]
            rfl
          · rw [decide_eq_true (show ((a : Nat) : Int) + 2 + ((z : Nat) : Int) > ((d.length : Nat) : Int) by omega)]
            exact stop (by rw [unf, decide_eq_false (show ¬ 2 + ((z : Nat) : Int) ≤ (((d.drop a).length : Nat) : Int) by omega)]; rfl)
        · rw [decide_eq_false (show ¬ ((a : Nat) : Int) + 2 ≤ ((d.length : Nat) : Int) by omega)]
          refine stop ?_
          rw [cutF_succ]
          rw [decide_eq_false (show ¬ 2 ≤ (d.drop a).length by omega)]; rfl
  refine (q _ 100 0 [] (Nat.zero_le _) rfl (by omega)).trans ?_
  rw [List.drop_zero, Nat.zero_add]; rfl
theorem okS_i_framesCut : OkFn prog I N.i_framesCut true S_i_framesCut := okN (ok_fn (memc okS_i_readWord (memc okS_slices_Clone_bytes_byte mem0)) (l := ls_i_framesCut) (p := []) (ls := [(2, [0,4,5], [2,3,4,5], W_i_framesCut_2)]) (lend := []) (focus := false) (fuel := 0) (give := []) (fn := F.i_framesCut) (by kernel_rfl) (by kernel_rfl) (by kernel_rfl) (by kernel_rfl) (cs := [bodyOf F.i_framesCut 2]) (by kernel_rfl) (loopsc loopK_i_framesCut_2 loops0)) (S_fnR_of fun d K h => (e_i_framesCut d.1 K).trans (v_i_framesCut d.1 h K))
end Go.Ev.Seat
end
section
/- i_FramesCut: its contract. -/
namespace Go.Ev.Seat
open Go.RowKit
set_option maxRecDepth 100000
set_option linter.unusedVariables false
set_option linter.unusedSimpArgs false
noncomputable abbrev ls_i_FramesCut : List (Nat × Bool × Sm) := [(N.i_framesCut, true, S_i_framesCut)]
noncomputable abbrev E_i_FramesCut : Env := En ls_i_FramesCut [] [] [] false 0 []
noncomputable def T_i_FramesCut (d : List Int) (K : Ret → Option Ret) : Option Ret := (bif (fitB d) then K ((.t [(.l .deep pieceR (cutF 100 d).1), (.s (.int .i64 (((cutF 100 d).2 : Nat) : Int)))]), []) else none)
theorem e_i_FramesCut (d : List Int) (K : Ret → Option Ret) : evF E_i_FramesCut true F.i_FramesCut [.l .no bytesR d] K = T_i_FramesCut d K := by kernel_rfl
def S_i_FramesCut : Sm := S_fnR [.l bytesR] (fun d => fitB d.1) (fun d => (.t [.l .deep pieceR (cutF 100 d.1).1, sc (((cutF 100 d.1).2 : Nat) : Int)], []))
theorem v_i_FramesCut (d : List Int) (h : (fitB d) = true) (K : Ret → Option Ret) : T_i_FramesCut d K = K (.t [.l .deep pieceR (cutF 100 d).1, sc (((cutF 100 d).2 : Nat) : Int)], []) := by
  unfold T_i_FramesCut
  rw [h]; rfl
theorem okS_i_FramesCut : OkFn prog I N.i_FramesCut true S_i_FramesCut := okN (ok_fn (memc okS_i_framesCut mem0) (l := ls_i_FramesCut) (p := []) (ls := []) (lend := []) (focus := false) (fuel := 0) (give := []) (fn := F.i_FramesCut) (by kernel_rfl) (by kernel_rfl) (by kernel_rfl) (by kernel_rfl) (cs := []) (by kernel_rfl) loops0) (S_fnR_of fun d K h => (e_i_FramesCut d.1 K).trans (v_i_FramesCut d.1 h K))
end Go.Ev.Seat
end
section
/- l_pick: its contract. -/
namespace Go.Ev.Seat
open Go.RowKit
set_option maxRecDepth 100000
set_option linter.unusedVariables false
set_option linter.unusedSimpArgs false
def z_l_pick_5_0 (x1 : Int) (x2 : Int) (x7 : Int) : St := { tm := ([.x, (.s (.int .i64 x1)), (.s (.int .i64 x2)), .x, .x, .x, .x, (.s (.int .i64 x7))] ++ List.replicate 30 .x), ob := [], nx := 0, io := [] }
def sh_l_pick_5_0 : Ss := { tm := (.cons (.l .no bytesR) (.cons (.int .i64) (.cons (.int .i64) (.cons (.x) (.cons (.x) (.cons (.x) (.cons (.x) (.cons (.int .i64) (.cons (.int .i64) (xsh 29)))))))))), ob := .nil, nx := 0, io := .nil }
def d_l_pick_5_0 (x0 : List Int) (x1 : Int) (x2 : Int) (x7 : Int) (x8 : Int) : sh_l_pick_5_0.T := ((x0, (x1, (x2, ((), ((), ((), ((), (x7, (x8, xd 29))))))))), (), ())
def s_l_pick_5_0 (x0 : List Int) (x1 : Int) (x2 : Int) (x7 : Int) (x8 : Int) : St := { tm := ([(.l .no bytesR x0), (.s (.int .i64 x1)), (.s (.int .i64 x2)), .x, .x, .x, .x, (.s (.int .i64 x7)), (.s (.int .i64 x8))] ++ List.replicate 29 .x), ob := [], nx := 0, io := [] }
theorem se_l_pick_5_0 (x0 : List Int) (x1 : Int) (x2 : Int) (x7 : Int) (x8 : Int) : sh_l_pick_5_0.mk' (d_l_pick_5_0 x0 x1 x2 x7 x8) = (s_l_pick_5_0 x0 x1 x2 x7 x8) := by kernel_rfl
def w_l_pick_5_0 (d : sh_l_pick_5_0.T) (f : (List Int) → Int → Int → Int → Int → Option Ret) : Option Ret := match d with | ((x0, (x1, (x2, (_, (_, (_, (_, (x7, (x8, _))))))))), _, _) => f x0 x1 x2 x7 x8
noncomputable def P_l_pick_5_0 (x0 : List Int) (x1 : Int) (x2 : Int) (x7 : Int) (x8 : Int) (nx0 : (List Int) → Int → Int → Int → Int → Option Ret) (k0 : Int → Int → Int → Option Ret) : Option Ret := (bif (decide (x8 < (3 : Int))) then (bif (!((((List.length x0) : Nat) : Int) == (0 : Int))) then (bif ((decide ((0 : Int) ≤ (Int.tmod (IntKind.wrap .i64 (x1 + x8)) (((List.length x0) : Nat) : Int)))) && (decide ((Int.tmod (IntKind.wrap .i64 (x1 + x8)) (((List.length x0) : Nat) : Int)) < (((List.length x0) : Nat) : Int)))) then (nx0 x0 x1 x2 (IntKind.wrap .i64 ((IntKind.wrap .i64 ((31 : Int) * x7)) + (IntKind.wrap .i64 (List.getD x0 (Int.toNat (Int.tmod (IntKind.wrap .i64 (x1 + x8)) (((List.length x0) : Nat) : Int))) (0 : Int))))) (IntKind.wrap .i64 (x8 + (1 : Int)))) else none) else none) else (k0 x1 x2 x7))
noncomputable def Q_l_pick_5_0 : Nat → (List Int) → Int → Int → Int → Int → (Int → Int → Int → Option Ret) → Option Ret
  | 0, _, _, _, _, _, _ => none
  | m + 1, x0, x1, x2, x7, x8, k0 => P_l_pick_5_0 x0 x1 x2 x7 x8 (fun x0 x1 x2 x7 x8 => (Q_l_pick_5_0 m x0 x1 x2 x7 x8 k0)) k0
noncomputable def R_l_pick_5_0 (x0 : List Int) (x1 : Int) (x2 : Int) (x7 : Int) (x8 : Int) (k0 : Int → Int → Int → Option Ret) : Option Ret := Q_l_pick_5_0 (List.length x0 + x1.toNat + x2.toNat + x7.toNat + x8.toNat + 2) x0 x1 x2 x7 x8 k0
noncomputable def W_l_pick_5 : LoopFn := (fun (σ : St) (K : Ex → St → Option Ret) => (match sh_l_pick_5_0.un σ with | some d => w_l_pick_5_0 d (fun x0 x1 x2 x7 x8 => R_l_pick_5_0 x0 x1 x2 x7 x8 (fun x1 x2 x7 => (K (.ext 0) (z_l_pick_5_0 x1 x2 x7)))) | none => none))
noncomputable abbrev E_l_pick : Env := En [] [] [(5, [0,1,2,7,8], [1,2,6,7], W_l_pick_5)] [] false 0 []
noncomputable abbrev U_l_pick_5 := rounds (run E_l_pick (bodyOf F.l_pick 5)) [0,1,2,7,8] [1,2,6,7]
theorem st_l_pick_5_0 (m : Nat) (x0 : List Int) (x1 : Int) (x2 : Int) (x7 : Int) (x8 : Int) (K : Ex → St → Option Ret) : U_l_pick_5 (m + 1) (s_l_pick_5_0 x0 x1 x2 x7 x8) K = P_l_pick_5_0 x0 x1 x2 x7 x8 (fun x0 x1 x2 x7 x8 => (U_l_pick_5 m (s_l_pick_5_0 x0 x1 x2 x7 x8) K)) (fun x1 x2 x7 => (K (.ext 0) (z_l_pick_5_0 x1 x2 x7))) := by kernel_rfl
theorem q_l_pick_5 (K : Ex → St → Option Ret) : ∀ m : Nat, (∀ (x0 : List Int) (x1 : Int) (x2 : Int) (x7 : Int) (x8 : Int), U_l_pick_5 m (s_l_pick_5_0 x0 x1 x2 x7 x8) K = Q_l_pick_5_0 m x0 x1 x2 x7 x8 (fun x1 x2 x7 => (K (.ext 0) (z_l_pick_5_0 x1 x2 x7))))
  | 0 => (fun _ _ _ _ _ => rfl)
  | m + 1 => (fun x0 x1 x2 x7 x8 => (by rw [st_l_pick_5_0, show (fun x0 x1 x2 x7 x8 => (U_l_pick_5 m (s_l_pick_5_0 x0 x1 x2 x7 x8) K)) = (fun x0 x1 x2 x7 x8 => (Q_l_pick_5_0 m x0 x1 x2 x7 x8 (fun x1 x2 x7 => (K (.ext 0) (z_l_pick_5_0 x1 x2 x7))))) from funext fun x0 => funext fun x1 => funext fun x2 => funext fun x7 => funext fun x8 => (q_l_pick_5 K m) x0 x1 x2 x7 x8]; rfl))
theorem loopK_l_pick_5 : LoopOk E_l_pick (bodyOf F.l_pick 5) := by
  refine loopW_ok (n := 5) (F := W_l_pick_5) (by kernel_rfl) rfl (li := [0,1,2,7,8]) (lo := [1,2,6,7]) rfl (fun σ K r hr => ?_)
  unfold W_l_pick_5 at hr
  split at hr
  · rename_i d hd
    rw [Ss.un_mk hd]
    exact ⟨_, ((congrArg (fun z => U_l_pick_5 _ z K) (se_l_pick_5_0 _ _ _ _ _)).trans ((q_l_pick_5 K _) _ _ _ _ _)).trans hr⟩
  · cases hr
noncomputable def T_l_pick (code : List Int) (j : Int) (n : Int) (K : Ret → Option Ret) : Option Ret := (bif ((((List.length code) : Nat) : Int) == (0 : Int)) then K ((.s (.int .i64 (0 : Int))), []) else (bif (decide (n < (2 : Int))) then K ((.s (.int .i64 (0 : Int))), []) else (R_l_pick_5_0 code j n (0 : Int) (0 : Int) (fun y0 y1 y2 => (bif (!(y1 == (0 : Int))) then K ((.s (.int .i64 (Int.tmod (IntKind.wrap .i64 (y2 + y0)) y1))), []) else none)))))
theorem e_l_pick (code : List Int) (j : Int) (n : Int) (K : Ret → Option Ret) : evF E_l_pick true F.l_pick [.l .no bytesR code, .s (.int .i64 j), .s (.int .i64 n)] K = T_l_pick code j n K := by kernel_rfl
theorem pick_loop {P : Ret → Prop} {code : List Int} {at_ n : Int} (hf : fitB code = true) (hc : 0 < code.length) (h0 : 0 ≤ at_) (h1 : at_ ≤ 1000000) {F : Int → Int → Int → (Ret → Option Ret) → Option Ret} : ∀ (m k : Nat) (x : Int), k ≤ 3 → 3 - k < m → 0 ≤ x → ((k = 0 → x = 0) ∧ (k = 1 → x ≤ 255) ∧ (k = 2 → x ≤ 8160) ∧ (k = 3 → x ≤ 253215)) → (∀ y, 0 ≤ y → y ≤ 253215 → Dr P (F at_ n y)) → Dr P (fun K => Q_l_pick_5_0 m code at_ n x (k : Int) (fun a b c => F a b c K))
  | 0, k, x, _, h, _, _, _ => absurd h (by omega)
  | m + 1, k, x, hk, hm, hx0, hx1, hF => by
    show Dr P (fun K => P_l_pick_5_0 code at_ n x (k : Int) _ _)
    unfold P_l_pick_5_0
    by_cases h3 : k < 3
    · refine Dr.must (decide_eq_true (by omega)) ?_
      have e1 : IntKind.wrap .i64 (at_ + k) = at_ + k := wrap_in (by omega) (by omega)
      have e2 : Int.tmod (at_ + k) ((code.length : Nat) : Int) = (at_ + k) % ((code.length : Nat) : Int) := Int.tmod_eq_emod_of_nonneg (by omega)
      have := Int.emod_nonneg (at_ + k) (show ((code.length : Nat) : Int) ≠ 0 by omega)
      have := Int.emod_lt_of_pos (at_ + k) (show (0 : Int) < ((code.length : Nat) : Int) by omega)
      have hb := fitB_get hf ((at_ + k) % ((code.length : Nat) : Int)).toNat
      rw [e1, e2]
      refine Dr.must (by rw [Bool.not_eq_true', beq_eq_false_iff_ne]; omega) (Dr.must (by rw [Bool.and_eq_true, decide_eq_true_iff, decide_eq_true_iff]; omega) ?_)
      rw [wrap_in (n := 31 * x) (by omega) (by omega), wrap_in (n := code.getD ((at_ + k) % ((code.length : Nat) : Int)).toNat 0) (by omega) (by omega), wrap_in (n := 31 * x + code.getD ((at_ + k) % ((code.length : Nat) : Int)).toNat 0) (by omega) (by omega), show IntKind.wrap .i64 ((k : Int) + 1) = ((k + 1 : Nat) : Int) by rw [wrap_in (by omega) (by omega)]; omega]
      refine pick_loop hf hc h0 h1 m (k + 1) _ (by omega) (by omega) (by omega) (by omega) hF
    · refine Dr.bif (fun hc => ?_) (fun _ => hF x hx0 (by omega))
      simp at hc; omega
theorem x_l_pick (code : List Int) (j : Int) (n : Int) (h : (fitB code && decide (0 ≤ j) && decide (j ≤ 1000000)) = true) : ∃ (y : Int), (0 ≤ y ∧ (2 ≤ n → y < n) ∧ (n < 2 → y = 0)) ∧ ∀ K : Ret → Option Ret, T_l_pick code j n K = K (.s (.int .i64 y), []) := by
  suffices hd : Dr (fun r : Ret => ∃ (y : Int), (0 ≤ y ∧ (2 ≤ n → y < n) ∧ (n < 2 → y = 0)) ∧ r = (.s (.int .i64 y), [])) (fun K : Ret → Option Ret => T_l_pick code j n K) by
    obtain ⟨_, ⟨y, hp, rfl⟩, hk⟩ := hd
    exact ⟨y, hp, hk⟩
  simp only [Bool.and_eq_true, decide_eq_true_eq] at h
  obtain ⟨⟨hf, h0⟩, h1⟩ := h
  unfold T_l_pick
  refine Dr.bif (fun hc => Dr.leaf ⟨_, ⟨Int.le_refl 0, fun h => ?_, fun _ => rfl⟩, rfl⟩) (fun hc => ?_)
  · omega
  rw [beq_eq_false_iff_ne] at hc
  refine Dr.bif (fun h2 => Dr.leaf ⟨_, ⟨Int.le_refl 0, fun h => ?_, fun _ => rfl⟩, rfl⟩) (fun h2 => ?_)
  · omega
  simp only [decide_eq_false_iff_not] at h2
  unfold R_l_pick_5_0
  refine pick_loop hf (by omega) h0 h1 (F := fun y0 y1 y2 K => (bif (!(y1 == (0 : Int))) then
    K ((.s (.int .i64 (Int.tmod (IntKind.wrap .i64 (y2 + y0)) y1))), [])
    else none)) _ 0 0 (by omega) (by omega) (by omega) (by omega) (fun y hy0 hy1 => ?_)
  refine Dr.must (by rw [Bool.not_eq_true', beq_eq_false_iff_ne]; omega) ?_
  rw [wrap_in (n := y + j) (by omega) (by omega), Int.tmod_eq_emod_of_nonneg (by omega)]
  have := Int.emod_nonneg (y + j) (show n ≠ 0 by omega)
  have := Int.emod_lt_of_pos (y + j) (show 0 < n by omega)
  exact Dr.leaf ⟨_, ⟨by omega, by omega, by omega⟩, rfl⟩
noncomputable def g_l_pick (code : List Int) (j : Int) (n : Int) : Int := Classical.epsilon fun g => (0 ≤ (g) ∧ (2 ≤ n → (g) < n) ∧ (n < 2 → (g) = 0)) ∧ ∀ K : Ret → Option Ret, T_l_pick code j n K = K (.s (.int .i64 (g)), [])
theorem gs_l_pick (code : List Int) (j : Int) (n : Int) (h : (fitB code && decide (0 ≤ j) && decide (j ≤ 1000000)) = true) : (0 ≤ (g_l_pick code j n) ∧ (2 ≤ n → (g_l_pick code j n) < n) ∧ (n < 2 → (g_l_pick code j n) = 0)) ∧ ∀ K : Ret → Option Ret, T_l_pick code j n K = K (.s (.int .i64 (g_l_pick code j n)), []) := by
  obtain ⟨y, hy, hk⟩ := x_l_pick code j n h
  exact Classical.epsilon_spec (p := fun g : Int => (0 ≤ (g) ∧ (2 ≤ n → (g) < n) ∧ (n < 2 → (g) = 0)) ∧ ∀ K : Ret → Option Ret, T_l_pick code j n K = K (.s (.int .i64 (g)), [])) ⟨y, hy, hk⟩
noncomputable def B_l_pick (code : List Int) (j : Int) (n : Int) (k : (Int) → Option Ret) : Option Ret := bif fitB code && decide (0 ≤ j) && decide (j ≤ 1000000) then k (g_l_pick code j n) else none
theorem b_l_pick (code : List Int) (j : Int) (n : Int) (h : (fitB code && decide (0 ≤ j) && decide (j ≤ 1000000)) = true) : ∃ (y : Int), (0 ≤ y ∧ (2 ≤ n → y < n) ∧ (n < 2 → y = 0)) ∧ ∀ k, B_l_pick code j n k = k y :=
  ⟨(g_l_pick code j n), (gs_l_pick code j n h).1, fun k => by unfold B_l_pick; rw [h]; rfl⟩
def SB_l_pick (B : (List Int) → (Int) → (Int) → ((Int) → Option Ret) → Option Ret) : Sm := S_B [.l bytesR, .i, .i] (fun d K => B d.1 d.2.1 d.2.2.1 (fun y => K (.s (.int .i64 y), [])))
theorem okS_l_pick : OkFn prog I N.l_pick true (SB_l_pick B_l_pick) := okN (ok_fn mem0 (l := []) (p := []) (ls := [(5, [0,1,2,7,8], [1,2,6,7], W_l_pick_5)]) (lend := []) (focus := false) (fuel := 0) (give := []) (fn := F.l_pick) (by kernel_rfl) (by kernel_rfl) (by kernel_rfl) (by kernel_rfl) (cs := [bodyOf F.l_pick 5]) (by kernel_rfl) (loopsc loopK_l_pick_5 loops0)) (S_B_of fun d K q hq => by
  refine (e_l_pick d.1 d.2.1 d.2.2.1 K).trans ?_
  unfold B_l_pick at hq
  cases hp : (fitB d.1 && decide (0 ≤ d.2.1) && decide (d.2.1 ≤ 1000000)) with
  | false => rw [hp] at hq; cases hq
  | true =>
    rw [hp] at hq
    exact ((gs_l_pick d.1 d.2.1 d.2.2.1 hp).2 K).trans hq)
end Go.Ev.Seat
end
section
/- l_FnFrames: its contract. -/
namespace Go.Ev.Seat
open Go.RowKit
set_option maxRecDepth 100000
set_option linter.unusedVariables false
set_option linter.unusedSimpArgs false
def z_l_FnFrames_11_0 (x0 : List Int) (x2 : Bool) (o0 : List T_Piece) (o1 : List Int) : St := { tm := ([(.l .no bytesR x0), .x, (.s (.bool x2)), (.w 0), (.w 1)] ++ List.replicate 101 .x), ob := [(0, (.arr true true pieceR o0)), (1, (.arr true true bytesR o1))], nx := 2, io := [] }
def z_l_FnFrames_11_1 (x0 : List Int) (o0 : List T_Piece) (o1 : List Int) : St := { tm := ([(.l .no bytesR x0), .x, .x, (.w 0), (.w 1)] ++ List.replicate 101 .x), ob := [(0, (.arr true true pieceR o0)), (1, (.arr true true bytesR o1))], nx := 2, io := [] }
def sh_l_FnFrames_11_0 : Ss := { tm := (.cons (.l .no bytesR) (.cons (.x) (.cons (.x) (.cons (.w 0) (.cons (.w 1) (.cons (.w 2) (.cons (.x) (.cons (.int .i64) (xsh 98))))))))), ob := (.arr true true pieceR (.arr true true bytesR (.arr true true pieceR .nil))), nx := 3, io := .nil }
def d_l_FnFrames_11_0 (x0 : List Int) (x7 : Int) (o0 : List T_Piece) (o1 : List Int) (o2 : List T_Piece) : sh_l_FnFrames_11_0.T := ((x0, ((), ((), ((), ((), ((), ((), (x7, xd 98)))))))), (o0, (o1, (o2, ()))), ())
def s_l_FnFrames_11_0 (x0 : List Int) (x7 : Int) (o0 : List T_Piece) (o1 : List Int) (o2 : List T_Piece) : St := { tm := ([(.l .no bytesR x0), .x, .x, (.w 0), (.w 1), (.w 2), .x, (.s (.int .i64 x7))] ++ List.replicate 98 .x), ob := [(0, (.arr true true pieceR o0)), (1, (.arr true true bytesR o1)), (2, (.arr true true pieceR o2))], nx := 3, io := [] }
theorem se_l_FnFrames_11_0 (x0 : List Int) (x7 : Int) (o0 : List T_Piece) (o1 : List Int) (o2 : List T_Piece) : sh_l_FnFrames_11_0.mk' (d_l_FnFrames_11_0 x0 x7 o0 o1 o2) = (s_l_FnFrames_11_0 x0 x7 o0 o1 o2) := by kernel_rfl
def w_l_FnFrames_11_0 (d : sh_l_FnFrames_11_0.T) (f : (List Int) → Int → (List T_Piece) → (List Int) → (List T_Piece) → Option Ret) : Option Ret := match d with | ((x0, (_, (_, (_, (_, (_, (_, (x7, _)))))))), (o0, (o1, (o2, _))), _) => f x0 x7 o0 o1 o2
noncomputable def P_l_FnFrames_11_0 (x0 : List Int) (x7 : Int) (o0 : List T_Piece) (o1 : List Int) (o2 : List T_Piece) (nx0 : (List Int) → Int → (List T_Piece) → (List Int) → (List T_Piece) → Option Ret) (k0 : (List Int) → Bool → (List T_Piece) → (List Int) → Option Ret) (k1 : (List Int) → (List T_Piece) → (List Int) → Option Ret) : Option Ret := (bif (decide (x7 < (((List.length o0) : Nat) : Int))) then (bif ((decide ((0 : Int) ≤ x7)) && (decide (x7 < (((List.length o2) : Nat) : Int)))) then (bif ((decide ((0 : Int) ≤ x7)) && (decide (x7 < (((List.length o0) : Nat) : Int)))) then (meet ((bif (!((ByteArray.toList (bstr (List.getD o2 (Int.toNat x7) (pieceR.dflt)))) == (ByteArray.toList (bstr (List.getD o0 (Int.toNat x7) (pieceR.dflt)))))) then (k0 x0 false o0 o1) else (nx0 x0 (IntKind.wrap .i64 (x7 + (1 : Int))) o0 o1 o2))) ((bif (!((ByteArray.toList (bstr (List.getD o2 (Int.toNat x7) (pieceR.dflt)))) == (ByteArray.toList (bstr (List.getD o0 (Int.toNat x7) (pieceR.dflt)))))) then (k0 x0 false o0 o1) else (nx0 x0 (IntKind.wrap .i64 (x7 + (1 : Int))) o0 o1 o2)))) else none) else none) else (k1 x0 o0 o1))
noncomputable def Q_l_FnFrames_11_0 : Nat → (List Int) → Int → (List T_Piece) → (List Int) → (List T_Piece) → ((List Int) → Bool → (List T_Piece) → (List Int) → Option Ret) → ((List Int) → (List T_Piece) → (List Int) → Option Ret) → Option Ret
  | 0, _, _, _, _, _, _, _ => none
  | m + 1, x0, x7, o0, o1, o2, k0, k1 => P_l_FnFrames_11_0 x0 x7 o0 o1 o2 (fun x0 x7 o0 o1 o2 => (Q_l_FnFrames_11_0 m x0 x7 o0 o1 o2 k0 k1)) k0 k1
noncomputable def R_l_FnFrames_11_0 (x0 : List Int) (x7 : Int) (o0 : List T_Piece) (o1 : List Int) (o2 : List T_Piece) (k0 : (List Int) → Bool → (List T_Piece) → (List Int) → Option Ret) (k1 : (List Int) → (List T_Piece) → (List Int) → Option Ret) : Option Ret := Q_l_FnFrames_11_0 (List.length x0 + x7.toNat + List.length o0 + List.length o1 + List.length o2 + 2) x0 x7 o0 o1 o2 k0 k1
noncomputable def W_l_FnFrames_11 : LoopFn := (fun (σ : St) (K : Ex → St → Option Ret) => (match sh_l_FnFrames_11_0.un σ with | some d => w_l_FnFrames_11_0 d (fun x0 x7 o0 o1 o2 => R_l_FnFrames_11_0 x0 x7 o0 o1 o2 (fun x0 x2 o0 o1 => (K .ret (z_l_FnFrames_11_0 x0 x2 o0 o1))) (fun x0 o0 o1 => (K (.ext 0) (z_l_FnFrames_11_1 x0 o0 o1)))) | none => none))
noncomputable abbrev pl_l_FnFrames : List (Nat × Plan × List Nat) := [(5, takeB [0, 2] (.fork (.more 1 (.fork (.one 3 (.fork (.one 4 (takes [5, 6, 7, 8, 9, 10]))))) (.one 3 (.fork (.more 1 (.fork (.one 4 (takes [5, 6, 7, 8, 9, 10]))) (.one 4 (.fork (.one 1 (takes [5, 6, 7, 8, 9, 10]))))))))), []), (13, takeB [0, 1, 2, 3, 4, 6, 7, 8, 9, 10] (.fork (.more 5 (.fork (.one 11 (takes [12]))) (.one 11 (.fork (.one 5 (takes [12])))))), [])]
noncomputable abbrev ls_l_FnFrames : List (Nat × Bool × Sm) := [(N.l_big, true, S_l_big), (N.s_DrawFramesOf, false, (SB_s_DrawFramesOf B_s_DrawFramesOf)), (N.i_FramesOf, true, S_i_FramesOf), (N.s_FramesOf, true, S_s_FramesOf), (N.l_bytesOf, true, S_l_bytesOf), (N.i_FramesCut, true, S_i_FramesCut), (N.l_pick, true, (SB_l_pick B_l_pick))]
noncomputable abbrev E_l_FnFrames : Env := En ls_l_FnFrames pl_l_FnFrames [(11, [0,3,4,5,7], [0,2,3,4], W_l_FnFrames_11)] [] false 0 []
noncomputable abbrev U_l_FnFrames_11 := rounds (run E_l_FnFrames (bodyOf F.l_FnFrames 11)) [0,3,4,5,7] [0,2,3,4]
theorem st_l_FnFrames_11_0 (m : Nat) (x0 : List Int) (x7 : Int) (o0 : List T_Piece) (o1 : List Int) (o2 : List T_Piece) (K : Ex → St → Option Ret) : U_l_FnFrames_11 (m + 1) (s_l_FnFrames_11_0 x0 x7 o0 o1 o2) K = P_l_FnFrames_11_0 x0 x7 o0 o1 o2 (fun x0 x7 o0 o1 o2 => (U_l_FnFrames_11 m (s_l_FnFrames_11_0 x0 x7 o0 o1 o2) K)) (fun x0 x2 o0 o1 => (K .ret (z_l_FnFrames_11_0 x0 x2 o0 o1))) (fun x0 o0 o1 => (K (.ext 0) (z_l_FnFrames_11_1 x0 o0 o1))) := by kernel_rfl
theorem q_l_FnFrames_11 (K : Ex → St → Option Ret) : ∀ m : Nat, (∀ (x0 : List Int) (x7 : Int) (o0 : List T_Piece) (o1 : List Int) (o2 : List T_Piece), U_l_FnFrames_11 m (s_l_FnFrames_11_0 x0 x7 o0 o1 o2) K = Q_l_FnFrames_11_0 m x0 x7 o0 o1 o2 (fun x0 x2 o0 o1 => (K .ret (z_l_FnFrames_11_0 x0 x2 o0 o1))) (fun x0 o0 o1 => (K (.ext 0) (z_l_FnFrames_11_1 x0 o0 o1))))
  | 0 => (fun _ _ _ _ _ => rfl)
  | m + 1 => (fun x0 x7 o0 o1 o2 => (by rw [st_l_FnFrames_11_0, show (fun x0 x7 o0 o1 o2 => (U_l_FnFrames_11 m (s_l_FnFrames_11_0 x0 x7 o0 o1 o2) K)) = (fun x0 x7 o0 o1 o2 => (Q_l_FnFrames_11_0 m x0 x7 o0 o1 o2 (fun x0 x2 o0 o1 => (K .ret (z_l_FnFrames_11_0 x0 x2 o0 o1))) (fun x0 o0 o1 => (K (.ext 0) (z_l_FnFrames_11_1 x0 o0 o1))))) from funext fun x0 => funext fun x7 => funext fun o0 => funext fun o1 => funext fun o2 => (q_l_FnFrames_11 K m) x0 x7 o0 o1 o2]; rfl))
theorem loopK_l_FnFrames_11 : LoopOk E_l_FnFrames (bodyOf F.l_FnFrames 11) := by
  refine loopW_ok (n := 11) (F := W_l_FnFrames_11) (by kernel_rfl) rfl (li := [0,3,4,5,7]) (lo := [0,2,3,4]) rfl (fun σ K r hr => ?_)
  unfold W_l_FnFrames_11 at hr
  split at hr
  · rename_i d hd
    rw [Ss.un_mk hd]
    exact ⟨_, ((congrArg (fun z => U_l_FnFrames_11 _ z K) (se_l_FnFrames_11_0 _ _ _ _ _)).trans ((q_l_FnFrames_11 K _) _ _ _ _ _)).trans hr⟩
  · cases hr
noncomputable def T_l_FnFrames (code : List Int) (K : Ret → Option Ret) : Option Ret := (bif (decide ((((List.length code) : Nat) : Int) > (1048576 : Int))) then K ((.s (.bool true)), []) else (B_s_DrawFramesOf code (fun y0 => (bif (fitC (Cc.sl pieceR) y0) then (meet ((bif (fitC (Cc.sl pieceR) y0) then (bif (!((ByteArray.toList (bstr (framesD y0))) == (ByteArray.toList (bstr (framesD y0))))) then (bif (fitC (Cc.sl pieceR) y0) then K ((.s (.bool ((((List.length (framesD y0)) : Nat) : Int) == (((List.length (framesD y0)) : Nat) : Int)))), []) else none) else (bif ((((List.length (framesD y0)) : Nat) : Int) == (0 : Int)) then (bif (fitC (Cc.sl pieceR) y0) then K ((.s (.bool ((((List.length (framesD y0)) : Nat) : Int) == (((List.length (framesD y0)) : Nat) : Int)))), []) else none) else (bif (fitB (framesD y0)) then (bif (fitB (framesD y0)) then (bif ((((cutF 100 (framesD y0)).2 : Nat) : Int) != (((List.length (framesD y0)) : Nat) : Int)) then K ((.s (.bool false)), []) else (bif ((((List.length (cutF 100 (framesD y0)).1) : Nat) : Int) != (((List.length y0) : Nat) : Int)) then K ((.s (.bool false)), []) else (R_l_FnFrames_11_0 code (0 : Int) y0 (framesD y0) (cutF 100 (framesD y0)).1 (fun y1 y2 y3 y4 => K ((.s (.bool y2)), [])) (fun y5 y6 y7 => (bif ((decide ((0 : Int) ≤ (IntKind.wrap .i64 ((((List.length y6) : Nat) : Int) - (1 : Int))))) && (decide ((IntKind.wrap .i64 ((((List.length y6) : Nat) : Int) - (1 : Int))) < (((List.length y6) : Nat) : Int)))) then (B_l_pick y5 (3 : Int) (IntKind.wrap .i64 ((((List.length (List.getD y6 (Int.toNat (IntKind.wrap .i64 ((((List.length y6) : Nat) : Int) - (1 : Int)))) (pieceR.dflt))) : Nat) : Int) + (2 : Int))) (fun y8 => (bif ((decide ((0 : Int) ≤ (IntKind.wrap .i64 ((IntKind.wrap .i64 ((((List.length y7) : Nat) : Int) - (1 : Int))) - y8)))) && (decide ((IntKind.wrap .i64 ((IntKind.wrap .i64 ((((List.length y7) : Nat) : Int) - (1 : Int))) - y8)) ≤ (((List.length y7) : Nat) : Int)))) then (bif (fitB (List.take ((Int.toNat (IntKind.wrap .i64 ((IntKind.wrap .i64 ((((List.length y7) : Nat) : Int) - (1 : Int))) - y8))) - 0) (List.drop 0 y7))) then (bif ((((List.length (cutF 100 (List.take ((Int.toNat (IntKind.wrap .i64 ((IntKind.wrap .i64 ((((List.length y7) : Nat) : Int) - (1 : Int))) - y8))) - 0) (List.drop 0 y7))).1) : Nat) : Int) == (IntKind.wrap .i64 ((((List.length y6) : Nat) : Int) - (1 : Int)))) then K ((.s (.bool ((((cutF 100 (List.take ((Int.toNat (IntKind.wrap .i64 ((IntKind.wrap .i64 ((((List.length y7) : Nat) : Int) - (1 : Int))) - y8))) - 0) (List.drop 0 y7))).2 : Nat) : Int) == (IntKind.wrap .i64 ((((List.length y7) : Nat) : Int) - (IntKind.wrap .i64 ((((List.length (List.getD y6 (Int.toNat (IntKind.wrap .i64 ((((List.length y6) : Nat) : Int) - (1 : Int)))) (pieceR.dflt))) : Nat) : Int) + (2 : Int)))))))), []) else K ((.s (.bool false)), [])) else none) else none))) else none))))) else none) else none))) else none)) ((bif (fitC (Cc.sl pieceR) y0) then (meet ((bif (!((ByteArray.toList (bstr (framesD y0))) == (ByteArray.toList (bstr (framesD y0))))) then (bif (fitC (Cc.sl pieceR) y0) then K ((.s (.bool ((((List.length (framesD y0)) : Nat) : Int) == (((List.length (framesD y0)) : Nat) : Int)))), []) else none) else (bif ((((List.length (framesD y0)) : Nat) : Int) == (0 : Int)) then (bif (fitC (Cc.sl pieceR) y0) then K ((.s (.bool ((((List.length (framesD y0)) : Nat) : Int) == (((List.length (framesD y0)) : Nat) : Int)))), []) else none) else (bif (fitB (framesD y0)) then (bif (fitB (framesD y0)) then (bif ((((cutF 100 (framesD y0)).2 : Nat) : Int) != (((List.length (framesD y0)) : Nat) : Int)) then K ((.s (.bool false)), []) else (bif ((((List.length (cutF 100 (framesD y0)).1) : Nat) : Int) != (((List.length y0) : Nat) : Int)) then K ((.s (.bool false)), []) else (R_l_FnFrames_11_0 code (0 : Int) y0 (framesD y0) (cutF 100 (framesD y0)).1 (fun y9 y10 y11 y12 => K ((.s (.bool y10)), [])) (fun y13 y14 y15 => (bif ((decide ((0 : Int) ≤ (IntKind.wrap .i64 ((((List.length y14) : Nat) : Int) - (1 : Int))))) && (decide ((IntKind.wrap .i64 ((((List.length y14) : Nat) : Int) - (1 : Int))) < (((List.length y14) : Nat) : Int)))) then (B_l_pick y13 (3 : Int) (IntKind.wrap .i64 ((((List.length (List.getD y14 (Int.toNat (IntKind.wrap .i64 ((((List.length y14) : Nat) : Int) - (1 : Int)))) (pieceR.dflt))) : Nat) : Int) + (2 : Int))) (fun y16 => (bif ((decide ((0 : Int) ≤ (IntKind.wrap .i64 ((IntKind.wrap .i64 ((((List.length y15) : Nat) : Int) - (1 : Int))) - y16)))) && (decide ((IntKind.wrap .i64 ((IntKind.wrap .i64 ((((List.length y15) : Nat) : Int) - (1 : Int))) - y16)) ≤ (((List.length y15) : Nat) : Int)))) then (bif (fitB (List.take ((Int.toNat (IntKind.wrap .i64 ((IntKind.wrap .i64 ((((List.length y15) : Nat) : Int) - (1 : Int))) - y16))) - 0) (List.drop 0 y15))) then (bif ((((List.length (cutF 100 (List.take ((Int.toNat (IntKind.wrap .i64 ((IntKind.wrap .i64 ((((List.length y15) : Nat) : Int) - (1 : Int))) - y16))) - 0) (List.drop 0 y15))).1) : Nat) : Int) == (IntKind.wrap .i64 ((((List.length y14) : Nat) : Int) - (1 : Int)))) then K ((.s (.bool ((((cutF 100 (List.take ((Int.toNat (IntKind.wrap .i64 ((IntKind.wrap .i64 ((((List.length y15) : Nat) : Int) - (1 : Int))) - y16))) - 0) (List.drop 0 y15))).2 : Nat) : Int) == (IntKind.wrap .i64 ((((List.length y15) : Nat) : Int) - (IntKind.wrap .i64 ((((List.length (List.getD y14 (Int.toNat (IntKind.wrap .i64 ((((List.length y14) : Nat) : Int) - (1 : Int)))) (pieceR.dflt))) : Nat) : Int) + (2 : Int)))))))), []) else K ((.s (.bool false)), [])) else none) else none))) else none))))) else none) else none)))) ((bif (!((ByteArray.toList (bstr (framesD y0))) == (ByteArray.toList (bstr (framesD y0))))) then (bif (fitC (Cc.sl pieceR) y0) then K ((.s (.bool ((((List.length (framesD y0)) : Nat) : Int) == (((List.length (framesD y0)) : Nat) : Int)))), []) else none) else (bif ((((List.length (framesD y0)) : Nat) : Int) == (0 : Int)) then (bif (fitC (Cc.sl pieceR) y0) then K ((.s (.bool ((((List.length (framesD y0)) : Nat) : Int) == (((List.length (framesD y0)) : Nat) : Int)))), []) else none) else (bif (fitB (framesD y0)) then (bif (fitB (framesD y0)) then (bif ((((cutF 100 (framesD y0)).2 : Nat) : Int) != (((List.length (framesD y0)) : Nat) : Int)) then K ((.s (.bool false)), []) else (bif ((((List.length (cutF 100 (framesD y0)).1) : Nat) : Int) != (((List.length y0) : Nat) : Int)) then K ((.s (.bool false)), []) else (R_l_FnFrames_11_0 code (0 : Int) y0 (framesD y0) (cutF 100 (framesD y0)).1 (fun y17 y18 y19 y20 => K ((.s (.bool y18)), [])) (fun y21 y22 y23 => (bif ((decide ((0 : Int) ≤ (IntKind.wrap .i64 ((((List.length y22) : Nat) : Int) - (1 : Int))))) && (decide ((IntKind.wrap .i64 ((((List.length y22) : Nat) : Int) - (1 : Int))) < (((List.length y22) : Nat) : Int)))) then (B_l_pick y21 (3 : Int) (IntKind.wrap .i64 ((((List.length (List.getD y22 (Int.toNat (IntKind.wrap .i64 ((((List.length y22) : Nat) : Int) - (1 : Int)))) (pieceR.dflt))) : Nat) : Int) + (2 : Int))) (fun y24 => (bif ((decide ((0 : Int) ≤ (IntKind.wrap .i64 ((IntKind.wrap .i64 ((((List.length y23) : Nat) : Int) - (1 : Int))) - y24)))) && (decide ((IntKind.wrap .i64 ((IntKind.wrap .i64 ((((List.length y23) : Nat) : Int) - (1 : Int))) - y24)) ≤ (((List.length y23) : Nat) : Int)))) then (bif (fitB (List.take ((Int.toNat (IntKind.wrap .i64 ((IntKind.wrap .i64 ((((List.length y23) : Nat) : Int) - (1 : Int))) - y24))) - 0) (List.drop 0 y23))) then (bif ((((List.length (cutF 100 (List.take ((Int.toNat (IntKind.wrap .i64 ((IntKind.wrap .i64 ((((List.length y23) : Nat) : Int) - (1 : Int))) - y24))) - 0) (List.drop 0 y23))).1) : Nat) : Int) == (IntKind.wrap .i64 ((((List.length y22) : Nat) : Int) - (1 : Int)))) then K ((.s (.bool ((((cutF 100 (List.take ((Int.toNat (IntKind.wrap .i64 ((IntKind.wrap .i64 ((((List.length y23) : Nat) : Int) - (1 : Int))) - y24))) - 0) (List.drop 0 y23))).2 : Nat) : Int) == (IntKind.wrap .i64 ((((List.length y23) : Nat) : Int) - (IntKind.wrap .i64 ((((List.length (List.getD y22 (Int.toNat (IntKind.wrap .i64 ((((List.length y22) : Nat) : Int) - (1 : Int)))) (pieceR.dflt))) : Nat) : Int) + (2 : Int)))))))), []) else K ((.s (.bool false)), [])) else none) else none))) else none))))) else none) else none))))) else none))) else none))))
theorem e_l_FnFrames (code : List Int) (K : Ret → Option Ret) : evF E_l_FnFrames true F.l_FnFrames [.l .no bytesR code] K = T_l_FnFrames code K := by kernel_rfl
def S_l_FnFrames : Sm := S_fnR [.l bytesR] (fun d => d.1.all isB) (fun d => (bl true, []))
theorem v_l_FnFrames (code : List Int) (h : (code.all isB) = true) (K : Ret → Option Ret) : T_l_FnFrames code K = K (bl true, []) := by
  unfold T_l_FnFrames
  by_cases hc : ((code.length : Nat) : Int) > 1048576
  · rw [decide_eq_true hc]; rfl
  have hf : fitB code = true := by unfold fitB; rw [Bool.and_eq_true]; exact ⟨Nat.ble_eq_true_of_le (by omega), h⟩
  rw [decide_eq_false hc]
  obtain ⟨l, hl, hk⟩ := b_s_DrawFramesOf code hf
  rw [cond_false, hk]
  simp only [hl, cond_true, beq_self_eq_true, Bool.not_true, cond_false, meet_self]
  cases hz : ((((framesD l).length : Nat) : Int) == 0) with
  | true => rfl
  | false =>
    rw [beq_eq_false_iff_ne] at hz
    have hok : framesOkD l = true := by
      cases e : framesOkD l with
      | true => rfl
      | false => exact absurd (by unfold framesD; rw [e]; rfl) hz
    have hd : framesD l = frameL l := by unfold framesD; rw [hok]; rfl
    unfold framesOkD at hok
    rw [Bool.and_eq_true, List.all_eq_true] at hok
    have hlen := Nat.le_of_ble_eq_true hok.1
    have hp : ∀ p ∈ l, p.length ≤ 1000 := fun p hp => Nat.le_of_ble_eq_true (hok.2 p hp)
    have hpb : ∀ p ∈ l, fitB p = true := fun p hp => fitC_mem (r := pieceR) hl hp
    have hbyte : ∀ x ∈ frameL l, 0 ≤ x ∧ x ≤ 255 := fun x hx => by
      unfold frameL at hx
      obtain ⟨y, hy, hx⟩ := List.mem_flatten.1 hx
      obtain ⟨p, hpl, rfl⟩ := List.mem_map.1 hy
      unfold frameD at hx
      rcases List.mem_append.1 hx with hx | hx
      · exact wordD_fit (isWordD_iff.2 ⟨by omega, by have := hp p hpl; omega⟩) x hx
      · exact fitB_mem (hpb p hpl) hx
    have hfl := frameL_len l hp
    have hfd : fitB (frameL l) = true := fitB_of (by omega) hbyte
    have hnil : ∀ n, cutF n [] = ([], 0) := fun n => by cases n <;> rfl
    have hcut : cutF 100 (frameL l) = (l, (frameL l).length) := by
      have := cutF_all l 100 [] hp hlen
      rw [hnil, List.append_nil, List.append_nil] at this
      exact this
    rw [hd] at hz ⊢
    rw [hfd, hcut]
    simp only [cond_true, cond_false, bne_self_eq_false]
    unfold R_l_FnFrames_11_0
    have q : ∀ (k0 : (List Int) → Bool → (List T_Piece) → (List Int) → Option Ret) (k1 : (List Int) → (List T_Piece) → (List Int) → Option Ret) (m i : Nat), i ≤ l.length → l.length - i < m → Q_l_FnFrames_11_0 m code ((i : Nat) : Int) l (frameL l) l k0 k1 = k1 code l (frameL l) := by
      intro k0 k1 m
      induction m with
      | zero => intro i _ hm; omega
      | succ m ih =>
        intro i hi hm
        show P_l_FnFrames_11_0 code ((i : Nat) : Int) l (frameL l) l _ _ _ = _
        unfold P_l_FnFrames_11_0
        by_cases hlt : i < l.length
        · rw [decide_eq_true (show ((i : Nat) : Int) < ((l.length : Nat) : Int) by omega), decide_eq_true (show (0 : Int) ≤ ((i : Nat) : Int) by omega), beq_self_eq_true, wrap_nat (by omega)]
          simp only [Bool.and_self, Bool.not_true, cond_true, cond_false, meet_self]
          exact ih (i + 1) (by omega) (by omega)
        · obtain rfl : i = l.length := by omega
          rw [decide_eq_false (show ¬ ((l.length : Nat) : Int) < ((l.length : Nat) : Int) by omega)]; rfl
    refine Eq.trans (q _ _ _ 0 (Nat.zero_le _) ?_) ?_
    · omega
    have hne : l ≠ [] := fun e => by rw [e] at hz; exact hz rfl
    have hpos : 0 < l.length := List.length_pos_iff.2 hne
    have hsplit : l = l.take (l.length - 1) ++ [l.getD (l.length - 1) []] := by
      have := take_one (l := l) (i := l.length - 1) [] (by omega)
      rw [this, show l.length - 1 + 1 = l.length by omega, List.take_length]
    have hpm : l.getD (l.length - 1) [] ∈ l := by rw [getD_lt [] (by omega)]; exact List.getElem_mem _
    have hp1 := hp _ hpm
    have hb1 : ∀ x ∈ l.getD (l.length - 1) [], 0 ≤ x ∧ x ≤ 255 := fun x hx => fitB_mem (hpb _ hpm) hx
    have hfr : frameL l = frameL (l.take (l.length - 1)) ++ frameD (l.getD (l.length - 1) []) := by
      conv => lhs; rw [hsplit]
      rw [frameL_app, frameL_one]
    have hfrl : (frameL l).length = (frameL (l.take (l.length - 1))).length + ((l.getD (l.length - 1) []).length + 2) := by rw [hfr, List.length_append, frameD_len]
    rw [wrap_in (n := ((l.length : Nat) : Int) - 1) (by omega) (by omega), show ((l.length : Nat) : Int) - 1 = ((l.length - 1 : Nat) : Int) by omega, decide_eq_true (show (0 : Int) ≤ ((l.length - 1 : Nat) : Int) by omega), decide_eq_true (show ((l.length - 1 : Nat) : Int) < ((l.length : Nat) : Int) by omega), Int.toNat_natCast, show l.getD (l.length - 1) pieceR.dflt = l.getD (l.length - 1) [] from rfl, wrap_in (n := (((l.getD (l.length - 1) []).length : Nat) : Int) + 2) (by omega) (by omega)]
    obtain ⟨y, hy, hyk⟩ := b_l_pick code 3 ((((l.getD (l.length - 1) []).length : Nat) : Int) + 2) (by rw [hf]; rfl)
    rw [Bool.and_self, cond_true, hyk]
    have hy1 := hy.2.1 (by omega)
    obtain ⟨j, rfl⟩ : ∃ j : Nat, y = j := ⟨y.toNat, by omega⟩
    generalize l.getD (l.length - 1) [] = p at *
    have hinit : ∀ x ∈ l.take (l.length - 1), x.length ≤ 1000 := fun x hx => hp x (List.mem_of_mem_take hx)
    have hil : (l.take (l.length - 1)).length = l.length - 1 := by rw [List.length_take]; omega
    rw [wrap_in (n := (((frameL l).length : Nat) : Int) - 1) (by omega) (by omega), wrap_in (n := (((frameL l).length : Nat) : Int) - 1 - ((j : Nat) : Int)) (by omega) (by omega), decide_eq_true (show (0 : Int) ≤ (((frameL l).length : Nat) : Int) - 1 - ((j : Nat) : Int) by omega), decide_eq_true (show (((frameL l).length : Nat) : Int) - 1 - ((j : Nat) : Int) ≤ (((frameL l).length : Nat) : Int) by omega), wrap_in (n := (((frameL l).length : Nat) : Int) - ((((p.length : Nat)) : Int) + 2)) (by omega) (by omega)]
    have ht : List.take ((Int.toNat ((((frameL l).length : Nat) : Int) - 1 - ((j : Nat) : Int))) - 0) (List.drop 0 (frameL l)) = frameL (l.take (l.length - 1)) ++ (frameD p).take (p.length + 1 - j) := by
      rw [List.drop_zero, show (Int.toNat ((((frameL l).length : Nat) : Int) - 1 - ((j : Nat) : Int))) - 0 = (frameL (l.take (l.length - 1))).length + (p.length + 1 - j) by omega]
      conv => lhs; rw [hfr]
      rw [List.take_length_add_append]
    rw [ht]
    have hcut2 := cutF_all (l.take (l.length - 1)) 100 ((frameD p).take (p.length + 1 - j)) hinit (by omega)
    rw [cutF_short hp1 hb1 _ _ (by rw [frameD_len]; omega), List.append_nil, Nat.add_zero] at hcut2
    have hfit2 : fitB (frameL (l.take (l.length - 1)) ++ (frameD p).take (p.length + 1 - j)) = true := by
      rw [← ht, List.drop_zero]; exact fitB_take hfd _
    rw [hcut2, hfit2]
    dsimp only
    rw [hil, beq_self_eq_true, show (((frameL l).length : Nat) : Int) - ((((p.length : Nat)) : Int) + 2) = (((frameL (l.take (l.length - 1))).length : Nat) : Int) by omega, Nat.add_zero, beq_self_eq_true]
    rfl
theorem okS_l_FnFrames : OkFn prog I N.l_FnFrames true S_l_FnFrames := okN (ok_fn (memc okS_l_big (memc okS_s_DrawFramesOf (memc okS_i_FramesOf (memc okS_s_FramesOf (memc okS_l_bytesOf (memc okS_i_FramesCut (memc okS_l_pick mem0))))))) (l := ls_l_FnFrames) (p := pl_l_FnFrames) (ls := [(11, [0,3,4,5,7], [0,2,3,4], W_l_FnFrames_11)]) (lend := []) (focus := false) (fuel := 0) (give := []) (fn := F.l_FnFrames) (by kernel_rfl) (by kernel_rfl) (by kernel_rfl) (by kernel_rfl) (cs := [bodyOf F.l_FnFrames 11]) (by kernel_rfl) (loopsc loopK_l_FnFrames_11 loops0)) (S_fnR_of fun d K h => (e_l_FnFrames d.1 K).trans (v_l_FnFrames d.1 h K))
end Go.Ev.Seat
end
section
/- The law FnFrames: it answers true. Printed by lawrand.py. -/
namespace Go.Ev.Seat
open Go.RowKit
set_option linter.unusedVariables false
theorem ok_Frames (T : MText) : OkFn prog I N.l_FnFrames true S_l_FnFrames := okS_l_FnFrames
theorem law_Frames (T : MText) (code : List Int) (K : Ret → Option Ret) (hwf : (Cc.sl bytesR).wf code) : S_l_FnFrames [.l .no bytesR code] K = K (bl true, []) := by
  have hb : code.all isB = true := List.all_eq_true.2 (fun x hx => fitR_of bytesR x (hwf.2 x hx) rfl)
  show (bif code.all isB then K (bl true, []) else none) = _
  rw [hb]; rfl
end Go.Ev.Seat
end
section
/- Kinds of types that come in, checked by reckoning. -/
set_option linter.unusedVariables false
namespace Go.Ev
open Go.RowKit
mutual
def ccN (P : Program) : Nat → Cc → TypeId → Bool
  | 0, _, _ => false
  | n + 1, c, t => match c, P.underlying t with
    | .int k, some (.int k') => decide (k' = k)
    | .bool, some .bool => true
    | .str, some .string => true
    | .sl r, some (.slice e) => Nat.beq (P.cellsOf e) r.n && (match layN P n r.list e with
      | some [] => true
      | _ => false)
    | _, _ => false
/-- The cells of a type, taken off a list: what is left. -/
def layN (P : Program) : Nat → List Cc → TypeId → Option (List Cc)
  | 0, _, _ => none
  | n + 1, cs, t => match cs with
    | [] => none
    | c :: rest => bif ccN P n c t then some rest else match P.underlying t with
      | some (.struct fs) => fsN P n (c :: rest) 0 fs.toList
      | _ => none
def fsN (P : Program) : Nat → List Cc → Nat → List Field → Option (List Cc)
  | 0, _, _, _ => none
  | n + 1, cs, i, fs => match fs with
    | [] => some cs
    | f :: rest => bif Nat.beq f.offset i then (match layN P n cs f.type with
      | some cs' => bif Nat.beq (P.cellsOf f.type + cs'.length) cs.length then fsN P n cs' (i + P.cellsOf f.type) rest else none
      | none => none) else none
end
theorem kinds_ok {P : Program} : ∀ (n : Nat), (∀ c t, ccN P n c t = true → CcOk P c t) ∧ (∀ cs t rest, layN P n cs t = some rest → ∃ pre, cs = pre ++ rest ∧ LayOk P pre t) ∧ ∀ cs i fs rest, fsN P n cs i fs = some rest → ∃ pre, cs = pre ++ rest ∧ LayFs P pre i fs
  | 0 => ⟨fun _ _ h => by simp [ccN] at h, fun _ _ _ h => by simp [layN] at h, fun _ _ _ _ h => by simp [fsN] at h⟩
  | n + 1 => by
    obtain ⟨h1, h2, h3⟩ := kinds_ok (P := P) n
    refine ⟨fun c t h => ?_, fun cs t rest h => ?_, fun cs i fs rest h => ?_⟩
    · simp only [ccN] at h
      split at h
      · rename_i k k' hu
        have := of_decide_eq_true h
        subst this
        exact .int hu
      · rename_i hu; exact .bool hu
      · rename_i hu; exact .str hu
      · rename_i r e hu
        simp only [Bool.and_eq_true] at h
        obtain ⟨g1, g2⟩ := h
        split at g2
        · rename_i hl
          obtain ⟨pre, e1, e2⟩ := h2 _ _ _ hl
          rw [List.append_nil] at e1
          exact .sl hu (Nat.eq_of_beq_eq_true g1) (e1 ▸ e2)
        · cases g2
      · cases h
    · simp only [layN] at h
      split at h
      · cases h
      · rename_i c rest'
        cases hc : ccN P n c t with
        | true =>
          rw [hc] at h
          cases h
          exact ⟨[c], rfl, .one (h1 _ _ hc)⟩
        | false =>
          rw [hc] at h
          simp only [cond_false] at h
          split at h
          · rename_i fs hu
            obtain ⟨pre, e1, e2⟩ := h3 _ _ _ _ h
            exact ⟨pre, e1, .st hu e2⟩
          · cases h
    · simp only [fsN] at h
      split at h
      · cases h
        exact ⟨[], rfl, .nil⟩
      · rename_i f rest'
        cases ho : Nat.beq f.offset i with
        | false => rw [ho] at h; cases h
        | true =>
          rw [ho] at h
          simp only [cond_true] at h
          split at h
          · rename_i cs' hl
            obtain ⟨pre, e1, e2⟩ := h2 _ _ _ hl
            cases hb : Nat.beq (P.cellsOf f.type + cs'.length) cs.length with
            | false => rw [hb] at h; cases h
            | true =>
              rw [hb] at h
              simp only [cond_true] at h
              have hlen := Nat.eq_of_beq_eq_true hb
              have hp : P.cellsOf f.type = pre.length := by rw [e1, List.length_append] at hlen; omega
              obtain ⟨pre2, e3, e4⟩ := h3 _ _ _ _ h
              rw [hp] at e4
              refine ⟨pre ++ pre2, by rw [e1, e3, List.append_assoc], .cons (Nat.eq_of_beq_eq_true ho) hp e2 e4⟩
          · cases h
def ccB (P : Program) (c : Cc) (t : TypeId) : Bool := ccN P 100 c t
theorem ccB_ok {P : Program} (c : Cc) {t : TypeId} (h : ccB P c t = true) : CcOk P c t := (kinds_ok 100).1 c t h
end Go.Ev
end
section
/- An argument of one cell. -/
set_option linter.unusedVariables false
namespace Go.Ev
theorem cells_one {P : Program} {W : World} {r : Reach} {base : Nat} {c : Cc} {t : TypeId} {v : Value} (h : CcOk P c t) (ok : Value.okWide P W r base t v) : v.cells.toList = [v] := by
  cases v with
  | agg cs =>
    exfalso
    unfold Value.okWide at ok
    cases h with
    | int h => rw [h] at ok; simp [Cell.okWide, Cell.ok, h] at ok
    | bool h => rw [h] at ok; simp [Cell.okWide, Cell.ok, h] at ok
    | str h => rw [h] at ok; simp [Cell.okWide, Cell.ok, h] at ok
    | sl h _ _ => rw [h] at ok; simp [Cell.okWide, Cell.ok, h] at ok
  | _ => rfl
end Go.Ev
end
