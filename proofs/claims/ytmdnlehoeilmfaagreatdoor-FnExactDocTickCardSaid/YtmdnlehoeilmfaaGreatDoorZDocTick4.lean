/- DocTick: parts Fsl01Rune FsRuneSize Fsl01Cuts FsTextOk FsRunesTo FsCutOk FsEditOk FsEditDo FsEditsDo Fsl10Session FsSelOk Fsl02Small Fsl05Small Fsl08All FsStackOk Fsl10Fits Fsl10FitAll Fsl07Meet PDocF PUtf2 PMoveF FsDocOk EvCut Fsl08Edit Fsl08Copy PBs PDoc2 Fsl10Stack Fsl10Copy FsLeaseExpire FsDocTick Futf8wordbytes, packed by squash.py. -/
import Derived.Test.YtmdnlehoeilmfaaGreatDoorZDocTick0
import Derived.Test.YtmdnlehoeilmfaaGreatDoorZDocTick1
import Derived.Test.YtmdnlehoeilmfaaGreatDoorZDocTick2
import Derived.Test.YtmdnlehoeilmfaaGreatDoorZDocTick3
set_option linter.unusedVariables false
set_option linter.unusedSimpArgs false
section
/- s_l01Rune: its contract. -/
namespace Go.Ev.Seat
open Go.RowKit
set_option maxRecDepth 100000
set_option linter.unusedVariables false
set_option linter.unusedSimpArgs false
def z_s_l01Rune_18_0 (x0 : List Int) (x1 : Int) (x7 : Int) (x8 : Int) : St := { tm := ([(.l .no bytesR x0), (.s (.int .i64 x1)), .x, .x, .x, .x, .x, (.s (.int .i64 x7)), (.s (.int .i64 x8))] ++ List.replicate 65 .x), ob := [], nx := 0, io := [] }
def sh_s_l01Rune_18_0 : Ss := { tm := (.cons (.l .no bytesR) (.cons (.int .i64) (.cons (.x) (.cons (.x) (.cons (.x) (.cons (.x) (.cons (.x) (.cons (.int .i64) (.cons (.int .i64) (.cons (.int .i64) (xsh 64))))))))))), ob := .nil, nx := 0, io := .nil }
def d_s_l01Rune_18_0 (x0 : List Int) (x1 : Int) (x7 : Int) (x8 : Int) (x9 : Int) : sh_s_l01Rune_18_0.T := ((x0, (x1, ((), ((), ((), ((), ((), (x7, (x8, (x9, xd 64)))))))))), (), ())
def s_s_l01Rune_18_0 (x0 : List Int) (x1 : Int) (x7 : Int) (x8 : Int) (x9 : Int) : St := { tm := ([(.l .no bytesR x0), (.s (.int .i64 x1)), .x, .x, .x, .x, .x, (.s (.int .i64 x7)), (.s (.int .i64 x8)), (.s (.int .i64 x9))] ++ List.replicate 64 .x), ob := [], nx := 0, io := [] }
theorem se_s_l01Rune_18_0 (x0 : List Int) (x1 : Int) (x7 : Int) (x8 : Int) (x9 : Int) : sh_s_l01Rune_18_0.mk' (d_s_l01Rune_18_0 x0 x1 x7 x8 x9) = (s_s_l01Rune_18_0 x0 x1 x7 x8 x9) := by kernel_rfl
def w_s_l01Rune_18_0 (d : sh_s_l01Rune_18_0.T) (f : (List Int) → Int → Int → Int → Int → Option Ret) : Option Ret := match d with | ((x0, (x1, (_, (_, (_, (_, (_, (x7, (x8, (x9, _)))))))))), _, _) => f x0 x1 x7 x8 x9
noncomputable def P_s_l01Rune_18_0 (x0 : List Int) (x1 : Int) (x7 : Int) (x8 : Int) (x9 : Int) (nx0 : (List Int) → Int → Int → Int → Int → Option Ret) (k0 : (List Int) → Int → Int → Int → Option Ret) : Option Ret := (bif (decide (x9 < x7)) then (bif ((decide ((0 : Int) ≤ (IntKind.wrap .i64 (x1 + x9)))) && (decide ((IntKind.wrap .i64 (x1 + x9)) < (((List.length x0) : Nat) : Int)))) then (nx0 x0 x1 x7 (IntKind.wrap .i64 ((IntKind.wrap .i64 ((IntKind.wrap .i64 ((64 : Int) * x8)) + (IntKind.wrap .i64 (List.getD x0 (Int.toNat (IntKind.wrap .i64 (x1 + x9))) (0 : Int))))) - (128 : Int))) (IntKind.wrap .i64 (x9 + (1 : Int)))) else none) else (k0 x0 x1 x7 x8))
noncomputable def Q_s_l01Rune_18_0 : Nat → (List Int) → Int → Int → Int → Int → ((List Int) → Int → Int → Int → Option Ret) → Option Ret
  | 0, _, _, _, _, _, _ => none
  | m + 1, x0, x1, x7, x8, x9, k0 => P_s_l01Rune_18_0 x0 x1 x7 x8 x9 (fun x0 x1 x7 x8 x9 => (Q_s_l01Rune_18_0 m x0 x1 x7 x8 x9 k0)) k0
noncomputable def R_s_l01Rune_18_0 (x0 : List Int) (x1 : Int) (x7 : Int) (x8 : Int) (x9 : Int) (k0 : (List Int) → Int → Int → Int → Option Ret) : Option Ret := Q_s_l01Rune_18_0 (List.length x0 + x1.toNat + x7.toNat + x8.toNat + x9.toNat + 2) x0 x1 x7 x8 x9 k0
noncomputable def W_s_l01Rune_18 : LoopFn := (fun (σ : St) (K : Ex → St → Option Ret) => (match sh_s_l01Rune_18_0.un σ with | some d => w_s_l01Rune_18_0 d (fun x0 x1 x7 x8 x9 => R_s_l01Rune_18_0 x0 x1 x7 x8 x9 (fun x0 x1 x7 x8 => (K (.ext 1) (z_s_l01Rune_18_0 x0 x1 x7 x8)))) | none => none))
noncomputable abbrev E_s_l01Rune : Env := En [(N.s_RuneBytes, true, S_s_RuneBytes)] [(21, takeB [0, 3, 4, 5, 6, 7, 8] (.fork (.more 1 (.fork (.more 2 (.fork (.one 9 (takes [10]))) (.one 9 (.fork (.one 2 (takes [10])))))) (.one 9 (.fork (.one 1 (.fork (.one 2 (takes [10])))))))), [])] [(18, [0,1,7,8,9], [0,1,4,5,7,8], W_s_l01Rune_18)] [] false 0 []
theorem st_s_l01Rune_18_0 (m : Nat) (x0 : List Int) (x1 : Int) (x7 : Int) (x8 : Int) (x9 : Int) (K : Ex → St → Option Ret) : rounds (run E_s_l01Rune (bodyOf F.s_l01Rune 18)) [0,1,7,8,9] [0,1,4,5,7,8] (m + 1) (s_s_l01Rune_18_0 x0 x1 x7 x8 x9) K = P_s_l01Rune_18_0 x0 x1 x7 x8 x9 (fun x0 x1 x7 x8 x9 => (rounds (run E_s_l01Rune (bodyOf F.s_l01Rune 18)) [0,1,7,8,9] [0,1,4,5,7,8] m (s_s_l01Rune_18_0 x0 x1 x7 x8 x9) K)) (fun x0 x1 x7 x8 => (K (.ext 1) (z_s_l01Rune_18_0 x0 x1 x7 x8))) := by kernel_rfl
theorem q_s_l01Rune_18 (K : Ex → St → Option Ret) : ∀ m : Nat, (∀ (x0 : List Int) (x1 : Int) (x7 : Int) (x8 : Int) (x9 : Int), rounds (run E_s_l01Rune (bodyOf F.s_l01Rune 18)) [0,1,7,8,9] [0,1,4,5,7,8] m (s_s_l01Rune_18_0 x0 x1 x7 x8 x9) K = Q_s_l01Rune_18_0 m x0 x1 x7 x8 x9 (fun x0 x1 x7 x8 => (K (.ext 1) (z_s_l01Rune_18_0 x0 x1 x7 x8))))
  | 0 => (fun _ _ _ _ _ => rfl)
  | m + 1 => (fun x0 x1 x7 x8 x9 => (by rw [st_s_l01Rune_18_0, show (fun x0 x1 x7 x8 x9 => (rounds (run E_s_l01Rune (bodyOf F.s_l01Rune 18)) [0,1,7,8,9] [0,1,4,5,7,8] m (s_s_l01Rune_18_0 x0 x1 x7 x8 x9) K)) = (fun x0 x1 x7 x8 x9 => (Q_s_l01Rune_18_0 m x0 x1 x7 x8 x9 (fun x0 x1 x7 x8 => (K (.ext 1) (z_s_l01Rune_18_0 x0 x1 x7 x8))))) from funext fun x0 => funext fun x1 => funext fun x7 => funext fun x8 => funext fun x9 => (q_s_l01Rune_18 K m) x0 x1 x7 x8 x9]; rfl))
theorem loopK_s_l01Rune_18 : LoopOk E_s_l01Rune (bodyOf F.s_l01Rune 18) := by
  refine loopW_ok (n := 18) (F := W_s_l01Rune_18) (by kernel_rfl) rfl (li := [0,1,7,8,9]) (lo := [0,1,4,5,7,8]) rfl (fun σ K r hr => ?_)
  unfold W_s_l01Rune_18 at hr
  split at hr
  · rename_i d hd
    rw [Ss.un_mk hd]
    exact ⟨_, ((congrArg (fun z => rounds (run E_s_l01Rune (bodyOf F.s_l01Rune 18)) [0,1,7,8,9] [0,1,4,5,7,8] _ z K) (se_s_l01Rune_18_0 _ _ _ _ _)).trans ((q_s_l01Rune_18 K _) _ _ _ _ _)).trans hr⟩
  · cases hr
noncomputable def T_s_l01Rune (d : List Int) (k : Int) (K : Ret → Option Ret) : Option Ret := (bif (decide (k < (0 : Int))) then K ((.t [(.s (.int .i64 (-(1 : Int)))), (.s (.int .i64 (0 : Int)))]), []) else (bif (decide (k ≥ (((List.length d) : Nat) : Int))) then K ((.t [(.s (.int .i64 (-(1 : Int)))), (.s (.int .i64 (0 : Int)))]), []) else (bif ((decide ((0 : Int) ≤ k)) && (decide (k < (((List.length d) : Nat) : Int)))) then (bif (decide ((IntKind.wrap .i64 (List.getD d (Int.toNat k) (0 : Int))) ≥ (240 : Int))) then (bif (decide ((4 : Int) > (IntKind.wrap .i64 ((((List.length d) : Nat) : Int) - k)))) then K ((.t [(.s (.int .i64 (-(1 : Int)))), (.s (.int .i64 (0 : Int)))]), []) else (R_s_l01Rune_18_0 d k (4 : Int) (IntKind.wrap .i64 ((IntKind.wrap .i64 (List.getD d (Int.toNat k) (0 : Int))) - (240 : Int))) (1 : Int) (fun y0 y1 y2 y3 => (bif (((decide ((0 : Int) ≤ y1)) && (decide (y1 ≤ (IntKind.wrap .i64 (y1 + y2))))) && (decide ((IntKind.wrap .i64 (y1 + y2)) ≤ (((List.length y0) : Nat) : Int)))) then (meet ((meet ((bif (!((ByteArray.toList (bstr (encD y3))) == (ByteArray.toList (bstr (List.drop (Int.toNat y1) (List.take (Int.toNat (IntKind.wrap .i64 (y1 + y2))) y0)))))) then K ((.t [(.s (.int .i64 (-(1 : Int)))), (.s (.int .i64 (0 : Int)))]), []) else K ((.t [(.s (.int .i64 y3)), (.s (.int .i64 y2))]), []))) ((bif (!((ByteArray.toList (bstr (encD y3))) == (ByteArray.toList (bstr (List.drop (Int.toNat y1) (List.take (Int.toNat (IntKind.wrap .i64 (y1 + y2))) y0)))))) then K ((.t [(.s (.int .i64 (-(1 : Int)))), (.s (.int .i64 (0 : Int)))]), []) else K ((.t [(.s (.int .i64 y3)), (.s (.int .i64 y2))]), []))))) ((bif (!((ByteArray.toList (bstr (encD y3))) == (ByteArray.toList (bstr (List.drop (Int.toNat y1) (List.take (Int.toNat (IntKind.wrap .i64 (y1 + y2))) y0)))))) then K ((.t [(.s (.int .i64 (-(1 : Int)))), (.s (.int .i64 (0 : Int)))]), []) else K ((.t [(.s (.int .i64 y3)), (.s (.int .i64 y2))]), [])))) else none)))) else (bif (decide ((IntKind.wrap .i64 (List.getD d (Int.toNat k) (0 : Int))) ≥ (224 : Int))) then (bif (decide ((3 : Int) > (IntKind.wrap .i64 ((((List.length d) : Nat) : Int) - k)))) then K ((.t [(.s (.int .i64 (-(1 : Int)))), (.s (.int .i64 (0 : Int)))]), []) else (R_s_l01Rune_18_0 d k (3 : Int) (IntKind.wrap .i64 ((IntKind.wrap .i64 (List.getD d (Int.toNat k) (0 : Int))) - (224 : Int))) (1 : Int) (fun y4 y5 y6 y7 => (bif (((decide ((0 : Int) ≤ y5)) && (decide (y5 ≤ (IntKind.wrap .i64 (y5 + y6))))) && (decide ((IntKind.wrap .i64 (y5 + y6)) ≤ (((List.length y4) : Nat) : Int)))) then (meet ((meet ((bif (!((ByteArray.toList (bstr (encD y7))) == (ByteArray.toList (bstr (List.drop (Int.toNat y5) (List.take (Int.toNat (IntKind.wrap .i64 (y5 + y6))) y4)))))) then K ((.t [(.s (.int .i64 (-(1 : Int)))), (.s (.int .i64 (0 : Int)))]), []) else K ((.t [(.s (.int .i64 y7)), (.s (.int .i64 y6))]), []))) ((bif (!((ByteArray.toList (bstr (encD y7))) == (ByteArray.toList (bstr (List.drop (Int.toNat y5) (List.take (Int.toNat (IntKind.wrap .i64 (y5 + y6))) y4)))))) then K ((.t [(.s (.int .i64 (-(1 : Int)))), (.s (.int .i64 (0 : Int)))]), []) else K ((.t [(.s (.int .i64 y7)), (.s (.int .i64 y6))]), []))))) ((bif (!((ByteArray.toList (bstr (encD y7))) == (ByteArray.toList (bstr (List.drop (Int.toNat y5) (List.take (Int.toNat (IntKind.wrap .i64 (y5 + y6))) y4)))))) then K ((.t [(.s (.int .i64 (-(1 : Int)))), (.s (.int .i64 (0 : Int)))]), []) else K ((.t [(.s (.int .i64 y7)), (.s (.int .i64 y6))]), [])))) else none)))) else (bif (decide ((IntKind.wrap .i64 (List.getD d (Int.toNat k) (0 : Int))) ≥ (192 : Int))) then (bif (decide ((2 : Int) > (IntKind.wrap .i64 ((((List.length d) : Nat) : Int) - k)))) then K ((.t [(.s (.int .i64 (-(1 : Int)))), (.s (.int .i64 (0 : Int)))]), []) else (R_s_l01Rune_18_0 d k (2 : Int) (IntKind.wrap .i64 ((IntKind.wrap .i64 (List.getD d (Int.toNat k) (0 : Int))) - (192 : Int))) (1 : Int) (fun y8 y9 y10 y11 => (bif (((decide ((0 : Int) ≤ y9)) && (decide (y9 ≤ (IntKind.wrap .i64 (y9 + y10))))) && (decide ((IntKind.wrap .i64 (y9 + y10)) ≤ (((List.length y8) : Nat) : Int)))) then (meet ((meet ((bif (!((ByteArray.toList (bstr (encD y11))) == (ByteArray.toList (bstr (List.drop (Int.toNat y9) (List.take (Int.toNat (IntKind.wrap .i64 (y9 + y10))) y8)))))) then K ((.t [(.s (.int .i64 (-(1 : Int)))), (.s (.int .i64 (0 : Int)))]), []) else K ((.t [(.s (.int .i64 y11)), (.s (.int .i64 y10))]), []))) ((bif (!((ByteArray.toList (bstr (encD y11))) == (ByteArray.toList (bstr (List.drop (Int.toNat y9) (List.take (Int.toNat (IntKind.wrap .i64 (y9 + y10))) y8)))))) then K ((.t [(.s (.int .i64 (-(1 : Int)))), (.s (.int .i64 (0 : Int)))]), []) else K ((.t [(.s (.int .i64 y11)), (.s (.int .i64 y10))]), []))))) ((bif (!((ByteArray.toList (bstr (encD y11))) == (ByteArray.toList (bstr (List.drop (Int.toNat y9) (List.take (Int.toNat (IntKind.wrap .i64 (y9 + y10))) y8)))))) then K ((.t [(.s (.int .i64 (-(1 : Int)))), (.s (.int .i64 (0 : Int)))]), []) else K ((.t [(.s (.int .i64 y11)), (.s (.int .i64 y10))]), [])))) else none)))) else (bif (decide ((1 : Int) > (IntKind.wrap .i64 ((((List.length d) : Nat) : Int) - k)))) then K ((.t [(.s (.int .i64 (-(1 : Int)))), (.s (.int .i64 (0 : Int)))]), []) else (R_s_l01Rune_18_0 d k (1 : Int) (IntKind.wrap .i64 (List.getD d (Int.toNat k) (0 : Int))) (1 : Int) (fun y12 y13 y14 y15 => (bif (((decide ((0 : Int) ≤ y13)) && (decide (y13 ≤ (IntKind.wrap .i64 (y13 + y14))))) && (decide ((IntKind.wrap .i64 (y13 + y14)) ≤ (((List.length y12) : Nat) : Int)))) then (meet ((meet ((bif (!((ByteArray.toList (bstr (encD y15))) == (ByteArray.toList (bstr (List.drop (Int.toNat y13) (List.take (Int.toNat (IntKind.wrap .i64 (y13 + y14))) y12)))))) then K ((.t [(.s (.int .i64 (-(1 : Int)))), (.s (.int .i64 (0 : Int)))]), []) else K ((.t [(.s (.int .i64 y15)), (.s (.int .i64 y14))]), []))) ((bif (!((ByteArray.toList (bstr (encD y15))) == (ByteArray.toList (bstr (List.drop (Int.toNat y13) (List.take (Int.toNat (IntKind.wrap .i64 (y13 + y14))) y12)))))) then K ((.t [(.s (.int .i64 (-(1 : Int)))), (.s (.int .i64 (0 : Int)))]), []) else K ((.t [(.s (.int .i64 y15)), (.s (.int .i64 y14))]), []))))) ((bif (!((ByteArray.toList (bstr (encD y15))) == (ByteArray.toList (bstr (List.drop (Int.toNat y13) (List.take (Int.toNat (IntKind.wrap .i64 (y13 + y14))) y12)))))) then K ((.t [(.s (.int .i64 (-(1 : Int)))), (.s (.int .i64 (0 : Int)))]), []) else K ((.t [(.s (.int .i64 y15)), (.s (.int .i64 y14))]), [])))) else none))))))) else none)))
theorem e_s_l01Rune (d : List Int) (k : Int) (K : Ret → Option Ret) : evF E_s_l01Rune true F.s_l01Rune [.l .no bytesR d, .s (.int .i64 k)] K = T_s_l01Rune d k K := by kernel_rfl
theorem rune_step {m : Nat} {d : List Int} {k n r i : Int} {k0 : List Int → Int → Int → Int → Option Ret} (hd : fitB d = true) (h0 : 0 ≤ k) (hi : 0 < i) (hn : i < n) (hl : k + i < ((d.length : Nat) : Int)) (hr : -1000000000 ≤ r ∧ r ≤ 1000000000) :
    Q_s_l01Rune_18_0 (m + 1) d k n r i k0 = Q_s_l01Rune_18_0 m d k n (64 * r + d.getD (k + i).toNat 0 - 128) (i + 1) k0 := by
  have hb := fitB_get hd (k + i).toNat
  have hlen := fitB_len hd
  show P_s_l01Rune_18_0 d k n r i _ k0 = _
  unfold P_s_l01Rune_18_0
  rw [decide_eq_true hn, wrap_in (n := k + i) (by omega) (by omega), decide_eq_true (show 0 ≤ k + i by omega), decide_eq_true hl, wrap_in (n := d.getD (k + i).toNat 0) (by omega) (by omega), wrap_in (n := 64 * r) (by omega) (by omega), wrap_in (n := 64 * r + d.getD (k + i).toNat 0) (by omega) (by omega), wrap_in (n := 64 * r + d.getD (k + i).toNat 0 - 128) (by omega) (by omega), wrap_in (n := i + 1) (by omega) (by omega)]
  rfl
theorem rune_end {m : Nat} {d : List Int} {k n r i : Int} {k0 : List Int → Int → Int → Int → Option Ret} (hn : ¬ i < n) : Q_s_l01Rune_18_0 (m + 1) d k n r i k0 = k0 d k n r := by
  show P_s_l01Rune_18_0 d k n r i _ k0 = _
  unfold P_s_l01Rune_18_0
  rw [decide_eq_false hn]; rfl
theorem rune_fin {K : Ret → Option Ret} {c : Prop} [Decidable c] {r n v s : Int} (h : (if c then (r, n) else (-1, 0)) = (v, s)) :
    (bif !(decide c) then K ((.t [(.s (.int .i64 (-(1 : Int)))), (.s (.int .i64 (0 : Int)))]), []) else K ((.t [(.s (.int .i64 r)), (.s (.int .i64 n))]), [])) = K (.t [sc v, sc s], []) := by
  by_cases hc : c
  · rw [if_pos hc] at h
    obtain ⟨rfl, rfl⟩ := Prod.mk.inj h
    rw [decide_eq_true hc]; rfl
  · rw [if_neg hc] at h
    obtain ⟨h1, h2⟩ := Prod.mk.inj h
    rw [decide_eq_false hc, ← h1, ← h2]; rfl
theorem rune_part (d : List Int) (k n : Nat) : List.drop k (List.take (k + n) d) = (d.drop k).take n := by
  rw [List.drop_take]; congr 1; omega
theorem rune_k {K : Ret → Option Ret} {d xs : List Int} {k r n v s : Int} (hd : fitB d = true) (h0 : 0 ≤ k) (hn0 : 0 ≤ n) (hn : n ≤ 4) (hl : k + n ≤ ((d.length : Nat) : Int)) (hx : (d.drop k.toNat).take n.toNat = xs) (h : (if encD r = xs then (r, n) else (-1, 0)) = (v, s)) :
    (bif (((decide ((0 : Int) ≤ k)) && (decide (k ≤ (IntKind.wrap .i64 (k + n))))) && (decide ((IntKind.wrap .i64 (k + n)) ≤ (((List.length d) : Nat) : Int)))) then
       (meet
        (meet
         (bif (!((ByteArray.toList (bstr (encD r))) == (ByteArray.toList (bstr (List.drop (Int.toNat k) (List.take (Int.toNat (IntKind.wrap .i64 (k + n))) d)))))) then
          K ((.t [(.s (.int .i64 (-(1 : Int)))), (.s (.int .i64 (0 : Int)))]), [])
          else K ((.t [(.s (.int .i64 r)), (.s (.int .i64 n))]), []))
         (bif (!((ByteArray.toList (bstr (encD r))) == (ByteArray.toList (bstr (List.drop (Int.toNat k) (List.take (Int.toNat (IntKind.wrap .i64 (k + n))) d)))))) then
          K ((.t [(.s (.int .i64 (-(1 : Int)))), (.s (.int .i64 (0 : Int)))]), [])
          else K ((.t [(.s (.int .i64 r)), (.s (.int .i64 n))]), [])))
        (bif (!((ByteArray.toList (bstr (encD r))) == (ByteArray.toList (bstr (List.drop (Int.toNat k) (List.take (Int.toNat (IntKind.wrap .i64 (k + n))) d)))))) then
         K ((.t [(.s (.int .i64 (-(1 : Int)))), (.s (.int .i64 (0 : Int)))]), [])
         else K ((.t [(.s (.int .i64 r)), (.s (.int .i64 n))]), [])))
       else none) = K (.t [sc v, sc s], []) := by
  have hlen := fitB_len hd
  rw [wrap_in (n := k + n) (by omega) (by omega), decide_eq_true h0, decide_eq_true (show k ≤ k + n by omega), decide_eq_true hl]
  rw [meet_self, meet_self]
  have e : List.drop (Int.toNat k) (List.take (Int.toNat (k + n)) d) = xs := by
    rw [← hx, show (k + n).toNat = k.toNat + n.toNat by omega]; exact rune_part d _ _
  rw [e, bstr_eq (encD_byte r) (fun y hy => by
    rw [← hx] at hy
    exact fitB_mem hd (List.mem_of_mem_drop (List.mem_of_mem_take hy)))]
  exact rune_fin h
theorem list1 {xs : List Int} (h : 1 ≤ xs.length) : ∃ a t, xs = a :: t := by
  cases xs with
  | nil => simp at h
  | cons a t => exact ⟨a, t, rfl⟩
def S_s_l01Rune : Sm := S_fnR [.l bytesR, .i] (fun d => fitB d.1) (fun d => (.t [sc (valAt d.1 d.2.1), sc (szAt d.1 d.2.1)], []))
theorem v_s_l01Rune (d : List Int) (k : Int) (h : (fitB d) = true) (K : Ret → Option Ret) : T_s_l01Rune d k K = K (.t [sc (valAt d k), sc (szAt d k)], []) := by
  unfold T_s_l01Rune valAt szAt inD
  have hlen := fitB_len h
  by_cases h1 : k < 0
  · rw [decide_eq_true h1, decide_eq_false (show ¬ 0 ≤ k by omega)]; rfl
  by_cases h2 : k ≥ ((d.length : Nat) : Int)
  · rw [decide_eq_false h1, decide_eq_true h2, decide_eq_true (show 0 ≤ k by omega), decide_eq_false (show ¬ k < ((d.length : Nat) : Int) by omega)]; rfl
  have hbk := fitB_get h k.toNat
  rw [decide_eq_false h1, decide_eq_false h2, decide_eq_true (show 0 ≤ k by omega), decide_eq_true (show k < ((d.length : Nat) : Int) by omega), wrap_in (n := d.getD k.toNat 0) (by omega) (by omega), wrap_in (n := ((d.length : Nat) : Int) - k) (by omega) (by omega)]
  simp only [Bool.and_true, cond_true, cond_false]
  have hg : ∀ i : Nat, (d.drop k.toNat).getD i 0 = d.getD (k + (i : Nat)).toNat 0 := fun i => by
    rw [getD_drop]; congr 1; omega
  have hg0 := hg 0
  rw [show (k + ((0 : Nat) : Int)).toNat = k.toNat by omega] at hg0
  have hdl : (d.drop k.toNat).length = d.length - k.toNat := by simp
  have hbytes := fun i => fitB_get (fitB_drop h k.toNat) i
  by_cases c4 : d.getD k.toNat 0 ≥ 240
  · rw [decide_eq_true c4]
    by_cases s4 : (4 : Int) > ((d.length : Nat) : Int) - k
    · rw [decide_eq_true s4]
      have e := runeSz0 (short4 (xs := d.drop k.toNat) (by rw [hg0]; exact c4) (by omega))
      obtain ⟨e1, e2⟩ := Prod.mk.inj e
      rw [e1, e2]; rfl
    · rw [decide_eq_false s4]
      unfold R_s_l01Rune_18_0
      rw [wrap_in (n := d.getD k.toNat 0 - 240) (by omega) (by omega)]
      obtain ⟨m, hm⟩ : ∃ m, List.length d + k.toNat + (4 : Int).toNat + (d.getD k.toNat 0 - 240).toNat + (1 : Int).toNat + 2 = m + 4 := ⟨List.length d + k.toNat + (4 : Int).toNat + (d.getD k.toNat 0 - 240).toNat + (1 : Int).toNat + 2 - 4, by omega⟩
      have b1 := fitB_get h (k + 1).toNat
      have b2 := fitB_get h (k + (1 + 1)).toNat
      rw [hm, rune_step h (by omega) (by omega) (by omega) (by omega) (by omega), rune_step h (by omega) (by omega) (by omega) (by omega) (by omega), rune_step h (by omega) (by omega) (by omega) (by omega) (by omega), rune_end (by omega)]
      refine rune_k h (by omega) (by omega) (by omega) (by omega) (xs := [(d.drop k.toNat).getD 0 0, (d.drop k.toNat).getD 1 0, (d.drop k.toNat).getD 2 0, (d.drop k.toNat).getD 3 0]) ?_ ?_
      · obtain ⟨a, t, e⟩ := list1 (xs := d.drop k.toNat) (by omega)
        obtain ⟨b, t2, e2⟩ := list1 (xs := t) (by rw [e] at hdl; simp at hdl; omega)
        obtain ⟨c, t3, e3⟩ := list1 (xs := t2) (by rw [e, e2] at hdl; simp at hdl; omega)
        obtain ⟨f, t4, e4⟩ := list1 (xs := t3) (by rw [e, e2, e3] at hdl; simp at hdl; omega)
        rw [e, e2, e3, e4]; rfl
      · obtain ⟨a, t, e⟩ := list1 (xs := d.drop k.toNat) (by omega)
        obtain ⟨b, t2, e2⟩ := list1 (xs := t) (by rw [e] at hdl; simp at hdl; omega)
        obtain ⟨c, t3, e3⟩ := list1 (xs := t2) (by rw [e, e2] at hdl; simp at hdl; omega)
        obtain ⟨f, t4, e4⟩ := list1 (xs := t3) (by rw [e, e2, e3] at hdl; simp at hdl; omega)
        have g1 := hg 1
        have g2 := hg 2
        have g3 := hg 3
        have q0 := hbytes 0
        have q1 := hbytes 1
        have q2 := hbytes 2
        have q3 := hbytes 3
        rw [e, e2, e3, e4] at hg0 g1 g2 g3 q0 q1 q2 q3 ⊢
        rw [show (k + 1).toNat = (k + ((1 : Nat) : Int)).toNat from rfl, show (k + (1 + 1)).toNat = (k + ((2 : Nat) : Int)).toNat by congr 1, show (k + (1 + 1 + 1)).toNat = (k + ((3 : Nat) : Int)).toNat by congr 1, ← g1, ← g2, ← g3, ← hg0]
        exact dec4 (by rw [← hg0] at c4; exact c4) q0.2 q1 q2 q3
  rw [decide_eq_false c4]
  by_cases c3 : d.getD k.toNat 0 ≥ 224
  · rw [decide_eq_true c3]
    by_cases s3 : (3 : Int) > ((d.length : Nat) : Int) - k
    · rw [decide_eq_true s3]
      have e := runeSz0 (short3 (xs := d.drop k.toNat) (by rw [hg0]; exact c3) (by rw [hg0]; omega) (by omega))
      obtain ⟨e1, e2⟩ := Prod.mk.inj e
      rw [e1, e2]; rfl
    · rw [decide_eq_false s3]
      unfold R_s_l01Rune_18_0
      rw [wrap_in (n := d.getD k.toNat 0 - 224) (by omega) (by omega)]
      obtain ⟨m, hm⟩ : ∃ m, List.length d + k.toNat + (3 : Int).toNat + (d.getD k.toNat 0 - 224).toNat + (1 : Int).toNat + 2 = m + 3 := ⟨List.length d + k.toNat + (3 : Int).toNat + (d.getD k.toNat 0 - 224).toNat + (1 : Int).toNat + 2 - 3, by omega⟩
      have b1 := fitB_get h (k + 1).toNat
      rw [hm]
      simp only [cond_false, cond_true]
      rw [rune_step h (by omega) (by omega) (by omega) (by omega) (by omega), rune_step h (by omega) (by omega) (by omega) (by omega) (by omega), rune_end (by omega)]
      refine rune_k h (by omega) (by omega) (by omega) (by omega) (xs := [(d.drop k.toNat).getD 0 0, (d.drop k.toNat).getD 1 0, (d.drop k.toNat).getD 2 0]) ?_ ?_
      · obtain ⟨a, t, e⟩ := list1 (xs := d.drop k.toNat) (by omega)
        obtain ⟨b, t2, e2⟩ := list1 (xs := t) (by rw [e] at hdl; simp at hdl; omega)
        obtain ⟨c, t3, e3⟩ := list1 (xs := t2) (by rw [e, e2] at hdl; simp at hdl; omega)
        rw [e, e2, e3]; rfl
      · obtain ⟨a, t, e⟩ := list1 (xs := d.drop k.toNat) (by omega)
        obtain ⟨b, t2, e2⟩ := list1 (xs := t) (by rw [e] at hdl; simp at hdl; omega)
        obtain ⟨c, t3, e3⟩ := list1 (xs := t2) (by rw [e, e2] at hdl; simp at hdl; omega)
        have g1 := hg 1
        have g2 := hg 2
        have q0 := hbytes 0
        have q1 := hbytes 1
        have q2 := hbytes 2
        rw [e, e2, e3] at hg0 g1 g2 q0 q1 q2 ⊢
        rw [show (k + 1).toNat = (k + ((1 : Nat) : Int)).toNat from rfl, show (k + (1 + 1)).toNat = (k + ((2 : Nat) : Int)).toNat by congr 1, ← g1, ← g2, ← hg0]
        exact dec3 (by rw [← hg0] at c3; exact c3) (by rw [← hg0] at c4; exact Int.not_le.1 c4) q1 q2
  rw [decide_eq_false c3]
  by_cases c2 : d.getD k.toNat 0 ≥ 192
  · rw [decide_eq_true c2]
    by_cases s2 : (2 : Int) > ((d.length : Nat) : Int) - k
    · rw [decide_eq_true s2]
      have e := runeSz0 (short2 (xs := d.drop k.toNat) (by rw [hg0]; exact c2) (by rw [hg0]; omega) (by omega))
      obtain ⟨e1, e2⟩ := Prod.mk.inj e
      rw [e1, e2]; rfl
    · rw [decide_eq_false s2]
      unfold R_s_l01Rune_18_0
      rw [wrap_in (n := d.getD k.toNat 0 - 192) (by omega) (by omega)]
      obtain ⟨m, hm⟩ : ∃ m, List.length d + k.toNat + (2 : Int).toNat + (d.getD k.toNat 0 - 192).toNat + (1 : Int).toNat + 2 = m + 2 := ⟨List.length d + k.toNat + (2 : Int).toNat + (d.getD k.toNat 0 - 192).toNat + (1 : Int).toNat + 2 - 2, by omega⟩
      rw [hm]
      simp only [cond_false, cond_true]
      rw [rune_step h (by omega) (by omega) (by omega) (by omega) (by omega), rune_end (by omega)]
      refine rune_k h (by omega) (by omega) (by omega) (by omega) (xs := [(d.drop k.toNat).getD 0 0, (d.drop k.toNat).getD 1 0]) ?_ ?_
      · obtain ⟨a, t, e⟩ := list1 (xs := d.drop k.toNat) (by omega)
        obtain ⟨b, t2, e2⟩ := list1 (xs := t) (by rw [e] at hdl; simp at hdl; omega)
        rw [e, e2]; rfl
      · obtain ⟨a, t, e⟩ := list1 (xs := d.drop k.toNat) (by omega)
        obtain ⟨b, t2, e2⟩ := list1 (xs := t) (by rw [e] at hdl; simp at hdl; omega)
        have g1 := hg 1
        have q0 := hbytes 0
        have q1 := hbytes 1
        rw [e, e2] at hg0 g1 q0 q1 ⊢
        rw [show (k + 1).toNat = (k + ((1 : Nat) : Int)).toNat from rfl, ← g1, ← hg0]
        exact dec2 (by rw [← hg0] at c2; exact c2) (by rw [← hg0] at c3; exact Int.not_le.1 c3) q1
  rw [decide_eq_false c2, decide_eq_false (show ¬ (1 : Int) > ((d.length : Nat) : Int) - k by omega)]
  unfold R_s_l01Rune_18_0
  obtain ⟨m, hm⟩ : ∃ m, List.length d + k.toNat + (1 : Int).toNat + (d.getD k.toNat 0).toNat + (1 : Int).toNat + 2 = m + 1 := ⟨List.length d + k.toNat + (1 : Int).toNat + (d.getD k.toNat 0).toNat + (1 : Int).toNat + 2 - 1, by omega⟩
  rw [hm]
  simp only [cond_false, cond_true]
  rw [rune_end (by omega)]
  refine rune_k h (by omega) (by omega) (by omega) (by omega) (xs := [(d.drop k.toNat).getD 0 0]) ?_ ?_
  · obtain ⟨a, t, e⟩ := list1 (xs := d.drop k.toNat) (by omega)
    rw [e]; rfl
  · obtain ⟨a, t, e⟩ := list1 (xs := d.drop k.toNat) (by omega)
    have q0 := hbytes 0
    rw [e] at hg0 q0 ⊢
    rw [← hg0]
    exact dec1 q0.1 (by rw [← hg0] at c2; exact Int.not_le.1 c2)
theorem okS_s_l01Rune : OkFn prog I N.s_l01Rune true S_s_l01Rune := okN (ok_fn (memc okS_s_RuneBytes mem0) (l := [(N.s_RuneBytes, true, S_s_RuneBytes)]) (p := [(21, takeB [0, 3, 4, 5, 6, 7, 8] (.fork (.more 1 (.fork (.more 2 (.fork (.one 9 (takes [10]))) (.one 9 (.fork (.one 2 (takes [10])))))) (.one 9 (.fork (.one 1 (.fork (.one 2 (takes [10])))))))), [])]) (ls := [(18, [0,1,7,8,9], [0,1,4,5,7,8], W_s_l01Rune_18)]) (lend := []) (focus := false) (fuel := 0) (give := []) (fn := F.s_l01Rune) (by kernel_rfl) (by kernel_rfl) (by kernel_rfl) (by kernel_rfl) (cs := [bodyOf F.s_l01Rune 18]) (by kernel_rfl) (loopsc loopK_s_l01Rune_18 loops0)) (S_fnR_of fun d K h => (e_s_l01Rune d.1 d.2.1 K).trans (v_s_l01Rune d.1 d.2.1 h K))
end Go.Ev.Seat
end
section
/- s_RuneSize: its contract. -/
namespace Go.Ev.Seat
open Go.RowKit
set_option maxRecDepth 100000
set_option linter.unusedVariables false
set_option linter.unusedSimpArgs false
noncomputable abbrev E_s_RuneSize : Env := En [(N.s_l01Rune, true, S_s_l01Rune)] [] [] [] false 0 []
noncomputable def T_s_RuneSize (d : List Int) (k : Int) (K : Ret → Option Ret) : Option Ret := (bif (fitB d) then K ((.s (.int .i64 (szAt d k))), []) else none)
theorem e_s_RuneSize (d : List Int) (k : Int) (K : Ret → Option Ret) : evF E_s_RuneSize true F.s_RuneSize [.l .no bytesR d, .s (.int .i64 k)] K = T_s_RuneSize d k K := by kernel_rfl
def S_s_RuneSize : Sm := S_fnR [.l bytesR, .i] (fun d => fitB d.1) (fun d => (sc (szAt d.1 d.2.1), []))
theorem v_s_RuneSize (d : List Int) (k : Int) (h : (fitB d) = true) (K : Ret → Option Ret) : T_s_RuneSize d k K = K (sc (szAt d k), []) := by
  unfold T_s_RuneSize; rw [h]; rfl
theorem okS_s_RuneSize : OkFn prog I N.s_RuneSize true S_s_RuneSize := okN (ok_fn (memc okS_s_l01Rune mem0) (l := [(N.s_l01Rune, true, S_s_l01Rune)]) (p := []) (ls := []) (lend := []) (focus := false) (fuel := 0) (give := []) (fn := F.s_RuneSize) (by kernel_rfl) (by kernel_rfl) (by kernel_rfl) (by kernel_rfl) (cs := []) (by kernel_rfl) loops0) (S_fnR_of fun d K h => (e_s_RuneSize d.1 d.2.1 K).trans (v_s_RuneSize d.1 d.2.1 h K))
end Go.Ev.Seat
end
section
/- s_l01Cuts: its contract. -/
namespace Go.Ev.Seat
open Go.RowKit
set_option maxRecDepth 100000
set_option linter.unusedVariables false
set_option linter.unusedSimpArgs false
def z_s_l01Cuts_5_0 (x4 : Int) (o0 : List Int) : St := { tm := ([.x, .x, .nl, (.w 0), (.s (.int .i64 x4))] ++ List.replicate 25 .x), ob := [(0, (.arr true true intR o0))], nx := 1, io := [] }
def z_s_l01Cuts_5_1 (x4 : Int) (o0 : List Int) : St := { tm := ([.x, .x, .x, (.w 0), (.s (.int .i64 x4))] ++ List.replicate 25 .x), ob := [(0, (.arr true true intR o0))], nx := 1, io := [] }
def sh_s_l01Cuts_5_0 : Ss := { tm := (.cons (.l .no bytesR) (.cons (.x) (.cons (.x) (.cons (.w 0) (.cons (.int .i64) (xsh 25)))))), ob := (.arr true true intR .nil), nx := 1, io := .nil }
def d_s_l01Cuts_5_0 (x0 : List Int) (x4 : Int) (o0 : List Int) : sh_s_l01Cuts_5_0.T := ((x0, ((), ((), ((), (x4, xd 25))))), (o0, ()), ())
def s_s_l01Cuts_5_0 (x0 : List Int) (x4 : Int) (o0 : List Int) : St := { tm := ([(.l .no bytesR x0), .x, .x, (.w 0), (.s (.int .i64 x4))] ++ List.replicate 25 .x), ob := [(0, (.arr true true intR o0))], nx := 1, io := [] }
theorem se_s_l01Cuts_5_0 (x0 : List Int) (x4 : Int) (o0 : List Int) : sh_s_l01Cuts_5_0.mk' (d_s_l01Cuts_5_0 x0 x4 o0) = (s_s_l01Cuts_5_0 x0 x4 o0) := by kernel_rfl
def w_s_l01Cuts_5_0 (d : sh_s_l01Cuts_5_0.T) (f : (List Int) → Int → (List Int) → Option Ret) : Option Ret := match d with | ((x0, (_, (_, (_, (x4, _))))), (o0, _), _) => f x0 x4 o0
noncomputable def P_s_l01Cuts_5_0 (x0 : List Int) (x4 : Int) (o0 : List Int) (nx0 : (List Int) → Int → (List Int) → Option Ret) (k0 : Int → (List Int) → Option Ret) (k1 : Int → (List Int) → Option Ret) : Option Ret := (bif (decide (x4 < (((List.length x0) : Nat) : Int))) then (bif (fitB x0) then (bif ((szAt x0 x4) == (0 : Int)) then (k0 x4 o0) else (bif (Nat.ble (((List.length o0) + (List.length (x4 :: ([] : List Int)))) * 8) 140737488355328) then (nx0 x0 (IntKind.wrap .i64 (x4 + (szAt x0 x4))) (o0 ++ (x4 :: ([] : List Int)))) else none)) else none) else (k1 x4 o0))
noncomputable def Q_s_l01Cuts_5_0 : Nat → (List Int) → Int → (List Int) → (Int → (List Int) → Option Ret) → (Int → (List Int) → Option Ret) → Option Ret
  | 0, _, _, _, _, _ => none
  | m + 1, x0, x4, o0, k0, k1 => P_s_l01Cuts_5_0 x0 x4 o0 (fun x0 x4 o0 => (Q_s_l01Cuts_5_0 m x0 x4 o0 k0 k1)) k0 k1
noncomputable def R_s_l01Cuts_5_0 (x0 : List Int) (x4 : Int) (o0 : List Int) (k0 : Int → (List Int) → Option Ret) (k1 : Int → (List Int) → Option Ret) : Option Ret := Q_s_l01Cuts_5_0 (List.length x0 + x4.toNat + List.length o0 + 2) x0 x4 o0 k0 k1
noncomputable def W_s_l01Cuts_5 : LoopFn := (fun (σ : St) (K : Ex → St → Option Ret) => (match sh_s_l01Cuts_5_0.un σ with | some d => w_s_l01Cuts_5_0 d (fun x0 x4 o0 => R_s_l01Cuts_5_0 x0 x4 o0 (fun x4 o0 => (K .ret (z_s_l01Cuts_5_0 x4 o0))) (fun x4 o0 => (K (.ext 0) (z_s_l01Cuts_5_1 x4 o0)))) | none => none))
noncomputable abbrev E_s_l01Cuts : Env := En [(N.s_RuneSize, true, S_s_RuneSize)] [] [(5, [0,3,4], [2,3,4], W_s_l01Cuts_5)] [] false 0 []
theorem st_s_l01Cuts_5_0 (m : Nat) (x0 : List Int) (x4 : Int) (o0 : List Int) (K : Ex → St → Option Ret) : rounds (run E_s_l01Cuts (bodyOf F.s_l01Cuts 5)) [0,3,4] [2,3,4] (m + 1) (s_s_l01Cuts_5_0 x0 x4 o0) K = P_s_l01Cuts_5_0 x0 x4 o0 (fun x0 x4 o0 => (rounds (run E_s_l01Cuts (bodyOf F.s_l01Cuts 5)) [0,3,4] [2,3,4] m (s_s_l01Cuts_5_0 x0 x4 o0) K)) (fun x4 o0 => (K .ret (z_s_l01Cuts_5_0 x4 o0))) (fun x4 o0 => (K (.ext 0) (z_s_l01Cuts_5_1 x4 o0))) := by kernel_rfl
theorem q_s_l01Cuts_5 (K : Ex → St → Option Ret) : ∀ m : Nat, (∀ (x0 : List Int) (x4 : Int) (o0 : List Int), rounds (run E_s_l01Cuts (bodyOf F.s_l01Cuts 5)) [0,3,4] [2,3,4] m (s_s_l01Cuts_5_0 x0 x4 o0) K = Q_s_l01Cuts_5_0 m x0 x4 o0 (fun x4 o0 => (K .ret (z_s_l01Cuts_5_0 x4 o0))) (fun x4 o0 => (K (.ext 0) (z_s_l01Cuts_5_1 x4 o0))))
  | 0 => (fun _ _ _ => rfl)
  | m + 1 => (fun x0 x4 o0 => (by rw [st_s_l01Cuts_5_0, show (fun x0 x4 o0 => (rounds (run E_s_l01Cuts (bodyOf F.s_l01Cuts 5)) [0,3,4] [2,3,4] m (s_s_l01Cuts_5_0 x0 x4 o0) K)) = (fun x0 x4 o0 => (Q_s_l01Cuts_5_0 m x0 x4 o0 (fun x4 o0 => (K .ret (z_s_l01Cuts_5_0 x4 o0))) (fun x4 o0 => (K (.ext 0) (z_s_l01Cuts_5_1 x4 o0))))) from funext fun x0 => funext fun x4 => funext fun o0 => (q_s_l01Cuts_5 K m) x0 x4 o0]; rfl))
theorem loopK_s_l01Cuts_5 : LoopOk E_s_l01Cuts (bodyOf F.s_l01Cuts 5) := by
  refine loopW_ok (n := 5) (F := W_s_l01Cuts_5) (by kernel_rfl) rfl (li := [0,3,4]) (lo := [2,3,4]) rfl (fun σ K r hr => ?_)
  unfold W_s_l01Cuts_5 at hr
  split at hr
  · rename_i d hd
    rw [Ss.un_mk hd]
    exact ⟨_, ((congrArg (fun z => rounds (run E_s_l01Cuts (bodyOf F.s_l01Cuts 5)) [0,3,4] [2,3,4] _ z K) (se_s_l01Cuts_5_0 _ _ _)).trans ((q_s_l01Cuts_5 K _) _ _ _)).trans hr⟩
  · cases hr
noncomputable def T_s_l01Cuts (d : List Int) (K : Ret → Option Ret) : Option Ret := (bif (decide ((((List.length d) : Nat) : Int) > (400 : Int))) then K ((.l .deep intR ([] : List Int)), []) else (R_s_l01Cuts_5_0 d (0 : Int) ([] : List Int) (fun y0 y1 => K ((.l .deep intR ([] : List Int)), [])) (fun y2 y3 => (bif (Nat.ble (((List.length y3) + (List.length (y2 :: ([] : List Int)))) * 8) 140737488355328) then K ((.l .deep intR (y3 ++ (y2 :: ([] : List Int)))), []) else none))))
theorem e_s_l01Cuts (d : List Int) (K : Ret → Option Ret) : evF E_s_l01Cuts true F.s_l01Cuts [.l .no bytesR d] K = T_s_l01Cuts d K := by kernel_rfl
theorem cuts_loop {d : List Int} (hd : fitB d = true) (F : Option Ret) (k1 : Int → List Int → Option Ret) : ∀ (m n : Nat) (o : List Int), n ≤ d.length → d.length - n < m → o.length ≤ n →
    Q_s_l01Cuts_5_0 m d (n : Int) o (fun _ _ => F) k1 = bif valid (d.drop n) then k1 ((d.length : Nat) : Int) (o ++ starts (d.drop n) (n : Int)) else F
  | 0, n, o, _, h, _ => absurd h (by omega)
  | m + 1, n, o, hn, hm, ho => by
    have hlen := fitB_len hd
    show P_s_l01Cuts_5_0 d (n : Int) o _ _ k1 = _
    unfold P_s_l01Cuts_5_0
    by_cases hl : n < d.length
    · rw [decide_eq_true (show (n : Int) < ((d.length : Nat) : Int) by omega), hd, szAt_in (by omega) (by omega), Int.toNat_natCast]
      simp only [cond_true]
      have hle := runeSz_le (d.drop n)
      rw [List.length_drop] at hle
      by_cases h0 : runeSz (d.drop n) = 0
      · rw [h0, valid_stop h0 (by simp; omega)]; rfl
      · rw [beq_eq_false_iff_ne.2 (show ¬ ((runeSz (d.drop n) : Nat) : Int) = 0 by omega), Nat.ble_eq_true_of_le (show (o.length + [(n : Int)].length) * 8 ≤ 140737488355328 by simp; omega), wrap_in (n := (n : Int) + (runeSz (d.drop n) : Nat)) (by omega) (by omega)]
        have e : (n : Int) + ((runeSz (d.drop n) : Nat) : Int) = ((n + runeSz (d.drop n) : Nat) : Int) := by omega
        simp only [cond_false, cond_true]
        rw [e]
        refine (cuts_loop hd F k1 m (n + runeSz (d.drop n)) (o ++ [(n : Int)]) (by omega) (by omega) (by simp; omega)).trans ?_
        rw [valid_step h0, starts_step h0, List.drop_drop, List.append_assoc, List.singleton_append, e]
    · have : n = d.length := by omega
      subst this
      rw [decide_eq_false (show ¬ ((d.length : Nat) : Int) < ((d.length : Nat) : Int) by omega), List.drop_length, valid_nil, starts_stop (by rfl), List.append_nil]; rfl
def S_s_l01Cuts : Sm := S_fnR [.l bytesR] (fun d => fitB d.1) (fun d => (.l .deep intR (cutsD d.1), []))
theorem v_s_l01Cuts (d : List Int) (h : (fitB d) = true) (K : Ret → Option Ret) : T_s_l01Cuts d K = K (.l .deep intR (cutsD d), []) := by
  unfold T_s_l01Cuts cutsD
  by_cases h4 : ((d.length : Nat) : Int) > 400
  · rw [decide_eq_true h4, show textOk d = false from Bool.eq_false_iff.2 (fun he => by have := (textOk_iff.1 he).1; omega)]; rfl
  · rw [decide_eq_false h4]
    unfold R_s_l01Cuts_5_0
    have := cuts_loop h (K (.l .deep intR [], [])) (fun y2 y3 => (bif (Nat.ble (((List.length y3) + (List.length (y2 :: []))) * 8) 140737488355328) then K ((.l .deep intR (y3 ++ (y2 :: []))), []) else none)) (List.length d + (0 : Int).toNat + List.length ([] : List Int) + 2) 0 [] (by omega) (by omega) (by simp)
    refine Eq.trans this ?_
    rw [List.drop_zero]
    cases hv : valid d with
    | false => rw [show textOk d = false from Bool.eq_false_iff.2 (fun he => by have := (textOk_iff.1 he).2; rw [hv] at this; cases this)]; rfl
    | true =>
      rw [textOk_iff.2 ⟨by omega, hv⟩]
      have hs := starts_len _ d 0 (Nat.le_refl _)
      simp only [cond_true, List.nil_append]
      rw [Nat.ble_eq_true_of_le (by simp; omega), bounds_starts _ d 0 (Nat.le_refl _) hv, Int.zero_add]
      rfl
theorem okS_s_l01Cuts : OkFn prog I N.s_l01Cuts true S_s_l01Cuts := okN (ok_fn (memc okS_s_RuneSize mem0) (l := [(N.s_RuneSize, true, S_s_RuneSize)]) (p := []) (ls := [(5, [0,3,4], [2,3,4], W_s_l01Cuts_5)]) (lend := []) (focus := false) (fuel := 0) (give := []) (fn := F.s_l01Cuts) (by kernel_rfl) (by kernel_rfl) (by kernel_rfl) (by kernel_rfl) (cs := [bodyOf F.s_l01Cuts 5]) (by kernel_rfl) (loopsc loopK_s_l01Cuts_5 loops0)) (S_fnR_of fun d K h => (e_s_l01Cuts d.1 K).trans (v_s_l01Cuts d.1 h K))
end Go.Ev.Seat
end
section
/- s_TextOk: its contract. -/
namespace Go.Ev.Seat
open Go.RowKit
set_option maxRecDepth 100000
set_option linter.unusedVariables false
set_option linter.unusedSimpArgs false
noncomputable abbrev E_s_TextOk : Env := En [(N.s_l01Cuts, true, S_s_l01Cuts)] [] [] [] false 0 []
noncomputable def T_s_TextOk (d : List Int) (K : Ret → Option Ret) : Option Ret := (bif (fitB d) then K ((.s (.bool (decide ((((List.length (cutsD d)) : Nat) : Int) > (0 : Int))))), []) else none)
theorem e_s_TextOk (d : List Int) (K : Ret → Option Ret) : evF E_s_TextOk true F.s_TextOk [.l .no bytesR d] K = T_s_TextOk d K := by kernel_rfl
def S_s_TextOk : Sm := S_fnR [.l bytesR] (fun d => fitB d.1) (fun d => (bl (textOk d.1), []))
theorem v_s_TextOk (d : List Int) (h : (fitB d) = true) (K : Ret → Option Ret) : T_s_TextOk d K = K (bl (textOk d), []) := by
  unfold T_s_TextOk
  rw [h]
  have e : decide ((((List.length (cutsD d)) : Nat) : Int) > (0 : Int)) = textOk d := by
    unfold cutsD
    cases textOk d with
    | false => rfl
    | true => exact decide_eq_true (show (((bounds d 0).length : Nat) : Int) > 0 by have := bounds_ne d 0; omega)
  rw [e]; rfl
theorem okS_s_TextOk : OkFn prog I N.s_TextOk true S_s_TextOk := okN (ok_fn (memc okS_s_l01Cuts mem0) (l := [(N.s_l01Cuts, true, S_s_l01Cuts)]) (p := []) (ls := []) (lend := []) (focus := false) (fuel := 0) (give := []) (fn := F.s_TextOk) (by kernel_rfl) (by kernel_rfl) (by kernel_rfl) (by kernel_rfl) (cs := []) (by kernel_rfl) loops0) (S_fnR_of fun d K h => (e_s_TextOk d.1 K).trans (v_s_TextOk d.1 h K))
end Go.Ev.Seat
end
section
/- s_RunesTo: its contract. -/
namespace Go.Ev.Seat
open Go.RowKit
set_option maxRecDepth 100000
set_option linter.unusedVariables false
set_option linter.unusedSimpArgs false
def z_s_RunesTo_3_0 (x4 : Int) : St := { tm := ([.x, .x, .x, .x, (.s (.int .i64 x4))] ++ List.replicate 17 .x), ob := [], nx := 0, io := [] }
def z_s_RunesTo_3_1 : St := { tm := ([] ++ List.replicate 22 .x), ob := [], nx := 0, io := [] }
def sh_s_RunesTo_3_0 : Ss := { tm := (.cons (.x) (.cons (.int .i64) (.cons (.x) (.cons (.x) (.cons (.x) (.cons (.w 0) (.cons (.int .i64) (xsh 15)))))))), ob := (.arr true true intR .nil), nx := 1, io := .nil }
def d_s_RunesTo_3_0 (x1 : Int) (x6 : Int) (o0 : List Int) : sh_s_RunesTo_3_0.T := (((), (x1, ((), ((), ((), ((), (x6, xd 15))))))), (o0, ()), ())
def s_s_RunesTo_3_0 (x1 : Int) (x6 : Int) (o0 : List Int) : St := { tm := ([.x, (.s (.int .i64 x1)), .x, .x, .x, (.w 0), (.s (.int .i64 x6))] ++ List.replicate 15 .x), ob := [(0, (.arr true true intR o0))], nx := 1, io := [] }
theorem se_s_RunesTo_3_0 (x1 : Int) (x6 : Int) (o0 : List Int) : sh_s_RunesTo_3_0.mk' (d_s_RunesTo_3_0 x1 x6 o0) = (s_s_RunesTo_3_0 x1 x6 o0) := by kernel_rfl
def w_s_RunesTo_3_0 (d : sh_s_RunesTo_3_0.T) (f : Int → Int → (List Int) → Option Ret) : Option Ret := match d with | ((_, (x1, (_, (_, (_, (_, (x6, _))))))), (o0, _), _) => f x1 x6 o0
noncomputable def P_s_RunesTo_3_0 (x1 : Int) (x6 : Int) (o0 : List Int) (nx0 : Int → Int → (List Int) → Option Ret) (k0 : Int → Option Ret) (k1 : Option Ret) : Option Ret := (bif (decide (x6 < (((List.length o0) : Nat) : Int))) then (bif ((decide ((0 : Int) ≤ x6)) && (decide (x6 < (((List.length o0) : Nat) : Int)))) then (bif ((List.getD o0 (Int.toNat x6) (0 : Int)) == x1) then (k0 x6) else (nx0 x1 (IntKind.wrap .i64 (x6 + (1 : Int))) o0)) else none) else k1)
noncomputable def Q_s_RunesTo_3_0 : Nat → Int → Int → (List Int) → (Int → Option Ret) → (Option Ret) → Option Ret
  | 0, _, _, _, _, _ => none
  | m + 1, x1, x6, o0, k0, k1 => P_s_RunesTo_3_0 x1 x6 o0 (fun x1 x6 o0 => (Q_s_RunesTo_3_0 m x1 x6 o0 k0 k1)) k0 k1
noncomputable def R_s_RunesTo_3_0 (x1 : Int) (x6 : Int) (o0 : List Int) (k0 : Int → Option Ret) (k1 : Option Ret) : Option Ret := Q_s_RunesTo_3_0 (x1.toNat + x6.toNat + List.length o0 + 2) x1 x6 o0 k0 k1
noncomputable def W_s_RunesTo_3 : LoopFn := (fun (σ : St) (K : Ex → St → Option Ret) => (match sh_s_RunesTo_3_0.un σ with | some d => w_s_RunesTo_3_0 d (fun x1 x6 o0 => R_s_RunesTo_3_0 x1 x6 o0 (fun x4 => (K .ret (z_s_RunesTo_3_0 x4))) (K (.ext 0) z_s_RunesTo_3_1)) | none => none))
noncomputable abbrev E_s_RunesTo : Env := En [(N.s_l01Cuts, true, S_s_l01Cuts)] [] [(3, [1,5,6], [4], W_s_RunesTo_3)] [] false 0 []
theorem st_s_RunesTo_3_0 (m : Nat) (x1 : Int) (x6 : Int) (o0 : List Int) (K : Ex → St → Option Ret) : rounds (run E_s_RunesTo (bodyOf F.s_RunesTo 3)) [1,5,6] [4] (m + 1) (s_s_RunesTo_3_0 x1 x6 o0) K = P_s_RunesTo_3_0 x1 x6 o0 (fun x1 x6 o0 => (rounds (run E_s_RunesTo (bodyOf F.s_RunesTo 3)) [1,5,6] [4] m (s_s_RunesTo_3_0 x1 x6 o0) K)) (fun x4 => (K .ret (z_s_RunesTo_3_0 x4))) (K (.ext 0) z_s_RunesTo_3_1) := by kernel_rfl
theorem q_s_RunesTo_3 (K : Ex → St → Option Ret) : ∀ m : Nat, (∀ (x1 : Int) (x6 : Int) (o0 : List Int), rounds (run E_s_RunesTo (bodyOf F.s_RunesTo 3)) [1,5,6] [4] m (s_s_RunesTo_3_0 x1 x6 o0) K = Q_s_RunesTo_3_0 m x1 x6 o0 (fun x4 => (K .ret (z_s_RunesTo_3_0 x4))) (K (.ext 0) z_s_RunesTo_3_1))
  | 0 => (fun _ _ _ => rfl)
  | m + 1 => (fun x1 x6 o0 => (by rw [st_s_RunesTo_3_0, show (fun x1 x6 o0 => (rounds (run E_s_RunesTo (bodyOf F.s_RunesTo 3)) [1,5,6] [4] m (s_s_RunesTo_3_0 x1 x6 o0) K)) = (fun x1 x6 o0 => (Q_s_RunesTo_3_0 m x1 x6 o0 (fun x4 => (K .ret (z_s_RunesTo_3_0 x4))) (K (.ext 0) z_s_RunesTo_3_1))) from funext fun x1 => funext fun x6 => funext fun o0 => (q_s_RunesTo_3 K m) x1 x6 o0]; rfl))
theorem loopK_s_RunesTo_3 : LoopOk E_s_RunesTo (bodyOf F.s_RunesTo 3) := by
  refine loopW_ok (n := 3) (F := W_s_RunesTo_3) (by kernel_rfl) rfl (li := [1,5,6]) (lo := [4]) rfl (fun σ K r hr => ?_)
  unfold W_s_RunesTo_3 at hr
  split at hr
  · rename_i d hd
    rw [Ss.un_mk hd]
    exact ⟨_, ((congrArg (fun z => rounds (run E_s_RunesTo (bodyOf F.s_RunesTo 3)) [1,5,6] [4] _ z K) (se_s_RunesTo_3_0 _ _ _)).trans ((q_s_RunesTo_3 K _) _ _ _)).trans hr⟩
  · cases hr
noncomputable def T_s_RunesTo (d : List Int) (k : Int) (K : Ret → Option Ret) : Option Ret := (bif (fitB d) then (R_s_RunesTo_3_0 k (0 : Int) (cutsD d) (fun y0 => K ((.s (.int .i64 y0)), [])) (K ((.s (.int .i64 (-(1 : Int)))), []))) else none)
theorem e_s_RunesTo (d : List Int) (k : Int) (K : Ret → Option Ret) : evF E_s_RunesTo true F.s_RunesTo [.l .no bytesR d, .s (.int .i64 k)] K = T_s_RunesTo d k K := by kernel_rfl
def S_s_RunesTo : Sm := S_fnR [.l bytesR, .i] (fun d => fitB d.1) (fun d => (sc (idxOfD (cutsD d.1) d.2.1), []))
theorem v_s_RunesTo (d : List Int) (k : Int) (h : (fitB d) = true) (K : Ret → Option Ret) : T_s_RunesTo d k K = K (sc (idxOfD (cutsD d) k), []) := by
  unfold T_s_RunesTo R_s_RunesTo_3_0
  rw [h]
  have hl : (cutsD d).length ≤ 401 := by
    unfold cutsD
    cases ht : textOk d with
    | false => simp
    | true =>
      have hh := textOk_iff.1 ht
      rw [cond_true, bounds_starts _ d 0 (Nat.le_refl _) hh.2]
      have := starts_len _ d 0 (Nat.le_refl _)
      simp; omega
  have := idx_find (R := fun m i => Q_s_RunesTo_3_0 m k i (cutsD d) (fun y0 => K ((.s (.int .i64 y0)), [])) (K ((.s (.int .i64 (-(1 : Int)))), []))) (p := fun c => c == k) (z := 0) (xs := cutsD d) (kf := fun y0 => K ((.s (.int .i64 y0)), [])) (kt := K ((.s (.int .i64 (-(1 : Int)))), []))
    (fun m i hi => by
      show P_s_RunesTo_3_0 k i (cutsD d) _ _ _ = _
      unfold P_s_RunesTo_3_0
      rw [decide_eq_true (show ((i : Nat) : Int) < (((cutsD d).length : Nat) : Int) by omega), decide_eq_true (show (0 : Int) ≤ ((i : Nat) : Int) by omega), wrap_nat (by omega), Int.toNat_natCast]
      rfl)
    (fun m => by
      show P_s_RunesTo_3_0 k _ (cutsD d) _ _ _ = _
      unfold P_s_RunesTo_3_0
      rw [decide_eq_false (show ¬ (((cutsD d).length : Nat) : Int) < (((cutsD d).length : Nat) : Int) by omega)]; rfl)
    (k.toNat + (0 : Int).toNat + List.length (cutsD d) + 2) 0 (by omega) (by omega)
  refine Eq.trans this ?_
  rw [List.drop_zero]
  unfold idxOfD
  cases (cutsD d).findIdx? (fun c => c == k) with
  | none => rfl
  | some j => show K (V.s (Value.int .i64 ((0 + j : Nat) : Int)), []) = K (sc ((j : Nat) : Int), []); rw [Nat.zero_add]; rfl
theorem okS_s_RunesTo : OkFn prog I N.s_RunesTo true S_s_RunesTo := okN (ok_fn (memc okS_s_l01Cuts mem0) (l := [(N.s_l01Cuts, true, S_s_l01Cuts)]) (p := []) (ls := [(3, [1,5,6], [4], W_s_RunesTo_3)]) (lend := []) (focus := false) (fuel := 0) (give := []) (fn := F.s_RunesTo) (by kernel_rfl) (by kernel_rfl) (by kernel_rfl) (by kernel_rfl) (cs := [bodyOf F.s_RunesTo 3]) (by kernel_rfl) (loopsc loopK_s_RunesTo_3 loops0)) (S_fnR_of fun d K h => (e_s_RunesTo d.1 d.2.1 K).trans (v_s_RunesTo d.1 d.2.1 h K))
end Go.Ev.Seat
end
section
/- s_CutOk: its contract. -/
namespace Go.Ev.Seat
open Go.RowKit
set_option maxRecDepth 100000
set_option linter.unusedVariables false
set_option linter.unusedSimpArgs false
noncomputable abbrev E_s_CutOk : Env := En [(N.s_RunesTo, true, S_s_RunesTo)] [] [] [] false 0 []
noncomputable def T_s_CutOk (d : List Int) (k : Int) (K : Ret → Option Ret) : Option Ret := (bif (fitB d) then K ((.s (.bool (decide ((idxOfD (cutsD d) k) ≥ (0 : Int))))), []) else none)
theorem e_s_CutOk (d : List Int) (k : Int) (K : Ret → Option Ret) : evF E_s_CutOk true F.s_CutOk [.l .no bytesR d, .s (.int .i64 k)] K = T_s_CutOk d k K := by kernel_rfl
def S_s_CutOk : Sm := S_fnR [.l bytesR, .i] (fun d => fitB d.1) (fun d => (bl (cutOk d.1 d.2.1), []))
theorem v_s_CutOk (d : List Int) (k : Int) (h : (fitB d) = true) (K : Ret → Option Ret) : T_s_CutOk d k K = K (bl (cutOk d k), []) := by
  unfold T_s_CutOk
  rw [h, ← cutsD_has, ← idxOfD_any]; rfl
theorem okS_s_CutOk : OkFn prog I N.s_CutOk true S_s_CutOk := okN (ok_fn (memc okS_s_RunesTo mem0) (l := [(N.s_RunesTo, true, S_s_RunesTo)]) (p := []) (ls := []) (lend := []) (focus := false) (fuel := 0) (give := []) (fn := F.s_CutOk) (by kernel_rfl) (by kernel_rfl) (by kernel_rfl) (by kernel_rfl) (cs := []) (by kernel_rfl) loops0) (S_fnR_of fun d K h => (e_s_CutOk d.1 d.2.1 K).trans (v_s_CutOk d.1 d.2.1 h K))
end Go.Ev.Seat
end
section
/- s_EditOk: its contract. -/
namespace Go.Ev.Seat
open Go.RowKit
set_option maxRecDepth 100000
set_option linter.unusedVariables false
set_option linter.unusedSimpArgs false
noncomputable abbrev E_s_EditOk : Env := En [(N.s_TextOk, true, S_s_TextOk), (N.s_CutOk, true, S_s_CutOk)] [] [] [] false 0 []
noncomputable def T_s_EditOk (t : List Int) (e : T_Edit) (K : Ret → Option Ret) : Option Ret := (bif (fitB t) then (bif (!(textOk t)) then K ((.s (.bool false)), []) else (bif (fitB t) then (bif (!(cutOk t e.1)) then K ((.s (.bool false)), []) else (bif (decide (e.2.1 < (0 : Int))) then K ((.s (.bool false)), []) else (bif (decide (e.2.1 > (IntKind.wrap .i64 ((((List.length t) : Nat) : Int) - e.1)))) then K ((.s (.bool false)), []) else (bif (fitB t) then (bif (!(cutOk t (IntKind.wrap .i64 (e.1 + e.2.1)))) then K ((.s (.bool false)), []) else (bif (fitB e.2.2) then (bif (!(textOk e.2.2)) then K ((.s (.bool false)), []) else K ((.s (.bool (decide ((IntKind.wrap .i64 ((IntKind.wrap .i64 ((((List.length t) : Nat) : Int) - e.2.1)) + (((List.length e.2.2) : Nat) : Int))) ≤ (400 : Int))))), [])) else none)) else none)))) else none)) else none)
theorem e_s_EditOk (t : List Int) (e : T_Edit) (K : Ret → Option Ret) : evF E_s_EditOk true F.s_EditOk [.l .no bytesR t, .a (editR.cells .no e)] K = T_s_EditOk t e K := by kernel_rfl
def S_s_EditOk : Sm := S_fnR [.l bytesR, .a editR] (fun d => fitB d.1 && fitB d.2.1.2.2) (fun d => (bl (editOkD d.1 d.2.1), []))
theorem v_s_EditOk (t : List Int) (e : T_Edit) (h : (fitB t && fitB e.2.2) = true) (K : Ret → Option Ret) : T_s_EditOk t e K = K (bl (editOkD t e), []) := by
  rw [Bool.and_eq_true] at h
  obtain ⟨ht, he⟩ := h
  unfold T_s_EditOk editOkD cutOk
  rw [ht, he]
  cases c1 : textOk t with
  | false => rfl
  | true =>
  have hl := textOk_len c1
  cases c2 : isCutD t e.1 with
  | false => rfl
  | true =>
  have hr := isCutD_range c2
  simp only [Bool.true_and, Bool.not_true, cond_true, cond_false]
  by_cases d1 : e.2.1 < 0
  · rw [decide_eq_true d1, decide_eq_false (show ¬ 0 ≤ e.2.1 by omega)]; rfl
  rw [decide_eq_false d1, decide_eq_true (show 0 ≤ e.2.1 by omega), wrap_in (n := ((t.length : Nat) : Int) - e.1) (by omega) (by omega)]
  by_cases d2 : e.2.1 > ((t.length : Nat) : Int) - e.1
  · rw [decide_eq_true d2, decide_eq_false (show ¬ e.2.1 ≤ ((t.length : Nat) : Int) - e.1 by omega)]; rfl
  rw [decide_eq_false d2, decide_eq_true (show e.2.1 ≤ ((t.length : Nat) : Int) - e.1 by omega), wrap_in (n := e.1 + e.2.1) (by omega) (by omega)]
  cases c3 : isCutD t (e.1 + e.2.1) with
  | false => rfl
  | true =>
  cases c4 : textOk e.2.2 with
  | false => rfl
  | true =>
  have hl2 := textOk_len c4
  rw [wrap_in (n := ((t.length : Nat) : Int) - e.2.1) (by omega) (by omega), wrap_in (n := ((t.length : Nat) : Int) - e.2.1 + ((List.length e.2.2 : Nat) : Int)) (by omega) (by omega)]
  rfl
theorem okS_s_EditOk : OkFn prog I N.s_EditOk true S_s_EditOk := okN (ok_fn (memc okS_s_TextOk (memc okS_s_CutOk mem0)) (l := [(N.s_TextOk, true, S_s_TextOk), (N.s_CutOk, true, S_s_CutOk)]) (p := []) (ls := []) (lend := []) (focus := false) (fuel := 0) (give := []) (fn := F.s_EditOk) (by kernel_rfl) (by kernel_rfl) (by kernel_rfl) (by kernel_rfl) (cs := []) (by kernel_rfl) loops0) (S_fnR_of fun d K h => (e_s_EditOk d.1 d.2.1 K).trans (v_s_EditOk d.1 d.2.1 h K))
end Go.Ev.Seat
end
section
/- s_EditDo: its contract. -/
namespace Go.Ev.Seat
open Go.RowKit
set_option maxRecDepth 100000
set_option linter.unusedVariables false
set_option linter.unusedSimpArgs false
noncomputable abbrev E_s_EditDo : Env := En [(N.s_EditOk, true, S_s_EditOk)] [(3, takeB [1, 2, 3, 4, 6, 7, 9, 10, 11, 12, 13, 14, 15] (.fork (.one 0 (.fork (.one 5 (.fork (.one 8 (.fork (.one 16 (takes [17, 18]))))))))), [])] [] [] false 0 []
noncomputable def T_s_EditDo (t : List Int) (e : T_Edit) (K : Ret → Option Ret) : Option Ret := (bif ((fitB t) && (fitB e.2.2)) then (bif (!(editOkD t e)) then K ((.t [(.l .deep bytesR ([] : List Int)), (.s (.bool false))]), []) else (bif ((decide ((0 : Int) ≤ e.1)) && (decide (e.1 ≤ (((List.length t) : Nat) : Int)))) then (bif ((decide ((0 : Int) ≤ (IntKind.wrap .i64 (e.1 + e.2.1)))) && (decide ((IntKind.wrap .i64 (e.1 + e.2.1)) ≤ (((List.length t) : Nat) : Int)))) then (bif (Nat.ble (((List.length ([] : List Int)) + (List.length (List.take (Int.toNat e.1) t))) * 1) 140737488355328) then (bif (Nat.ble (((List.length (([] : List Int) ++ (List.take (Int.toNat e.1) t))) + (List.length e.2.2)) * 1) 140737488355328) then (bif (Nat.ble (((List.length ((([] : List Int) ++ (List.take (Int.toNat e.1) t)) ++ e.2.2)) + (List.length (List.drop (Int.toNat (IntKind.wrap .i64 (e.1 + e.2.1))) t))) * 1) 140737488355328) then K ((.t [(.l .deep bytesR (((([] : List Int) ++ (List.take (Int.toNat e.1) t)) ++ e.2.2) ++ (List.drop (Int.toNat (IntKind.wrap .i64 (e.1 + e.2.1))) t))), (.s (.bool true))]), []) else none) else none) else none) else none) else none)) else none)
theorem e_s_EditDo (t : List Int) (e : T_Edit) (K : Ret → Option Ret) : evF E_s_EditDo true F.s_EditDo [.l .no bytesR t, .a (editR.cells .no e)] K = T_s_EditDo t e K := by kernel_rfl
def S_s_EditDo : Sm := S_fnR [.l bytesR, .a editR] (fun d => fitB d.1 && fitB d.2.1.2.2) (fun d => (.t [.l .deep bytesR (editDoD d.1 d.2.1), bl (editOkD d.1 d.2.1)], []))
theorem v_s_EditDo (t : List Int) (e : T_Edit) (h : (fitB t && fitB e.2.2) = true) (K : Ret → Option Ret) : T_s_EditDo t e K = K (.t [.l .deep bytesR (editDoD t e), bl (editOkD t e)], []) := by
  unfold T_s_EditDo editDoD
  rw [h]
  cases hk : editOkD t e with
  | false => rfl
  | true =>
  have q := editOkD_iff.1 hk
  have r1 := isCutD_range q.a
  have r2 := isCutD_range q.b
  have c0 := q.c0
  have l1 := textOk_len q.tx
  have l2 := textOk_len q.p
  rw [wrap_in (n := e.1 + e.2.1) (by omega) (by omega), decide_eq_true r1.1, decide_eq_true r1.2, decide_eq_true r2.1, decide_eq_true r2.2]
  have t1 : (List.take (Int.toNat e.1) t).length ≤ 400 := by simp; omega
  have t2 : (List.drop (Int.toNat (e.1 + e.2.1)) t).length ≤ 400 := by simp; omega
  rw [Nat.ble_eq_true_of_le (by simp only [List.length_nil]; omega), Nat.ble_eq_true_of_le (by simp only [List.length_append, List.length_nil]; omega), Nat.ble_eq_true_of_le (by simp only [List.length_append, List.length_nil]; omega)]
  rfl
theorem okS_s_EditDo : OkFn prog I N.s_EditDo true S_s_EditDo := okN (ok_fn (memc okS_s_EditOk mem0) (l := [(N.s_EditOk, true, S_s_EditOk)]) (p := [(3, takeB [1, 2, 3, 4, 6, 7, 9, 10, 11, 12, 13, 14, 15] (.fork (.one 0 (.fork (.one 5 (.fork (.one 8 (.fork (.one 16 (takes [17, 18]))))))))), [])]) (ls := []) (lend := []) (focus := false) (fuel := 0) (give := []) (fn := F.s_EditDo) (by kernel_rfl) (by kernel_rfl) (by kernel_rfl) (by kernel_rfl) (cs := []) (by kernel_rfl) loops0) (S_fnR_of fun d K h => (e_s_EditDo d.1 d.2.1 K).trans (v_s_EditDo d.1 d.2.1 h K))
end Go.Ev.Seat
end
section
/- s_EditsDo: its contract. -/
namespace Go.Ev.Seat
open Go.RowKit
set_option maxRecDepth 100000
set_option linter.unusedVariables false
set_option linter.unusedSimpArgs false
def z_s_EditsDo_5_0 (x1 : List T_Edit) (x5 : Int) (o0 : List Int) : St := { tm := ([.x, (.l .no editR x1), .x, .x, (.w 0), (.s (.int .i64 x5)), (.w 0)] ++ List.replicate 32 .x), ob := [(0, (.arr true true bytesR o0))], nx := 1, io := [] }
def z_s_EditsDo_5_1 (x1 : List T_Edit) (o0 : List Int) : St := { tm := ([.x, (.l .no editR x1), .x, .x, .x, .x, (.w 0)] ++ List.replicate 32 .x), ob := [(0, (.arr true true bytesR o0))], nx := 1, io := [] }
def sh_s_EditsDo_5_0 : Ss := { tm := (.cons (.x) (.cons (.l .no editR) (.cons (.x) (.cons (.x) (.cons (.x) (.cons (.x) (.cons (.w 0) (.cons (.int .i64) (xsh 31))))))))), ob := (.arr true true bytesR .nil), nx := 1, io := .nil }
def d_s_EditsDo_5_0 (x1 : List T_Edit) (x7 : Int) (o0 : List Int) : sh_s_EditsDo_5_0.T := (((), (x1, ((), ((), ((), ((), ((), (x7, xd 31)))))))), (o0, ()), ())
def s_s_EditsDo_5_0 (x1 : List T_Edit) (x7 : Int) (o0 : List Int) : St := { tm := ([.x, (.l .no editR x1), .x, .x, .x, .x, (.w 0), (.s (.int .i64 x7))] ++ List.replicate 31 .x), ob := [(0, (.arr true true bytesR o0))], nx := 1, io := [] }
theorem se_s_EditsDo_5_0 (x1 : List T_Edit) (x7 : Int) (o0 : List Int) : sh_s_EditsDo_5_0.mk' (d_s_EditsDo_5_0 x1 x7 o0) = (s_s_EditsDo_5_0 x1 x7 o0) := by kernel_rfl
def w_s_EditsDo_5_0 (d : sh_s_EditsDo_5_0.T) (f : (List T_Edit) → Int → (List Int) → Option Ret) : Option Ret := match d with | ((_, (x1, (_, (_, (_, (_, (_, (x7, _)))))))), (o0, _), _) => f x1 x7 o0
noncomputable def P_s_EditsDo_5_0 (x1 : List T_Edit) (x7 : Int) (o0 : List Int) (nx0 : (List T_Edit) → Int → (List Int) → Option Ret) (k0 : (List T_Edit) → Int → (List Int) → Option Ret) (k1 : (List T_Edit) → (List Int) → Option Ret) : Option Ret := (bif (decide (x7 < (((List.length x1) : Nat) : Int))) then (bif ((decide ((0 : Int) ≤ x7)) && (decide (x7 < (((List.length x1) : Nat) : Int)))) then (bif ((fitB o0) && (fitB (List.getD x1 (Int.toNat x7) (editR.dflt)).2.2)) then (bif (!(editOkD o0 (List.getD x1 (Int.toNat x7) (editR.dflt)))) then (k0 x1 x7 o0) else (nx0 x1 (IntKind.wrap .i64 (x7 + (1 : Int))) (editDoD o0 (List.getD x1 (Int.toNat x7) (editR.dflt))))) else none) else none) else (k1 x1 o0))
noncomputable def Q_s_EditsDo_5_0 : Nat → (List T_Edit) → Int → (List Int) → ((List T_Edit) → Int → (List Int) → Option Ret) → ((List T_Edit) → (List Int) → Option Ret) → Option Ret
  | 0, _, _, _, _, _ => none
  | m + 1, x1, x7, o0, k0, k1 => P_s_EditsDo_5_0 x1 x7 o0 (fun x1 x7 o0 => (Q_s_EditsDo_5_0 m x1 x7 o0 k0 k1)) k0 k1
noncomputable def R_s_EditsDo_5_0 (x1 : List T_Edit) (x7 : Int) (o0 : List Int) (k0 : (List T_Edit) → Int → (List Int) → Option Ret) (k1 : (List T_Edit) → (List Int) → Option Ret) : Option Ret := Q_s_EditsDo_5_0 (List.length x1 + x7.toNat + List.length o0 + 2) x1 x7 o0 k0 k1
noncomputable def W_s_EditsDo_5 : LoopFn := (fun (σ : St) (K : Ex → St → Option Ret) => (match sh_s_EditsDo_5_0.un σ with | some d => w_s_EditsDo_5_0 d (fun x1 x7 o0 => R_s_EditsDo_5_0 x1 x7 o0 (fun x1 x5 o0 => (K .ret (z_s_EditsDo_5_0 x1 x5 o0))) (fun x1 o0 => (K (.ext 0) (z_s_EditsDo_5_1 x1 o0)))) | none => none))
noncomputable abbrev E_s_EditsDo : Env := En [(N.s_TextOk, true, S_s_TextOk), (N.s_EditDo, true, S_s_EditDo)] [] [(5, [1,6,7], [1,4,5,6], W_s_EditsDo_5)] [] false 0 []
theorem st_s_EditsDo_5_0 (m : Nat) (x1 : List T_Edit) (x7 : Int) (o0 : List Int) (K : Ex → St → Option Ret) : rounds (run E_s_EditsDo (bodyOf F.s_EditsDo 5)) [1,6,7] [1,4,5,6] (m + 1) (s_s_EditsDo_5_0 x1 x7 o0) K = P_s_EditsDo_5_0 x1 x7 o0 (fun x1 x7 o0 => (rounds (run E_s_EditsDo (bodyOf F.s_EditsDo 5)) [1,6,7] [1,4,5,6] m (s_s_EditsDo_5_0 x1 x7 o0) K)) (fun x1 x5 o0 => (K .ret (z_s_EditsDo_5_0 x1 x5 o0))) (fun x1 o0 => (K (.ext 0) (z_s_EditsDo_5_1 x1 o0))) := by kernel_rfl
theorem q_s_EditsDo_5 (K : Ex → St → Option Ret) : ∀ m : Nat, (∀ (x1 : List T_Edit) (x7 : Int) (o0 : List Int), rounds (run E_s_EditsDo (bodyOf F.s_EditsDo 5)) [1,6,7] [1,4,5,6] m (s_s_EditsDo_5_0 x1 x7 o0) K = Q_s_EditsDo_5_0 m x1 x7 o0 (fun x1 x5 o0 => (K .ret (z_s_EditsDo_5_0 x1 x5 o0))) (fun x1 o0 => (K (.ext 0) (z_s_EditsDo_5_1 x1 o0))))
  | 0 => (fun _ _ _ => rfl)
  | m + 1 => (fun x1 x7 o0 => (by rw [st_s_EditsDo_5_0, show (fun x1 x7 o0 => (rounds (run E_s_EditsDo (bodyOf F.s_EditsDo 5)) [1,6,7] [1,4,5,6] m (s_s_EditsDo_5_0 x1 x7 o0) K)) = (fun x1 x7 o0 => (Q_s_EditsDo_5_0 m x1 x7 o0 (fun x1 x5 o0 => (K .ret (z_s_EditsDo_5_0 x1 x5 o0))) (fun x1 o0 => (K (.ext 0) (z_s_EditsDo_5_1 x1 o0))))) from funext fun x1 => funext fun x7 => funext fun o0 => (q_s_EditsDo_5 K m) x1 x7 o0]; rfl))
theorem loopK_s_EditsDo_5 : LoopOk E_s_EditsDo (bodyOf F.s_EditsDo 5) := by
  refine loopW_ok (n := 5) (F := W_s_EditsDo_5) (by kernel_rfl) rfl (li := [1,6,7]) (lo := [1,4,5,6]) rfl (fun σ K r hr => ?_)
  unfold W_s_EditsDo_5 at hr
  split at hr
  · rename_i d hd
    rw [Ss.un_mk hd]
    exact ⟨_, ((congrArg (fun z => rounds (run E_s_EditsDo (bodyOf F.s_EditsDo 5)) [1,6,7] [1,4,5,6] _ z K) (se_s_EditsDo_5_0 _ _ _)).trans ((q_s_EditsDo_5 K _) _ _ _)).trans hr⟩
  · cases hr
noncomputable def T_s_EditsDo (t : List Int) (l : List T_Edit) (K : Ret → Option Ret) : Option Ret := (bif (fitB t) then (bif (!(textOk t)) then K ((.t [(.l .deep bytesR ([] : List Int)), (.s (.int .i64 (-(1 : Int))))]), []) else (bif (Nat.ble (((List.length ([] : List Int)) + (List.length t)) * 1) 140737488355328) then (R_s_EditsDo_5_0 l (0 : Int) (([] : List Int) ++ t) (fun y0 y1 y2 => K ((.t [(.l .deep bytesR y2), (.s (.int .i64 y1))]), [])) (fun y3 y4 => K ((.t [(.l .deep bytesR y4), (.s (.int .i64 (((List.length y3) : Nat) : Int)))]), []))) else none)) else none)
theorem e_s_EditsDo (t : List Int) (l : List T_Edit) (K : Ret → Option Ret) : evF E_s_EditsDo true F.s_EditsDo [.l .no bytesR t, .l .no editR l] K = T_s_EditsDo t l K := by kernel_rfl
def S_s_EditsDo : Sm := S_fnR [.l bytesR, .l editR] (fun d => fitB d.1 && fitC (.sl editR) d.2.1) (fun d => (.t [.l .deep bytesR (editsDoD d.1 d.2.1).1, .s (.int .i64 (editsDoD d.1 d.2.1).2)], []))
theorem v_s_EditsDo (t : List Int) (l : List T_Edit) (h : (fitB t && fitC (.sl editR) l) = true) (K : Ret → Option Ret) : T_s_EditsDo t l K = K (.t [.l .deep bytesR (editsDoD t l).1, .s (.int .i64 (editsDoD t l).2)], []) := by
  have h1 := ((Bool.and_eq_true _ _).mp h).1
  have h2 := ((Bool.and_eq_true _ _).mp h).2
  unfold T_s_EditsDo editsDoD
  rw [h1]
  cases ht : textOk t with
  | false => rfl
  | true =>
  have lt := textOk_len ht
  have hl := fitC_len h2
  rw [Nat.ble_eq_true_of_le (by simp; omega)]
  have q : ∀ (m i : Nat) (o : List Int), fitB o = true → i ≤ l.length → l.length - i < m → Q_s_EditsDo_5_0 m l ((i : Nat) : Int) o (fun y0 y1 y2 => K ((.t [(.l .deep bytesR y2), (.s (.int .i64 y1))]), [])) (fun y3 y4 => K ((.t [(.l .deep bytesR y4), (.s (.int .i64 (((List.length y3) : Nat) : Int)))]), [])) =
      K ((.t [.l .deep bytesR (editsDoL (l.drop i) o i).1, .s (.int .i64 (((editsDoL (l.drop i) o i).2 : Nat) : Int))]), []) := by
    intro m
    induction m with
    | zero => intro i o _ _ hm; omega
    | succ m ih =>
      intro i o ho hi hm
      show P_s_EditsDo_5_0 l ((i : Nat) : Int) o _ _ _ = _
      unfold P_s_EditsDo_5_0
      by_cases hlt : i < l.length
      · have hg : l.getD i editR.dflt = l[i] := getD_lt _ hlt
        have hf : fitB (l[i]).2.2 = true := fitB_fit (fitR_snd (fitR_snd (fitC_mem h2 (List.getElem_mem hlt))))
        have hd : l.drop i = l[i] :: l.drop (i + 1) := (List.getElem_cons_drop hlt).symm
        rw [decide_eq_true (show ((i : Nat) : Int) < ((l.length : Nat) : Int) by omega), decide_eq_true (show (0 : Int) ≤ ((i : Nat) : Int) by omega), Int.toNat_natCast, wrap_nat (by omega), ho, hg, hf, hd]
        cases he : editOkD o l[i] with
        | false => simp only [editsDoL, he]; rfl
        | true =>
          have e1 : editDoD o l[i] = doD l[i] o := by unfold editDoD; rw [he]; rfl
          have := ih (i + 1) (editDoD o l[i]) (fitB_editDoD ho hf) (by omega) (by omega)
          rw [e1] at this ⊢
          simp only [editsDoL, he]
          exact this
      · obtain rfl : i = l.length := by omega
        rw [decide_eq_false (show ¬ ((l.length : Nat) : Int) < ((l.length : Nat) : Int) by omega), List.drop_length]; rfl
  refine Eq.trans (q _ 0 t h1 (by omega) (by omega)) ?_
  rw [List.drop_zero]; rfl
theorem okS_s_EditsDo : OkFn prog I N.s_EditsDo true S_s_EditsDo := okN (ok_fn (memc okS_s_TextOk (memc okS_s_EditDo mem0)) (l := [(N.s_TextOk, true, S_s_TextOk), (N.s_EditDo, true, S_s_EditDo)]) (p := []) (ls := [(5, [1,6,7], [1,4,5,6], W_s_EditsDo_5)]) (lend := []) (focus := false) (fuel := 0) (give := []) (fn := F.s_EditsDo) (by kernel_rfl) (by kernel_rfl) (by kernel_rfl) (by kernel_rfl) (cs := [bodyOf F.s_EditsDo 5]) (by kernel_rfl) (loopsc loopK_s_EditsDo_5 loops0)) (S_fnR_of fun d K h => (e_s_EditsDo d.1 d.2.1 K).trans (v_s_EditsDo d.1 d.2.1 h K))
end Go.Ev.Seat
end
section
/- s_l10Session: its contract. -/
namespace Go.Ev.Seat
open Go.RowKit
set_option maxRecDepth 100000
set_option linter.unusedVariables false
set_option linter.unusedSimpArgs false
noncomputable abbrev E_s_l10Session : Env := En [] [] [] [] false 0 []
noncomputable def T_s_l10Session (s : Int) (K : Ret → Option Ret) : Option Ret := (bif (decide (s ≥ (1 : Int))) then K ((.s (.bool (decide (s ≤ (8 : Int))))), []) else K ((.s (.bool false)), []))
theorem e_s_l10Session (s : Int) (K : Ret → Option Ret) : evF E_s_l10Session true F.s_l10Session [.s (.int .i64 s)] K = T_s_l10Session s K := by kernel_rfl
def S_s_l10Session : Sm := S_fnR [.i] (fun d => true) (fun d => (bl (sessD d.1), []))
theorem v_s_l10Session (s : Int) (K : Ret → Option Ret) : T_s_l10Session s K = K (bl (sessD s), []) := by
  unfold T_s_l10Session sessD
  rw [show decide (s ≥ 1) = decide (1 ≤ s) from rfl]
  cases decide (1 ≤ s) <;> rfl
theorem okS_s_l10Session : OkFn prog I N.s_l10Session true S_s_l10Session := okN (ok_fn mem0 (l := []) (p := []) (ls := []) (lend := []) (focus := false) (fuel := 0) (give := []) (fn := F.s_l10Session) (by kernel_rfl) (by kernel_rfl) (by kernel_rfl) (by kernel_rfl) (cs := []) (by kernel_rfl) loops0) (S_fnR_of fun d K h => (e_s_l10Session d.1 K).trans (v_s_l10Session d.1 K))
end Go.Ev.Seat
end
section
/- s_SelOk: its contract. -/
namespace Go.Ev.Seat
open Go.RowKit
set_option maxRecDepth 100000
set_option linter.unusedVariables false
set_option linter.unusedSimpArgs false
noncomputable abbrev E_s_SelOk : Env := En [(N.s_CutOk, true, S_s_CutOk)] [] [] [] false 0 []
noncomputable def T_s_SelOk (t : List Int) (s : T_Sel) (K : Ret → Option Ret) : Option Ret := (bif (fitB t) then (bif (cutOk t s.1) then (bif (fitB t) then K ((.s (.bool (cutOk t s.2))), []) else none) else K ((.s (.bool false)), [])) else none)
theorem e_s_SelOk (t : List Int) (s : T_Sel) (K : Ret → Option Ret) : evF E_s_SelOk true F.s_SelOk [.l .no bytesR t, .a (selR.cells .no s)] K = T_s_SelOk t s K := by kernel_rfl
def S_s_SelOk : Sm := S_fnR [.l bytesR, .a selR] (fun d => fitB d.1) (fun d => (bl (cutOk d.1 d.2.1.1 && cutOk d.1 d.2.1.2), []))
theorem v_s_SelOk (t : List Int) (s : T_Sel) (h : (fitB t) = true) (K : Ret → Option Ret) : T_s_SelOk t s K = K (bl (cutOk t s.1 && cutOk t s.2), []) := by
  unfold T_s_SelOk
  rw [h]
  cases cutOk t s.1 <;> rfl
theorem okS_s_SelOk : OkFn prog I N.s_SelOk true S_s_SelOk := okN (ok_fn (memc okS_s_CutOk mem0) (l := [(N.s_CutOk, true, S_s_CutOk)]) (p := []) (ls := []) (lend := []) (focus := false) (fuel := 0) (give := []) (fn := F.s_SelOk) (by kernel_rfl) (by kernel_rfl) (by kernel_rfl) (by kernel_rfl) (cs := []) (by kernel_rfl) loops0) (S_fnR_of fun d K h => (e_s_SelOk d.1 d.2.1 K).trans (v_s_SelOk d.1 d.2.1 h K))
end Go.Ev.Seat
end
section
/- s_l02Small: its contract. -/
namespace Go.Ev.Seat
open Go.RowKit
set_option maxRecDepth 100000
set_option linter.unusedVariables false
set_option linter.unusedSimpArgs false
noncomputable abbrev E_s_l02Small : Env := En [] [] [] [] false 0 []
noncomputable def T_s_l02Small (n : Int) (K : Ret → Option Ret) : Option Ret := (bif (decide (n ≥ (0 : Int))) then K ((.s (.bool (decide (n ≤ (400 : Int))))), []) else K ((.s (.bool false)), []))
theorem e_s_l02Small (n : Int) (K : Ret → Option Ret) : evF E_s_l02Small true F.s_l02Small [.s (.int .i64 n)] K = T_s_l02Small n K := by kernel_rfl
def S_s_l02Small : Sm := S_fnR [.i] (fun d => true) (fun d => (bl (in400 d.1), []))
theorem v_s_l02Small (n : Int) (K : Ret → Option Ret) : T_s_l02Small n K = K (bl (in400 n), []) := by
  unfold T_s_l02Small in400
  rw [show decide (n ≥ 0) = decide (0 ≤ n) from rfl]
  cases decide (0 ≤ n) <;> rfl
theorem okS_s_l02Small : OkFn prog I N.s_l02Small true S_s_l02Small := okN (ok_fn mem0 (l := []) (p := []) (ls := []) (lend := []) (focus := false) (fuel := 0) (give := []) (fn := F.s_l02Small) (by kernel_rfl) (by kernel_rfl) (by kernel_rfl) (by kernel_rfl) (cs := []) (by kernel_rfl) loops0) (S_fnR_of fun d K h => (e_s_l02Small d.1 K).trans (v_s_l02Small d.1 K))
end Go.Ev.Seat
end
section
/- s_l05Small: its contract. -/
namespace Go.Ev.Seat
open Go.RowKit
set_option maxRecDepth 100000
set_option linter.unusedVariables false
set_option linter.unusedSimpArgs false
noncomputable abbrev E_s_l05Small : Env := En [(N.s_l02Small, true, S_s_l02Small)] [] [] [] false 0 []
noncomputable def T_s_l05Small (e : T_Edit) (K : Ret → Option Ret) : Option Ret := (bif (in400 e.1) then (bif (in400 e.2.1) then K ((.s (.bool (decide ((((List.length e.2.2) : Nat) : Int) ≤ (400 : Int))))), []) else K ((.s (.bool false)), [])) else K ((.s (.bool false)), []))
theorem e_s_l05Small (e : T_Edit) (K : Ret → Option Ret) : evF E_s_l05Small true F.s_l05Small [.a (editR.cells .no e)] K = T_s_l05Small e K := by kernel_rfl
def S_s_l05Small : Sm := S_fnR [.a editR] (fun d => true) (fun d => (bl (smallE d.1), []))
theorem v_s_l05Small (e : T_Edit) (K : Ret → Option Ret) : T_s_l05Small e K = K (bl (smallE e), []) := by
  unfold T_s_l05Small smallE
  cases in400 e.1 <;> cases in400 e.2.1 <;> rfl
theorem okS_s_l05Small : OkFn prog I N.s_l05Small true S_s_l05Small := okN (ok_fn (memc okS_s_l02Small mem0) (l := [(N.s_l02Small, true, S_s_l02Small)]) (p := []) (ls := []) (lend := []) (focus := false) (fuel := 0) (give := []) (fn := F.s_l05Small) (by kernel_rfl) (by kernel_rfl) (by kernel_rfl) (by kernel_rfl) (cs := []) (by kernel_rfl) loops0) (S_fnR_of fun d K h => (e_s_l05Small d.1 K).trans (v_s_l05Small d.1 K))
end Go.Ev.Seat
end
section
/- s_l08All: its contract. -/
namespace Go.Ev.Seat
open Go.RowKit
set_option maxRecDepth 100000
set_option linter.unusedVariables false
set_option linter.unusedSimpArgs false
def z_s_l08All_4_0 (x2 : Bool) : St := { tm := ([.x, .x, (.s (.bool x2))] ++ List.replicate 16 .x), ob := [], nx := 0, io := [] }
def z_s_l08All_4_1 : St := { tm := ([] ++ List.replicate 19 .x), ob := [], nx := 0, io := [] }
def sh_s_l08All_4_0 : Ss := { tm := (.cons (.l .no editR) (.cons (.x) (.cons (.x) (.cons (.int .i64) (xsh 15))))), ob := .nil, nx := 0, io := .nil }
def d_s_l08All_4_0 (x0 : List T_Edit) (x3 : Int) : sh_s_l08All_4_0.T := ((x0, ((), ((), (x3, xd 15)))), (), ())
def s_s_l08All_4_0 (x0 : List T_Edit) (x3 : Int) : St := { tm := ([(.l .no editR x0), .x, .x, (.s (.int .i64 x3))] ++ List.replicate 15 .x), ob := [], nx := 0, io := [] }
theorem se_s_l08All_4_0 (x0 : List T_Edit) (x3 : Int) : sh_s_l08All_4_0.mk' (d_s_l08All_4_0 x0 x3) = (s_s_l08All_4_0 x0 x3) := by kernel_rfl
def w_s_l08All_4_0 (d : sh_s_l08All_4_0.T) (f : (List T_Edit) → Int → Option Ret) : Option Ret := match d with | ((x0, (_, (_, (x3, _)))), _, _) => f x0 x3
noncomputable def P_s_l08All_4_0 (x0 : List T_Edit) (x3 : Int) (nx0 : (List T_Edit) → Int → Option Ret) (k0 : Bool → Option Ret) (k1 : Option Ret) : Option Ret := (bif (decide (x3 < (((List.length x0) : Nat) : Int))) then (bif ((decide ((0 : Int) ≤ x3)) && (decide (x3 < (((List.length x0) : Nat) : Int)))) then (bif (!(smallE (List.getD x0 (Int.toNat x3) (editR.dflt)))) then (k0 false) else (nx0 x0 (IntKind.wrap .i64 (x3 + (1 : Int))))) else none) else k1)
noncomputable def Q_s_l08All_4_0 : Nat → (List T_Edit) → Int → (Bool → Option Ret) → (Option Ret) → Option Ret
  | 0, _, _, _, _ => none
  | m + 1, x0, x3, k0, k1 => P_s_l08All_4_0 x0 x3 (fun x0 x3 => (Q_s_l08All_4_0 m x0 x3 k0 k1)) k0 k1
noncomputable def R_s_l08All_4_0 (x0 : List T_Edit) (x3 : Int) (k0 : Bool → Option Ret) (k1 : Option Ret) : Option Ret := Q_s_l08All_4_0 (List.length x0 + x3.toNat + 2) x0 x3 k0 k1
noncomputable def W_s_l08All_4 : LoopFn := (fun (σ : St) (K : Ex → St → Option Ret) => (match sh_s_l08All_4_0.un σ with | some d => w_s_l08All_4_0 d (fun x0 x3 => R_s_l08All_4_0 x0 x3 (fun x2 => (K .ret (z_s_l08All_4_0 x2))) (K (.ext 0) z_s_l08All_4_1)) | none => none))
noncomputable abbrev E_s_l08All : Env := En [(N.s_l05Small, true, S_s_l05Small)] [] [(4, [0,3], [2], W_s_l08All_4)] [] false 0 []
theorem st_s_l08All_4_0 (m : Nat) (x0 : List T_Edit) (x3 : Int) (K : Ex → St → Option Ret) : rounds (run E_s_l08All (bodyOf F.s_l08All 4)) [0,3] [2] (m + 1) (s_s_l08All_4_0 x0 x3) K = P_s_l08All_4_0 x0 x3 (fun x0 x3 => (rounds (run E_s_l08All (bodyOf F.s_l08All 4)) [0,3] [2] m (s_s_l08All_4_0 x0 x3) K)) (fun x2 => (K .ret (z_s_l08All_4_0 x2))) (K (.ext 0) z_s_l08All_4_1) := by kernel_rfl
theorem q_s_l08All_4 (K : Ex → St → Option Ret) : ∀ m : Nat, (∀ (x0 : List T_Edit) (x3 : Int), rounds (run E_s_l08All (bodyOf F.s_l08All 4)) [0,3] [2] m (s_s_l08All_4_0 x0 x3) K = Q_s_l08All_4_0 m x0 x3 (fun x2 => (K .ret (z_s_l08All_4_0 x2))) (K (.ext 0) z_s_l08All_4_1))
  | 0 => (fun _ _ => rfl)
  | m + 1 => (fun x0 x3 => (by rw [st_s_l08All_4_0, show (fun x0 x3 => (rounds (run E_s_l08All (bodyOf F.s_l08All 4)) [0,3] [2] m (s_s_l08All_4_0 x0 x3) K)) = (fun x0 x3 => (Q_s_l08All_4_0 m x0 x3 (fun x2 => (K .ret (z_s_l08All_4_0 x2))) (K (.ext 0) z_s_l08All_4_1))) from funext fun x0 => funext fun x3 => (q_s_l08All_4 K m) x0 x3]; rfl))
theorem loopK_s_l08All_4 : LoopOk E_s_l08All (bodyOf F.s_l08All 4) := by
  refine loopW_ok (n := 4) (F := W_s_l08All_4) (by kernel_rfl) rfl (li := [0,3]) (lo := [2]) rfl (fun σ K r hr => ?_)
  unfold W_s_l08All_4 at hr
  split at hr
  · rename_i d hd
    rw [Ss.un_mk hd]
    exact ⟨_, ((congrArg (fun z => rounds (run E_s_l08All (bodyOf F.s_l08All 4)) [0,3] [2] _ z K) (se_s_l08All_4_0 _ _)).trans ((q_s_l08All_4 K _) _ _)).trans hr⟩
  · cases hr
noncomputable def T_s_l08All (l : List T_Edit) (K : Ret → Option Ret) : Option Ret := (bif (decide ((((List.length l) : Nat) : Int) > (6 : Int))) then K ((.s (.bool false)), []) else (R_s_l08All_4_0 l (0 : Int) (fun y0 => K ((.s (.bool y0)), [])) (K ((.s (.bool true)), []))))
theorem e_s_l08All (l : List T_Edit) (K : Ret → Option Ret) : evF E_s_l08All true F.s_l08All [.l .no editR l] K = T_s_l08All l K := by kernel_rfl
def S_s_l08All : Sm := S_fnR [.l editR] (fun d => Nat.ble d.1.length 1048576) (fun d => (bl (okL d.1), []))
theorem v_s_l08All (l : List T_Edit) (h : (Nat.ble l.length 1048576) = true) (K : Ret → Option Ret) : T_s_l08All l K = K (bl (okL l), []) := by
  have hl := Nat.le_of_ble_eq_true h
  unfold T_s_l08All okL
  by_cases h6 : ((l.length : Nat) : Int) ≤ 6
  case neg => rw [decide_eq_false h6, decide_eq_true (show ((l.length : Nat) : Int) > 6 by omega)]; rfl
  rw [decide_eq_true h6, decide_eq_false (show ¬ ((l.length : Nat) : Int) > 6 by omega)]
  have q := idx_all (R := fun m i => Q_s_l08All_4_0 m l i (fun y0 => K ((.s (.bool y0)), [])) (K ((.s (.bool true)), []))) (p := smallE) (xs := l) (z := editR.dflt) (kt := K ((.s (.bool true)), [])) (kf := K ((.s (.bool false)), [])) (fun m i hi => by
      show P_s_l08All_4_0 l ((i : Nat) : Int) _ _ _ = _
      unfold P_s_l08All_4_0
      rw [decide_eq_true (show ((i : Nat) : Int) < ((l.length : Nat) : Int) by omega), decide_eq_true (show (0 : Int) ≤ ((i : Nat) : Int) by omega), Int.toNat_natCast, wrap_nat (by omega)]
      cases smallE (l.getD i editR.dflt) <;> rfl) (fun m => by
      show P_s_l08All_4_0 l ((l.length : Nat) : Int) _ _ _ = _
      unfold P_s_l08All_4_0
      rw [decide_eq_false (show ¬ ((l.length : Nat) : Int) < ((l.length : Nat) : Int) by omega)]; rfl) (List.length l + (0 : Int).toNat + 2) 0 (by omega) (by omega)
  refine Eq.trans q ?_
  rw [List.drop_zero]
  cases l.all smallE <;> rfl
theorem okS_s_l08All : OkFn prog I N.s_l08All true S_s_l08All := okN (ok_fn (memc okS_s_l05Small mem0) (l := [(N.s_l05Small, true, S_s_l05Small)]) (p := []) (ls := [(4, [0,3], [2], W_s_l08All_4)]) (lend := []) (focus := false) (fuel := 0) (give := []) (fn := F.s_l08All) (by kernel_rfl) (by kernel_rfl) (by kernel_rfl) (by kernel_rfl) (cs := [bodyOf F.s_l08All 4]) (by kernel_rfl) (loopsc loopK_s_l08All_4 loops0)) (S_fnR_of fun d K h => (e_s_l08All d.1 K).trans (v_s_l08All d.1 h K))
end Go.Ev.Seat
end
section
/- s_StackOk: its contract. -/
namespace Go.Ev.Seat
open Go.RowKit
set_option maxRecDepth 100000
set_option linter.unusedVariables false
set_option linter.unusedSimpArgs false
noncomputable abbrev E_s_StackOk : Env := En [(N.s_l08All, true, S_s_l08All)] [] [] [] false 0 []
noncomputable def T_s_StackOk (s : T_Stack) (K : Ret → Option Ret) : Option Ret := (bif (Nat.ble (List.length s.1) 1048576) then (bif (okL s.1) then (bif (Nat.ble (List.length s.2) 1048576) then K ((.s (.bool (okL s.2))), []) else none) else K ((.s (.bool false)), [])) else none)
theorem e_s_StackOk (s : T_Stack) (K : Ret → Option Ret) : evF E_s_StackOk true F.s_StackOk [.a (stackR.cells .no s)] K = T_s_StackOk s K := by kernel_rfl
def S_s_StackOk : Sm := S_fnR [.a stackR] (fun d => Nat.ble d.1.1.length 1048576 && Nat.ble d.1.2.length 1048576) (fun d => (bl (stackOkD d.1), []))
theorem v_s_StackOk (s : T_Stack) (h : (Nat.ble s.1.length 1048576 && Nat.ble s.2.length 1048576) = true) (K : Ret → Option Ret) : T_s_StackOk s K = K (bl (stackOkD s), []) := by
  obtain ⟨h1, h2⟩ := (Bool.and_eq_true _ _).mp h
  unfold T_s_StackOk stackOkD
  rw [h1, h2]
  cases okL s.1 <;> rfl
theorem okS_s_StackOk : OkFn prog I N.s_StackOk true S_s_StackOk := okN (ok_fn (memc okS_s_l08All mem0) (l := [(N.s_l08All, true, S_s_l08All)]) (p := []) (ls := []) (lend := []) (focus := false) (fuel := 0) (give := []) (fn := F.s_StackOk) (by kernel_rfl) (by kernel_rfl) (by kernel_rfl) (by kernel_rfl) (cs := []) (by kernel_rfl) loops0) (S_fnR_of fun d K h => (e_s_StackOk d.1 K).trans (v_s_StackOk d.1 h K))
end Go.Ev.Seat
end
section
/- s_l10Fits: its contract. -/
namespace Go.Ev.Seat
open Go.RowKit
set_option maxRecDepth 100000
set_option linter.unusedVariables false
set_option linter.unusedSimpArgs false
noncomputable abbrev E_s_l10Fits : Env := En [(N.s_CutOk, true, S_s_CutOk), (N.s_TextOk, true, S_s_TextOk)] [] [] [] false 0 []
noncomputable def T_s_l10Fits (t : List Int) (e : T_Edit) (K : Ret → Option Ret) : Option Ret := (bif (fitB t) then (bif (cutOk t e.1) then (bif (decide (e.2.1 ≥ (0 : Int))) then (bif (decide (e.2.1 ≤ (IntKind.wrap .i64 ((((List.length t) : Nat) : Int) - e.1)))) then (bif (fitB t) then (bif (cutOk t (IntKind.wrap .i64 (e.1 + e.2.1))) then (bif (fitB e.2.2) then K ((.s (.bool (textOk e.2.2))), []) else none) else K ((.s (.bool false)), [])) else none) else K ((.s (.bool false)), [])) else K ((.s (.bool false)), [])) else K ((.s (.bool false)), [])) else none)
theorem e_s_l10Fits (t : List Int) (e : T_Edit) (K : Ret → Option Ret) : evF E_s_l10Fits true F.s_l10Fits [.l .no bytesR t, .a (editR.cells .no e)] K = T_s_l10Fits t e K := by kernel_rfl
def S_s_l10Fits : Sm := S_fnR [.l bytesR, .a editR] (fun d => fitB d.1 && fitB d.2.1.2.2 && textOk d.1) (fun d => (bl (fitsD d.1 d.2.1), []))
theorem v_s_l10Fits (t : List Int) (e : T_Edit) (h : (fitB t && fitB e.2.2 && textOk t) = true) (K : Ret → Option Ret) : T_s_l10Fits t e K = K (bl (fitsD t e), []) := by
  simp only [Bool.and_eq_true] at h
  obtain ⟨⟨h1, h2⟩, h3⟩ := h
  have hl := textOk_len h3
  unfold T_s_l10Fits fitsD cutOk
  rw [h1, h2, h3, show decide (e.2.1 ≥ 0) = decide (0 ≤ e.2.1) from rfl]
  cases ha : isCutD t e.1 with
  | false => rfl
  | true =>
    have r1 := isCutD_range ha
    by_cases c0 : 0 ≤ e.2.1
    case neg => rw [decide_eq_false c0]; rfl
    rw [decide_eq_true c0, wrap_in (n := ((t.length : Nat) : Int) - e.1) (by omega) (by omega)]
    by_cases c1 : e.2.1 ≤ ((t.length : Nat) : Int) - e.1
    case neg => rw [decide_eq_false c1]; rfl
    rw [decide_eq_true c1, wrap_in (n := e.1 + e.2.1) (by omega) (by omega)]
    cases isCutD t (e.1 + e.2.1) <;> rfl
theorem okS_s_l10Fits : OkFn prog I N.s_l10Fits true S_s_l10Fits := okN (ok_fn (memc okS_s_CutOk (memc okS_s_TextOk mem0)) (l := [(N.s_CutOk, true, S_s_CutOk), (N.s_TextOk, true, S_s_TextOk)]) (p := []) (ls := []) (lend := []) (focus := false) (fuel := 0) (give := []) (fn := F.s_l10Fits) (by kernel_rfl) (by kernel_rfl) (by kernel_rfl) (by kernel_rfl) (cs := []) (by kernel_rfl) loops0) (S_fnR_of fun d K h => (e_s_l10Fits d.1 d.2.1 K).trans (v_s_l10Fits d.1 d.2.1 h K))
end Go.Ev.Seat
end
section
/- s_l10FitAll: its contract. -/
namespace Go.Ev.Seat
open Go.RowKit
set_option maxRecDepth 100000
set_option linter.unusedVariables false
set_option linter.unusedSimpArgs false
def z_s_l10FitAll_2_0 (x4 : Bool) : St := { tm := ([.x, .x, .x, .x, (.s (.bool x4))] ++ List.replicate 14 .x), ob := [], nx := 0, io := [] }
def z_s_l10FitAll_2_1 : St := { tm := ([] ++ List.replicate 19 .x), ob := [], nx := 0, io := [] }
def sh_s_l10FitAll_2_0 : Ss := { tm := (.cons (.l .no bytesR) (.cons (.l .no editR) (.cons (.x) (.cons (.x) (.cons (.x) (.cons (.int .i64) (xsh 13))))))), ob := .nil, nx := 0, io := .nil }
def d_s_l10FitAll_2_0 (x0 : List Int) (x1 : List T_Edit) (x5 : Int) : sh_s_l10FitAll_2_0.T := ((x0, (x1, ((), ((), ((), (x5, xd 13)))))), (), ())
def s_s_l10FitAll_2_0 (x0 : List Int) (x1 : List T_Edit) (x5 : Int) : St := { tm := ([(.l .no bytesR x0), (.l .no editR x1), .x, .x, .x, (.s (.int .i64 x5))] ++ List.replicate 13 .x), ob := [], nx := 0, io := [] }
theorem se_s_l10FitAll_2_0 (x0 : List Int) (x1 : List T_Edit) (x5 : Int) : sh_s_l10FitAll_2_0.mk' (d_s_l10FitAll_2_0 x0 x1 x5) = (s_s_l10FitAll_2_0 x0 x1 x5) := by kernel_rfl
def w_s_l10FitAll_2_0 (d : sh_s_l10FitAll_2_0.T) (f : (List Int) → (List T_Edit) → Int → Option Ret) : Option Ret := match d with | ((x0, (x1, (_, (_, (_, (x5, _)))))), _, _) => f x0 x1 x5
noncomputable def P_s_l10FitAll_2_0 (x0 : List Int) (x1 : List T_Edit) (x5 : Int) (nx0 : (List Int) → (List T_Edit) → Int → Option Ret) (k0 : Bool → Option Ret) (k1 : Option Ret) : Option Ret := (bif (decide (x5 < (((List.length x1) : Nat) : Int))) then (bif ((decide ((0 : Int) ≤ x5)) && (decide (x5 < (((List.length x1) : Nat) : Int)))) then (bif (((fitB x0) && (fitB (List.getD x1 (Int.toNat x5) (editR.dflt)).2.2)) && (textOk x0)) then (bif (!(fitsD x0 (List.getD x1 (Int.toNat x5) (editR.dflt)))) then (k0 false) else (nx0 x0 x1 (IntKind.wrap .i64 (x5 + (1 : Int))))) else none) else none) else k1)
noncomputable def Q_s_l10FitAll_2_0 : Nat → (List Int) → (List T_Edit) → Int → (Bool → Option Ret) → (Option Ret) → Option Ret
  | 0, _, _, _, _, _ => none
  | m + 1, x0, x1, x5, k0, k1 => P_s_l10FitAll_2_0 x0 x1 x5 (fun x0 x1 x5 => (Q_s_l10FitAll_2_0 m x0 x1 x5 k0 k1)) k0 k1
noncomputable def R_s_l10FitAll_2_0 (x0 : List Int) (x1 : List T_Edit) (x5 : Int) (k0 : Bool → Option Ret) (k1 : Option Ret) : Option Ret := Q_s_l10FitAll_2_0 (List.length x0 + List.length x1 + x5.toNat + 2) x0 x1 x5 k0 k1
noncomputable def W_s_l10FitAll_2 : LoopFn := (fun (σ : St) (K : Ex → St → Option Ret) => (match sh_s_l10FitAll_2_0.un σ with | some d => w_s_l10FitAll_2_0 d (fun x0 x1 x5 => R_s_l10FitAll_2_0 x0 x1 x5 (fun x4 => (K .ret (z_s_l10FitAll_2_0 x4))) (K (.ext 0) z_s_l10FitAll_2_1)) | none => none))
noncomputable abbrev E_s_l10FitAll : Env := En [(N.s_l10Fits, true, S_s_l10Fits)] [] [(2, [0,1,5], [4], W_s_l10FitAll_2)] [] false 0 []
theorem st_s_l10FitAll_2_0 (m : Nat) (x0 : List Int) (x1 : List T_Edit) (x5 : Int) (K : Ex → St → Option Ret) : rounds (run E_s_l10FitAll (bodyOf F.s_l10FitAll 2)) [0,1,5] [4] (m + 1) (s_s_l10FitAll_2_0 x0 x1 x5) K = P_s_l10FitAll_2_0 x0 x1 x5 (fun x0 x1 x5 => (rounds (run E_s_l10FitAll (bodyOf F.s_l10FitAll 2)) [0,1,5] [4] m (s_s_l10FitAll_2_0 x0 x1 x5) K)) (fun x4 => (K .ret (z_s_l10FitAll_2_0 x4))) (K (.ext 0) z_s_l10FitAll_2_1) := by kernel_rfl
theorem q_s_l10FitAll_2 (K : Ex → St → Option Ret) : ∀ m : Nat, (∀ (x0 : List Int) (x1 : List T_Edit) (x5 : Int), rounds (run E_s_l10FitAll (bodyOf F.s_l10FitAll 2)) [0,1,5] [4] m (s_s_l10FitAll_2_0 x0 x1 x5) K = Q_s_l10FitAll_2_0 m x0 x1 x5 (fun x4 => (K .ret (z_s_l10FitAll_2_0 x4))) (K (.ext 0) z_s_l10FitAll_2_1))
  | 0 => (fun _ _ _ => rfl)
  | m + 1 => (fun x0 x1 x5 => (by rw [st_s_l10FitAll_2_0, show (fun x0 x1 x5 => (rounds (run E_s_l10FitAll (bodyOf F.s_l10FitAll 2)) [0,1,5] [4] m (s_s_l10FitAll_2_0 x0 x1 x5) K)) = (fun x0 x1 x5 => (Q_s_l10FitAll_2_0 m x0 x1 x5 (fun x4 => (K .ret (z_s_l10FitAll_2_0 x4))) (K (.ext 0) z_s_l10FitAll_2_1))) from funext fun x0 => funext fun x1 => funext fun x5 => (q_s_l10FitAll_2 K m) x0 x1 x5]; rfl))
theorem loopK_s_l10FitAll_2 : LoopOk E_s_l10FitAll (bodyOf F.s_l10FitAll 2) := by
  refine loopW_ok (n := 2) (F := W_s_l10FitAll_2) (by kernel_rfl) rfl (li := [0,1,5]) (lo := [4]) rfl (fun σ K r hr => ?_)
  unfold W_s_l10FitAll_2 at hr
  split at hr
  · rename_i d hd
    rw [Ss.un_mk hd]
    exact ⟨_, ((congrArg (fun z => rounds (run E_s_l10FitAll (bodyOf F.s_l10FitAll 2)) [0,1,5] [4] _ z K) (se_s_l10FitAll_2_0 _ _ _)).trans ((q_s_l10FitAll_2 K _) _ _ _)).trans hr⟩
  · cases hr
noncomputable def T_s_l10FitAll (t : List Int) (l : List T_Edit) (K : Ret → Option Ret) : Option Ret := (R_s_l10FitAll_2_0 t l (0 : Int) (fun y0 => K ((.s (.bool y0)), [])) (K ((.s (.bool true)), [])))
theorem e_s_l10FitAll (t : List Int) (l : List T_Edit) (K : Ret → Option Ret) : evF E_s_l10FitAll true F.s_l10FitAll [.l .no bytesR t, .l .no editR l] K = T_s_l10FitAll t l K := by kernel_rfl
def S_s_l10FitAll : Sm := S_fnR [.l bytesR, .l editR] (fun d => fitB d.1 && fitC (.sl editR) d.2.1 && textOk d.1) (fun d => (bl (d.2.1.all (fitsD d.1)), []))
theorem v_s_l10FitAll (t : List Int) (l : List T_Edit) (h : (fitB t && fitC (.sl editR) l && textOk t) = true) (K : Ret → Option Ret) : T_s_l10FitAll t l K = K (bl (l.all (fitsD t)), []) := by
  simp only [Bool.and_eq_true] at h
  obtain ⟨⟨h1, h2⟩, h3⟩ := h
  have hl := fitC_len h2
  unfold T_s_l10FitAll
  have q := idx_all (R := fun m i => Q_s_l10FitAll_2_0 m t l i (fun y0 => K ((.s (.bool y0)), [])) (K ((.s (.bool true)), []))) (p := fitsD t) (xs := l) (z := editR.dflt) (kt := K ((.s (.bool true)), [])) (kf := K ((.s (.bool false)), [])) (fun m i hi => by
      show P_s_l10FitAll_2_0 t l ((i : Nat) : Int) _ _ _ = _
      unfold P_s_l10FitAll_2_0
      have f1 : fitB (l.getD i editR.dflt).2.2 = true := fit_edit (fitC_getD h2 rfl i)
      rw [decide_eq_true (show ((i : Nat) : Int) < ((l.length : Nat) : Int) by omega), decide_eq_true (show (0 : Int) ≤ ((i : Nat) : Int) by omega), Int.toNat_natCast, wrap_nat (by omega), h1, h3, f1]
      cases fitsD t (l.getD i editR.dflt) <;> rfl) (fun m => by
      show P_s_l10FitAll_2_0 t l ((l.length : Nat) : Int) _ _ _ = _
      unfold P_s_l10FitAll_2_0
      rw [decide_eq_false (show ¬ ((l.length : Nat) : Int) < ((l.length : Nat) : Int) by omega)]; rfl) (List.length t + List.length l + (0 : Int).toNat + 2) 0 (by omega) (by omega)
  refine Eq.trans q ?_
  rw [List.drop_zero]
  cases l.all (fitsD t) <;> rfl
theorem okS_s_l10FitAll : OkFn prog I N.s_l10FitAll true S_s_l10FitAll := okN (ok_fn (memc okS_s_l10Fits mem0) (l := [(N.s_l10Fits, true, S_s_l10Fits)]) (p := []) (ls := [(2, [0,1,5], [4], W_s_l10FitAll_2)]) (lend := []) (focus := false) (fuel := 0) (give := []) (fn := F.s_l10FitAll) (by kernel_rfl) (by kernel_rfl) (by kernel_rfl) (by kernel_rfl) (cs := [bodyOf F.s_l10FitAll 2]) (by kernel_rfl) (loopsc loopK_s_l10FitAll_2 loops0)) (S_fnR_of fun d K h => (e_s_l10FitAll d.1 d.2.1 K).trans (v_s_l10FitAll d.1 d.2.1 h K))
end Go.Ev.Seat
end
section
/- s_l07Meet: its contract. -/
namespace Go.Ev.Seat
open Go.RowKit
set_option maxRecDepth 100000
set_option linter.unusedVariables false
set_option linter.unusedSimpArgs false
noncomputable abbrev E_s_l07Meet : Env := En [] [] [] [] false 0 []
noncomputable def T_s_l07Meet (a : T_Lease) (b : T_Lease) (K : Ret → Option Ret) : Option Ret := (bif (decide (a.1 < b.2.1)) then (bif (decide (b.1 < a.2.1)) then (bif (decide (a.1 < a.2.1)) then K ((.s (.bool (decide (b.1 < b.2.1)))), []) else K ((.s (.bool false)), [])) else K ((.s (.bool false)), [])) else K ((.s (.bool false)), []))
theorem e_s_l07Meet (a : T_Lease) (b : T_Lease) (K : Ret → Option Ret) : evF E_s_l07Meet true F.s_l07Meet [.a (leaseR.cells .no a), .a (leaseR.cells .no b)] K = T_s_l07Meet a b K := by kernel_rfl
def S_s_l07Meet : Sm := S_fnR [.a leaseR, .a leaseR] (fun d => true) (fun d => (bl (meetD d.1 d.2.1), []))
theorem v_s_l07Meet (a : T_Lease) (b : T_Lease) (K : Ret → Option Ret) : T_s_l07Meet a b K = K (bl (meetD a b), []) := by
  unfold T_s_l07Meet
  rw [← meetD_four]
  cases decide (a.1 < b.2.1) <;> cases decide (b.1 < a.2.1) <;> cases decide (a.1 < a.2.1) <;> rfl
theorem okS_s_l07Meet : OkFn prog I N.s_l07Meet true S_s_l07Meet := okN (ok_fn mem0 (l := []) (p := []) (ls := []) (lend := []) (focus := false) (fuel := 0) (give := []) (fn := F.s_l07Meet) (by kernel_rfl) (by kernel_rfl) (by kernel_rfl) (by kernel_rfl) (cs := []) (by kernel_rfl) loops0) (S_fnR_of fun d K h => (e_s_l07Meet d.1 d.2.1 K).trans (v_s_l07Meet d.1 d.2.1 K))
end Go.Ev.Seat
end
section
/- Documents keep the form of their data. -/
set_option linter.unusedVariables false
namespace Go.Ev.Seat
open Go.RowKit
theorem fit_log {l : List T_Commit} (h : fitC (.sl commitR) l = true) : fitC (.sl editR) (logD l) = true := by
  unfold logD
  refine fitC_mk (by rw [List.length_map]; exact fitC_len h) (fun x hx => ?_)
  obtain ⟨c, hc, rfl⟩ := List.mem_map.1 hx
  exact fit_comedit (fitC_mem h hc)
theorem fitB_editsDoL : ∀ (l : List T_Edit) (t : List Int) (n : Nat), fitB t = true → (∀ e ∈ l, fitB e.2.2 = true) → fitB (editsDoL l t n).1 = true
  | [], t, n, h, _ => h
  | e :: l, t, n, h, hl => by
    simp only [editsDoL]
    cases he : editOkD t e with
    | false => exact h
    | true =>
      have e1 : editDoD t e = doD e t := by unfold editDoD; rw [he]; rfl
      rw [cond_true]
      exact fitB_editsDoL l _ _ (e1 ▸ fitB_editDoD h (hl e List.mem_cons_self)) (fun x hx => hl x (List.mem_cons_of_mem _ hx))
theorem fitB_editsDo {t : List Int} {l : List T_Edit} (h : fitB t = true) (hl : fitC (.sl editR) l = true) : fitB (editsDoD t l).1 = true := by
  unfold editsDoD
  cases textOk t with
  | false => rfl
  | true => exact fitB_editsDoL l t 0 h (fun e he => fit_edit (fitC_mem hl he))
theorem fit_doc {d : T_Doc} (h : fitR docR d = true) : fitB d.1 = true ∧ fitB d.2.1 = true ∧ fitC (.sl commitR) d.2.2.1 = true ∧ fitC (.sl memberR) d.2.2.2.2.1 = true ∧ fitC (.sl leaseR) d.2.2.2.2.2 = true :=
  ⟨fitB_fit (fitR_fst h), fitB_fit (fitR_fst (fitR_snd h)), fitR_fst (fitR_snd (fitR_snd h)), fitR_fst (fitR_snd (fitR_snd (fitR_snd (fitR_snd h)))), fitR_snd (fitR_snd (fitR_snd (fitR_snd (fitR_snd h))))⟩
theorem fit_member {m : T_Member} (h : fitR memberR m = true) : fitC (.sl editR) m.2.2.2.1 = true ∧ fitC (.sl editR) m.2.2.2.2 = true :=
  ⟨fitR_fst (fitR_snd (fitR_snd (fitR_snd h))), fitR_snd (fitR_snd (fitR_snd (fitR_snd h)))⟩
end Go.Ev.Seat
end
section
/- UTF-8: texts put together and cut. -/
set_option linter.unusedVariables false
namespace Go.Ev
open Go.RowKit
/-- The size of the rune in front hangs on its own bytes alone. -/
theorem runeSz_pre {xs ys : List Int} (h : runeSz xs ≠ 0) (hl : runeSz xs ≤ ys.length) (he : ∀ i, i < runeSz xs → ys.getD i 0 = xs.getD i 0) : runeSz ys = runeSz xs := by
  have e0 := he 0 (by omega)
  have l0 : ¬ ys.length = 0 := by omega
  by_cases n0 : xs.length = 0
  · exact absurd (by unfold runeSz; rw [if_pos n0]) h
  by_cases a1 : xs.getD 0 0 < 128
  · have s1 : runeSz xs = 1 := by unfold runeSz; rw [if_neg n0, if_pos a1]
    rw [s1]; unfold runeSz; rw [if_neg l0, e0, if_pos a1]
  by_cases a2 : xs.getD 0 0 < 194
  · exact absurd (by unfold runeSz; rw [if_neg n0, if_neg a1, if_pos a2]) h
  by_cases a3 : xs.getD 0 0 < 224
  · by_cases b : 2 ≤ xs.length ∧ 128 ≤ xs.getD 1 0 ∧ xs.getD 1 0 ≤ 191
    · have s1 : runeSz xs = 2 := by unfold runeSz; rw [if_neg n0, if_neg a1, if_neg a2, if_pos a3, if_pos b]
      have e1 := he 1 (by omega)
      rw [s1]; unfold runeSz; rw [if_neg l0, e0, if_neg a1, if_neg a2, if_pos a3, e1, if_pos ⟨by omega, b.2⟩]
    · exact absurd (by unfold runeSz; rw [if_neg n0, if_neg a1, if_neg a2, if_pos a3, if_neg b]) h
  by_cases a4 : xs.getD 0 0 < 240
  · by_cases b : 3 ≤ xs.length ∧ lo3 (xs.getD 0 0) ≤ xs.getD 1 0 ∧ xs.getD 1 0 ≤ hi3 (xs.getD 0 0) ∧ 128 ≤ xs.getD 2 0 ∧ xs.getD 2 0 ≤ 191
    · have s1 : runeSz xs = 3 := by unfold runeSz; rw [if_neg n0, if_neg a1, if_neg a2, if_neg a3, if_pos a4, if_pos b]
      have e1 := he 1 (by omega)
      have e2 := he 2 (by omega)
      rw [s1]; unfold runeSz; rw [if_neg l0, e0, if_neg a1, if_neg a2, if_neg a3, if_pos a4, e1, e2, if_pos ⟨by omega, b.2⟩]
    · exact absurd (by unfold runeSz; rw [if_neg n0, if_neg a1, if_neg a2, if_neg a3, if_pos a4, if_neg b]) h
  by_cases a5 : xs.getD 0 0 < 245
  · by_cases b : 4 ≤ xs.length ∧ lo4 (xs.getD 0 0) ≤ xs.getD 1 0 ∧ xs.getD 1 0 ≤ hi4 (xs.getD 0 0) ∧ 128 ≤ xs.getD 2 0 ∧ xs.getD 2 0 ≤ 191 ∧ 128 ≤ xs.getD 3 0 ∧ xs.getD 3 0 ≤ 191
    · have s1 : runeSz xs = 4 := by unfold runeSz; rw [if_neg n0, if_neg a1, if_neg a2, if_neg a3, if_neg a4, if_pos a5, if_pos b]
      have e1 := he 1 (by omega)
      have e2 := he 2 (by omega)
      have e3 := he 3 (by omega)
      rw [s1]; unfold runeSz; rw [if_neg l0, e0, if_neg a1, if_neg a2, if_neg a3, if_neg a4, if_pos a5, e1, e2, e3, if_pos ⟨by omega, b.2⟩]
    · exact absurd (by unfold runeSz; rw [if_neg n0, if_neg a1, if_neg a2, if_neg a3, if_neg a4, if_pos a5, if_neg b]) h
  · exact absurd (by unfold runeSz; rw [if_neg n0, if_neg a1, if_neg a2, if_neg a3, if_neg a4, if_neg a5]) h
theorem getD_app {xs ys : List Int} {i : Nat} (h : i < xs.length) : (xs ++ ys).getD i 0 = xs.getD i 0 := by
  rw [List.getD_eq_getElem?_getD, List.getD_eq_getElem?_getD, List.getElem?_append_left h]
theorem getD_take {xs : List Int} {i n : Nat} (h : i < n) : (xs.take n).getD i 0 = xs.getD i 0 := by
  rw [List.getD_eq_getElem?_getD, List.getD_eq_getElem?_getD, List.getElem?_take, if_pos h]
theorem runeSz_app {xs : List Int} (h : runeSz xs ≠ 0) (ys : List Int) : runeSz (xs ++ ys) = runeSz xs := by
  have := runeSz_le xs
  exact runeSz_pre h (by rw [List.length_append]; omega) (fun i hi => getD_app (by omega))
theorem runeSz_take {xs : List Int} (h : runeSz xs ≠ 0) {n : Nat} (hn : runeSz xs ≤ n) : runeSz (xs.take n) = runeSz xs := by
  have := runeSz_le xs
  exact runeSz_pre h (by rw [List.length_take]; omega) (fun i hi => getD_take (by omega))
theorem valid_app : ∀ (n : Nat) (xs ys : List Int), xs.length ≤ n → valid xs = true → valid (xs ++ ys) = valid ys
  | n, xs, ys, hn, hv => by
    rcases valid_cases hv with rfl | ⟨h, h2⟩
    · rfl
    · have hle := runeSz_le xs
      cases n with
      | zero => omega
      | succ n =>
        rw [valid_step (xs := xs ++ ys) (by rw [runeSz_app h]; exact h), runeSz_app h, List.drop_append_of_le_length hle]
        exact valid_app n (xs.drop (runeSz xs)) ys (by rw [List.length_drop]; omega) h2
theorem valid_append {xs ys : List Int} (h1 : valid xs = true) (h2 : valid ys = true) : valid (xs ++ ys) = true := by
  rw [valid_app xs.length xs ys (Nat.le_refl _) h1, h2]
theorem valid_cut : ∀ (n : Nat) (xs : List Int) (k : Nat), xs.length ≤ n → valid xs = true → isCutD xs ((k : Nat) : Int) = true → valid (xs.take k) = true ∧ valid (xs.drop k) = true
  | n, xs, k, hn, hv, hk => by
    by_cases k0 : k = 0
    · subst k0; exact ⟨valid_nil, hv⟩
    rcases valid_cases hv with rfl | ⟨h, h2⟩
    · simp [valid_nil]
    have hle := runeSz_le xs
    obtain ⟨c0, cj⟩ := rune_cont h
    have hr := isCutD_range hk
    cases n with
    | zero => omega
    | succ n =>
      have hks : runeSz xs ≤ k := by
        rcases Nat.lt_or_ge k (runeSz xs) with q | q
        · have := cj k (by omega) q
          unfold isCutD at hk
          rw [Bool.or_eq_true, beq_iff_eq, Bool.and_eq_true] at hk
          rcases hk with hk | ⟨_, hk⟩
          · omega
          · rw [Int.toNat_natCast, this] at hk; cases hk
        · exact q
      have hk2 : isCutD (xs.drop (runeSz xs)) ((k - runeSz xs : Nat) : Int) = true := by
        unfold isCutD at hk ⊢
        rw [List.length_drop, getD_drop]
        rw [Bool.or_eq_true, beq_iff_eq, Bool.and_eq_true, Bool.and_eq_true, decide_eq_true_iff, decide_eq_true_iff] at hk ⊢
        rcases hk with hk | ⟨⟨_, hk1⟩, hk2⟩
        · left; omega
        · right
          rw [Int.toNat_natCast] at hk2 ⊢
          rw [show runeSz xs + (k - runeSz xs) = k by omega]
          exact ⟨⟨by omega, by omega⟩, hk2⟩
      obtain ⟨i1, i2⟩ := valid_cut n (xs.drop (runeSz xs)) (k - runeSz xs) (by rw [List.length_drop]; omega) h2 hk2
      refine ⟨?_, ?_⟩
      · have ht : runeSz (xs.take k) = runeSz xs := runeSz_take h hks
        rw [valid_step (xs := xs.take k) (by rw [ht]; exact h), ht, List.drop_take]
        exact i1
      · rw [List.drop_drop, show runeSz xs + (k - runeSz xs) = k by omega] at i2
        exact i2
/-- A text behind a valid edit is a text. -/
theorem textOk_doD {t : List Int} {e : E3} (h : editOkD t e = true) : textOk (doD e t) = true := by
  have q := editOkD_iff.1 h
  have r1 := isCutD_range q.a
  have r2 := isCutD_range q.b
  have hl := doD_len r1.1 q.c0 r2.2
  have hx := q.l
  have hv := (textOk_iff.1 q.tx).2
  have hp := (textOk_iff.1 q.p).2
  refine textOk_iff.2 ⟨by omega, ?_⟩
  have a1 := (valid_cut t.length t e.1.toNat (Nat.le_refl _) hv (by rw [Int.toNat_of_nonneg r1.1]; exact q.a)).1
  have a2 := (valid_cut t.length t (e.1 + e.2.1).toNat (Nat.le_refl _) hv (by rw [Int.toNat_of_nonneg r2.1]; exact q.b)).2
  unfold doD
  exact valid_append (valid_append a1 hp) a2
theorem textOk_editsDoL : ∀ (l : List E3) (t : List Int) (n : Nat), textOk t = true → textOk (editsDoL l t n).1 = true
  | [], t, n, h => h
  | e :: l, t, n, h => by
    simp only [editsDoL]
    cases he : editOkD t e with
    | false => exact h
    | true => exact textOk_editsDoL l _ _ (textOk_doD he)
theorem textOk_editsDo {t : List Int} (l : List E3) (h : textOk t = true) : textOk (editsDoD t l).1 = true := by
  unfold editsDoD
  rw [h]; exact textOk_editsDoL l t 0 h
end Go.Ev
end
section
/- Stacks keep the form of their data. -/
set_option linter.unusedVariables false
namespace Go.Ev.Seat
open Go.RowKit
end Go.Ev.Seat
end
section
/- s_DocOk: its contract. -/
namespace Go.Ev.Seat
open Go.RowKit
set_option maxRecDepth 100000
set_option linter.unusedVariables false
set_option linter.unusedSimpArgs false
def z_s_DocOk_7_0 (x2 : Bool) (b00 : List Int) (b01 : List Int) (b02 : List T_Commit) (b03 : Int) (b04 : List T_Member) (b05 : List T_Lease) : St := { tm := ([.x, (.pb 0 0), (.s (.bool x2))] ++ List.replicate 184 .x), ob := [(0, (.box [(.l .no bytesR b00), (.l .no bytesR b01), (.l .no commitR b02), (.s (.int .i64 b03)), (.l .no memberR b04), (.l .no leaseR b05)]))], nx := 1, io := [] }
def z_s_DocOk_7_1 (b00 : List Int) (b01 : List Int) (b02 : List T_Commit) (b03 : Int) (b04 : List T_Member) (b05 : List T_Lease) : St := { tm := ([.x, (.pb 0 0)] ++ List.replicate 185 .x), ob := [(0, (.box [(.l .no bytesR b00), (.l .no bytesR b01), (.l .no commitR b02), (.s (.int .i64 b03)), (.l .no memberR b04), (.l .no leaseR b05)]))], nx := 1, io := [] }
def sh_s_DocOk_7_0 : Ss := { tm := (.cons (.x) (.cons (.pb 0 0) (.cons (.x) (.cons (.x) (.cons (.x) (.cons (.int .i64) (xsh 181))))))), ob := (.box (.cons (.l .no bytesR) (.cons (.l .no bytesR) (.cons (.l .no commitR) (.cons (.int .i64) (.cons (.l .no memberR) (.cons (.l .no leaseR) .nil)))))) .nil), nx := 1, io := .nil }
def d_s_DocOk_7_0 (x5 : Int) (b00 : List Int) (b01 : List Int) (b02 : List T_Commit) (b03 : Int) (b04 : List T_Member) (b05 : List T_Lease) : sh_s_DocOk_7_0.T := (((), ((), ((), ((), ((), (x5, xd 181)))))), ((b00, (b01, (b02, (b03, (b04, (b05, ())))))), ()), ())
def s_s_DocOk_7_0 (x5 : Int) (b00 : List Int) (b01 : List Int) (b02 : List T_Commit) (b03 : Int) (b04 : List T_Member) (b05 : List T_Lease) : St := { tm := ([.x, (.pb 0 0), .x, .x, .x, (.s (.int .i64 x5))] ++ List.replicate 181 .x), ob := [(0, (.box [(.l .no bytesR b00), (.l .no bytesR b01), (.l .no commitR b02), (.s (.int .i64 b03)), (.l .no memberR b04), (.l .no leaseR b05)]))], nx := 1, io := [] }
theorem se_s_DocOk_7_0 (x5 : Int) (b00 : List Int) (b01 : List Int) (b02 : List T_Commit) (b03 : Int) (b04 : List T_Member) (b05 : List T_Lease) : sh_s_DocOk_7_0.mk' (d_s_DocOk_7_0 x5 b00 b01 b02 b03 b04 b05) = (s_s_DocOk_7_0 x5 b00 b01 b02 b03 b04 b05) := by kernel_rfl
def w_s_DocOk_7_0 (d : sh_s_DocOk_7_0.T) (f : Int → (List Int) → (List Int) → (List T_Commit) → Int → (List T_Member) → (List T_Lease) → Option Ret) : Option Ret := match d with | ((_, (_, (_, (_, (_, (x5, _)))))), ((b00, (b01, (b02, (b03, (b04, (b05, _)))))), _), _) => f x5 b00 b01 b02 b03 b04 b05
noncomputable def P_s_DocOk_7_0 (x5 : Int) (b00 : List Int) (b01 : List Int) (b02 : List T_Commit) (b03 : Int) (b04 : List T_Member) (b05 : List T_Lease) (nx0 : Int → (List Int) → (List Int) → (List T_Commit) → Int → (List T_Member) → (List T_Lease) → Option Ret) (k0 : Bool → (List Int) → (List Int) → (List T_Commit) → Int → (List T_Member) → (List T_Lease) → Option Ret) (k1 : (List Int) → (List Int) → (List T_Commit) → Int → (List T_Member) → (List T_Lease) → Option Ret) : Option Ret := (bif (decide (x5 < (((List.length b02) : Nat) : Int))) then (bif ((decide ((0 : Int) ≤ x5)) && (decide (x5 < (((List.length b02) : Nat) : Int)))) then (bif (!(sessD (List.getD b02 (Int.toNat x5) (commitR.dflt)).1)) then (k0 false b00 b01 b02 b03 b04 b05) else (nx0 (IntKind.wrap .i64 (x5 + (1 : Int))) b00 b01 b02 b03 b04 b05)) else none) else (k1 b00 b01 b02 b03 b04 b05))
noncomputable def Q_s_DocOk_7_0 : Nat → Int → (List Int) → (List Int) → (List T_Commit) → Int → (List T_Member) → (List T_Lease) → (Bool → (List Int) → (List Int) → (List T_Commit) → Int → (List T_Member) → (List T_Lease) → Option Ret) → ((List Int) → (List Int) → (List T_Commit) → Int → (List T_Member) → (List T_Lease) → Option Ret) → Option Ret
  | 0, _, _, _, _, _, _, _, _, _ => none
  | m + 1, x5, b00, b01, b02, b03, b04, b05, k0, k1 => P_s_DocOk_7_0 x5 b00 b01 b02 b03 b04 b05 (fun x5 b00 b01 b02 b03 b04 b05 => (Q_s_DocOk_7_0 m x5 b00 b01 b02 b03 b04 b05 k0 k1)) k0 k1
noncomputable def R_s_DocOk_7_0 (x5 : Int) (b00 : List Int) (b01 : List Int) (b02 : List T_Commit) (b03 : Int) (b04 : List T_Member) (b05 : List T_Lease) (k0 : Bool → (List Int) → (List Int) → (List T_Commit) → Int → (List T_Member) → (List T_Lease) → Option Ret) (k1 : (List Int) → (List Int) → (List T_Commit) → Int → (List T_Member) → (List T_Lease) → Option Ret) : Option Ret := Q_s_DocOk_7_0 (x5.toNat + List.length b00 + List.length b01 + List.length b02 + b03.toNat + List.length b04 + List.length b05 + 2) x5 b00 b01 b02 b03 b04 b05 k0 k1
noncomputable def W_s_DocOk_7 : LoopFn := (fun (σ : St) (K : Ex → St → Option Ret) => (match sh_s_DocOk_7_0.un σ with | some d => w_s_DocOk_7_0 d (fun x5 b00 b01 b02 b03 b04 b05 => R_s_DocOk_7_0 x5 b00 b01 b02 b03 b04 b05 (fun x2 b00 b01 b02 b03 b04 b05 => (K .ret (z_s_DocOk_7_0 x2 b00 b01 b02 b03 b04 b05))) (fun b00 b01 b02 b03 b04 b05 => (K (.ext 0) (z_s_DocOk_7_1 b00 b01 b02 b03 b04 b05)))) | none => none))
def z_s_DocOk_12_0 (x2 : Bool) (b00 : List Int) (b01 : List Int) (b02 : List T_Commit) (b03 : Int) (b04 : List T_Member) (b05 : List T_Lease) : St := { tm := ([.x, (.pb 0 0), (.s (.bool x2))] ++ List.replicate 184 .x), ob := [(0, (.box [(.l .no bytesR b00), (.l .no bytesR b01), (.l .no commitR b02), (.s (.int .i64 b03)), (.l .no memberR b04), (.l .no leaseR b05)]))], nx := 1, io := [] }
def z_s_DocOk_12_1 (b00 : List Int) (b01 : List Int) (b02 : List T_Commit) (b03 : Int) (b04 : List T_Member) (b05 : List T_Lease) : St := { tm := ([.x, (.pb 0 0)] ++ List.replicate 185 .x), ob := [(0, (.box [(.l .no bytesR b00), (.l .no bytesR b01), (.l .no commitR b02), (.s (.int .i64 b03)), (.l .no memberR b04), (.l .no leaseR b05)]))], nx := 1, io := [] }
def sh_s_DocOk_12_0 : Ss := { tm := (.cons (.x) (.cons (.pb 0 0) (.cons (.x) (.cons (.x) (.cons (.x) (.cons (.x) (.cons (.int .i64) (xsh 180)))))))), ob := (.box (.cons (.l .no bytesR) (.cons (.l .no bytesR) (.cons (.l .no commitR) (.cons (.int .i64) (.cons (.l .no memberR) (.cons (.l .no leaseR) .nil)))))) .nil), nx := 1, io := .nil }
def d_s_DocOk_12_0 (x6 : Int) (b00 : List Int) (b01 : List Int) (b02 : List T_Commit) (b03 : Int) (b04 : List T_Member) (b05 : List T_Lease) : sh_s_DocOk_12_0.T := (((), ((), ((), ((), ((), ((), (x6, xd 180))))))), ((b00, (b01, (b02, (b03, (b04, (b05, ())))))), ()), ())
def s_s_DocOk_12_0 (x6 : Int) (b00 : List Int) (b01 : List Int) (b02 : List T_Commit) (b03 : Int) (b04 : List T_Member) (b05 : List T_Lease) : St := { tm := ([.x, (.pb 0 0), .x, .x, .x, .x, (.s (.int .i64 x6))] ++ List.replicate 180 .x), ob := [(0, (.box [(.l .no bytesR b00), (.l .no bytesR b01), (.l .no commitR b02), (.s (.int .i64 b03)), (.l .no memberR b04), (.l .no leaseR b05)]))], nx := 1, io := [] }
theorem se_s_DocOk_12_0 (x6 : Int) (b00 : List Int) (b01 : List Int) (b02 : List T_Commit) (b03 : Int) (b04 : List T_Member) (b05 : List T_Lease) : sh_s_DocOk_12_0.mk' (d_s_DocOk_12_0 x6 b00 b01 b02 b03 b04 b05) = (s_s_DocOk_12_0 x6 b00 b01 b02 b03 b04 b05) := by kernel_rfl
def w_s_DocOk_12_0 (d : sh_s_DocOk_12_0.T) (f : Int → (List Int) → (List Int) → (List T_Commit) → Int → (List T_Member) → (List T_Lease) → Option Ret) : Option Ret := match d with | ((_, (_, (_, (_, (_, (_, (x6, _))))))), ((b00, (b01, (b02, (b03, (b04, (b05, _)))))), _), _) => f x6 b00 b01 b02 b03 b04 b05
noncomputable def P_s_DocOk_12_0 (x6 : Int) (b00 : List Int) (b01 : List Int) (b02 : List T_Commit) (b03 : Int) (b04 : List T_Member) (b05 : List T_Lease) (nx0 : Int → (List Int) → (List Int) → (List T_Commit) → Int → (List T_Member) → (List T_Lease) → Option Ret) (k0 : Bool → (List Int) → (List Int) → (List T_Commit) → Int → (List T_Member) → (List T_Lease) → Option Ret) (k1 : (List Int) → (List Int) → (List T_Commit) → Int → (List T_Member) → (List T_Lease) → Option Ret) : Option Ret := (bif (decide (x6 < (((List.length b04) : Nat) : Int))) then (bif ((decide ((0 : Int) ≤ x6)) && (decide (x6 < (((List.length b04) : Nat) : Int)))) then (bif (!(sessD (List.getD b04 (Int.toNat x6) (memberR.dflt)).1)) then (k0 false b00 b01 b02 b03 b04 b05) else (bif (decide (x6 > (0 : Int))) then (bif ((decide ((0 : Int) ≤ (IntKind.wrap .i64 (x6 - (1 : Int))))) && (decide ((IntKind.wrap .i64 (x6 - (1 : Int))) < (((List.length b04) : Nat) : Int)))) then (bif (decide ((List.getD b04 (Int.toNat (IntKind.wrap .i64 (x6 - (1 : Int)))) (memberR.dflt)).1 ≥ (List.getD b04 (Int.toNat x6) (memberR.dflt)).1)) then (k0 false b00 b01 b02 b03 b04 b05) else (bif (fitB b01) then (bif (!((cutOk b01 (List.getD b04 (Int.toNat x6) (memberR.dflt)).2.1) && (cutOk b01 (List.getD b04 (Int.toNat x6) (memberR.dflt)).2.2.1))) then (k0 false b00 b01 b02 b03 b04 b05) else (bif ((Nat.ble (List.length (List.getD b04 (Int.toNat x6) (memberR.dflt)).2.2.2.1) 1048576) && (Nat.ble (List.length (List.getD b04 (Int.toNat x6) (memberR.dflt)).2.2.2.2) 1048576)) then (bif (!(stackOkD (List.getD b04 (Int.toNat x6) (memberR.dflt)).2.2.2)) then (k0 false b00 b01 b02 b03 b04 b05) else (bif (((fitB b01) && (fitC (Cc.sl editR) (List.getD b04 (Int.toNat x6) (memberR.dflt)).2.2.2.1)) && (textOk b01)) then (bif (!(List.all (List.getD b04 (Int.toNat x6) (memberR.dflt)).2.2.2.1 (fitsD b01))) then (k0 false b00 b01 b02 b03 b04 b05) else (bif (((fitB b01) && (fitC (Cc.sl editR) (List.getD b04 (Int.toNat x6) (memberR.dflt)).2.2.2.2)) && (textOk b01)) then (bif (!(List.all (List.getD b04 (Int.toNat x6) (memberR.dflt)).2.2.2.2 (fitsD b01))) then (k0 false b00 b01 b02 b03 b04 b05) else (nx0 (IntKind.wrap .i64 (x6 + (1 : Int))) b00 b01 b02 b03 b04 b05)) else none)) else none)) else none)) else none)) else none) else (bif (fitB b01) then (bif (!((cutOk b01 (List.getD b04 (Int.toNat x6) (memberR.dflt)).2.1) && (cutOk b01 (List.getD b04 (Int.toNat x6) (memberR.dflt)).2.2.1))) then (k0 false b00 b01 b02 b03 b04 b05) else (bif ((Nat.ble (List.length (List.getD b04 (Int.toNat x6) (memberR.dflt)).2.2.2.1) 1048576) && (Nat.ble (List.length (List.getD b04 (Int.toNat x6) (memberR.dflt)).2.2.2.2) 1048576)) then (bif (!(stackOkD (List.getD b04 (Int.toNat x6) (memberR.dflt)).2.2.2)) then (k0 false b00 b01 b02 b03 b04 b05) else (bif (((fitB b01) && (fitC (Cc.sl editR) (List.getD b04 (Int.toNat x6) (memberR.dflt)).2.2.2.1)) && (textOk b01)) then (bif (!(List.all (List.getD b04 (Int.toNat x6) (memberR.dflt)).2.2.2.1 (fitsD b01))) then (k0 false b00 b01 b02 b03 b04 b05) else (bif (((fitB b01) && (fitC (Cc.sl editR) (List.getD b04 (Int.toNat x6) (memberR.dflt)).2.2.2.2)) && (textOk b01)) then (bif (!(List.all (List.getD b04 (Int.toNat x6) (memberR.dflt)).2.2.2.2 (fitsD b01))) then (k0 false b00 b01 b02 b03 b04 b05) else (nx0 (IntKind.wrap .i64 (x6 + (1 : Int))) b00 b01 b02 b03 b04 b05)) else none)) else none)) else none)) else none))) else none) else (k1 b00 b01 b02 b03 b04 b05))
noncomputable def Q_s_DocOk_12_0 : Nat → Int → (List Int) → (List Int) → (List T_Commit) → Int → (List T_Member) → (List T_Lease) → (Bool → (List Int) → (List Int) → (List T_Commit) → Int → (List T_Member) → (List T_Lease) → Option Ret) → ((List Int) → (List Int) → (List T_Commit) → Int → (List T_Member) → (List T_Lease) → Option Ret) → Option Ret
  | 0, _, _, _, _, _, _, _, _, _ => none
  | m + 1, x6, b00, b01, b02, b03, b04, b05, k0, k1 => P_s_DocOk_12_0 x6 b00 b01 b02 b03 b04 b05 (fun x6 b00 b01 b02 b03 b04 b05 => (Q_s_DocOk_12_0 m x6 b00 b01 b02 b03 b04 b05 k0 k1)) k0 k1
noncomputable def R_s_DocOk_12_0 (x6 : Int) (b00 : List Int) (b01 : List Int) (b02 : List T_Commit) (b03 : Int) (b04 : List T_Member) (b05 : List T_Lease) (k0 : Bool → (List Int) → (List Int) → (List T_Commit) → Int → (List T_Member) → (List T_Lease) → Option Ret) (k1 : (List Int) → (List Int) → (List T_Commit) → Int → (List T_Member) → (List T_Lease) → Option Ret) : Option Ret := Q_s_DocOk_12_0 (x6.toNat + List.length b00 + List.length b01 + List.length b02 + b03.toNat + List.length b04 + List.length b05 + 2) x6 b00 b01 b02 b03 b04 b05 k0 k1
noncomputable def W_s_DocOk_12 : LoopFn := (fun (σ : St) (K : Ex → St → Option Ret) => (match sh_s_DocOk_12_0.un σ with | some d => w_s_DocOk_12_0 d (fun x6 b00 b01 b02 b03 b04 b05 => R_s_DocOk_12_0 x6 b00 b01 b02 b03 b04 b05 (fun x2 b00 b01 b02 b03 b04 b05 => (K .ret (z_s_DocOk_12_0 x2 b00 b01 b02 b03 b04 b05))) (fun b00 b01 b02 b03 b04 b05 => (K (.ext 2) (z_s_DocOk_12_1 b00 b01 b02 b03 b04 b05)))) | none => none))
def z_s_DocOk_26_0 (x2 : Bool) (x8 : Int) (b00 : List Int) (b01 : List Int) (b02 : List T_Commit) (b03 : Int) (b04 : List T_Member) (b05 : List T_Lease) : St := { tm := ([.x, (.pb 0 0), (.s (.bool x2)), .x, .x, .x, .x, .x, (.s (.int .i64 x8))] ++ List.replicate 178 .x), ob := [(0, (.box [(.l .no bytesR b00), (.l .no bytesR b01), (.l .no commitR b02), (.s (.int .i64 b03)), (.l .no memberR b04), (.l .no leaseR b05)]))], nx := 1, io := [] }
def z_s_DocOk_26_1 (x8 : Int) (b00 : List Int) (b01 : List Int) (b02 : List T_Commit) (b03 : Int) (b04 : List T_Member) (b05 : List T_Lease) : St := { tm := ([.x, (.pb 0 0), .x, .x, .x, .x, .x, .x, (.s (.int .i64 x8))] ++ List.replicate 178 .x), ob := [(0, (.box [(.l .no bytesR b00), (.l .no bytesR b01), (.l .no commitR b02), (.s (.int .i64 b03)), (.l .no memberR b04), (.l .no leaseR b05)]))], nx := 1, io := [] }
def sh_s_DocOk_26_0 : Ss := { tm := (.cons (.x) (.cons (.pb 0 0) (.cons (.x) (.cons (.x) (.cons (.x) (.cons (.x) (.cons (.x) (.cons (.x) (.cons (.int .i64) (.cons (.pb 1 0) (.cons (.int .i64) (xsh 176)))))))))))), ob := (.box (.cons (.l .no bytesR) (.cons (.l .no bytesR) (.cons (.l .no commitR) (.cons (.int .i64) (.cons (.l .no memberR) (.cons (.l .no leaseR) .nil)))))) (.box (.cons (.int .i64) (.cons (.int .i64) (.cons (.int .i64) (.cons (.int .i64) .nil)))) .nil)), nx := 2, io := .nil }
def d_s_DocOk_26_0 (x8 : Int) (x10 : Int) (b00 : List Int) (b01 : List Int) (b02 : List T_Commit) (b03 : Int) (b04 : List T_Member) (b05 : List T_Lease) (b10 : Int) (b11 : Int) (b12 : Int) (b13 : Int) : sh_s_DocOk_26_0.T := (((), ((), ((), ((), ((), ((), ((), ((), (x8, ((), (x10, xd 176))))))))))), ((b00, (b01, (b02, (b03, (b04, (b05, ())))))), ((b10, (b11, (b12, (b13, ())))), ())), ())
def s_s_DocOk_26_0 (x8 : Int) (x10 : Int) (b00 : List Int) (b01 : List Int) (b02 : List T_Commit) (b03 : Int) (b04 : List T_Member) (b05 : List T_Lease) (b10 : Int) (b11 : Int) (b12 : Int) (b13 : Int) : St := { tm := ([.x, (.pb 0 0), .x, .x, .x, .x, .x, .x, (.s (.int .i64 x8)), (.pb 1 0), (.s (.int .i64 x10))] ++ List.replicate 176 .x), ob := [(0, (.box [(.l .no bytesR b00), (.l .no bytesR b01), (.l .no commitR b02), (.s (.int .i64 b03)), (.l .no memberR b04), (.l .no leaseR b05)])), (1, (.box [(.s (.int .i64 b10)), (.s (.int .i64 b11)), (.s (.int .i64 b12)), (.s (.int .i64 b13))]))], nx := 2, io := [] }
theorem se_s_DocOk_26_0 (x8 : Int) (x10 : Int) (b00 : List Int) (b01 : List Int) (b02 : List T_Commit) (b03 : Int) (b04 : List T_Member) (b05 : List T_Lease) (b10 : Int) (b11 : Int) (b12 : Int) (b13 : Int) : sh_s_DocOk_26_0.mk' (d_s_DocOk_26_0 x8 x10 b00 b01 b02 b03 b04 b05 b10 b11 b12 b13) = (s_s_DocOk_26_0 x8 x10 b00 b01 b02 b03 b04 b05 b10 b11 b12 b13) := by kernel_rfl
def w_s_DocOk_26_0 (d : sh_s_DocOk_26_0.T) (f : Int → Int → (List Int) → (List Int) → (List T_Commit) → Int → (List T_Member) → (List T_Lease) → Int → Int → Int → Int → Option Ret) : Option Ret := match d with | ((_, (_, (_, (_, (_, (_, (_, (_, (x8, (_, (x10, _))))))))))), ((b00, (b01, (b02, (b03, (b04, (b05, _)))))), ((b10, (b11, (b12, (b13, _)))), _)), _) => f x8 x10 b00 b01 b02 b03 b04 b05 b10 b11 b12 b13
noncomputable def P_s_DocOk_26_0 (x8 : Int) (x10 : Int) (b00 : List Int) (b01 : List Int) (b02 : List T_Commit) (b03 : Int) (b04 : List T_Member) (b05 : List T_Lease) (b10 : Int) (b11 : Int) (b12 : Int) (b13 : Int) (nx0 : Int → Int → (List Int) → (List Int) → (List T_Commit) → Int → (List T_Member) → (List T_Lease) → Int → Int → Int → Int → Option Ret) (k0 : Bool → Int → (List Int) → (List Int) → (List T_Commit) → Int → (List T_Member) → (List T_Lease) → Option Ret) (k1 : Int → (List Int) → (List Int) → (List T_Commit) → Int → (List T_Member) → (List T_Lease) → Option Ret) : Option Ret := (bif (decide (x10 < x8)) then (bif ((decide ((0 : Int) ≤ x10)) && (decide (x10 < (((List.length b05) : Nat) : Int)))) then (bif ((List.getD b05 (Int.toNat x10) (leaseR.dflt)).2.2.1 != b12) then (bif ((decide ((0 : Int) ≤ x10)) && (decide (x10 < (((List.length b05) : Nat) : Int)))) then (bif (meetD (List.getD b05 (Int.toNat x10) (leaseR.dflt)) (b10, (b11, (b12, b13)))) then (k0 false x8 b00 b01 b02 b03 b04 b05) else (nx0 x8 (IntKind.wrap .i64 (x10 + (1 : Int))) b00 b01 b02 b03 b04 b05 b10 b11 b12 b13)) else none) else (nx0 x8 (IntKind.wrap .i64 (x10 + (1 : Int))) b00 b01 b02 b03 b04 b05 b10 b11 b12 b13)) else none) else (k1 x8 b00 b01 b02 b03 b04 b05))
noncomputable def Q_s_DocOk_26_0 : Nat → Int → Int → (List Int) → (List Int) → (List T_Commit) → Int → (List T_Member) → (List T_Lease) → Int → Int → Int → Int → (Bool → Int → (List Int) → (List Int) → (List T_Commit) → Int → (List T_Member) → (List T_Lease) → Option Ret) → (Int → (List Int) → (List Int) → (List T_Commit) → Int → (List T_Member) → (List T_Lease) → Option Ret) → Option Ret
  | 0, _, _, _, _, _, _, _, _, _, _, _, _, _, _ => none
  | m + 1, x8, x10, b00, b01, b02, b03, b04, b05, b10, b11, b12, b13, k0, k1 => P_s_DocOk_26_0 x8 x10 b00 b01 b02 b03 b04 b05 b10 b11 b12 b13 (fun x8 x10 b00 b01 b02 b03 b04 b05 b10 b11 b12 b13 => (Q_s_DocOk_26_0 m x8 x10 b00 b01 b02 b03 b04 b05 b10 b11 b12 b13 k0 k1)) k0 k1
noncomputable def R_s_DocOk_26_0 (x8 : Int) (x10 : Int) (b00 : List Int) (b01 : List Int) (b02 : List T_Commit) (b03 : Int) (b04 : List T_Member) (b05 : List T_Lease) (b10 : Int) (b11 : Int) (b12 : Int) (b13 : Int) (k0 : Bool → Int → (List Int) → (List Int) → (List T_Commit) → Int → (List T_Member) → (List T_Lease) → Option Ret) (k1 : Int → (List Int) → (List Int) → (List T_Commit) → Int → (List T_Member) → (List T_Lease) → Option Ret) : Option Ret := Q_s_DocOk_26_0 (x8.toNat + x10.toNat + List.length b00 + List.length b01 + List.length b02 + b03.toNat + List.length b04 + List.length b05 + b10.toNat + b11.toNat + b12.toNat + b13.toNat + 2) x8 x10 b00 b01 b02 b03 b04 b05 b10 b11 b12 b13 k0 k1
noncomputable def W_s_DocOk_26 : LoopFn := (fun (σ : St) (K : Ex → St → Option Ret) => (match sh_s_DocOk_26_0.un σ with | some d => w_s_DocOk_26_0 d (fun x8 x10 b00 b01 b02 b03 b04 b05 b10 b11 b12 b13 => R_s_DocOk_26_0 x8 x10 b00 b01 b02 b03 b04 b05 b10 b11 b12 b13 (fun x2 x8 b00 b01 b02 b03 b04 b05 => (K .ret (z_s_DocOk_26_0 x2 x8 b00 b01 b02 b03 b04 b05))) (fun x8 b00 b01 b02 b03 b04 b05 => (K (.ext 6) (z_s_DocOk_26_1 x8 b00 b01 b02 b03 b04 b05)))) | none => none))
def z_s_DocOk_20_0 (x2 : Bool) : St := { tm := ([.x, .x, (.s (.bool x2))] ++ List.replicate 184 .x), ob := [], nx := 0, io := [] }
def z_s_DocOk_20_1 : St := { tm := ([] ++ List.replicate 187 .x), ob := [], nx := 0, io := [] }
def sh_s_DocOk_20_0 : Ss := { tm := (.cons (.x) (.cons (.pb 0 0) (.cons (.x) (.cons (.x) (.cons (.x) (.cons (.x) (.cons (.x) (.cons (.x) (.cons (.int .i64) (xsh 178)))))))))), ob := (.box (.cons (.l .no bytesR) (.cons (.l .no bytesR) (.cons (.l .no commitR) (.cons (.int .i64) (.cons (.l .no memberR) (.cons (.l .no leaseR) .nil)))))) .nil), nx := 1, io := .nil }
def d_s_DocOk_20_0 (x8 : Int) (b00 : List Int) (b01 : List Int) (b02 : List T_Commit) (b03 : Int) (b04 : List T_Member) (b05 : List T_Lease) : sh_s_DocOk_20_0.T := (((), ((), ((), ((), ((), ((), ((), ((), (x8, xd 178))))))))), ((b00, (b01, (b02, (b03, (b04, (b05, ())))))), ()), ())
def s_s_DocOk_20_0 (x8 : Int) (b00 : List Int) (b01 : List Int) (b02 : List T_Commit) (b03 : Int) (b04 : List T_Member) (b05 : List T_Lease) : St := { tm := ([.x, (.pb 0 0), .x, .x, .x, .x, .x, .x, (.s (.int .i64 x8))] ++ List.replicate 178 .x), ob := [(0, (.box [(.l .no bytesR b00), (.l .no bytesR b01), (.l .no commitR b02), (.s (.int .i64 b03)), (.l .no memberR b04), (.l .no leaseR b05)]))], nx := 1, io := [] }
theorem se_s_DocOk_20_0 (x8 : Int) (b00 : List Int) (b01 : List Int) (b02 : List T_Commit) (b03 : Int) (b04 : List T_Member) (b05 : List T_Lease) : sh_s_DocOk_20_0.mk' (d_s_DocOk_20_0 x8 b00 b01 b02 b03 b04 b05) = (s_s_DocOk_20_0 x8 b00 b01 b02 b03 b04 b05) := by kernel_rfl
def w_s_DocOk_20_0 (d : sh_s_DocOk_20_0.T) (f : Int → (List Int) → (List Int) → (List T_Commit) → Int → (List T_Member) → (List T_Lease) → Option Ret) : Option Ret := match d with | ((_, (_, (_, (_, (_, (_, (_, (_, (x8, _))))))))), ((b00, (b01, (b02, (b03, (b04, (b05, _)))))), _), _) => f x8 b00 b01 b02 b03 b04 b05
noncomputable def P_s_DocOk_20_0 (x8 : Int) (b00 : List Int) (b01 : List Int) (b02 : List T_Commit) (b03 : Int) (b04 : List T_Member) (b05 : List T_Lease) (nx0 : Int → (List Int) → (List Int) → (List T_Commit) → Int → (List T_Member) → (List T_Lease) → Option Ret) (k0 : Bool → Option Ret) (k1 : Option Ret) : Option Ret := (bif (decide (x8 < (((List.length b05) : Nat) : Int))) then (bif ((decide ((0 : Int) ≤ x8)) && (decide (x8 < (((List.length b05) : Nat) : Int)))) then (bif (decide ((List.getD b05 (Int.toNat x8) (leaseR.dflt)).2.2.2 ≤ b03)) then (k0 false) else (bif (fitB b01) then (bif (!(cutOk b01 (List.getD b05 (Int.toNat x8) (leaseR.dflt)).1)) then (k0 false) else (bif (fitB b01) then (bif (!(cutOk b01 (List.getD b05 (Int.toNat x8) (leaseR.dflt)).2.1)) then (k0 false) else (R_s_DocOk_26_0 x8 (0 : Int) b00 b01 b02 b03 b04 b05 (List.getD b05 (Int.toNat x8) (leaseR.dflt)).1 (List.getD b05 (Int.toNat x8) (leaseR.dflt)).2.1 (List.getD b05 (Int.toNat x8) (leaseR.dflt)).2.2.1 (List.getD b05 (Int.toNat x8) (leaseR.dflt)).2.2.2 (fun y0 y1 y2 y3 y4 y5 y6 y7 => (k0 y0)) (fun y8 y9 y10 y11 y12 y13 y14 => (nx0 (IntKind.wrap .i64 (y8 + (1 : Int))) y9 y10 y11 y12 y13 y14)))) else none)) else none)) else none) else k1)
noncomputable def Q_s_DocOk_20_0 : Nat → Int → (List Int) → (List Int) → (List T_Commit) → Int → (List T_Member) → (List T_Lease) → (Bool → Option Ret) → (Option Ret) → Option Ret
  | 0, _, _, _, _, _, _, _, _, _ => none
  | m + 1, x8, b00, b01, b02, b03, b04, b05, k0, k1 => P_s_DocOk_20_0 x8 b00 b01 b02 b03 b04 b05 (fun x8 b00 b01 b02 b03 b04 b05 => (Q_s_DocOk_20_0 m x8 b00 b01 b02 b03 b04 b05 k0 k1)) k0 k1
noncomputable def R_s_DocOk_20_0 (x8 : Int) (b00 : List Int) (b01 : List Int) (b02 : List T_Commit) (b03 : Int) (b04 : List T_Member) (b05 : List T_Lease) (k0 : Bool → Option Ret) (k1 : Option Ret) : Option Ret := Q_s_DocOk_20_0 (x8.toNat + List.length b00 + List.length b01 + List.length b02 + b03.toNat + List.length b04 + List.length b05 + 2) x8 b00 b01 b02 b03 b04 b05 k0 k1
noncomputable def W_s_DocOk_20 : LoopFn := (fun (σ : St) (K : Ex → St → Option Ret) => (match sh_s_DocOk_20_0.un σ with | some d => w_s_DocOk_20_0 d (fun x8 b00 b01 b02 b03 b04 b05 => R_s_DocOk_20_0 x8 b00 b01 b02 b03 b04 b05 (fun x2 => (K .ret (z_s_DocOk_20_0 x2))) (K (.ext 4) z_s_DocOk_20_1)) | none => none))
noncomputable abbrev E_s_DocOk : Env := En [(N.s_l07Clock, true, S_s_l07Clock), (N.s_LeasesOk, true, S_s_LeasesOk), (N.s_l10Log, false, S_s_l10Log), (N.s_EditsDo, true, S_s_EditsDo), (N.s_l10Session, true, S_s_l10Session), (N.s_SelOk, true, S_s_SelOk), (N.s_StackOk, true, S_s_StackOk), (N.s_l10FitAll, true, S_s_l10FitAll), (N.s_CutOk, true, S_s_CutOk), (N.s_l07Meet, true, S_s_l07Meet)] [(3, takeB [0, 1, 2] (.fork (.one 3 (.fork (.one 4 (takes [5, 6, 7, 8, 9]))))), []), (15, takeB [0, 1] (.fork (.one 2 (takeB [3, 4, 5, 6, 7, 8, 9, 10, 11, 12, 13, 14, 15, 16, 17, 18, 19, 20, 21, 22, 23, 24] (.fork (.one 25 (takeB [26, 27, 28, 29, 30] (.fork (.one 31 (takes [32, 33]))))))))), []), (28, takeB [0, 1, 2, 3, 4, 5, 6, 7, 8, 9, 10, 11, 12, 13, 14, 15] (.fork (.one 16 (takes [17]))), [])] [(7, [1,5], [1,2], W_s_DocOk_7), (12, [1,6], [1,2], W_s_DocOk_12), (26, [1,8,9,10], [1,2,8], W_s_DocOk_26), (20, [1,8], [2], W_s_DocOk_20)] [] false 0 []
theorem st_s_DocOk_7_0 (m : Nat) (x5 : Int) (b00 : List Int) (b01 : List Int) (b02 : List T_Commit) (b03 : Int) (b04 : List T_Member) (b05 : List T_Lease) (K : Ex → St → Option Ret) : rounds (run E_s_DocOk (bodyOf F.s_DocOk 7)) [1,5] [1,2] (m + 1) (s_s_DocOk_7_0 x5 b00 b01 b02 b03 b04 b05) K = P_s_DocOk_7_0 x5 b00 b01 b02 b03 b04 b05 (fun x5 b00 b01 b02 b03 b04 b05 => (rounds (run E_s_DocOk (bodyOf F.s_DocOk 7)) [1,5] [1,2] m (s_s_DocOk_7_0 x5 b00 b01 b02 b03 b04 b05) K)) (fun x2 b00 b01 b02 b03 b04 b05 => (K .ret (z_s_DocOk_7_0 x2 b00 b01 b02 b03 b04 b05))) (fun b00 b01 b02 b03 b04 b05 => (K (.ext 0) (z_s_DocOk_7_1 b00 b01 b02 b03 b04 b05))) := by kernel_rfl
theorem q_s_DocOk_7 (K : Ex → St → Option Ret) : ∀ m : Nat, (∀ (x5 : Int) (b00 : List Int) (b01 : List Int) (b02 : List T_Commit) (b03 : Int) (b04 : List T_Member) (b05 : List T_Lease), rounds (run E_s_DocOk (bodyOf F.s_DocOk 7)) [1,5] [1,2] m (s_s_DocOk_7_0 x5 b00 b01 b02 b03 b04 b05) K = Q_s_DocOk_7_0 m x5 b00 b01 b02 b03 b04 b05 (fun x2 b00 b01 b02 b03 b04 b05 => (K .ret (z_s_DocOk_7_0 x2 b00 b01 b02 b03 b04 b05))) (fun b00 b01 b02 b03 b04 b05 => (K (.ext 0) (z_s_DocOk_7_1 b00 b01 b02 b03 b04 b05))))
  | 0 => (fun _ _ _ _ _ _ _ => rfl)
  | m + 1 => (fun x5 b00 b01 b02 b03 b04 b05 => (by rw [st_s_DocOk_7_0, show (fun x5 b00 b01 b02 b03 b04 b05 => (rounds (run E_s_DocOk (bodyOf F.s_DocOk 7)) [1,5] [1,2] m (s_s_DocOk_7_0 x5 b00 b01 b02 b03 b04 b05) K)) = (fun x5 b00 b01 b02 b03 b04 b05 => (Q_s_DocOk_7_0 m x5 b00 b01 b02 b03 b04 b05 (fun x2 b00 b01 b02 b03 b04 b05 => (K .ret (z_s_DocOk_7_0 x2 b00 b01 b02 b03 b04 b05))) (fun b00 b01 b02 b03 b04 b05 => (K (.ext 0) (z_s_DocOk_7_1 b00 b01 b02 b03 b04 b05))))) from funext fun x5 => funext fun b00 => funext fun b01 => funext fun b02 => funext fun b03 => funext fun b04 => funext fun b05 => (q_s_DocOk_7 K m) x5 b00 b01 b02 b03 b04 b05]; rfl))
theorem loopK_s_DocOk_7 : LoopOk E_s_DocOk (bodyOf F.s_DocOk 7) := by
  refine loopW_ok (n := 7) (F := W_s_DocOk_7) (by kernel_rfl) rfl (li := [1,5]) (lo := [1,2]) rfl (fun σ K r hr => ?_)
  unfold W_s_DocOk_7 at hr
  split at hr
  · rename_i d hd
    rw [Ss.un_mk hd]
    exact ⟨_, ((congrArg (fun z => rounds (run E_s_DocOk (bodyOf F.s_DocOk 7)) [1,5] [1,2] _ z K) (se_s_DocOk_7_0 _ _ _ _ _ _ _)).trans ((q_s_DocOk_7 K _) _ _ _ _ _ _ _)).trans hr⟩
  · cases hr
theorem st_s_DocOk_12_0 (m : Nat) (x6 : Int) (b00 : List Int) (b01 : List Int) (b02 : List T_Commit) (b03 : Int) (b04 : List T_Member) (b05 : List T_Lease) (K : Ex → St → Option Ret) : rounds (run E_s_DocOk (bodyOf F.s_DocOk 12)) [1,6] [1,2] (m + 1) (s_s_DocOk_12_0 x6 b00 b01 b02 b03 b04 b05) K = P_s_DocOk_12_0 x6 b00 b01 b02 b03 b04 b05 (fun x6 b00 b01 b02 b03 b04 b05 => (rounds (run E_s_DocOk (bodyOf F.s_DocOk 12)) [1,6] [1,2] m (s_s_DocOk_12_0 x6 b00 b01 b02 b03 b04 b05) K)) (fun x2 b00 b01 b02 b03 b04 b05 => (K .ret (z_s_DocOk_12_0 x2 b00 b01 b02 b03 b04 b05))) (fun b00 b01 b02 b03 b04 b05 => (K (.ext 2) (z_s_DocOk_12_1 b00 b01 b02 b03 b04 b05))) := by kernel_rfl
theorem q_s_DocOk_12 (K : Ex → St → Option Ret) : ∀ m : Nat, (∀ (x6 : Int) (b00 : List Int) (b01 : List Int) (b02 : List T_Commit) (b03 : Int) (b04 : List T_Member) (b05 : List T_Lease), rounds (run E_s_DocOk (bodyOf F.s_DocOk 12)) [1,6] [1,2] m (s_s_DocOk_12_0 x6 b00 b01 b02 b03 b04 b05) K = Q_s_DocOk_12_0 m x6 b00 b01 b02 b03 b04 b05 (fun x2 b00 b01 b02 b03 b04 b05 => (K .ret (z_s_DocOk_12_0 x2 b00 b01 b02 b03 b04 b05))) (fun b00 b01 b02 b03 b04 b05 => (K (.ext 2) (z_s_DocOk_12_1 b00 b01 b02 b03 b04 b05))))
  | 0 => (fun _ _ _ _ _ _ _ => rfl)
  | m + 1 => (fun x6 b00 b01 b02 b03 b04 b05 => (by rw [st_s_DocOk_12_0, show (fun x6 b00 b01 b02 b03 b04 b05 => (rounds (run E_s_DocOk (bodyOf F.s_DocOk 12)) [1,6] [1,2] m (s_s_DocOk_12_0 x6 b00 b01 b02 b03 b04 b05) K)) = (fun x6 b00 b01 b02 b03 b04 b05 => (Q_s_DocOk_12_0 m x6 b00 b01 b02 b03 b04 b05 (fun x2 b00 b01 b02 b03 b04 b05 => (K .ret (z_s_DocOk_12_0 x2 b00 b01 b02 b03 b04 b05))) (fun b00 b01 b02 b03 b04 b05 => (K (.ext 2) (z_s_DocOk_12_1 b00 b01 b02 b03 b04 b05))))) from funext fun x6 => funext fun b00 => funext fun b01 => funext fun b02 => funext fun b03 => funext fun b04 => funext fun b05 => (q_s_DocOk_12 K m) x6 b00 b01 b02 b03 b04 b05]; rfl))
theorem loopK_s_DocOk_12 : LoopOk E_s_DocOk (bodyOf F.s_DocOk 12) := by
  refine loopW_ok (n := 12) (F := W_s_DocOk_12) (by kernel_rfl) rfl (li := [1,6]) (lo := [1,2]) rfl (fun σ K r hr => ?_)
  unfold W_s_DocOk_12 at hr
  split at hr
  · rename_i d hd
    rw [Ss.un_mk hd]
    exact ⟨_, ((congrArg (fun z => rounds (run E_s_DocOk (bodyOf F.s_DocOk 12)) [1,6] [1,2] _ z K) (se_s_DocOk_12_0 _ _ _ _ _ _ _)).trans ((q_s_DocOk_12 K _) _ _ _ _ _ _ _)).trans hr⟩
  · cases hr
theorem st_s_DocOk_26_0 (m : Nat) (x8 : Int) (x10 : Int) (b00 : List Int) (b01 : List Int) (b02 : List T_Commit) (b03 : Int) (b04 : List T_Member) (b05 : List T_Lease) (b10 : Int) (b11 : Int) (b12 : Int) (b13 : Int) (K : Ex → St → Option Ret) : rounds (run E_s_DocOk (bodyOf F.s_DocOk 26)) [1,8,9,10] [1,2,8] (m + 1) (s_s_DocOk_26_0 x8 x10 b00 b01 b02 b03 b04 b05 b10 b11 b12 b13) K = P_s_DocOk_26_0 x8 x10 b00 b01 b02 b03 b04 b05 b10 b11 b12 b13 (fun x8 x10 b00 b01 b02 b03 b04 b05 b10 b11 b12 b13 => (rounds (run E_s_DocOk (bodyOf F.s_DocOk 26)) [1,8,9,10] [1,2,8] m (s_s_DocOk_26_0 x8 x10 b00 b01 b02 b03 b04 b05 b10 b11 b12 b13) K)) (fun x2 x8 b00 b01 b02 b03 b04 b05 => (K .ret (z_s_DocOk_26_0 x2 x8 b00 b01 b02 b03 b04 b05))) (fun x8 b00 b01 b02 b03 b04 b05 => (K (.ext 6) (z_s_DocOk_26_1 x8 b00 b01 b02 b03 b04 b05))) := by kernel_rfl
theorem q_s_DocOk_26 (K : Ex → St → Option Ret) : ∀ m : Nat, (∀ (x8 : Int) (x10 : Int) (b00 : List Int) (b01 : List Int) (b02 : List T_Commit) (b03 : Int) (b04 : List T_Member) (b05 : List T_Lease) (b10 : Int) (b11 : Int) (b12 : Int) (b13 : Int), rounds (run E_s_DocOk (bodyOf F.s_DocOk 26)) [1,8,9,10] [1,2,8] m (s_s_DocOk_26_0 x8 x10 b00 b01 b02 b03 b04 b05 b10 b11 b12 b13) K = Q_s_DocOk_26_0 m x8 x10 b00 b01 b02 b03 b04 b05 b10 b11 b12 b13 (fun x2 x8 b00 b01 b02 b03 b04 b05 => (K .ret (z_s_DocOk_26_0 x2 x8 b00 b01 b02 b03 b04 b05))) (fun x8 b00 b01 b02 b03 b04 b05 => (K (.ext 6) (z_s_DocOk_26_1 x8 b00 b01 b02 b03 b04 b05))))
  | 0 => (fun _ _ _ _ _ _ _ _ _ _ _ _ => rfl)
  | m + 1 => (fun x8 x10 b00 b01 b02 b03 b04 b05 b10 b11 b12 b13 => (by rw [st_s_DocOk_26_0, show (fun x8 x10 b00 b01 b02 b03 b04 b05 b10 b11 b12 b13 => (rounds (run E_s_DocOk (bodyOf F.s_DocOk 26)) [1,8,9,10] [1,2,8] m (s_s_DocOk_26_0 x8 x10 b00 b01 b02 b03 b04 b05 b10 b11 b12 b13) K)) = (fun x8 x10 b00 b01 b02 b03 b04 b05 b10 b11 b12 b13 => (Q_s_DocOk_26_0 m x8 x10 b00 b01 b02 b03 b04 b05 b10 b11 b12 b13 (fun x2 x8 b00 b01 b02 b03 b04 b05 => (K .ret (z_s_DocOk_26_0 x2 x8 b00 b01 b02 b03 b04 b05))) (fun x8 b00 b01 b02 b03 b04 b05 => (K (.ext 6) (z_s_DocOk_26_1 x8 b00 b01 b02 b03 b04 b05))))) from funext fun x8 => funext fun x10 => funext fun b00 => funext fun b01 => funext fun b02 => funext fun b03 => funext fun b04 => funext fun b05 => funext fun b10 => funext fun b11 => funext fun b12 => funext fun b13 => (q_s_DocOk_26 K m) x8 x10 b00 b01 b02 b03 b04 b05 b10 b11 b12 b13]; rfl))
theorem loopK_s_DocOk_26 : LoopOk E_s_DocOk (bodyOf F.s_DocOk 26) := by
  refine loopW_ok (n := 26) (F := W_s_DocOk_26) (by kernel_rfl) rfl (li := [1,8,9,10]) (lo := [1,2,8]) rfl (fun σ K r hr => ?_)
  unfold W_s_DocOk_26 at hr
  split at hr
  · rename_i d hd
    rw [Ss.un_mk hd]
    exact ⟨_, ((congrArg (fun z => rounds (run E_s_DocOk (bodyOf F.s_DocOk 26)) [1,8,9,10] [1,2,8] _ z K) (se_s_DocOk_26_0 _ _ _ _ _ _ _ _ _ _ _ _)).trans ((q_s_DocOk_26 K _) _ _ _ _ _ _ _ _ _ _ _ _)).trans hr⟩
  · cases hr
theorem st_s_DocOk_20_0 (m : Nat) (x8 : Int) (b00 : List Int) (b01 : List Int) (b02 : List T_Commit) (b03 : Int) (b04 : List T_Member) (b05 : List T_Lease) (K : Ex → St → Option Ret) : rounds (run E_s_DocOk (bodyOf F.s_DocOk 20)) [1,8] [2] (m + 1) (s_s_DocOk_20_0 x8 b00 b01 b02 b03 b04 b05) K = P_s_DocOk_20_0 x8 b00 b01 b02 b03 b04 b05 (fun x8 b00 b01 b02 b03 b04 b05 => (rounds (run E_s_DocOk (bodyOf F.s_DocOk 20)) [1,8] [2] m (s_s_DocOk_20_0 x8 b00 b01 b02 b03 b04 b05) K)) (fun x2 => (K .ret (z_s_DocOk_20_0 x2))) (K (.ext 4) z_s_DocOk_20_1) := by kernel_rfl
theorem q_s_DocOk_20 (K : Ex → St → Option Ret) : ∀ m : Nat, (∀ (x8 : Int) (b00 : List Int) (b01 : List Int) (b02 : List T_Commit) (b03 : Int) (b04 : List T_Member) (b05 : List T_Lease), rounds (run E_s_DocOk (bodyOf F.s_DocOk 20)) [1,8] [2] m (s_s_DocOk_20_0 x8 b00 b01 b02 b03 b04 b05) K = Q_s_DocOk_20_0 m x8 b00 b01 b02 b03 b04 b05 (fun x2 => (K .ret (z_s_DocOk_20_0 x2))) (K (.ext 4) z_s_DocOk_20_1))
  | 0 => (fun _ _ _ _ _ _ _ => rfl)
  | m + 1 => (fun x8 b00 b01 b02 b03 b04 b05 => (by rw [st_s_DocOk_20_0, show (fun x8 b00 b01 b02 b03 b04 b05 => (rounds (run E_s_DocOk (bodyOf F.s_DocOk 20)) [1,8] [2] m (s_s_DocOk_20_0 x8 b00 b01 b02 b03 b04 b05) K)) = (fun x8 b00 b01 b02 b03 b04 b05 => (Q_s_DocOk_20_0 m x8 b00 b01 b02 b03 b04 b05 (fun x2 => (K .ret (z_s_DocOk_20_0 x2))) (K (.ext 4) z_s_DocOk_20_1))) from funext fun x8 => funext fun b00 => funext fun b01 => funext fun b02 => funext fun b03 => funext fun b04 => funext fun b05 => (q_s_DocOk_20 K m) x8 b00 b01 b02 b03 b04 b05]; rfl))
theorem loopK_s_DocOk_20 : LoopOk E_s_DocOk (bodyOf F.s_DocOk 20) := by
  refine loopW_ok (n := 20) (F := W_s_DocOk_20) (by kernel_rfl) rfl (li := [1,8]) (lo := [2]) rfl (fun σ K r hr => ?_)
  unfold W_s_DocOk_20 at hr
  split at hr
  · rename_i d hd
    rw [Ss.un_mk hd]
    exact ⟨_, ((congrArg (fun z => rounds (run E_s_DocOk (bodyOf F.s_DocOk 20)) [1,8] [2] _ z K) (se_s_DocOk_20_0 _ _ _ _ _ _ _)).trans ((q_s_DocOk_20 K _) _ _ _ _ _ _ _)).trans hr⟩
  · cases hr
noncomputable def T_s_DocOk (d : T_Doc) (K : Ret → Option Ret) : Option Ret := (bif (decide ((((List.length d.2.2.1) : Nat) : Int) > (60 : Int))) then K ((.s (.bool false)), []) else (bif (!(clockD d.2.2.2.1)) then K ((.s (.bool false)), []) else (bif (decide ((((List.length d.2.2.2.2.1) : Nat) : Int) > (8 : Int))) then K ((.s (.bool false)), []) else (bif (Nat.ble (List.length d.2.2.2.2.2) 1048576) then (bif (!(leasesOkD d.2.2.2.2.2)) then K ((.s (.bool false)), []) else (bif (Nat.ble (List.length d.2.2.1) 1048576) then (bif ((fitB d.1) && (fitC (Cc.sl editR) (logD d.2.2.1))) then (bif ((editsDoD d.1 (logD d.2.2.1)).2 != (((List.length d.2.2.1) : Nat) : Int)) then K ((.s (.bool false)), []) else (bif (!((ByteArray.toList (bstr (editsDoD d.1 (logD d.2.2.1)).1)) == (ByteArray.toList (bstr d.2.1)))) then K ((.s (.bool false)), []) else (R_s_DocOk_7_0 (0 : Int) d.1 d.2.1 d.2.2.1 d.2.2.2.1 d.2.2.2.2.1 d.2.2.2.2.2 (fun y15 y16 y17 y18 y19 y20 y21 => K ((.s (.bool y15)), [])) (fun y22 y23 y24 y25 y26 y27 => (R_s_DocOk_12_0 (0 : Int) y22 y23 y24 y25 y26 y27 (fun y28 y29 y30 y31 y32 y33 y34 => K ((.s (.bool y28)), [])) (fun y35 y36 y37 y38 y39 y40 => (R_s_DocOk_20_0 (0 : Int) y35 y36 y37 y38 y39 y40 (fun y41 => K ((.s (.bool y41)), [])) (K ((.s (.bool true)), []))))))))) else none) else none)) else none))))
theorem e_s_DocOk (d : T_Doc) (K : Ret → Option Ret) : evF E_s_DocOk true F.s_DocOk [.a (docR.cells .no d)] K = T_s_DocOk d K := by kernel_rfl
def S_s_DocOk : Sm := S_fnR [.a docR] (fun d => fitR docR d.1) (fun d => (bl (docOkD d.1), []))
theorem v_s_DocOk (d : T_Doc) (h : (fitR docR d) = true) (K : Ret → Option Ret) : T_s_DocOk d K = K (bl (docOkD d), []) := by
  obtain ⟨st, tx, lg, ck, mb, ls⟩ := d
  obtain ⟨h1, h2, h3, h4, h5⟩ := fit_doc h
  have h1 : fitB st = true := h1
  have h2 : fitB tx = true := h2
  have h3 : fitC (.sl commitR) lg = true := h3
  have h4 : fitC (.sl memberR) mb = true := h4
  have h5 : fitC (.sl leaseR) ls = true := h5
  have n3 := fitC_len h3
  have n4 := fitC_len h4
  have n5 := fitC_len h5
  have hlog := fit_log h3
  have hT : ((editsDoD st (logD lg)).2 == ((lg.length : Nat) : Int)) = true → textOk st = true := fun q => by
    cases ht : textOk st with
    | true => rfl
    | false =>
      have : (editsDoD st (logD lg)).2 = -1 := by unfold editsDoD; rw [ht]; rfl
      rw [this, beq_iff_eq] at q; omega
  have q7 : ∀ (k0 : Bool → (List Int) → (List Int) → (List T_Commit) → Int → (List T_Member) → (List T_Lease) → Option Ret) (k1 : (List Int) → (List Int) → (List T_Commit) → Int → (List T_Member) → (List T_Lease) → Option Ret), R_s_DocOk_7_0 0 st tx lg ck mb ls k0 k1 = bif lg.all (fun c => sessD c.1) then k1 st tx lg ck mb ls else k0 false st tx lg ck mb ls := by
    intro k0 k1
    refine Eq.trans (idx_all (R := fun m i => Q_s_DocOk_7_0 m i st tx lg ck mb ls k0 k1) (p := fun c : T_Commit => sessD c.1) (xs := lg) (z := commitR.dflt) (kt := k1 st tx lg ck mb ls) (kf := k0 false st tx lg ck mb ls) (fun m i hi => by
      show P_s_DocOk_7_0 ((i : Nat) : Int) st tx lg ck mb ls _ _ _ = _
      unfold P_s_DocOk_7_0
      rw [decide_eq_true (show ((i : Nat) : Int) < ((lg.length : Nat) : Int) by omega), decide_eq_true (show (0 : Int) ≤ ((i : Nat) : Int) by omega), Int.toNat_natCast, wrap_nat (by omega)]
      cases sessD (lg.getD i commitR.dflt).1 <;> rfl) (fun m => by
      show P_s_DocOk_7_0 ((lg.length : Nat) : Int) st tx lg ck mb ls _ _ _ = _
      unfold P_s_DocOk_7_0
      rw [decide_eq_false (show ¬ ((lg.length : Nat) : Int) < ((lg.length : Nat) : Int) by omega)]; rfl) _ 0 (by omega) (by omega)) ?_
    rw [List.drop_zero]
  have q12 : textOk tx = true → ∀ (k0 : Bool → (List Int) → (List Int) → (List T_Commit) → Int → (List T_Member) → (List T_Lease) → Option Ret) (k1 : (List Int) → (List Int) → (List T_Commit) → Int → (List T_Member) → (List T_Lease) → Option Ret), R_s_DocOk_12_0 0 st tx lg ck mb ls k0 k1 = bif allN mb.length (memberAtD tx mb) then k1 st tx lg ck mb ls else k0 false st tx lg ck mb ls := by
    intro hx k0 k1
    refine Eq.trans (idx_allN (R := fun m i => Q_s_DocOk_12_0 m i st tx lg ck mb ls k0 k1) (p := memberAtD tx mb) (n := mb.length) (kt := k1 st tx lg ck mb ls) (kf := k0 false st tx lg ck mb ls) (fun m i hi => by
      show P_s_DocOk_12_0 ((i : Nat) : Int) st tx lg ck mb ls _ _ _ = _
      unfold P_s_DocOk_12_0 memberAtD memberD cutOk
      have hf := fit_member (m := mb.getD i zeroM) (fitC_getD h4 rfl i)
      rw [decide_eq_true (show ((i : Nat) : Int) < ((mb.length : Nat) : Int) by omega), decide_eq_true (show (0 : Int) ≤ ((i : Nat) : Int) by omega), Int.toNat_natCast, wrap_nat (by omega), show mb.getD i memberR.dflt = mb.getD i zeroM from rfl, h2, hx]
      generalize mb.getD i zeroM = x at *
      have n1 := fitC_len hf.1
      have n2 := fitC_len hf.2
      rw [hf.1, hf.2, Nat.ble_eq_true_of_le n1, Nat.ble_eq_true_of_le n2]
      cases i with
      | zero =>
        rw [decide_eq_false (show ¬ ((0 : Nat) : Int) > 0 by omega)]
        cases sessD x.1
        · rfl
        cases isCutD tx x.2.1
        · rfl
        cases isCutD tx x.2.2.1
        · rfl
        cases stackOkD x.2.2.2
        · rfl
        cases List.all x.2.2.2.1 (fitsD tx) <;> cases List.all x.2.2.2.2 (fitsD tx) <;> rfl
      | succ i =>
        rw [wrap_in (n := ((i + 1 : Nat) : Int) - 1) (by omega) (by omega), decide_eq_true (show ((i + 1 : Nat) : Int) > 0 by omega), show ((i + 1 : Nat) : Int) - 1 = ((i : Nat) : Int) by omega, decide_eq_true (show (0 : Int) ≤ ((i : Nat) : Int) by omega), decide_eq_true (show ((i : Nat) : Int) < ((mb.length : Nat) : Int) by omega), Int.toNat_natCast, show i + 1 - 1 = i from rfl, show mb.getD i memberR.dflt = mb.getD i zeroM from rfl]
        cases sessD x.1
        · rfl
        by_cases a3 : (mb.getD i zeroM).1 < x.1
        · rw [decide_eq_true a3, decide_eq_false (show ¬ (mb.getD i zeroM).1 ≥ x.1 from Int.not_le.2 a3)]
          cases isCutD tx x.2.1
          · rfl
          cases isCutD tx x.2.2.1
          · rfl
          cases stackOkD x.2.2.2
          · rfl
          cases List.all x.2.2.2.1 (fitsD tx) <;> cases List.all x.2.2.2.2 (fitsD tx) <;> rfl
        · rw [decide_eq_false a3, decide_eq_true (show (mb.getD i zeroM).1 ≥ x.1 from Int.not_lt.1 a3), show Nat.beq (i + 1) 0 = false from rfl, Bool.or_self, Bool.and_false]; rfl) (fun m => by
      show P_s_DocOk_12_0 ((mb.length : Nat) : Int) st tx lg ck mb ls _ _ _ = _
      unfold P_s_DocOk_12_0
      rw [decide_eq_false (show ¬ ((mb.length : Nat) : Int) < ((mb.length : Nat) : Int) by omega)]; rfl) _ 0 (by omega) (by omega)) ?_
    rw [Nat.sub_zero]; rfl
  have q26 : ∀ (i : Nat) (hi : i < ls.length) (y : T_Lease) (k0 : Bool → Int → (List Int) → (List Int) → (List T_Commit) → Int → (List T_Member) → (List T_Lease) → Option Ret) (k1 : Int → (List Int) → (List Int) → (List T_Commit) → Int → (List T_Member) → (List T_Lease) → Option Ret), R_s_DocOk_26_0 ((i : Nat) : Int) 0 st tx lg ck mb ls y.1 y.2.1 y.2.2.1 y.2.2.2 k0 k1 =
      bif allN i (fun k => !(((ls.getD k zeroL).2.2.1 != y.2.2.1) && meetD (ls.getD k zeroL) y)) then k1 ((i : Nat) : Int) st tx lg ck mb ls else k0 false ((i : Nat) : Int) st tx lg ck mb ls := by
    intro i hi y k0 k1
    refine Eq.trans (idx_allN (R := fun m j => Q_s_DocOk_26_0 m ((i : Nat) : Int) j st tx lg ck mb ls y.1 y.2.1 y.2.2.1 y.2.2.2 k0 k1) (p := fun k => !(((ls.getD k zeroL).2.2.1 != y.2.2.1) && meetD (ls.getD k zeroL) y)) (n := i) (kt := k1 ((i : Nat) : Int) st tx lg ck mb ls) (kf := k0 false ((i : Nat) : Int) st tx lg ck mb ls) (fun m j hj => by
      show P_s_DocOk_26_0 ((i : Nat) : Int) ((j : Nat) : Int) st tx lg ck mb ls y.1 y.2.1 y.2.2.1 y.2.2.2 _ _ _ = _
      unfold P_s_DocOk_26_0
      rw [decide_eq_true (show ((j : Nat) : Int) < ((i : Nat) : Int) by omega), decide_eq_true (show (0 : Int) ≤ ((j : Nat) : Int) by omega), decide_eq_true (show ((j : Nat) : Int) < ((ls.length : Nat) : Int) by omega), Int.toNat_natCast, wrap_nat (by omega), show ls.getD j leaseR.dflt = ls.getD j zeroL from rfl, show (y.1, (y.2.1, (y.2.2.1, y.2.2.2))) = y from rfl]
      cases ((ls.getD j zeroL).2.2.1 != y.2.2.1) <;> cases meetD (ls.getD j zeroL) y <;> rfl) (fun m => by
      show P_s_DocOk_26_0 ((i : Nat) : Int) ((i : Nat) : Int) st tx lg ck mb ls y.1 y.2.1 y.2.2.1 y.2.2.2 _ _ _ = _
      unfold P_s_DocOk_26_0
      rw [decide_eq_false (show ¬ ((i : Nat) : Int) < ((i : Nat) : Int) by omega)]; rfl) _ 0 (by omega) (by omega)) ?_
    rw [Nat.sub_zero]; rfl
  have q20 : textOk tx = true → ∀ (k0 : Bool → Option Ret) (k1 : Option Ret), R_s_DocOk_20_0 0 st tx lg ck mb ls k0 k1 = bif allN ls.length (heldAtD tx ck ls) then k1 else k0 false := by
    intro hx k0 k1
    refine Eq.trans (idx_allN (R := fun m i => Q_s_DocOk_20_0 m i st tx lg ck mb ls k0 k1) (p := heldAtD tx ck ls) (n := ls.length) (kt := k1) (kf := k0 false) (fun m i hi => by
      show P_s_DocOk_20_0 ((i : Nat) : Int) st tx lg ck mb ls _ _ _ = _
      unfold P_s_DocOk_20_0 heldAtD cutOk
      rw [decide_eq_true (show ((i : Nat) : Int) < ((ls.length : Nat) : Int) by omega), decide_eq_true (show (0 : Int) ≤ ((i : Nat) : Int) by omega), Int.toNat_natCast, show ls.getD i leaseR.dflt = ls.getD i zeroL from rfl, h2, hx, q26 i hi, wrap_nat (by omega)]
      by_cases hc : (ls.getD i zeroL).2.2.2 > ck
      · rw [decide_eq_true hc, decide_eq_false (show ¬ (ls.getD i zeroL).2.2.2 ≤ ck by omega)]
        cases isCutD tx (ls.getD i zeroL).1
        · rfl
        cases isCutD tx (ls.getD i zeroL).2.1
        · rfl
        cases allN i (fun k => !(((ls.getD k zeroL).2.2.1 != (ls.getD i zeroL).2.2.1) && meetD (ls.getD k zeroL) (ls.getD i zeroL))) <;> rfl
      · rw [decide_eq_false hc, decide_eq_true (show (ls.getD i zeroL).2.2.2 ≤ ck by omega)]; rfl) (fun m => by
      show P_s_DocOk_20_0 ((ls.length : Nat) : Int) st tx lg ck mb ls _ _ _ = _
      unfold P_s_DocOk_20_0
      rw [decide_eq_false (show ¬ ((ls.length : Nat) : Int) < ((ls.length : Nat) : Int) by omega)]; rfl) _ 0 (by omega) (by omega)) ?_
    rw [Nat.sub_zero]; rfl
  unfold T_s_DocOk docOkD commitsD membersD heldD
  dsimp only
  rw [Nat.ble_eq_true_of_le n3, Nat.ble_eq_true_of_le n5, h1, hlog, bstr_eq (fun x hx => fitB_mem (fitB_editsDo h1 hlog) hx) (fun x hx => fitB_mem h2 hx)]
  by_cases c1 : ((lg.length : Nat) : Int) ≤ 60
  case neg => rw [decide_eq_false c1, decide_eq_true (show ((lg.length : Nat) : Int) > 60 by omega), Bool.false_and, Bool.false_and, Bool.false_and, Bool.and_false]; rfl
  rw [decide_eq_true c1, decide_eq_false (show ¬ ((lg.length : Nat) : Int) > 60 by omega)]
  have fin : ∀ b : Bool, b = false → K (.s (.bool false), []) = K (bl b, []) := fun b h => by rw [h]; rfl
  cases clockD ck
  · exact fin _ (by simp)
  by_cases c2 : ((mb.length : Nat) : Int) ≤ 8
  case neg => rw [decide_eq_false c2, decide_eq_true (show ((mb.length : Nat) : Int) > 8 by omega)]; exact fin _ (by simp)
  rw [decide_eq_true c2, decide_eq_false (show ¬ ((mb.length : Nat) : Int) > 8 by omega)]
  cases leasesOkD ls
  · exact fin _ (by simp)
  cases hN : ((editsDoD st (logD lg)).2 == ((lg.length : Nat) : Int)) with
  | false =>
    rw [show ((editsDoD st (logD lg)).2 != ((lg.length : Nat) : Int)) = true by unfold bne; rw [hN]; rfl]
    exact fin _ (by simp)
  | true =>
    rw [show ((editsDoD st (logD lg)).2 != ((lg.length : Nat) : Int)) = false by unfold bne; rw [hN]; rfl]
    have ht := hT hN
    by_cases hX : (editsDoD st (logD lg)).1 = tx
    case neg => rw [decide_eq_false hX]; exact fin _ (by simp)
    have hx : textOk tx = true := hX ▸ textOk_editsDo (logD lg) ht
    rw [decide_eq_true hX, ht]
    simp only [Bool.not_true, Bool.not_false, cond_true, cond_false, Bool.and_true, Bool.true_and]
    rw [q7]
    cases lg.all (fun c => sessD c.1)
    · rfl
    rw [cond_true, q12 hx]
    cases allN mb.length (memberAtD tx mb)
    · rfl
    rw [cond_true, q20 hx]
    cases allN ls.length (heldAtD tx ck ls) <;> rfl
theorem okS_s_DocOk : OkFn prog I N.s_DocOk true S_s_DocOk := okN (ok_fn (memc okS_s_l07Clock (memc okS_s_LeasesOk (memc okS_s_l10Log (memc okS_s_EditsDo (memc okS_s_l10Session (memc okS_s_SelOk (memc okS_s_StackOk (memc okS_s_l10FitAll (memc okS_s_CutOk (memc okS_s_l07Meet mem0)))))))))) (l := [(N.s_l07Clock, true, S_s_l07Clock), (N.s_LeasesOk, true, S_s_LeasesOk), (N.s_l10Log, false, S_s_l10Log), (N.s_EditsDo, true, S_s_EditsDo), (N.s_l10Session, true, S_s_l10Session), (N.s_SelOk, true, S_s_SelOk), (N.s_StackOk, true, S_s_StackOk), (N.s_l10FitAll, true, S_s_l10FitAll), (N.s_CutOk, true, S_s_CutOk), (N.s_l07Meet, true, S_s_l07Meet)]) (p := [(3, takeB [0, 1, 2] (.fork (.one 3 (.fork (.one 4 (takes [5, 6, 7, 8, 9]))))), []), (15, takeB [0, 1] (.fork (.one 2 (takeB [3, 4, 5, 6, 7, 8, 9, 10, 11, 12, 13, 14, 15, 16, 17, 18, 19, 20, 21, 22, 23, 24] (.fork (.one 25 (takeB [26, 27, 28, 29, 30] (.fork (.one 31 (takes [32, 33]))))))))), []), (28, takeB [0, 1, 2, 3, 4, 5, 6, 7, 8, 9, 10, 11, 12, 13, 14, 15] (.fork (.one 16 (takes [17]))), [])]) (ls := [(7, [1,5], [1,2], W_s_DocOk_7), (12, [1,6], [1,2], W_s_DocOk_12), (26, [1,8,9,10], [1,2,8], W_s_DocOk_26), (20, [1,8], [2], W_s_DocOk_20)]) (lend := []) (focus := false) (fuel := 0) (give := []) (fn := F.s_DocOk) (by kernel_rfl) (by kernel_rfl) (by kernel_rfl) (by kernel_rfl) (cs := [bodyOf F.s_DocOk 7, bodyOf F.s_DocOk 12, bodyOf F.s_DocOk 20, bodyOf F.s_DocOk 26]) (by kernel_rfl) (loopsc loopK_s_DocOk_7 (loopsc loopK_s_DocOk_12 (loopsc loopK_s_DocOk_20 (loopsc loopK_s_DocOk_26 loops0))))) (S_fnR_of fun d K h => (e_s_DocOk d.1 K).trans (v_s_DocOk d.1 h K))
end Go.Ev.Seat
end
section
/- Regions of many orders: all of them come to the same as the first one. -/
set_option linter.unusedVariables false
namespace Go.Ev
open Go.RowKit
mutual
/-- The first order alone. -/
def firstP : Plan → Plan
  | .done => .done
  | .take i p => .take i (firstP p)
  | .fork f => .fork (firstF f)
def firstF : Forks → Forks
  | .one i p => .one i (firstP p)
  | .more i p _ => .one i (firstP p)
end
/-- A condition for each of some operations. -/
def condL : List (Nat × Bool) → Nat → Bool
  | [], _ => true
  | (j, c) :: l, i => bif Nat.beq i j then c else condL l i
def allC : List (Nat × Bool) → Prop
  | [] => True
  | (_, c) :: l => c = true ∧ allC l
theorem cond0 : allC [] := trivial
theorem condc {i : Nat} {c : Bool} {l : List (Nat × Bool)} (h : c = true) (hl : allC l) : allC ((i, c) :: l) := ⟨h, hl⟩
theorem condL_all : ∀ {l : List (Nat × Bool)}, allC l → ∀ i, condL l i = true
  | [], _, _ => rfl
  | (j, c) :: l, h, i => by
    simp only [condL]
    cases Nat.beq i j with
    | true => exact h.1
    | false => exact condL_all h.2 i
mutual
/-- All orders come to x, under the conditions c. -/
noncomputable def ctP (c : Nat → Bool) : Plan → Option Ret → Option Ret
  | .done, x => x
  | .take _ p, x => ctP c p x
  | .fork f, x => ctF c f x
noncomputable def ctF (c : Nat → Bool) : Forks → Option Ret → Option Ret
  | .one i p, x => bif c i then ctP c p x else none
  | .more i p f, x => meet (bif c i then ctP c p x else none) (ctF c f x)
end
mutual
theorem ctP_id {c : Nat → Bool} (h : ∀ i, c i = true) : (p : Plan) → ∀ x, ctP c p x = x
  | .done, _ => by simp only [ctP]
  | .take _ p, x => by simp only [ctP]; exact ctP_id h p x
  | .fork f, x => by simp only [ctP]; exact ctF_id h f x
theorem ctF_id {c : Nat → Bool} (h : ∀ i, c i = true) : (f : Forks) → ∀ x, ctF c f x = x
  | .one i p, x => by simp only [ctF]; rw [h i, cond_true]; exact ctP_id h p x
  | .more i p f, x => by simp only [ctF]; rw [h i, cond_true, ctP_id h p, ctF_id h f, meet_self]
end
end Go.Ev
end
section
/- s_l08Edit: its contract. -/
namespace Go.Ev.Seat
open Go.RowKit
set_option maxRecDepth 100000
set_option linter.unusedVariables false
set_option linter.unusedSimpArgs false
noncomputable abbrev E_s_l08Edit : Env := En [] [(1, takeB [0, 1, 2, 3, 5, 6] (.fork (.one 4 (.fork (.one 7 (takeB [8] (.fork (.one 9 (.done)))))))), [])] [] [] false 0 []
noncomputable def T_s_l08Edit (e : T_Edit) (K : Ret → Option Ret) : Option Ret := (bif (Nat.ble (((List.length ([] : List Int)) + (List.length e.2.2)) * 1) 140737488355328) then K ((.a [(.s (.int .i64 e.1)), (.s (.int .i64 e.2.1)), (.l .deep bytesR (([] : List Int) ++ e.2.2))]), []) else none)
theorem e_s_l08Edit (e : T_Edit) (K : Ret → Option Ret) : evF E_s_l08Edit true F.s_l08Edit [.a (editR.cells .no e)] K = T_s_l08Edit e K := by kernel_rfl
def S_s_l08Edit : Sm := S_fnR [.a editR] (fun d => Nat.ble d.1.2.2.length 1048576) (fun d => (.a (editR.cells .deep d.1), []))
theorem v_s_l08Edit (e : T_Edit) (h : (Nat.ble e.2.2.length 1048576) = true) (K : Ret → Option Ret) : T_s_l08Edit e K = K (.a (editR.cells .deep e), []) := by
  have hl := Nat.le_of_ble_eq_true h
  unfold T_s_l08Edit
  first | rw [Nat.ble_eq_true_of_le (by simp; omega)] | rw [bytes_lim hl]
  rfl
theorem okS_s_l08Edit : OkFn prog I N.s_l08Edit true S_s_l08Edit := okN (ok_fn mem0 (l := []) (p := [(1, takeB [0, 1, 2, 3, 5, 6] (.fork (.one 4 (.fork (.one 7 (takeB [8] (.fork (.one 9 (.done)))))))), [])]) (ls := []) (lend := []) (focus := false) (fuel := 0) (give := []) (fn := F.s_l08Edit) (by kernel_rfl) (by kernel_rfl) (by kernel_rfl) (by kernel_rfl) (cs := []) (by kernel_rfl) loops0) (S_fnR_of fun d K h => (e_s_l08Edit d.1 K).trans (v_s_l08Edit d.1 h K))
end Go.Ev.Seat
end
section
/- s_l08Copy: its contract. -/
namespace Go.Ev.Seat
open Go.RowKit
set_option maxRecDepth 100000
set_option linter.unusedVariables false
set_option linter.unusedSimpArgs false
def z_s_l08Copy_3_0 (o0 : List T_Edit) : St := { tm := ([.x, .x, .x, (.w 0)] ++ List.replicate 17 .x), ob := [(0, (.arr true true editR o0))], nx := 1, io := [] }
def sh_s_l08Copy_3_0 : Ss := { tm := (.cons (.l .no editR) (.cons (.x) (.cons (.x) (.cons (.w 0) (.cons (.int .i64) (xsh 16)))))), ob := (.arr true true editR .nil), nx := 1, io := .nil }
def d_s_l08Copy_3_0 (x0 : List T_Edit) (x4 : Int) (o0 : List T_Edit) : sh_s_l08Copy_3_0.T := ((x0, ((), ((), ((), (x4, xd 16))))), (o0, ()), ())
def s_s_l08Copy_3_0 (x0 : List T_Edit) (x4 : Int) (o0 : List T_Edit) : St := { tm := ([(.l .no editR x0), .x, .x, (.w 0), (.s (.int .i64 x4))] ++ List.replicate 16 .x), ob := [(0, (.arr true true editR o0))], nx := 1, io := [] }
theorem se_s_l08Copy_3_0 (x0 : List T_Edit) (x4 : Int) (o0 : List T_Edit) : sh_s_l08Copy_3_0.mk' (d_s_l08Copy_3_0 x0 x4 o0) = (s_s_l08Copy_3_0 x0 x4 o0) := by kernel_rfl
def w_s_l08Copy_3_0 (d : sh_s_l08Copy_3_0.T) (f : (List T_Edit) → Int → (List T_Edit) → Option Ret) : Option Ret := match d with | ((x0, (_, (_, (_, (x4, _))))), (o0, _), _) => f x0 x4 o0
noncomputable def P_s_l08Copy_3_0 (x0 : List T_Edit) (x4 : Int) (o0 : List T_Edit) (nx0 : (List T_Edit) → Int → (List T_Edit) → Option Ret) (k0 : (List T_Edit) → Option Ret) : Option Ret := (bif (decide (x4 < (((List.length x0) : Nat) : Int))) then (bif ((decide ((0 : Int) ≤ x4)) && (decide (x4 < (((List.length x0) : Nat) : Int)))) then (bif (Nat.ble (List.length (List.getD x0 (Int.toNat x4) (editR.dflt)).2.2) 1048576) then (bif (Nat.ble (((List.length o0) + (List.length ((List.getD x0 (Int.toNat x4) (editR.dflt)) :: []))) * 40) 140737488355328) then (nx0 x0 (IntKind.wrap .i64 (x4 + (1 : Int))) (o0 ++ ((List.getD x0 (Int.toNat x4) (editR.dflt)) :: []))) else none) else none) else none) else (k0 o0))
noncomputable def Q_s_l08Copy_3_0 : Nat → (List T_Edit) → Int → (List T_Edit) → ((List T_Edit) → Option Ret) → Option Ret
  | 0, _, _, _, _ => none
  | m + 1, x0, x4, o0, k0 => P_s_l08Copy_3_0 x0 x4 o0 (fun x0 x4 o0 => (Q_s_l08Copy_3_0 m x0 x4 o0 k0)) k0
noncomputable def R_s_l08Copy_3_0 (x0 : List T_Edit) (x4 : Int) (o0 : List T_Edit) (k0 : (List T_Edit) → Option Ret) : Option Ret := Q_s_l08Copy_3_0 (List.length x0 + x4.toNat + List.length o0 + 2) x0 x4 o0 k0
noncomputable def W_s_l08Copy_3 : LoopFn := (fun (σ : St) (K : Ex → St → Option Ret) => (match sh_s_l08Copy_3_0.un σ with | some d => w_s_l08Copy_3_0 d (fun x0 x4 o0 => R_s_l08Copy_3_0 x0 x4 o0 (fun o0 => (K (.ext 0) (z_s_l08Copy_3_0 o0)))) | none => none))
noncomputable abbrev ls_s_l08Copy : List (Nat × Bool × Sm) := [(N.s_l08Edit, true, S_s_l08Edit)]
noncomputable abbrev E_s_l08Copy : Env := En ls_s_l08Copy [] [(3, [0,3,4], [2,3], W_s_l08Copy_3)] [] false 0 []
noncomputable abbrev U_s_l08Copy_3 := rounds (run E_s_l08Copy (bodyOf F.s_l08Copy 3)) [0,3,4] [2,3]
theorem st_s_l08Copy_3_0 (m : Nat) (x0 : List T_Edit) (x4 : Int) (o0 : List T_Edit) (K : Ex → St → Option Ret) : U_s_l08Copy_3 (m + 1) (s_s_l08Copy_3_0 x0 x4 o0) K = P_s_l08Copy_3_0 x0 x4 o0 (fun x0 x4 o0 => (U_s_l08Copy_3 m (s_s_l08Copy_3_0 x0 x4 o0) K)) (fun o0 => (K (.ext 0) (z_s_l08Copy_3_0 o0))) := by kernel_rfl
theorem q_s_l08Copy_3 (K : Ex → St → Option Ret) : ∀ m : Nat, (∀ (x0 : List T_Edit) (x4 : Int) (o0 : List T_Edit), U_s_l08Copy_3 m (s_s_l08Copy_3_0 x0 x4 o0) K = Q_s_l08Copy_3_0 m x0 x4 o0 (fun o0 => (K (.ext 0) (z_s_l08Copy_3_0 o0))))
  | 0 => (fun _ _ _ => rfl)
  | m + 1 => (fun x0 x4 o0 => (by rw [st_s_l08Copy_3_0, show (fun x0 x4 o0 => (U_s_l08Copy_3 m (s_s_l08Copy_3_0 x0 x4 o0) K)) = (fun x0 x4 o0 => (Q_s_l08Copy_3_0 m x0 x4 o0 (fun o0 => (K (.ext 0) (z_s_l08Copy_3_0 o0))))) from funext fun x0 => funext fun x4 => funext fun o0 => (q_s_l08Copy_3 K m) x0 x4 o0]; rfl))
theorem loopK_s_l08Copy_3 : LoopOk E_s_l08Copy (bodyOf F.s_l08Copy 3) := by
  refine loopW_ok (n := 3) (F := W_s_l08Copy_3) (by kernel_rfl) rfl (li := [0,3,4]) (lo := [2,3]) rfl (fun σ K r hr => ?_)
  unfold W_s_l08Copy_3 at hr
  split at hr
  · rename_i d hd
    rw [Ss.un_mk hd]
    exact ⟨_, ((congrArg (fun z => U_s_l08Copy_3 _ z K) (se_s_l08Copy_3_0 _ _ _)).trans ((q_s_l08Copy_3 K _) _ _ _)).trans hr⟩
  · cases hr
noncomputable def T_s_l08Copy (l : List T_Edit) (K : Ret → Option Ret) : Option Ret := (R_s_l08Copy_3_0 l (0 : Int) [] (fun y0 => K ((.l .deep editR y0), [])))
theorem e_s_l08Copy (l : List T_Edit) (K : Ret → Option Ret) : evF E_s_l08Copy true F.s_l08Copy [.l .no editR l] K = T_s_l08Copy l K := by kernel_rfl
def S_s_l08Copy : Sm := S_fnR [.l editR] (fun d => fitC (.sl editR) d.1) (fun d => (.l .deep editR d.1, []))
theorem v_s_l08Copy (l : List T_Edit) (h : (fitC (.sl editR) l) = true) (K : Ret → Option Ret) : T_s_l08Copy l K = K (.l .deep editR l, []) := by
  have hl := fitC_len h
  unfold T_s_l08Copy
  have q : ∀ (m i : Nat), i ≤ l.length → l.length - i < m → Q_s_l08Copy_3_0 m l ((i : Nat) : Int) (l.take i) (fun y0 => K ((.l .deep editR y0), [])) = K ((.l .deep editR l), []) := by
    intro m
    induction m with
    | zero => intro i _ hm; omega
    | succ m ih =>
      intro i hi hm
      show P_s_l08Copy_3_0 l ((i : Nat) : Int) (l.take i) _ _ = _
      unfold P_s_l08Copy_3_0
      by_cases hlt : i < l.length
      · have hx : fitR editR (l.getD i editR.dflt) = true := fitC_getD h rfl i
        have hx2 : (fun x : T_Edit => Nat.ble (List.length x.2.2) 1048576) (l.getD i editR.dflt) = true := (fun (x : T_Edit) (hx : fitR editR x = true) => Nat.ble_eq_true_of_le (fitB_len (fit_edit hx))) _ hx
        have ht := take_snoc editR.dflt hlt
        dsimp only at hx2
        rw [decide_eq_true (show ((i : Nat) : Int) < ((l.length : Nat) : Int) by omega), decide_eq_true (show (0 : Int) ≤ ((i : Nat) : Int) by omega), Int.toNat_natCast, wrap_nat (by omega), hx2, Nat.ble_eq_true_of_le (show ((l.take i).length + [l.getD i editR.dflt].length) * 40 ≤ 140737488355328 by simp only [List.length_take, List.length_cons, List.length_nil]; omega), ht]
        exact ih (i + 1) (by omega) (by omega)
      · obtain rfl : i = l.length := by omega
        rw [decide_eq_false (show ¬ ((l.length : Nat) : Int) < ((l.length : Nat) : Int) by omega), List.take_length]; rfl
  exact q _ 0 (by omega) (by omega)
theorem okS_s_l08Copy : OkFn prog I N.s_l08Copy true S_s_l08Copy := okN (ok_fn (memc okS_s_l08Edit mem0) (l := ls_s_l08Copy) (p := []) (ls := [(3, [0,3,4], [2,3], W_s_l08Copy_3)]) (lend := []) (focus := false) (fuel := 0) (give := []) (fn := F.s_l08Copy) (by kernel_rfl) (by kernel_rfl) (by kernel_rfl) (by kernel_rfl) (cs := [bodyOf F.s_l08Copy 3]) (by kernel_rfl) (loopsc loopK_s_l08Copy_3 loops0)) (S_fnR_of fun d K h => (e_s_l08Copy d.1 K).trans (v_s_l08Copy d.1 h K))
end Go.Ev.Seat
end
section
/- Binary search in a list in whose front something holds. -/
set_option linter.unusedVariables false
namespace Go.Ev
section
variable {α ρ : Type}
end
end Go.Ev
end
section
/- Documents: versions, and what has been committed since. -/
set_option linter.unusedVariables false
namespace Go.Ev.Seat
open Go.RowKit
def expireD (l : List T_Lease) (n : Int) : List T_Lease := bif leasesOkD l then l.filter (fun x => decide (x.2.2.2 > n)) else []
/-! ### Members -/
def tk (c n : Int) : Int := if c + n < 1000 then c + n else 1000
theorem tk_eq (c n : Int) : (if (1000 : Int) < c + n then (1000 : Int) else c + n) = tk c n := by
  unfold tk
  by_cases h : c + n < 1000
  · rw [if_pos h, if_neg (by omega)]
  · rw [if_neg h]
    by_cases h2 : (1000 : Int) < c + n
    · rw [if_pos h2]
    · rw [if_neg h2]; omega
def docTickD (d : T_Doc) (n : Int) : T_Doc × Bool := bif docOkD d && (decide (1 ≤ n) && decide (n ≤ 1000)) then ((d.1, d.2.1, d.2.2.1, tk d.2.2.2.1 n, d.2.2.2.2.1, d.2.2.2.2.2.filter (fun x : T_Lease => decide (x.2.2.2 > tk d.2.2.2.1 n))), true) else (docR.dflt, false)
theorem docOk_clock {d : T_Doc} (h : docOkD d = true) : 0 ≤ d.2.2.2.1 ∧ d.2.2.2.1 ≤ 1000 := by
  unfold docOkD clockD at h
  simp only [Bool.and_eq_true, decide_eq_true_eq] at h
  exact h.1.1.2
theorem docOk_leases {d : T_Doc} (h : docOkD d = true) : leasesOkD d.2.2.2.2.2 = true := by
  unfold docOkD heldD at h
  simp only [Bool.and_eq_true] at h
  exact h.2.1
end Go.Ev.Seat
end
section
/- s_l10Stack: its contract. -/
namespace Go.Ev.Seat
open Go.RowKit
set_option maxRecDepth 100000
set_option linter.unusedVariables false
set_option linter.unusedSimpArgs false
noncomputable abbrev E_s_l10Stack : Env := En [(N.s_l08Copy, true, S_s_l08Copy)] [(1, takeB [0, 1, 3, 4] (.fork (.one 2 (.fork (.one 5 (takeB [6] (.fork (.one 7 (.done)))))))), [])] [] [] false 0 []
noncomputable def T_s_l10Stack (s : T_Stack) (K : Ret → Option Ret) : Option Ret := (bif (fitC (Cc.sl editR) s.1) then (bif (fitC (Cc.sl editR) s.2) then K ((.a [(.l .deep editR s.1), (.l .deep editR s.2)]), []) else none) else none)
theorem e_s_l10Stack (s : T_Stack) (K : Ret → Option Ret) : evF E_s_l10Stack true F.s_l10Stack [.a (stackR.cells .no s)] K = T_s_l10Stack s K := by kernel_rfl
def S_s_l10Stack : Sm := S_fnR [.a stackR] (fun d => fitR stackR d.1) (fun d => (.a (stackR.cells .deep d.1), []))
theorem v_s_l10Stack (s : T_Stack) (h : (fitR stackR s) = true) (K : Ret → Option Ret) : T_s_l10Stack s K = K (.a (stackR.cells .deep s), []) := by
  unfold T_s_l10Stack
  rw [fitR_fst h, show fitC (Cc.sl editR) s.2 = true from fitR_snd h]; rfl
theorem okS_s_l10Stack : OkFn prog I N.s_l10Stack true S_s_l10Stack := okN (ok_fn (memc okS_s_l08Copy mem0) (l := [(N.s_l08Copy, true, S_s_l08Copy)]) (p := [(1, takeB [0, 1, 3, 4] (.fork (.one 2 (.fork (.one 5 (takeB [6] (.fork (.one 7 (.done)))))))), [])]) (ls := []) (lend := []) (focus := false) (fuel := 0) (give := []) (fn := F.s_l10Stack) (by kernel_rfl) (by kernel_rfl) (by kernel_rfl) (by kernel_rfl) (cs := []) (by kernel_rfl) loops0) (S_fnR_of fun d K h => (e_s_l10Stack d.1 K).trans (v_s_l10Stack d.1 h K))
end Go.Ev.Seat
end
section
/- s_l10Copy: its contract. -/
namespace Go.Ev.Seat
open Go.RowKit
set_option maxRecDepth 100000
set_option linter.unusedVariables false
set_option linter.unusedSimpArgs false
def z_s_l10Copy_3_0 (b00 : List Int) (b01 : List Int) (b02 : List T_Commit) (b03 : Int) (b04 : List T_Member) (b05 : List T_Lease) (b13 : Int) (b23 : Int) (o3 : List Int) (o4 : List Int) (o5 : List T_Commit) (o6 : List T_Member) (o7 : List T_Lease) : St := { tm := ([.x, (.pb 0 0), (.pb 1 0), (.pb 2 0)] ++ List.replicate 70 .x), ob := [(0, (.box [(.l .no bytesR b00), (.l .no bytesR b01), (.l .no commitR b02), (.s (.int .i64 b03)), (.l .no memberR b04), (.l .no leaseR b05)])), (1, (.box [.nl, .nl, .nl, (.s (.int .i64 b13)), .nl, .nl])), (2, (.box [(.w 3), (.w 4), (.w 5), (.s (.int .i64 b23)), (.w 6), (.w 7)])), (3, (.arr true true bytesR o3)), (4, (.arr true true bytesR o4)), (5, (.arr true true commitR o5)), (6, (.arr true true memberR o6)), (7, (.arr true true leaseR o7))], nx := 8, io := [] }
def sh_s_l10Copy_3_0 : Ss := { tm := (.cons (.x) (.cons (.pb 0 0) (.cons (.pb 1 0) (.cons (.pb 2 0) (.cons (.int .i64) (xsh 69)))))), ob := (.box (.cons (.l .no bytesR) (.cons (.l .no bytesR) (.cons (.l .no commitR) (.cons (.int .i64) (.cons (.l .no memberR) (.cons (.l .no leaseR) .nil)))))) (.box (.cons (.nl) (.cons (.nl) (.cons (.nl) (.cons (.int .i64) (.cons (.nl) (.cons (.nl) .nil)))))) (.box (.cons (.w 3) (.cons (.w 4) (.cons (.w 5) (.cons (.int .i64) (.cons (.w 6) (.cons (.w 7) .nil)))))) (.arr true true bytesR (.arr true true bytesR (.arr true true commitR (.arr true true memberR (.arr true true leaseR .nil)))))))), nx := 8, io := .nil }
def d_s_l10Copy_3_0 (x4 : Int) (b00 : List Int) (b01 : List Int) (b02 : List T_Commit) (b03 : Int) (b04 : List T_Member) (b05 : List T_Lease) (b13 : Int) (b23 : Int) (o3 : List Int) (o4 : List Int) (o5 : List T_Commit) (o6 : List T_Member) (o7 : List T_Lease) : sh_s_l10Copy_3_0.T := (((), ((), ((), ((), (x4, xd 69))))), ((b00, (b01, (b02, (b03, (b04, (b05, ())))))), (((), ((), ((), (b13, ((), ((), ())))))), (((), ((), ((), (b23, ((), ((), ())))))), (o3, (o4, (o5, (o6, (o7, ())))))))), ())
def s_s_l10Copy_3_0 (x4 : Int) (b00 : List Int) (b01 : List Int) (b02 : List T_Commit) (b03 : Int) (b04 : List T_Member) (b05 : List T_Lease) (b13 : Int) (b23 : Int) (o3 : List Int) (o4 : List Int) (o5 : List T_Commit) (o6 : List T_Member) (o7 : List T_Lease) : St := { tm := ([.x, (.pb 0 0), (.pb 1 0), (.pb 2 0), (.s (.int .i64 x4))] ++ List.replicate 69 .x), ob := [(0, (.box [(.l .no bytesR b00), (.l .no bytesR b01), (.l .no commitR b02), (.s (.int .i64 b03)), (.l .no memberR b04), (.l .no leaseR b05)])), (1, (.box [.nl, .nl, .nl, (.s (.int .i64 b13)), .nl, .nl])), (2, (.box [(.w 3), (.w 4), (.w 5), (.s (.int .i64 b23)), (.w 6), (.w 7)])), (3, (.arr true true bytesR o3)), (4, (.arr true true bytesR o4)), (5, (.arr true true commitR o5)), (6, (.arr true true memberR o6)), (7, (.arr true true leaseR o7))], nx := 8, io := [] }
theorem se_s_l10Copy_3_0 (x4 : Int) (b00 : List Int) (b01 : List Int) (b02 : List T_Commit) (b03 : Int) (b04 : List T_Member) (b05 : List T_Lease) (b13 : Int) (b23 : Int) (o3 : List Int) (o4 : List Int) (o5 : List T_Commit) (o6 : List T_Member) (o7 : List T_Lease) : sh_s_l10Copy_3_0.mk' (d_s_l10Copy_3_0 x4 b00 b01 b02 b03 b04 b05 b13 b23 o3 o4 o5 o6 o7) = (s_s_l10Copy_3_0 x4 b00 b01 b02 b03 b04 b05 b13 b23 o3 o4 o5 o6 o7) := by kernel_rfl
def w_s_l10Copy_3_0 (d : sh_s_l10Copy_3_0.T) (f : Int → (List Int) → (List Int) → (List T_Commit) → Int → (List T_Member) → (List T_Lease) → Int → Int → (List Int) → (List Int) → (List T_Commit) → (List T_Member) → (List T_Lease) → Option Ret) : Option Ret := match d with | ((_, (_, (_, (_, (x4, _))))), ((b00, (b01, (b02, (b03, (b04, (b05, _)))))), ((_, (_, (_, (b13, (_, (_, _)))))), ((_, (_, (_, (b23, (_, (_, _)))))), (o3, (o4, (o5, (o6, (o7, _)))))))), _) => f x4 b00 b01 b02 b03 b04 b05 b13 b23 o3 o4 o5 o6 o7
noncomputable def P_s_l10Copy_3_0 (x4 : Int) (b00 : List Int) (b01 : List Int) (b02 : List T_Commit) (b03 : Int) (b04 : List T_Member) (b05 : List T_Lease) (b13 : Int) (b23 : Int) (o3 : List Int) (o4 : List Int) (o5 : List T_Commit) (o6 : List T_Member) (o7 : List T_Lease) (nx0 : Int → (List Int) → (List Int) → (List T_Commit) → Int → (List T_Member) → (List T_Lease) → Int → Int → (List Int) → (List Int) → (List T_Commit) → (List T_Member) → (List T_Lease) → Option Ret) (k0 : (List Int) → (List Int) → (List T_Commit) → Int → (List T_Member) → (List T_Lease) → Int → Int → (List Int) → (List Int) → (List T_Commit) → (List T_Member) → (List T_Lease) → Option Ret) : Option Ret := (bif (decide (x4 < (((List.length b02) : Nat) : Int))) then (bif ((decide ((0 : Int) ≤ x4)) && (decide (x4 < (((List.length b02) : Nat) : Int)))) then (bif ((decide ((0 : Int) ≤ x4)) && (decide (x4 < (((List.length b02) : Nat) : Int)))) then (bif (Nat.ble (List.length (List.getD b02 (Int.toNat x4) (commitR.dflt)).2.2.2) 1048576) then (bif (Nat.ble (((List.length o5) + (List.length ((List.getD b02 (Int.toNat x4) (commitR.dflt)) :: []))) * 48) 140737488355328) then (nx0 (IntKind.wrap .i64 (x4 + (1 : Int))) b00 b01 b02 b03 b04 b05 b13 b23 o3 o4 (o5 ++ ((List.getD b02 (Int.toNat x4) (commitR.dflt)) :: [])) o6 o7) else none) else none) else none) else none) else (k0 b00 b01 b02 b03 b04 b05 b13 b23 o3 o4 o5 o6 o7))
noncomputable def Q_s_l10Copy_3_0 : Nat → Int → (List Int) → (List Int) → (List T_Commit) → Int → (List T_Member) → (List T_Lease) → Int → Int → (List Int) → (List Int) → (List T_Commit) → (List T_Member) → (List T_Lease) → ((List Int) → (List Int) → (List T_Commit) → Int → (List T_Member) → (List T_Lease) → Int → Int → (List Int) → (List Int) → (List T_Commit) → (List T_Member) → (List T_Lease) → Option Ret) → Option Ret
  | 0, _, _, _, _, _, _, _, _, _, _, _, _, _, _, _ => none
  | m + 1, x4, b00, b01, b02, b03, b04, b05, b13, b23, o3, o4, o5, o6, o7, k0 => P_s_l10Copy_3_0 x4 b00 b01 b02 b03 b04 b05 b13 b23 o3 o4 o5 o6 o7 (fun x4 b00 b01 b02 b03 b04 b05 b13 b23 o3 o4 o5 o6 o7 => (Q_s_l10Copy_3_0 m x4 b00 b01 b02 b03 b04 b05 b13 b23 o3 o4 o5 o6 o7 k0)) k0
noncomputable def R_s_l10Copy_3_0 (x4 : Int) (b00 : List Int) (b01 : List Int) (b02 : List T_Commit) (b03 : Int) (b04 : List T_Member) (b05 : List T_Lease) (b13 : Int) (b23 : Int) (o3 : List Int) (o4 : List Int) (o5 : List T_Commit) (o6 : List T_Member) (o7 : List T_Lease) (k0 : (List Int) → (List Int) → (List T_Commit) → Int → (List T_Member) → (List T_Lease) → Int → Int → (List Int) → (List Int) → (List T_Commit) → (List T_Member) → (List T_Lease) → Option Ret) : Option Ret := Q_s_l10Copy_3_0 (x4.toNat + List.length b00 + List.length b01 + List.length b02 + b03.toNat + List.length b04 + List.length b05 + b13.toNat + b23.toNat + List.length o3 + List.length o4 + List.length o5 + List.length o6 + List.length o7 + 2) x4 b00 b01 b02 b03 b04 b05 b13 b23 o3 o4 o5 o6 o7 k0
noncomputable def W_s_l10Copy_3 : LoopFn := (fun (σ : St) (K : Ex → St → Option Ret) => (match sh_s_l10Copy_3_0.un σ with | some d => w_s_l10Copy_3_0 d (fun x4 b00 b01 b02 b03 b04 b05 b13 b23 o3 o4 o5 o6 o7 => R_s_l10Copy_3_0 x4 b00 b01 b02 b03 b04 b05 b13 b23 o3 o4 o5 o6 o7 (fun b00 b01 b02 b03 b04 b05 b13 b23 o3 o4 o5 o6 o7 => (K (.ext 0) (z_s_l10Copy_3_0 b00 b01 b02 b03 b04 b05 b13 b23 o3 o4 o5 o6 o7)))) | none => none))
def z_s_l10Copy_7_0 (b03 : Int) (b13 : Int) (o2 : List Int) (o3 : List Int) (o4 : List T_Commit) (o5 : List T_Member) (o6 : List T_Lease) : St := { tm := ([.x, .x, (.pb 0 0), (.pb 1 0)] ++ List.replicate 70 .x), ob := [(0, (.box [.nl, .nl, .nl, (.s (.int .i64 b03)), .nl, .nl])), (1, (.box [(.w 2), (.w 3), (.w 4), (.s (.int .i64 b13)), (.w 5), (.w 6)])), (2, (.arr true true bytesR o2)), (3, (.arr true true bytesR o3)), (4, (.arr true true commitR o4)), (5, (.arr true true memberR o5)), (6, (.arr true true leaseR o6))], nx := 7, io := [] }
def sh_s_l10Copy_7_0 : Ss := { tm := (.cons (.x) (.cons (.pb 0 0) (.cons (.pb 1 0) (.cons (.pb 2 0) (.cons (.x) (.cons (.int .i64) (xsh 68))))))), ob := (.box (.cons (.l .no bytesR) (.cons (.l .no bytesR) (.cons (.l .no commitR) (.cons (.int .i64) (.cons (.l .no memberR) (.cons (.l .no leaseR) .nil)))))) (.box (.cons (.nl) (.cons (.nl) (.cons (.nl) (.cons (.int .i64) (.cons (.nl) (.cons (.nl) .nil)))))) (.box (.cons (.w 3) (.cons (.w 4) (.cons (.w 5) (.cons (.int .i64) (.cons (.w 6) (.cons (.w 7) .nil)))))) (.arr true true bytesR (.arr true true bytesR (.arr true true commitR (.arr true true memberR (.arr true true leaseR .nil)))))))), nx := 8, io := .nil }
def d_s_l10Copy_7_0 (x5 : Int) (b00 : List Int) (b01 : List Int) (b02 : List T_Commit) (b03 : Int) (b04 : List T_Member) (b05 : List T_Lease) (b13 : Int) (b23 : Int) (o3 : List Int) (o4 : List Int) (o5 : List T_Commit) (o6 : List T_Member) (o7 : List T_Lease) : sh_s_l10Copy_7_0.T := (((), ((), ((), ((), ((), (x5, xd 68)))))), ((b00, (b01, (b02, (b03, (b04, (b05, ())))))), (((), ((), ((), (b13, ((), ((), ())))))), (((), ((), ((), (b23, ((), ((), ())))))), (o3, (o4, (o5, (o6, (o7, ())))))))), ())
def s_s_l10Copy_7_0 (x5 : Int) (b00 : List Int) (b01 : List Int) (b02 : List T_Commit) (b03 : Int) (b04 : List T_Member) (b05 : List T_Lease) (b13 : Int) (b23 : Int) (o3 : List Int) (o4 : List Int) (o5 : List T_Commit) (o6 : List T_Member) (o7 : List T_Lease) : St := { tm := ([.x, (.pb 0 0), (.pb 1 0), (.pb 2 0), .x, (.s (.int .i64 x5))] ++ List.replicate 68 .x), ob := [(0, (.box [(.l .no bytesR b00), (.l .no bytesR b01), (.l .no commitR b02), (.s (.int .i64 b03)), (.l .no memberR b04), (.l .no leaseR b05)])), (1, (.box [.nl, .nl, .nl, (.s (.int .i64 b13)), .nl, .nl])), (2, (.box [(.w 3), (.w 4), (.w 5), (.s (.int .i64 b23)), (.w 6), (.w 7)])), (3, (.arr true true bytesR o3)), (4, (.arr true true bytesR o4)), (5, (.arr true true commitR o5)), (6, (.arr true true memberR o6)), (7, (.arr true true leaseR o7))], nx := 8, io := [] }
theorem se_s_l10Copy_7_0 (x5 : Int) (b00 : List Int) (b01 : List Int) (b02 : List T_Commit) (b03 : Int) (b04 : List T_Member) (b05 : List T_Lease) (b13 : Int) (b23 : Int) (o3 : List Int) (o4 : List Int) (o5 : List T_Commit) (o6 : List T_Member) (o7 : List T_Lease) : sh_s_l10Copy_7_0.mk' (d_s_l10Copy_7_0 x5 b00 b01 b02 b03 b04 b05 b13 b23 o3 o4 o5 o6 o7) = (s_s_l10Copy_7_0 x5 b00 b01 b02 b03 b04 b05 b13 b23 o3 o4 o5 o6 o7) := by kernel_rfl
def w_s_l10Copy_7_0 (d : sh_s_l10Copy_7_0.T) (f : Int → (List Int) → (List Int) → (List T_Commit) → Int → (List T_Member) → (List T_Lease) → Int → Int → (List Int) → (List Int) → (List T_Commit) → (List T_Member) → (List T_Lease) → Option Ret) : Option Ret := match d with | ((_, (_, (_, (_, (_, (x5, _)))))), ((b00, (b01, (b02, (b03, (b04, (b05, _)))))), ((_, (_, (_, (b13, (_, (_, _)))))), ((_, (_, (_, (b23, (_, (_, _)))))), (o3, (o4, (o5, (o6, (o7, _)))))))), _) => f x5 b00 b01 b02 b03 b04 b05 b13 b23 o3 o4 o5 o6 o7
noncomputable def P_s_l10Copy_7_0 (x5 : Int) (b00 : List Int) (b01 : List Int) (b02 : List T_Commit) (b03 : Int) (b04 : List T_Member) (b05 : List T_Lease) (b13 : Int) (b23 : Int) (o3 : List Int) (o4 : List Int) (o5 : List T_Commit) (o6 : List T_Member) (o7 : List T_Lease) (nx0 : Int → (List Int) → (List Int) → (List T_Commit) → Int → (List T_Member) → (List T_Lease) → Int → Int → (List Int) → (List Int) → (List T_Commit) → (List T_Member) → (List T_Lease) → Option Ret) (k0 : Int → Int → (List Int) → (List Int) → (List T_Commit) → (List T_Member) → (List T_Lease) → Option Ret) : Option Ret := (bif (decide (x5 < (((List.length b04) : Nat) : Int))) then (bif ((decide ((0 : Int) ≤ x5)) && (decide (x5 < (((List.length b04) : Nat) : Int)))) then (bif (fitR stackR (List.getD b04 (Int.toNat x5) (memberR.dflt)).2.2.2) then (bif (Nat.ble (((List.length o6) + (List.length ((List.getD b04 (Int.toNat x5) (memberR.dflt)) :: []))) * 72) 140737488355328) then (nx0 (IntKind.wrap .i64 (x5 + (1 : Int))) b00 b01 b02 b03 b04 b05 b13 b23 o3 o4 o5 (o6 ++ ((List.getD b04 (Int.toNat x5) (memberR.dflt)) :: [])) o7) else none) else none) else none) else (k0 b13 b23 o3 o4 o5 o6 o7))
noncomputable def Q_s_l10Copy_7_0 : Nat → Int → (List Int) → (List Int) → (List T_Commit) → Int → (List T_Member) → (List T_Lease) → Int → Int → (List Int) → (List Int) → (List T_Commit) → (List T_Member) → (List T_Lease) → (Int → Int → (List Int) → (List Int) → (List T_Commit) → (List T_Member) → (List T_Lease) → Option Ret) → Option Ret
  | 0, _, _, _, _, _, _, _, _, _, _, _, _, _, _, _ => none
  | m + 1, x5, b00, b01, b02, b03, b04, b05, b13, b23, o3, o4, o5, o6, o7, k0 => P_s_l10Copy_7_0 x5 b00 b01 b02 b03 b04 b05 b13 b23 o3 o4 o5 o6 o7 (fun x5 b00 b01 b02 b03 b04 b05 b13 b23 o3 o4 o5 o6 o7 => (Q_s_l10Copy_7_0 m x5 b00 b01 b02 b03 b04 b05 b13 b23 o3 o4 o5 o6 o7 k0)) k0
noncomputable def R_s_l10Copy_7_0 (x5 : Int) (b00 : List Int) (b01 : List Int) (b02 : List T_Commit) (b03 : Int) (b04 : List T_Member) (b05 : List T_Lease) (b13 : Int) (b23 : Int) (o3 : List Int) (o4 : List Int) (o5 : List T_Commit) (o6 : List T_Member) (o7 : List T_Lease) (k0 : Int → Int → (List Int) → (List Int) → (List T_Commit) → (List T_Member) → (List T_Lease) → Option Ret) : Option Ret := Q_s_l10Copy_7_0 (x5.toNat + List.length b00 + List.length b01 + List.length b02 + b03.toNat + List.length b04 + List.length b05 + b13.toNat + b23.toNat + List.length o3 + List.length o4 + List.length o5 + List.length o6 + List.length o7 + 2) x5 b00 b01 b02 b03 b04 b05 b13 b23 o3 o4 o5 o6 o7 k0
noncomputable def W_s_l10Copy_7 : LoopFn := (fun (σ : St) (K : Ex → St → Option Ret) => (match sh_s_l10Copy_7_0.un σ with | some d => w_s_l10Copy_7_0 d (fun x5 b00 b01 b02 b03 b04 b05 b13 b23 o3 o4 o5 o6 o7 => R_s_l10Copy_7_0 x5 b00 b01 b02 b03 b04 b05 b13 b23 o3 o4 o5 o6 o7 (fun b03 b13 o2 o3 o4 o5 o6 => (K (.ext 2) (z_s_l10Copy_7_0 b03 b13 o2 o3 o4 o5 o6)))) | none => none))
noncomputable abbrev pl_s_l10Copy : List (Nat × Plan × List Nat) := [(1, takeB [1, 2, 5, 6, 8, 9, 11, 12] (.fork (.more 0 (.fork (.more 3 (.fork (.more 4 (.fork (.more 7 (.fork (.more 10 (.fork (.more 13 (takeB [14] (.fork (.one 15 (.fork (.one 16 (.done)))))) (.one 15 (.fork (.one 13 (takeB [14] (.fork (.one 16 (.done))))))))) (.one 15 (.fork (.one 10 (.fork (.one 13 (takeB [14] (.fork (.one 16 (.done))))))))))) (.more 10 (.fork (.more 7 (.fork (.more 13 (takeB [14] (.fork (.one 15 (.fork (.one 16 (.done)))))) (.one 15 (.fork (.one 13 (takeB [14] (.fork (.one 16 (.done))))))))) (.one 15 (.fork (.one 7 (.fork (.one 13 (takeB [14] (.fork (.one 16 (.done))))))))))) (.one 15 (.fork (.more 7 (.fork (.one 10 (.fork (.one 13 (takeB [14] (.fork (.one 16 (.done)))))))) (.one 10 (.fork (.one 7 (.fork (.one 13 (takeB [14] (.fork (.one 16 (.done))))))))))))))) (.more 10 (.fork (.more 4 (.fork (.more 7 (.fork (.more 13 (takeB [14] (.fork (.one 15 (.fork (.one 16 (.done)))))) (.one 15 (.fork (.one 13 (takeB [14] (.fork (.one 16 (.done))))))))) (.one 15 (.fork (.one 7 (.fork (.one 13 (takeB [14] (.fork (.one 16 (.done))))))))))) (.one 15 (.fork (.one 4 (.fork (.one 7 (.fork (.one 13 (takeB [14] (.fork (.one 16 (.done))))))))))))) (.one 15 (.fork (.more 4 (.fork (.more 7 (.fork (.one 10 (.fork (.one 13 (takeB [14] (.fork (.one 16 (.done)))))))) (.one 10 (.fork (.one 7 (.fork (.one 13 (takeB [14] (.fork (.one 16 (.done))))))))))) (.one 10 (.fork (.one 4 (.fork (.one 7 (.fork (.one 13 (takeB [14] (.fork (.one 16 (.done))))))))))))))))) (.more 4 (.fork (.more 3 (.fork (.more 7 (.fork (.more 10 (.fork (.more 13 (takeB [14] (.fork (.one 15 (.fork (.one 16 (.done)))))) (.one 15 (.fork (.one 13 (takeB [14] (.fork (.one 16 (.done))))))))) (.one 15 (.fork (.one 10 (.fork (.one 13 (takeB [14] (.fork (.one 16 (.done))))))))))) (.more 10 (.fork (.more 7 (.fork (.more 13 (takeB [14] (.fork (.one 15 (.fork (.one 16 (.done)))))) (.one 15 (.fork (.one 13 (takeB [14] (.fork (.one 16 (.done))))))))) (.one 15 (.fork (.one 7 (.fork (.one 13 (takeB [14] (.fork (.one 16 (.done))))))))))) (.one 15 (.fork (.more 7 (.fork (.one 10 (.fork (.one 13 (takeB [14] (.fork (.one 16 (.done)))))))) (.one 10 (.fork (.one 7 (.fork (.one 13 (takeB [14] (.fork (.one 16 (.done))))))))))))))) (.more 10 (.fork (.more 3 (.fork (.more 7 (.fork (.more 13 (takeB [14] (.fork (.one 15 (.fork (.one 16 (.done)))))) (.one 15 (.fork (.one 13 (takeB [14] (.fork (.one 16 (.done))))))))) (.one 15 (.fork (.one 7 (.fork (.one 13 (takeB [14] (.fork (.one 16 (.done))))))))))) (.one 15 (.fork (.one 3 (.fork (.one 7 (.fork (.one 13 (takeB [14] (.fork (.one 16 (.done))))))))))))) (.one 15 (.fork (.more 3 (.fork (.more 7 (.fork (.one 10 (.fork (.one 13 (takeB [14] (.fork (.one 16 (.done)))))))) (.one 10 (.fork (.one 7 (.fork (.one 13 (takeB [14] (.fork (.one 16 (.done))))))))))) (.one 10 (.fork (.one 3 (.fork (.one 7 (.fork (.one 13 (takeB [14] (.fork (.one 16 (.done))))))))))))))))) (.more 10 (.fork (.more 3 (.fork (.more 4 (.fork (.more 7 (.fork (.more 13 (takeB [14] (.fork (.one 15 (.fork (.one 16 (.done)))))) (.one 15 (.fork (.one 13 (takeB [14] (.fork (.one 16 (.done))))))))) (.one 15 (.fork (.one 7 (.fork (.one 13 (takeB [14] (.fork (.one 16 (.done))))))))))) (.one 15 (.fork (.one 4 (.fork (.one 7 (.fork (.one 13 (takeB [14] (.fork (.one 16 (.done))))))))))))) (.more 4 (.fork (.more 3 (.fork (.more 7 (.fork (.more 13 (takeB [14] (.fork (.one 15 (.fork (.one 16 (.done)))))) (.one 15 (.fork (.one 13 (takeB [14] (.fork (.one 16 (.done))))))))) (.one 15 (.fork (.one 7 (.fork (.one 13 (takeB [14] (.fork (.one 16 (.done))))))))))) (.one 15 (.fork (.one 3 (.fork (.one 7 (.fork (.one 13 (takeB [14] (.fork (.one 16 (.done))))))))))))) (.one 15 (.fork (.more 3 (.fork (.one 4 (.fork (.one 7 (.fork (.one 13 (takeB [14] (.fork (.one 16 (.done)))))))))) (.one 4 (.fork (.one 3 (.fork (.one 7 (.fork (.one 13 (takeB [14] (.fork (.one 16 (.done))))))))))))))))) (.one 15 (.fork (.more 3 (.fork (.more 4 (.fork (.more 7 (.fork (.one 10 (.fork (.one 13 (takeB [14] (.fork (.one 16 (.done)))))))) (.one 10 (.fork (.one 7 (.fork (.one 13 (takeB [14] (.fork (.one 16 (.done))))))))))) (.one 10 (.fork (.one 4 (.fork (.one 7 (.fork (.one 13 (takeB [14] (.fork (.one 16 (.done))))))))))))) (.more 4 (.fork (.more 3 (.fork (.more 7 (.fork (.one 10 (.fork (.one 13 (takeB [14] (.fork (.one 16 (.done)))))))) (.one 10 (.fork (.one 7 (.fork (.one 13 (takeB [14] (.fork (.one 16 (.done))))))))))) (.one 10 (.fork (.one 3 (.fork (.one 7 (.fork (.one 13 (takeB [14] (.fork (.one 16 (.done))))))))))))) (.one 10 (.fork (.more 3 (.fork (.one 4 (.fork (.one 7 (.fork (.one 13 (takeB [14] (.fork (.one 16 (.done)))))))))) (.one 4 (.fork (.one 3 (.fork (.one 7 (.fork (.one 13 (takeB [14] (.fork (.one 16 (.done)))))))))))))))))))))) (.more 4 (.fork (.more 0 (.fork (.more 3 (.fork (.more 7 (.fork (.more 10 (.fork (.more 13 (takeB [14] (.fork (.one 15 (.fork (.one 16 (.done)))))) (.one 15 (.fork (.one 13 (takeB [14] (.fork (.one 16 (.done))))))))) (.one 15 (.fork (.one 10 (.fork (.one 13 (takeB [14] (.fork (.one 16 (.done))))))))))) (.more 10 (.fork (.more 7 (.fork (.more 13 (takeB [14] (.fork (.one 15 (.fork (.one 16 (.done)))))) (.one 15 (.fork (.one 13 (takeB [14] (.fork (.one 16 (.done))))))))) (.one 15 (.fork (.one 7 (.fork (.one 13 (takeB [14] (.fork (.one 16 (.done))))))))))) (.one 15 (.fork (.more 7 (.fork (.one 10 (.fork (.one 13 (takeB [14] (.fork (.one 16 (.done)))))))) (.one 10 (.fork (.one 7 (.fork (.one 13 (takeB [14] (.fork (.one 16 (.done))))))))))))))) (.more 10 (.fork (.more 3 (.fork (.more 7 (.fork (.more 13 (takeB [14] (.fork (.one 15 (.fork (.one 16 (.done)))))) (.one 15 (.fork (.one 13 (takeB [14] (.fork (.one 16 (.done))))))))) (.one 15 (.fork (.one 7 (.fork (.one 13 (takeB [14] (.fork (.one 16 (.done))))))))))) (.one 15 (.fork (.one 3 (.fork (.one 7 (.fork (.one 13 (takeB [14] (.fork (.one 16 (.done))))))))))))) (.one 15 (.fork (.more 3 (.fork (.more 7 (.fork (.one 10 (.fork (.one 13 (takeB [14] (.fork (.one 16 (.done)))))))) (.one 10 (.fork (.one 7 (.fork (.one 13 (takeB [14] (.fork (.one 16 (.done))))))))))) (.one 10 (.fork (.one 3 (.fork (.one 7 (.fork (.one 13 (takeB [14] (.fork (.one 16 (.done))))))))))))))))) (.more 10 (.fork (.more 0 (.fork (.more 3 (.fork (.more 7 (.fork (.more 13 (takeB [14] (.fork (.one 15 (.fork (.one 16 (.done)))))) (.one 15 (.fork (.one 13 (takeB [14] (.fork (.one 16 (.done))))))))) (.one 15 (.fork (.one 7 (.fork (.one 13 (takeB [14] (.fork (.one 16 (.done))))))))))) (.one 15 (.fork (.one 3 (.fork (.one 7 (.fork (.one 13 (takeB [14] (.fork (.one 16 (.done))))))))))))) (.one 15 (.fork (.one 0 (.fork (.one 3 (.fork (.one 7 (.fork (.one 13 (takeB [14] (.fork (.one 16 (.done))))))))))))))) (.one 15 (.fork (.more 0 (.fork (.more 3 (.fork (.more 7 (.fork (.one 10 (.fork (.one 13 (takeB [14] (.fork (.one 16 (.done)))))))) (.one 10 (.fork (.one 7 (.fork (.one 13 (takeB [14] (.fork (.one 16 (.done))))))))))) (.one 10 (.fork (.one 3 (.fork (.one 7 (.fork (.one 13 (takeB [14] (.fork (.one 16 (.done))))))))))))) (.one 10 (.fork (.one 0 (.fork (.one 3 (.fork (.one 7 (.fork (.one 13 (takeB [14] (.fork (.one 16 (.done))))))))))))))))))) (.more 10 (.fork (.more 0 (.fork (.more 3 (.fork (.more 4 (.fork (.more 7 (.fork (.more 13 (takeB [14] (.fork (.one 15 (.fork (.one 16 (.done)))))) (.one 15 (.fork (.one 13 (takeB [14] (.fork (.one 16 (.done))))))))) (.one 15 (.fork (.one 7 (.fork (.one 13 (takeB [14] (.fork (.one 16 (.done))))))))))) (.one 15 (.fork (.one 4 (.fork (.one 7 (.fork (.one 13 (takeB [14] (.fork (.one 16 (.done))))))))))))) (.more 4 (.fork (.more 3 (.fork (.more 7 (.fork (.more 13 (takeB [14] (.fork (.one 15 (.fork (.one 16 (.done)))))) (.one 15 (.fork (.one 13 (takeB [14] (.fork (.one 16 (.done))))))))) (.one 15 (.fork (.one 7 (.fork (.one 13 (takeB [14] (.fork (.one 16 (.done))))))))))) (.one 15 (.fork (.one 3 (.fork (.one 7 (.fork (.one 13 (takeB [14] (.fork (.one 16 (.done))))))))))))) (.one 15 (.fork (.more 3 (.fork (.one 4 (.fork (.one 7 (.fork (.one 13 (takeB [14] (.fork (.one 16 (.done)))))))))) (.one 4 (.fork (.one 3 (.fork (.one 7 (.fork (.one 13 (takeB [14] (.fork (.one 16 (.done))))))))))))))))) (.more 4 (.fork (.more 0 (.fork (.more 3 (.fork (.more 7 (.fork (.more 13 (takeB [14] (.fork (.one 15 (.fork (.one 16 (.done)))))) (.one 15 (.fork (.one 13 (takeB [14] (.fork (.one 16 (.done))))))))) (.one 15 (.fork (.one 7 (.fork (.one 13 (takeB [14] (.fork (.one 16 (.done))))))))))) (.one 15 (.fork (.one 3 (.fork (.one 7 (.fork (.one 13 (takeB [14] (.fork (.one 16 (.done))))))))))))) (.one 15 (.fork (.one 0 (.fork (.one 3 (.fork (.one 7 (.fork (.one 13 (takeB [14] (.fork (.one 16 (.done))))))))))))))) (.one 15 (.fork (.more 0 (.fork (.more 3 (.fork (.one 4 (.fork (.one 7 (.fork (.one 13 (takeB [14] (.fork (.one 16 (.done)))))))))) (.one 4 (.fork (.one 3 (.fork (.one 7 (.fork (.one 13 (takeB [14] (.fork (.one 16 (.done))))))))))))) (.one 4 (.fork (.one 0 (.fork (.one 3 (.fork (.one 7 (.fork (.one 13 (takeB [14] (.fork (.one 16 (.done))))))))))))))))))) (.one 15 (.fork (.more 0 (.fork (.more 3 (.fork (.more 4 (.fork (.more 7 (.fork (.one 10 (.fork (.one 13 (takeB [14] (.fork (.one 16 (.done)))))))) (.one 10 (.fork (.one 7 (.fork (.one 13 (takeB [14] (.fork (.one 16 (.done))))))))))) (.one 10 (.fork (.one 4 (.fork (.one 7 (.fork (.one 13 (takeB [14] (.fork (.one 16 (.done))))))))))))) (.more 4 (.fork (.more 3 (.fork (.more 7 (.fork (.one 10 (.fork (.one 13 (takeB [14] (.fork (.one 16 (.done)))))))) (.one 10 (.fork (.one 7 (.fork (.one 13 (takeB [14] (.fork (.one 16 (.done))))))))))) (.one 10 (.fork (.one 3 (.fork (.one 7 (.fork (.one 13 (takeB [14] (.fork (.one 16 (.done))))))))))))) (.one 10 (.fork (.more 3 (.fork (.one 4 (.fork (.one 7 (.fork (.one 13 (takeB [14] (.fork (.one 16 (.done)))))))))) (.one 4 (.fork (.one 3 (.fork (.one 7 (.fork (.one 13 (takeB [14] (.fork (.one 16 (.done))))))))))))))))) (.more 4 (.fork (.more 0 (.fork (.more 3 (.fork (.more 7 (.fork (.one 10 (.fork (.one 13 (takeB [14] (.fork (.one 16 (.done)))))))) (.one 10 (.fork (.one 7 (.fork (.one 13 (takeB [14] (.fork (.one 16 (.done))))))))))) (.one 10 (.fork (.one 3 (.fork (.one 7 (.fork (.one 13 (takeB [14] (.fork (.one 16 (.done))))))))))))) (.one 10 (.fork (.one 0 (.fork (.one 3 (.fork (.one 7 (.fork (.one 13 (takeB [14] (.fork (.one 16 (.done))))))))))))))) (.one 10 (.fork (.more 0 (.fork (.more 3 (.fork (.one 4 (.fork (.one 7 (.fork (.one 13 (takeB [14] (.fork (.one 16 (.done)))))))))) (.one 4 (.fork (.one 3 (.fork (.one 7 (.fork (.one 13 (takeB [14] (.fork (.one 16 (.done))))))))))))) (.one 4 (.fork (.one 0 (.fork (.one 3 (.fork (.one 7 (.fork (.one 13 (takeB [14] (.fork (.one 16 (.done)))))))))))))))))))))))), []), (5, takeB [0, 1, 2, 3, 4, 5, 6, 7, 8, 9, 10, 11, 12, 13] (.fork (.one 14 (takeB [15] (.fork (.one 16 (.fork (.one 17 (takeB [18] (.fork (.one 19 (.done))))))))))), [100003]), (10, takeB [0, 1, 2, 3, 4, 5, 6, 7] (.fork (.one 8 (takeB [9] (.fork (.one 10 (.fork (.one 11 (takeB [12] (.fork (.one 13 (.done))))))))))), [100003])]
noncomputable abbrev ls_s_l10Copy : List (Nat × Bool × Sm) := [(N.s_l08Edit, true, S_s_l08Edit), (N.s_l10Stack, true, S_s_l10Stack)]
noncomputable abbrev E_s_l10Copy : Env := En ls_s_l10Copy pl_s_l10Copy [(3, [1,2,3,4], [1,2,3], W_s_l10Copy_3), (7, [1,2,3,5], [2,3], W_s_l10Copy_7)] [] false 0 [] [(3, [(3, 2, commitR), (3, 4, memberR)])]
noncomputable abbrev U_s_l10Copy_3 := rounds (run E_s_l10Copy (bodyOf F.s_l10Copy 3)) [1,2,3,4] [1,2,3]
theorem st_s_l10Copy_3_0 (m : Nat) (x4 : Int) (b00 : List Int) (b01 : List Int) (b02 : List T_Commit) (b03 : Int) (b04 : List T_Member) (b05 : List T_Lease) (b13 : Int) (b23 : Int) (o3 : List Int) (o4 : List Int) (o5 : List T_Commit) (o6 : List T_Member) (o7 : List T_Lease) (K : Ex → St → Option Ret) : U_s_l10Copy_3 (m + 1) (s_s_l10Copy_3_0 x4 b00 b01 b02 b03 b04 b05 b13 b23 o3 o4 o5 o6 o7) K = P_s_l10Copy_3_0 x4 b00 b01 b02 b03 b04 b05 b13 b23 o3 o4 o5 o6 o7 (fun x4 b00 b01 b02 b03 b04 b05 b13 b23 o3 o4 o5 o6 o7 => (U_s_l10Copy_3 m (s_s_l10Copy_3_0 x4 b00 b01 b02 b03 b04 b05 b13 b23 o3 o4 o5 o6 o7) K)) (fun b00 b01 b02 b03 b04 b05 b13 b23 o3 o4 o5 o6 o7 => (K (.ext 0) (z_s_l10Copy_3_0 b00 b01 b02 b03 b04 b05 b13 b23 o3 o4 o5 o6 o7))) := by kernel_rfl
theorem q_s_l10Copy_3 (K : Ex → St → Option Ret) : ∀ m : Nat, (∀ (x4 : Int) (b00 : List Int) (b01 : List Int) (b02 : List T_Commit) (b03 : Int) (b04 : List T_Member) (b05 : List T_Lease) (b13 : Int) (b23 : Int) (o3 : List Int) (o4 : List Int) (o5 : List T_Commit) (o6 : List T_Member) (o7 : List T_Lease), U_s_l10Copy_3 m (s_s_l10Copy_3_0 x4 b00 b01 b02 b03 b04 b05 b13 b23 o3 o4 o5 o6 o7) K = Q_s_l10Copy_3_0 m x4 b00 b01 b02 b03 b04 b05 b13 b23 o3 o4 o5 o6 o7 (fun b00 b01 b02 b03 b04 b05 b13 b23 o3 o4 o5 o6 o7 => (K (.ext 0) (z_s_l10Copy_3_0 b00 b01 b02 b03 b04 b05 b13 b23 o3 o4 o5 o6 o7))))
  | 0 => (fun _ _ _ _ _ _ _ _ _ _ _ _ _ _ => rfl)
  | m + 1 => (fun x4 b00 b01 b02 b03 b04 b05 b13 b23 o3 o4 o5 o6 o7 => (by rw [st_s_l10Copy_3_0, show (fun x4 b00 b01 b02 b03 b04 b05 b13 b23 o3 o4 o5 o6 o7 => (U_s_l10Copy_3 m (s_s_l10Copy_3_0 x4 b00 b01 b02 b03 b04 b05 b13 b23 o3 o4 o5 o6 o7) K)) = (fun x4 b00 b01 b02 b03 b04 b05 b13 b23 o3 o4 o5 o6 o7 => (Q_s_l10Copy_3_0 m x4 b00 b01 b02 b03 b04 b05 b13 b23 o3 o4 o5 o6 o7 (fun b00 b01 b02 b03 b04 b05 b13 b23 o3 o4 o5 o6 o7 => (K (.ext 0) (z_s_l10Copy_3_0 b00 b01 b02 b03 b04 b05 b13 b23 o3 o4 o5 o6 o7))))) from funext fun x4 => funext fun b00 => funext fun b01 => funext fun b02 => funext fun b03 => funext fun b04 => funext fun b05 => funext fun b13 => funext fun b23 => funext fun o3 => funext fun o4 => funext fun o5 => funext fun o6 => funext fun o7 => (q_s_l10Copy_3 K m) x4 b00 b01 b02 b03 b04 b05 b13 b23 o3 o4 o5 o6 o7]; rfl))
theorem loopK_s_l10Copy_3 : LoopOk E_s_l10Copy (bodyOf F.s_l10Copy 3) := by
  refine loopW_ok (n := 3) (F := W_s_l10Copy_3) (by kernel_rfl) rfl (li := [1,2,3,4]) (lo := [1,2,3]) rfl (fun σ K r hr => ?_)
  unfold W_s_l10Copy_3 at hr
  split at hr
  · rename_i d hd
    rw [Ss.un_mk hd]
    exact ⟨_, ((congrArg (fun z => U_s_l10Copy_3 _ z K) (se_s_l10Copy_3_0 _ _ _ _ _ _ _ _ _ _ _ _ _ _)).trans ((q_s_l10Copy_3 K _) _ _ _ _ _ _ _ _ _ _ _ _ _ _)).trans hr⟩
  · cases hr
noncomputable abbrev U_s_l10Copy_7 := rounds (run E_s_l10Copy (bodyOf F.s_l10Copy 7)) [1,2,3,5] [2,3]
theorem st_s_l10Copy_7_0 (m : Nat) (x5 : Int) (b00 : List Int) (b01 : List Int) (b02 : List T_Commit) (b03 : Int) (b04 : List T_Member) (b05 : List T_Lease) (b13 : Int) (b23 : Int) (o3 : List Int) (o4 : List Int) (o5 : List T_Commit) (o6 : List T_Member) (o7 : List T_Lease) (K : Ex → St → Option Ret) : U_s_l10Copy_7 (m + 1) (s_s_l10Copy_7_0 x5 b00 b01 b02 b03 b04 b05 b13 b23 o3 o4 o5 o6 o7) K = P_s_l10Copy_7_0 x5 b00 b01 b02 b03 b04 b05 b13 b23 o3 o4 o5 o6 o7 (fun x5 b00 b01 b02 b03 b04 b05 b13 b23 o3 o4 o5 o6 o7 => (U_s_l10Copy_7 m (s_s_l10Copy_7_0 x5 b00 b01 b02 b03 b04 b05 b13 b23 o3 o4 o5 o6 o7) K)) (fun b03 b13 o2 o3 o4 o5 o6 => (K (.ext 2) (z_s_l10Copy_7_0 b03 b13 o2 o3 o4 o5 o6))) := by kernel_rfl
theorem q_s_l10Copy_7 (K : Ex → St → Option Ret) : ∀ m : Nat, (∀ (x5 : Int) (b00 : List Int) (b01 : List Int) (b02 : List T_Commit) (b03 : Int) (b04 : List T_Member) (b05 : List T_Lease) (b13 : Int) (b23 : Int) (o3 : List Int) (o4 : List Int) (o5 : List T_Commit) (o6 : List T_Member) (o7 : List T_Lease), U_s_l10Copy_7 m (s_s_l10Copy_7_0 x5 b00 b01 b02 b03 b04 b05 b13 b23 o3 o4 o5 o6 o7) K = Q_s_l10Copy_7_0 m x5 b00 b01 b02 b03 b04 b05 b13 b23 o3 o4 o5 o6 o7 (fun b03 b13 o2 o3 o4 o5 o6 => (K (.ext 2) (z_s_l10Copy_7_0 b03 b13 o2 o3 o4 o5 o6))))
  | 0 => (fun _ _ _ _ _ _ _ _ _ _ _ _ _ _ => rfl)
  | m + 1 => (fun x5 b00 b01 b02 b03 b04 b05 b13 b23 o3 o4 o5 o6 o7 => (by rw [st_s_l10Copy_7_0, show (fun x5 b00 b01 b02 b03 b04 b05 b13 b23 o3 o4 o5 o6 o7 => (U_s_l10Copy_7 m (s_s_l10Copy_7_0 x5 b00 b01 b02 b03 b04 b05 b13 b23 o3 o4 o5 o6 o7) K)) = (fun x5 b00 b01 b02 b03 b04 b05 b13 b23 o3 o4 o5 o6 o7 => (Q_s_l10Copy_7_0 m x5 b00 b01 b02 b03 b04 b05 b13 b23 o3 o4 o5 o6 o7 (fun b03 b13 o2 o3 o4 o5 o6 => (K (.ext 2) (z_s_l10Copy_7_0 b03 b13 o2 o3 o4 o5 o6))))) from funext fun x5 => funext fun b00 => funext fun b01 => funext fun b02 => funext fun b03 => funext fun b04 => funext fun b05 => funext fun b13 => funext fun b23 => funext fun o3 => funext fun o4 => funext fun o5 => funext fun o6 => funext fun o7 => (q_s_l10Copy_7 K m) x5 b00 b01 b02 b03 b04 b05 b13 b23 o3 o4 o5 o6 o7]; rfl))
theorem loopK_s_l10Copy_7 : LoopOk E_s_l10Copy (bodyOf F.s_l10Copy 7) := by
  refine loopW_ok (n := 7) (F := W_s_l10Copy_7) (by kernel_rfl) rfl (li := [1,2,3,5]) (lo := [2,3]) rfl (fun σ K r hr => ?_)
  unfold W_s_l10Copy_7 at hr
  split at hr
  · rename_i d hd
    rw [Ss.un_mk hd]
    exact ⟨_, ((congrArg (fun z => U_s_l10Copy_7 _ z K) (se_s_l10Copy_7_0 _ _ _ _ _ _ _ _ _ _ _ _ _ _)).trans ((q_s_l10Copy_7 K _) _ _ _ _ _ _ _ _ _ _ _ _ _ _)).trans hr⟩
  · cases hr
noncomputable def T_s_l10Copy (d : T_Doc) (K : Ret → Option Ret) : Option Ret := (R_s_l10Copy_3_0 (0 : Int) d.1 d.2.1 d.2.2.1 d.2.2.2.1 d.2.2.2.2.1 d.2.2.2.2.2 (0 : Int) d.2.2.2.1 (([] : List Int) ++ d.1) (([] : List Int) ++ d.2.1) [] [] ([] ++ d.2.2.2.2.2) (fun y0 y1 y2 y3 y4 y5 y6 y7 y8 y9 y10 y11 y12 => (R_s_l10Copy_7_0 (0 : Int) y0 y1 y2 y3 y4 y5 y6 y7 y8 y9 y10 y11 y12 (fun y13 y14 y15 y16 y17 y18 y19 => K ((.a [(.l .deep bytesR y15), (.l .deep bytesR y16), (.l .deep commitR y17), (.s (.int .i64 y14)), (.l .deep memberR y18), (.l .deep leaseR y19)]), [])))))
theorem cs_s_l10Copy (d : T_Doc) (h : (fitR docR d) = true) : allC [(3, (Nat.ble (((List.length ([] : List Int)) + (List.length d.1)) * 1) 140737488355328)), (7, (Nat.ble (((List.length ([] : List Int)) + (List.length d.2.1)) * 1) 140737488355328)), (13, (Nat.ble (((List.length ([] : List Int)) + (List.length d.2.2.2.2.2)) * 32) 140737488355328))] := by
  obtain ⟨h1, h2, h3, h4, h5⟩ := fit_doc h
  have n1 := fitB_len h1
  have n2 := fitB_len h2
  have n5 : d.2.2.2.2.2.length ≤ 1048576 := fitC_len h5
  refine condc (Nat.ble_eq_true_of_le ?_) (condc (Nat.ble_eq_true_of_le ?_) (condc (Nat.ble_eq_true_of_le ?_) cond0)) <;> (simp only [List.length_nil]; omega)
theorem e1_s_l10Copy (d : T_Doc) (K : Ret → Option Ret) : evF E_s_l10Copy true F.s_l10Copy [.a (docR.cells .no d)] K = ctP (condL [(3, (Nat.ble (((List.length ([] : List Int)) + (List.length d.1)) * 1) 140737488355328)), (7, (Nat.ble (((List.length ([] : List Int)) + (List.length d.2.1)) * 1) 140737488355328)), (13, (Nat.ble (((List.length ([] : List Int)) + (List.length d.2.2.2.2.2)) * 32) 140737488355328))]) (((planOf pl_s_l10Copy 1).getD (.done, [])).1) (T_s_l10Copy d K) := by kernel_rfl
theorem e_s_l10Copy (d : T_Doc) (K : Ret → Option Ret) (h : (fitR docR d) = true) : evF E_s_l10Copy true F.s_l10Copy [.a (docR.cells .no d)] K = T_s_l10Copy d K := (e1_s_l10Copy d K).trans (ctP_id (condL_all (cs_s_l10Copy d h)) _ _)
def S_s_l10Copy : Sm := S_fnR [.a docR] (fun d => fitR docR d.1) (fun d => (.a (docR.cells .deep d.1), []))
theorem v_s_l10Copy (d : T_Doc) (h : (fitR docR d) = true) (K : Ret → Option Ret) : T_s_l10Copy d K = K (.a (docR.cells .deep d), []) := by
  obtain ⟨h1, h2, h3, h4, h5⟩ := fit_doc h
  obtain ⟨st, tx, lg, ck, mb, ls⟩ := d
  have n3 : lg.length ≤ 1048576 := fitC_len h3
  have n4 : mb.length ≤ 1048576 := fitC_len h4
  have n5 : ls.length ≤ 1048576 := fitC_len h5
  have n1 := fitB_len h1
  have n2 := fitB_len h2
  dsimp only at n1 n2
  have q3 : ∀ (p q : Int) (o3 o4 : List Int) (o6 : List T_Member) (o7 : List T_Lease) (k0 : (List Int) → (List Int) → (List T_Commit) → Int → (List T_Member) → (List T_Lease) → Int → Int → (List Int) → (List Int) → (List T_Commit) → (List T_Member) → (List T_Lease) → Option Ret), R_s_l10Copy_3_0 0 st tx lg ck mb ls p q o3 o4 [] o6 o7 k0 = k0 st tx lg ck mb ls p q o3 o4 lg o6 o7 := fun p q o3 o4 o6 o7 k0 =>
    idx_copy (R := fun m i o => Q_s_l10Copy_3_0 m i st tx lg ck mb ls p q o3 o4 o o6 o7 k0) commitR.dflt (fun m i hi => by
      show P_s_l10Copy_3_0 ((i : Nat) : Int) st tx lg ck mb ls p q o3 o4 (lg.take i) o6 o7 _ _ = _
      unfold P_s_l10Copy_3_0
      have hx : fitB (lg.getD i commitR.dflt).2.2.2 = true := fit_commit (fitC_getD h3 rfl i)
      rw [decide_eq_true (show ((i : Nat) : Int) < ((lg.length : Nat) : Int) by omega), decide_eq_true (show (0 : Int) ≤ ((i : Nat) : Int) by omega), Int.toNat_natCast, wrap_nat (by omega), Nat.ble_eq_true_of_le (fitB_len hx), Nat.ble_eq_true_of_le (by simp only [List.length_take, List.length_cons, List.length_nil]; omega)]
      rfl) (fun m => by
      show P_s_l10Copy_3_0 ((lg.length : Nat) : Int) st tx lg ck mb ls p q o3 o4 lg o6 o7 _ _ = _
      unfold P_s_l10Copy_3_0
      rw [decide_eq_false (show ¬ ((lg.length : Nat) : Int) < ((lg.length : Nat) : Int) by omega)]; rfl) _ 0 (by omega) (by omega)
  have q7 : ∀ (p q : Int) (o3 o4 : List Int) (o5 : List T_Commit) (o7 : List T_Lease) (k0 : Int → Int → (List Int) → (List Int) → (List T_Commit) → (List T_Member) → (List T_Lease) → Option Ret), R_s_l10Copy_7_0 0 st tx lg ck mb ls p q o3 o4 o5 [] o7 k0 = k0 p q o3 o4 o5 mb o7 := fun p q o3 o4 o5 o7 k0 =>
    idx_copy (R := fun m i o => Q_s_l10Copy_7_0 m i st tx lg ck mb ls p q o3 o4 o5 o o7 k0) memberR.dflt (fun m i hi => by
      show P_s_l10Copy_7_0 ((i : Nat) : Int) st tx lg ck mb ls p q o3 o4 o5 (mb.take i) o7 _ _ = _
      unfold P_s_l10Copy_7_0
      have hx : fitR memberR (mb.getD i memberR.dflt) = true := fitC_getD h4 rfl i
      rw [decide_eq_true (show ((i : Nat) : Int) < ((mb.length : Nat) : Int) by omega), decide_eq_true (show (0 : Int) ≤ ((i : Nat) : Int) by omega), Int.toNat_natCast, wrap_nat (by omega), show fitR stackR (mb.getD i memberR.dflt).2.2.2 = true from fitR_snd (fitR_snd (fitR_snd hx)), Nat.ble_eq_true_of_le (by simp only [List.length_take, List.length_cons, List.length_nil]; omega)]
      rfl) (fun m => by
      show P_s_l10Copy_7_0 ((mb.length : Nat) : Int) st tx lg ck mb ls p q o3 o4 o5 mb o7 _ _ = _
      unfold P_s_l10Copy_7_0
      rw [decide_eq_false (show ¬ ((mb.length : Nat) : Int) < ((mb.length : Nat) : Int) by omega)]; rfl) _ 0 (by omega) (by omega)
  unfold T_s_l10Copy
  dsimp only
  rw [q3, q7]
  rfl
theorem okS_s_l10Copy : OkFn prog I N.s_l10Copy true S_s_l10Copy := okN (ok_fn (memc okS_s_l08Edit (memc okS_s_l10Stack mem0)) (l := ls_s_l10Copy) (p := pl_s_l10Copy) (ls := [(3, [1,2,3,4], [1,2,3], W_s_l10Copy_3), (7, [1,2,3,5], [2,3], W_s_l10Copy_7)]) (lend := []) (focus := false) (fuel := 0) (give := []) (nils := [(3, [(3, 2, commitR), (3, 4, memberR)])]) (fn := F.s_l10Copy) (by kernel_rfl) (by kernel_rfl) (by kernel_rfl) (by kernel_rfl) (cs := [bodyOf F.s_l10Copy 3, bodyOf F.s_l10Copy 7]) (by kernel_rfl) (loopsc loopK_s_l10Copy_3 (loopsc loopK_s_l10Copy_7 loops0))) (S_fnR_of fun d K h => (e_s_l10Copy d.1 K h).trans (v_s_l10Copy d.1 h K))
end Go.Ev.Seat
end
section
/- s_LeaseExpire: its contract. -/
namespace Go.Ev.Seat
open Go.RowKit
set_option maxRecDepth 100000
set_option linter.unusedVariables false
set_option linter.unusedSimpArgs false
def z_s_LeaseExpire_3_0 (o0 : List T_Lease) : St := { tm := ([.x, .x, .x, .x, .x, (.w 0)] ++ List.replicate 27 .x), ob := [(0, (.arr true true leaseR o0))], nx := 1, io := [] }
def sh_s_LeaseExpire_3_0 : Ss := { tm := (.cons (.l .no leaseR) (.cons (.int .i64) (.cons (.x) (.cons (.x) (.cons (.x) (.cons (.w 0) (.cons (.int .i64) (xsh 26)))))))), ob := (.arr true true leaseR .nil), nx := 1, io := .nil }
def d_s_LeaseExpire_3_0 (x0 : List T_Lease) (x1 : Int) (x6 : Int) (o0 : List T_Lease) : sh_s_LeaseExpire_3_0.T := ((x0, (x1, ((), ((), ((), ((), (x6, xd 26))))))), (o0, ()), ())
def s_s_LeaseExpire_3_0 (x0 : List T_Lease) (x1 : Int) (x6 : Int) (o0 : List T_Lease) : St := { tm := ([(.l .no leaseR x0), (.s (.int .i64 x1)), .x, .x, .x, (.w 0), (.s (.int .i64 x6))] ++ List.replicate 26 .x), ob := [(0, (.arr true true leaseR o0))], nx := 1, io := [] }
theorem se_s_LeaseExpire_3_0 (x0 : List T_Lease) (x1 : Int) (x6 : Int) (o0 : List T_Lease) : sh_s_LeaseExpire_3_0.mk' (d_s_LeaseExpire_3_0 x0 x1 x6 o0) = (s_s_LeaseExpire_3_0 x0 x1 x6 o0) := by kernel_rfl
def w_s_LeaseExpire_3_0 (d : sh_s_LeaseExpire_3_0.T) (f : (List T_Lease) → Int → Int → (List T_Lease) → Option Ret) : Option Ret := match d with | ((x0, (x1, (_, (_, (_, (_, (x6, _))))))), (o0, _), _) => f x0 x1 x6 o0
noncomputable def P_s_LeaseExpire_3_0 (x0 : List T_Lease) (x1 : Int) (x6 : Int) (o0 : List T_Lease) (nx0 : (List T_Lease) → Int → Int → (List T_Lease) → Option Ret) (k0 : (List T_Lease) → Option Ret) : Option Ret := (bif (Nat.ble (List.length x0) 1048576) then (bif (leasesOkD x0) then (bif (decide (x6 < (((List.length x0) : Nat) : Int))) then (bif ((decide ((0 : Int) ≤ x6)) && (decide (x6 < (((List.length x0) : Nat) : Int)))) then (bif (decide ((List.getD x0 (Int.toNat x6) (leaseR.dflt)).2.2.2 > x1)) then (bif ((decide ((0 : Int) ≤ x6)) && (decide (x6 < (((List.length x0) : Nat) : Int)))) then (bif (Nat.ble (((List.length o0) + (List.length ((List.getD x0 (Int.toNat x6) (leaseR.dflt)) :: []))) * 32) 140737488355328) then (nx0 x0 x1 (IntKind.wrap .i64 (x6 + (1 : Int))) (o0 ++ ((List.getD x0 (Int.toNat x6) (leaseR.dflt)) :: []))) else none) else none) else (nx0 x0 x1 (IntKind.wrap .i64 (x6 + (1 : Int))) o0)) else none) else (k0 o0)) else (k0 o0)) else none)
noncomputable def Q_s_LeaseExpire_3_0 : Nat → (List T_Lease) → Int → Int → (List T_Lease) → ((List T_Lease) → Option Ret) → Option Ret
  | 0, _, _, _, _, _ => none
  | m + 1, x0, x1, x6, o0, k0 => P_s_LeaseExpire_3_0 x0 x1 x6 o0 (fun x0 x1 x6 o0 => (Q_s_LeaseExpire_3_0 m x0 x1 x6 o0 k0)) k0
noncomputable def R_s_LeaseExpire_3_0 (x0 : List T_Lease) (x1 : Int) (x6 : Int) (o0 : List T_Lease) (k0 : (List T_Lease) → Option Ret) : Option Ret := Q_s_LeaseExpire_3_0 (List.length x0 + x1.toNat + x6.toNat + List.length o0 + 2) x0 x1 x6 o0 k0
noncomputable def W_s_LeaseExpire_3 : LoopFn := (fun (σ : St) (K : Ex → St → Option Ret) => (match sh_s_LeaseExpire_3_0.un σ with | some d => w_s_LeaseExpire_3_0 d (fun x0 x1 x6 o0 => R_s_LeaseExpire_3_0 x0 x1 x6 o0 (fun o0 => (K (.ext 0) (z_s_LeaseExpire_3_0 o0)))) | none => none))
noncomputable abbrev E_s_LeaseExpire : Env := En [(N.s_LeasesOk, true, S_s_LeasesOk)] [] [(3, [0,1,5,6], [4,5], W_s_LeaseExpire_3)] [] false 0 []
theorem st_s_LeaseExpire_3_0 (m : Nat) (x0 : List T_Lease) (x1 : Int) (x6 : Int) (o0 : List T_Lease) (K : Ex → St → Option Ret) : rounds (run E_s_LeaseExpire (bodyOf F.s_LeaseExpire 3)) [0,1,5,6] [4,5] (m + 1) (s_s_LeaseExpire_3_0 x0 x1 x6 o0) K = P_s_LeaseExpire_3_0 x0 x1 x6 o0 (fun x0 x1 x6 o0 => (rounds (run E_s_LeaseExpire (bodyOf F.s_LeaseExpire 3)) [0,1,5,6] [4,5] m (s_s_LeaseExpire_3_0 x0 x1 x6 o0) K)) (fun o0 => (K (.ext 0) (z_s_LeaseExpire_3_0 o0))) := by kernel_rfl
theorem q_s_LeaseExpire_3 (K : Ex → St → Option Ret) : ∀ m : Nat, (∀ (x0 : List T_Lease) (x1 : Int) (x6 : Int) (o0 : List T_Lease), rounds (run E_s_LeaseExpire (bodyOf F.s_LeaseExpire 3)) [0,1,5,6] [4,5] m (s_s_LeaseExpire_3_0 x0 x1 x6 o0) K = Q_s_LeaseExpire_3_0 m x0 x1 x6 o0 (fun o0 => (K (.ext 0) (z_s_LeaseExpire_3_0 o0))))
  | 0 => (fun _ _ _ _ => rfl)
  | m + 1 => (fun x0 x1 x6 o0 => (by rw [st_s_LeaseExpire_3_0, show (fun x0 x1 x6 o0 => (rounds (run E_s_LeaseExpire (bodyOf F.s_LeaseExpire 3)) [0,1,5,6] [4,5] m (s_s_LeaseExpire_3_0 x0 x1 x6 o0) K)) = (fun x0 x1 x6 o0 => (Q_s_LeaseExpire_3_0 m x0 x1 x6 o0 (fun o0 => (K (.ext 0) (z_s_LeaseExpire_3_0 o0))))) from funext fun x0 => funext fun x1 => funext fun x6 => funext fun o0 => (q_s_LeaseExpire_3 K m) x0 x1 x6 o0]; rfl))
theorem loopK_s_LeaseExpire_3 : LoopOk E_s_LeaseExpire (bodyOf F.s_LeaseExpire 3) := by
  refine loopW_ok (n := 3) (F := W_s_LeaseExpire_3) (by kernel_rfl) rfl (li := [0,1,5,6]) (lo := [4,5]) rfl (fun σ K r hr => ?_)
  unfold W_s_LeaseExpire_3 at hr
  split at hr
  · rename_i d hd
    rw [Ss.un_mk hd]
    exact ⟨_, ((congrArg (fun z => rounds (run E_s_LeaseExpire (bodyOf F.s_LeaseExpire 3)) [0,1,5,6] [4,5] _ z K) (se_s_LeaseExpire_3_0 _ _ _ _)).trans ((q_s_LeaseExpire_3 K _) _ _ _ _)).trans hr⟩
  · cases hr
noncomputable def T_s_LeaseExpire (l : List T_Lease) (n : Int) (K : Ret → Option Ret) : Option Ret := (R_s_LeaseExpire_3_0 l n (0 : Int) [] (fun y0 => K ((.l .deep leaseR y0), [])))
theorem e_s_LeaseExpire (l : List T_Lease) (n : Int) (K : Ret → Option Ret) : evF E_s_LeaseExpire true F.s_LeaseExpire [.l .no leaseR l, .s (.int .i64 n)] K = T_s_LeaseExpire l n K := by kernel_rfl
def S_s_LeaseExpire : Sm := S_fnR [.l leaseR, .i] (fun d => Nat.ble d.1.length 1048576) (fun d => (.l .deep leaseR (expireD d.1 d.2.1), []))
theorem v_s_LeaseExpire (l : List T_Lease) (n : Int) (h : (Nat.ble l.length 1048576) = true) (K : Ret → Option Ret) : T_s_LeaseExpire l n K = K (.l .deep leaseR (expireD l n), []) := by
  have hl := Nat.le_of_ble_eq_true h
  unfold T_s_LeaseExpire expireD
  cases hk : leasesOkD l with
  | false =>
    have hq : ∀ (m : Nat) (k0 : List T_Lease → Option Ret), Q_s_LeaseExpire_3_0 (m + 1) l n 0 [] k0 = k0 [] := by
      intro m k0
      show P_s_LeaseExpire_3_0 l n 0 [] _ _ = _
      unfold P_s_LeaseExpire_3_0
      rw [h, hk]; rfl
    exact hq (List.length l + n.toNat + (0 : Int).toNat + List.length ([] : List T_Lease) + 1) (fun y0 => K ((.l .deep leaseR y0), []))
  | true =>
    have hp : ∃ p : T_Lease → Bool, p = (fun x => decide (x.2.2.2 > n)) := ⟨_, rfl⟩
    obtain ⟨p, hp⟩ := hp
    rw [← hp]
    have q : ∀ (k0 : List T_Lease → Option Ret) (m : Nat), l.length < m → Q_s_LeaseExpire_3_0 m l n ((0 : Nat) : Int) ((l.take 0).filter p) k0 = k0 (l.filter p) := by
      intro k0 m hm
      refine idx_filter (R := fun m i o => Q_s_LeaseExpire_3_0 m l n i o k0) (kt := k0 (l.filter p)) (l := l) p leaseR.dflt (fun m i hi => ?_) (fun m => ?_) m 0 (Nat.zero_le _) (by omega)
      · show P_s_LeaseExpire_3_0 l n ((i : Nat) : Int) _ _ _ = _
        unfold P_s_LeaseExpire_3_0
        have hle := List.length_filter_le p (l.take i)
        rw [List.length_take] at hle
        rw [h, hk, decide_eq_true (show ((i : Nat) : Int) < ((l.length : Nat) : Int) by omega), decide_eq_true (show (0 : Int) ≤ ((i : Nat) : Int) by omega), Int.toNat_natCast, wrap_nat (by omega), Nat.ble_eq_true_of_le (by simp only [List.length_cons, List.length_nil]; omega), show decide ((l.getD i leaseR.dflt).2.2.2 > n) = p (l.getD i leaseR.dflt) by rw [hp]]
        cases p (l.getD i leaseR.dflt) <;> rfl
      · show P_s_LeaseExpire_3_0 l n ((l.length : Nat) : Int) _ _ _ = _
        unfold P_s_LeaseExpire_3_0
        rw [h, hk, decide_eq_false (show ¬ ((l.length : Nat) : Int) < ((l.length : Nat) : Int) by omega)]; rfl
    exact q (fun y0 => K ((.l .deep leaseR y0), [])) (List.length l + n.toNat + (0 : Int).toNat + List.length ([] : List T_Lease) + 2) (by omega)
theorem okS_s_LeaseExpire : OkFn prog I N.s_LeaseExpire true S_s_LeaseExpire := okN (ok_fn (memc okS_s_LeasesOk mem0) (l := [(N.s_LeasesOk, true, S_s_LeasesOk)]) (p := []) (ls := [(3, [0,1,5,6], [4,5], W_s_LeaseExpire_3)]) (lend := []) (focus := false) (fuel := 0) (give := []) (fn := F.s_LeaseExpire) (by kernel_rfl) (by kernel_rfl) (by kernel_rfl) (by kernel_rfl) (cs := [bodyOf F.s_LeaseExpire 3]) (by kernel_rfl) (loopsc loopK_s_LeaseExpire_3 loops0)) (S_fnR_of fun d K h => (e_s_LeaseExpire d.1 d.2.1 K).trans (v_s_LeaseExpire d.1 d.2.1 h K))
end Go.Ev.Seat
end
section
/- s_DocTick: its contract. -/
namespace Go.Ev.Seat
open Go.RowKit
set_option maxRecDepth 100000
set_option linter.unusedVariables false
set_option linter.unusedSimpArgs false
noncomputable abbrev ls_s_DocTick : List (Nat × Bool × Sm) := [(N.s_DocOk, true, S_s_DocOk), (N.s_l10Copy, true, S_s_l10Copy), (N.s_LeaseExpire, true, S_s_LeaseExpire)]
noncomputable abbrev E_s_DocTick : Env := En ls_s_DocTick [] [] [] false 0 []
noncomputable def T_s_DocTick (d : T_Doc) (n : Int) (K : Ret → Option Ret) : Option Ret := (bif (fitR docR d) then (bif (!(docOkD d)) then K ((.t [(.a [(.l .deep bytesR ([] : List Int)), (.l .deep bytesR ([] : List Int)), (.l .deep commitR []), (.s (.int .i64 (0 : Int))), (.l .deep memberR []), (.l .deep leaseR [])]), (.s (.bool false))]), []) else (bif (decide (n < (1 : Int))) then K ((.t [(.a [(.l .deep bytesR ([] : List Int)), (.l .deep bytesR ([] : List Int)), (.l .deep commitR []), (.s (.int .i64 (0 : Int))), (.l .deep memberR []), (.l .deep leaseR [])]), (.s (.bool false))]), []) else (bif (decide (n > (1000 : Int))) then K ((.t [(.a [(.l .deep bytesR ([] : List Int)), (.l .deep bytesR ([] : List Int)), (.l .deep commitR []), (.s (.int .i64 (0 : Int))), (.l .deep memberR []), (.l .deep leaseR [])]), (.s (.bool false))]), []) else (bif (fitR docR d) then (bif (Nat.ble (List.length d.2.2.2.2.2) 1048576) then K ((.t [(.a [(.l .deep bytesR d.1), (.l .deep bytesR d.2.1), (.l .deep commitR d.2.2.1), (.s (.int .i64 (if (IntKind.wrap .i64 (d.2.2.2.1 + n)) < (1000 : Int) then (IntKind.wrap .i64 (d.2.2.2.1 + n)) else (1000 : Int)))), (.l .deep memberR d.2.2.2.2.1), (.l .deep leaseR (expireD d.2.2.2.2.2 (if (IntKind.wrap .i64 (d.2.2.2.1 + n)) < (1000 : Int) then (IntKind.wrap .i64 (d.2.2.2.1 + n)) else (1000 : Int))))]), (.s (.bool true))]), []) else none) else none)))) else none)
theorem e_s_DocTick (d : T_Doc) (n : Int) (K : Ret → Option Ret) : evF E_s_DocTick true F.s_DocTick [.a (docR.cells .no d), .s (.int .i64 n)] K = T_s_DocTick d n K := by kernel_rfl
def S_s_DocTick : Sm := S_fnR [.a docR, .i] (fun d => fitR docR d.1) (fun d => (.t [.a (docR.cells .deep (docTickD d.1 d.2.1).1), .s (.bool (docTickD d.1 d.2.1).2)], []))
theorem v_s_DocTick (d : T_Doc) (n : Int) (h : (fitR docR d) = true) (K : Ret → Option Ret) : T_s_DocTick d n K = K (.t [.a (docR.cells .deep (docTickD d n).1), .s (.bool (docTickD d n).2)], []) := by
  obtain ⟨_, _, _, _, h5⟩ := fit_doc h
  unfold T_s_DocTick docTickD
  rw [h, Nat.ble_eq_true_of_le (fitC_len h5)]
  cases hk : docOkD d with
  | false => rfl
  | true =>
    have hc := docOk_clock hk
    by_cases h1 : 1 ≤ n
    case neg => rw [decide_eq_false h1, decide_eq_true (show n < 1 by omega)]; rfl
    by_cases h2 : n ≤ 1000
    case neg => rw [decide_eq_false h2, decide_eq_true (show n > 1000 by omega), decide_eq_false (show ¬ n < 1 by omega), Bool.and_false]; rfl
    rw [decide_eq_true h1, decide_eq_true h2, decide_eq_false (show ¬ n < 1 by omega), decide_eq_false (show ¬ n > 1000 by omega), wrap_in (n := d.2.2.2.1 + n) (by omega) (by omega)]
    unfold expireD
    rw [docOk_leases hk]
    rfl
theorem okS_s_DocTick : OkFn prog I N.s_DocTick true S_s_DocTick := okN (ok_fn (memc okS_s_DocOk (memc okS_s_l10Copy (memc okS_s_LeaseExpire mem0))) (l := ls_s_DocTick) (p := []) (ls := []) (lend := []) (focus := false) (fuel := 0) (give := []) (fn := F.s_DocTick) (by kernel_rfl) (by kernel_rfl) (by kernel_rfl) (by kernel_rfl) (cs := []) (by kernel_rfl) loops0) (S_fnR_of fun d K h => (e_s_DocTick d.1 d.2.1 K).trans (v_s_DocTick d.1 d.2.1 h K))
end Go.Ev.Seat
end
section
/- utf8_word_bytes: its contract. -/
namespace Go.Ev.Seat
open Go.RowKit
set_option maxRecDepth 100000
set_option linter.unusedVariables false
set_option linter.unusedSimpArgs false
def w8 (p : List Int) : Int := bor .u64 (bor .u64 (bor .u64 (bor .u64 (bor .u64 (bor .u64 (bor .u64 (IntKind.wrap .u64 (p.getD 0 0)) (shlI .u64 (IntKind.wrap .u64 (p.getD 1 0)) 8)) (shlI .u64 (IntKind.wrap .u64 (p.getD 2 0)) 16)) (shlI .u64 (IntKind.wrap .u64 (p.getD 3 0)) 24)) (shlI .u64 (IntKind.wrap .u64 (p.getD 4 0)) 32)) (shlI .u64 (IntKind.wrap .u64 (p.getD 5 0)) 40)) (shlI .u64 (IntKind.wrap .u64 (p.getD 6 0)) 48)) (shlI .u64 (IntKind.wrap .u64 (p.getD 7 0)) 56)
noncomputable abbrev E_utf8_word_bytes : Env := En [] [(1, takes [0, 1, 2, 3, 4, 5, 6, 7, 8, 9, 10, 11, 12, 13, 14, 15, 16, 17, 18, 19, 20, 21, 22], []), (2, takes [0, 1, 2, 3, 4, 5, 6, 7, 8, 9, 10, 11, 12, 13, 14, 15, 16, 17, 18, 19, 20, 21, 22, 23, 24, 25, 26, 27, 28, 29, 30, 31, 32, 33, 34, 35, 36, 37, 38, 39, 40, 41, 42, 43, 44, 45, 46], [])] [] [] false 0 []
noncomputable def T_utf8_word_bytes (p : List Int) (K : Ret → Option Ret) : Option Ret := (bif (decide ((0 : Int) < (((List.length p) : Nat) : Int))) then (bif (decide ((1 : Int) < (((List.length p) : Nat) : Int))) then (bif (decide ((2 : Int) < (((List.length p) : Nat) : Int))) then (bif (decide ((3 : Int) < (((List.length p) : Nat) : Int))) then (bif (decide ((4 : Int) < (((List.length p) : Nat) : Int))) then (bif (decide ((5 : Int) < (((List.length p) : Nat) : Int))) then (bif (decide ((6 : Int) < (((List.length p) : Nat) : Int))) then (bif (decide ((7 : Int) < (((List.length p) : Nat) : Int))) then K ((.s (.int .u64 (bor .u64 (bor .u64 (bor .u64 (bor .u64 (bor .u64 (bor .u64 (bor .u64 (IntKind.wrap .u64 (List.getD p 0 (0 : Int))) (shlI .u64 (IntKind.wrap .u64 (List.getD p 1 (0 : Int))) (8 : Int))) (shlI .u64 (IntKind.wrap .u64 (List.getD p 2 (0 : Int))) (16 : Int))) (shlI .u64 (IntKind.wrap .u64 (List.getD p 3 (0 : Int))) (24 : Int))) (shlI .u64 (IntKind.wrap .u64 (List.getD p 4 (0 : Int))) (32 : Int))) (shlI .u64 (IntKind.wrap .u64 (List.getD p 5 (0 : Int))) (40 : Int))) (shlI .u64 (IntKind.wrap .u64 (List.getD p 6 (0 : Int))) (48 : Int))) (shlI .u64 (IntKind.wrap .u64 (List.getD p 7 (0 : Int))) (56 : Int))))), []) else none) else none) else none) else none) else none) else none) else none) else none)
theorem e_utf8_word_bytes (p : List Int) (K : Ret → Option Ret) : evF E_utf8_word_bytes true F.utf8_word_bytes [.l .no bytesR p] K = T_utf8_word_bytes p K := by kernel_rfl
def S_utf8_word_bytes : Sm := S_fnR [.l bytesR] (fun d => Nat.ble 8 d.1.length) (fun d => (.s (.int .u64 (w8 d.1)), []))
theorem v_utf8_word_bytes (p : List Int) (h : (Nat.ble 8 p.length) = true) (K : Ret → Option Ret) : T_utf8_word_bytes p K = K (.s (.int .u64 (w8 p)), []) := by
  have h' := Nat.le_of_ble_eq_true h
  unfold T_utf8_word_bytes
  simp (disch := omega) only [decide_eq_true, Bool.true_and, cond_true]
  rfl
theorem okS_utf8_word_bytes : OkFn prog I N.utf8_word_bytes true S_utf8_word_bytes := okN (ok_fn mem0 (l := []) (p := [(1, takes [0, 1, 2, 3, 4, 5, 6, 7, 8, 9, 10, 11, 12, 13, 14, 15, 16, 17, 18, 19, 20, 21, 22], []), (2, takes [0, 1, 2, 3, 4, 5, 6, 7, 8, 9, 10, 11, 12, 13, 14, 15, 16, 17, 18, 19, 20, 21, 22, 23, 24, 25, 26, 27, 28, 29, 30, 31, 32, 33, 34, 35, 36, 37, 38, 39, 40, 41, 42, 43, 44, 45, 46], [])]) (ls := []) (lend := []) (focus := false) (fuel := 0) (give := []) (fn := F.utf8_word_bytes) (by kernel_rfl) (by kernel_rfl) (by kernel_rfl) (by kernel_rfl) (cs := []) (by kernel_rfl) loops0) (S_fnR_of fun d K h => (e_utf8_word_bytes d.1 K).trans (v_utf8_word_bytes d.1 h K))
end Go.Ev.Seat
end
