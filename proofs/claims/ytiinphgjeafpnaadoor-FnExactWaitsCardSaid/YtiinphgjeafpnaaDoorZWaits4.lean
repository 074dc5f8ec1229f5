/- Waits: parts Fsl01Rune FsRuneSize Fsl01Cuts FsTextOk FsReplyOk Fsl09At Fsl09Is FsReqOk Fsl09Two FsReqBytes EvFit FsReqParse Fsl12Same Fsl12Frame, packed by squash.py. -/
import Derived.Test.YtiinphgjeafpnaaDoorZWaits0
import Derived.Test.YtiinphgjeafpnaaDoorZWaits1
import Derived.Test.YtiinphgjeafpnaaDoorZWaits2
import Derived.Test.YtiinphgjeafpnaaDoorZWaits3
set_option linter.unusedVariables false
set_option linter.unusedSimpArgs false
section
/- s_l01Rune: its contract. -/
namespace Go.Ev.Seat
open Go.RowKit
set_option maxRecDepth 100000
set_option linter.unusedVariables false
set_option linter.unusedSimpArgs false
def z_s_l01Rune_18_0 (x0 : List Int) (x1 : Int) (x7 : Int) (x8 : Int) : St := { tm := ([(.l .no bytesR x0), (.s (.int .i64 x1)), .x, .x, .x, .x, .x, (.s (.int .i64 x7)), (.s (.int .i64 x8))] ++ List.replicate 65 .x), ob := [], nx := 0, io := [] }
def sh_s_l01Rune_18_0 : Ss := { tm := (.cons (.l .no bytesR) (.cons (.int .i64) (.cons (.x) (.cons (.x) (.cons (.x) (.cons (.x) (.cons (.x) (.cons (.int .i64) (.cons (.int .i64) (.cons (.int .i64) (xsh 64))))))))))), ob := .nil, nx := 0, io := .nil }
def d_s_l01Rune_18_0 (x0 : List Int) (x1 : Int) (x7 : Int) (x8 : Int) (x9 : Int) : sh_s_l01Rune_18_0.T := ((x0, (x1, ((), ((), ((), ((), ((), (x7, (x8, (x9, xd 64)))))))))), (), ())
def s_s_l01Rune_18_0 (x0 : List Int) (x1 : Int) (x7 : Int) (x8 : Int) (x9 : Int) : St := { tm := ([(.l .no bytesR x0), (.s (.int .i64 x1)), .x, .x, .x, .x, .x, (.s (.int .i64 x7)), (.s (.int .i64 x8)), (.s (.int .i64 x9))] ++ List.replicate 64 .x), ob := [], nx := 0, io := [] }
theorem se_s_l01Rune_18_0 (x0 : List Int) (x1 : Int) (x7 : Int) (x8 : Int) (x9 : Int) : sh_s_l01Rune_18_0.mk' (d_s_l01Rune_18_0 x0 x1 x7 x8 x9) = (s_s_l01Rune_18_0 x0 x1 x7 x8 x9) := by kernel_rfl
def w_s_l01Rune_18_0 (d : sh_s_l01Rune_18_0.T) (f : (List Int) → Int → Int → Int → Int → Option Ret) : Option Ret := match d with | ((x0, (x1, (_, (_, (_, (_, (_, (x7, (x8, (x9, _)))))))))), _, _) => f x0 x1 x7 x8 x9
noncomputable def P_s_l01Rune_18_0 (x0 : List Int) (x1 : Int) (x7 : Int) (x8 : Int) (x9 : Int) (nx0 : (List Int) → Int → Int → Int → Int → Option Ret) (k0 : (List Int) → Int → Int → Int → Option Ret) : Option Ret :=
 (bif (decide (x9 < x7)) then
 (bif ((decide ((0 : Int) ≤ (IntKind.wrap .i64 (x1 + x9)))) && (decide ((IntKind.wrap .i64 (x1 + x9)) < (((List.length x0) : Nat) : Int)))) then
  (nx0 x0 x1 x7 (IntKind.wrap .i64 ((IntKind.wrap .i64 ((IntKind.wrap .i64 ((64 : Int) * x8)) + (IntKind.wrap .i64 (List.getD x0 (Int.toNat (IntKind.wrap .i64 (x1 + x9))) (0 : Int))))) - (128 : Int))) (IntKind.wrap .i64 (x9 + (1 : Int))))
  else none)
 else (k0 x0 x1 x7 x8))
noncomputable def Q_s_l01Rune_18_0 : Nat → (List Int) → Int → Int → Int → Int → ((List Int) → Int → Int → Int → Option Ret) → Option Ret
  | 0, _, _, _, _, _, _ => none
  | m + 1, x0, x1, x7, x8, x9, k0 => P_s_l01Rune_18_0 x0 x1 x7 x8 x9 (fun x0 x1 x7 x8 x9 => (Q_s_l01Rune_18_0 m x0 x1 x7 x8 x9 k0)) k0
noncomputable def R_s_l01Rune_18_0 (x0 : List Int) (x1 : Int) (x7 : Int) (x8 : Int) (x9 : Int) (k0 : (List Int) → Int → Int → Int → Option Ret) : Option Ret := Q_s_l01Rune_18_0 (List.length x0 + x1.toNat + x7.toNat + x8.toNat + x9.toNat + 2) x0 x1 x7 x8 x9 k0
noncomputable def W_s_l01Rune_18 : LoopFn := (fun (σ : St) (K : Ex → St → Option Ret) => (match sh_s_l01Rune_18_0.un σ with | some d => w_s_l01Rune_18_0 d (fun x0 x1 x7 x8 x9 => R_s_l01Rune_18_0 x0 x1 x7 x8 x9 (fun x0 x1 x7 x8 => (K (.ext 1) (z_s_l01Rune_18_0 x0 x1 x7 x8)))) | none => none))
noncomputable abbrev E_s_l01Rune : Env := En [(N.s_RuneBytes, true, S_s_RuneBytes)] [(21, takeB [0, 3, 4, 5, 6, 7, 8] (.fork (.more 1 (.fork (.more 2 (.fork (.one 9 (takes [10]))) (.one 9 (.fork (.one 2 (takes [10])))))) (.one 9 (.fork (.one 1 (.fork (.one 2 (takes [10])))))))), [])] [(18, [0,1,7,8,9], [0,1,4,5,7,8], W_s_l01Rune_18)] [] false 0 []
theorem st_s_l01Rune_18_0 (m : Nat) (x0 : List Int) (x1 : Int) (x7 : Int) (x8 : Int) (x9 : Int) (K : Ex → St → Option Ret) : rounds (run E_s_l01Rune (bodyOf F.s_l01Rune 18)) [0,1,7,8,9] [0,1,4,5,7,8] (m + 1) (s_s_l01Rune_18_0 x0 x1 x7 x8 x9) K = P_s_l01Rune_18_0 x0 x1 x7 x8 x9 (fun x0 x1 x7 x8 x9 => (rounds (run E_s_l01Rune (bodyOf F.s_l01Rune 18)) [0,1,7,8,9] [0,1,4,5,7,8] m (s_s_l01Rune_18_0 x0 x1 x7 x8 x9) K)) (fun x0 x1 x7 x8 => (K (.ext 1) (z_s_l01Rune_18_0 x0 x1 x7 x8))) := by kernel_rfl
theorem q_s_l01Rune_18 (K : Ex → St → Option Ret) : ∀ m : Nat, (∀ (x0 : List Int) (x1 : Int) (x7 : Int) (x8 : Int) (x9 : Int), rounds (run E_s_l01Rune (bodyOf F.s_l01Rune 18)) [0,1,7,8,9] [0,1,4,5,7,8] m (s_s_l01Rune_18_0 x0 x1 x7 x8 x9) K = Q_s_l01Rune_18_0 m x0 x1 x7 x8 x9 (fun x0 x1 x7 x8 => (K (.ext 1) (z_s_l01Rune_18_0 x0 x1 x7 x8))))
  | 0 => (fun _ _ _ _ _ => rfl)
  | m + 1 => (fun x0 x1 x7 x8 x9 => (by rw [st_s_l01Rune_18_0, show (fun x0 x1 x7 x8 x9 => (rounds (run E_s_l01Rune (bodyOf F.s_l01Rune 18)) [0,1,7,8,9] [0,1,4,5,7,8] m (s_s_l01Rune_18_0 x0 x1 x7 x8 x9) K)) = (fun x0 x1 x7 x8 x9 => (Q_s_l01Rune_18_0 m x0 x1 x7 x8 x9 (fun x0 x1 x7 x8 => (K (.ext 1) (z_s_l01Rune_18_0 x0 x1 x7 x8))))) from funext fun x0 => funext fun x1 => funext fun x7 => funext fun x8 => funext fun x9 => (q_s_l01Rune_18 K m) x0 x1 x7 x8 x9]; rfl))
theorem loopK_s_l01Rune_18 : LoopOk E_s_l01Rune (bodyOf F.s_l01Rune 18) := by
  refine loopW_ok (n := 18) (F := W_s_l01Rune_18) (by kernel_rfl) rfl (li := [0,1,7,8,9]) (lo := [0,1,4,5,7,8]) rfl (fun σ K r hr => ?_)
  unfold W_s_l01Rune_18 at hr
  split at hr
  · rename_i d hd
    rw [Ss.un_mk hd]
    exact ⟨_, ((congrArg (fun z => rounds (run E_s_l01Rune (bodyOf F.s_l01Rune 18)) [0,1,7,8,9] [0,1,4,5,7,8] _ z K) (se_s_l01Rune_18_0 _ _ _ _ _)).trans ((q_s_l01Rune_18 K _) _ _ _ _ _)).trans hr⟩
  · cases hr
noncomputable def T_s_l01Rune (d : List Int) (k : Int) (K : Ret → Option Ret) : Option Ret :=
 (bif (decide (k < (0 : Int))) then
 K ((.t [(.s (.int .i64 (-(1 : Int)))), (.s (.int .i64 (0 : Int)))]), [])
 else (bif (decide (k ≥ (((List.length d) : Nat) : Int))) then
  K ((.t [(.s (.int .i64 (-(1 : Int)))), (.s (.int .i64 (0 : Int)))]), [])
  else (bif ((decide ((0 : Int) ≤ k)) && (decide (k < (((List.length d) : Nat) : Int)))) then
   (bif (decide ((IntKind.wrap .i64 (List.getD d (Int.toNat k) (0 : Int))) ≥ (240 : Int))) then
    (bif (decide ((4 : Int) > (IntKind.wrap .i64 ((((List.length d) : Nat) : Int) - k)))) then
     K ((.t [(.s (.int .i64 (-(1 : Int)))), (.s (.int .i64 (0 : Int)))]), [])
     else (R_s_l01Rune_18_0 d k (4 : Int) (IntKind.wrap .i64 ((IntKind.wrap .i64 (List.getD d (Int.toNat k) (0 : Int))) - (240 : Int))) (1 : Int) (fun y0 y1 y2 y3 =>
      (bif (((decide ((0 : Int) ≤ y1)) && (decide (y1 ≤ (IntKind.wrap .i64 (y1 + y2))))) && (decide ((IntKind.wrap .i64 (y1 + y2)) ≤ (((List.length y0) : Nat) : Int)))) then
       (meet
        ((meet
         ((bif (!((ByteArray.toList (bstr (encD y3))) == (ByteArray.toList (bstr (List.drop (Int.toNat y1) (List.take (Int.toNat (IntKind.wrap .i64 (y1 + y2))) y0)))))) then
          K ((.t [(.s (.int .i64 (-(1 : Int)))), (.s (.int .i64 (0 : Int)))]), [])
          else K ((.t [(.s (.int .i64 y3)), (.s (.int .i64 y2))]), [])))
         ((bif (!((ByteArray.toList (bstr (encD y3))) == (ByteArray.toList (bstr (List.drop (Int.toNat y1) (List.take (Int.toNat (IntKind.wrap .i64 (y1 + y2))) y0)))))) then
          K ((.t [(.s (.int .i64 (-(1 : Int)))), (.s (.int .i64 (0 : Int)))]), [])
          else K ((.t [(.s (.int .i64 y3)), (.s (.int .i64 y2))]), [])))))
        ((bif (!((ByteArray.toList (bstr (encD y3))) == (ByteArray.toList (bstr (List.drop (Int.toNat y1) (List.take (Int.toNat (IntKind.wrap .i64 (y1 + y2))) y0)))))) then
         K ((.t [(.s (.int .i64 (-(1 : Int)))), (.s (.int .i64 (0 : Int)))]), [])
         else K ((.t [(.s (.int .i64 y3)), (.s (.int .i64 y2))]), []))))
       else none))))
    else (bif (decide ((IntKind.wrap .i64 (List.getD d (Int.toNat k) (0 : Int))) ≥ (224 : Int))) then
     (bif (decide ((3 : Int) > (IntKind.wrap .i64 ((((List.length d) : Nat) : Int) - k)))) then
      K ((.t [(.s (.int .i64 (-(1 : Int)))), (.s (.int .i64 (0 : Int)))]), [])
      else (R_s_l01Rune_18_0 d k (3 : Int) (IntKind.wrap .i64 ((IntKind.wrap .i64 (List.getD d (Int.toNat k) (0 : Int))) - (224 : Int))) (1 : Int) (fun y4 y5 y6 y7 =>
       (bif (((decide ((0 : Int) ≤ y5)) && (decide (y5 ≤ (IntKind.wrap .i64 (y5 + y6))))) && (decide ((IntKind.wrap .i64 (y5 + y6)) ≤ (((List.length y4) : Nat) : Int)))) then
        (meet
         ((meet
          ((bif (!((ByteArray.toList (bstr (encD y7))) == (ByteArray.toList (bstr (List.drop (Int.toNat y5) (List.take (Int.toNat (IntKind.wrap .i64 (y5 + y6))) y4)))))) then
           K ((.t [(.s (.int .i64 (-(1 : Int)))), (.s (.int .i64 (0 : Int)))]), [])
           else K ((.t [(.s (.int .i64 y7)), (.s (.int .i64 y6))]), [])))
          ((bif (!((ByteArray.toList (bstr (encD y7))) == (ByteArray.toList (bstr (List.drop (Int.toNat y5) (List.take (Int.toNat (IntKind.wrap .i64 (y5 + y6))) y4)))))) then
           K ((.t [(.s (.int .i64 (-(1 : Int)))), (.s (.int .i64 (0 : Int)))]), [])
           else K ((.t [(.s (.int .i64 y7)), (.s (.int .i64 y6))]), [])))))
         ((bif (!((ByteArray.toList (bstr (encD y7))) == (ByteArray.toList (bstr (List.drop (Int.toNat y5) (List.take (Int.toNat (IntKind.wrap .i64 (y5 + y6))) y4)))))) then
          K ((.t [(.s (.int .i64 (-(1 : Int)))), (.s (.int .i64 (0 : Int)))]), [])
          else K ((.t [(.s (.int .i64 y7)), (.s (.int .i64 y6))]), []))))
        else none))))
     else (bif (decide ((IntKind.wrap .i64 (List.getD d (Int.toNat k) (0 : Int))) ≥ (192 : Int))) then
      (bif (decide ((2 : Int) > (IntKind.wrap .i64 ((((List.length d) : Nat) : Int) - k)))) then
       K ((.t [(.s (.int .i64 (-(1 : Int)))), (.s (.int .i64 (0 : Int)))]), [])
       else (R_s_l01Rune_18_0 d k (2 : Int) (IntKind.wrap .i64 ((IntKind.wrap .i64 (List.getD d (Int.toNat k) (0 : Int))) - (192 : Int))) (1 : Int) (fun y8 y9 y10 y11 =>
        (bif (((decide ((0 : Int) ≤ y9)) && (decide (y9 ≤ (IntKind.wrap .i64 (y9 + y10))))) && (decide ((IntKind.wrap .i64 (y9 + y10)) ≤ (((List.length y8) : Nat) : Int)))) then
         (meet
          ((meet
           ((bif (!((ByteArray.toList (bstr (encD y11))) == (ByteArray.toList (bstr (List.drop (Int.toNat y9) (List.take (Int.toNat (IntKind.wrap .i64 (y9 + y10))) y8)))))) then
            K ((.t [(.s (.int .i64 (-(1 : Int)))), (.s (.int .i64 (0 : Int)))]), [])
            else K ((.t [(.s (.int .i64 y11)), (.s (.int .i64 y10))]), [])))
           ((bif (!((ByteArray.toList (bstr (encD y11))) == (ByteArray.toList (bstr (List.drop (Int.toNat y9) (List.take (Int.toNat (IntKind.wrap .i64 (y9 + y10))) y8)))))) then
            K ((.t [(.s (.int .i64 (-(1 : Int)))), (.s (.int .i64 (0 : Int)))]), [])
            else K ((.t [(.s (.int .i64 y11)), (.s (.int .i64 y10))]), [])))))
          ((bif (!((ByteArray.toList (bstr (encD y11))) == (ByteArray.toList (bstr (List.drop (Int.toNat y9) (List.take (Int.toNat (IntKind.wrap .i64 (y9 + y10))) y8)))))) then
           K ((.t [(.s (.int .i64 (-(1 : Int)))), (.s (.int .i64 (0 : Int)))]), [])
           else K ((.t [(.s (.int .i64 y11)), (.s (.int .i64 y10))]), []))))
         else none))))
      else (bif (decide ((1 : Int) > (IntKind.wrap .i64 ((((List.length d) : Nat) : Int) - k)))) then
       K ((.t [(.s (.int .i64 (-(1 : Int)))), (.s (.int .i64 (0 : Int)))]), [])
       else (R_s_l01Rune_18_0 d k (1 : Int) (IntKind.wrap .i64 (List.getD d (Int.toNat k) (0 : Int))) (1 : Int) (fun y12 y13 y14 y15 =>
        (bif (((decide ((0 : Int) ≤ y13)) && (decide (y13 ≤ (IntKind.wrap .i64 (y13 + y14))))) && (decide ((IntKind.wrap .i64 (y13 + y14)) ≤ (((List.length y12) : Nat) : Int)))) then
         (meet
          ((meet
           ((bif (!((ByteArray.toList (bstr (encD y15))) == (ByteArray.toList (bstr (List.drop (Int.toNat y13) (List.take (Int.toNat (IntKind.wrap .i64 (y13 + y14))) y12)))))) then
            K ((.t [(.s (.int .i64 (-(1 : Int)))), (.s (.int .i64 (0 : Int)))]), [])
            else K ((.t [(.s (.int .i64 y15)), (.s (.int .i64 y14))]), [])))
           ((bif (!((ByteArray.toList (bstr (encD y15))) == (ByteArray.toList (bstr (List.drop (Int.toNat y13) (List.take (Int.toNat (IntKind.wrap .i64 (y13 + y14))) y12)))))) then
            K ((.t [(.s (.int .i64 (-(1 : Int)))), (.s (.int .i64 (0 : Int)))]), [])
            else K ((.t [(.s (.int .i64 y15)), (.s (.int .i64 y14))]), [])))))
          ((bif (!((ByteArray.toList (bstr (encD y15))) == (ByteArray.toList (bstr (List.drop (Int.toNat y13) (List.take (Int.toNat (IntKind.wrap .i64 (y13 + y14))) y12)))))) then
           K ((.t [(.s (.int .i64 (-(1 : Int)))), (.s (.int .i64 (0 : Int)))]), [])
           else K ((.t [(.s (.int .i64 y15)), (.s (.int .i64 y14))]), []))))
         else none)))))))
   else none)))
theorem e_s_l01Rune (d : List Int) (k : Int) (K : Ret → Option Ret) : evF E_s_l01Rune true F.s_l01Rune [.l .no bytesR d, .s (.int .i64 k)] K = T_s_l01Rune d k K := by kernel_rfl
theorem rune_step {m : Nat} {d : List Int} {k n r i : Int} {k0 : List Int → Int → Int → Int → Option Ret} (hd : fitB d = true) (h0 : 0 ≤ k) (hi : 0 < i) (hn : i < n) (hl : k + i < ((d.length : Nat) : Int)) (hr : -1000000000 ≤ r ∧ r ≤ 1000000000) :
    Q_s_l01Rune_18_0 (m + 1) d k n r i k0 = Q_s_l01Rune_18_0 m d k n (64 * r + d.getD (k + i).toNat 0 - 128) (i + 1) k0 := by
  have hb := fitB_get hd (k + i).toNat
  have hlen := fitB_len hd
  show P_s_l01Rune_18_0 d k n r i _ k0 = _
  unfold P_s_l01Rune_18_0
  rw [decide_eq_true hn, wrap_in (n := k + i) (by omega) (by omega), decide_eq_true (show 0 ≤ k + i by omega), decide_eq_true hl, wrap_in (n := d.getD (k + i).toNat 0) (by omega) (by omega), wrap_in (n := 64 * r) (by omega) (by omega), wrap_in (n := 64 * r + d.getD (k + i).toNat 0) (by omega) (by omega), wrap_in (n := 64 * r + d.getD (k + i).toNat 0 - 128) (by omega) (by omega), wrap_in (n := i + 1) (by omega) (by omega)]
  rfl
theorem rune_end {m : Nat} {d : List Int} {k n r i : Int} {k0 : List Int → Int → Int → Int → Option Ret} (hn : ¬ i < n) : Q_s_l01Rune_18_0 (m + 1) d k n r i k0 = k0 d k n r := by
  show P_s_l01Rune_18_0 d k n r i _ k0 = _
  unfold P_s_l01Rune_18_0
  rw [decide_eq_false hn]; rfl
theorem rune_fin {K : Ret → Option Ret} {c : Prop} [Decidable c] {r n v s : Int} (h : (if c then (r, n) else (-1, 0)) = (v, s)) :
    (bif !(decide c) then K ((.t [(.s (.int .i64 (-(1 : Int)))), (.s (.int .i64 (0 : Int)))]), []) else K ((.t [(.s (.int .i64 r)), (.s (.int .i64 n))]), [])) = K (.t [sc v, sc s], []) := by
  by_cases hc : c
  · rw [if_pos hc] at h
    obtain ⟨rfl, rfl⟩ := Prod.mk.inj h
    rw [decide_eq_true hc]; rfl
  · rw [if_neg hc] at h
    obtain ⟨h1, h2⟩ := Prod.mk.inj h
    rw [decide_eq_false hc, ← h1, ← h2]; rfl
theorem rune_part (d : List Int) (k n : Nat) : List.drop k (List.take (k + n) d) = (d.drop k).take n := by
  rw [List.drop_take]; congr 1; omega
theorem rune_k {K : Ret → Option Ret} {d xs : List Int} {k r n v s : Int} (hd : fitB d = true) (h0 : 0 ≤ k) (hn0 : 0 ≤ n) (hn : n ≤ 4) (hl : k + n ≤ ((d.length : Nat) : Int)) (hx : (d.drop k.toNat).take n.toNat = xs) (h : (if encD r = xs then (r, n) else (-1, 0)) = (v, s)) :
    (bif (((decide ((0 : Int) ≤ k)) && (decide (k ≤ (IntKind.wrap .i64 (k + n))))) && (decide ((IntKind.wrap .i64 (k + n)) ≤ (((List.length d) : Nat) : Int)))) then
       (meet
        (meet
         (bif (!((ByteArray.toList (bstr (encD r))) == (ByteArray.toList (bstr (List.drop (Int.toNat k) (List.take (Int.toNat (IntKind.wrap .i64 (k + n))) d)))))) then
          K ((.t [(.s (.int .i64 (-(1 : Int)))), (.s (.int .i64 (0 : Int)))]), [])
          else K ((.t [(.s (.int .i64 r)), (.s (.int .i64 n))]), []))
         (bif (!((ByteArray.toList (bstr (encD r))) == (ByteArray.toList (bstr (List.drop (Int.toNat k) (List.take (Int.toNat (IntKind.wrap .i64 (k + n))) d)))))) then
          K ((.t [(.s (.int .i64 (-(1 : Int)))), (.s (.int .i64 (0 : Int)))]), [])
          else K ((.t [(.s (.int .i64 r)), (.s (.int .i64 n))]), [])))
        (bif (!((ByteArray.toList (bstr (encD r))) == (ByteArray.toList (bstr (List.drop (Int.toNat k) (List.take (Int.toNat (IntKind.wrap .i64 (k + n))) d)))))) then
         K ((.t [(.s (.int .i64 (-(1 : Int)))), (.s (.int .i64 (0 : Int)))]), [])
         else K ((.t [(.s (.int .i64 r)), (.s (.int .i64 n))]), [])))
       else none) = K (.t [sc v, sc s], []) := by
  have hlen := fitB_len hd
  rw [wrap_in (n := k + n) (by omega) (by omega), decide_eq_true h0, decide_eq_true (show k ≤ k + n by omega), decide_eq_true hl]
  rw [meet_self, meet_self]
  have e : List.drop (Int.toNat k) (List.take (Int.toNat (k + n)) d) = xs := by
    rw [← hx, show (k + n).toNat = k.toNat + n.toNat by omega]; exact rune_part d _ _
  rw [e, bstr_eq (encD_byte r) (fun y hy => by
    rw [← hx] at hy
    exact fitB_mem hd (List.mem_of_mem_drop (List.mem_of_mem_take hy)))]
  exact rune_fin h
theorem list1 {xs : List Int} (h : 1 ≤ xs.length) : ∃ a t, xs = a :: t := by
  cases xs with
  | nil => simp at h
  | cons a t => exact ⟨a, t, rfl⟩
def S_s_l01Rune : Sm := S_fnR [.l bytesR, .i] (fun d => fitB d.1) (fun d => (.t [sc (valAt d.1 d.2.1), sc (szAt d.1 d.2.1)], []))
theorem v_s_l01Rune (d : List Int) (k : Int) (h : (fitB d) = true) (K : Ret → Option Ret) : T_s_l01Rune d k K = K (.t [sc (valAt d k), sc (szAt d k)], []) := by
  unfold T_s_l01Rune valAt szAt inD
  have hlen := fitB_len h
  by_cases h1 : k < 0
  · rw [decide_eq_true h1, decide_eq_false (show ¬ 0 ≤ k by omega)]; rfl
  by_cases h2 : k ≥ ((d.length : Nat) : Int)
  · rw [decide_eq_false h1, decide_eq_true h2, decide_eq_true (show 0 ≤ k by omega), decide_eq_false (show ¬ k < ((d.length : Nat) : Int) by omega)]; rfl
  have hbk := fitB_get h k.toNat
  rw [decide_eq_false h1, decide_eq_false h2, decide_eq_true (show 0 ≤ k by omega), decide_eq_true (show k < ((d.length : Nat) : Int) by omega), wrap_in (n := d.getD k.toNat 0) (by omega) (by omega), wrap_in (n := ((d.length : Nat) : Int) - k) (by omega) (by omega)]
  simp only [Bool.and_true, cond_true, cond_false]
  have hg : ∀ i : Nat, (d.drop k.toNat).getD i 0 = d.getD (k + (i : Nat)).toNat 0 := fun i => by
    rw [getD_drop]; congr 1; omega
  have hg0 := hg 0
  rw [show (k + ((0 : Nat) : Int)).toNat = k.toNat by omega] at hg0
  have hdl : (d.drop k.toNat).length = d.length - k.toNat := by simp
  have hbytes := fun i => fitB_get (fitB_drop h k.toNat) i
  by_cases c4 : d.getD k.toNat 0 ≥ 240
  · rw [decide_eq_true c4]
    by_cases s4 : (4 : Int) > ((d.length : Nat) : Int) - k
    · rw [decide_eq_true s4]
      have e := runeSz0 (short4 (xs := d.drop k.toNat) (by rw [hg0]; exact c4) (by omega))
      obtain ⟨e1, e2⟩ := Prod.mk.inj e
      rw [e1, e2]; rfl
    · rw [decide_eq_false s4]
      unfold R_s_l01Rune_18_0
      rw [wrap_in (n := d.getD k.toNat 0 - 240) (by omega) (by omega)]
      obtain ⟨m, hm⟩ : ∃ m, List.length d + k.toNat + (4 : Int).toNat + (d.getD k.toNat 0 - 240).toNat + (1 : Int).toNat + 2 = m + 4 := ⟨List.length d + k.toNat + (4 : Int).toNat + (d.getD k.toNat 0 - 240).toNat + (1 : Int).toNat + 2 - 4, by omega⟩
      have b1 := fitB_get h (k + 1).toNat
      have b2 := fitB_get h (k + (1 + 1)).toNat
      rw [hm, rune_step h (by omega) (by omega) (by omega) (by omega) (by omega), rune_step h (by omega) (by omega) (by omega) (by omega) (by omega), rune_step h (by omega) (by omega) (by omega) (by omega) (by omega), rune_end (by omega)]
      refine rune_k h (by omega) (by omega) (by omega) (by omega) (xs := [(d.drop k.toNat).getD 0 0, (d.drop k.toNat).getD 1 0, (d.drop k.toNat).getD 2 0, (d.drop k.toNat).getD 3 0]) ?_ ?_
      · obtain ⟨a, t, e⟩ := list1 (xs := d.drop k.toNat) (by omega)
        obtain ⟨b, t2, e2⟩ := list1 (xs := t) (by rw [e] at hdl; simp at hdl; omega)
        obtain ⟨c, t3, e3⟩ := list1 (xs := t2) (by rw [e, e2] at hdl; simp at hdl; omega)
        obtain ⟨f, t4, e4⟩ := list1 (xs := t3) (by rw [e, e2, e3] at hdl; simp at hdl; omega)
        rw [e, e2, e3, e4]; rfl
      · obtain ⟨a, t, e⟩ := list1 (xs := d.drop k.toNat) (by omega)
        obtain ⟨b, t2, e2⟩ := list1 (xs := t) (by rw [e] at hdl; simp at hdl; omega)
        obtain ⟨c, t3, e3⟩ := list1 (xs := t2) (by rw [e, e2] at hdl; simp at hdl; omega)
        obtain ⟨f, t4, e4⟩ := list1 (xs := t3) (by rw [e, e2, e3] at hdl; simp at hdl; omega)
        have g1 := hg 1
        have g2 := hg 2
        have g3 := hg 3
        have q0 := hbytes 0
        have q1 := hbytes 1
        have q2 := hbytes 2
        have q3 := hbytes 3
        rw [e, e2, e3, e4] at hg0 g1 g2 g3 q0 q1 q2 q3 ⊢
        rw [show (k + 1).toNat = (k + ((1 : Nat) : Int)).toNat from rfl, show (k + (1 + 1)).toNat = (k + ((2 : Nat) : Int)).toNat by congr 1, show (k + (1 + 1 + 1)).toNat = (k + ((3 : Nat) : Int)).toNat by congr 1, ← g1, ← g2, ← g3, ← hg0]
        exact dec4 (by rw [← hg0] at c4; exact c4) q0.2 q1 q2 q3
  rw [decide_eq_false c4]
  by_cases c3 : d.getD k.toNat 0 ≥ 224
  · rw [decide_eq_true c3]
    by_cases s3 : (3 : Int) > ((d.length : Nat) : Int) - k
    · rw [decide_eq_true s3]
      have e := runeSz0 (short3 (xs := d.drop k.toNat) (by rw [hg0]; exact c3) (by rw [hg0]; omega) (by omega))
      obtain ⟨e1, e2⟩ := Prod.mk.inj e
      rw [e1, e2]; rfl
    · rw [decide_eq_false s3]
      unfold R_s_l01Rune_18_0
      rw [wrap_in (n := d.getD k.toNat 0 - 224) (by omega) (by omega)]
      obtain ⟨m, hm⟩ : ∃ m, List.length d + k.toNat + (3 : Int).toNat + (d.getD k.toNat 0 - 224).toNat + (1 : Int).toNat + 2 = m + 3 := ⟨List.length d + k.toNat + (3 : Int).toNat + (d.getD k.toNat 0 - 224).toNat + (1 : Int).toNat + 2 - 3, by omega⟩
      have b1 := fitB_get h (k + 1).toNat
      rw [hm]
      simp only [cond_false, cond_true]
      rw [rune_step h (by omega) (by omega) (by omega) (by omega) (by omega), rune_step h (by omega) (by omega) (by omega) (by omega) (by omega), rune_end (by omega)]
      refine rune_k h (by omega) (by omega) (by omega) (by omega) (xs := [(d.drop k.toNat).getD 0 0, (d.drop k.toNat).getD 1 0, (d.drop k.toNat).getD 2 0]) ?_ ?_
      · obtain ⟨a, t, e⟩ := list1 (xs := d.drop k.toNat) (by omega)
        obtain ⟨b, t2, e2⟩ := list1 (xs := t) (by rw [e] at hdl; simp at hdl; omega)
        obtain ⟨c, t3, e3⟩ := list1 (xs := t2) (by rw [e, e2] at hdl; simp at hdl; omega)
        rw [e, e2, e3]; rfl
      · obtain ⟨a, t, e⟩ := list1 (xs := d.drop k.toNat) (by omega)
        obtain ⟨b, t2, e2⟩ := list1 (xs := t) (by rw [e] at hdl; simp at hdl; omega)
        obtain ⟨c, t3, e3⟩ := list1 (xs := t2) (by rw [e, e2] at hdl; simp at hdl; omega)
        have g1 := hg 1
        have g2 := hg 2
        have q0 := hbytes 0
        have q1 := hbytes 1
        have q2 := hbytes 2
        rw [e, e2, e3] at hg0 g1 g2 q0 q1 q2 ⊢
        rw [show (k + 1).toNat = (k + ((1 : Nat) : Int)).toNat from rfl, show (k + (1 + 1)).toNat = (k + ((2 : Nat) : Int)).toNat by congr 1, ← g1, ← g2, ← hg0]
        exact dec3 (by rw [← hg0] at c3; exact c3) (by rw [← hg0] at c4; exact Int.not_le.1 c4) q1 q2
  rw [decide_eq_false c3]
  by_cases c2 : d.getD k.toNat 0 ≥ 192
  · rw [decide_eq_true c2]
    by_cases s2 : (2 : Int) > ((d.length : Nat) : Int) - k
    · rw [decide_eq_true s2]
      have e := runeSz0 (short2 (xs := d.drop k.toNat) (by rw [hg0]; exact c2) (by rw [hg0]; omega) (by omega))
      obtain ⟨e1, e2⟩ := Prod.mk.inj e
      rw [e1, e2]; rfl
    · rw [decide_eq_false s2]
      unfold R_s_l01Rune_18_0
      rw [wrap_in (n := d.getD k.toNat 0 - 192) (by omega) (by omega)]
      obtain ⟨m, hm⟩ : ∃ m, List.length d + k.toNat + (2 : Int).toNat + (d.getD k.toNat 0 - 192).toNat + (1 : Int).toNat + 2 = m + 2 := ⟨List.length d + k.toNat + (2 : Int).toNat + (d.getD k.toNat 0 - 192).toNat + (1 : Int).toNat + 2 - 2, by omega⟩
      rw [hm]
      simp only [cond_false, cond_true]
      rw [rune_step h (by omega) (by omega) (by omega) (by omega) (by omega), rune_end (by omega)]
      refine rune_k h (by omega) (by omega) (by omega) (by omega) (xs := [(d.drop k.toNat).getD 0 0, (d.drop k.toNat).getD 1 0]) ?_ ?_
      · obtain ⟨a, t, e⟩ := list1 (xs := d.drop k.toNat) (by omega)
        obtain ⟨b, t2, e2⟩ := list1 (xs := t) (by rw [e] at hdl; simp at hdl; omega)
        rw [e, e2]; rfl
      · obtain ⟨a, t, e⟩ := list1 (xs := d.drop k.toNat) (by omega)
        obtain ⟨b, t2, e2⟩ := list1 (xs := t) (by rw [e] at hdl; simp at hdl; omega)
        have g1 := hg 1
        have q0 := hbytes 0
        have q1 := hbytes 1
        rw [e, e2] at hg0 g1 q0 q1 ⊢
        rw [show (k + 1).toNat = (k + ((1 : Nat) : Int)).toNat from rfl, ← g1, ← hg0]
        exact dec2 (by rw [← hg0] at c2; exact c2) (by rw [← hg0] at c3; exact Int.not_le.1 c3) q1
  rw [decide_eq_false c2, decide_eq_false (show ¬ (1 : Int) > ((d.length : Nat) : Int) - k by omega)]
  unfold R_s_l01Rune_18_0
  obtain ⟨m, hm⟩ : ∃ m, List.length d + k.toNat + (1 : Int).toNat + (d.getD k.toNat 0).toNat + (1 : Int).toNat + 2 = m + 1 := ⟨List.length d + k.toNat + (1 : Int).toNat + (d.getD k.toNat 0).toNat + (1 : Int).toNat + 2 - 1, by omega⟩
  rw [hm]
  simp only [cond_false, cond_true]
  rw [rune_end (by omega)]
  refine rune_k h (by omega) (by omega) (by omega) (by omega) (xs := [(d.drop k.toNat).getD 0 0]) ?_ ?_
  · obtain ⟨a, t, e⟩ := list1 (xs := d.drop k.toNat) (by omega)
    rw [e]; rfl
  · obtain ⟨a, t, e⟩ := list1 (xs := d.drop k.toNat) (by omega)
    have q0 := hbytes 0
    rw [e] at hg0 q0 ⊢
    rw [← hg0]
    exact dec1 q0.1 (by rw [← hg0] at c2; exact Int.not_le.1 c2)
theorem okS_s_l01Rune : OkFn prog I N.s_l01Rune true S_s_l01Rune := okN (ok_fn (memc okS_s_RuneBytes mem0) (l := [(N.s_RuneBytes, true, S_s_RuneBytes)]) (p := [(21, takeB [0, 3, 4, 5, 6, 7, 8] (.fork (.more 1 (.fork (.more 2 (.fork (.one 9 (takes [10]))) (.one 9 (.fork (.one 2 (takes [10])))))) (.one 9 (.fork (.one 1 (.fork (.one 2 (takes [10])))))))), [])]) (ls := [(18, [0,1,7,8,9], [0,1,4,5,7,8], W_s_l01Rune_18)]) (lend := []) (focus := false) (fuel := 0) (give := []) (fn := F.s_l01Rune) (by kernel_rfl) (by kernel_rfl) (by kernel_rfl) (by kernel_rfl) (cs := [bodyOf F.s_l01Rune 18]) (by kernel_rfl) (loopsc loopK_s_l01Rune_18 loops0)) (S_fnR_of fun d K h => (e_s_l01Rune d.1 d.2.1 K).trans (v_s_l01Rune d.1 d.2.1 h K))
end Go.Ev.Seat
end
section
/- s_RuneSize: its contract. -/
namespace Go.Ev.Seat
open Go.RowKit
set_option maxRecDepth 100000
set_option linter.unusedVariables false
set_option linter.unusedSimpArgs false
noncomputable abbrev E_s_RuneSize : Env := En [(N.s_l01Rune, true, S_s_l01Rune)] [] [] [] false 0 []
noncomputable def T_s_RuneSize (d : List Int) (k : Int) (K : Ret → Option Ret) : Option Ret :=
 (bif (fitB d) then
 K ((.s (.int .i64 (szAt d k))), [])
 else none)
theorem e_s_RuneSize (d : List Int) (k : Int) (K : Ret → Option Ret) : evF E_s_RuneSize true F.s_RuneSize [.l .no bytesR d, .s (.int .i64 k)] K = T_s_RuneSize d k K := by kernel_rfl
def S_s_RuneSize : Sm := S_fnR [.l bytesR, .i] (fun d => fitB d.1) (fun d => (sc (szAt d.1 d.2.1), []))
theorem v_s_RuneSize (d : List Int) (k : Int) (h : (fitB d) = true) (K : Ret → Option Ret) : T_s_RuneSize d k K = K (sc (szAt d k), []) := by
  unfold T_s_RuneSize; rw [h]; rfl
theorem okS_s_RuneSize : OkFn prog I N.s_RuneSize true S_s_RuneSize := okN (ok_fn (memc okS_s_l01Rune mem0) (l := [(N.s_l01Rune, true, S_s_l01Rune)]) (p := []) (ls := []) (lend := []) (focus := false) (fuel := 0) (give := []) (fn := F.s_RuneSize) (by kernel_rfl) (by kernel_rfl) (by kernel_rfl) (by kernel_rfl) (cs := []) (by kernel_rfl) loops0) (S_fnR_of fun d K h => (e_s_RuneSize d.1 d.2.1 K).trans (v_s_RuneSize d.1 d.2.1 h K))
end Go.Ev.Seat
end
section
/- s_l01Cuts: its contract. -/
namespace Go.Ev.Seat
open Go.RowKit
set_option maxRecDepth 100000
set_option linter.unusedVariables false
set_option linter.unusedSimpArgs false
def z_s_l01Cuts_5_0 (x4 : Int) (o0 : List Int) : St := { tm := ([.x, .x, .nl, (.w 0), (.s (.int .i64 x4))] ++ List.replicate 25 .x), ob := [(0, (.arr true true intR o0))], nx := 1, io := [] }
def z_s_l01Cuts_5_1 (x4 : Int) (o0 : List Int) : St := { tm := ([.x, .x, .x, (.w 0), (.s (.int .i64 x4))] ++ List.replicate 25 .x), ob := [(0, (.arr true true intR o0))], nx := 1, io := [] }
def sh_s_l01Cuts_5_0 : Ss := { tm := (.cons (.l .no bytesR) (.cons (.x) (.cons (.x) (.cons (.w 0) (.cons (.int .i64) (xsh 25)))))), ob := (.arr true true intR .nil), nx := 1, io := .nil }
def d_s_l01Cuts_5_0 (x0 : List Int) (x4 : Int) (o0 : List Int) : sh_s_l01Cuts_5_0.T := ((x0, ((), ((), ((), (x4, xd 25))))), (o0, ()), ())
def s_s_l01Cuts_5_0 (x0 : List Int) (x4 : Int) (o0 : List Int) : St := { tm := ([(.l .no bytesR x0), .x, .x, (.w 0), (.s (.int .i64 x4))] ++ List.replicate 25 .x), ob := [(0, (.arr true true intR o0))], nx := 1, io := [] }
theorem se_s_l01Cuts_5_0 (x0 : List Int) (x4 : Int) (o0 : List Int) : sh_s_l01Cuts_5_0.mk' (d_s_l01Cuts_5_0 x0 x4 o0) = (s_s_l01Cuts_5_0 x0 x4 o0) := by kernel_rfl
def w_s_l01Cuts_5_0 (d : sh_s_l01Cuts_5_0.T) (f : (List Int) → Int → (List Int) → Option Ret) : Option Ret := match d with | ((x0, (_, (_, (_, (x4, _))))), (o0, _), _) => f x0 x4 o0
noncomputable def P_s_l01Cuts_5_0 (x0 : List Int) (x4 : Int) (o0 : List Int) (nx0 : (List Int) → Int → (List Int) → Option Ret) (k0 : Int → (List Int) → Option Ret) (k1 : Int → (List Int) → Option Ret) : Option Ret :=
 (bif (decide (x4 < (((List.length x0) : Nat) : Int))) then
 (bif (fitB x0) then
  (bif ((szAt x0 x4) == (0 : Int)) then
   (k0 x4 o0)
   else (bif (Nat.ble (((List.length o0) + (List.length (x4 :: ([] : List Int)))) * 8) 140737488355328) then
    (nx0 x0 (IntKind.wrap .i64 (x4 + (szAt x0 x4))) (o0 ++ (x4 :: ([] : List Int))))
    else none))
  else none)
 else (k1 x4 o0))
noncomputable def Q_s_l01Cuts_5_0 : Nat → (List Int) → Int → (List Int) → (Int → (List Int) → Option Ret) → (Int → (List Int) → Option Ret) → Option Ret
  | 0, _, _, _, _, _ => none
  | m + 1, x0, x4, o0, k0, k1 => P_s_l01Cuts_5_0 x0 x4 o0 (fun x0 x4 o0 => (Q_s_l01Cuts_5_0 m x0 x4 o0 k0 k1)) k0 k1
noncomputable def R_s_l01Cuts_5_0 (x0 : List Int) (x4 : Int) (o0 : List Int) (k0 : Int → (List Int) → Option Ret) (k1 : Int → (List Int) → Option Ret) : Option Ret := Q_s_l01Cuts_5_0 (List.length x0 + x4.toNat + List.length o0 + 2) x0 x4 o0 k0 k1
noncomputable def W_s_l01Cuts_5 : LoopFn := (fun (σ : St) (K : Ex → St → Option Ret) => (match sh_s_l01Cuts_5_0.un σ with | some d => w_s_l01Cuts_5_0 d (fun x0 x4 o0 => R_s_l01Cuts_5_0 x0 x4 o0 (fun x4 o0 => (K .ret (z_s_l01Cuts_5_0 x4 o0))) (fun x4 o0 => (K (.ext 0) (z_s_l01Cuts_5_1 x4 o0)))) | none => none))
noncomputable abbrev E_s_l01Cuts : Env := En [(N.s_RuneSize, true, S_s_RuneSize)] [] [(5, [0,3,4], [2,3,4], W_s_l01Cuts_5)] [] false 0 []
theorem st_s_l01Cuts_5_0 (m : Nat) (x0 : List Int) (x4 : Int) (o0 : List Int) (K : Ex → St → Option Ret) : rounds (run E_s_l01Cuts (bodyOf F.s_l01Cuts 5)) [0,3,4] [2,3,4] (m + 1) (s_s_l01Cuts_5_0 x0 x4 o0) K = P_s_l01Cuts_5_0 x0 x4 o0 (fun x0 x4 o0 => (rounds (run E_s_l01Cuts (bodyOf F.s_l01Cuts 5)) [0,3,4] [2,3,4] m (s_s_l01Cuts_5_0 x0 x4 o0) K)) (fun x4 o0 => (K .ret (z_s_l01Cuts_5_0 x4 o0))) (fun x4 o0 => (K (.ext 0) (z_s_l01Cuts_5_1 x4 o0))) := by kernel_rfl
theorem q_s_l01Cuts_5 (K : Ex → St → Option Ret) : ∀ m : Nat, (∀ (x0 : List Int) (x4 : Int) (o0 : List Int), rounds (run E_s_l01Cuts (bodyOf F.s_l01Cuts 5)) [0,3,4] [2,3,4] m (s_s_l01Cuts_5_0 x0 x4 o0) K = Q_s_l01Cuts_5_0 m x0 x4 o0 (fun x4 o0 => (K .ret (z_s_l01Cuts_5_0 x4 o0))) (fun x4 o0 => (K (.ext 0) (z_s_l01Cuts_5_1 x4 o0))))
  | 0 => (fun _ _ _ => rfl)
  | m + 1 => (fun x0 x4 o0 => (by rw [st_s_l01Cuts_5_0, show (fun x0 x4 o0 => (rounds (run E_s_l01Cuts (bodyOf F.s_l01Cuts 5)) [0,3,4] [2,3,4] m (s_s_l01Cuts_5_0 x0 x4 o0) K)) = (fun x0 x4 o0 => (Q_s_l01Cuts_5_0 m x0 x4 o0 (fun x4 o0 => (K .ret (z_s_l01Cuts_5_0 x4 o0))) (fun x4 o0 => (K (.ext 0) (z_s_l01Cuts_5_1 x4 o0))))) from funext fun x0 => funext fun x4 => funext fun o0 => (q_s_l01Cuts_5 K m) x0 x4 o0]; rfl))
theorem loopK_s_l01Cuts_5 : LoopOk E_s_l01Cuts (bodyOf F.s_l01Cuts 5) := by
  refine loopW_ok (n := 5) (F := W_s_l01Cuts_5) (by kernel_rfl) rfl (li := [0,3,4]) (lo := [2,3,4]) rfl (fun σ K r hr => ?_)
  unfold W_s_l01Cuts_5 at hr
  split at hr
  · rename_i d hd
    rw [Ss.un_mk hd]
    exact ⟨_, ((congrArg (fun z => rounds (run E_s_l01Cuts (bodyOf F.s_l01Cuts 5)) [0,3,4] [2,3,4] _ z K) (se_s_l01Cuts_5_0 _ _ _)).trans ((q_s_l01Cuts_5 K _) _ _ _)).trans hr⟩
  · cases hr
noncomputable def T_s_l01Cuts (d : List Int) (K : Ret → Option Ret) : Option Ret :=
 (bif (decide ((((List.length d) : Nat) : Int) > (400 : Int))) then
 K ((.l .deep intR ([] : List Int)), [])
 else (R_s_l01Cuts_5_0 d (0 : Int) ([] : List Int) (fun y0 y1 =>
  K ((.l .deep intR ([] : List Int)), [])) (fun y2 y3 =>
  (bif (Nat.ble (((List.length y3) + (List.length (y2 :: ([] : List Int)))) * 8) 140737488355328) then
   K ((.l .deep intR (y3 ++ (y2 :: ([] : List Int)))), [])
   else none))))
theorem e_s_l01Cuts (d : List Int) (K : Ret → Option Ret) : evF E_s_l01Cuts true F.s_l01Cuts [.l .no bytesR d] K = T_s_l01Cuts d K := by kernel_rfl
theorem cuts_loop {d : List Int} (hd : fitB d = true) (F : Option Ret) (k1 : Int → List Int → Option Ret) : ∀ (m n : Nat) (o : List Int), n ≤ d.length → d.length - n < m → o.length ≤ n →
    Q_s_l01Cuts_5_0 m d (n : Int) o (fun _ _ => F) k1 = bif valid (d.drop n) then k1 ((d.length : Nat) : Int) (o ++ starts (d.drop n) (n : Int)) else F
  | 0, n, o, _, h, _ => absurd h (by omega)
  | m + 1, n, o, hn, hm, ho => by
    have hlen := fitB_len hd
    show P_s_l01Cuts_5_0 d (n : Int) o _ _ k1 = _
    unfold P_s_l01Cuts_5_0
    by_cases hl : n < d.length
    · rw [decide_eq_true (show (n : Int) < ((d.length : Nat) : Int) by omega), hd, szAt_in (by omega) (by omega), Int.toNat_natCast]
      simp only [cond_true]
      have hle := runeSz_le (d.drop n)
      rw [List.length_drop] at hle
      by_cases h0 : runeSz (d.drop n) = 0
      · rw [h0, valid_stop h0 (by simp; omega)]; rfl
      · rw [beq_eq_false_iff_ne.2 (show ¬ ((runeSz (d.drop n) : Nat) : Int) = 0 by omega), Nat.ble_eq_true_of_le (show (o.length + [(n : Int)].length) * 8 ≤ 140737488355328 by simp; omega), wrap_in (n := (n : Int) + (runeSz (d.drop n) : Nat)) (by omega) (by omega)]
        have e : (n : Int) + ((runeSz (d.drop n) : Nat) : Int) = ((n + runeSz (d.drop n) : Nat) : Int) := by omega
        simp only [cond_false, cond_true]
        rw [e]
        refine (cuts_loop hd F k1 m (n + runeSz (d.drop n)) (o ++ [(n : Int)]) (by omega) (by omega) (by simp; omega)).trans ?_
        rw [valid_step h0, starts_step h0, List.drop_drop, List.append_assoc, List.singleton_append, e]
    · have : n = d.length := by omega
      subst this
      rw [decide_eq_false (show ¬ ((d.length : Nat) : Int) < ((d.length : Nat) : Int) by omega), List.drop_length, valid_nil, starts_stop (by rfl), List.append_nil]; rfl
def S_s_l01Cuts : Sm := S_fnR [.l bytesR] (fun d => fitB d.1) (fun d => (.l .deep intR (cutsD d.1), []))
theorem v_s_l01Cuts (d : List Int) (h : (fitB d) = true) (K : Ret → Option Ret) : T_s_l01Cuts d K = K (.l .deep intR (cutsD d), []) := by
  unfold T_s_l01Cuts cutsD
  by_cases h4 : ((d.length : Nat) : Int) > 400
  · rw [decide_eq_true h4, show textOk d = false from Bool.eq_false_iff.2 (fun he => by have := (textOk_iff.1 he).1; omega)]; rfl
  · rw [decide_eq_false h4]
    unfold R_s_l01Cuts_5_0
    have := cuts_loop h (K (.l .deep intR [], [])) (fun y2 y3 => (bif (Nat.ble (((List.length y3) + (List.length (y2 :: []))) * 8) 140737488355328) then K ((.l .deep intR (y3 ++ (y2 :: []))), []) else none)) (List.length d + (0 : Int).toNat + List.length ([] : List Int) + 2) 0 [] (by omega) (by omega) (by simp)
    refine Eq.trans this ?_
    rw [List.drop_zero]
    cases hv : valid d with
    | false => rw [show textOk d = false from Bool.eq_false_iff.2 (fun he => by have := (textOk_iff.1 he).2; rw [hv] at this; cases this)]; rfl
    | true =>
      rw [textOk_iff.2 ⟨by omega, hv⟩]
      have hs := starts_len _ d 0 (Nat.le_refl _)
      simp only [cond_true, List.nil_append]
      rw [Nat.ble_eq_true_of_le (by simp; omega), bounds_starts _ d 0 (Nat.le_refl _) hv, Int.zero_add]
      rfl
theorem okS_s_l01Cuts : OkFn prog I N.s_l01Cuts true S_s_l01Cuts := okN (ok_fn (memc okS_s_RuneSize mem0) (l := [(N.s_RuneSize, true, S_s_RuneSize)]) (p := []) (ls := [(5, [0,3,4], [2,3,4], W_s_l01Cuts_5)]) (lend := []) (focus := false) (fuel := 0) (give := []) (fn := F.s_l01Cuts) (by kernel_rfl) (by kernel_rfl) (by kernel_rfl) (by kernel_rfl) (cs := [bodyOf F.s_l01Cuts 5]) (by kernel_rfl) (loopsc loopK_s_l01Cuts_5 loops0)) (S_fnR_of fun d K h => (e_s_l01Cuts d.1 K).trans (v_s_l01Cuts d.1 h K))
end Go.Ev.Seat
end
section
/- s_TextOk: its contract. -/
namespace Go.Ev.Seat
open Go.RowKit
set_option maxRecDepth 100000
set_option linter.unusedVariables false
set_option linter.unusedSimpArgs false
noncomputable abbrev E_s_TextOk : Env := En [(N.s_l01Cuts, true, S_s_l01Cuts)] [] [] [] false 0 []
noncomputable def T_s_TextOk (d : List Int) (K : Ret → Option Ret) : Option Ret :=
 (bif (fitB d) then
 K ((.s (.bool (decide ((((List.length (cutsD d)) : Nat) : Int) > (0 : Int))))), [])
 else none)
theorem e_s_TextOk (d : List Int) (K : Ret → Option Ret) : evF E_s_TextOk true F.s_TextOk [.l .no bytesR d] K = T_s_TextOk d K := by kernel_rfl
def S_s_TextOk : Sm := S_fnR [.l bytesR] (fun d => fitB d.1) (fun d => (bl (textOk d.1), []))
theorem v_s_TextOk (d : List Int) (h : (fitB d) = true) (K : Ret → Option Ret) : T_s_TextOk d K = K (bl (textOk d), []) := by
  unfold T_s_TextOk
  rw [h]
  have e : decide ((((List.length (cutsD d)) : Nat) : Int) > (0 : Int)) = textOk d := by
    unfold cutsD
    cases textOk d with
    | false => rfl
    | true => exact decide_eq_true (show (((bounds d 0).length : Nat) : Int) > 0 by have := bounds_ne d 0; omega)
  rw [e]; rfl
theorem okS_s_TextOk : OkFn prog I N.s_TextOk true S_s_TextOk := okN (ok_fn (memc okS_s_l01Cuts mem0) (l := [(N.s_l01Cuts, true, S_s_l01Cuts)]) (p := []) (ls := []) (lend := []) (focus := false) (fuel := 0) (give := []) (fn := F.s_TextOk) (by kernel_rfl) (by kernel_rfl) (by kernel_rfl) (by kernel_rfl) (cs := []) (by kernel_rfl) loops0) (S_fnR_of fun d K h => (e_s_TextOk d.1 K).trans (v_s_TextOk d.1 h K))
end Go.Ev.Seat
end
section
/- s_ReplyOk: its contract. -/
namespace Go.Ev.Seat
open Go.RowKit
set_option maxRecDepth 100000
set_option linter.unusedVariables false
set_option linter.unusedSimpArgs false
noncomputable abbrev E_s_ReplyOk : Env := En [(N.s_l09Word, true, S_s_l09Word), (N.s_TextOk, true, S_s_TextOk)] [] [] [] false 0 []
noncomputable def T_s_ReplyOk (r : T_Reply) (K : Ret → Option Ret) : Option Ret :=
 (bif (decide (r.1 < (0 : Int))) then
 K ((.s (.bool false)), [])
 else (bif (decide (r.1 > (10 : Int))) then
  K ((.s (.bool false)), [])
  else (bif (!(isWordD r.2.1)) then
   K ((.s (.bool false)), [])
   else (bif (!(isWordD r.2.2.1)) then
    K ((.s (.bool false)), [])
    else (bif (fitB r.2.2.2) then
     (bif (!(textOk r.2.2.2)) then
      K ((.s (.bool false)), [])
      else (bif (r.1 == (0 : Int)) then
       K ((.s (.bool true)), [])
       else (bif (r.2.1 == (0 : Int)) then
        (bif (r.2.2.1 == (0 : Int)) then
         K ((.s (.bool ((((List.length r.2.2.2) : Nat) : Int) == (0 : Int)))), [])
         else K ((.s (.bool false)), []))
        else K ((.s (.bool false)), []))))
     else none)))))
theorem e_s_ReplyOk (r : T_Reply) (K : Ret → Option Ret) : evF E_s_ReplyOk true F.s_ReplyOk [.a (replyR.cells .no r)] K = T_s_ReplyOk r K := by kernel_rfl
def S_s_ReplyOk : Sm := S_fnR [.a replyR] (fun d => fitB d.1.2.2.2) (fun d => (bl (replyOkD d.1), []))
theorem v_s_ReplyOk (r : T_Reply) (h : (fitB r.2.2.2) = true) (K : Ret → Option Ret) : T_s_ReplyOk r K = K (bl (replyOkD r), []) := by
  unfold T_s_ReplyOk replyOkD
  rw [h]
  by_cases h1 : r.1 < 0
  · rw [decide_eq_true h1, decide_eq_false (show ¬ 0 ≤ r.1 by omega)]; rfl
  by_cases h2 : r.1 > 10
  · rw [decide_eq_false h1, decide_eq_true h2, decide_eq_true (show 0 ≤ r.1 by omega), decide_eq_false (show ¬ r.1 ≤ 10 by omega)]; rfl
  rw [decide_eq_false h1, decide_eq_false h2, decide_eq_true (show 0 ≤ r.1 by omega), decide_eq_true (show r.1 ≤ 10 by omega)]
  cases isWordD r.2.1 <;> cases isWordD r.2.2.1 <;> cases textOk r.2.2.2 <;> cases (r.1 == 0) <;> cases (r.2.1 == 0) <;> cases (r.2.2.1 == 0) <;> rfl
theorem okS_s_ReplyOk : OkFn prog I N.s_ReplyOk true S_s_ReplyOk := okN (ok_fn (memc okS_s_l09Word (memc okS_s_TextOk mem0)) (l := [(N.s_l09Word, true, S_s_l09Word), (N.s_TextOk, true, S_s_TextOk)]) (p := []) (ls := []) (lend := []) (focus := false) (fuel := 0) (give := []) (fn := F.s_ReplyOk) (by kernel_rfl) (by kernel_rfl) (by kernel_rfl) (by kernel_rfl) (cs := []) (by kernel_rfl) loops0) (S_fnR_of fun d K h => (e_s_ReplyOk d.1 K).trans (v_s_ReplyOk d.1 h K))
end Go.Ev.Seat
end
section
/- s_l09At: its contract. -/
namespace Go.Ev.Seat
open Go.RowKit
set_option maxRecDepth 100000
set_option linter.unusedVariables false
set_option linter.unusedSimpArgs false
noncomputable abbrev E_s_l09At : Env := En [] [(1, takes [0, 1, 2, 3, 4, 5, 6, 7, 8, 9, 10, 11, 12, 13], [])] [] [] false 0 []
noncomputable def T_s_l09At (d : List Int) (k : Int) (K : Ret → Option Ret) : Option Ret :=
 (bif ((decide ((0 : Int) ≤ k)) && (decide (k < (((List.length d) : Nat) : Int)))) then
 (bif ((decide ((0 : Int) ≤ (IntKind.wrap .i64 (k + (1 : Int))))) && (decide ((IntKind.wrap .i64 (k + (1 : Int))) < (((List.length d) : Nat) : Int)))) then
  K ((.s (.int .i64 (IntKind.wrap .i64 ((IntKind.wrap .i64 ((256 : Int) * (IntKind.wrap .i64 (List.getD d (Int.toNat k) (0 : Int))))) + (IntKind.wrap .i64 (List.getD d (Int.toNat (IntKind.wrap .i64 (k + (1 : Int)))) (0 : Int))))))), [])
  else none)
 else none)
theorem e_s_l09At (d : List Int) (k : Int) (K : Ret → Option Ret) : evF E_s_l09At true F.s_l09At [.l .no bytesR d, .s (.int .i64 k)] K = T_s_l09At d k K := by kernel_rfl
def S_s_l09At : Sm := S_fnR [.l bytesR, .i] (fun d => fitB d.1 && decide (0 ≤ d.2.1) && decide (d.2.1 + 1 < ((d.1.length : Nat) : Int))) (fun d => (.s (.int .i64 (atD d.1 d.2.1)), []))
theorem v_s_l09At (d : List Int) (k : Int) (h : (fitB d && decide (0 ≤ k) && decide (k + 1 < ((d.length : Nat) : Int))) = true) (K : Ret → Option Ret) : T_s_l09At d k K = K (.s (.int .i64 (atD d k)), []) := by
  simp only [Bool.and_eq_true, decide_eq_true_eq] at h
  obtain ⟨⟨h1, h2⟩, h3⟩ := h
  have hl := fitB_len h1
  have a := fitB_getD h1 k.toNat
  have b := fitB_getD h1 (k.toNat + 1)
  unfold T_s_l09At atD
  rw [wrap_in (n := k + 1) (by omega) (by omega), decide_eq_true h2, decide_eq_true (show k < ((d.length : Nat) : Int) by omega), decide_eq_true (show 0 ≤ k + 1 by omega), decide_eq_true h3, show (k + 1).toNat = k.toNat + 1 by omega]
  rw [wrap_in (n := d.getD k.toNat 0) (by omega) (by omega), wrap_in (n := d.getD (k.toNat + 1) 0) (by omega) (by omega), wrap_in (n := 256 * _) (by omega) (by omega), wrap_in (n := 256 * _ + _) (by omega) (by omega)]
  rfl
theorem okS_s_l09At : OkFn prog I N.s_l09At true S_s_l09At := okN (ok_fn mem0 (l := []) (p := [(1, takes [0, 1, 2, 3, 4, 5, 6, 7, 8, 9, 10, 11, 12, 13], [])]) (ls := []) (lend := []) (focus := false) (fuel := 0) (give := []) (fn := F.s_l09At) (by kernel_rfl) (by kernel_rfl) (by kernel_rfl) (by kernel_rfl) (cs := []) (by kernel_rfl) loops0) (S_fnR_of fun d K h => (e_s_l09At d.1 d.2.1 K).trans (v_s_l09At d.1 d.2.1 h K))
end Go.Ev.Seat
end
section
/- s_l09Is: its contract. -/
namespace Go.Ev.Seat
open Go.RowKit
set_option maxRecDepth 100000
set_option linter.unusedVariables false
set_option linter.unusedSimpArgs false
def z_s_l09Is_2_0 (x4 : Bool) : St := { tm := ([.x, .x, .x, .x, (.s (.bool x4))] ++ List.replicate 13 .x), ob := [], nx := 0, io := [] }
def z_s_l09Is_2_1 : St := { tm := ([] ++ List.replicate 18 .x), ob := [], nx := 0, io := [] }
def sh_s_l09Is_2_0 : Ss := { tm := (.cons (.int .i64) (.cons (.l .no intR) (.cons (.x) (.cons (.x) (.cons (.x) (.cons (.int .i64) (xsh 12))))))), ob := .nil, nx := 0, io := .nil }
def d_s_l09Is_2_0 (x0 : Int) (x1 : List Int) (x5 : Int) : sh_s_l09Is_2_0.T := ((x0, (x1, ((), ((), ((), (x5, xd 12)))))), (), ())
def s_s_l09Is_2_0 (x0 : Int) (x1 : List Int) (x5 : Int) : St := { tm := ([(.s (.int .i64 x0)), (.l .no intR x1), .x, .x, .x, (.s (.int .i64 x5))] ++ List.replicate 12 .x), ob := [], nx := 0, io := [] }
theorem se_s_l09Is_2_0 (x0 : Int) (x1 : List Int) (x5 : Int) : sh_s_l09Is_2_0.mk' (d_s_l09Is_2_0 x0 x1 x5) = (s_s_l09Is_2_0 x0 x1 x5) := by kernel_rfl
def w_s_l09Is_2_0 (d : sh_s_l09Is_2_0.T) (f : Int → (List Int) → Int → Option Ret) : Option Ret := match d with | ((x0, (x1, (_, (_, (_, (x5, _)))))), _, _) => f x0 x1 x5
noncomputable def P_s_l09Is_2_0 (x0 : Int) (x1 : List Int) (x5 : Int) (nx0 : Int → (List Int) → Int → Option Ret) (k0 : Bool → Option Ret) (k1 : Option Ret) : Option Ret :=
 (bif (decide (x5 < (((List.length x1) : Nat) : Int))) then
 (bif ((decide ((0 : Int) ≤ x5)) && (decide (x5 < (((List.length x1) : Nat) : Int)))) then
  (bif ((List.getD x1 (Int.toNat x5) (0 : Int)) == x0) then
   (k0 true)
   else (nx0 x0 x1 (IntKind.wrap .i64 (x5 + (1 : Int)))))
  else none)
 else k1)
noncomputable def Q_s_l09Is_2_0 : Nat → Int → (List Int) → Int → (Bool → Option Ret) → (Option Ret) → Option Ret
  | 0, _, _, _, _, _ => none
  | m + 1, x0, x1, x5, k0, k1 => P_s_l09Is_2_0 x0 x1 x5 (fun x0 x1 x5 => (Q_s_l09Is_2_0 m x0 x1 x5 k0 k1)) k0 k1
noncomputable def R_s_l09Is_2_0 (x0 : Int) (x1 : List Int) (x5 : Int) (k0 : Bool → Option Ret) (k1 : Option Ret) : Option Ret := Q_s_l09Is_2_0 (x0.toNat + List.length x1 + x5.toNat + 2) x0 x1 x5 k0 k1
noncomputable def W_s_l09Is_2 : LoopFn := (fun (σ : St) (K : Ex → St → Option Ret) => (match sh_s_l09Is_2_0.un σ with | some d => w_s_l09Is_2_0 d (fun x0 x1 x5 => R_s_l09Is_2_0 x0 x1 x5 (fun x4 => (K .ret (z_s_l09Is_2_0 x4))) (K (.ext 0) z_s_l09Is_2_1)) | none => none))
noncomputable abbrev E_s_l09Is : Env := En [] [] [(2, [0,1,5], [4], W_s_l09Is_2)] [] false 0 []
theorem st_s_l09Is_2_0 (m : Nat) (x0 : Int) (x1 : List Int) (x5 : Int) (K : Ex → St → Option Ret) : rounds (run E_s_l09Is (bodyOf F.s_l09Is 2)) [0,1,5] [4] (m + 1) (s_s_l09Is_2_0 x0 x1 x5) K = P_s_l09Is_2_0 x0 x1 x5 (fun x0 x1 x5 => (rounds (run E_s_l09Is (bodyOf F.s_l09Is 2)) [0,1,5] [4] m (s_s_l09Is_2_0 x0 x1 x5) K)) (fun x4 => (K .ret (z_s_l09Is_2_0 x4))) (K (.ext 0) z_s_l09Is_2_1) := by kernel_rfl
theorem q_s_l09Is_2 (K : Ex → St → Option Ret) : ∀ m : Nat, (∀ (x0 : Int) (x1 : List Int) (x5 : Int), rounds (run E_s_l09Is (bodyOf F.s_l09Is 2)) [0,1,5] [4] m (s_s_l09Is_2_0 x0 x1 x5) K = Q_s_l09Is_2_0 m x0 x1 x5 (fun x4 => (K .ret (z_s_l09Is_2_0 x4))) (K (.ext 0) z_s_l09Is_2_1))
  | 0 => (fun _ _ _ => rfl)
  | m + 1 => (fun x0 x1 x5 => (by rw [st_s_l09Is_2_0, show (fun x0 x1 x5 => (rounds (run E_s_l09Is (bodyOf F.s_l09Is 2)) [0,1,5] [4] m (s_s_l09Is_2_0 x0 x1 x5) K)) = (fun x0 x1 x5 => (Q_s_l09Is_2_0 m x0 x1 x5 (fun x4 => (K .ret (z_s_l09Is_2_0 x4))) (K (.ext 0) z_s_l09Is_2_1))) from funext fun x0 => funext fun x1 => funext fun x5 => (q_s_l09Is_2 K m) x0 x1 x5]; rfl))
theorem loopK_s_l09Is_2 : LoopOk E_s_l09Is (bodyOf F.s_l09Is 2) := by
  refine loopW_ok (n := 2) (F := W_s_l09Is_2) (by kernel_rfl) rfl (li := [0,1,5]) (lo := [4]) rfl (fun σ K r hr => ?_)
  unfold W_s_l09Is_2 at hr
  split at hr
  · rename_i d hd
    rw [Ss.un_mk hd]
    exact ⟨_, ((congrArg (fun z => rounds (run E_s_l09Is (bodyOf F.s_l09Is 2)) [0,1,5] [4] _ z K) (se_s_l09Is_2_0 _ _ _)).trans ((q_s_l09Is_2 K _) _ _ _)).trans hr⟩
  · cases hr
noncomputable def T_s_l09Is (k : Int) (l : List Int) (K : Ret → Option Ret) : Option Ret :=
 (R_s_l09Is_2_0 k l (0 : Int) (fun y0 =>
 K ((.s (.bool y0)), [])) (K ((.s (.bool false)), [])))
theorem e_s_l09Is (k : Int) (l : List Int) (K : Ret → Option Ret) : evF E_s_l09Is true F.s_l09Is [.s (.int .i64 k), .l .no intR l] K = T_s_l09Is k l K := by kernel_rfl
def S_s_l09Is : Sm := S_fnR [.i, .l intR] (fun d => Nat.ble d.2.1.length 1048576) (fun d => (bl (d.2.1.any fun c => c == d.1), []))
theorem v_s_l09Is (k : Int) (l : List Int) (h : (Nat.ble l.length 1048576) = true) (K : Ret → Option Ret) : T_s_l09Is k l K = K (bl (l.any fun c => c == k), []) := by
  have hl := Nat.le_of_ble_eq_true h
  unfold T_s_l09Is

  show R_s_l09Is_2_0 k l 0 _ _ = _
  unfold R_s_l09Is_2_0
  have q := idx_all (R := fun m i => Q_s_l09Is_2_0 m k l i (fun y0 => K ((.s (.bool y0)), [])) (K ((.s (.bool false)), []))) (p := fun c => !(c == k)) (xs := l) (z := (0 : Int)) (kt := K ((.s (.bool false)), [])) (kf := K ((.s (.bool true)), []))
    (fun m i hi => by
      show P_s_l09Is_2_0 k l i _ _ _ = _
      unfold P_s_l09Is_2_0
      rw [decide_eq_true (show ((i : Nat) : Int) < ((l.length : Nat) : Int) by omega), decide_eq_true (show (0 : Int) ≤ ((i : Nat) : Int) by omega), wrap_nat (by omega), Int.toNat_natCast]
      cases l.getD i 0 == k <;> rfl)
    (fun m => by
      show P_s_l09Is_2_0 k l _ _ _ _ = _
      unfold P_s_l09Is_2_0
      rw [decide_eq_false (show ¬ ((l.length : Nat) : Int) < ((l.length : Nat) : Int) by omega)]; rfl)
    (k.toNat + List.length l + (0 : Int).toNat + 2) 0 (by omega) (by omega)
  refine Eq.trans (show _ = _ from q) ?_
  rw [List.drop_zero]
  have e : (l.all fun c => !(c == k)) = !(l.any fun c => c == k) := by rw [List.not_any_eq_all_not]
  rw [e]
  cases l.any fun c => c == k <;> rfl
theorem okS_s_l09Is : OkFn prog I N.s_l09Is true S_s_l09Is := okN (ok_fn mem0 (l := []) (p := []) (ls := [(2, [0,1,5], [4], W_s_l09Is_2)]) (lend := []) (focus := false) (fuel := 0) (give := []) (fn := F.s_l09Is) (by kernel_rfl) (by kernel_rfl) (by kernel_rfl) (by kernel_rfl) (cs := [bodyOf F.s_l09Is 2]) (by kernel_rfl) (loopsc loopK_s_l09Is_2 loops0)) (S_fnR_of fun d K h => (e_s_l09Is d.1 d.2.1 K).trans (v_s_l09Is d.1 d.2.1 h K))
end Go.Ev.Seat
end
section
/- s_ReqOk: its contract. -/
namespace Go.Ev.Seat
open Go.RowKit
set_option maxRecDepth 100000
set_option linter.unusedVariables false
set_option linter.unusedSimpArgs false
noncomputable abbrev E_s_ReqOk : Env := En [(N.s_l09Word, true, S_s_l09Word), (N.s_TextOk, true, S_s_TextOk), (N.s_l09Is, true, S_s_l09Is)] [] [] [] false 0 []
noncomputable abbrev E1_s_ReqOk : Env := En [] [] [] [] false 0 []
theorem ok0_s_ReqOk : OkFn prog I N.s_ReqOk true (evF E_s_ReqOk true F.s_ReqOk) := ok_fn (memc okS_s_l09Word (memc okS_s_TextOk (memc okS_s_l09Is mem0))) (l := [(N.s_l09Word, true, S_s_l09Word), (N.s_TextOk, true, S_s_TextOk), (N.s_l09Is, true, S_s_l09Is)]) (p := []) (ls := []) (lend := []) (focus := false) (fuel := 0) (give := []) (fn := F.s_ReqOk) (by kernel_rfl) (by kernel_rfl) (by kernel_rfl) (by kernel_rfl) (cs := []) (by kernel_rfl) loops0
theorem ok1_s_ReqOk : OkFn prog I N.s_ReqOk true (evF E1_s_ReqOk true F.s_ReqOk) := ok_fn mem0 (l := []) (p := []) (ls := []) (lend := []) (focus := false) (fuel := 0) (give := []) (fn := F.s_ReqOk) (by kernel_rfl) (by kernel_rfl) (by kernel_rfl) (by kernel_rfl) (cs := []) (by kernel_rfl) loops0
theorem e1_s_ReqOk (r : T_Req) (K : Ret → Option Ret) : evF E1_s_ReqOk true F.s_ReqOk [.a (reqR.cells .no r)] K =
  (bif (decide (r.1 < 1)) then K ((.s (.bool false)), []) else (bif (decide (r.1 > 16)) then K ((.s (.bool false)), []) else
   (bif (decide (r.2.1 < 1)) then K ((.s (.bool false)), []) else (bif (decide (r.2.1 > 8)) then K ((.s (.bool false)), []) else none)))) := by kernel_rfl
theorem e_s_ReqOk_1 (s a b d : Int) (t : List Int) (K : Ret → Option Ret) : evF E_s_ReqOk true F.s_ReqOk [.a (reqR.cells .no (1, s, a, b, d, t))] K =
  (bif (decide (s < 1)) then K ((.s (.bool false)), []) else (bif (decide (s > 8)) then K ((.s (.bool false)), []) else (bif (!(isWordD a)) then K ((.s (.bool false)), []) else (bif (!(isWordD b)) then K ((.s (.bool false)), []) else (bif (!(isWordD d)) then K ((.s (.bool false)), []) else (bif fitB t then (bif (!(textOk t)) then K ((.s (.bool false)), []) else (bif (decide (((List.length t : Nat) : Int) > 100)) then K ((.s (.bool false)), []) else (bif (a != (0 : Int)) then K ((.s (.bool false)), []) else (bif (b != (0 : Int)) then K ((.s (.bool false)), []) else (bif (d != (0 : Int)) then K ((.s (.bool false)), []) else (bif (decide (((List.length t : Nat) : Int) > 0)) then K ((.s (.bool false)), []) else K ((.s (.bool true)), []))))))) else none)))))) := by kernel_rfl
theorem v_s_ReqOk_1 (s a b d : Int) (t : List Int) (h : fitB t = true) (K : Ret → Option Ret) : evF E_s_ReqOk true F.s_ReqOk [.a (reqR.cells .no (1, s, a, b, d, t))] K = K (bl (reqOkD (1, s, a, b, d, t)), []) := by
  refine (e_s_ReqOk_1 s a b d t K).trans ?_
  unfold reqOkD
  simp only [bne, h]
  by_cases h3 : s < 1
  · rw [decide_eq_true h3, decide_eq_false (show ¬ 1 ≤ s by omega)]; rfl
  by_cases h4 : s > 8
  · rw [decide_eq_false h3, decide_eq_true h4, decide_eq_true (show 1 ≤ s by omega), decide_eq_false (show ¬ s ≤ 8 by omega)]; rfl
  rw [decide_eq_false h3, decide_eq_false h4, decide_eq_true (show 1 ≤ s by omega), decide_eq_true (show s ≤ 8 by omega)]
  by_cases h5 : ((t.length : Nat) : Int) > 100
  · rw [decide_eq_true h5, decide_eq_false (show ¬ ((t.length : Nat) : Int) ≤ 100 by omega)]
    cases isWordD a <;> cases isWordD b <;> cases isWordD d <;> cases textOk t <;> rfl
  rw [decide_eq_false h5, decide_eq_true (show ((t.length : Nat) : Int) ≤ 100 by omega)]
  unfold reqKindD
  generalize decide (((t.length : Nat) : Int) > 0) = n
  generalize (a == 0) = x
  generalize (b == 0) = y
  generalize (d == 0) = z
  generalize textOk t = p
  cases isWordD a <;> cases isWordD b <;> cases isWordD d <;> cases p <;> first | rfl | (cases x <;> cases y <;> cases z <;> cases n <;> rfl)
theorem e_s_ReqOk_2 (s a b d : Int) (t : List Int) (K : Ret → Option Ret) : evF E_s_ReqOk true F.s_ReqOk [.a (reqR.cells .no (2, s, a, b, d, t))] K =
  (bif (decide (s < 1)) then K ((.s (.bool false)), []) else (bif (decide (s > 8)) then K ((.s (.bool false)), []) else (bif (!(isWordD a)) then K ((.s (.bool false)), []) else (bif (!(isWordD b)) then K ((.s (.bool false)), []) else (bif (!(isWordD d)) then K ((.s (.bool false)), []) else (bif fitB t then (bif (!(textOk t)) then K ((.s (.bool false)), []) else (bif (decide (((List.length t : Nat) : Int) > 100)) then K ((.s (.bool false)), []) else (bif (a != (0 : Int)) then K ((.s (.bool false)), []) else (bif (b != (0 : Int)) then K ((.s (.bool false)), []) else (bif (d != (0 : Int)) then K ((.s (.bool false)), []) else (bif (decide (((List.length t : Nat) : Int) > 0)) then K ((.s (.bool false)), []) else K ((.s (.bool true)), []))))))) else none)))))) := by kernel_rfl
theorem v_s_ReqOk_2 (s a b d : Int) (t : List Int) (h : fitB t = true) (K : Ret → Option Ret) : evF E_s_ReqOk true F.s_ReqOk [.a (reqR.cells .no (2, s, a, b, d, t))] K = K (bl (reqOkD (2, s, a, b, d, t)), []) := by
  refine (e_s_ReqOk_2 s a b d t K).trans ?_
  unfold reqOkD
  simp only [bne, h]
  by_cases h3 : s < 1
  · rw [decide_eq_true h3, decide_eq_false (show ¬ 1 ≤ s by omega)]; rfl
  by_cases h4 : s > 8
  · rw [decide_eq_false h3, decide_eq_true h4, decide_eq_true (show 1 ≤ s by omega), decide_eq_false (show ¬ s ≤ 8 by omega)]; rfl
  rw [decide_eq_false h3, decide_eq_false h4, decide_eq_true (show 1 ≤ s by omega), decide_eq_true (show s ≤ 8 by omega)]
  by_cases h5 : ((t.length : Nat) : Int) > 100
  · rw [decide_eq_true h5, decide_eq_false (show ¬ ((t.length : Nat) : Int) ≤ 100 by omega)]
    cases isWordD a <;> cases isWordD b <;> cases isWordD d <;> cases textOk t <;> rfl
  rw [decide_eq_false h5, decide_eq_true (show ((t.length : Nat) : Int) ≤ 100 by omega)]
  unfold reqKindD
  generalize decide (((t.length : Nat) : Int) > 0) = n
  generalize (a == 0) = x
  generalize (b == 0) = y
  generalize (d == 0) = z
  generalize textOk t = p
  cases isWordD a <;> cases isWordD b <;> cases isWordD d <;> cases p <;> first | rfl | (cases x <;> cases y <;> cases z <;> cases n <;> rfl)
theorem e_s_ReqOk_3 (s a b d : Int) (t : List Int) (K : Ret → Option Ret) : evF E_s_ReqOk true F.s_ReqOk [.a (reqR.cells .no (3, s, a, b, d, t))] K =
  (bif (decide (s < 1)) then K ((.s (.bool false)), []) else (bif (decide (s > 8)) then K ((.s (.bool false)), []) else (bif (!(isWordD a)) then K ((.s (.bool false)), []) else (bif (!(isWordD b)) then K ((.s (.bool false)), []) else (bif (!(isWordD d)) then K ((.s (.bool false)), []) else (bif fitB t then (bif (!(textOk t)) then K ((.s (.bool false)), []) else (bif (decide (((List.length t : Nat) : Int) > 100)) then K ((.s (.bool false)), []) else (bif (b != (0 : Int)) then K ((.s (.bool false)), []) else (bif (d != (0 : Int)) then K ((.s (.bool false)), []) else K ((.s (.bool true)), []))))) else none)))))) := by kernel_rfl
theorem v_s_ReqOk_3 (s a b d : Int) (t : List Int) (h : fitB t = true) (K : Ret → Option Ret) : evF E_s_ReqOk true F.s_ReqOk [.a (reqR.cells .no (3, s, a, b, d, t))] K = K (bl (reqOkD (3, s, a, b, d, t)), []) := by
  refine (e_s_ReqOk_3 s a b d t K).trans ?_
  unfold reqOkD
  simp only [bne, h]
  by_cases h3 : s < 1
  · rw [decide_eq_true h3, decide_eq_false (show ¬ 1 ≤ s by omega)]; rfl
  by_cases h4 : s > 8
  · rw [decide_eq_false h3, decide_eq_true h4, decide_eq_true (show 1 ≤ s by omega), decide_eq_false (show ¬ s ≤ 8 by omega)]; rfl
  rw [decide_eq_false h3, decide_eq_false h4, decide_eq_true (show 1 ≤ s by omega), decide_eq_true (show s ≤ 8 by omega)]
  by_cases h5 : ((t.length : Nat) : Int) > 100
  · rw [decide_eq_true h5, decide_eq_false (show ¬ ((t.length : Nat) : Int) ≤ 100 by omega)]
    cases isWordD a <;> cases isWordD b <;> cases isWordD d <;> cases textOk t <;> rfl
  rw [decide_eq_false h5, decide_eq_true (show ((t.length : Nat) : Int) ≤ 100 by omega)]
  unfold reqKindD
  generalize decide (((t.length : Nat) : Int) > 0) = n
  generalize (a == 0) = x
  generalize (b == 0) = y
  generalize (d == 0) = z
  generalize textOk t = p
  cases isWordD a <;> cases isWordD b <;> cases isWordD d <;> cases p <;> first | rfl | (cases x <;> cases y <;> cases z <;> cases n <;> rfl)
theorem e_s_ReqOk_4 (s a b d : Int) (t : List Int) (K : Ret → Option Ret) : evF E_s_ReqOk true F.s_ReqOk [.a (reqR.cells .no (4, s, a, b, d, t))] K =
  (bif (decide (s < 1)) then K ((.s (.bool false)), []) else (bif (decide (s > 8)) then K ((.s (.bool false)), []) else (bif (!(isWordD a)) then K ((.s (.bool false)), []) else (bif (!(isWordD b)) then K ((.s (.bool false)), []) else (bif (!(isWordD d)) then K ((.s (.bool false)), []) else (bif fitB t then (bif (!(textOk t)) then K ((.s (.bool false)), []) else (bif (decide (((List.length t : Nat) : Int) > 100)) then K ((.s (.bool false)), []) else (bif (d != (0 : Int)) then K ((.s (.bool false)), []) else (bif (decide (((List.length t : Nat) : Int) > 0)) then K ((.s (.bool false)), []) else K ((.s (.bool true)), []))))) else none)))))) := by kernel_rfl
theorem v_s_ReqOk_4 (s a b d : Int) (t : List Int) (h : fitB t = true) (K : Ret → Option Ret) : evF E_s_ReqOk true F.s_ReqOk [.a (reqR.cells .no (4, s, a, b, d, t))] K = K (bl (reqOkD (4, s, a, b, d, t)), []) := by
  refine (e_s_ReqOk_4 s a b d t K).trans ?_
  unfold reqOkD
  simp only [bne, h]
  by_cases h3 : s < 1
  · rw [decide_eq_true h3, decide_eq_false (show ¬ 1 ≤ s by omega)]; rfl
  by_cases h4 : s > 8
  · rw [decide_eq_false h3, decide_eq_true h4, decide_eq_true (show 1 ≤ s by omega), decide_eq_false (show ¬ s ≤ 8 by omega)]; rfl
  rw [decide_eq_false h3, decide_eq_false h4, decide_eq_true (show 1 ≤ s by omega), decide_eq_true (show s ≤ 8 by omega)]
  by_cases h5 : ((t.length : Nat) : Int) > 100
  · rw [decide_eq_true h5, decide_eq_false (show ¬ ((t.length : Nat) : Int) ≤ 100 by omega)]
    cases isWordD a <;> cases isWordD b <;> cases isWordD d <;> cases textOk t <;> rfl
  rw [decide_eq_false h5, decide_eq_true (show ((t.length : Nat) : Int) ≤ 100 by omega)]
  unfold reqKindD
  generalize decide (((t.length : Nat) : Int) > 0) = n
  generalize (a == 0) = x
  generalize (b == 0) = y
  generalize (d == 0) = z
  generalize textOk t = p
  cases isWordD a <;> cases isWordD b <;> cases isWordD d <;> cases p <;> first | rfl | (cases x <;> cases y <;> cases z <;> cases n <;> rfl)
theorem e_s_ReqOk_5 (s a b d : Int) (t : List Int) (K : Ret → Option Ret) : evF E_s_ReqOk true F.s_ReqOk [.a (reqR.cells .no (5, s, a, b, d, t))] K =
  (bif (decide (s < 1)) then K ((.s (.bool false)), []) else (bif (decide (s > 8)) then K ((.s (.bool false)), []) else (bif (!(isWordD a)) then K ((.s (.bool false)), []) else (bif (!(isWordD b)) then K ((.s (.bool false)), []) else (bif (!(isWordD d)) then K ((.s (.bool false)), []) else (bif fitB t then (bif (!(textOk t)) then K ((.s (.bool false)), []) else (bif (decide (((List.length t : Nat) : Int) > 100)) then K ((.s (.bool false)), []) else (bif (d != (0 : Int)) then K ((.s (.bool false)), []) else K ((.s (.bool true)), [])))) else none)))))) := by kernel_rfl
theorem v_s_ReqOk_5 (s a b d : Int) (t : List Int) (h : fitB t = true) (K : Ret → Option Ret) : evF E_s_ReqOk true F.s_ReqOk [.a (reqR.cells .no (5, s, a, b, d, t))] K = K (bl (reqOkD (5, s, a, b, d, t)), []) := by
  refine (e_s_ReqOk_5 s a b d t K).trans ?_
  unfold reqOkD
  simp only [bne, h]
  by_cases h3 : s < 1
  · rw [decide_eq_true h3, decide_eq_false (show ¬ 1 ≤ s by omega)]; rfl
  by_cases h4 : s > 8
  · rw [decide_eq_false h3, decide_eq_true h4, decide_eq_true (show 1 ≤ s by omega), decide_eq_false (show ¬ s ≤ 8 by omega)]; rfl
  rw [decide_eq_false h3, decide_eq_false h4, decide_eq_true (show 1 ≤ s by omega), decide_eq_true (show s ≤ 8 by omega)]
  by_cases h5 : ((t.length : Nat) : Int) > 100
  · rw [decide_eq_true h5, decide_eq_false (show ¬ ((t.length : Nat) : Int) ≤ 100 by omega)]
    cases isWordD a <;> cases isWordD b <;> cases isWordD d <;> cases textOk t <;> rfl
  rw [decide_eq_false h5, decide_eq_true (show ((t.length : Nat) : Int) ≤ 100 by omega)]
  unfold reqKindD
  generalize decide (((t.length : Nat) : Int) > 0) = n
  generalize (a == 0) = x
  generalize (b == 0) = y
  generalize (d == 0) = z
  generalize textOk t = p
  cases isWordD a <;> cases isWordD b <;> cases isWordD d <;> cases p <;> first | rfl | (cases x <;> cases y <;> cases z <;> cases n <;> rfl)
theorem e_s_ReqOk_6 (s a b d : Int) (t : List Int) (K : Ret → Option Ret) : evF E_s_ReqOk true F.s_ReqOk [.a (reqR.cells .no (6, s, a, b, d, t))] K =
  (bif (decide (s < 1)) then K ((.s (.bool false)), []) else (bif (decide (s > 8)) then K ((.s (.bool false)), []) else (bif (!(isWordD a)) then K ((.s (.bool false)), []) else (bif (!(isWordD b)) then K ((.s (.bool false)), []) else (bif (!(isWordD d)) then K ((.s (.bool false)), []) else (bif fitB t then (bif (!(textOk t)) then K ((.s (.bool false)), []) else (bif (decide (((List.length t : Nat) : Int) > 100)) then K ((.s (.bool false)), []) else (bif (d != (0 : Int)) then K ((.s (.bool false)), []) else (bif (decide (((List.length t : Nat) : Int) > 0)) then K ((.s (.bool false)), []) else K ((.s (.bool true)), []))))) else none)))))) := by kernel_rfl
theorem v_s_ReqOk_6 (s a b d : Int) (t : List Int) (h : fitB t = true) (K : Ret → Option Ret) : evF E_s_ReqOk true F.s_ReqOk [.a (reqR.cells .no (6, s, a, b, d, t))] K = K (bl (reqOkD (6, s, a, b, d, t)), []) := by
  refine (e_s_ReqOk_6 s a b d t K).trans ?_
  unfold reqOkD
  simp only [bne, h]
  by_cases h3 : s < 1
  · rw [decide_eq_true h3, decide_eq_false (show ¬ 1 ≤ s by omega)]; rfl
  by_cases h4 : s > 8
  · rw [decide_eq_false h3, decide_eq_true h4, decide_eq_true (show 1 ≤ s by omega), decide_eq_false (show ¬ s ≤ 8 by omega)]; rfl
  rw [decide_eq_false h3, decide_eq_false h4, decide_eq_true (show 1 ≤ s by omega), decide_eq_true (show s ≤ 8 by omega)]
  by_cases h5 : ((t.length : Nat) : Int) > 100
  · rw [decide_eq_true h5, decide_eq_false (show ¬ ((t.length : Nat) : Int) ≤ 100 by omega)]
    cases isWordD a <;> cases isWordD b <;> cases isWordD d <;> cases textOk t <;> rfl
  rw [decide_eq_false h5, decide_eq_true (show ((t.length : Nat) : Int) ≤ 100 by omega)]
  unfold reqKindD
  generalize decide (((t.length : Nat) : Int) > 0) = n
  generalize (a == 0) = x
  generalize (b == 0) = y
  generalize (d == 0) = z
  generalize textOk t = p
  cases isWordD a <;> cases isWordD b <;> cases isWordD d <;> cases p <;> first | rfl | (cases x <;> cases y <;> cases z <;> cases n <;> rfl)
theorem e_s_ReqOk_7 (s a b d : Int) (t : List Int) (K : Ret → Option Ret) : evF E_s_ReqOk true F.s_ReqOk [.a (reqR.cells .no (7, s, a, b, d, t))] K =
  (bif (decide (s < 1)) then K ((.s (.bool false)), []) else (bif (decide (s > 8)) then K ((.s (.bool false)), []) else (bif (!(isWordD a)) then K ((.s (.bool false)), []) else (bif (!(isWordD b)) then K ((.s (.bool false)), []) else (bif (!(isWordD d)) then K ((.s (.bool false)), []) else (bif fitB t then (bif (!(textOk t)) then K ((.s (.bool false)), []) else (bif (decide (((List.length t : Nat) : Int) > 100)) then K ((.s (.bool false)), []) else (bif (b != (0 : Int)) then K ((.s (.bool false)), []) else (bif (d != (0 : Int)) then K ((.s (.bool false)), []) else K ((.s (.bool (decide (((List.length t : Nat) : Int) > 0)))), []))))) else none)))))) := by kernel_rfl
theorem v_s_ReqOk_7 (s a b d : Int) (t : List Int) (h : fitB t = true) (K : Ret → Option Ret) : evF E_s_ReqOk true F.s_ReqOk [.a (reqR.cells .no (7, s, a, b, d, t))] K = K (bl (reqOkD (7, s, a, b, d, t)), []) := by
  refine (e_s_ReqOk_7 s a b d t K).trans ?_
  unfold reqOkD
  simp only [bne, h]
  by_cases h3 : s < 1
  · rw [decide_eq_true h3, decide_eq_false (show ¬ 1 ≤ s by omega)]; rfl
  by_cases h4 : s > 8
  · rw [decide_eq_false h3, decide_eq_true h4, decide_eq_true (show 1 ≤ s by omega), decide_eq_false (show ¬ s ≤ 8 by omega)]; rfl
  rw [decide_eq_false h3, decide_eq_false h4, decide_eq_true (show 1 ≤ s by omega), decide_eq_true (show s ≤ 8 by omega)]
  by_cases h5 : ((t.length : Nat) : Int) > 100
  · rw [decide_eq_true h5, decide_eq_false (show ¬ ((t.length : Nat) : Int) ≤ 100 by omega)]
    cases isWordD a <;> cases isWordD b <;> cases isWordD d <;> cases textOk t <;> rfl
  rw [decide_eq_false h5, decide_eq_true (show ((t.length : Nat) : Int) ≤ 100 by omega)]
  unfold reqKindD
  generalize decide (((t.length : Nat) : Int) > 0) = n
  generalize (a == 0) = x
  generalize (b == 0) = y
  generalize (d == 0) = z
  generalize textOk t = p
  cases isWordD a <;> cases isWordD b <;> cases isWordD d <;> cases p <;> first | rfl | (cases x <;> cases y <;> cases z <;> cases n <;> rfl)
theorem e_s_ReqOk_8 (s a b d : Int) (t : List Int) (K : Ret → Option Ret) : evF E_s_ReqOk true F.s_ReqOk [.a (reqR.cells .no (8, s, a, b, d, t))] K =
  (bif (decide (s < 1)) then K ((.s (.bool false)), []) else (bif (decide (s > 8)) then K ((.s (.bool false)), []) else (bif (!(isWordD a)) then K ((.s (.bool false)), []) else (bif (!(isWordD b)) then K ((.s (.bool false)), []) else (bif (!(isWordD d)) then K ((.s (.bool false)), []) else (bif fitB t then (bif (!(textOk t)) then K ((.s (.bool false)), []) else (bif (decide (((List.length t : Nat) : Int) > 100)) then K ((.s (.bool false)), []) else (bif (b != (0 : Int)) then K ((.s (.bool false)), []) else (bif (d != (0 : Int)) then K ((.s (.bool false)), []) else K ((.s (.bool (decide (((List.length t : Nat) : Int) > 0)))), []))))) else none)))))) := by kernel_rfl
theorem v_s_ReqOk_8 (s a b d : Int) (t : List Int) (h : fitB t = true) (K : Ret → Option Ret) : evF E_s_ReqOk true F.s_ReqOk [.a (reqR.cells .no (8, s, a, b, d, t))] K = K (bl (reqOkD (8, s, a, b, d, t)), []) := by
  refine (e_s_ReqOk_8 s a b d t K).trans ?_
  unfold reqOkD
  simp only [bne, h]
  by_cases h3 : s < 1
  · rw [decide_eq_true h3, decide_eq_false (show ¬ 1 ≤ s by omega)]; rfl
  by_cases h4 : s > 8
  · rw [decide_eq_false h3, decide_eq_true h4, decide_eq_true (show 1 ≤ s by omega), decide_eq_false (show ¬ s ≤ 8 by omega)]; rfl
  rw [decide_eq_false h3, decide_eq_false h4, decide_eq_true (show 1 ≤ s by omega), decide_eq_true (show s ≤ 8 by omega)]
  by_cases h5 : ((t.length : Nat) : Int) > 100
  · rw [decide_eq_true h5, decide_eq_false (show ¬ ((t.length : Nat) : Int) ≤ 100 by omega)]
    cases isWordD a <;> cases isWordD b <;> cases isWordD d <;> cases textOk t <;> rfl
  rw [decide_eq_false h5, decide_eq_true (show ((t.length : Nat) : Int) ≤ 100 by omega)]
  unfold reqKindD
  generalize decide (((t.length : Nat) : Int) > 0) = n
  generalize (a == 0) = x
  generalize (b == 0) = y
  generalize (d == 0) = z
  generalize textOk t = p
  cases isWordD a <;> cases isWordD b <;> cases isWordD d <;> cases p <;> first | rfl | (cases x <;> cases y <;> cases z <;> cases n <;> rfl)
theorem e_s_ReqOk_9 (s a b d : Int) (t : List Int) (K : Ret → Option Ret) : evF E_s_ReqOk true F.s_ReqOk [.a (reqR.cells .no (9, s, a, b, d, t))] K =
  (bif (decide (s < 1)) then K ((.s (.bool false)), []) else (bif (decide (s > 8)) then K ((.s (.bool false)), []) else (bif (!(isWordD a)) then K ((.s (.bool false)), []) else (bif (!(isWordD b)) then K ((.s (.bool false)), []) else (bif (!(isWordD d)) then K ((.s (.bool false)), []) else (bif fitB t then (bif (!(textOk t)) then K ((.s (.bool false)), []) else (bif (decide (((List.length t : Nat) : Int) > 100)) then K ((.s (.bool false)), []) else (bif (b != (0 : Int)) then K ((.s (.bool false)), []) else (bif (d != (0 : Int)) then K ((.s (.bool false)), []) else (bif (decide (((List.length t : Nat) : Int) > 0)) then K ((.s (.bool false)), []) else K ((.s (.bool true)), [])))))) else none)))))) := by kernel_rfl
theorem v_s_ReqOk_9 (s a b d : Int) (t : List Int) (h : fitB t = true) (K : Ret → Option Ret) : evF E_s_ReqOk true F.s_ReqOk [.a (reqR.cells .no (9, s, a, b, d, t))] K = K (bl (reqOkD (9, s, a, b, d, t)), []) := by
  refine (e_s_ReqOk_9 s a b d t K).trans ?_
  unfold reqOkD
  simp only [bne, h]
  by_cases h3 : s < 1
  · rw [decide_eq_true h3, decide_eq_false (show ¬ 1 ≤ s by omega)]; rfl
  by_cases h4 : s > 8
  · rw [decide_eq_false h3, decide_eq_true h4, decide_eq_true (show 1 ≤ s by omega), decide_eq_false (show ¬ s ≤ 8 by omega)]; rfl
  rw [decide_eq_false h3, decide_eq_false h4, decide_eq_true (show 1 ≤ s by omega), decide_eq_true (show s ≤ 8 by omega)]
  by_cases h5 : ((t.length : Nat) : Int) > 100
  · rw [decide_eq_true h5, decide_eq_false (show ¬ ((t.length : Nat) : Int) ≤ 100 by omega)]
    cases isWordD a <;> cases isWordD b <;> cases isWordD d <;> cases textOk t <;> rfl
  rw [decide_eq_false h5, decide_eq_true (show ((t.length : Nat) : Int) ≤ 100 by omega)]
  unfold reqKindD
  generalize decide (((t.length : Nat) : Int) > 0) = n
  generalize (a == 0) = x
  generalize (b == 0) = y
  generalize (d == 0) = z
  generalize textOk t = p
  cases isWordD a <;> cases isWordD b <;> cases isWordD d <;> cases p <;> first | rfl | (cases x <;> cases y <;> cases z <;> cases n <;> rfl)
theorem e_s_ReqOk_10 (s a b d : Int) (t : List Int) (K : Ret → Option Ret) : evF E_s_ReqOk true F.s_ReqOk [.a (reqR.cells .no (10, s, a, b, d, t))] K =
  (bif (decide (s < 1)) then K ((.s (.bool false)), []) else (bif (decide (s > 8)) then K ((.s (.bool false)), []) else (bif (!(isWordD a)) then K ((.s (.bool false)), []) else (bif (!(isWordD b)) then K ((.s (.bool false)), []) else (bif (!(isWordD d)) then K ((.s (.bool false)), []) else (bif fitB t then (bif (!(textOk t)) then K ((.s (.bool false)), []) else (bif (decide (((List.length t : Nat) : Int) > 100)) then K ((.s (.bool false)), []) else (bif (d != (0 : Int)) then K ((.s (.bool false)), []) else (bif (decide (((List.length t : Nat) : Int) > 0)) then K ((.s (.bool false)), []) else K ((.s (.bool true)), []))))) else none)))))) := by kernel_rfl
theorem v_s_ReqOk_10 (s a b d : Int) (t : List Int) (h : fitB t = true) (K : Ret → Option Ret) : evF E_s_ReqOk true F.s_ReqOk [.a (reqR.cells .no (10, s, a, b, d, t))] K = K (bl (reqOkD (10, s, a, b, d, t)), []) := by
  refine (e_s_ReqOk_10 s a b d t K).trans ?_
  unfold reqOkD
  simp only [bne, h]
  by_cases h3 : s < 1
  · rw [decide_eq_true h3, decide_eq_false (show ¬ 1 ≤ s by omega)]; rfl
  by_cases h4 : s > 8
  · rw [decide_eq_false h3, decide_eq_true h4, decide_eq_true (show 1 ≤ s by omega), decide_eq_false (show ¬ s ≤ 8 by omega)]; rfl
  rw [decide_eq_false h3, decide_eq_false h4, decide_eq_true (show 1 ≤ s by omega), decide_eq_true (show s ≤ 8 by omega)]
  by_cases h5 : ((t.length : Nat) : Int) > 100
  · rw [decide_eq_true h5, decide_eq_false (show ¬ ((t.length : Nat) : Int) ≤ 100 by omega)]
    cases isWordD a <;> cases isWordD b <;> cases isWordD d <;> cases textOk t <;> rfl
  rw [decide_eq_false h5, decide_eq_true (show ((t.length : Nat) : Int) ≤ 100 by omega)]
  unfold reqKindD
  generalize decide (((t.length : Nat) : Int) > 0) = n
  generalize (a == 0) = x
  generalize (b == 0) = y
  generalize (d == 0) = z
  generalize textOk t = p
  cases isWordD a <;> cases isWordD b <;> cases isWordD d <;> cases p <;> first | rfl | (cases x <;> cases y <;> cases z <;> cases n <;> rfl)
theorem e_s_ReqOk_11 (s a b d : Int) (t : List Int) (K : Ret → Option Ret) : evF E_s_ReqOk true F.s_ReqOk [.a (reqR.cells .no (11, s, a, b, d, t))] K =
  (bif (decide (s < 1)) then K ((.s (.bool false)), []) else (bif (decide (s > 8)) then K ((.s (.bool false)), []) else (bif (!(isWordD a)) then K ((.s (.bool false)), []) else (bif (!(isWordD b)) then K ((.s (.bool false)), []) else (bif (!(isWordD d)) then K ((.s (.bool false)), []) else (bif fitB t then (bif (!(textOk t)) then K ((.s (.bool false)), []) else (bif (decide (((List.length t : Nat) : Int) > 100)) then K ((.s (.bool false)), []) else (bif (d != (0 : Int)) then K ((.s (.bool false)), []) else (bif (decide (((List.length t : Nat) : Int) > 0)) then K ((.s (.bool false)), []) else K ((.s (.bool true)), []))))) else none)))))) := by kernel_rfl
theorem v_s_ReqOk_11 (s a b d : Int) (t : List Int) (h : fitB t = true) (K : Ret → Option Ret) : evF E_s_ReqOk true F.s_ReqOk [.a (reqR.cells .no (11, s, a, b, d, t))] K = K (bl (reqOkD (11, s, a, b, d, t)), []) := by
  refine (e_s_ReqOk_11 s a b d t K).trans ?_
  unfold reqOkD
  simp only [bne, h]
  by_cases h3 : s < 1
  · rw [decide_eq_true h3, decide_eq_false (show ¬ 1 ≤ s by omega)]; rfl
  by_cases h4 : s > 8
  · rw [decide_eq_false h3, decide_eq_true h4, decide_eq_true (show 1 ≤ s by omega), decide_eq_false (show ¬ s ≤ 8 by omega)]; rfl
  rw [decide_eq_false h3, decide_eq_false h4, decide_eq_true (show 1 ≤ s by omega), decide_eq_true (show s ≤ 8 by omega)]
  by_cases h5 : ((t.length : Nat) : Int) > 100
  · rw [decide_eq_true h5, decide_eq_false (show ¬ ((t.length : Nat) : Int) ≤ 100 by omega)]
    cases isWordD a <;> cases isWordD b <;> cases isWordD d <;> cases textOk t <;> rfl
  rw [decide_eq_false h5, decide_eq_true (show ((t.length : Nat) : Int) ≤ 100 by omega)]
  unfold reqKindD
  generalize decide (((t.length : Nat) : Int) > 0) = n
  generalize (a == 0) = x
  generalize (b == 0) = y
  generalize (d == 0) = z
  generalize textOk t = p
  cases isWordD a <;> cases isWordD b <;> cases isWordD d <;> cases p <;> first | rfl | (cases x <;> cases y <;> cases z <;> cases n <;> rfl)
theorem e_s_ReqOk_12 (s a b d : Int) (t : List Int) (K : Ret → Option Ret) : evF E_s_ReqOk true F.s_ReqOk [.a (reqR.cells .no (12, s, a, b, d, t))] K =
  (bif (decide (s < 1)) then K ((.s (.bool false)), []) else (bif (decide (s > 8)) then K ((.s (.bool false)), []) else (bif (!(isWordD a)) then K ((.s (.bool false)), []) else (bif (!(isWordD b)) then K ((.s (.bool false)), []) else (bif (!(isWordD d)) then K ((.s (.bool false)), []) else (bif fitB t then (bif (!(textOk t)) then K ((.s (.bool false)), []) else (bif (decide (((List.length t : Nat) : Int) > 100)) then K ((.s (.bool false)), []) else (bif (decide (((List.length t : Nat) : Int) > 0)) then K ((.s (.bool false)), []) else K ((.s (.bool true)), [])))) else none)))))) := by kernel_rfl
theorem v_s_ReqOk_12 (s a b d : Int) (t : List Int) (h : fitB t = true) (K : Ret → Option Ret) : evF E_s_ReqOk true F.s_ReqOk [.a (reqR.cells .no (12, s, a, b, d, t))] K = K (bl (reqOkD (12, s, a, b, d, t)), []) := by
  refine (e_s_ReqOk_12 s a b d t K).trans ?_
  unfold reqOkD
  simp only [bne, h]
  by_cases h3 : s < 1
  · rw [decide_eq_true h3, decide_eq_false (show ¬ 1 ≤ s by omega)]; rfl
  by_cases h4 : s > 8
  · rw [decide_eq_false h3, decide_eq_true h4, decide_eq_true (show 1 ≤ s by omega), decide_eq_false (show ¬ s ≤ 8 by omega)]; rfl
  rw [decide_eq_false h3, decide_eq_false h4, decide_eq_true (show 1 ≤ s by omega), decide_eq_true (show s ≤ 8 by omega)]
  by_cases h5 : ((t.length : Nat) : Int) > 100
  · rw [decide_eq_true h5, decide_eq_false (show ¬ ((t.length : Nat) : Int) ≤ 100 by omega)]
    cases isWordD a <;> cases isWordD b <;> cases isWordD d <;> cases textOk t <;> rfl
  rw [decide_eq_false h5, decide_eq_true (show ((t.length : Nat) : Int) ≤ 100 by omega)]
  unfold reqKindD
  generalize decide (((t.length : Nat) : Int) > 0) = n
  generalize (a == 0) = x
  generalize (b == 0) = y
  generalize (d == 0) = z
  generalize textOk t = p
  cases isWordD a <;> cases isWordD b <;> cases isWordD d <;> cases p <;> first | rfl | (cases x <;> cases y <;> cases z <;> cases n <;> rfl)
theorem e_s_ReqOk_13 (s a b d : Int) (t : List Int) (K : Ret → Option Ret) : evF E_s_ReqOk true F.s_ReqOk [.a (reqR.cells .no (13, s, a, b, d, t))] K =
  (bif (decide (s < 1)) then K ((.s (.bool false)), []) else (bif (decide (s > 8)) then K ((.s (.bool false)), []) else (bif (!(isWordD a)) then K ((.s (.bool false)), []) else (bif (!(isWordD b)) then K ((.s (.bool false)), []) else (bif (!(isWordD d)) then K ((.s (.bool false)), []) else (bif fitB t then (bif (!(textOk t)) then K ((.s (.bool false)), []) else (bif (decide (((List.length t : Nat) : Int) > 100)) then K ((.s (.bool false)), []) else (bif (decide (((List.length t : Nat) : Int) > 0)) then K ((.s (.bool false)), []) else K ((.s (.bool true)), [])))) else none)))))) := by kernel_rfl
theorem v_s_ReqOk_13 (s a b d : Int) (t : List Int) (h : fitB t = true) (K : Ret → Option Ret) : evF E_s_ReqOk true F.s_ReqOk [.a (reqR.cells .no (13, s, a, b, d, t))] K = K (bl (reqOkD (13, s, a, b, d, t)), []) := by
  refine (e_s_ReqOk_13 s a b d t K).trans ?_
  unfold reqOkD
  simp only [bne, h]
  by_cases h3 : s < 1
  · rw [decide_eq_true h3, decide_eq_false (show ¬ 1 ≤ s by omega)]; rfl
  by_cases h4 : s > 8
  · rw [decide_eq_false h3, decide_eq_true h4, decide_eq_true (show 1 ≤ s by omega), decide_eq_false (show ¬ s ≤ 8 by omega)]; rfl
  rw [decide_eq_false h3, decide_eq_false h4, decide_eq_true (show 1 ≤ s by omega), decide_eq_true (show s ≤ 8 by omega)]
  by_cases h5 : ((t.length : Nat) : Int) > 100
  · rw [decide_eq_true h5, decide_eq_false (show ¬ ((t.length : Nat) : Int) ≤ 100 by omega)]
    cases isWordD a <;> cases isWordD b <;> cases isWordD d <;> cases textOk t <;> rfl
  rw [decide_eq_false h5, decide_eq_true (show ((t.length : Nat) : Int) ≤ 100 by omega)]
  unfold reqKindD
  generalize decide (((t.length : Nat) : Int) > 0) = n
  generalize (a == 0) = x
  generalize (b == 0) = y
  generalize (d == 0) = z
  generalize textOk t = p
  cases isWordD a <;> cases isWordD b <;> cases isWordD d <;> cases p <;> first | rfl | (cases x <;> cases y <;> cases z <;> cases n <;> rfl)
theorem e_s_ReqOk_14 (s a b d : Int) (t : List Int) (K : Ret → Option Ret) : evF E_s_ReqOk true F.s_ReqOk [.a (reqR.cells .no (14, s, a, b, d, t))] K =
  (bif (decide (s < 1)) then K ((.s (.bool false)), []) else (bif (decide (s > 8)) then K ((.s (.bool false)), []) else (bif (!(isWordD a)) then K ((.s (.bool false)), []) else (bif (!(isWordD b)) then K ((.s (.bool false)), []) else (bif (!(isWordD d)) then K ((.s (.bool false)), []) else (bif fitB t then (bif (!(textOk t)) then K ((.s (.bool false)), []) else (bif (decide (((List.length t : Nat) : Int) > 100)) then K ((.s (.bool false)), []) else (bif (d != (0 : Int)) then K ((.s (.bool false)), []) else (bif (decide (((List.length t : Nat) : Int) > 0)) then K ((.s (.bool false)), []) else K ((.s (.bool true)), []))))) else none)))))) := by kernel_rfl
theorem v_s_ReqOk_14 (s a b d : Int) (t : List Int) (h : fitB t = true) (K : Ret → Option Ret) : evF E_s_ReqOk true F.s_ReqOk [.a (reqR.cells .no (14, s, a, b, d, t))] K = K (bl (reqOkD (14, s, a, b, d, t)), []) := by
  refine (e_s_ReqOk_14 s a b d t K).trans ?_
  unfold reqOkD
  simp only [bne, h]
  by_cases h3 : s < 1
  · rw [decide_eq_true h3, decide_eq_false (show ¬ 1 ≤ s by omega)]; rfl
  by_cases h4 : s > 8
  · rw [decide_eq_false h3, decide_eq_true h4, decide_eq_true (show 1 ≤ s by omega), decide_eq_false (show ¬ s ≤ 8 by omega)]; rfl
  rw [decide_eq_false h3, decide_eq_false h4, decide_eq_true (show 1 ≤ s by omega), decide_eq_true (show s ≤ 8 by omega)]
  by_cases h5 : ((t.length : Nat) : Int) > 100
  · rw [decide_eq_true h5, decide_eq_false (show ¬ ((t.length : Nat) : Int) ≤ 100 by omega)]
    cases isWordD a <;> cases isWordD b <;> cases isWordD d <;> cases textOk t <;> rfl
  rw [decide_eq_false h5, decide_eq_true (show ((t.length : Nat) : Int) ≤ 100 by omega)]
  unfold reqKindD
  generalize decide (((t.length : Nat) : Int) > 0) = n
  generalize (a == 0) = x
  generalize (b == 0) = y
  generalize (d == 0) = z
  generalize textOk t = p
  cases isWordD a <;> cases isWordD b <;> cases isWordD d <;> cases p <;> first | rfl | (cases x <;> cases y <;> cases z <;> cases n <;> rfl)
theorem e_s_ReqOk_15 (s a b d : Int) (t : List Int) (K : Ret → Option Ret) : evF E_s_ReqOk true F.s_ReqOk [.a (reqR.cells .no (15, s, a, b, d, t))] K =
  (bif (decide (s < 1)) then K ((.s (.bool false)), []) else (bif (decide (s > 8)) then K ((.s (.bool false)), []) else (bif (!(isWordD a)) then K ((.s (.bool false)), []) else (bif (!(isWordD b)) then K ((.s (.bool false)), []) else (bif (!(isWordD d)) then K ((.s (.bool false)), []) else (bif fitB t then (bif (!(textOk t)) then K ((.s (.bool false)), []) else (bif (decide (((List.length t : Nat) : Int) > 100)) then K ((.s (.bool false)), []) else (bif (a != (0 : Int)) then K ((.s (.bool false)), []) else (bif (b != (0 : Int)) then K ((.s (.bool false)), []) else (bif (d != (0 : Int)) then K ((.s (.bool false)), []) else (bif (decide (((List.length t : Nat) : Int) > 0)) then K ((.s (.bool false)), []) else K ((.s (.bool true)), []))))))) else none)))))) := by kernel_rfl
theorem v_s_ReqOk_15 (s a b d : Int) (t : List Int) (h : fitB t = true) (K : Ret → Option Ret) : evF E_s_ReqOk true F.s_ReqOk [.a (reqR.cells .no (15, s, a, b, d, t))] K = K (bl (reqOkD (15, s, a, b, d, t)), []) := by
  refine (e_s_ReqOk_15 s a b d t K).trans ?_
  unfold reqOkD
  simp only [bne, h]
  by_cases h3 : s < 1
  · rw [decide_eq_true h3, decide_eq_false (show ¬ 1 ≤ s by omega)]; rfl
  by_cases h4 : s > 8
  · rw [decide_eq_false h3, decide_eq_true h4, decide_eq_true (show 1 ≤ s by omega), decide_eq_false (show ¬ s ≤ 8 by omega)]; rfl
  rw [decide_eq_false h3, decide_eq_false h4, decide_eq_true (show 1 ≤ s by omega), decide_eq_true (show s ≤ 8 by omega)]
  by_cases h5 : ((t.length : Nat) : Int) > 100
  · rw [decide_eq_true h5, decide_eq_false (show ¬ ((t.length : Nat) : Int) ≤ 100 by omega)]
    cases isWordD a <;> cases isWordD b <;> cases isWordD d <;> cases textOk t <;> rfl
  rw [decide_eq_false h5, decide_eq_true (show ((t.length : Nat) : Int) ≤ 100 by omega)]
  unfold reqKindD
  generalize decide (((t.length : Nat) : Int) > 0) = n
  generalize (a == 0) = x
  generalize (b == 0) = y
  generalize (d == 0) = z
  generalize textOk t = p
  cases isWordD a <;> cases isWordD b <;> cases isWordD d <;> cases p <;> first | rfl | (cases x <;> cases y <;> cases z <;> cases n <;> rfl)
theorem e_s_ReqOk_16 (s a b d : Int) (t : List Int) (K : Ret → Option Ret) : evF E_s_ReqOk true F.s_ReqOk [.a (reqR.cells .no (16, s, a, b, d, t))] K =
  (bif (decide (s < 1)) then K ((.s (.bool false)), []) else (bif (decide (s > 8)) then K ((.s (.bool false)), []) else (bif (!(isWordD a)) then K ((.s (.bool false)), []) else (bif (!(isWordD b)) then K ((.s (.bool false)), []) else (bif (!(isWordD d)) then K ((.s (.bool false)), []) else (bif fitB t then (bif (!(textOk t)) then K ((.s (.bool false)), []) else (bif (decide (((List.length t : Nat) : Int) > 100)) then K ((.s (.bool false)), []) else (bif (a != (0 : Int)) then K ((.s (.bool false)), []) else (bif (b != (0 : Int)) then K ((.s (.bool false)), []) else (bif (d != (0 : Int)) then K ((.s (.bool false)), []) else (bif (decide (((List.length t : Nat) : Int) > 0)) then K ((.s (.bool false)), []) else K ((.s (.bool true)), []))))))) else none)))))) := by kernel_rfl
theorem v_s_ReqOk_16 (s a b d : Int) (t : List Int) (h : fitB t = true) (K : Ret → Option Ret) : evF E_s_ReqOk true F.s_ReqOk [.a (reqR.cells .no (16, s, a, b, d, t))] K = K (bl (reqOkD (16, s, a, b, d, t)), []) := by
  refine (e_s_ReqOk_16 s a b d t K).trans ?_
  unfold reqOkD
  simp only [bne, h]
  by_cases h3 : s < 1
  · rw [decide_eq_true h3, decide_eq_false (show ¬ 1 ≤ s by omega)]; rfl
  by_cases h4 : s > 8
  · rw [decide_eq_false h3, decide_eq_true h4, decide_eq_true (show 1 ≤ s by omega), decide_eq_false (show ¬ s ≤ 8 by omega)]; rfl
  rw [decide_eq_false h3, decide_eq_false h4, decide_eq_true (show 1 ≤ s by omega), decide_eq_true (show s ≤ 8 by omega)]
  by_cases h5 : ((t.length : Nat) : Int) > 100
  · rw [decide_eq_true h5, decide_eq_false (show ¬ ((t.length : Nat) : Int) ≤ 100 by omega)]
    cases isWordD a <;> cases isWordD b <;> cases isWordD d <;> cases textOk t <;> rfl
  rw [decide_eq_false h5, decide_eq_true (show ((t.length : Nat) : Int) ≤ 100 by omega)]
  unfold reqKindD
  generalize decide (((t.length : Nat) : Int) > 0) = n
  generalize (a == 0) = x
  generalize (b == 0) = y
  generalize (d == 0) = z
  generalize textOk t = p
  cases isWordD a <;> cases isWordD b <;> cases isWordD d <;> cases p <;> first | rfl | (cases x <;> cases y <;> cases z <;> cases n <;> rfl)
theorem v_s_ReqOk (r : T_Req) (h : fitB r.2.2.2.2.2 = true) (K : Ret → Option Ret) : ∃ G', OkFn prog I N.s_ReqOk true G' ∧ G' [.a (reqR.cells .no r)] K = K (bl (reqOkD r), []) := by
  obtain ⟨k, s, a, b, d, t⟩ := r
  by_cases h1 : k < 1
  · refine ⟨_, ok1_s_ReqOk, (e1_s_ReqOk (k, s, a, b, d, t) K).trans ?_⟩
    unfold reqOkD
    rw [decide_eq_true h1, decide_eq_false (show ¬ 1 ≤ k by omega)]; rfl
  by_cases h2 : k > 16
  · refine ⟨_, ok1_s_ReqOk, (e1_s_ReqOk (k, s, a, b, d, t) K).trans ?_⟩
    unfold reqOkD
    rw [decide_eq_false h1, decide_eq_true h2, decide_eq_true (show 1 ≤ k by omega), decide_eq_false (show ¬ k ≤ 16 by omega)]; rfl
  refine ⟨_, ok0_s_ReqOk, ?_⟩
  rcases kinds (k := k) (by omega) (by omega) with rfl | rfl | rfl | rfl | rfl | rfl | rfl | rfl | rfl | rfl | rfl | rfl | rfl | rfl | rfl | rfl
  · exact v_s_ReqOk_1 s a b d t h K
  · exact v_s_ReqOk_2 s a b d t h K
  · exact v_s_ReqOk_3 s a b d t h K
  · exact v_s_ReqOk_4 s a b d t h K
  · exact v_s_ReqOk_5 s a b d t h K
  · exact v_s_ReqOk_6 s a b d t h K
  · exact v_s_ReqOk_7 s a b d t h K
  · exact v_s_ReqOk_8 s a b d t h K
  · exact v_s_ReqOk_9 s a b d t h K
  · exact v_s_ReqOk_10 s a b d t h K
  · exact v_s_ReqOk_11 s a b d t h K
  · exact v_s_ReqOk_12 s a b d t h K
  · exact v_s_ReqOk_13 s a b d t h K
  · exact v_s_ReqOk_14 s a b d t h K
  · exact v_s_ReqOk_15 s a b d t h K
  · exact v_s_ReqOk_16 s a b d t h K
def S_s_ReqOk : Sm := S_fn [.a reqR] (fun d => fitB d.1.2.2.2.2.2) (fun d => bl (reqOkD d.1))
theorem okS_s_ReqOk : OkFn prog I N.s_ReqOk true S_s_ReqOk := OkFn.weak (fun ws K q hr => by
  unfold S_s_ReqOk S_fn at hr
  split at hr
  · rename_i dd hd
    have hw := sgD_ok _ hd
    replace hr : (bif fitB dd.1.2.2.2.2.2 then K (bl (reqOkD dd.1), []) else none) = some q := hr
    cases hp : fitB dd.1.2.2.2.2.2 with
    | false => rw [hp] at hr; cases hr
    | true =>
    rw [hp] at hr
    obtain ⟨G', g1, g2⟩ := v_s_ReqOk dd.1 hp K
    exact ⟨G', g1, by rw [hw]; exact g2.trans hr⟩
  · cases hr) ok0_s_ReqOk.1
end Go.Ev.Seat
end
section
/- s_l09Two: its contract. -/
namespace Go.Ev.Seat
open Go.RowKit
set_option maxRecDepth 100000
set_option linter.unusedVariables false
set_option linter.unusedSimpArgs false
noncomputable abbrev E_s_l09Two : Env := En [] [] [] [] false 0 []
noncomputable def T_s_l09Two (n : Int) (K : Ret → Option Ret) : Option Ret :=
 K ((.l .deep bytesR ((IntKind.wrap .u8 (IntKind.wrap .i64 (Int.tdiv n (256 : Int)))) :: ((IntKind.wrap .u8 (Int.tmod n (256 : Int))) :: ([] : List Int)))), [])
theorem e_s_l09Two (n : Int) (K : Ret → Option Ret) : evF E_s_l09Two true F.s_l09Two [.s (.int .i64 n)] K = T_s_l09Two n K := by kernel_rfl
def S_s_l09Two : Sm := S_fnR [.i] (fun d => isWordD d.1) (fun d => (.l .deep bytesR (wordD d.1), []))
theorem v_s_l09Two (n : Int) (h : (isWordD n) = true) (K : Ret → Option Ret) : T_s_l09Two n K = K (.l .deep bytesR (wordD n), []) := by
  have h' := isWordD_iff.1 h
  unfold T_s_l09Two wordD
  rw [Int.tdiv_eq_ediv_of_nonneg (by omega), Int.tmod_eq_emod_of_nonneg (by omega), wrap_in (by omega) (by omega), wrap8 (by omega) (by omega), wrap8 (by omega) (by omega)]
theorem okS_s_l09Two : OkFn prog I N.s_l09Two true S_s_l09Two := okN (ok_fn mem0 (l := []) (p := []) (ls := []) (lend := []) (focus := false) (fuel := 0) (give := []) (fn := F.s_l09Two) (by kernel_rfl) (by kernel_rfl) (by kernel_rfl) (by kernel_rfl) (cs := []) (by kernel_rfl) loops0) (S_fnR_of fun d K h => (e_s_l09Two d.1 K).trans (v_s_l09Two d.1 h K))
end Go.Ev.Seat
end
section
/- s_ReqBytes: its contract. -/
namespace Go.Ev.Seat
open Go.RowKit
set_option maxRecDepth 100000
set_option linter.unusedVariables false
set_option linter.unusedSimpArgs false
noncomputable abbrev E_s_ReqBytes : Env := En [(N.s_ReqOk, true, S_s_ReqOk), (N.s_l09Two, true, S_s_l09Two)] [(3, takeB [0, 1, 2, 3, 4, 5, 7, 8] (.fork (.more 6 (.fork (.one 9 (.fork (.one 10 (takes [11]))))) (.one 9 (.fork (.one 6 (.fork (.one 10 (takes [11])))))))), []), (4, takeB [0, 1, 2, 5, 6] (.fork (.one 3 (.fork (.one 4 (.fork (.one 7 (.fork (.one 8 (takes [9]))))))))), [3]), (5, takeB [0, 1, 2, 3, 4, 7, 8] (.fork (.one 5 (.fork (.one 6 (.fork (.one 9 (takes [10]))))))), [3])] [] [] false 0 []
noncomputable def T_s_ReqBytes (r : T_Req) (K : Ret → Option Ret) : Option Ret :=
 (bif (fitB r.2.2.2.2.2) then
 (bif (!(reqOkD r)) then
  K ((.l .deep bytesR ([] : List Int)), [])
  else (meet
   ((bif (isWordD r.2.2.1) then
    (bif (isWordD r.2.2.2.1) then
     (bif (isWordD r.2.2.2.2.1) then
      (bif (Nat.ble (((List.length ((((((IntKind.wrap .u8 r.1) :: ((IntKind.wrap .u8 r.2.1) :: ([] : List Int))) ++ (wordD r.2.2.1)) ++ (wordD r.2.2.2.1)) ++ (wordD r.2.2.2.2.1)) ++ ((IntKind.wrap .u8 (((List.length r.2.2.2.2.2) : Nat) : Int)) :: ([] : List Int)))) + (List.length r.2.2.2.2.2)) * 1) 140737488355328) then
       K ((.l .deep bytesR (((((((IntKind.wrap .u8 r.1) :: ((IntKind.wrap .u8 r.2.1) :: ([] : List Int))) ++ (wordD r.2.2.1)) ++ (wordD r.2.2.2.1)) ++ (wordD r.2.2.2.2.1)) ++ ((IntKind.wrap .u8 (((List.length r.2.2.2.2.2) : Nat) : Int)) :: ([] : List Int))) ++ r.2.2.2.2.2)), [])
       else none)
      else none)
     else none)
    else none))
   ((bif (isWordD r.2.2.1) then
    (bif (isWordD r.2.2.2.1) then
     (bif (isWordD r.2.2.2.2.1) then
      (bif (Nat.ble (((List.length ((((((IntKind.wrap .u8 r.1) :: ((IntKind.wrap .u8 r.2.1) :: ([] : List Int))) ++ (wordD r.2.2.1)) ++ (wordD r.2.2.2.1)) ++ (wordD r.2.2.2.2.1)) ++ ((IntKind.wrap .u8 (((List.length r.2.2.2.2.2) : Nat) : Int)) :: ([] : List Int)))) + (List.length r.2.2.2.2.2)) * 1) 140737488355328) then
       K ((.l .deep bytesR (((((((IntKind.wrap .u8 r.1) :: ((IntKind.wrap .u8 r.2.1) :: ([] : List Int))) ++ (wordD r.2.2.1)) ++ (wordD r.2.2.2.1)) ++ (wordD r.2.2.2.2.1)) ++ ((IntKind.wrap .u8 (((List.length r.2.2.2.2.2) : Nat) : Int)) :: ([] : List Int))) ++ r.2.2.2.2.2)), [])
       else none)
      else none)
     else none)
    else none))))
 else none)
theorem e_s_ReqBytes (r : T_Req) (K : Ret → Option Ret) : evF E_s_ReqBytes true F.s_ReqBytes [.a (reqR.cells .no r)] K = T_s_ReqBytes r K := by kernel_rfl
def S_s_ReqBytes : Sm := S_fnR [.a reqR] (fun d => fitB d.1.2.2.2.2.2) (fun d => (.l .deep bytesR (reqBytesD d.1), []))
theorem v_s_ReqBytes (r : T_Req) (h : (fitB r.2.2.2.2.2) = true) (K : Ret → Option Ret) : T_s_ReqBytes r K = K (.l .deep bytesR (reqBytesD r), []) := by
  unfold T_s_ReqBytes reqBytesD
  rw [h]
  cases hk : reqOkD r with
  | false => rfl
  | true =>
  obtain ⟨a0, a1, s0, s1, l1, q1, q2, q3⟩ := reqOkD_q hk
  rw [q1, q2, q3, wrap8_mod, wrap8_mod, wrap8_mod, Int.emod_eq_of_lt a0 a1, Int.emod_eq_of_lt s0 s1, Int.emod_eq_of_lt (b := 256) (a := ((r.2.2.2.2.2.length : Nat) : Int)) (by omega) (by omega)]
  simp only [cond_true, meet_self]
  rw [Nat.ble_eq_true_of_le (by simp [wordD]; omega)]
  rfl
theorem okS_s_ReqBytes : OkFn prog I N.s_ReqBytes true S_s_ReqBytes := okN (ok_fn (memc okS_s_ReqOk (memc okS_s_l09Two mem0)) (l := [(N.s_ReqOk, true, S_s_ReqOk), (N.s_l09Two, true, S_s_l09Two)]) (p := [(3, takeB [0, 1, 2, 3, 4, 5, 7, 8] (.fork (.more 6 (.fork (.one 9 (.fork (.one 10 (takes [11]))))) (.one 9 (.fork (.one 6 (.fork (.one 10 (takes [11])))))))), []), (4, takeB [0, 1, 2, 5, 6] (.fork (.one 3 (.fork (.one 4 (.fork (.one 7 (.fork (.one 8 (takes [9]))))))))), [3]), (5, takeB [0, 1, 2, 3, 4, 7, 8] (.fork (.one 5 (.fork (.one 6 (.fork (.one 9 (takes [10]))))))), [3])]) (ls := []) (lend := []) (focus := false) (fuel := 0) (give := []) (fn := F.s_ReqBytes) (by kernel_rfl) (by kernel_rfl) (by kernel_rfl) (by kernel_rfl) (cs := []) (by kernel_rfl) loops0) (S_fnR_of fun d K h => (e_s_ReqBytes d.1 K).trans (v_s_ReqBytes d.1 h K))
end Go.Ev.Seat
end
section
/- What is known of an argument: bytes are bytes, and it is small. -/
set_option linter.unusedVariables false
namespace Go.Ev.Seat
open Go.RowKit
mutual
def fitC : (c : Cc) → c.T → Bool
  | .int .u8, n => isB n
  | .int _, _ => true
  | .bool, _ => true
  | .str, _ => true
  | .sl r, xs => Nat.ble xs.length 1048576 && xs.all (fitR r)
def fitR : (r : Rw) → r.T → Bool
  | .one c, d => fitC c d
  | .cons c r, d => fitC c d.1 && fitR r d.2
end
mutual
theorem fitC_of : (c : Cc) → (d : c.T) → c.wf d → c.lim d = true → fitC c d = true
  | .int k, n, h, _ => by
    cases k <;> simp only [fitC]
    have h' : (Lit.int .u8 n).wf = true := h
    simp only [Lit.wf, Bool.and_eq_true, decide_eq_true_eq] at h'
    have a : IntKind.u8.min = 0 := rfl
    have b : IntKind.u8.max = 255 := rfl
    rw [a, b] at h'
    simp only [isB, Bool.and_eq_true, decide_eq_true_eq]
    exact h'
  | .bool, _, _, _ => rfl
  | .str, _, _, _ => rfl
  | .sl r, xs, h, g => by
    simp only [Cc.lim, Bool.and_eq_true, List.all_eq_true] at g
    simp only [fitC, Bool.and_eq_true, List.all_eq_true]
    exact ⟨g.1, fun x hx => fitR_of r x (h.2 x hx) (g.2 x hx)⟩
theorem fitR_of : (r : Rw) → (d : r.T) → r.wf d → r.lim d = true → fitR r d = true
  | .one c, d, h, g => fitC_of c d h g
  | .cons c r, d, h, g => by
    simp only [Rw.lim, Bool.and_eq_true] at g
    simp only [fitR, Bool.and_eq_true]
    exact ⟨fitC_of c d.1 h.1 g.1, fitR_of r d.2 h.2 g.2⟩
end
theorem fitB_fit {b : List Int} (h : fitC (.sl bytesR) b = true) : fitB b = true := h
theorem fitR_snd {c : Cc} {r : Rw} {d : (Rw.cons c r).T} (h : fitR (.cons c r) d = true) : fitR r d.2 = true := ((Bool.and_eq_true _ _).mp h).2
theorem fitR_fst {c : Cc} {r : Rw} {d : (Rw.cons c r).T} (h : fitR (.cons c r) d = true) : fitC c d.1 = true := ((Bool.and_eq_true _ _).mp h).1
theorem fitC_mem {r : Rw} {l : List r.T} (h : fitC (.sl r) l = true) {x : r.T} (hx : x ∈ l) : fitR r x = true := by
  simp only [fitC, Bool.and_eq_true, List.all_eq_true] at h
  exact h.2 x hx
theorem fitC_len {r : Rw} {l : List r.T} (h : fitC (.sl r) l = true) : l.length ≤ 1048576 := by
  simp only [fitC, Bool.and_eq_true] at h
  exact Nat.le_of_ble_eq_true h.1
theorem fitC_getD {r : Rw} {l : List r.T} (h : fitC (.sl r) l = true) (hd : fitR r r.dflt = true) (k : Nat) : fitR r (l.getD k r.dflt) = true := by
  rw [List.getD_eq_getElem?_getD]
  rcases Nat.lt_or_ge k l.length with hk | hk
  · rw [List.getElem?_eq_getElem hk]; exact fitC_mem h (List.getElem_mem hk)
  · rw [List.getElem?_eq_none hk]; exact hd
theorem fit_ev {e : T_Event} (h : fitR eventR e = true) : fitB e.2.2.2 = true := fitB_fit (fitR_snd (fitR_snd (fitR_snd h)))
theorem fit_out {o : T_Out} (h : fitR outR o = true) : fitB o.2.2.2.2.2.2.2.1 = true ∧ fitB o.2.2.2.2.2.2.2.2.2.2.2.2 = true :=
  ⟨fitB_fit (fitR_fst (fitR_snd (fitR_snd (fitR_snd (fitR_snd (fitR_snd (fitR_snd (fitR_snd h)))))))), fitB_fit (fitR_snd (fitR_snd (fitR_snd (fitR_snd (fitR_snd (fitR_snd (fitR_snd (fitR_snd (fitR_snd (fitR_snd (fitR_snd (fitR_snd h))))))))))))⟩
theorem bytes_w0 : ∀ (b : List Int), sumW (Rw.one (.int .u8)).w b = 0
  | [] => rfl
  | x :: b => by simp only [sumW, bytes_w0 b]; rfl
theorem bytes_w (b : List Int) : (Cc.sl bytesR).w b = b.length := by
  show b.length + sumW (Rw.one (.int .u8)).w b = _
  rw [bytes_w0 b]; rfl
theorem bytes_lim {b : List Int} (h : b.length ≤ 1048576) : (Cc.sl bytesR).lim b = true := by
  simp only [Cc.lim, Bool.and_eq_true, List.all_eq_true]
  exact ⟨Nat.ble_eq_true_of_le h, fun _ _ => rfl⟩
theorem lw_len {xs : List Int} {Z R : Option Ret} (h : xs.length ≤ 1048576 → R = Z) : (bif decide (((xs.length : Nat) : Int) > 1048576) then Z else R) = Z := by
  by_cases q : ((xs.length : Nat) : Int) > 1048576
  · rw [decide_eq_true q]; rfl
  · rw [decide_eq_false q]; exact h (by omega)
theorem bytes_le {b : List Int} {n : Nat} (h : b.length ≤ n) (hn : n ≤ 1099511627776) : (Cc.sl bytesR).w b ≤ 1099511627776 := by
  rw [bytes_w]; omega
theorem docNew_w (t : List Int) : docR.w (docNewD t) ≤ 1099511627776 := by
  have h := startD_len t
  show (Cc.sl bytesR).w (startD t) + ((Cc.sl bytesR).w (startD t) + 0) ≤ _
  rw [bytes_w]; omega
theorem machNew_w (t : List Int) : machR.w (startD t, startD t, [], 0, [], [], []) ≤ 1099511627776 := by
  have h := startD_len t
  show (Cc.sl bytesR).w (startD t) + ((Cc.sl bytesR).w (startD t) + 0) ≤ _
  rw [bytes_w]; omega
theorem reqParse_w {d : List Int} (h : (Cc.sl bytesR).w d ≤ 1048576) : reqR.w (reqParseD d).1 ≤ 1099511627776 := by
  rw [bytes_w] at h
  have e : ∀ r : T_Req, reqR.w r = 0 + (0 + (0 + (0 + (0 + (Cc.sl bytesR).w r.2.2.2.2.2)))) := fun _ => rfl
  have hd : (d.drop 9).length ≤ 1048576 := by simp; omega
  rw [e, bytes_w]
  unfold reqParseD
  cases decide (((d.length : Nat) : Int) < 9) with
  | true => simp
  | false =>
    cases reqOkD (reqOf d) && decide (((d.length : Nat) : Int) = 9 + d.getD 8 0) with
    | true => show 0 + (0 + (0 + (0 + (0 + (d.drop 9).length)))) ≤ _; omega
    | false => simp
end Go.Ev.Seat
end
section
/- s_ReqParse: its contract. -/
namespace Go.Ev.Seat
open Go.RowKit
set_option maxRecDepth 100000
set_option linter.unusedVariables false
set_option linter.unusedSimpArgs false
noncomputable abbrev E_s_ReqParse : Env := En [(N.s_l09At, true, S_s_l09At), (N.s_ReqOk, true, S_s_ReqOk), (N.s_ReqBytes, true, S_s_ReqBytes)] [(3, takeB [0, 1, 2, 3, 4, 5, 6, 7, 8, 10, 12, 15, 16] (.fork (.more 9 (.fork (.more 11 (.fork (.more 13 (.fork (.more 14 (.fork (.more 17 (takeB [18] (.fork (.one 19 (.fork (.one 20 (.done)))))) (.one 19 (.fork (.one 17 (takeB [18] (.fork (.one 20 (.done))))))))) (.one 19 (.fork (.one 14 (.fork (.one 17 (takeB [18] (.fork (.one 20 (.done))))))))))) (.more 14 (.fork (.more 13 (.fork (.more 17 (takeB [18] (.fork (.one 19 (.fork (.one 20 (.done)))))) (.one 19 (.fork (.one 17 (takeB [18] (.fork (.one 20 (.done))))))))) (.one 19 (.fork (.one 13 (.fork (.one 17 (takeB [18] (.fork (.one 20 (.done))))))))))) (.one 19 (.fork (.more 13 (.fork (.one 14 (.fork (.one 17 (takeB [18] (.fork (.one 20 (.done)))))))) (.one 14 (.fork (.one 13 (.fork (.one 17 (takeB [18] (.fork (.one 20 (.done))))))))))))))) (.more 14 (.fork (.more 11 (.fork (.more 13 (.fork (.more 17 (takeB [18] (.fork (.one 19 (.fork (.one 20 (.done)))))) (.one 19 (.fork (.one 17 (takeB [18] (.fork (.one 20 (.done))))))))) (.one 19 (.fork (.one 13 (.fork (.one 17 (takeB [18] (.fork (.one 20 (.done))))))))))) (.one 19 (.fork (.one 11 (.fork (.one 13 (.fork (.one 17 (takeB [18] (.fork (.one 20 (.done))))))))))))) (.one 19 (.fork (.more 11 (.fork (.more 13 (.fork (.one 14 (.fork (.one 17 (takeB [18] (.fork (.one 20 (.done)))))))) (.one 14 (.fork (.one 13 (.fork (.one 17 (takeB [18] (.fork (.one 20 (.done))))))))))) (.one 14 (.fork (.one 11 (.fork (.one 13 (.fork (.one 17 (takeB [18] (.fork (.one 20 (.done))))))))))))))))) (.more 14 (.fork (.more 9 (.fork (.more 11 (.fork (.more 13 (.fork (.more 17 (takeB [18] (.fork (.one 19 (.fork (.one 20 (.done)))))) (.one 19 (.fork (.one 17 (takeB [18] (.fork (.one 20 (.done))))))))) (.one 19 (.fork (.one 13 (.fork (.one 17 (takeB [18] (.fork (.one 20 (.done))))))))))) (.one 19 (.fork (.one 11 (.fork (.one 13 (.fork (.one 17 (takeB [18] (.fork (.one 20 (.done))))))))))))) (.one 19 (.fork (.one 9 (.fork (.one 11 (.fork (.one 13 (.fork (.one 17 (takeB [18] (.fork (.one 20 (.done))))))))))))))) (.one 19 (.fork (.more 9 (.fork (.more 11 (.fork (.more 13 (.fork (.one 14 (.fork (.one 17 (takeB [18] (.fork (.one 20 (.done)))))))) (.one 14 (.fork (.one 13 (.fork (.one 17 (takeB [18] (.fork (.one 20 (.done))))))))))) (.one 14 (.fork (.one 11 (.fork (.one 13 (.fork (.one 17 (takeB [18] (.fork (.one 20 (.done))))))))))))) (.one 14 (.fork (.one 9 (.fork (.one 11 (.fork (.one 13 (.fork (.one 17 (takeB [18] (.fork (.one 20 (.done))))))))))))))))))), []), (4, takeB [0] (.fork (.one 1 (takeB [2, 3, 4, 7] (.fork (.more 5 (.fork (.more 6 (.fork (.one 8 (takes [9, 10]))) (.one 8 (.fork (.one 6 (takes [9, 10])))))) (.one 8 (.fork (.one 5 (.fork (.one 6 (takes [9, 10]))))))))))), [])] [] [] false 0 []
noncomputable def T_s_ReqParse (d : List Int) (K : Ret → Option Ret) : Option Ret :=
 (bif (decide ((((List.length d) : Nat) : Int) < (9 : Int))) then
 K ((.t [(.a [(.s (.int .i64 (0 : Int))), (.s (.int .i64 (0 : Int))), (.s (.int .i64 (0 : Int))), (.s (.int .i64 (0 : Int))), (.s (.int .i64 (0 : Int))), (.l .deep bytesR ([] : List Int))]), (.s (.bool false))]), [])
 else (bif (decide ((0 : Int) < (((List.length d) : Nat) : Int))) then
  (bif (decide ((1 : Int) < (((List.length d) : Nat) : Int))) then
   (bif (decide ((9 : Int) ≤ (((List.length d) : Nat) : Int))) then
    (meet
     ((bif (((fitB d) && true) && (decide (((2 : Int) + (1 : Int)) < (((List.length d) : Nat) : Int)))) then
      (meet
       ((bif (((fitB d) && true) && (decide (((4 : Int) + (1 : Int)) < (((List.length d) : Nat) : Int)))) then
        (meet
         ((bif (((fitB d) && true) && (decide (((6 : Int) + (1 : Int)) < (((List.length d) : Nat) : Int)))) then
          (meet
           ((meet
            ((bif (Nat.ble (((List.length ([] : List Int)) + (List.length (List.drop 9 d))) * 1) 140737488355328) then
             (bif (fitB (([] : List Int) ++ (List.drop 9 d))) then
              (bif (!(reqOkD ((IntKind.wrap .i64 (List.getD d 0 (0 : Int))), ((IntKind.wrap .i64 (List.getD d 1 (0 : Int))), ((atD d (2 : Int)), ((atD d (4 : Int)), ((atD d (6 : Int)), (([] : List Int) ++ (List.drop 9 d))))))))) then
               (meet
                ((meet
                 (K ((.t [(.a [(.s (.int .i64 (0 : Int))), (.s (.int .i64 (0 : Int))), (.s (.int .i64 (0 : Int))), (.s (.int .i64 (0 : Int))), (.s (.int .i64 (0 : Int))), (.l .deep bytesR ([] : List Int))]), (.s (.bool false))]), []))
                 (K ((.t [(.a [(.s (.int .i64 (0 : Int))), (.s (.int .i64 (0 : Int))), (.s (.int .i64 (0 : Int))), (.s (.int .i64 (0 : Int))), (.s (.int .i64 (0 : Int))), (.l .deep bytesR ([] : List Int))]), (.s (.bool false))]), []))))
                (K ((.t [(.a [(.s (.int .i64 (0 : Int))), (.s (.int .i64 (0 : Int))), (.s (.int .i64 (0 : Int))), (.s (.int .i64 (0 : Int))), (.s (.int .i64 (0 : Int))), (.l .deep bytesR ([] : List Int))]), (.s (.bool false))]), [])))
               else (meet
                ((bif (fitB (([] : List Int) ++ (List.drop 9 d))) then
                 (meet
                  ((bif (!((ByteArray.toList (bstr (reqBytesD ((IntKind.wrap .i64 (List.getD d 0 (0 : Int))), ((IntKind.wrap .i64 (List.getD d 1 (0 : Int))), ((atD d (2 : Int)), ((atD d (4 : Int)), ((atD d (6 : Int)), (([] : List Int) ++ (List.drop 9 d)))))))))) == (ByteArray.toList (bstr d)))) then
                   K ((.t [(.a [(.s (.int .i64 (0 : Int))), (.s (.int .i64 (0 : Int))), (.s (.int .i64 (0 : Int))), (.s (.int .i64 (0 : Int))), (.s (.int .i64 (0 : Int))), (.l .deep bytesR ([] : List Int))]), (.s (.bool false))]), [])
                   else K ((.t [(.a [(.s (.int .i64 (IntKind.wrap .i64 (List.getD d 0 (0 : Int))))), (.s (.int .i64 (IntKind.wrap .i64 (List.getD d 1 (0 : Int))))), (.s (.int .i64 (atD d (2 : Int)))), (.s (.int .i64 (atD d (4 : Int)))), (.s (.int .i64 (atD d (6 : Int)))), (.l .deep bytesR (([] : List Int) ++ (List.drop 9 d)))]), (.s (.bool true))]), [])))
                  ((bif (!((ByteArray.toList (bstr (reqBytesD ((IntKind.wrap .i64 (List.getD d 0 (0 : Int))), ((IntKind.wrap .i64 (List.getD d 1 (0 : Int))), ((atD d (2 : Int)), ((atD d (4 : Int)), ((atD d (6 : Int)), (([] : List Int) ++ (List.drop 9 d)))))))))) == (ByteArray.toList (bstr d)))) then
                   K ((.t [(.a [(.s (.int .i64 (0 : Int))), (.s (.int .i64 (0 : Int))), (.s (.int .i64 (0 : Int))), (.s (.int .i64 (0 : Int))), (.s (.int .i64 (0 : Int))), (.l .deep bytesR ([] : List Int))]), (.s (.bool false))]), [])
                   else K ((.t [(.a [(.s (.int .i64 (IntKind.wrap .i64 (List.getD d 0 (0 : Int))))), (.s (.int .i64 (IntKind.wrap .i64 (List.getD d 1 (0 : Int))))), (.s (.int .i64 (atD d (2 : Int)))), (.s (.int .i64 (atD d (4 : Int)))), (.s (.int .i64 (atD d (6 : Int)))), (.l .deep bytesR (([] : List Int) ++ (List.drop 9 d)))]), (.s (.bool true))]), []))))
                 else none))
                ((bif (fitB (([] : List Int) ++ (List.drop 9 d))) then
                 (bif (!((ByteArray.toList (bstr (reqBytesD ((IntKind.wrap .i64 (List.getD d 0 (0 : Int))), ((IntKind.wrap .i64 (List.getD d 1 (0 : Int))), ((atD d (2 : Int)), ((atD d (4 : Int)), ((atD d (6 : Int)), (([] : List Int) ++ (List.drop 9 d)))))))))) == (ByteArray.toList (bstr d)))) then
                  K ((.t [(.a [(.s (.int .i64 (0 : Int))), (.s (.int .i64 (0 : Int))), (.s (.int .i64 (0 : Int))), (.s (.int .i64 (0 : Int))), (.s (.int .i64 (0 : Int))), (.l .deep bytesR ([] : List Int))]), (.s (.bool false))]), [])
                  else K ((.t [(.a [(.s (.int .i64 (IntKind.wrap .i64 (List.getD d 0 (0 : Int))))), (.s (.int .i64 (IntKind.wrap .i64 (List.getD d 1 (0 : Int))))), (.s (.int .i64 (atD d (2 : Int)))), (.s (.int .i64 (atD d (4 : Int)))), (.s (.int .i64 (atD d (6 : Int)))), (.l .deep bytesR (([] : List Int) ++ (List.drop 9 d)))]), (.s (.bool true))]), []))
                 else none))))
              else none)
             else none))
            ((bif (Nat.ble (((List.length ([] : List Int)) + (List.length (List.drop 9 d))) * 1) 140737488355328) then
             (bif (fitB (([] : List Int) ++ (List.drop 9 d))) then
              (bif (!(reqOkD ((IntKind.wrap .i64 (List.getD d 0 (0 : Int))), ((IntKind.wrap .i64 (List.getD d 1 (0 : Int))), ((atD d (2 : Int)), ((atD d (4 : Int)), ((atD d (6 : Int)), (([] : List Int) ++ (List.drop 9 d))))))))) then
               (meet
                ((meet
                 (K ((.t [(.a [(.s (.int .i64 (0 : Int))), (.s (.int .i64 (0 : Int))), (.s (.int .i64 (0 : Int))), (.s (.int .i64 (0 : Int))), (.s (.int .i64 (0 : Int))), (.l .deep bytesR ([] : List Int))]), (.s (.bool false))]), []))
                 (K ((.t [(.a [(.s (.int .i64 (0 : Int))), (.s (.int .i64 (0 : Int))), (.s (.int .i64 (0 : Int))), (.s (.int .i64 (0 : Int))), (.s (.int .i64 (0 : Int))), (.l .deep bytesR ([] : List Int))]), (.s (.bool false))]), []))))
                (K ((.t [(.a [(.s (.int .i64 (0 : Int))), (.s (.int .i64 (0 : Int))), (.s (.int .i64 (0 : Int))), (.s (.int .i64 (0 : Int))), (.s (.int .i64 (0 : Int))), (.l .deep bytesR ([] : List Int))]), (.s (.bool false))]), [])))
               else (meet
                ((bif (fitB (([] : List Int) ++ (List.drop 9 d))) then
                 (meet
                  ((bif (!((ByteArray.toList (bstr (reqBytesD ((IntKind.wrap .i64 (List.getD d 0 (0 : Int))), ((IntKind.wrap .i64 (List.getD d 1 (0 : Int))), ((atD d (2 : Int)), ((atD d (4 : Int)), ((atD d (6 : Int)), (([] : List Int) ++ (List.drop 9 d)))))))))) == (ByteArray.toList (bstr d)))) then
                   K ((.t [(.a [(.s (.int .i64 (0 : Int))), (.s (.int .i64 (0 : Int))), (.s (.int .i64 (0 : Int))), (.s (.int .i64 (0 : Int))), (.s (.int .i64 (0 : Int))), (.l .deep bytesR ([] : List Int))]), (.s (.bool false))]), [])
                   else K ((.t [(.a [(.s (.int .i64 (IntKind.wrap .i64 (List.getD d 0 (0 : Int))))), (.s (.int .i64 (IntKind.wrap .i64 (List.getD d 1 (0 : Int))))), (.s (.int .i64 (atD d (2 : Int)))), (.s (.int .i64 (atD d (4 : Int)))), (.s (.int .i64 (atD d (6 : Int)))), (.l .deep bytesR (([] : List Int) ++ (List.drop 9 d)))]), (.s (.bool true))]), [])))
                  ((bif (!((ByteArray.toList (bstr (reqBytesD ((IntKind.wrap .i64 (List.getD d 0 (0 : Int))), ((IntKind.wrap .i64 (List.getD d 1 (0 : Int))), ((atD d (2 : Int)), ((atD d (4 : Int)), ((atD d (6 : Int)), (([] : List Int) ++ (List.drop 9 d)))))))))) == (ByteArray.toList (bstr d)))) then
                   K ((.t [(.a [(.s (.int .i64 (0 : Int))), (.s (.int .i64 (0 : Int))), (.s (.int .i64 (0 : Int))), (.s (.int .i64 (0 : Int))), (.s (.int .i64 (0 : Int))), (.l .deep bytesR ([] : List Int))]), (.s (.bool false))]), [])
                   else K ((.t [(.a [(.s (.int .i64 (IntKind.wrap .i64 (List.getD d 0 (0 : Int))))), (.s (.int .i64 (IntKind.wrap .i64 (List.getD d 1 (0 : Int))))), (.s (.int .i64 (atD d (2 : Int)))), (.s (.int .i64 (atD d (4 : Int)))), (.s (.int .i64 (atD d (6 : Int)))), (.l .deep bytesR (([] : List Int) ++ (List.drop 9 d)))]), (.s (.bool true))]), []))))
                 else none))
                ((bif (fitB (([] : List Int) ++ (List.drop 9 d))) then
                 (bif (!((ByteArray.toList (bstr (reqBytesD ((IntKind.wrap .i64 (List.getD d 0 (0 : Int))), ((IntKind.wrap .i64 (List.getD d 1 (0 : Int))), ((atD d (2 : Int)), ((atD d (4 : Int)), ((atD d (6 : Int)), (([] : List Int) ++ (List.drop 9 d)))))))))) == (ByteArray.toList (bstr d)))) then
                  K ((.t [(.a [(.s (.int .i64 (0 : Int))), (.s (.int .i64 (0 : Int))), (.s (.int .i64 (0 : Int))), (.s (.int .i64 (0 : Int))), (.s (.int .i64 (0 : Int))), (.l .deep bytesR ([] : List Int))]), (.s (.bool false))]), [])
                  else K ((.t [(.a [(.s (.int .i64 (IntKind.wrap .i64 (List.getD d 0 (0 : Int))))), (.s (.int .i64 (IntKind.wrap .i64 (List.getD d 1 (0 : Int))))), (.s (.int .i64 (atD d (2 : Int)))), (.s (.int .i64 (atD d (4 : Int)))), (.s (.int .i64 (atD d (6 : Int)))), (.l .deep bytesR (([] : List Int) ++ (List.drop 9 d)))]), (.s (.bool true))]), []))
                 else none))))
              else none)
             else none))))
           ((bif (Nat.ble (((List.length ([] : List Int)) + (List.length (List.drop 9 d))) * 1) 140737488355328) then
            (bif (fitB (([] : List Int) ++ (List.drop 9 d))) then
             (bif (!(reqOkD ((IntKind.wrap .i64 (List.getD d 0 (0 : Int))), ((IntKind.wrap .i64 (List.getD d 1 (0 : Int))), ((atD d (2 : Int)), ((atD d (4 : Int)), ((atD d (6 : Int)), (([] : List Int) ++ (List.drop 9 d))))))))) then
              (meet
               ((meet
                (K ((.t [(.a [(.s (.int .i64 (0 : Int))), (.s (.int .i64 (0 : Int))), (.s (.int .i64 (0 : Int))), (.s (.int .i64 (0 : Int))), (.s (.int .i64 (0 : Int))), (.l .deep bytesR ([] : List Int))]), (.s (.bool false))]), []))
                (K ((.t [(.a [(.s (.int .i64 (0 : Int))), (.s (.int .i64 (0 : Int))), (.s (.int .i64 (0 : Int))), (.s (.int .i64 (0 : Int))), (.s (.int .i64 (0 : Int))), (.l .deep bytesR ([] : List Int))]), (.s (.bool false))]), []))))
               (K ((.t [(.a [(.s (.int .i64 (0 : Int))), (.s (.int .i64 (0 : Int))), (.s (.int .i64 (0 : Int))), (.s (.int .i64 (0 : Int))), (.s (.int .i64 (0 : Int))), (.l .deep bytesR ([] : List Int))]), (.s (.bool false))]), [])))
              else (meet
               ((bif (fitB (([] : List Int) ++ (List.drop 9 d))) then
                (meet
                 ((bif (!((ByteArray.toList (bstr (reqBytesD ((IntKind.wrap .i64 (List.getD d 0 (0 : Int))), ((IntKind.wrap .i64 (List.getD d 1 (0 : Int))), ((atD d (2 : Int)), ((atD d (4 : Int)), ((atD d (6 : Int)), (([] : List Int) ++ (List.drop 9 d)))))))))) == (ByteArray.toList (bstr d)))) then
                  K ((.t [(.a [(.s (.int .i64 (0 : Int))), (.s (.int .i64 (0 : Int))), (.s (.int .i64 (0 : Int))), (.s (.int .i64 (0 : Int))), (.s (.int .i64 (0 : Int))), (.l .deep bytesR ([] : List Int))]), (.s (.bool false))]), [])
                  else K ((.t [(.a [(.s (.int .i64 (IntKind.wrap .i64 (List.getD d 0 (0 : Int))))), (.s (.int .i64 (IntKind.wrap .i64 (List.getD d 1 (0 : Int))))), (.s (.int .i64 (atD d (2 : Int)))), (.s (.int .i64 (atD d (4 : Int)))), (.s (.int .i64 (atD d (6 : Int)))), (.l .deep bytesR (([] : List Int) ++ (List.drop 9 d)))]), (.s (.bool true))]), [])))
                 ((bif (!((ByteArray.toList (bstr (reqBytesD ((IntKind.wrap .i64 (List.getD d 0 (0 : Int))), ((IntKind.wrap .i64 (List.getD d 1 (0 : Int))), ((atD d (2 : Int)), ((atD d (4 : Int)), ((atD d (6 : Int)), (([] : List Int) ++ (List.drop 9 d)))))))))) == (ByteArray.toList (bstr d)))) then
                  K ((.t [(.a [(.s (.int .i64 (0 : Int))), (.s (.int .i64 (0 : Int))), (.s (.int .i64 (0 : Int))), (.s (.int .i64 (0 : Int))), (.s (.int .i64 (0 : Int))), (.l .deep bytesR ([] : List Int))]), (.s (.bool false))]), [])
                  else K ((.t [(.a [(.s (.int .i64 (IntKind.wrap .i64 (List.getD d 0 (0 : Int))))), (.s (.int .i64 (IntKind.wrap .i64 (List.getD d 1 (0 : Int))))), (.s (.int .i64 (atD d (2 : Int)))), (.s (.int .i64 (atD d (4 : Int)))), (.s (.int .i64 (atD d (6 : Int)))), (.l .deep bytesR (([] : List Int) ++ (List.drop 9 d)))]), (.s (.bool true))]), []))))
                else none))
               ((bif (fitB (([] : List Int) ++ (List.drop 9 d))) then
                (bif (!((ByteArray.toList (bstr (reqBytesD ((IntKind.wrap .i64 (List.getD d 0 (0 : Int))), ((IntKind.wrap .i64 (List.getD d 1 (0 : Int))), ((atD d (2 : Int)), ((atD d (4 : Int)), ((atD d (6 : Int)), (([] : List Int) ++ (List.drop 9 d)))))))))) == (ByteArray.toList (bstr d)))) then
                 K ((.t [(.a [(.s (.int .i64 (0 : Int))), (.s (.int .i64 (0 : Int))), (.s (.int .i64 (0 : Int))), (.s (.int .i64 (0 : Int))), (.s (.int .i64 (0 : Int))), (.l .deep bytesR ([] : List Int))]), (.s (.bool false))]), [])
                 else K ((.t [(.a [(.s (.int .i64 (IntKind.wrap .i64 (List.getD d 0 (0 : Int))))), (.s (.int .i64 (IntKind.wrap .i64 (List.getD d 1 (0 : Int))))), (.s (.int .i64 (atD d (2 : Int)))), (.s (.int .i64 (atD d (4 : Int)))), (.s (.int .i64 (atD d (6 : Int)))), (.l .deep bytesR (([] : List Int) ++ (List.drop 9 d)))]), (.s (.bool true))]), []))
                else none))))
             else none)
            else none)))
          else none))
         ((meet
          ((meet
           ((bif (((fitB d) && true) && (decide (((6 : Int) + (1 : Int)) < (((List.length d) : Nat) : Int)))) then
            (meet
             ((bif (Nat.ble (((List.length ([] : List Int)) + (List.length (List.drop 9 d))) * 1) 140737488355328) then
              (bif (fitB (([] : List Int) ++ (List.drop 9 d))) then
               (bif (!(reqOkD ((IntKind.wrap .i64 (List.getD d 0 (0 : Int))), ((IntKind.wrap .i64 (List.getD d 1 (0 : Int))), ((atD d (2 : Int)), ((atD d (4 : Int)), ((atD d (6 : Int)), (([] : List Int) ++ (List.drop 9 d))))))))) then
                (meet
                 ((meet
                  (K ((.t [(.a [(.s (.int .i64 (0 : Int))), (.s (.int .i64 (0 : Int))), (.s (.int .i64 (0 : Int))), (.s (.int .i64 (0 : Int))), (.s (.int .i64 (0 : Int))), (.l .deep bytesR ([] : List Int))]), (.s (.bool false))]), []))
                  (K ((.t [(.a [(.s (.int .i64 (0 : Int))), (.s (.int .i64 (0 : Int))), (.s (.int .i64 (0 : Int))), (.s (.int .i64 (0 : Int))), (.s (.int .i64 (0 : Int))), (.l .deep bytesR ([] : List Int))]), (.s (.bool false))]), []))))
                 (K ((.t [(.a [(.s (.int .i64 (0 : Int))), (.s (.int .i64 (0 : Int))), (.s (.int .i64 (0 : Int))), (.s (.int .i64 (0 : Int))), (.s (.int .i64 (0 : Int))), (.l .deep bytesR ([] : List Int))]), (.s (.bool false))]), [])))
                else (meet
                 ((bif (fitB (([] : List Int) ++ (List.drop 9 d))) then
                  (meet
                   ((bif (!((ByteArray.toList (bstr (reqBytesD ((IntKind.wrap .i64 (List.getD d 0 (0 : Int))), ((IntKind.wrap .i64 (List.getD d 1 (0 : Int))), ((atD d (2 : Int)), ((atD d (4 : Int)), ((atD d (6 : Int)), (([] : List Int) ++ (List.drop 9 d)))))))))) == (ByteArray.toList (bstr d)))) then
                    K ((.t [(.a [(.s (.int .i64 (0 : Int))), (.s (.int .i64 (0 : Int))), (.s (.int .i64 (0 : Int))), (.s (.int .i64 (0 : Int))), (.s (.int .i64 (0 : Int))), (.l .deep bytesR ([] : List Int))]), (.s (.bool false))]), [])
                    else K ((.t [(.a [(.s (.int .i64 (IntKind.wrap .i64 (List.getD d 0 (0 : Int))))), (.s (.int .i64 (IntKind.wrap .i64 (List.getD d 1 (0 : Int))))), (.s (.int .i64 (atD d (2 : Int)))), (.s (.int .i64 (atD d (4 : Int)))), (.s (.int .i64 (atD d (6 : Int)))), (.l .deep bytesR (([] : List Int) ++ (List.drop 9 d)))]), (.s (.bool true))]), [])))
                   ((bif (!((ByteArray.toList (bstr (reqBytesD ((IntKind.wrap .i64 (List.getD d 0 (0 : Int))), ((IntKind.wrap .i64 (List.getD d 1 (0 : Int))), ((atD d (2 : Int)), ((atD d (4 : Int)), ((atD d (6 : Int)), (([] : List Int) ++ (List.drop 9 d)))))))))) == (ByteArray.toList (bstr d)))) then
                    K ((.t [(.a [(.s (.int .i64 (0 : Int))), (.s (.int .i64 (0 : Int))), (.s (.int .i64 (0 : Int))), (.s (.int .i64 (0 : Int))), (.s (.int .i64 (0 : Int))), (.l .deep bytesR ([] : List Int))]), (.s (.bool false))]), [])
                    else K ((.t [(.a [(.s (.int .i64 (IntKind.wrap .i64 (List.getD d 0 (0 : Int))))), (.s (.int .i64 (IntKind.wrap .i64 (List.getD d 1 (0 : Int))))), (.s (.int .i64 (atD d (2 : Int)))), (.s (.int .i64 (atD d (4 : Int)))), (.s (.int .i64 (atD d (6 : Int)))), (.l .deep bytesR (([] : List Int) ++ (List.drop 9 d)))]), (.s (.bool true))]), []))))
                  else none))
                 ((bif (fitB (([] : List Int) ++ (List.drop 9 d))) then
                  (bif (!((ByteArray.toList (bstr (reqBytesD ((IntKind.wrap .i64 (List.getD d 0 (0 : Int))), ((IntKind.wrap .i64 (List.getD d 1 (0 : Int))), ((atD d (2 : Int)), ((atD d (4 : Int)), ((atD d (6 : Int)), (([] : List Int) ++ (List.drop 9 d)))))))))) == (ByteArray.toList (bstr d)))) then
                   K ((.t [(.a [(.s (.int .i64 (0 : Int))), (.s (.int .i64 (0 : Int))), (.s (.int .i64 (0 : Int))), (.s (.int .i64 (0 : Int))), (.s (.int .i64 (0 : Int))), (.l .deep bytesR ([] : List Int))]), (.s (.bool false))]), [])
                   else K ((.t [(.a [(.s (.int .i64 (IntKind.wrap .i64 (List.getD d 0 (0 : Int))))), (.s (.int .i64 (IntKind.wrap .i64 (List.getD d 1 (0 : Int))))), (.s (.int .i64 (atD d (2 : Int)))), (.s (.int .i64 (atD d (4 : Int)))), (.s (.int .i64 (atD d (6 : Int)))), (.l .deep bytesR (([] : List Int) ++ (List.drop 9 d)))]), (.s (.bool true))]), []))
                  else none))))
               else none)
              else none))
             ((bif (Nat.ble (((List.length ([] : List Int)) + (List.length (List.drop 9 d))) * 1) 140737488355328) then
              (bif (fitB (([] : List Int) ++ (List.drop 9 d))) then
               (bif (!(reqOkD ((IntKind.wrap .i64 (List.getD d 0 (0 : Int))), ((IntKind.wrap .i64 (List.getD d 1 (0 : Int))), ((atD d (2 : Int)), ((atD d (4 : Int)), ((atD d (6 : Int)), (([] : List Int) ++ (List.drop 9 d))))))))) then
                (meet
                 ((meet
                  (K ((.t [(.a [(.s (.int .i64 (0 : Int))), (.s (.int .i64 (0 : Int))), (.s (.int .i64 (0 : Int))), (.s (.int .i64 (0 : Int))), (.s (.int .i64 (0 : Int))), (.l .deep bytesR ([] : List Int))]), (.s (.bool false))]), []))
                  (K ((.t [(.a [(.s (.int .i64 (0 : Int))), (.s (.int .i64 (0 : Int))), (.s (.int .i64 (0 : Int))), (.s (.int .i64 (0 : Int))), (.s (.int .i64 (0 : Int))), (.l .deep bytesR ([] : List Int))]), (.s (.bool false))]), []))))
                 (K ((.t [(.a [(.s (.int .i64 (0 : Int))), (.s (.int .i64 (0 : Int))), (.s (.int .i64 (0 : Int))), (.s (.int .i64 (0 : Int))), (.s (.int .i64 (0 : Int))), (.l .deep bytesR ([] : List Int))]), (.s (.bool false))]), [])))
                else (meet
                 ((bif (fitB (([] : List Int) ++ (List.drop 9 d))) then
                  (meet
                   ((bif (!((ByteArray.toList (bstr (reqBytesD ((IntKind.wrap .i64 (List.getD d 0 (0 : Int))), ((IntKind.wrap .i64 (List.getD d 1 (0 : Int))), ((atD d (2 : Int)), ((atD d (4 : Int)), ((atD d (6 : Int)), (([] : List Int) ++ (List.drop 9 d)))))))))) == (ByteArray.toList (bstr d)))) then
                    K ((.t [(.a [(.s (.int .i64 (0 : Int))), (.s (.int .i64 (0 : Int))), (.s (.int .i64 (0 : Int))), (.s (.int .i64 (0 : Int))), (.s (.int .i64 (0 : Int))), (.l .deep bytesR ([] : List Int))]), (.s (.bool false))]), [])
                    else K ((.t [(.a [(.s (.int .i64 (IntKind.wrap .i64 (List.getD d 0 (0 : Int))))), (.s (.int .i64 (IntKind.wrap .i64 (List.getD d 1 (0 : Int))))), (.s (.int .i64 (atD d (2 : Int)))), (.s (.int .i64 (atD d (4 : Int)))), (.s (.int .i64 (atD d (6 : Int)))), (.l .deep bytesR (([] : List Int) ++ (List.drop 9 d)))]), (.s (.bool true))]), [])))
                   ((bif (!((ByteArray.toList (bstr (reqBytesD ((IntKind.wrap .i64 (List.getD d 0 (0 : Int))), ((IntKind.wrap .i64 (List.getD d 1 (0 : Int))), ((atD d (2 : Int)), ((atD d (4 : Int)), ((atD d (6 : Int)), (([] : List Int) ++ (List.drop 9 d)))))))))) == (ByteArray.toList (bstr d)))) then
                    K ((.t [(.a [(.s (.int .i64 (0 : Int))), (.s (.int .i64 (0 : Int))), (.s (.int .i64 (0 : Int))), (.s (.int .i64 (0 : Int))), (.s (.int .i64 (0 : Int))), (.l .deep bytesR ([] : List Int))]), (.s (.bool false))]), [])
                    else K ((.t [(.a [(.s (.int .i64 (IntKind.wrap .i64 (List.getD d 0 (0 : Int))))), (.s (.int .i64 (IntKind.wrap .i64 (List.getD d 1 (0 : Int))))), (.s (.int .i64 (atD d (2 : Int)))), (.s (.int .i64 (atD d (4 : Int)))), (.s (.int .i64 (atD d (6 : Int)))), (.l .deep bytesR (([] : List Int) ++ (List.drop 9 d)))]), (.s (.bool true))]), []))))
                  else none))
                 ((bif (fitB (([] : List Int) ++ (List.drop 9 d))) then
                  (bif (!((ByteArray.toList (bstr (reqBytesD ((IntKind.wrap .i64 (List.getD d 0 (0 : Int))), ((IntKind.wrap .i64 (List.getD d 1 (0 : Int))), ((atD d (2 : Int)), ((atD d (4 : Int)), ((atD d (6 : Int)), (([] : List Int) ++ (List.drop 9 d)))))))))) == (ByteArray.toList (bstr d)))) then
                   K ((.t [(.a [(.s (.int .i64 (0 : Int))), (.s (.int .i64 (0 : Int))), (.s (.int .i64 (0 : Int))), (.s (.int .i64 (0 : Int))), (.s (.int .i64 (0 : Int))), (.l .deep bytesR ([] : List Int))]), (.s (.bool false))]), [])
                   else K ((.t [(.a [(.s (.int .i64 (IntKind.wrap .i64 (List.getD d 0 (0 : Int))))), (.s (.int .i64 (IntKind.wrap .i64 (List.getD d 1 (0 : Int))))), (.s (.int .i64 (atD d (2 : Int)))), (.s (.int .i64 (atD d (4 : Int)))), (.s (.int .i64 (atD d (6 : Int)))), (.l .deep bytesR (([] : List Int) ++ (List.drop 9 d)))]), (.s (.bool true))]), []))
                  else none))))
               else none)
              else none)))
            else none))
           ((bif (((fitB d) && true) && (decide (((6 : Int) + (1 : Int)) < (((List.length d) : Nat) : Int)))) then
            (bif (Nat.ble (((List.length ([] : List Int)) + (List.length (List.drop 9 d))) * 1) 140737488355328) then
             (bif (fitB (([] : List Int) ++ (List.drop 9 d))) then
              (bif (!(reqOkD ((IntKind.wrap .i64 (List.getD d 0 (0 : Int))), ((IntKind.wrap .i64 (List.getD d 1 (0 : Int))), ((atD d (2 : Int)), ((atD d (4 : Int)), ((atD d (6 : Int)), (([] : List Int) ++ (List.drop 9 d))))))))) then
               (meet
                ((meet
                 (K ((.t [(.a [(.s (.int .i64 (0 : Int))), (.s (.int .i64 (0 : Int))), (.s (.int .i64 (0 : Int))), (.s (.int .i64 (0 : Int))), (.s (.int .i64 (0 : Int))), (.l .deep bytesR ([] : List Int))]), (.s (.bool false))]), []))
                 (K ((.t [(.a [(.s (.int .i64 (0 : Int))), (.s (.int .i64 (0 : Int))), (.s (.int .i64 (0 : Int))), (.s (.int .i64 (0 : Int))), (.s (.int .i64 (0 : Int))), (.l .deep bytesR ([] : List Int))]), (.s (.bool false))]), []))))
                (K ((.t [(.a [(.s (.int .i64 (0 : Int))), (.s (.int .i64 (0 : Int))), (.s (.int .i64 (0 : Int))), (.s (.int .i64 (0 : Int))), (.s (.int .i64 (0 : Int))), (.l .deep bytesR ([] : List Int))]), (.s (.bool false))]), [])))
               else (meet
                ((bif (fitB (([] : List Int) ++ (List.drop 9 d))) then
                 (meet
                  ((bif (!((ByteArray.toList (bstr (reqBytesD ((IntKind.wrap .i64 (List.getD d 0 (0 : Int))), ((IntKind.wrap .i64 (List.getD d 1 (0 : Int))), ((atD d (2 : Int)), ((atD d (4 : Int)), ((atD d (6 : Int)), (([] : List Int) ++ (List.drop 9 d)))))))))) == (ByteArray.toList (bstr d)))) then
                   K ((.t [(.a [(.s (.int .i64 (0 : Int))), (.s (.int .i64 (0 : Int))), (.s (.int .i64 (0 : Int))), (.s (.int .i64 (0 : Int))), (.s (.int .i64 (0 : Int))), (.l .deep bytesR ([] : List Int))]), (.s (.bool false))]), [])
                   else K ((.t [(.a [(.s (.int .i64 (IntKind.wrap .i64 (List.getD d 0 (0 : Int))))), (.s (.int .i64 (IntKind.wrap .i64 (List.getD d 1 (0 : Int))))), (.s (.int .i64 (atD d (2 : Int)))), (.s (.int .i64 (atD d (4 : Int)))), (.s (.int .i64 (atD d (6 : Int)))), (.l .deep bytesR (([] : List Int) ++ (List.drop 9 d)))]), (.s (.bool true))]), [])))
                  ((bif (!((ByteArray.toList (bstr (reqBytesD ((IntKind.wrap .i64 (List.getD d 0 (0 : Int))), ((IntKind.wrap .i64 (List.getD d 1 (0 : Int))), ((atD d (2 : Int)), ((atD d (4 : Int)), ((atD d (6 : Int)), (([] : List Int) ++ (List.drop 9 d)))))))))) == (ByteArray.toList (bstr d)))) then
                   K ((.t [(.a [(.s (.int .i64 (0 : Int))), (.s (.int .i64 (0 : Int))), (.s (.int .i64 (0 : Int))), (.s (.int .i64 (0 : Int))), (.s (.int .i64 (0 : Int))), (.l .deep bytesR ([] : List Int))]), (.s (.bool false))]), [])
                   else K ((.t [(.a [(.s (.int .i64 (IntKind.wrap .i64 (List.getD d 0 (0 : Int))))), (.s (.int .i64 (IntKind.wrap .i64 (List.getD d 1 (0 : Int))))), (.s (.int .i64 (atD d (2 : Int)))), (.s (.int .i64 (atD d (4 : Int)))), (.s (.int .i64 (atD d (6 : Int)))), (.l .deep bytesR (([] : List Int) ++ (List.drop 9 d)))]), (.s (.bool true))]), []))))
                 else none))
                ((bif (fitB (([] : List Int) ++ (List.drop 9 d))) then
                 (bif (!((ByteArray.toList (bstr (reqBytesD ((IntKind.wrap .i64 (List.getD d 0 (0 : Int))), ((IntKind.wrap .i64 (List.getD d 1 (0 : Int))), ((atD d (2 : Int)), ((atD d (4 : Int)), ((atD d (6 : Int)), (([] : List Int) ++ (List.drop 9 d)))))))))) == (ByteArray.toList (bstr d)))) then
                  K ((.t [(.a [(.s (.int .i64 (0 : Int))), (.s (.int .i64 (0 : Int))), (.s (.int .i64 (0 : Int))), (.s (.int .i64 (0 : Int))), (.s (.int .i64 (0 : Int))), (.l .deep bytesR ([] : List Int))]), (.s (.bool false))]), [])
                  else K ((.t [(.a [(.s (.int .i64 (IntKind.wrap .i64 (List.getD d 0 (0 : Int))))), (.s (.int .i64 (IntKind.wrap .i64 (List.getD d 1 (0 : Int))))), (.s (.int .i64 (atD d (2 : Int)))), (.s (.int .i64 (atD d (4 : Int)))), (.s (.int .i64 (atD d (6 : Int)))), (.l .deep bytesR (([] : List Int) ++ (List.drop 9 d)))]), (.s (.bool true))]), []))
                 else none))))
              else none)
             else none)
            else none))))
          ((meet
           ((bif (((fitB d) && true) && (decide (((6 : Int) + (1 : Int)) < (((List.length d) : Nat) : Int)))) then
            (bif (Nat.ble (((List.length ([] : List Int)) + (List.length (List.drop 9 d))) * 1) 140737488355328) then
             (bif (fitB (([] : List Int) ++ (List.drop 9 d))) then
              (bif (!(reqOkD ((IntKind.wrap .i64 (List.getD d 0 (0 : Int))), ((IntKind.wrap .i64 (List.getD d 1 (0 : Int))), ((atD d (2 : Int)), ((atD d (4 : Int)), ((atD d (6 : Int)), (([] : List Int) ++ (List.drop 9 d))))))))) then
               (meet
                ((meet
                 (K ((.t [(.a [(.s (.int .i64 (0 : Int))), (.s (.int .i64 (0 : Int))), (.s (.int .i64 (0 : Int))), (.s (.int .i64 (0 : Int))), (.s (.int .i64 (0 : Int))), (.l .deep bytesR ([] : List Int))]), (.s (.bool false))]), []))
                 (K ((.t [(.a [(.s (.int .i64 (0 : Int))), (.s (.int .i64 (0 : Int))), (.s (.int .i64 (0 : Int))), (.s (.int .i64 (0 : Int))), (.s (.int .i64 (0 : Int))), (.l .deep bytesR ([] : List Int))]), (.s (.bool false))]), []))))
                (K ((.t [(.a [(.s (.int .i64 (0 : Int))), (.s (.int .i64 (0 : Int))), (.s (.int .i64 (0 : Int))), (.s (.int .i64 (0 : Int))), (.s (.int .i64 (0 : Int))), (.l .deep bytesR ([] : List Int))]), (.s (.bool false))]), [])))
               else (meet
                ((bif (fitB (([] : List Int) ++ (List.drop 9 d))) then
                 (meet
                  ((bif (!((ByteArray.toList (bstr (reqBytesD ((IntKind.wrap .i64 (List.getD d 0 (0 : Int))), ((IntKind.wrap .i64 (List.getD d 1 (0 : Int))), ((atD d (2 : Int)), ((atD d (4 : Int)), ((atD d (6 : Int)), (([] : List Int) ++ (List.drop 9 d)))))))))) == (ByteArray.toList (bstr d)))) then
                   K ((.t [(.a [(.s (.int .i64 (0 : Int))), (.s (.int .i64 (0 : Int))), (.s (.int .i64 (0 : Int))), (.s (.int .i64 (0 : Int))), (.s (.int .i64 (0 : Int))), (.l .deep bytesR ([] : List Int))]), (.s (.bool false))]), [])
                   else K ((.t [(.a [(.s (.int .i64 (IntKind.wrap .i64 (List.getD d 0 (0 : Int))))), (.s (.int .i64 (IntKind.wrap .i64 (List.getD d 1 (0 : Int))))), (.s (.int .i64 (atD d (2 : Int)))), (.s (.int .i64 (atD d (4 : Int)))), (.s (.int .i64 (atD d (6 : Int)))), (.l .deep bytesR (([] : List Int) ++ (List.drop 9 d)))]), (.s (.bool true))]), [])))
                  ((bif (!((ByteArray.toList (bstr (reqBytesD ((IntKind.wrap .i64 (List.getD d 0 (0 : Int))), ((IntKind.wrap .i64 (List.getD d 1 (0 : Int))), ((atD d (2 : Int)), ((atD d (4 : Int)), ((atD d (6 : Int)), (([] : List Int) ++ (List.drop 9 d)))))))))) == (ByteArray.toList (bstr d)))) then
                   K ((.t [(.a [(.s (.int .i64 (0 : Int))), (.s (.int .i64 (0 : Int))), (.s (.int .i64 (0 : Int))), (.s (.int .i64 (0 : Int))), (.s (.int .i64 (0 : Int))), (.l .deep bytesR ([] : List Int))]), (.s (.bool false))]), [])
                   else K ((.t [(.a [(.s (.int .i64 (IntKind.wrap .i64 (List.getD d 0 (0 : Int))))), (.s (.int .i64 (IntKind.wrap .i64 (List.getD d 1 (0 : Int))))), (.s (.int .i64 (atD d (2 : Int)))), (.s (.int .i64 (atD d (4 : Int)))), (.s (.int .i64 (atD d (6 : Int)))), (.l .deep bytesR (([] : List Int) ++ (List.drop 9 d)))]), (.s (.bool true))]), []))))
                 else none))
                ((bif (fitB (([] : List Int) ++ (List.drop 9 d))) then
                 (bif (!((ByteArray.toList (bstr (reqBytesD ((IntKind.wrap .i64 (List.getD d 0 (0 : Int))), ((IntKind.wrap .i64 (List.getD d 1 (0 : Int))), ((atD d (2 : Int)), ((atD d (4 : Int)), ((atD d (6 : Int)), (([] : List Int) ++ (List.drop 9 d)))))))))) == (ByteArray.toList (bstr d)))) then
                  K ((.t [(.a [(.s (.int .i64 (0 : Int))), (.s (.int .i64 (0 : Int))), (.s (.int .i64 (0 : Int))), (.s (.int .i64 (0 : Int))), (.s (.int .i64 (0 : Int))), (.l .deep bytesR ([] : List Int))]), (.s (.bool false))]), [])
                  else K ((.t [(.a [(.s (.int .i64 (IntKind.wrap .i64 (List.getD d 0 (0 : Int))))), (.s (.int .i64 (IntKind.wrap .i64 (List.getD d 1 (0 : Int))))), (.s (.int .i64 (atD d (2 : Int)))), (.s (.int .i64 (atD d (4 : Int)))), (.s (.int .i64 (atD d (6 : Int)))), (.l .deep bytesR (([] : List Int) ++ (List.drop 9 d)))]), (.s (.bool true))]), []))
                 else none))))
              else none)
             else none)
            else none))
           ((bif (((fitB d) && true) && (decide (((6 : Int) + (1 : Int)) < (((List.length d) : Nat) : Int)))) then
            (bif (Nat.ble (((List.length ([] : List Int)) + (List.length (List.drop 9 d))) * 1) 140737488355328) then
             (bif (fitB (([] : List Int) ++ (List.drop 9 d))) then
              (bif (!(reqOkD ((IntKind.wrap .i64 (List.getD d 0 (0 : Int))), ((IntKind.wrap .i64 (List.getD d 1 (0 : Int))), ((atD d (2 : Int)), ((atD d (4 : Int)), ((atD d (6 : Int)), (([] : List Int) ++ (List.drop 9 d))))))))) then
               (meet
                ((meet
                 (K ((.t [(.a [(.s (.int .i64 (0 : Int))), (.s (.int .i64 (0 : Int))), (.s (.int .i64 (0 : Int))), (.s (.int .i64 (0 : Int))), (.s (.int .i64 (0 : Int))), (.l .deep bytesR ([] : List Int))]), (.s (.bool false))]), []))
                 (K ((.t [(.a [(.s (.int .i64 (0 : Int))), (.s (.int .i64 (0 : Int))), (.s (.int .i64 (0 : Int))), (.s (.int .i64 (0 : Int))), (.s (.int .i64 (0 : Int))), (.l .deep bytesR ([] : List Int))]), (.s (.bool false))]), []))))
                (K ((.t [(.a [(.s (.int .i64 (0 : Int))), (.s (.int .i64 (0 : Int))), (.s (.int .i64 (0 : Int))), (.s (.int .i64 (0 : Int))), (.s (.int .i64 (0 : Int))), (.l .deep bytesR ([] : List Int))]), (.s (.bool false))]), [])))
               else (meet
                ((bif (fitB (([] : List Int) ++ (List.drop 9 d))) then
                 (meet
                  ((bif (!((ByteArray.toList (bstr (reqBytesD ((IntKind.wrap .i64 (List.getD d 0 (0 : Int))), ((IntKind.wrap .i64 (List.getD d 1 (0 : Int))), ((atD d (2 : Int)), ((atD d (4 : Int)), ((atD d (6 : Int)), (([] : List Int) ++ (List.drop 9 d)))))))))) == (ByteArray.toList (bstr d)))) then
                   K ((.t [(.a [(.s (.int .i64 (0 : Int))), (.s (.int .i64 (0 : Int))), (.s (.int .i64 (0 : Int))), (.s (.int .i64 (0 : Int))), (.s (.int .i64 (0 : Int))), (.l .deep bytesR ([] : List Int))]), (.s (.bool false))]), [])
                   else K ((.t [(.a [(.s (.int .i64 (IntKind.wrap .i64 (List.getD d 0 (0 : Int))))), (.s (.int .i64 (IntKind.wrap .i64 (List.getD d 1 (0 : Int))))), (.s (.int .i64 (atD d (2 : Int)))), (.s (.int .i64 (atD d (4 : Int)))), (.s (.int .i64 (atD d (6 : Int)))), (.l .deep bytesR (([] : List Int) ++ (List.drop 9 d)))]), (.s (.bool true))]), [])))
                  ((bif (!((ByteArray.toList (bstr (reqBytesD ((IntKind.wrap .i64 (List.getD d 0 (0 : Int))), ((IntKind.wrap .i64 (List.getD d 1 (0 : Int))), ((atD d (2 : Int)), ((atD d (4 : Int)), ((atD d (6 : Int)), (([] : List Int) ++ (List.drop 9 d)))))))))) == (ByteArray.toList (bstr d)))) then
                   K ((.t [(.a [(.s (.int .i64 (0 : Int))), (.s (.int .i64 (0 : Int))), (.s (.int .i64 (0 : Int))), (.s (.int .i64 (0 : Int))), (.s (.int .i64 (0 : Int))), (.l .deep bytesR ([] : List Int))]), (.s (.bool false))]), [])
                   else K ((.t [(.a [(.s (.int .i64 (IntKind.wrap .i64 (List.getD d 0 (0 : Int))))), (.s (.int .i64 (IntKind.wrap .i64 (List.getD d 1 (0 : Int))))), (.s (.int .i64 (atD d (2 : Int)))), (.s (.int .i64 (atD d (4 : Int)))), (.s (.int .i64 (atD d (6 : Int)))), (.l .deep bytesR (([] : List Int) ++ (List.drop 9 d)))]), (.s (.bool true))]), []))))
                 else none))
                ((bif (fitB (([] : List Int) ++ (List.drop 9 d))) then
                 (bif (!((ByteArray.toList (bstr (reqBytesD ((IntKind.wrap .i64 (List.getD d 0 (0 : Int))), ((IntKind.wrap .i64 (List.getD d 1 (0 : Int))), ((atD d (2 : Int)), ((atD d (4 : Int)), ((atD d (6 : Int)), (([] : List Int) ++ (List.drop 9 d)))))))))) == (ByteArray.toList (bstr d)))) then
                  K ((.t [(.a [(.s (.int .i64 (0 : Int))), (.s (.int .i64 (0 : Int))), (.s (.int .i64 (0 : Int))), (.s (.int .i64 (0 : Int))), (.s (.int .i64 (0 : Int))), (.l .deep bytesR ([] : List Int))]), (.s (.bool false))]), [])
                  else K ((.t [(.a [(.s (.int .i64 (IntKind.wrap .i64 (List.getD d 0 (0 : Int))))), (.s (.int .i64 (IntKind.wrap .i64 (List.getD d 1 (0 : Int))))), (.s (.int .i64 (atD d (2 : Int)))), (.s (.int .i64 (atD d (4 : Int)))), (.s (.int .i64 (atD d (6 : Int)))), (.l .deep bytesR (([] : List Int) ++ (List.drop 9 d)))]), (.s (.bool true))]), []))
                 else none))))
              else none)
             else none)
            else none)))))))
        else none))
       ((meet
        ((meet
         ((bif (((fitB d) && true) && (decide (((4 : Int) + (1 : Int)) < (((List.length d) : Nat) : Int)))) then
          (meet
           ((bif (((fitB d) && true) && (decide (((6 : Int) + (1 : Int)) < (((List.length d) : Nat) : Int)))) then
            (meet
             ((bif (Nat.ble (((List.length ([] : List Int)) + (List.length (List.drop 9 d))) * 1) 140737488355328) then
              (bif (fitB (([] : List Int) ++ (List.drop 9 d))) then
               (bif (!(reqOkD ((IntKind.wrap .i64 (List.getD d 0 (0 : Int))), ((IntKind.wrap .i64 (List.getD d 1 (0 : Int))), ((atD d (2 : Int)), ((atD d (4 : Int)), ((atD d (6 : Int)), (([] : List Int) ++ (List.drop 9 d))))))))) then
                (meet
                 ((meet
                  (K ((.t [(.a [(.s (.int .i64 (0 : Int))), (.s (.int .i64 (0 : Int))), (.s (.int .i64 (0 : Int))), (.s (.int .i64 (0 : Int))), (.s (.int .i64 (0 : Int))), (.l .deep bytesR ([] : List Int))]), (.s (.bool false))]), []))
                  (K ((.t [(.a [(.s (.int .i64 (0 : Int))), (.s (.int .i64 (0 : Int))), (.s (.int .i64 (0 : Int))), (.s (.int .i64 (0 : Int))), (.s (.int .i64 (0 : Int))), (.l .deep bytesR ([] : List Int))]), (.s (.bool false))]), []))))
                 (K ((.t [(.a [(.s (.int .i64 (0 : Int))), (.s (.int .i64 (0 : Int))), (.s (.int .i64 (0 : Int))), (.s (.int .i64 (0 : Int))), (.s (.int .i64 (0 : Int))), (.l .deep bytesR ([] : List Int))]), (.s (.bool false))]), [])))
                else (meet
                 ((bif (fitB (([] : List Int) ++ (List.drop 9 d))) then
                  (meet
                   ((bif (!((ByteArray.toList (bstr (reqBytesD ((IntKind.wrap .i64 (List.getD d 0 (0 : Int))), ((IntKind.wrap .i64 (List.getD d 1 (0 : Int))), ((atD d (2 : Int)), ((atD d (4 : Int)), ((atD d (6 : Int)), (([] : List Int) ++ (List.drop 9 d)))))))))) == (ByteArray.toList (bstr d)))) then
                    K ((.t [(.a [(.s (.int .i64 (0 : Int))), (.s (.int .i64 (0 : Int))), (.s (.int .i64 (0 : Int))), (.s (.int .i64 (0 : Int))), (.s (.int .i64 (0 : Int))), (.l .deep bytesR ([] : List Int))]), (.s (.bool false))]), [])
                    else K ((.t [(.a [(.s (.int .i64 (IntKind.wrap .i64 (List.getD d 0 (0 : Int))))), (.s (.int .i64 (IntKind.wrap .i64 (List.getD d 1 (0 : Int))))), (.s (.int .i64 (atD d (2 : Int)))), (.s (.int .i64 (atD d (4 : Int)))), (.s (.int .i64 (atD d (6 : Int)))), (.l .deep bytesR (([] : List Int) ++ (List.drop 9 d)))]), (.s (.bool true))]), [])))
                   ((bif (!((ByteArray.toList (bstr (reqBytesD ((IntKind.wrap .i64 (List.getD d 0 (0 : Int))), ((IntKind.wrap .i64 (List.getD d 1 (0 : Int))), ((atD d (2 : Int)), ((atD d (4 : Int)), ((atD d (6 : Int)), (([] : List Int) ++ (List.drop 9 d)))))))))) == (ByteArray.toList (bstr d)))) then
                    K ((.t [(.a [(.s (.int .i64 (0 : Int))), (.s (.int .i64 (0 : Int))), (.s (.int .i64 (0 : Int))), (.s (.int .i64 (0 : Int))), (.s (.int .i64 (0 : Int))), (.l .deep bytesR ([] : List Int))]), (.s (.bool false))]), [])
                    else K ((.t [(.a [(.s (.int .i64 (IntKind.wrap .i64 (List.getD d 0 (0 : Int))))), (.s (.int .i64 (IntKind.wrap .i64 (List.getD d 1 (0 : Int))))), (.s (.int .i64 (atD d (2 : Int)))), (.s (.int .i64 (atD d (4 : Int)))), (.s (.int .i64 (atD d (6 : Int)))), (.l .deep bytesR (([] : List Int) ++ (List.drop 9 d)))]), (.s (.bool true))]), []))))
                  else none))
                 ((bif (fitB (([] : List Int) ++ (List.drop 9 d))) then
                  (bif (!((ByteArray.toList (bstr (reqBytesD ((IntKind.wrap .i64 (List.getD d 0 (0 : Int))), ((IntKind.wrap .i64 (List.getD d 1 (0 : Int))), ((atD d (2 : Int)), ((atD d (4 : Int)), ((atD d (6 : Int)), (([] : List Int) ++ (List.drop 9 d)))))))))) == (ByteArray.toList (bstr d)))) then
                   K ((.t [(.a [(.s (.int .i64 (0 : Int))), (.s (.int .i64 (0 : Int))), (.s (.int .i64 (0 : Int))), (.s (.int .i64 (0 : Int))), (.s (.int .i64 (0 : Int))), (.l .deep bytesR ([] : List Int))]), (.s (.bool false))]), [])
                   else K ((.t [(.a [(.s (.int .i64 (IntKind.wrap .i64 (List.getD d 0 (0 : Int))))), (.s (.int .i64 (IntKind.wrap .i64 (List.getD d 1 (0 : Int))))), (.s (.int .i64 (atD d (2 : Int)))), (.s (.int .i64 (atD d (4 : Int)))), (.s (.int .i64 (atD d (6 : Int)))), (.l .deep bytesR (([] : List Int) ++ (List.drop 9 d)))]), (.s (.bool true))]), []))
                  else none))))
               else none)
              else none))
             ((bif (Nat.ble (((List.length ([] : List Int)) + (List.length (List.drop 9 d))) * 1) 140737488355328) then
              (bif (fitB (([] : List Int) ++ (List.drop 9 d))) then
               (bif (!(reqOkD ((IntKind.wrap .i64 (List.getD d 0 (0 : Int))), ((IntKind.wrap .i64 (List.getD d 1 (0 : Int))), ((atD d (2 : Int)), ((atD d (4 : Int)), ((atD d (6 : Int)), (([] : List Int) ++ (List.drop 9 d))))))))) then
                (meet
                 ((meet
                  (K ((.t [(.a [(.s (.int .i64 (0 : Int))), (.s (.int .i64 (0 : Int))), (.s (.int .i64 (0 : Int))), (.s (.int .i64 (0 : Int))), (.s (.int .i64 (0 : Int))), (.l .deep bytesR ([] : List Int))]), (.s (.bool false))]), []))
                  (K ((.t [(.a [(.s (.int .i64 (0 : Int))), (.s (.int .i64 (0 : Int))), (.s (.int .i64 (0 : Int))), (.s (.int .i64 (0 : Int))), (.s (.int .i64 (0 : Int))), (.l .deep bytesR ([] : List Int))]), (.s (.bool false))]), []))))
                 (K ((.t [(.a [(.s (.int .i64 (0 : Int))), (.s (.int .i64 (0 : Int))), (.s (.int .i64 (0 : Int))), (.s (.int .i64 (0 : Int))), (.s (.int .i64 (0 : Int))), (.l .deep bytesR ([] : List Int))]), (.s (.bool false))]), [])))
                else (meet
                 ((bif (fitB (([] : List Int) ++ (List.drop 9 d))) then
                  (meet
                   ((bif (!((ByteArray.toList (bstr (reqBytesD ((IntKind.wrap .i64 (List.getD d 0 (0 : Int))), ((IntKind.wrap .i64 (List.getD d 1 (0 : Int))), ((atD d (2 : Int)), ((atD d (4 : Int)), ((atD d (6 : Int)), (([] : List Int) ++ (List.drop 9 d)))))))))) == (ByteArray.toList (bstr d)))) then
                    K ((.t [(.a [(.s (.int .i64 (0 : Int))), (.s (.int .i64 (0 : Int))), (.s (.int .i64 (0 : Int))), (.s (.int .i64 (0 : Int))), (.s (.int .i64 (0 : Int))), (.l .deep bytesR ([] : List Int))]), (.s (.bool false))]), [])
                    else K ((.t [(.a [(.s (.int .i64 (IntKind.wrap .i64 (List.getD d 0 (0 : Int))))), (.s (.int .i64 (IntKind.wrap .i64 (List.getD d 1 (0 : Int))))), (.s (.int .i64 (atD d (2 : Int)))), (.s (.int .i64 (atD d (4 : Int)))), (.s (.int .i64 (atD d (6 : Int)))), (.l .deep bytesR (([] : List Int) ++ (List.drop 9 d)))]), (.s (.bool true))]), [])))
                   ((bif (!((ByteArray.toList (bstr (reqBytesD ((IntKind.wrap .i64 (List.getD d 0 (0 : Int))), ((IntKind.wrap .i64 (List.getD d 1 (0 : Int))), ((atD d (2 : Int)), ((atD d (4 : Int)), ((atD d (6 : Int)), (([] : List Int) ++ (List.drop 9 d)))))))))) == (ByteArray.toList (bstr d)))) then
                    K ((.t [(.a [(.s (.int .i64 (0 : Int))), (.s (.int .i64 (0 : Int))), (.s (.int .i64 (0 : Int))), (.s (.int .i64 (0 : Int))), (.s (.int .i64 (0 : Int))), (.l .deep bytesR ([] : List Int))]), (.s (.bool false))]), [])
                    else K ((.t [(.a [(.s (.int .i64 (IntKind.wrap .i64 (List.getD d 0 (0 : Int))))), (.s (.int .i64 (IntKind.wrap .i64 (List.getD d 1 (0 : Int))))), (.s (.int .i64 (atD d (2 : Int)))), (.s (.int .i64 (atD d (4 : Int)))), (.s (.int .i64 (atD d (6 : Int)))), (.l .deep bytesR (([] : List Int) ++ (List.drop 9 d)))]), (.s (.bool true))]), []))))
                  else none))
                 ((bif (fitB (([] : List Int) ++ (List.drop 9 d))) then
                  (bif (!((ByteArray.toList (bstr (reqBytesD ((IntKind.wrap .i64 (List.getD d 0 (0 : Int))), ((IntKind.wrap .i64 (List.getD d 1 (0 : Int))), ((atD d (2 : Int)), ((atD d (4 : Int)), ((atD d (6 : Int)), (([] : List Int) ++ (List.drop 9 d)))))))))) == (ByteArray.toList (bstr d)))) then
                   K ((.t [(.a [(.s (.int .i64 (0 : Int))), (.s (.int .i64 (0 : Int))), (.s (.int .i64 (0 : Int))), (.s (.int .i64 (0 : Int))), (.s (.int .i64 (0 : Int))), (.l .deep bytesR ([] : List Int))]), (.s (.bool false))]), [])
                   else K ((.t [(.a [(.s (.int .i64 (IntKind.wrap .i64 (List.getD d 0 (0 : Int))))), (.s (.int .i64 (IntKind.wrap .i64 (List.getD d 1 (0 : Int))))), (.s (.int .i64 (atD d (2 : Int)))), (.s (.int .i64 (atD d (4 : Int)))), (.s (.int .i64 (atD d (6 : Int)))), (.l .deep bytesR (([] : List Int) ++ (List.drop 9 d)))]), (.s (.bool true))]), []))
                  else none))))
               else none)
              else none)))
            else none))
           ((bif (((fitB d) && true) && (decide (((6 : Int) + (1 : Int)) < (((List.length d) : Nat) : Int)))) then
            (bif (Nat.ble (((List.length ([] : List Int)) + (List.length (List.drop 9 d))) * 1) 140737488355328) then
             (bif (fitB (([] : List Int) ++ (List.drop 9 d))) then
              (bif (!(reqOkD ((IntKind.wrap .i64 (List.getD d 0 (0 : Int))), ((IntKind.wrap .i64 (List.getD d 1 (0 : Int))), ((atD d (2 : Int)), ((atD d (4 : Int)), ((atD d (6 : Int)), (([] : List Int) ++ (List.drop 9 d))))))))) then
               (meet
                ((meet
                 (K ((.t [(.a [(.s (.int .i64 (0 : Int))), (.s (.int .i64 (0 : Int))), (.s (.int .i64 (0 : Int))), (.s (.int .i64 (0 : Int))), (.s (.int .i64 (0 : Int))), (.l .deep bytesR ([] : List Int))]), (.s (.bool false))]), []))
                 (K ((.t [(.a [(.s (.int .i64 (0 : Int))), (.s (.int .i64 (0 : Int))), (.s (.int .i64 (0 : Int))), (.s (.int .i64 (0 : Int))), (.s (.int .i64 (0 : Int))), (.l .deep bytesR ([] : List Int))]), (.s (.bool false))]), []))))
                (K ((.t [(.a [(.s (.int .i64 (0 : Int))), (.s (.int .i64 (0 : Int))), (.s (.int .i64 (0 : Int))), (.s (.int .i64 (0 : Int))), (.s (.int .i64 (0 : Int))), (.l .deep bytesR ([] : List Int))]), (.s (.bool false))]), [])))
               else (meet
                ((bif (fitB (([] : List Int) ++ (List.drop 9 d))) then
                 (meet
                  ((bif (!((ByteArray.toList (bstr (reqBytesD ((IntKind.wrap .i64 (List.getD d 0 (0 : Int))), ((IntKind.wrap .i64 (List.getD d 1 (0 : Int))), ((atD d (2 : Int)), ((atD d (4 : Int)), ((atD d (6 : Int)), (([] : List Int) ++ (List.drop 9 d)))))))))) == (ByteArray.toList (bstr d)))) then
                   K ((.t [(.a [(.s (.int .i64 (0 : Int))), (.s (.int .i64 (0 : Int))), (.s (.int .i64 (0 : Int))), (.s (.int .i64 (0 : Int))), (.s (.int .i64 (0 : Int))), (.l .deep bytesR ([] : List Int))]), (.s (.bool false))]), [])
                   else K ((.t [(.a [(.s (.int .i64 (IntKind.wrap .i64 (List.getD d 0 (0 : Int))))), (.s (.int .i64 (IntKind.wrap .i64 (List.getD d 1 (0 : Int))))), (.s (.int .i64 (atD d (2 : Int)))), (.s (.int .i64 (atD d (4 : Int)))), (.s (.int .i64 (atD d (6 : Int)))), (.l .deep bytesR (([] : List Int) ++ (List.drop 9 d)))]), (.s (.bool true))]), [])))
                  ((bif (!((ByteArray.toList (bstr (reqBytesD ((IntKind.wrap .i64 (List.getD d 0 (0 : Int))), ((IntKind.wrap .i64 (List.getD d 1 (0 : Int))), ((atD d (2 : Int)), ((atD d (4 : Int)), ((atD d (6 : Int)), (([] : List Int) ++ (List.drop 9 d)))))))))) == (ByteArray.toList (bstr d)))) then
                   K ((.t [(.a [(.s (.int .i64 (0 : Int))), (.s (.int .i64 (0 : Int))), (.s (.int .i64 (0 : Int))), (.s (.int .i64 (0 : Int))), (.s (.int .i64 (0 : Int))), (.l .deep bytesR ([] : List Int))]), (.s (.bool false))]), [])
                   else K ((.t [(.a [(.s (.int .i64 (IntKind.wrap .i64 (List.getD d 0 (0 : Int))))), (.s (.int .i64 (IntKind.wrap .i64 (List.getD d 1 (0 : Int))))), (.s (.int .i64 (atD d (2 : Int)))), (.s (.int .i64 (atD d (4 : Int)))), (.s (.int .i64 (atD d (6 : Int)))), (.l .deep bytesR (([] : List Int) ++ (List.drop 9 d)))]), (.s (.bool true))]), []))))
                 else none))
                ((bif (fitB (([] : List Int) ++ (List.drop 9 d))) then
                 (bif (!((ByteArray.toList (bstr (reqBytesD ((IntKind.wrap .i64 (List.getD d 0 (0 : Int))), ((IntKind.wrap .i64 (List.getD d 1 (0 : Int))), ((atD d (2 : Int)), ((atD d (4 : Int)), ((atD d (6 : Int)), (([] : List Int) ++ (List.drop 9 d)))))))))) == (ByteArray.toList (bstr d)))) then
                  K ((.t [(.a [(.s (.int .i64 (0 : Int))), (.s (.int .i64 (0 : Int))), (.s (.int .i64 (0 : Int))), (.s (.int .i64 (0 : Int))), (.s (.int .i64 (0 : Int))), (.l .deep bytesR ([] : List Int))]), (.s (.bool false))]), [])
                  else K ((.t [(.a [(.s (.int .i64 (IntKind.wrap .i64 (List.getD d 0 (0 : Int))))), (.s (.int .i64 (IntKind.wrap .i64 (List.getD d 1 (0 : Int))))), (.s (.int .i64 (atD d (2 : Int)))), (.s (.int .i64 (atD d (4 : Int)))), (.s (.int .i64 (atD d (6 : Int)))), (.l .deep bytesR (([] : List Int) ++ (List.drop 9 d)))]), (.s (.bool true))]), []))
                 else none))))
              else none)
             else none)
            else none)))
          else none))
         ((bif (((fitB d) && true) && (decide (((4 : Int) + (1 : Int)) < (((List.length d) : Nat) : Int)))) then
          (bif (((fitB d) && true) && (decide (((6 : Int) + (1 : Int)) < (((List.length d) : Nat) : Int)))) then
           (bif (Nat.ble (((List.length ([] : List Int)) + (List.length (List.drop 9 d))) * 1) 140737488355328) then
            (bif (fitB (([] : List Int) ++ (List.drop 9 d))) then
             (bif (!(reqOkD ((IntKind.wrap .i64 (List.getD d 0 (0 : Int))), ((IntKind.wrap .i64 (List.getD d 1 (0 : Int))), ((atD d (2 : Int)), ((atD d (4 : Int)), ((atD d (6 : Int)), (([] : List Int) ++ (List.drop 9 d))))))))) then
              (meet
               ((meet
                (K ((.t [(.a [(.s (.int .i64 (0 : Int))), (.s (.int .i64 (0 : Int))), (.s (.int .i64 (0 : Int))), (.s (.int .i64 (0 : Int))), (.s (.int .i64 (0 : Int))), (.l .deep bytesR ([] : List Int))]), (.s (.bool false))]), []))
                (K ((.t [(.a [(.s (.int .i64 (0 : Int))), (.s (.int .i64 (0 : Int))), (.s (.int .i64 (0 : Int))), (.s (.int .i64 (0 : Int))), (.s (.int .i64 (0 : Int))), (.l .deep bytesR ([] : List Int))]), (.s (.bool false))]), []))))
               (K ((.t [(.a [(.s (.int .i64 (0 : Int))), (.s (.int .i64 (0 : Int))), (.s (.int .i64 (0 : Int))), (.s (.int .i64 (0 : Int))), (.s (.int .i64 (0 : Int))), (.l .deep bytesR ([] : List Int))]), (.s (.bool false))]), [])))
              else (meet
               ((bif (fitB (([] : List Int) ++ (List.drop 9 d))) then
                (meet
                 ((bif (!((ByteArray.toList (bstr (reqBytesD ((IntKind.wrap .i64 (List.getD d 0 (0 : Int))), ((IntKind.wrap .i64 (List.getD d 1 (0 : Int))), ((atD d (2 : Int)), ((atD d (4 : Int)), ((atD d (6 : Int)), (([] : List Int) ++ (List.drop 9 d)))))))))) == (ByteArray.toList (bstr d)))) then
                  K ((.t [(.a [(.s (.int .i64 (0 : Int))), (.s (.int .i64 (0 : Int))), (.s (.int .i64 (0 : Int))), (.s (.int .i64 (0 : Int))), (.s (.int .i64 (0 : Int))), (.l .deep bytesR ([] : List Int))]), (.s (.bool false))]), [])
                  else K ((.t [(.a [(.s (.int .i64 (IntKind.wrap .i64 (List.getD d 0 (0 : Int))))), (.s (.int .i64 (IntKind.wrap .i64 (List.getD d 1 (0 : Int))))), (.s (.int .i64 (atD d (2 : Int)))), (.s (.int .i64 (atD d (4 : Int)))), (.s (.int .i64 (atD d (6 : Int)))), (.l .deep bytesR (([] : List Int) ++ (List.drop 9 d)))]), (.s (.bool true))]), [])))
                 ((bif (!((ByteArray.toList (bstr (reqBytesD ((IntKind.wrap .i64 (List.getD d 0 (0 : Int))), ((IntKind.wrap .i64 (List.getD d 1 (0 : Int))), ((atD d (2 : Int)), ((atD d (4 : Int)), ((atD d (6 : Int)), (([] : List Int) ++ (List.drop 9 d)))))))))) == (ByteArray.toList (bstr d)))) then
                  K ((.t [(.a [(.s (.int .i64 (0 : Int))), (.s (.int .i64 (0 : Int))), (.s (.int .i64 (0 : Int))), (.s (.int .i64 (0 : Int))), (.s (.int .i64 (0 : Int))), (.l .deep bytesR ([] : List Int))]), (.s (.bool false))]), [])
                  else K ((.t [(.a [(.s (.int .i64 (IntKind.wrap .i64 (List.getD d 0 (0 : Int))))), (.s (.int .i64 (IntKind.wrap .i64 (List.getD d 1 (0 : Int))))), (.s (.int .i64 (atD d (2 : Int)))), (.s (.int .i64 (atD d (4 : Int)))), (.s (.int .i64 (atD d (6 : Int)))), (.l .deep bytesR (([] : List Int) ++ (List.drop 9 d)))]), (.s (.bool true))]), []))))
                else none))
               ((bif (fitB (([] : List Int) ++ (List.drop 9 d))) then
                (bif (!((ByteArray.toList (bstr (reqBytesD ((IntKind.wrap .i64 (List.getD d 0 (0 : Int))), ((IntKind.wrap .i64 (List.getD d 1 (0 : Int))), ((atD d (2 : Int)), ((atD d (4 : Int)), ((atD d (6 : Int)), (([] : List Int) ++ (List.drop 9 d)))))))))) == (ByteArray.toList (bstr d)))) then
                 K ((.t [(.a [(.s (.int .i64 (0 : Int))), (.s (.int .i64 (0 : Int))), (.s (.int .i64 (0 : Int))), (.s (.int .i64 (0 : Int))), (.s (.int .i64 (0 : Int))), (.l .deep bytesR ([] : List Int))]), (.s (.bool false))]), [])
                 else K ((.t [(.a [(.s (.int .i64 (IntKind.wrap .i64 (List.getD d 0 (0 : Int))))), (.s (.int .i64 (IntKind.wrap .i64 (List.getD d 1 (0 : Int))))), (.s (.int .i64 (atD d (2 : Int)))), (.s (.int .i64 (atD d (4 : Int)))), (.s (.int .i64 (atD d (6 : Int)))), (.l .deep bytesR (([] : List Int) ++ (List.drop 9 d)))]), (.s (.bool true))]), []))
                else none))))
             else none)
            else none)
           else none)
          else none))))
        ((meet
         ((bif (((fitB d) && true) && (decide (((4 : Int) + (1 : Int)) < (((List.length d) : Nat) : Int)))) then
          (meet
           ((bif (((fitB d) && true) && (decide (((6 : Int) + (1 : Int)) < (((List.length d) : Nat) : Int)))) then
            (bif (Nat.ble (((List.length ([] : List Int)) + (List.length (List.drop 9 d))) * 1) 140737488355328) then
             (bif (fitB (([] : List Int) ++ (List.drop 9 d))) then
              (bif (!(reqOkD ((IntKind.wrap .i64 (List.getD d 0 (0 : Int))), ((IntKind.wrap .i64 (List.getD d 1 (0 : Int))), ((atD d (2 : Int)), ((atD d (4 : Int)), ((atD d (6 : Int)), (([] : List Int) ++ (List.drop 9 d))))))))) then
               (meet
                ((meet
                 (K ((.t [(.a [(.s (.int .i64 (0 : Int))), (.s (.int .i64 (0 : Int))), (.s (.int .i64 (0 : Int))), (.s (.int .i64 (0 : Int))), (.s (.int .i64 (0 : Int))), (.l .deep bytesR ([] : List Int))]), (.s (.bool false))]), []))
                 (K ((.t [(.a [(.s (.int .i64 (0 : Int))), (.s (.int .i64 (0 : Int))), (.s (.int .i64 (0 : Int))), (.s (.int .i64 (0 : Int))), (.s (.int .i64 (0 : Int))), (.l .deep bytesR ([] : List Int))]), (.s (.bool false))]), []))))
                (K ((.t [(.a [(.s (.int .i64 (0 : Int))), (.s (.int .i64 (0 : Int))), (.s (.int .i64 (0 : Int))), (.s (.int .i64 (0 : Int))), (.s (.int .i64 (0 : Int))), (.l .deep bytesR ([] : List Int))]), (.s (.bool false))]), [])))
               else (meet
                ((bif (fitB (([] : List Int) ++ (List.drop 9 d))) then
                 (meet
                  ((bif (!((ByteArray.toList (bstr (reqBytesD ((IntKind.wrap .i64 (List.getD d 0 (0 : Int))), ((IntKind.wrap .i64 (List.getD d 1 (0 : Int))), ((atD d (2 : Int)), ((atD d (4 : Int)), ((atD d (6 : Int)), (([] : List Int) ++ (List.drop 9 d)))))))))) == (ByteArray.toList (bstr d)))) then
                   K ((.t [(.a [(.s (.int .i64 (0 : Int))), (.s (.int .i64 (0 : Int))), (.s (.int .i64 (0 : Int))), (.s (.int .i64 (0 : Int))), (.s (.int .i64 (0 : Int))), (.l .deep bytesR ([] : List Int))]), (.s (.bool false))]), [])
                   else K ((.t [(.a [(.s (.int .i64 (IntKind.wrap .i64 (List.getD d 0 (0 : Int))))), (.s (.int .i64 (IntKind.wrap .i64 (List.getD d 1 (0 : Int))))), (.s (.int .i64 (atD d (2 : Int)))), (.s (.int .i64 (atD d (4 : Int)))), (.s (.int .i64 (atD d (6 : Int)))), (.l .deep bytesR (([] : List Int) ++ (List.drop 9 d)))]), (.s (.bool true))]), [])))
                  ((bif (!((ByteArray.toList (bstr (reqBytesD ((IntKind.wrap .i64 (List.getD d 0 (0 : Int))), ((IntKind.wrap .i64 (List.getD d 1 (0 : Int))), ((atD d (2 : Int)), ((atD d (4 : Int)), ((atD d (6 : Int)), (([] : List Int) ++ (List.drop 9 d)))))))))) == (ByteArray.toList (bstr d)))) then
                   K ((.t [(.a [(.s (.int .i64 (0 : Int))), (.s (.int .i64 (0 : Int))), (.s (.int .i64 (0 : Int))), (.s (.int .i64 (0 : Int))), (.s (.int .i64 (0 : Int))), (.l .deep bytesR ([] : List Int))]), (.s (.bool false))]), [])
                   else K ((.t [(.a [(.s (.int .i64 (IntKind.wrap .i64 (List.getD d 0 (0 : Int))))), (.s (.int .i64 (IntKind.wrap .i64 (List.getD d 1 (0 : Int))))), (.s (.int .i64 (atD d (2 : Int)))), (.s (.int .i64 (atD d (4 : Int)))), (.s (.int .i64 (atD d (6 : Int)))), (.l .deep bytesR (([] : List Int) ++ (List.drop 9 d)))]), (.s (.bool true))]), []))))
                 else none))
                ((bif (fitB (([] : List Int) ++ (List.drop 9 d))) then
                 (bif (!((ByteArray.toList (bstr (reqBytesD ((IntKind.wrap .i64 (List.getD d 0 (0 : Int))), ((IntKind.wrap .i64 (List.getD d 1 (0 : Int))), ((atD d (2 : Int)), ((atD d (4 : Int)), ((atD d (6 : Int)), (([] : List Int) ++ (List.drop 9 d)))))))))) == (ByteArray.toList (bstr d)))) then
                  K ((.t [(.a [(.s (.int .i64 (0 : Int))), (.s (.int .i64 (0 : Int))), (.s (.int .i64 (0 : Int))), (.s (.int .i64 (0 : Int))), (.s (.int .i64 (0 : Int))), (.l .deep bytesR ([] : List Int))]), (.s (.bool false))]), [])
                  else K ((.t [(.a [(.s (.int .i64 (IntKind.wrap .i64 (List.getD d 0 (0 : Int))))), (.s (.int .i64 (IntKind.wrap .i64 (List.getD d 1 (0 : Int))))), (.s (.int .i64 (atD d (2 : Int)))), (.s (.int .i64 (atD d (4 : Int)))), (.s (.int .i64 (atD d (6 : Int)))), (.l .deep bytesR (([] : List Int) ++ (List.drop 9 d)))]), (.s (.bool true))]), []))
                 else none))))
              else none)
             else none)
            else none))
           ((bif (((fitB d) && true) && (decide (((6 : Int) + (1 : Int)) < (((List.length d) : Nat) : Int)))) then
            (bif (Nat.ble (((List.length ([] : List Int)) + (List.length (List.drop 9 d))) * 1) 140737488355328) then
             (bif (fitB (([] : List Int) ++ (List.drop 9 d))) then
              (bif (!(reqOkD ((IntKind.wrap .i64 (List.getD d 0 (0 : Int))), ((IntKind.wrap .i64 (List.getD d 1 (0 : Int))), ((atD d (2 : Int)), ((atD d (4 : Int)), ((atD d (6 : Int)), (([] : List Int) ++ (List.drop 9 d))))))))) then
               (meet
                ((meet
                 (K ((.t [(.a [(.s (.int .i64 (0 : Int))), (.s (.int .i64 (0 : Int))), (.s (.int .i64 (0 : Int))), (.s (.int .i64 (0 : Int))), (.s (.int .i64 (0 : Int))), (.l .deep bytesR ([] : List Int))]), (.s (.bool false))]), []))
                 (K ((.t [(.a [(.s (.int .i64 (0 : Int))), (.s (.int .i64 (0 : Int))), (.s (.int .i64 (0 : Int))), (.s (.int .i64 (0 : Int))), (.s (.int .i64 (0 : Int))), (.l .deep bytesR ([] : List Int))]), (.s (.bool false))]), []))))
                (K ((.t [(.a [(.s (.int .i64 (0 : Int))), (.s (.int .i64 (0 : Int))), (.s (.int .i64 (0 : Int))), (.s (.int .i64 (0 : Int))), (.s (.int .i64 (0 : Int))), (.l .deep bytesR ([] : List Int))]), (.s (.bool false))]), [])))
               else (meet
                ((bif (fitB (([] : List Int) ++ (List.drop 9 d))) then
                 (meet
                  ((bif (!((ByteArray.toList (bstr (reqBytesD ((IntKind.wrap .i64 (List.getD d 0 (0 : Int))), ((IntKind.wrap .i64 (List.getD d 1 (0 : Int))), ((atD d (2 : Int)), ((atD d (4 : Int)), ((atD d (6 : Int)), (([] : List Int) ++ (List.drop 9 d)))))))))) == (ByteArray.toList (bstr d)))) then
                   K ((.t [(.a [(.s (.int .i64 (0 : Int))), (.s (.int .i64 (0 : Int))), (.s (.int .i64 (0 : Int))), (.s (.int .i64 (0 : Int))), (.s (.int .i64 (0 : Int))), (.l .deep bytesR ([] : List Int))]), (.s (.bool false))]), [])
                   else K ((.t [(.a [(.s (.int .i64 (IntKind.wrap .i64 (List.getD d 0 (0 : Int))))), (.s (.int .i64 (IntKind.wrap .i64 (List.getD d 1 (0 : Int))))), (.s (.int .i64 (atD d (2 : Int)))), (.s (.int .i64 (atD d (4 : Int)))), (.s (.int .i64 (atD d (6 : Int)))), (.l .deep bytesR (([] : List Int) ++ (List.drop 9 d)))]), (.s (.bool true))]), [])))
                  ((bif (!((ByteArray.toList (bstr (reqBytesD ((IntKind.wrap .i64 (List.getD d 0 (0 : Int))), ((IntKind.wrap .i64 (List.getD d 1 (0 : Int))), ((atD d (2 : Int)), ((atD d (4 : Int)), ((atD d (6 : Int)), (([] : List Int) ++ (List.drop 9 d)))))))))) == (ByteArray.toList (bstr d)))) then
                   K ((.t [(.a [(.s (.int .i64 (0 : Int))), (.s (.int .i64 (0 : Int))), (.s (.int .i64 (0 : Int))), (.s (.int .i64 (0 : Int))), (.s (.int .i64 (0 : Int))), (.l .deep bytesR ([] : List Int))]), (.s (.bool false))]), [])
                   else K ((.t [(.a [(.s (.int .i64 (IntKind.wrap .i64 (List.getD d 0 (0 : Int))))), (.s (.int .i64 (IntKind.wrap .i64 (List.getD d 1 (0 : Int))))), (.s (.int .i64 (atD d (2 : Int)))), (.s (.int .i64 (atD d (4 : Int)))), (.s (.int .i64 (atD d (6 : Int)))), (.l .deep bytesR (([] : List Int) ++ (List.drop 9 d)))]), (.s (.bool true))]), []))))
                 else none))
                ((bif (fitB (([] : List Int) ++ (List.drop 9 d))) then
                 (bif (!((ByteArray.toList (bstr (reqBytesD ((IntKind.wrap .i64 (List.getD d 0 (0 : Int))), ((IntKind.wrap .i64 (List.getD d 1 (0 : Int))), ((atD d (2 : Int)), ((atD d (4 : Int)), ((atD d (6 : Int)), (([] : List Int) ++ (List.drop 9 d)))))))))) == (ByteArray.toList (bstr d)))) then
                  K ((.t [(.a [(.s (.int .i64 (0 : Int))), (.s (.int .i64 (0 : Int))), (.s (.int .i64 (0 : Int))), (.s (.int .i64 (0 : Int))), (.s (.int .i64 (0 : Int))), (.l .deep bytesR ([] : List Int))]), (.s (.bool false))]), [])
                  else K ((.t [(.a [(.s (.int .i64 (IntKind.wrap .i64 (List.getD d 0 (0 : Int))))), (.s (.int .i64 (IntKind.wrap .i64 (List.getD d 1 (0 : Int))))), (.s (.int .i64 (atD d (2 : Int)))), (.s (.int .i64 (atD d (4 : Int)))), (.s (.int .i64 (atD d (6 : Int)))), (.l .deep bytesR (([] : List Int) ++ (List.drop 9 d)))]), (.s (.bool true))]), []))
                 else none))))
              else none)
             else none)
            else none)))
          else none))
         ((bif (((fitB d) && true) && (decide (((4 : Int) + (1 : Int)) < (((List.length d) : Nat) : Int)))) then
          (bif (((fitB d) && true) && (decide (((6 : Int) + (1 : Int)) < (((List.length d) : Nat) : Int)))) then
           (bif (Nat.ble (((List.length ([] : List Int)) + (List.length (List.drop 9 d))) * 1) 140737488355328) then
            (bif (fitB (([] : List Int) ++ (List.drop 9 d))) then
             (bif (!(reqOkD ((IntKind.wrap .i64 (List.getD d 0 (0 : Int))), ((IntKind.wrap .i64 (List.getD d 1 (0 : Int))), ((atD d (2 : Int)), ((atD d (4 : Int)), ((atD d (6 : Int)), (([] : List Int) ++ (List.drop 9 d))))))))) then
              (meet
               ((meet
                (K ((.t [(.a [(.s (.int .i64 (0 : Int))), (.s (.int .i64 (0 : Int))), (.s (.int .i64 (0 : Int))), (.s (.int .i64 (0 : Int))), (.s (.int .i64 (0 : Int))), (.l .deep bytesR ([] : List Int))]), (.s (.bool false))]), []))
                (K ((.t [(.a [(.s (.int .i64 (0 : Int))), (.s (.int .i64 (0 : Int))), (.s (.int .i64 (0 : Int))), (.s (.int .i64 (0 : Int))), (.s (.int .i64 (0 : Int))), (.l .deep bytesR ([] : List Int))]), (.s (.bool false))]), []))))
               (K ((.t [(.a [(.s (.int .i64 (0 : Int))), (.s (.int .i64 (0 : Int))), (.s (.int .i64 (0 : Int))), (.s (.int .i64 (0 : Int))), (.s (.int .i64 (0 : Int))), (.l .deep bytesR ([] : List Int))]), (.s (.bool false))]), [])))
              else (meet
               ((bif (fitB (([] : List Int) ++ (List.drop 9 d))) then
                (meet
                 ((bif (!((ByteArray.toList (bstr (reqBytesD ((IntKind.wrap .i64 (List.getD d 0 (0 : Int))), ((IntKind.wrap .i64 (List.getD d 1 (0 : Int))), ((atD d (2 : Int)), ((atD d (4 : Int)), ((atD d (6 : Int)), (([] : List Int) ++ (List.drop 9 d)))))))))) == (ByteArray.toList (bstr d)))) then
                  K ((.t [(.a [(.s (.int .i64 (0 : Int))), (.s (.int .i64 (0 : Int))), (.s (.int .i64 (0 : Int))), (.s (.int .i64 (0 : Int))), (.s (.int .i64 (0 : Int))), (.l .deep bytesR ([] : List Int))]), (.s (.bool false))]), [])
                  else K ((.t [(.a [(.s (.int .i64 (IntKind.wrap .i64 (List.getD d 0 (0 : Int))))), (.s (.int .i64 (IntKind.wrap .i64 (List.getD d 1 (0 : Int))))), (.s (.int .i64 (atD d (2 : Int)))), (.s (.int .i64 (atD d (4 : Int)))), (.s (.int .i64 (atD d (6 : Int)))), (.l .deep bytesR (([] : List Int) ++ (List.drop 9 d)))]), (.s (.bool true))]), [])))
                 ((bif (!((ByteArray.toList (bstr (reqBytesD ((IntKind.wrap .i64 (List.getD d 0 (0 : Int))), ((IntKind.wrap .i64 (List.getD d 1 (0 : Int))), ((atD d (2 : Int)), ((atD d (4 : Int)), ((atD d (6 : Int)), (([] : List Int) ++ (List.drop 9 d)))))))))) == (ByteArray.toList (bstr d)))) then
                  K ((.t [(.a [(.s (.int .i64 (0 : Int))), (.s (.int .i64 (0 : Int))), (.s (.int .i64 (0 : Int))), (.s (.int .i64 (0 : Int))), (.s (.int .i64 (0 : Int))), (.l .deep bytesR ([] : List Int))]), (.s (.bool false))]), [])
                  else K ((.t [(.a [(.s (.int .i64 (IntKind.wrap .i64 (List.getD d 0 (0 : Int))))), (.s (.int .i64 (IntKind.wrap .i64 (List.getD d 1 (0 : Int))))), (.s (.int .i64 (atD d (2 : Int)))), (.s (.int .i64 (atD d (4 : Int)))), (.s (.int .i64 (atD d (6 : Int)))), (.l .deep bytesR (([] : List Int) ++ (List.drop 9 d)))]), (.s (.bool true))]), []))))
                else none))
               ((bif (fitB (([] : List Int) ++ (List.drop 9 d))) then
                (bif (!((ByteArray.toList (bstr (reqBytesD ((IntKind.wrap .i64 (List.getD d 0 (0 : Int))), ((IntKind.wrap .i64 (List.getD d 1 (0 : Int))), ((atD d (2 : Int)), ((atD d (4 : Int)), ((atD d (6 : Int)), (([] : List Int) ++ (List.drop 9 d)))))))))) == (ByteArray.toList (bstr d)))) then
                 K ((.t [(.a [(.s (.int .i64 (0 : Int))), (.s (.int .i64 (0 : Int))), (.s (.int .i64 (0 : Int))), (.s (.int .i64 (0 : Int))), (.s (.int .i64 (0 : Int))), (.l .deep bytesR ([] : List Int))]), (.s (.bool false))]), [])
                 else K ((.t [(.a [(.s (.int .i64 (IntKind.wrap .i64 (List.getD d 0 (0 : Int))))), (.s (.int .i64 (IntKind.wrap .i64 (List.getD d 1 (0 : Int))))), (.s (.int .i64 (atD d (2 : Int)))), (.s (.int .i64 (atD d (4 : Int)))), (.s (.int .i64 (atD d (6 : Int)))), (.l .deep bytesR (([] : List Int) ++ (List.drop 9 d)))]), (.s (.bool true))]), []))
                else none))))
             else none)
            else none)
           else none)
          else none)))))))
      else none))
     ((meet
      ((meet
       ((bif (((fitB d) && true) && (decide (((2 : Int) + (1 : Int)) < (((List.length d) : Nat) : Int)))) then
        (meet
         ((bif (((fitB d) && true) && (decide (((4 : Int) + (1 : Int)) < (((List.length d) : Nat) : Int)))) then
          (meet
           ((bif (((fitB d) && true) && (decide (((6 : Int) + (1 : Int)) < (((List.length d) : Nat) : Int)))) then
            (meet
             ((bif (Nat.ble (((List.length ([] : List Int)) + (List.length (List.drop 9 d))) * 1) 140737488355328) then
              (bif (fitB (([] : List Int) ++ (List.drop 9 d))) then
               (bif (!(reqOkD ((IntKind.wrap .i64 (List.getD d 0 (0 : Int))), ((IntKind.wrap .i64 (List.getD d 1 (0 : Int))), ((atD d (2 : Int)), ((atD d (4 : Int)), ((atD d (6 : Int)), (([] : List Int) ++ (List.drop 9 d))))))))) then
                (meet
                 ((meet
                  (K ((.t [(.a [(.s (.int .i64 (0 : Int))), (.s (.int .i64 (0 : Int))), (.s (.int .i64 (0 : Int))), (.s (.int .i64 (0 : Int))), (.s (.int .i64 (0 : Int))), (.l .deep bytesR ([] : List Int))]), (.s (.bool false))]), []))
                  (K ((.t [(.a [(.s (.int .i64 (0 : Int))), (.s (.int .i64 (0 : Int))), (.s (.int .i64 (0 : Int))), (.s (.int .i64 (0 : Int))), (.s (.int .i64 (0 : Int))), (.l .deep bytesR ([] : List Int))]), (.s (.bool false))]), []))))
                 (K ((.t [(.a [(.s (.int .i64 (0 : Int))), (.s (.int .i64 (0 : Int))), (.s (.int .i64 (0 : Int))), (.s (.int .i64 (0 : Int))), (.s (.int .i64 (0 : Int))), (.l .deep bytesR ([] : List Int))]), (.s (.bool false))]), [])))
                else (meet
                 ((bif (fitB (([] : List Int) ++ (List.drop 9 d))) then
                  (meet
                   ((bif (!((ByteArray.toList (bstr (reqBytesD ((IntKind.wrap .i64 (List.getD d 0 (0 : Int))), ((IntKind.wrap .i64 (List.getD d 1 (0 : Int))), ((atD d (2 : Int)), ((atD d (4 : Int)), ((atD d (6 : Int)), (([] : List Int) ++ (List.drop 9 d)))))))))) == (ByteArray.toList (bstr d)))) then
                    K ((.t [(.a [(.s (.int .i64 (0 : Int))), (.s (.int .i64 (0 : Int))), (.s (.int .i64 (0 : Int))), (.s (.int .i64 (0 : Int))), (.s (.int .i64 (0 : Int))), (.l .deep bytesR ([] : List Int))]), (.s (.bool false))]), [])
                    else K ((.t [(.a [(.s (.int .i64 (IntKind.wrap .i64 (List.getD d 0 (0 : Int))))), (.s (.int .i64 (IntKind.wrap .i64 (List.getD d 1 (0 : Int))))), (.s (.int .i64 (atD d (2 : Int)))), (.s (.int .i64 (atD d (4 : Int)))), (.s (.int .i64 (atD d (6 : Int)))), (.l .deep bytesR (([] : List Int) ++ (List.drop 9 d)))]), (.s (.bool true))]), [])))
                   ((bif (!((ByteArray.toList (bstr (reqBytesD ((IntKind.wrap .i64 (List.getD d 0 (0 : Int))), ((IntKind.wrap .i64 (List.getD d 1 (0 : Int))), ((atD d (2 : Int)), ((atD d (4 : Int)), ((atD d (6 : Int)), (([] : List Int) ++ (List.drop 9 d)))))))))) == (ByteArray.toList (bstr d)))) then
                    K ((.t [(.a [(.s (.int .i64 (0 : Int))), (.s (.int .i64 (0 : Int))), (.s (.int .i64 (0 : Int))), (.s (.int .i64 (0 : Int))), (.s (.int .i64 (0 : Int))), (.l .deep bytesR ([] : List Int))]), (.s (.bool false))]), [])
                    else K ((.t [(.a [(.s (.int .i64 (IntKind.wrap .i64 (List.getD d 0 (0 : Int))))), (.s (.int .i64 (IntKind.wrap .i64 (List.getD d 1 (0 : Int))))), (.s (.int .i64 (atD d (2 : Int)))), (.s (.int .i64 (atD d (4 : Int)))), (.s (.int .i64 (atD d (6 : Int)))), (.l .deep bytesR (([] : List Int) ++ (List.drop 9 d)))]), (.s (.bool true))]), []))))
                  else none))
                 ((bif (fitB (([] : List Int) ++ (List.drop 9 d))) then
                  (bif (!((ByteArray.toList (bstr (reqBytesD ((IntKind.wrap .i64 (List.getD d 0 (0 : Int))), ((IntKind.wrap .i64 (List.getD d 1 (0 : Int))), ((atD d (2 : Int)), ((atD d (4 : Int)), ((atD d (6 : Int)), (([] : List Int) ++ (List.drop 9 d)))))))))) == (ByteArray.toList (bstr d)))) then
                   K ((.t [(.a [(.s (.int .i64 (0 : Int))), (.s (.int .i64 (0 : Int))), (.s (.int .i64 (0 : Int))), (.s (.int .i64 (0 : Int))), (.s (.int .i64 (0 : Int))), (.l .deep bytesR ([] : List Int))]), (.s (.bool false))]), [])
                   else K ((.t [(.a [(.s (.int .i64 (IntKind.wrap .i64 (List.getD d 0 (0 : Int))))), (.s (.int .i64 (IntKind.wrap .i64 (List.getD d 1 (0 : Int))))), (.s (.int .i64 (atD d (2 : Int)))), (.s (.int .i64 (atD d (4 : Int)))), (.s (.int .i64 (atD d (6 : Int)))), (.l .deep bytesR (([] : List Int) ++ (List.drop 9 d)))]), (.s (.bool true))]), []))
                  else none))))
               else none)
              else none))
             ((bif (Nat.ble (((List.length ([] : List Int)) + (List.length (List.drop 9 d))) * 1) 140737488355328) then
              (bif (fitB (([] : List Int) ++ (List.drop 9 d))) then
               (bif (!(reqOkD ((IntKind.wrap .i64 (List.getD d 0 (0 : Int))), ((IntKind.wrap .i64 (List.getD d 1 (0 : Int))), ((atD d (2 : Int)), ((atD d (4 : Int)), ((atD d (6 : Int)), (([] : List Int) ++ (List.drop 9 d))))))))) then
                (meet
                 ((meet
                  (K ((.t [(.a [(.s (.int .i64 (0 : Int))), (.s (.int .i64 (0 : Int))), (.s (.int .i64 (0 : Int))), (.s (.int .i64 (0 : Int))), (.s (.int .i64 (0 : Int))), (.l .deep bytesR ([] : List Int))]), (.s (.bool false))]), []))
                  (K ((.t [(.a [(.s (.int .i64 (0 : Int))), (.s (.int .i64 (0 : Int))), (.s (.int .i64 (0 : Int))), (.s (.int .i64 (0 : Int))), (.s (.int .i64 (0 : Int))), (.l .deep bytesR ([] : List Int))]), (.s (.bool false))]), []))))
                 (K ((.t [(.a [(.s (.int .i64 (0 : Int))), (.s (.int .i64 (0 : Int))), (.s (.int .i64 (0 : Int))), (.s (.int .i64 (0 : Int))), (.s (.int .i64 (0 : Int))), (.l .deep bytesR ([] : List Int))]), (.s (.bool false))]), [])))
                else (meet
                 ((bif (fitB (([] : List Int) ++ (List.drop 9 d))) then
                  (meet
                   ((bif (!((ByteArray.toList (bstr (reqBytesD ((IntKind.wrap .i64 (List.getD d 0 (0 : Int))), ((IntKind.wrap .i64 (List.getD d 1 (0 : Int))), ((atD d (2 : Int)), ((atD d (4 : Int)), ((atD d (6 : Int)), (([] : List Int) ++ (List.drop 9 d)))))))))) == (ByteArray.toList (bstr d)))) then
                    K ((.t [(.a [(.s (.int .i64 (0 : Int))), (.s (.int .i64 (0 : Int))), (.s (.int .i64 (0 : Int))), (.s (.int .i64 (0 : Int))), (.s (.int .i64 (0 : Int))), (.l .deep bytesR ([] : List Int))]), (.s (.bool false))]), [])
                    else K ((.t [(.a [(.s (.int .i64 (IntKind.wrap .i64 (List.getD d 0 (0 : Int))))), (.s (.int .i64 (IntKind.wrap .i64 (List.getD d 1 (0 : Int))))), (.s (.int .i64 (atD d (2 : Int)))), (.s (.int .i64 (atD d (4 : Int)))), (.s (.int .i64 (atD d (6 : Int)))), (.l .deep bytesR (([] : List Int) ++ (List.drop 9 d)))]), (.s (.bool true))]), [])))
                   ((bif (!((ByteArray.toList (bstr (reqBytesD ((IntKind.wrap .i64 (List.getD d 0 (0 : Int))), ((IntKind.wrap .i64 (List.getD d 1 (0 : Int))), ((atD d (2 : Int)), ((atD d (4 : Int)), ((atD d (6 : Int)), (([] : List Int) ++ (List.drop 9 d)))))))))) == (ByteArray.toList (bstr d)))) then
                    K ((.t [(.a [(.s (.int .i64 (0 : Int))), (.s (.int .i64 (0 : Int))), (.s (.int .i64 (0 : Int))), (.s (.int .i64 (0 : Int))), (.s (.int .i64 (0 : Int))), (.l .deep bytesR ([] : List Int))]), (.s (.bool false))]), [])
                    else K ((.t [(.a [(.s (.int .i64 (IntKind.wrap .i64 (List.getD d 0 (0 : Int))))), (.s (.int .i64 (IntKind.wrap .i64 (List.getD d 1 (0 : Int))))), (.s (.int .i64 (atD d (2 : Int)))), (.s (.int .i64 (atD d (4 : Int)))), (.s (.int .i64 (atD d (6 : Int)))), (.l .deep bytesR (([] : List Int) ++ (List.drop 9 d)))]), (.s (.bool true))]), []))))
                  else none))
                 ((bif (fitB (([] : List Int) ++ (List.drop 9 d))) then
                  (bif (!((ByteArray.toList (bstr (reqBytesD ((IntKind.wrap .i64 (List.getD d 0 (0 : Int))), ((IntKind.wrap .i64 (List.getD d 1 (0 : Int))), ((atD d (2 : Int)), ((atD d (4 : Int)), ((atD d (6 : Int)), (([] : List Int) ++ (List.drop 9 d)))))))))) == (ByteArray.toList (bstr d)))) then
                   K ((.t [(.a [(.s (.int .i64 (0 : Int))), (.s (.int .i64 (0 : Int))), (.s (.int .i64 (0 : Int))), (.s (.int .i64 (0 : Int))), (.s (.int .i64 (0 : Int))), (.l .deep bytesR ([] : List Int))]), (.s (.bool false))]), [])
                   else K ((.t [(.a [(.s (.int .i64 (IntKind.wrap .i64 (List.getD d 0 (0 : Int))))), (.s (.int .i64 (IntKind.wrap .i64 (List.getD d 1 (0 : Int))))), (.s (.int .i64 (atD d (2 : Int)))), (.s (.int .i64 (atD d (4 : Int)))), (.s (.int .i64 (atD d (6 : Int)))), (.l .deep bytesR (([] : List Int) ++ (List.drop 9 d)))]), (.s (.bool true))]), []))
                  else none))))
               else none)
              else none)))
            else none))
           ((bif (((fitB d) && true) && (decide (((6 : Int) + (1 : Int)) < (((List.length d) : Nat) : Int)))) then
            (bif (Nat.ble (((List.length ([] : List Int)) + (List.length (List.drop 9 d))) * 1) 140737488355328) then
             (bif (fitB (([] : List Int) ++ (List.drop 9 d))) then
              (bif (!(reqOkD ((IntKind.wrap .i64 (List.getD d 0 (0 : Int))), ((IntKind.wrap .i64 (List.getD d 1 (0 : Int))), ((atD d (2 : Int)), ((atD d (4 : Int)), ((atD d (6 : Int)), (([] : List Int) ++ (List.drop 9 d))))))))) then
               (meet
                ((meet
                 (K ((.t [(.a [(.s (.int .i64 (0 : Int))), (.s (.int .i64 (0 : Int))), (.s (.int .i64 (0 : Int))), (.s (.int .i64 (0 : Int))), (.s (.int .i64 (0 : Int))), (.l .deep bytesR ([] : List Int))]), (.s (.bool false))]), []))
                 (K ((.t [(.a [(.s (.int .i64 (0 : Int))), (.s (.int .i64 (0 : Int))), (.s (.int .i64 (0 : Int))), (.s (.int .i64 (0 : Int))), (.s (.int .i64 (0 : Int))), (.l .deep bytesR ([] : List Int))]), (.s (.bool false))]), []))))
                (K ((.t [(.a [(.s (.int .i64 (0 : Int))), (.s (.int .i64 (0 : Int))), (.s (.int .i64 (0 : Int))), (.s (.int .i64 (0 : Int))), (.s (.int .i64 (0 : Int))), (.l .deep bytesR ([] : List Int))]), (.s (.bool false))]), [])))
               else (meet
                ((bif (fitB (([] : List Int) ++ (List.drop 9 d))) then
                 (meet
                  ((bif (!((ByteArray.toList (bstr (reqBytesD ((IntKind.wrap .i64 (List.getD d 0 (0 : Int))), ((IntKind.wrap .i64 (List.getD d 1 (0 : Int))), ((atD d (2 : Int)), ((atD d (4 : Int)), ((atD d (6 : Int)), (([] : List Int) ++ (List.drop 9 d)))))))))) == (ByteArray.toList (bstr d)))) then
                   K ((.t [(.a [(.s (.int .i64 (0 : Int))), (.s (.int .i64 (0 : Int))), (.s (.int .i64 (0 : Int))), (.s (.int .i64 (0 : Int))), (.s (.int .i64 (0 : Int))), (.l .deep bytesR ([] : List Int))]), (.s (.bool false))]), [])
                   else K ((.t [(.a [(.s (.int .i64 (IntKind.wrap .i64 (List.getD d 0 (0 : Int))))), (.s (.int .i64 (IntKind.wrap .i64 (List.getD d 1 (0 : Int))))), (.s (.int .i64 (atD d (2 : Int)))), (.s (.int .i64 (atD d (4 : Int)))), (.s (.int .i64 (atD d (6 : Int)))), (.l .deep bytesR (([] : List Int) ++ (List.drop 9 d)))]), (.s (.bool true))]), [])))
                  ((bif (!((ByteArray.toList (bstr (reqBytesD ((IntKind.wrap .i64 (List.getD d 0 (0 : Int))), ((IntKind.wrap .i64 (List.getD d 1 (0 : Int))), ((atD d (2 : Int)), ((atD d (4 : Int)), ((atD d (6 : Int)), (([] : List Int) ++ (List.drop 9 d)))))))))) == (ByteArray.toList (bstr d)))) then
                   K ((.t [(.a [(.s (.int .i64 (0 : Int))), (.s (.int .i64 (0 : Int))), (.s (.int .i64 (0 : Int))), (.s (.int .i64 (0 : Int))), (.s (.int .i64 (0 : Int))), (.l .deep bytesR ([] : List Int))]), (.s (.bool false))]), [])
                   else K ((.t [(.a [(.s (.int .i64 (IntKind.wrap .i64 (List.getD d 0 (0 : Int))))), (.s (.int .i64 (IntKind.wrap .i64 (List.getD d 1 (0 : Int))))), (.s (.int .i64 (atD d (2 : Int)))), (.s (.int .i64 (atD d (4 : Int)))), (.s (.int .i64 (atD d (6 : Int)))), (.l .deep bytesR (([] : List Int) ++ (List.drop 9 d)))]), (.s (.bool true))]), []))))
                 else none))
                ((bif (fitB (([] : List Int) ++ (List.drop 9 d))) then
                 (bif (!((ByteArray.toList (bstr (reqBytesD ((IntKind.wrap .i64 (List.getD d 0 (0 : Int))), ((IntKind.wrap .i64 (List.getD d 1 (0 : Int))), ((atD d (2 : Int)), ((atD d (4 : Int)), ((atD d (6 : Int)), (([] : List Int) ++ (List.drop 9 d)))))))))) == (ByteArray.toList (bstr d)))) then
                  K ((.t [(.a [(.s (.int .i64 (0 : Int))), (.s (.int .i64 (0 : Int))), (.s (.int .i64 (0 : Int))), (.s (.int .i64 (0 : Int))), (.s (.int .i64 (0 : Int))), (.l .deep bytesR ([] : List Int))]), (.s (.bool false))]), [])
                  else K ((.t [(.a [(.s (.int .i64 (IntKind.wrap .i64 (List.getD d 0 (0 : Int))))), (.s (.int .i64 (IntKind.wrap .i64 (List.getD d 1 (0 : Int))))), (.s (.int .i64 (atD d (2 : Int)))), (.s (.int .i64 (atD d (4 : Int)))), (.s (.int .i64 (atD d (6 : Int)))), (.l .deep bytesR (([] : List Int) ++ (List.drop 9 d)))]), (.s (.bool true))]), []))
                 else none))))
              else none)
             else none)
            else none)))
          else none))
         ((bif (((fitB d) && true) && (decide (((4 : Int) + (1 : Int)) < (((List.length d) : Nat) : Int)))) then
          (bif (((fitB d) && true) && (decide (((6 : Int) + (1 : Int)) < (((List.length d) : Nat) : Int)))) then
           (bif (Nat.ble (((List.length ([] : List Int)) + (List.length (List.drop 9 d))) * 1) 140737488355328) then
            (bif (fitB (([] : List Int) ++ (List.drop 9 d))) then
             (bif (!(reqOkD ((IntKind.wrap .i64 (List.getD d 0 (0 : Int))), ((IntKind.wrap .i64 (List.getD d 1 (0 : Int))), ((atD d (2 : Int)), ((atD d (4 : Int)), ((atD d (6 : Int)), (([] : List Int) ++ (List.drop 9 d))))))))) then
              (meet
               ((meet
                (K ((.t [(.a [(.s (.int .i64 (0 : Int))), (.s (.int .i64 (0 : Int))), (.s (.int .i64 (0 : Int))), (.s (.int .i64 (0 : Int))), (.s (.int .i64 (0 : Int))), (.l .deep bytesR ([] : List Int))]), (.s (.bool false))]), []))
                (K ((.t [(.a [(.s (.int .i64 (0 : Int))), (.s (.int .i64 (0 : Int))), (.s (.int .i64 (0 : Int))), (.s (.int .i64 (0 : Int))), (.s (.int .i64 (0 : Int))), (.l .deep bytesR ([] : List Int))]), (.s (.bool false))]), []))))
               (K ((.t [(.a [(.s (.int .i64 (0 : Int))), (.s (.int .i64 (0 : Int))), (.s (.int .i64 (0 : Int))), (.s (.int .i64 (0 : Int))), (.s (.int .i64 (0 : Int))), (.l .deep bytesR ([] : List Int))]), (.s (.bool false))]), [])))
              else (meet
               ((bif (fitB (([] : List Int) ++ (List.drop 9 d))) then
                (meet
                 ((bif (!((ByteArray.toList (bstr (reqBytesD ((IntKind.wrap .i64 (List.getD d 0 (0 : Int))), ((IntKind.wrap .i64 (List.getD d 1 (0 : Int))), ((atD d (2 : Int)), ((atD d (4 : Int)), ((atD d (6 : Int)), (([] : List Int) ++ (List.drop 9 d)))))))))) == (ByteArray.toList (bstr d)))) then
                  K ((.t [(.a [(.s (.int .i64 (0 : Int))), (.s (.int .i64 (0 : Int))), (.s (.int .i64 (0 : Int))), (.s (.int .i64 (0 : Int))), (.s (.int .i64 (0 : Int))), (.l .deep bytesR ([] : List Int))]), (.s (.bool false))]), [])
                  else K ((.t [(.a [(.s (.int .i64 (IntKind.wrap .i64 (List.getD d 0 (0 : Int))))), (.s (.int .i64 (IntKind.wrap .i64 (List.getD d 1 (0 : Int))))), (.s (.int .i64 (atD d (2 : Int)))), (.s (.int .i64 (atD d (4 : Int)))), (.s (.int .i64 (atD d (6 : Int)))), (.l .deep bytesR (([] : List Int) ++ (List.drop 9 d)))]), (.s (.bool true))]), [])))
                 ((bif (!((ByteArray.toList (bstr (reqBytesD ((IntKind.wrap .i64 (List.getD d 0 (0 : Int))), ((IntKind.wrap .i64 (List.getD d 1 (0 : Int))), ((atD d (2 : Int)), ((atD d (4 : Int)), ((atD d (6 : Int)), (([] : List Int) ++ (List.drop 9 d)))))))))) == (ByteArray.toList (bstr d)))) then
                  K ((.t [(.a [(.s (.int .i64 (0 : Int))), (.s (.int .i64 (0 : Int))), (.s (.int .i64 (0 : Int))), (.s (.int .i64 (0 : Int))), (.s (.int .i64 (0 : Int))), (.l .deep bytesR ([] : List Int))]), (.s (.bool false))]), [])
                  else K ((.t [(.a [(.s (.int .i64 (IntKind.wrap .i64 (List.getD d 0 (0 : Int))))), (.s (.int .i64 (IntKind.wrap .i64 (List.getD d 1 (0 : Int))))), (.s (.int .i64 (atD d (2 : Int)))), (.s (.int .i64 (atD d (4 : Int)))), (.s (.int .i64 (atD d (6 : Int)))), (.l .deep bytesR (([] : List Int) ++ (List.drop 9 d)))]), (.s (.bool true))]), []))))
                else none))
               ((bif (fitB (([] : List Int) ++ (List.drop 9 d))) then
                (bif (!((ByteArray.toList (bstr (reqBytesD ((IntKind.wrap .i64 (List.getD d 0 (0 : Int))), ((IntKind.wrap .i64 (List.getD d 1 (0 : Int))), ((atD d (2 : Int)), ((atD d (4 : Int)), ((atD d (6 : Int)), (([] : List Int) ++ (List.drop 9 d)))))))))) == (ByteArray.toList (bstr d)))) then
                 K ((.t [(.a [(.s (.int .i64 (0 : Int))), (.s (.int .i64 (0 : Int))), (.s (.int .i64 (0 : Int))), (.s (.int .i64 (0 : Int))), (.s (.int .i64 (0 : Int))), (.l .deep bytesR ([] : List Int))]), (.s (.bool false))]), [])
                 else K ((.t [(.a [(.s (.int .i64 (IntKind.wrap .i64 (List.getD d 0 (0 : Int))))), (.s (.int .i64 (IntKind.wrap .i64 (List.getD d 1 (0 : Int))))), (.s (.int .i64 (atD d (2 : Int)))), (.s (.int .i64 (atD d (4 : Int)))), (.s (.int .i64 (atD d (6 : Int)))), (.l .deep bytesR (([] : List Int) ++ (List.drop 9 d)))]), (.s (.bool true))]), []))
                else none))))
             else none)
            else none)
           else none)
          else none)))
        else none))
       ((bif (((fitB d) && true) && (decide (((2 : Int) + (1 : Int)) < (((List.length d) : Nat) : Int)))) then
        (bif (((fitB d) && true) && (decide (((4 : Int) + (1 : Int)) < (((List.length d) : Nat) : Int)))) then
         (bif (((fitB d) && true) && (decide (((6 : Int) + (1 : Int)) < (((List.length d) : Nat) : Int)))) then
          (bif (Nat.ble (((List.length ([] : List Int)) + (List.length (List.drop 9 d))) * 1) 140737488355328) then
           (bif (fitB (([] : List Int) ++ (List.drop 9 d))) then
            (bif (!(reqOkD ((IntKind.wrap .i64 (List.getD d 0 (0 : Int))), ((IntKind.wrap .i64 (List.getD d 1 (0 : Int))), ((atD d (2 : Int)), ((atD d (4 : Int)), ((atD d (6 : Int)), (([] : List Int) ++ (List.drop 9 d))))))))) then
             (meet
              ((meet
               (K ((.t [(.a [(.s (.int .i64 (0 : Int))), (.s (.int .i64 (0 : Int))), (.s (.int .i64 (0 : Int))), (.s (.int .i64 (0 : Int))), (.s (.int .i64 (0 : Int))), (.l .deep bytesR ([] : List Int))]), (.s (.bool false))]), []))
               (K ((.t [(.a [(.s (.int .i64 (0 : Int))), (.s (.int .i64 (0 : Int))), (.s (.int .i64 (0 : Int))), (.s (.int .i64 (0 : Int))), (.s (.int .i64 (0 : Int))), (.l .deep bytesR ([] : List Int))]), (.s (.bool false))]), []))))
              (K ((.t [(.a [(.s (.int .i64 (0 : Int))), (.s (.int .i64 (0 : Int))), (.s (.int .i64 (0 : Int))), (.s (.int .i64 (0 : Int))), (.s (.int .i64 (0 : Int))), (.l .deep bytesR ([] : List Int))]), (.s (.bool false))]), [])))
             else (meet
              ((bif (fitB (([] : List Int) ++ (List.drop 9 d))) then
               (meet
                ((bif (!((ByteArray.toList (bstr (reqBytesD ((IntKind.wrap .i64 (List.getD d 0 (0 : Int))), ((IntKind.wrap .i64 (List.getD d 1 (0 : Int))), ((atD d (2 : Int)), ((atD d (4 : Int)), ((atD d (6 : Int)), (([] : List Int) ++ (List.drop 9 d)))))))))) == (ByteArray.toList (bstr d)))) then
                 K ((.t [(.a [(.s (.int .i64 (0 : Int))), (.s (.int .i64 (0 : Int))), (.s (.int .i64 (0 : Int))), (.s (.int .i64 (0 : Int))), (.s (.int .i64 (0 : Int))), (.l .deep bytesR ([] : List Int))]), (.s (.bool false))]), [])
                 else K ((.t [(.a [(.s (.int .i64 (IntKind.wrap .i64 (List.getD d 0 (0 : Int))))), (.s (.int .i64 (IntKind.wrap .i64 (List.getD d 1 (0 : Int))))), (.s (.int .i64 (atD d (2 : Int)))), (.s (.int .i64 (atD d (4 : Int)))), (.s (.int .i64 (atD d (6 : Int)))), (.l .deep bytesR (([] : List Int) ++ (List.drop 9 d)))]), (.s (.bool true))]), [])))
                ((bif (!((ByteArray.toList (bstr (reqBytesD ((IntKind.wrap .i64 (List.getD d 0 (0 : Int))), ((IntKind.wrap .i64 (List.getD d 1 (0 : Int))), ((atD d (2 : Int)), ((atD d (4 : Int)), ((atD d (6 : Int)), (([] : List Int) ++ (List.drop 9 d)))))))))) == (ByteArray.toList (bstr d)))) then
                 K ((.t [(.a [(.s (.int .i64 (0 : Int))), (.s (.int .i64 (0 : Int))), (.s (.int .i64 (0 : Int))), (.s (.int .i64 (0 : Int))), (.s (.int .i64 (0 : Int))), (.l .deep bytesR ([] : List Int))]), (.s (.bool false))]), [])
                 else K ((.t [(.a [(.s (.int .i64 (IntKind.wrap .i64 (List.getD d 0 (0 : Int))))), (.s (.int .i64 (IntKind.wrap .i64 (List.getD d 1 (0 : Int))))), (.s (.int .i64 (atD d (2 : Int)))), (.s (.int .i64 (atD d (4 : Int)))), (.s (.int .i64 (atD d (6 : Int)))), (.l .deep bytesR (([] : List Int) ++ (List.drop 9 d)))]), (.s (.bool true))]), []))))
               else none))
              ((bif (fitB (([] : List Int) ++ (List.drop 9 d))) then
               (bif (!((ByteArray.toList (bstr (reqBytesD ((IntKind.wrap .i64 (List.getD d 0 (0 : Int))), ((IntKind.wrap .i64 (List.getD d 1 (0 : Int))), ((atD d (2 : Int)), ((atD d (4 : Int)), ((atD d (6 : Int)), (([] : List Int) ++ (List.drop 9 d)))))))))) == (ByteArray.toList (bstr d)))) then
                K ((.t [(.a [(.s (.int .i64 (0 : Int))), (.s (.int .i64 (0 : Int))), (.s (.int .i64 (0 : Int))), (.s (.int .i64 (0 : Int))), (.s (.int .i64 (0 : Int))), (.l .deep bytesR ([] : List Int))]), (.s (.bool false))]), [])
                else K ((.t [(.a [(.s (.int .i64 (IntKind.wrap .i64 (List.getD d 0 (0 : Int))))), (.s (.int .i64 (IntKind.wrap .i64 (List.getD d 1 (0 : Int))))), (.s (.int .i64 (atD d (2 : Int)))), (.s (.int .i64 (atD d (4 : Int)))), (.s (.int .i64 (atD d (6 : Int)))), (.l .deep bytesR (([] : List Int) ++ (List.drop 9 d)))]), (.s (.bool true))]), []))
               else none))))
            else none)
           else none)
          else none)
         else none)
        else none))))
      ((meet
       ((bif (((fitB d) && true) && (decide (((2 : Int) + (1 : Int)) < (((List.length d) : Nat) : Int)))) then
        (meet
         ((bif (((fitB d) && true) && (decide (((4 : Int) + (1 : Int)) < (((List.length d) : Nat) : Int)))) then
          (meet
           ((bif (((fitB d) && true) && (decide (((6 : Int) + (1 : Int)) < (((List.length d) : Nat) : Int)))) then
            (bif (Nat.ble (((List.length ([] : List Int)) + (List.length (List.drop 9 d))) * 1) 140737488355328) then
             (bif (fitB (([] : List Int) ++ (List.drop 9 d))) then
              (bif (!(reqOkD ((IntKind.wrap .i64 (List.getD d 0 (0 : Int))), ((IntKind.wrap .i64 (List.getD d 1 (0 : Int))), ((atD d (2 : Int)), ((atD d (4 : Int)), ((atD d (6 : Int)), (([] : List Int) ++ (List.drop 9 d))))))))) then
               (meet
                ((meet
                 (K ((.t [(.a [(.s (.int .i64 (0 : Int))), (.s (.int .i64 (0 : Int))), (.s (.int .i64 (0 : Int))), (.s (.int .i64 (0 : Int))), (.s (.int .i64 (0 : Int))), (.l .deep bytesR ([] : List Int))]), (.s (.bool false))]), []))
                 (K ((.t [(.a [(.s (.int .i64 (0 : Int))), (.s (.int .i64 (0 : Int))), (.s (.int .i64 (0 : Int))), (.s (.int .i64 (0 : Int))), (.s (.int .i64 (0 : Int))), (.l .deep bytesR ([] : List Int))]), (.s (.bool false))]), []))))
                (K ((.t [(.a [(.s (.int .i64 (0 : Int))), (.s (.int .i64 (0 : Int))), (.s (.int .i64 (0 : Int))), (.s (.int .i64 (0 : Int))), (.s (.int .i64 (0 : Int))), (.l .deep bytesR ([] : List Int))]), (.s (.bool false))]), [])))
               else (meet
                ((bif (fitB (([] : List Int) ++ (List.drop 9 d))) then
                 (meet
                  ((bif (!((ByteArray.toList (bstr (reqBytesD ((IntKind.wrap .i64 (List.getD d 0 (0 : Int))), ((IntKind.wrap .i64 (List.getD d 1 (0 : Int))), ((atD d (2 : Int)), ((atD d (4 : Int)), ((atD d (6 : Int)), (([] : List Int) ++ (List.drop 9 d)))))))))) == (ByteArray.toList (bstr d)))) then
                   K ((.t [(.a [(.s (.int .i64 (0 : Int))), (.s (.int .i64 (0 : Int))), (.s (.int .i64 (0 : Int))), (.s (.int .i64 (0 : Int))), (.s (.int .i64 (0 : Int))), (.l .deep bytesR ([] : List Int))]), (.s (.bool false))]), [])
                   else K ((.t [(.a [(.s (.int .i64 (IntKind.wrap .i64 (List.getD d 0 (0 : Int))))), (.s (.int .i64 (IntKind.wrap .i64 (List.getD d 1 (0 : Int))))), (.s (.int .i64 (atD d (2 : Int)))), (.s (.int .i64 (atD d (4 : Int)))), (.s (.int .i64 (atD d (6 : Int)))), (.l .deep bytesR (([] : List Int) ++ (List.drop 9 d)))]), (.s (.bool true))]), [])))
                  ((bif (!((ByteArray.toList (bstr (reqBytesD ((IntKind.wrap .i64 (List.getD d 0 (0 : Int))), ((IntKind.wrap .i64 (List.getD d 1 (0 : Int))), ((atD d (2 : Int)), ((atD d (4 : Int)), ((atD d (6 : Int)), (([] : List Int) ++ (List.drop 9 d)))))))))) == (ByteArray.toList (bstr d)))) then
                   K ((.t [(.a [(.s (.int .i64 (0 : Int))), (.s (.int .i64 (0 : Int))), (.s (.int .i64 (0 : Int))), (.s (.int .i64 (0 : Int))), (.s (.int .i64 (0 : Int))), (.l .deep bytesR ([] : List Int))]), (.s (.bool false))]), [])
                   else K ((.t [(.a [(.s (.int .i64 (IntKind.wrap .i64 (List.getD d 0 (0 : Int))))), (.s (.int .i64 (IntKind.wrap .i64 (List.getD d 1 (0 : Int))))), (.s (.int .i64 (atD d (2 : Int)))), (.s (.int .i64 (atD d (4 : Int)))), (.s (.int .i64 (atD d (6 : Int)))), (.l .deep bytesR (([] : List Int) ++ (List.drop 9 d)))]), (.s (.bool true))]), []))))
                 else none))
                ((bif (fitB (([] : List Int) ++ (List.drop 9 d))) then
                 (bif (!((ByteArray.toList (bstr (reqBytesD ((IntKind.wrap .i64 (List.getD d 0 (0 : Int))), ((IntKind.wrap .i64 (List.getD d 1 (0 : Int))), ((atD d (2 : Int)), ((atD d (4 : Int)), ((atD d (6 : Int)), (([] : List Int) ++ (List.drop 9 d)))))))))) == (ByteArray.toList (bstr d)))) then
                  K ((.t [(.a [(.s (.int .i64 (0 : Int))), (.s (.int .i64 (0 : Int))), (.s (.int .i64 (0 : Int))), (.s (.int .i64 (0 : Int))), (.s (.int .i64 (0 : Int))), (.l .deep bytesR ([] : List Int))]), (.s (.bool false))]), [])
                  else K ((.t [(.a [(.s (.int .i64 (IntKind.wrap .i64 (List.getD d 0 (0 : Int))))), (.s (.int .i64 (IntKind.wrap .i64 (List.getD d 1 (0 : Int))))), (.s (.int .i64 (atD d (2 : Int)))), (.s (.int .i64 (atD d (4 : Int)))), (.s (.int .i64 (atD d (6 : Int)))), (.l .deep bytesR (([] : List Int) ++ (List.drop 9 d)))]), (.s (.bool true))]), []))
                 else none))))
              else none)
             else none)
            else none))
           ((bif (((fitB d) && true) && (decide (((6 : Int) + (1 : Int)) < (((List.length d) : Nat) : Int)))) then
            (bif (Nat.ble (((List.length ([] : List Int)) + (List.length (List.drop 9 d))) * 1) 140737488355328) then
             (bif (fitB (([] : List Int) ++ (List.drop 9 d))) then
              (bif (!(reqOkD ((IntKind.wrap .i64 (List.getD d 0 (0 : Int))), ((IntKind.wrap .i64 (List.getD d 1 (0 : Int))), ((atD d (2 : Int)), ((atD d (4 : Int)), ((atD d (6 : Int)), (([] : List Int) ++ (List.drop 9 d))))))))) then
               (meet
                ((meet
                 (K ((.t [(.a [(.s (.int .i64 (0 : Int))), (.s (.int .i64 (0 : Int))), (.s (.int .i64 (0 : Int))), (.s (.int .i64 (0 : Int))), (.s (.int .i64 (0 : Int))), (.l .deep bytesR ([] : List Int))]), (.s (.bool false))]), []))
                 (K ((.t [(.a [(.s (.int .i64 (0 : Int))), (.s (.int .i64 (0 : Int))), (.s (.int .i64 (0 : Int))), (.s (.int .i64 (0 : Int))), (.s (.int .i64 (0 : Int))), (.l .deep bytesR ([] : List Int))]), (.s (.bool false))]), []))))
                (K ((.t [(.a [(.s (.int .i64 (0 : Int))), (.s (.int .i64 (0 : Int))), (.s (.int .i64 (0 : Int))), (.s (.int .i64 (0 : Int))), (.s (.int .i64 (0 : Int))), (.l .deep bytesR ([] : List Int))]), (.s (.bool false))]), [])))
               else (meet
                ((bif (fitB (([] : List Int) ++ (List.drop 9 d))) then
                 (meet
                  ((bif (!((ByteArray.toList (bstr (reqBytesD ((IntKind.wrap .i64 (List.getD d 0 (0 : Int))), ((IntKind.wrap .i64 (List.getD d 1 (0 : Int))), ((atD d (2 : Int)), ((atD d (4 : Int)), ((atD d (6 : Int)), (([] : List Int) ++ (List.drop 9 d)))))))))) == (ByteArray.toList (bstr d)))) then
                   K ((.t [(.a [(.s (.int .i64 (0 : Int))), (.s (.int .i64 (0 : Int))), (.s (.int .i64 (0 : Int))), (.s (.int .i64 (0 : Int))), (.s (.int .i64 (0 : Int))), (.l .deep bytesR ([] : List Int))]), (.s (.bool false))]), [])
                   else K ((.t [(.a [(.s (.int .i64 (IntKind.wrap .i64 (List.getD d 0 (0 : Int))))), (.s (.int .i64 (IntKind.wrap .i64 (List.getD d 1 (0 : Int))))), (.s (.int .i64 (atD d (2 : Int)))), (.s (.int .i64 (atD d (4 : Int)))), (.s (.int .i64 (atD d (6 : Int)))), (.l .deep bytesR (([] : List Int) ++ (List.drop 9 d)))]), (.s (.bool true))]), [])))
                  ((bif (!((ByteArray.toList (bstr (reqBytesD ((IntKind.wrap .i64 (List.getD d 0 (0 : Int))), ((IntKind.wrap .i64 (List.getD d 1 (0 : Int))), ((atD d (2 : Int)), ((atD d (4 : Int)), ((atD d (6 : Int)), (([] : List Int) ++ (List.drop 9 d)))))))))) == (ByteArray.toList (bstr d)))) then
                   K ((.t [(.a [(.s (.int .i64 (0 : Int))), (.s (.int .i64 (0 : Int))), (.s (.int .i64 (0 : Int))), (.s (.int .i64 (0 : Int))), (.s (.int .i64 (0 : Int))), (.l .deep bytesR ([] : List Int))]), (.s (.bool false))]), [])
                   else K ((.t [(.a [(.s (.int .i64 (IntKind.wrap .i64 (List.getD d 0 (0 : Int))))), (.s (.int .i64 (IntKind.wrap .i64 (List.getD d 1 (0 : Int))))), (.s (.int .i64 (atD d (2 : Int)))), (.s (.int .i64 (atD d (4 : Int)))), (.s (.int .i64 (atD d (6 : Int)))), (.l .deep bytesR (([] : List Int) ++ (List.drop 9 d)))]), (.s (.bool true))]), []))))
                 else none))
                ((bif (fitB (([] : List Int) ++ (List.drop 9 d))) then
                 (bif (!((ByteArray.toList (bstr (reqBytesD ((IntKind.wrap .i64 (List.getD d 0 (0 : Int))), ((IntKind.wrap .i64 (List.getD d 1 (0 : Int))), ((atD d (2 : Int)), ((atD d (4 : Int)), ((atD d (6 : Int)), (([] : List Int) ++ (List.drop 9 d)))))))))) == (ByteArray.toList (bstr d)))) then
                  K ((.t [(.a [(.s (.int .i64 (0 : Int))), (.s (.int .i64 (0 : Int))), (.s (.int .i64 (0 : Int))), (.s (.int .i64 (0 : Int))), (.s (.int .i64 (0 : Int))), (.l .deep bytesR ([] : List Int))]), (.s (.bool false))]), [])
                  else K ((.t [(.a [(.s (.int .i64 (IntKind.wrap .i64 (List.getD d 0 (0 : Int))))), (.s (.int .i64 (IntKind.wrap .i64 (List.getD d 1 (0 : Int))))), (.s (.int .i64 (atD d (2 : Int)))), (.s (.int .i64 (atD d (4 : Int)))), (.s (.int .i64 (atD d (6 : Int)))), (.l .deep bytesR (([] : List Int) ++ (List.drop 9 d)))]), (.s (.bool true))]), []))
                 else none))))
              else none)
             else none)
            else none)))
          else none))
         ((bif (((fitB d) && true) && (decide (((4 : Int) + (1 : Int)) < (((List.length d) : Nat) : Int)))) then
          (bif (((fitB d) && true) && (decide (((6 : Int) + (1 : Int)) < (((List.length d) : Nat) : Int)))) then
           (bif (Nat.ble (((List.length ([] : List Int)) + (List.length (List.drop 9 d))) * 1) 140737488355328) then
            (bif (fitB (([] : List Int) ++ (List.drop 9 d))) then
             (bif (!(reqOkD ((IntKind.wrap .i64 (List.getD d 0 (0 : Int))), ((IntKind.wrap .i64 (List.getD d 1 (0 : Int))), ((atD d (2 : Int)), ((atD d (4 : Int)), ((atD d (6 : Int)), (([] : List Int) ++ (List.drop 9 d))))))))) then
              (meet
               ((meet
                (K ((.t [(.a [(.s (.int .i64 (0 : Int))), (.s (.int .i64 (0 : Int))), (.s (.int .i64 (0 : Int))), (.s (.int .i64 (0 : Int))), (.s (.int .i64 (0 : Int))), (.l .deep bytesR ([] : List Int))]), (.s (.bool false))]), []))
                (K ((.t [(.a [(.s (.int .i64 (0 : Int))), (.s (.int .i64 (0 : Int))), (.s (.int .i64 (0 : Int))), (.s (.int .i64 (0 : Int))), (.s (.int .i64 (0 : Int))), (.l .deep bytesR ([] : List Int))]), (.s (.bool false))]), []))))
               (K ((.t [(.a [(.s (.int .i64 (0 : Int))), (.s (.int .i64 (0 : Int))), (.s (.int .i64 (0 : Int))), (.s (.int .i64 (0 : Int))), (.s (.int .i64 (0 : Int))), (.l .deep bytesR ([] : List Int))]), (.s (.bool false))]), [])))
              else (meet
               ((bif (fitB (([] : List Int) ++ (List.drop 9 d))) then
                (meet
                 ((bif (!((ByteArray.toList (bstr (reqBytesD ((IntKind.wrap .i64 (List.getD d 0 (0 : Int))), ((IntKind.wrap .i64 (List.getD d 1 (0 : Int))), ((atD d (2 : Int)), ((atD d (4 : Int)), ((atD d (6 : Int)), (([] : List Int) ++ (List.drop 9 d)))))))))) == (ByteArray.toList (bstr d)))) then
                  K ((.t [(.a [(.s (.int .i64 (0 : Int))), (.s (.int .i64 (0 : Int))), (.s (.int .i64 (0 : Int))), (.s (.int .i64 (0 : Int))), (.s (.int .i64 (0 : Int))), (.l .deep bytesR ([] : List Int))]), (.s (.bool false))]), [])
                  else K ((.t [(.a [(.s (.int .i64 (IntKind.wrap .i64 (List.getD d 0 (0 : Int))))), (.s (.int .i64 (IntKind.wrap .i64 (List.getD d 1 (0 : Int))))), (.s (.int .i64 (atD d (2 : Int)))), (.s (.int .i64 (atD d (4 : Int)))), (.s (.int .i64 (atD d (6 : Int)))), (.l .deep bytesR (([] : List Int) ++ (List.drop 9 d)))]), (.s (.bool true))]), [])))
                 ((bif (!((ByteArray.toList (bstr (reqBytesD ((IntKind.wrap .i64 (List.getD d 0 (0 : Int))), ((IntKind.wrap .i64 (List.getD d 1 (0 : Int))), ((atD d (2 : Int)), ((atD d (4 : Int)), ((atD d (6 : Int)), (([] : List Int) ++ (List.drop 9 d)))))))))) == (ByteArray.toList (bstr d)))) then
                  K ((.t [(.a [(.s (.int .i64 (0 : Int))), (.s (.int .i64 (0 : Int))), (.s (.int .i64 (0 : Int))), (.s (.int .i64 (0 : Int))), (.s (.int .i64 (0 : Int))), (.l .deep bytesR ([] : List Int))]), (.s (.bool false))]), [])
                  else K ((.t [(.a [(.s (.int .i64 (IntKind.wrap .i64 (List.getD d 0 (0 : Int))))), (.s (.int .i64 (IntKind.wrap .i64 (List.getD d 1 (0 : Int))))), (.s (.int .i64 (atD d (2 : Int)))), (.s (.int .i64 (atD d (4 : Int)))), (.s (.int .i64 (atD d (6 : Int)))), (.l .deep bytesR (([] : List Int) ++ (List.drop 9 d)))]), (.s (.bool true))]), []))))
                else none))
               ((bif (fitB (([] : List Int) ++ (List.drop 9 d))) then
                (bif (!((ByteArray.toList (bstr (reqBytesD ((IntKind.wrap .i64 (List.getD d 0 (0 : Int))), ((IntKind.wrap .i64 (List.getD d 1 (0 : Int))), ((atD d (2 : Int)), ((atD d (4 : Int)), ((atD d (6 : Int)), (([] : List Int) ++ (List.drop 9 d)))))))))) == (ByteArray.toList (bstr d)))) then
                 K ((.t [(.a [(.s (.int .i64 (0 : Int))), (.s (.int .i64 (0 : Int))), (.s (.int .i64 (0 : Int))), (.s (.int .i64 (0 : Int))), (.s (.int .i64 (0 : Int))), (.l .deep bytesR ([] : List Int))]), (.s (.bool false))]), [])
                 else K ((.t [(.a [(.s (.int .i64 (IntKind.wrap .i64 (List.getD d 0 (0 : Int))))), (.s (.int .i64 (IntKind.wrap .i64 (List.getD d 1 (0 : Int))))), (.s (.int .i64 (atD d (2 : Int)))), (.s (.int .i64 (atD d (4 : Int)))), (.s (.int .i64 (atD d (6 : Int)))), (.l .deep bytesR (([] : List Int) ++ (List.drop 9 d)))]), (.s (.bool true))]), []))
                else none))))
             else none)
            else none)
           else none)
          else none)))
        else none))
       ((bif (((fitB d) && true) && (decide (((2 : Int) + (1 : Int)) < (((List.length d) : Nat) : Int)))) then
        (bif (((fitB d) && true) && (decide (((4 : Int) + (1 : Int)) < (((List.length d) : Nat) : Int)))) then
         (bif (((fitB d) && true) && (decide (((6 : Int) + (1 : Int)) < (((List.length d) : Nat) : Int)))) then
          (bif (Nat.ble (((List.length ([] : List Int)) + (List.length (List.drop 9 d))) * 1) 140737488355328) then
           (bif (fitB (([] : List Int) ++ (List.drop 9 d))) then
            (bif (!(reqOkD ((IntKind.wrap .i64 (List.getD d 0 (0 : Int))), ((IntKind.wrap .i64 (List.getD d 1 (0 : Int))), ((atD d (2 : Int)), ((atD d (4 : Int)), ((atD d (6 : Int)), (([] : List Int) ++ (List.drop 9 d))))))))) then
             (meet
              ((meet
               (K ((.t [(.a [(.s (.int .i64 (0 : Int))), (.s (.int .i64 (0 : Int))), (.s (.int .i64 (0 : Int))), (.s (.int .i64 (0 : Int))), (.s (.int .i64 (0 : Int))), (.l .deep bytesR ([] : List Int))]), (.s (.bool false))]), []))
               (K ((.t [(.a [(.s (.int .i64 (0 : Int))), (.s (.int .i64 (0 : Int))), (.s (.int .i64 (0 : Int))), (.s (.int .i64 (0 : Int))), (.s (.int .i64 (0 : Int))), (.l .deep bytesR ([] : List Int))]), (.s (.bool false))]), []))))
              (K ((.t [(.a [(.s (.int .i64 (0 : Int))), (.s (.int .i64 (0 : Int))), (.s (.int .i64 (0 : Int))), (.s (.int .i64 (0 : Int))), (.s (.int .i64 (0 : Int))), (.l .deep bytesR ([] : List Int))]), (.s (.bool false))]), [])))
             else (meet
              ((bif (fitB (([] : List Int) ++ (List.drop 9 d))) then
               (meet
                ((bif (!((ByteArray.toList (bstr (reqBytesD ((IntKind.wrap .i64 (List.getD d 0 (0 : Int))), ((IntKind.wrap .i64 (List.getD d 1 (0 : Int))), ((atD d (2 : Int)), ((atD d (4 : Int)), ((atD d (6 : Int)), (([] : List Int) ++ (List.drop 9 d)))))))))) == (ByteArray.toList (bstr d)))) then
                 K ((.t [(.a [(.s (.int .i64 (0 : Int))), (.s (.int .i64 (0 : Int))), (.s (.int .i64 (0 : Int))), (.s (.int .i64 (0 : Int))), (.s (.int .i64 (0 : Int))), (.l .deep bytesR ([] : List Int))]), (.s (.bool false))]), [])
                 else K ((.t [(.a [(.s (.int .i64 (IntKind.wrap .i64 (List.getD d 0 (0 : Int))))), (.s (.int .i64 (IntKind.wrap .i64 (List.getD d 1 (0 : Int))))), (.s (.int .i64 (atD d (2 : Int)))), (.s (.int .i64 (atD d (4 : Int)))), (.s (.int .i64 (atD d (6 : Int)))), (.l .deep bytesR (([] : List Int) ++ (List.drop 9 d)))]), (.s (.bool true))]), [])))
                ((bif (!((ByteArray.toList (bstr (reqBytesD ((IntKind.wrap .i64 (List.getD d 0 (0 : Int))), ((IntKind.wrap .i64 (List.getD d 1 (0 : Int))), ((atD d (2 : Int)), ((atD d (4 : Int)), ((atD d (6 : Int)), (([] : List Int) ++ (List.drop 9 d)))))))))) == (ByteArray.toList (bstr d)))) then
                 K ((.t [(.a [(.s (.int .i64 (0 : Int))), (.s (.int .i64 (0 : Int))), (.s (.int .i64 (0 : Int))), (.s (.int .i64 (0 : Int))), (.s (.int .i64 (0 : Int))), (.l .deep bytesR ([] : List Int))]), (.s (.bool false))]), [])
                 else K ((.t [(.a [(.s (.int .i64 (IntKind.wrap .i64 (List.getD d 0 (0 : Int))))), (.s (.int .i64 (IntKind.wrap .i64 (List.getD d 1 (0 : Int))))), (.s (.int .i64 (atD d (2 : Int)))), (.s (.int .i64 (atD d (4 : Int)))), (.s (.int .i64 (atD d (6 : Int)))), (.l .deep bytesR (([] : List Int) ++ (List.drop 9 d)))]), (.s (.bool true))]), []))))
               else none))
              ((bif (fitB (([] : List Int) ++ (List.drop 9 d))) then
               (bif (!((ByteArray.toList (bstr (reqBytesD ((IntKind.wrap .i64 (List.getD d 0 (0 : Int))), ((IntKind.wrap .i64 (List.getD d 1 (0 : Int))), ((atD d (2 : Int)), ((atD d (4 : Int)), ((atD d (6 : Int)), (([] : List Int) ++ (List.drop 9 d)))))))))) == (ByteArray.toList (bstr d)))) then
                K ((.t [(.a [(.s (.int .i64 (0 : Int))), (.s (.int .i64 (0 : Int))), (.s (.int .i64 (0 : Int))), (.s (.int .i64 (0 : Int))), (.s (.int .i64 (0 : Int))), (.l .deep bytesR ([] : List Int))]), (.s (.bool false))]), [])
                else K ((.t [(.a [(.s (.int .i64 (IntKind.wrap .i64 (List.getD d 0 (0 : Int))))), (.s (.int .i64 (IntKind.wrap .i64 (List.getD d 1 (0 : Int))))), (.s (.int .i64 (atD d (2 : Int)))), (.s (.int .i64 (atD d (4 : Int)))), (.s (.int .i64 (atD d (6 : Int)))), (.l .deep bytesR (([] : List Int) ++ (List.drop 9 d)))]), (.s (.bool true))]), []))
               else none))))
            else none)
           else none)
          else none)
         else none)
        else none)))))))
    else none)
   else none)
  else none))
theorem e_s_ReqParse (d : List Int) (K : Ret → Option Ret) : evF E_s_ReqParse true F.s_ReqParse [.l .no bytesR d] K = T_s_ReqParse d K := by kernel_rfl
def S_s_ReqParse : Sm := S_fnR [.l bytesR] (fun d => fitB d.1) (fun d => (.t [.a (reqR.cells .deep (reqParseD d.1).1), bl (reqParseD d.1).2], []))
theorem v_s_ReqParse (d : List Int) (h : (fitB d) = true) (K : Ret → Option Ret) : T_s_ReqParse d K = K (.t [.a (reqR.cells .deep (reqParseD d).1), bl (reqParseD d).2], []) := by
  have hl := fitB_len h
  unfold T_s_ReqParse reqParseD
  by_cases h9 : ((d.length : Nat) : Int) < 9
  · rw [decide_eq_true h9]; rfl
  have b0 := fitB_getD h 0
  have b1 := fitB_getD h 1
  rw [decide_eq_false h9, wrap_in (n := d.getD 0 0) (by omega) (by omega), wrap_in (n := d.getD 1 0) (by omega) (by omega)]
  have e2 : (d.getD 0 0, d.getD 1 0, atD d 2, atD d 4, atD d 6, d.drop 9) = reqOf d := rfl
  simp only [List.nil_append, decide_eq_true (show (0 : Int) < ((d.length : Nat) : Int) by omega), decide_eq_true (show (1 : Int) < ((d.length : Nat) : Int) by omega), decide_eq_true (show (9 : Int) ≤ ((d.length : Nat) : Int) by omega), decide_eq_true (show (2 : Int) + 1 < ((d.length : Nat) : Int) by omega), decide_eq_true (show (4 : Int) + 1 < ((d.length : Nat) : Int) by omega), decide_eq_true (show (6 : Int) + 1 < ((d.length : Nat) : Int) by omega), h, fitB_drop h, cond_true, Bool.true_and, Bool.and_true, Nat.ble_eq_true_of_le (show (([] : List Int).length + (d.drop 9).length) * 1 ≤ 140737488355328 by simp; omega), e2, meet_self]
  cases hk : reqOkD (reqOf d) with
  | false => rfl
  | true =>
    have eb : reqBytesD (reqOf d) = reqBytesL (reqOf d) := by unfold reqBytesD; rw [hk]; rfl
    have e3 : ((bstr (reqBytesD (reqOf d))).toList == (bstr d).toList) = decide (((d.length : Nat) : Int) = 9 + d.getD 8 0) := by
      rw [eb, bstr_eq (fitB_reqBytesL (fitB_drop h 9) hk) (fun x hx => fitB_mem h hx)]
      exact parse_eq d h (by omega)
    rw [e3]
    cases decide (((d.length : Nat) : Int) = 9 + d.getD 8 0) <;> rfl
theorem okS_s_ReqParse : OkFn prog I N.s_ReqParse true S_s_ReqParse := okN (ok_fn (memc okS_s_l09At (memc okS_s_ReqOk (memc okS_s_ReqBytes mem0))) (l := [(N.s_l09At, true, S_s_l09At), (N.s_ReqOk, true, S_s_ReqOk), (N.s_ReqBytes, true, S_s_ReqBytes)]) (p := [(3, takeB [0, 1, 2, 3, 4, 5, 6, 7, 8, 10, 12, 15, 16] (.fork (.more 9 (.fork (.more 11 (.fork (.more 13 (.fork (.more 14 (.fork (.more 17 (takeB [18] (.fork (.one 19 (.fork (.one 20 (.done)))))) (.one 19 (.fork (.one 17 (takeB [18] (.fork (.one 20 (.done))))))))) (.one 19 (.fork (.one 14 (.fork (.one 17 (takeB [18] (.fork (.one 20 (.done))))))))))) (.more 14 (.fork (.more 13 (.fork (.more 17 (takeB [18] (.fork (.one 19 (.fork (.one 20 (.done)))))) (.one 19 (.fork (.one 17 (takeB [18] (.fork (.one 20 (.done))))))))) (.one 19 (.fork (.one 13 (.fork (.one 17 (takeB [18] (.fork (.one 20 (.done))))))))))) (.one 19 (.fork (.more 13 (.fork (.one 14 (.fork (.one 17 (takeB [18] (.fork (.one 20 (.done)))))))) (.one 14 (.fork (.one 13 (.fork (.one 17 (takeB [18] (.fork (.one 20 (.done))))))))))))))) (.more 14 (.fork (.more 11 (.fork (.more 13 (.fork (.more 17 (takeB [18] (.fork (.one 19 (.fork (.one 20 (.done)))))) (.one 19 (.fork (.one 17 (takeB [18] (.fork (.one 20 (.done))))))))) (.one 19 (.fork (.one 13 (.fork (.one 17 (takeB [18] (.fork (.one 20 (.done))))))))))) (.one 19 (.fork (.one 11 (.fork (.one 13 (.fork (.one 17 (takeB [18] (.fork (.one 20 (.done))))))))))))) (.one 19 (.fork (.more 11 (.fork (.more 13 (.fork (.one 14 (.fork (.one 17 (takeB [18] (.fork (.one 20 (.done)))))))) (.one 14 (.fork (.one 13 (.fork (.one 17 (takeB [18] (.fork (.one 20 (.done))))))))))) (.one 14 (.fork (.one 11 (.fork (.one 13 (.fork (.one 17 (takeB [18] (.fork (.one 20 (.done))))))))))))))))) (.more 14 (.fork (.more 9 (.fork (.more 11 (.fork (.more 13 (.fork (.more 17 (takeB [18] (.fork (.one 19 (.fork (.one 20 (.done)))))) (.one 19 (.fork (.one 17 (takeB [18] (.fork (.one 20 (.done))))))))) (.one 19 (.fork (.one 13 (.fork (.one 17 (takeB [18] (.fork (.one 20 (.done))))))))))) (.one 19 (.fork (.one 11 (.fork (.one 13 (.fork (.one 17 (takeB [18] (.fork (.one 20 (.done))))))))))))) (.one 19 (.fork (.one 9 (.fork (.one 11 (.fork (.one 13 (.fork (.one 17 (takeB [18] (.fork (.one 20 (.done))))))))))))))) (.one 19 (.fork (.more 9 (.fork (.more 11 (.fork (.more 13 (.fork (.one 14 (.fork (.one 17 (takeB [18] (.fork (.one 20 (.done)))))))) (.one 14 (.fork (.one 13 (.fork (.one 17 (takeB [18] (.fork (.one 20 (.done))))))))))) (.one 14 (.fork (.one 11 (.fork (.one 13 (.fork (.one 17 (takeB [18] (.fork (.one 20 (.done))))))))))))) (.one 14 (.fork (.one 9 (.fork (.one 11 (.fork (.one 13 (.fork (.one 17 (takeB [18] (.fork (.one 20 (.done))))))))))))))))))), []), (4, takeB [0] (.fork (.one 1 (takeB [2, 3, 4, 7] (.fork (.more 5 (.fork (.more 6 (.fork (.one 8 (takes [9, 10]))) (.one 8 (.fork (.one 6 (takes [9, 10])))))) (.one 8 (.fork (.one 5 (.fork (.one 6 (takes [9, 10]))))))))))), [])]) (ls := []) (lend := []) (focus := false) (fuel := 0) (give := []) (fn := F.s_ReqParse) (by kernel_rfl) (by kernel_rfl) (by kernel_rfl) (by kernel_rfl) (cs := []) (by kernel_rfl) loops0) (S_fnR_of fun d K h => (e_s_ReqParse d.1 K).trans (v_s_ReqParse d.1 h K))
end Go.Ev.Seat
end
section
/- s_l12Same: its contract. -/
namespace Go.Ev.Seat
open Go.RowKit
set_option maxRecDepth 100000
set_option linter.unusedVariables false
set_option linter.unusedSimpArgs false
noncomputable abbrev E_s_l12Same : Env := En [] [] [] [] false 0 []
noncomputable def T_s_l12Same (r : T_Req) (o : T_Req) (K : Ret → Option Ret) : Option Ret :=
 (bif (r.1 == o.1) then
 (bif (r.2.1 == o.2.1) then
  (bif (r.2.2.1 == o.2.2.1) then
   (bif (r.2.2.2.1 == o.2.2.2.1) then
    (bif (r.2.2.2.2.1 == o.2.2.2.2.1) then
     K ((.s (.bool ((ByteArray.toList (bstr r.2.2.2.2.2)) == (ByteArray.toList (bstr o.2.2.2.2.2))))), [])
     else K ((.s (.bool false)), []))
    else K ((.s (.bool false)), []))
   else K ((.s (.bool false)), []))
  else K ((.s (.bool false)), []))
 else K ((.s (.bool false)), []))
theorem e_s_l12Same (r : T_Req) (o : T_Req) (K : Ret → Option Ret) : evF E_s_l12Same true F.s_l12Same [.a (reqR.cells .no r), .a (reqR.cells .no o)] K = T_s_l12Same r o K := by kernel_rfl
def S_s_l12Same : Sm := S_fnR [.a reqR, .a reqR] (fun d => fitB d.1.2.2.2.2.2 && fitB d.2.1.2.2.2.2.2) (fun d => (bl (reqEqD d.1 d.2.1), []))
theorem v_s_l12Same (r : T_Req) (o : T_Req) (h : (fitB r.2.2.2.2.2 && fitB o.2.2.2.2.2) = true) (K : Ret → Option Ret) : T_s_l12Same r o K = K (bl (reqEqD r o), []) := by
  obtain ⟨h1, h2⟩ := (Bool.and_eq_true _ _).mp h
  unfold T_s_l12Same reqEqD
  rw [bstr_eq (fun x hx => fitB_mem h1 hx) (fun x hx => fitB_mem h2 hx)]
  cases (r.1 == o.1) <;> cases (r.2.1 == o.2.1) <;> cases (r.2.2.1 == o.2.2.1) <;> cases (r.2.2.2.1 == o.2.2.2.1) <;> cases (r.2.2.2.2.1 == o.2.2.2.2.1) <;> rfl
theorem okS_s_l12Same : OkFn prog I N.s_l12Same true S_s_l12Same := okN (ok_fn mem0 (l := []) (p := []) (ls := []) (lend := []) (focus := false) (fuel := 0) (give := []) (fn := F.s_l12Same) (by kernel_rfl) (by kernel_rfl) (by kernel_rfl) (by kernel_rfl) (cs := []) (by kernel_rfl) loops0) (S_fnR_of fun d K h => (e_s_l12Same d.1 d.2.1 K).trans (v_s_l12Same d.1 d.2.1 h K))
end Go.Ev.Seat
end
section
/- s_l12Frame: its contract. -/
namespace Go.Ev.Seat
open Go.RowKit
set_option maxRecDepth 100000
set_option linter.unusedVariables false
set_option linter.unusedSimpArgs false
noncomputable abbrev E_s_l12Frame : Env := En [(N.s_ReqParse, true, S_s_ReqParse), (N.s_l12Same, true, S_s_l12Same)] [] [] [] false 0 []
noncomputable def T_s_l12Frame (e : T_Event) (o : T_Out) (K : Ret → Option Ret) : Option Ret :=
 (bif (fitB e.2.2.2) then
 (bif (!(reqParseD e.2.2.2).2) then
  (bif (o.2.1 == (0 : Int)) then
   (bif ((fitB o.2.2.2.2.2.2.2.1) && (fitB ([] : List Int))) then
    (bif (reqEqD (o.2.2.1, (o.2.2.2.1, (o.2.2.2.2.1, (o.2.2.2.2.2.1, (o.2.2.2.2.2.2.1, o.2.2.2.2.2.2.2.1))))) ((0 : Int), ((0 : Int), ((0 : Int), ((0 : Int), ((0 : Int), ([] : List Int))))))) then
     K ((.s (.bool (o.2.2.2.2.2.2.2.2.2.1 == (1 : Int)))), [])
     else K ((.s (.bool false)), []))
    else none)
   else K ((.s (.bool false)), []))
  else (bif (o.2.1 == (reqParseD e.2.2.2).1.2.1) then
   (bif ((fitB o.2.2.2.2.2.2.2.1) && (fitB (reqParseD e.2.2.2).1.2.2.2.2.2)) then
    (bif (reqEqD (o.2.2.1, (o.2.2.2.1, (o.2.2.2.2.1, (o.2.2.2.2.2.1, (o.2.2.2.2.2.2.1, o.2.2.2.2.2.2.2.1))))) (reqParseD e.2.2.2).1) then
     K ((.s (.bool (o.2.2.2.2.2.2.2.2.2.1 == (10 : Int)))), [])
     else K ((.s (.bool false)), []))
    else none)
   else K ((.s (.bool false)), [])))
 else none)
theorem e_s_l12Frame (e : T_Event) (o : T_Out) (K : Ret → Option Ret) : evF E_s_l12Frame true F.s_l12Frame [.a (eventR.cells .no e), .a (outR.cells .no o)] K = T_s_l12Frame e o K := by kernel_rfl
def S_s_l12Frame : Sm := S_fnR [.a eventR, .a outR] (fun d => fitB d.1.2.2.2 && fitB (outReq d.2.1).2.2.2.2.2) (fun d => (bl (frameOkD d.1.2.2.2 d.2.1), []))
theorem v_s_l12Frame (e : T_Event) (o : T_Out) (h : (fitB e.2.2.2 && fitB (outReq o).2.2.2.2.2) = true) (K : Ret → Option Ret) : T_s_l12Frame e o K = K (bl (frameOkD e.2.2.2 o), []) := by
  obtain ⟨h1, h2⟩ := (Bool.and_eq_true _ _).mp h
  have h2' : fitB o.2.2.2.2.2.2.2.1 = true := h2
  have h3 := fitB_parse h1
  unfold T_s_l12Frame frameOkD zeroReq outRep
  rw [h1, h2', h3, show fitB [] = true from rfl]
  show (bif true then (bif !(reqParseD e.2.2.2).2 then (bif _ then (bif true && true then (bif reqEqD (outReq o) _ then _ else _) else _) else _) else (bif _ then (bif true && true then (bif reqEqD (outReq o) _ then _ else _) else _) else _)) else _) = _
  cases (reqParseD e.2.2.2).2
  · cases (o.2.1 == (0 : Int)) <;> cases reqEqD (outReq o) (0, 0, 0, 0, 0, []) <;> rfl
  · cases (o.2.1 == (reqParseD e.2.2.2).1.2.1) <;> cases reqEqD (outReq o) (reqParseD e.2.2.2).1 <;> rfl
theorem okS_s_l12Frame : OkFn prog I N.s_l12Frame true S_s_l12Frame := okN (ok_fn (memc okS_s_ReqParse (memc okS_s_l12Same mem0)) (l := [(N.s_ReqParse, true, S_s_ReqParse), (N.s_l12Same, true, S_s_l12Same)]) (p := []) (ls := []) (lend := []) (focus := false) (fuel := 0) (give := []) (fn := F.s_l12Frame) (by kernel_rfl) (by kernel_rfl) (by kernel_rfl) (by kernel_rfl) (cs := []) (by kernel_rfl) loops0) (S_fnR_of fun d K h => (e_s_l12Frame d.1 d.2.1 K).trans (v_s_l12Frame d.1 d.2.1 h K))
end Go.Ev.Seat
end
