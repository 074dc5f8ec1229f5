/- RopeJoin: parts Fsl01Rune FsRuneSize Fsl01Cuts FsTextOk PLoop PRope FsChunkOk PReq EvFit FsChunksOk FsRopeOk FsChunksText FsRopeText Fsl04Copy FsRopeJoin EvGrow FslicesGrowChunk EvConc FslicesConcatChunk Fiin Futf8wordbytes Futf8Valid FiisChunk FiareChunks FiisRope FiRopecopied FiRopeJoin PRopeW EvLRopeJoin EvKind EvOne, packed by squash.py. -/
import Derived.Shelf.Spec.SlicesGrow
import Derived.Laws.AppendOwn
import GoSem.ClaimWide
import Derived.Test.YtiinphgjeafpnaaDoorZRopeJoin0
import Derived.Test.YtiinphgjeafpnaaDoorZRopeJoin1
import Derived.Test.YtiinphgjeafpnaaDoorZRopeJoin2
import Derived.Test.YtiinphgjeafpnaaDoorZRopeJoin3
set_option linter.unusedVariables false
set_option linter.unusedSimpArgs false
section
/- s_l01Rune: its contract. -/
namespace Go.Ev.Seat
open Go.RowKit
set_option maxRecDepth 100000
set_option linter.unusedVariables false
set_option linter.unusedSimpArgs false
def z_s_l01Rune_18_0 (x0 : List Int) (x1 : Int) (x7 : Int) (x8 : Int) : St := { tm := ([(.l .no bytesR x0), (.s (.int .i64 x1)), .x, .x, .x, .x, .x, (.s (.int .i64 x7)), (.s (.int .i64 x8))] ++ List.replicate 65 .x), ob := [], nx := 0, io := [] }
def sh_s_l01Rune_18_0 : Ss := { tm := (.cons (.l .no bytesR) (.cons (.int .i64) (.cons (.x) (.cons (.x) (.cons (.x) (.cons (.x) (.cons (.x) (.cons (.int .i64) (.cons (.int .i64) (.cons (.int .i64) (xsh 64))))))))))), ob := .nil, nx := 0, io := .nil }
def d_s_l01Rune_18_0 (x0 : List Int) (x1 : Int) (x7 : Int) (x8 : Int) (x9 : Int) : sh_s_l01Rune_18_0.T := ((x0, (x1, ((), ((), ((), ((), ((), (x7, (x8, (x9, xd 64)))))))))), (), ())
def s_s_l01Rune_18_0 (x0 : List Int) (x1 : Int) (x7 : Int) (x8 : Int) (x9 : Int) : St := { tm := ([(.l .no bytesR x0), (.s (.int .i64 x1)), .x, .x, .x, .x, .x, (.s (.int .i64 x7)), (.s (.int .i64 x8)), (.s (.int .i64 x9))] ++ List.replicate 64 .x), ob := [], nx := 0, io := [] }
theorem se_s_l01Rune_18_0 (x0 : List Int) (x1 : Int) (x7 : Int) (x8 : Int) (x9 : Int) : sh_s_l01Rune_18_0.mk' (d_s_l01Rune_18_0 x0 x1 x7 x8 x9) = (s_s_l01Rune_18_0 x0 x1 x7 x8 x9) := by kernel_rfl
def w_s_l01Rune_18_0 (d : sh_s_l01Rune_18_0.T) (f : (List Int) → Int → Int → Int → Int → Option Ret) : Option Ret := match d with | ((x0, (x1, (_, (_, (_, (_, (_, (x7, (x8, (x9, _)))))))))), _, _) => f x0 x1 x7 x8 x9
noncomputable def P_s_l01Rune_18_0 (x0 : List Int) (x1 : Int) (x7 : Int) (x8 : Int) (x9 : Int) (nx0 : (List Int) → Int → Int → Int → Int → Option Ret) (k0 : (List Int) → Int → Int → Int → Option Ret) : Option Ret :=
 (bif (decide (x9 < x7)) then
 (bif ((decide ((0 : Int) ≤ (IntKind.wrap .i64 (x1 + x9)))) && (decide ((IntKind.wrap .i64 (x1 + x9)) < (((List.length x0) : Nat) : Int)))) then
  (nx0 x0 x1 x7 (IntKind.wrap .i64 ((IntKind.wrap .i64 ((IntKind.wrap .i64 ((64 : Int) * x8)) + (IntKind.wrap .i64 (List.getD x0 (Int.toNat (IntKind.wrap .i64 (x1 + x9))) (0 : Int))))) - (128 : Int))) (IntKind.wrap .i64 (x9 + (1 : Int))))
  else none)
 else (k0 x0 x1 x7 x8))
noncomputable def Q_s_l01Rune_18_0 : Nat → (List Int) → Int → Int → Int → Int → ((List Int) → Int → Int → Int → Option Ret) → Option Ret
  | 0, _, _, _, _, _, _ => none
  | m + 1, x0, x1, x7, x8, x9, k0 => P_s_l01Rune_18_0 x0 x1 x7 x8 x9 (fun x0 x1 x7 x8 x9 => (Q_s_l01Rune_18_0 m x0 x1 x7 x8 x9 k0)) k0
noncomputable def R_s_l01Rune_18_0 (x0 : List Int) (x1 : Int) (x7 : Int) (x8 : Int) (x9 : Int) (k0 : (List Int) → Int → Int → Int → Option Ret) : Option Ret := Q_s_l01Rune_18_0 (List.length x0 + x1.toNat + x7.toNat + x8.toNat + x9.toNat + 2) x0 x1 x7 x8 x9 k0
noncomputable def W_s_l01Rune_18 : LoopFn := (fun (σ : St) (K : Ex → St → Option Ret) => (match sh_s_l01Rune_18_0.un σ with | some d => w_s_l01Rune_18_0 d (fun x0 x1 x7 x8 x9 => R_s_l01Rune_18_0 x0 x1 x7 x8 x9 (fun x0 x1 x7 x8 => (K (.ext 1) (z_s_l01Rune_18_0 x0 x1 x7 x8)))) | none => none))
noncomputable abbrev E_s_l01Rune : Env := En [(N.s_RuneBytes, true, S_s_RuneBytes)] [(21, takeB [0, 3, 4, 5, 6, 7, 8] (.fork (.more 1 (.fork (.more 2 (.fork (.one 9 (takes [10]))) (.one 9 (.fork (.one 2 (takes [10])))))) (.one 9 (.fork (.one 1 (.fork (.one 2 (takes [10])))))))), [])] [(18, [0,1,7,8,9], [0,1,4,5,7,8], W_s_l01Rune_18)] [] false 0 []
theorem st_s_l01Rune_18_0 (m : Nat) (x0 : List Int) (x1 : Int) (x7 : Int) (x8 : Int) (x9 : Int) (K : Ex → St → Option Ret) : rounds (run E_s_l01Rune (bodyOf F.s_l01Rune 18)) [0,1,7,8,9] [0,1,4,5,7,8] (m + 1) (s_s_l01Rune_18_0 x0 x1 x7 x8 x9) K = P_s_l01Rune_18_0 x0 x1 x7 x8 x9 (fun x0 x1 x7 x8 x9 => (rounds (run E_s_l01Rune (bodyOf F.s_l01Rune 18)) [0,1,7,8,9] [0,1,4,5,7,8] m (s_s_l01Rune_18_0 x0 x1 x7 x8 x9) K)) (fun x0 x1 x7 x8 => (K (.ext 1) (z_s_l01Rune_18_0 x0 x1 x7 x8))) := by kernel_rfl
theorem q_s_l01Rune_18 (K : Ex → St → Option Ret) : ∀ m : Nat, (∀ (x0 : List Int) (x1 : Int) (x7 : Int) (x8 : Int) (x9 : Int), rounds (run E_s_l01Rune (bodyOf F.s_l01Rune 18)) [0,1,7,8,9] [0,1,4,5,7,8] m (s_s_l01Rune_18_0 x0 x1 x7 x8 x9) K = Q_s_l01Rune_18_0 m x0 x1 x7 x8 x9 (fun x0 x1 x7 x8 => (K (.ext 1) (z_s_l01Rune_18_0 x0 x1 x7 x8))))
  | 0 => (fun _ _ _ _ _ => rfl)
  | m + 1 => (fun x0 x1 x7 x8 x9 => (by rw [st_s_l01Rune_18_0, show (fun x0 x1 x7 x8 x9 => (rounds (run E_s_l01Rune (bodyOf F.s_l01Rune 18)) [0,1,7,8,9] [0,1,4,5,7,8] m (s_s_l01Rune_18_0 x0 x1 x7 x8 x9) K)) = (fun x0 x1 x7 x8 x9 => (Q_s_l01Rune_18_0 m x0 x1 x7 x8 x9 (fun x0 x1 x7 x8 => (K (.ext 1) (z_s_l01Rune_18_0 x0 x1 x7 x8))))) from funext fun x0 => funext fun x1 => funext fun x7 => funext fun x8 => funext fun x9 => (q_s_l01Rune_18 K m) x0 x1 x7 x8 x9]; rfl))
theorem loopK_s_l01Rune_18 : LoopOk E_s_l01Rune (bodyOf F.s_l01Rune 18) := by
  refine loopW_ok (n := 18) (F := W_s_l01Rune_18) (by kernel_rfl) rfl (li := [0,1,7,8,9]) (lo := [0,1,4,5,7,8]) rfl (fun σ K r hr => ?_)
  unfold W_s_l01Rune_18 at hr
  split at hr
  · rename_i d hd
    rw [Ss.un_mk hd]
    exact ⟨_, ((congrArg (fun z => rounds (run E_s_l01Rune (bodyOf F.s_l01Rune 18)) [0,1,7,8,9] [0,1,4,5,7,8] _ z K) (se_s_l01Rune_18_0 _ _ _ _ _)).trans ((q_s_l01Rune_18 K _) _ _ _ _ _)).trans hr⟩
  · cases hr
noncomputable def T_s_l01Rune (d : List Int) (k : Int) (K : Ret → Option Ret) : Option Ret :=
 (bif (decide (k < (0 : Int))) then
 K ((.t [(.s (.int .i64 (-(1 : Int)))), (.s (.int .i64 (0 : Int)))]), [])
 else (bif (decide (k ≥ (((List.length d) : Nat) : Int))) then
  K ((.t [(.s (.int .i64 (-(1 : Int)))), (.s (.int .i64 (0 : Int)))]), [])
  else (bif ((decide ((0 : Int) ≤ k)) && (decide (k < (((List.length d) : Nat) : Int)))) then
   (bif (decide ((IntKind.wrap .i64 (List.getD d (Int.toNat k) (0 : Int))) ≥ (240 : Int))) then
    (bif (decide ((4 : Int) > (IntKind.wrap .i64 ((((List.length d) : Nat) : Int) - k)))) then
     K ((.t [(.s (.int .i64 (-(1 : Int)))), (.s (.int .i64 (0 : Int)))]), [])
     else (R_s_l01Rune_18_0 d k (4 : Int) (IntKind.wrap .i64 ((IntKind.wrap .i64 (List.getD d (Int.toNat k) (0 : Int))) - (240 : Int))) (1 : Int) (fun y0 y1 y2 y3 =>
      (bif (((decide ((0 : Int) ≤ y1)) && (decide (y1 ≤ (IntKind.wrap .i64 (y1 + y2))))) && (decide ((IntKind.wrap .i64 (y1 + y2)) ≤ (((List.length y0) : Nat) : Int)))) then
       (meet
        ((meet
         ((bif (!((ByteArray.toList (bstr (encD y3))) == (ByteArray.toList (bstr (List.drop (Int.toNat y1) (List.take (Int.toNat (IntKind.wrap .i64 (y1 + y2))) y0)))))) then
          K ((.t [(.s (.int .i64 (-(1 : Int)))), (.s (.int .i64 (0 : Int)))]), [])
          else K ((.t [(.s (.int .i64 y3)), (.s (.int .i64 y2))]), [])))
         ((bif (!((ByteArray.toList (bstr (encD y3))) == (ByteArray.toList (bstr (List.drop (Int.toNat y1) (List.take (Int.toNat (IntKind.wrap .i64 (y1 + y2))) y0)))))) then
          K ((.t [(.s (.int .i64 (-(1 : Int)))), (.s (.int .i64 (0 : Int)))]), [])
          else K ((.t [(.s (.int .i64 y3)), (.s (.int .i64 y2))]), [])))))
        ((bif (!((ByteArray.toList (bstr (encD y3))) == (ByteArray.toList (bstr (List.drop (Int.toNat y1) (List.take (Int.toNat (IntKind.wrap .i64 (y1 + y2))) y0)))))) then
         K ((.t [(.s (.int .i64 (-(1 : Int)))), (.s (.int .i64 (0 : Int)))]), [])
         else K ((.t [(.s (.int .i64 y3)), (.s (.int .i64 y2))]), []))))
       else none))))
    else (bif (decide ((IntKind.wrap .i64 (List.getD d (Int.toNat k) (0 : Int))) ≥ (224 : Int))) then
     (bif (decide ((3 : Int) > (IntKind.wrap .i64 ((((List.length d) : Nat) : Int) - k)))) then
      K ((.t [(.s (.int .i64 (-(1 : Int)))), (.s (.int .i64 (0 : Int)))]), [])
      else (R_s_l01Rune_18_0 d k (3 : Int) (IntKind.wrap .i64 ((IntKind.wrap .i64 (List.getD d (Int.toNat k) (0 : Int))) - (224 : Int))) (1 : Int) (fun y4 y5 y6 y7 =>
       (bif (((decide ((0 : Int) ≤ y5)) && (decide (y5 ≤ (IntKind.wrap .i64 (y5 + y6))))) && (decide ((IntKind.wrap .i64 (y5 + y6)) ≤ (((List.length y4) : Nat) : Int)))) then
        (meet
         ((meet
          ((bif (!((ByteArray.toList (bstr (encD y7))) == (ByteArray.toList (bstr (List.drop (Int.toNat y5) (List.take (Int.toNat (IntKind.wrap .i64 (y5 + y6))) y4)))))) then
           K ((.t [(.s (.int .i64 (-(1 : Int)))), (.s (.int .i64 (0 : Int)))]), [])
           else K ((.t [(.s (.int .i64 y7)), (.s (.int .i64 y6))]), [])))
          ((bif (!((ByteArray.toList (bstr (encD y7))) == (ByteArray.toList (bstr (List.drop (Int.toNat y5) (List.take (Int.toNat (IntKind.wrap .i64 (y5 + y6))) y4)))))) then
           K ((.t [(.s (.int .i64 (-(1 : Int)))), (.s (.int .i64 (0 : Int)))]), [])
           else K ((.t [(.s (.int .i64 y7)), (.s (.int .i64 y6))]), [])))))
         ((bif (!((ByteArray.toList (bstr (encD y7))) == (ByteArray.toList (bstr (List.drop (Int.toNat y5) (List.take (Int.toNat (IntKind.wrap .i64 (y5 + y6))) y4)))))) then
          K ((.t [(.s (.int .i64 (-(1 : Int)))), (.s (.int .i64 (0 : Int)))]), [])
          else K ((.t [(.s (.int .i64 y7)), (.s (.int .i64 y6))]), []))))
        else none))))
     else (bif (decide ((IntKind.wrap .i64 (List.getD d (Int.toNat k) (0 : Int))) ≥ (192 : Int))) then
      (bif (decide ((2 : Int) > (IntKind.wrap .i64 ((((List.length d) : Nat) : Int) - k)))) then
       K ((.t [(.s (.int .i64 (-(1 : Int)))), (.s (.int .i64 (0 : Int)))]), [])
       else (R_s_l01Rune_18_0 d k (2 : Int) (IntKind.wrap .i64 ((IntKind.wrap .i64 (List.getD d (Int.toNat k) (0 : Int))) - (192 : Int))) (1 : Int) (fun y8 y9 y10 y11 =>
        (bif (((decide ((0 : Int) ≤ y9)) && (decide (y9 ≤ (IntKind.wrap .i64 (y9 + y10))))) && (decide ((IntKind.wrap .i64 (y9 + y10)) ≤ (((List.length y8) : Nat) : Int)))) then
         (meet
          ((meet
           ((bif (!((ByteArray.toList (bstr (encD y11))) == (ByteArray.toList (bstr (List.drop (Int.toNat y9) (List.take (Int.toNat (IntKind.wrap .i64 (y9 + y10))) y8)))))) then
            K ((.t [(.s (.int .i64 (-(1 : Int)))), (.s (.int .i64 (0 : Int)))]), [])
            else K ((.t [(.s (.int .i64 y11)), (.s (.int .i64 y10))]), [])))
           ((bif (!((ByteArray.toList (bstr (encD y11))) == (ByteArray.toList (bstr (List.drop (Int.toNat y9) (List.take (Int.toNat (IntKind.wrap .i64 (y9 + y10))) y8)))))) then
            K ((.t [(.s (.int .i64 (-(1 : Int)))), (.s (.int .i64 (0 : Int)))]), [])
            else K ((.t [(.s (.int .i64 y11)), (.s (.int .i64 y10))]), [])))))
          ((bif (!((ByteArray.toList (bstr (encD y11))) == (ByteArray.toList (bstr (List.drop (Int.toNat y9) (List.take (Int.toNat (IntKind.wrap .i64 (y9 + y10))) y8)))))) then
           K ((.t [(.s (.int .i64 (-(1 : Int)))), (.s (.int .i64 (0 : Int)))]), [])
           else K ((.t [(.s (.int .i64 y11)), (.s (.int .i64 y10))]), []))))
         else none))))
      else (bif (decide ((1 : Int) > (IntKind.wrap .i64 ((((List.length d) : Nat) : Int) - k)))) then
       K ((.t [(.s (.int .i64 (-(1 : Int)))), (.s (.int .i64 (0 : Int)))]), [])
       else (R_s_l01Rune_18_0 d k (1 : Int) (IntKind.wrap .i64 (List.getD d (Int.toNat k) (0 : Int))) (1 : Int) (fun y12 y13 y14 y15 =>
        (bif (((decide ((0 : Int) ≤ y13)) && (decide (y13 ≤ (IntKind.wrap .i64 (y13 + y14))))) && (decide ((IntKind.wrap .i64 (y13 + y14)) ≤ (((List.length y12) : Nat) : Int)))) then
         (meet
          ((meet
           ((bif (!((ByteArray.toList (bstr (encD y15))) == (ByteArray.toList (bstr (List.drop (Int.toNat y13) (List.take (Int.toNat (IntKind.wrap .i64 (y13 + y14))) y12)))))) then
            K ((.t [(.s (.int .i64 (-(1 : Int)))), (.s (.int .i64 (0 : Int)))]), [])
            else K ((.t [(.s (.int .i64 y15)), (.s (.int .i64 y14))]), [])))
           ((bif (!((ByteArray.toList (bstr (encD y15))) == (ByteArray.toList (bstr (List.drop (Int.toNat y13) (List.take (Int.toNat (IntKind.wrap .i64 (y13 + y14))) y12)))))) then
            K ((.t [(.s (.int .i64 (-(1 : Int)))), (.s (.int .i64 (0 : Int)))]), [])
            else K ((.t [(.s (.int .i64 y15)), (.s (.int .i64 y14))]), [])))))
          ((bif (!((ByteArray.toList (bstr (encD y15))) == (ByteArray.toList (bstr (List.drop (Int.toNat y13) (List.take (Int.toNat (IntKind.wrap .i64 (y13 + y14))) y12)))))) then
           K ((.t [(.s (.int .i64 (-(1 : Int)))), (.s (.int .i64 (0 : Int)))]), [])
           else K ((.t [(.s (.int .i64 y15)), (.s (.int .i64 y14))]), []))))
         else none)))))))
   else none)))
theorem e_s_l01Rune (d : List Int) (k : Int) (K : Ret → Option Ret) : evF E_s_l01Rune true F.s_l01Rune [.l .no bytesR d, .s (.int .i64 k)] K = T_s_l01Rune d k K := by kernel_rfl
theorem rune_step {m : Nat} {d : List Int} {k n r i : Int} {k0 : List Int → Int → Int → Int → Option Ret} (hd : fitB d = true) (h0 : 0 ≤ k) (hi : 0 < i) (hn : i < n) (hl : k + i < ((d.length : Nat) : Int)) (hr : -1000000000 ≤ r ∧ r ≤ 1000000000) :
    Q_s_l01Rune_18_0 (m + 1) d k n r i k0 = Q_s_l01Rune_18_0 m d k n (64 * r + d.getD (k + i).toNat 0 - 128) (i + 1) k0 := by
  have hb := fitB_get hd (k + i).toNat
  have hlen := fitB_len hd
  show P_s_l01Rune_18_0 d k n r i _ k0 = _
  unfold P_s_l01Rune_18_0
  rw [decide_eq_true hn, wrap_in (n := k + i) (by omega) (by omega), decide_eq_true (show 0 ≤ k + i by omega), decide_eq_true hl, wrap_in (n := d.getD (k + i).toNat 0) (by omega) (by omega), wrap_in (n := 64 * r) (by omega) (by omega), wrap_in (n := 64 * r + d.getD (k + i).toNat 0) (by omega) (by omega), wrap_in (n := 64 * r + d.getD (k + i).toNat 0 - 128) (by omega) (by omega), wrap_in (n := i + 1) (by omega) (by omega)]
  rfl
theorem rune_end {m : Nat} {d : List Int} {k n r i : Int} {k0 : List Int → Int → Int → Int → Option Ret} (hn : ¬ i < n) : Q_s_l01Rune_18_0 (m + 1) d k n r i k0 = k0 d k n r := by
  show P_s_l01Rune_18_0 d k n r i _ k0 = _
  unfold P_s_l01Rune_18_0
  rw [decide_eq_false hn]; rfl
theorem rune_fin {K : Ret → Option Ret} {c : Prop} [Decidable c] {r n v s : Int} (h : (if c then (r, n) else (-1, 0)) = (v, s)) :
    (bif !(decide c) then K ((.t [(.s (.int .i64 (-(1 : Int)))), (.s (.int .i64 (0 : Int)))]), []) else K ((.t [(.s (.int .i64 r)), (.s (.int .i64 n))]), [])) = K (.t [sc v, sc s], []) := by
  by_cases hc : c
  · rw [if_pos hc] at h
    obtain ⟨rfl, rfl⟩ := Prod.mk.inj h
    rw [decide_eq_true hc]; rfl
  · rw [if_neg hc] at h
    obtain ⟨h1, h2⟩ := Prod.mk.inj h
    rw [decide_eq_false hc, ← h1, ← h2]; rfl
theorem rune_part (d : List Int) (k n : Nat) : List.drop k (List.take (k + n) d) = (d.drop k).take n := by
  rw [List.drop_take]; congr 1; omega
theorem rune_k {K : Ret → Option Ret} {d xs : List Int} {k r n v s : Int} (hd : fitB d = true) (h0 : 0 ≤ k) (hn0 : 0 ≤ n) (hn : n ≤ 4) (hl : k + n ≤ ((d.length : Nat) : Int)) (hx : (d.drop k.toNat).take n.toNat = xs) (h : (if encD r = xs then (r, n) else (-1, 0)) = (v, s)) :
    (bif (((decide ((0 : Int) ≤ k)) && (decide (k ≤ (IntKind.wrap .i64 (k + n))))) && (decide ((IntKind.wrap .i64 (k + n)) ≤ (((List.length d) : Nat) : Int)))) then
       (meet
        (meet
         (bif (!((ByteArray.toList (bstr (encD r))) == (ByteArray.toList (bstr (List.drop (Int.toNat k) (List.take (Int.toNat (IntKind.wrap .i64 (k + n))) d)))))) then
          K ((.t [(.s (.int .i64 (-(1 : Int)))), (.s (.int .i64 (0 : Int)))]), [])
          else K ((.t [(.s (.int .i64 r)), (.s (.int .i64 n))]), []))
         (bif (!((ByteArray.toList (bstr (encD r))) == (ByteArray.toList (bstr (List.drop (Int.toNat k) (List.take (Int.toNat (IntKind.wrap .i64 (k + n))) d)))))) then
          K ((.t [(.s (.int .i64 (-(1 : Int)))), (.s (.int .i64 (0 : Int)))]), [])
          else K ((.t [(.s (.int .i64 r)), (.s (.int .i64 n))]), [])))
        (bif (!((ByteArray.toList (bstr (encD r))) == (ByteArray.toList (bstr (List.drop (Int.toNat k) (List.take (Int.toNat (IntKind.wrap .i64 (k + n))) d)))))) then
         K ((.t [(.s (.int .i64 (-(1 : Int)))), (.s (.int .i64 (0 : Int)))]), [])
         else K ((.t [(.s (.int .i64 r)), (.s (.int .i64 n))]), [])))
       else none) = K (.t [sc v, sc s], []) := by
  have hlen := fitB_len hd
  rw [wrap_in (n := k + n) (by omega) (by omega), decide_eq_true h0, decide_eq_true (show k ≤ k + n by omega), decide_eq_true hl]
  rw [meet_self, meet_self]
  have e : List.drop (Int.toNat k) (List.take (Int.toNat (k + n)) d) = xs := by
    rw [← hx, show (k + n).toNat = k.toNat + n.toNat by omega]; exact rune_part d _ _
  rw [e, bstr_eq (encD_byte r) (fun y hy => by
    rw [← hx] at hy
    exact fitB_mem hd (List.mem_of_mem_drop (List.mem_of_mem_take hy)))]
  exact rune_fin h
theorem list1 {xs : List Int} (h : 1 ≤ xs.length) : ∃ a t, xs = a :: t := by
  cases xs with
  | nil => simp at h
  | cons a t => exact ⟨a, t, rfl⟩
def S_s_l01Rune : Sm := S_fnR [.l bytesR, .i] (fun d => fitB d.1) (fun d => (.t [sc (valAt d.1 d.2.1), sc (szAt d.1 d.2.1)], []))
theorem v_s_l01Rune (d : List Int) (k : Int) (h : (fitB d) = true) (K : Ret → Option Ret) : T_s_l01Rune d k K = K (.t [sc (valAt d k), sc (szAt d k)], []) := by
  unfold T_s_l01Rune valAt szAt inD
  have hlen := fitB_len h
  by_cases h1 : k < 0
  · rw [decide_eq_true h1, decide_eq_false (show ¬ 0 ≤ k by omega)]; rfl
  by_cases h2 : k ≥ ((d.length : Nat) : Int)
  · rw [decide_eq_false h1, decide_eq_true h2, decide_eq_true (show 0 ≤ k by omega), decide_eq_false (show ¬ k < ((d.length : Nat) : Int) by omega)]; rfl
  have hbk := fitB_get h k.toNat
  rw [decide_eq_false h1, decide_eq_false h2, decide_eq_true (show 0 ≤ k by omega), decide_eq_true (show k < ((d.length : Nat) : Int) by omega), wrap_in (n := d.getD k.toNat 0) (by omega) (by omega), wrap_in (n := ((d.length : Nat) : Int) - k) (by omega) (by omega)]
  simp only [Bool.and_true, cond_true, cond_false]
  have hg : ∀ i : Nat, (d.drop k.toNat).getD i 0 = d.getD (k + (i : Nat)).toNat 0 := fun i => by
    rw [getD_drop]; congr 1; omega
  have hg0 := hg 0
  rw [show (k + ((0 : Nat) : Int)).toNat = k.toNat by omega] at hg0
  have hdl : (d.drop k.toNat).length = d.length - k.toNat := by simp
  have hbytes := fun i => fitB_get (fitB_drop h k.toNat) i
  by_cases c4 : d.getD k.toNat 0 ≥ 240
  · rw [decide_eq_true c4]
    by_cases s4 : (4 : Int) > ((d.length : Nat) : Int) - k
    · rw [decide_eq_true s4]
      have e := runeSz0 (short4 (xs := d.drop k.toNat) (by rw [hg0]; exact c4) (by omega))
      obtain ⟨e1, e2⟩ := Prod.mk.inj e
      rw [e1, e2]; rfl
    · rw [decide_eq_false s4]
      unfold R_s_l01Rune_18_0
      rw [wrap_in (n := d.getD k.toNat 0 - 240) (by omega) (by omega)]
      obtain ⟨m, hm⟩ : ∃ m, List.length d + k.toNat + (4 : Int).toNat + (d.getD k.toNat 0 - 240).toNat + (1 : Int).toNat + 2 = m + 4 := ⟨List.length d + k.toNat + (4 : Int).toNat + (d.getD k.toNat 0 - 240).toNat + (1 : Int).toNat + 2 - 4, by omega⟩
      have b1 := fitB_get h (k + 1).toNat
      have b2 := fitB_get h (k + (1 + 1)).toNat
      rw [hm, rune_step h (by omega) (by omega) (by omega) (by omega) (by omega), rune_step h (by omega) (by omega) (by omega) (by omega) (by omega), rune_step h (by omega) (by omega) (by omega) (by omega) (by omega), rune_end (by omega)]
      refine rune_k h (by omega) (by omega) (by omega) (by omega) (xs := [(d.drop k.toNat).getD 0 0, (d.drop k.toNat).getD 1 0, (d.drop k.toNat).getD 2 0, (d.drop k.toNat).getD 3 0]) ?_ ?_
      · obtain ⟨a, t, e⟩ := list1 (xs := d.drop k.toNat) (by omega)
        obtain ⟨b, t2, e2⟩ := list1 (xs := t) (by rw [e] at hdl; simp at hdl; omega)
        obtain ⟨c, t3, e3⟩ := list1 (xs := t2) (by rw [e, e2] at hdl; simp at hdl; omega)
        obtain ⟨f, t4, e4⟩ := list1 (xs := t3) (by rw [e, e2, e3] at hdl; simp at hdl; omega)
        rw [e, e2, e3, e4]; rfl
      · obtain ⟨a, t, e⟩ := list1 (xs := d.drop k.toNat) (by omega)
        obtain ⟨b, t2, e2⟩ := list1 (xs := t) (by rw [e] at hdl; simp at hdl; omega)
        obtain ⟨c, t3, e3⟩ := list1 (xs := t2) (by rw [e, e2] at hdl; simp at hdl; omega)
        obtain ⟨f, t4, e4⟩ := list1 (xs := t3) (by rw [e, e2, e3] at hdl; simp at hdl; omega)
        have g1 := hg 1
        have g2 := hg 2
        have g3 := hg 3
        have q0 := hbytes 0
        have q1 := hbytes 1
        have q2 := hbytes 2
        have q3 := hbytes 3
        rw [e, e2, e3, e4] at hg0 g1 g2 g3 q0 q1 q2 q3 ⊢
        rw [show (k + 1).toNat = (k + ((1 : Nat) : Int)).toNat from rfl, show (k + (1 + 1)).toNat = (k + ((2 : Nat) : Int)).toNat by congr 1, show (k + (1 + 1 + 1)).toNat = (k + ((3 : Nat) : Int)).toNat by congr 1, ← g1, ← g2, ← g3, ← hg0]
        exact dec4 (by rw [← hg0] at c4; exact c4) q0.2 q1 q2 q3
  rw [decide_eq_false c4]
  by_cases c3 : d.getD k.toNat 0 ≥ 224
  · rw [decide_eq_true c3]
    by_cases s3 : (3 : Int) > ((d.length : Nat) : Int) - k
    · rw [decide_eq_true s3]
      have e := runeSz0 (short3 (xs := d.drop k.toNat) (by rw [hg0]; exact c3) (by rw [hg0]; omega) (by omega))
      obtain ⟨e1, e2⟩ := Prod.mk.inj e
      rw [e1, e2]; rfl
    · rw [decide_eq_false s3]
      unfold R_s_l01Rune_18_0
      rw [wrap_in (n := d.getD k.toNat 0 - 224) (by omega) (by omega)]
      obtain ⟨m, hm⟩ : ∃ m, List.length d + k.toNat + (3 : Int).toNat + (d.getD k.toNat 0 - 224).toNat + (1 : Int).toNat + 2 = m + 3 := ⟨List.length d + k.toNat + (3 : Int).toNat + (d.getD k.toNat 0 - 224).toNat + (1 : Int).toNat + 2 - 3, by omega⟩
      have b1 := fitB_get h (k + 1).toNat
      rw [hm]
      simp only [cond_false, cond_true]
      rw [rune_step h (by omega) (by omega) (by omega) (by omega) (by omega), rune_step h (by omega) (by omega) (by omega) (by omega) (by omega), rune_end (by omega)]
      refine rune_k h (by omega) (by omega) (by omega) (by omega) (xs := [(d.drop k.toNat).getD 0 0, (d.drop k.toNat).getD 1 0, (d.drop k.toNat).getD 2 0]) ?_ ?_
      · obtain ⟨a, t, e⟩ := list1 (xs := d.drop k.toNat) (by omega)
        obtain ⟨b, t2, e2⟩ := list1 (xs := t) (by rw [e] at hdl; simp at hdl; omega)
        obtain ⟨c, t3, e3⟩ := list1 (xs := t2) (by rw [e, e2] at hdl; simp at hdl; omega)
        rw [e, e2, e3]; rfl
      · obtain ⟨a, t, e⟩ := list1 (xs := d.drop k.toNat) (by omega)
        obtain ⟨b, t2, e2⟩ := list1 (xs := t) (by rw [e] at hdl; simp at hdl; omega)
        obtain ⟨c, t3, e3⟩ := list1 (xs := t2) (by rw [e, e2] at hdl; simp at hdl; omega)
        have g1 := hg 1
        have g2 := hg 2
        have q0 := hbytes 0
        have q1 := hbytes 1
        have q2 := hbytes 2
        rw [e, e2, e3] at hg0 g1 g2 q0 q1 q2 ⊢
        rw [show (k + 1).toNat = (k + ((1 : Nat) : Int)).toNat from rfl, show (k + (1 + 1)).toNat = (k + ((2 : Nat) : Int)).toNat by congr 1, ← g1, ← g2, ← hg0]
        exact dec3 (by rw [← hg0] at c3; exact c3) (by rw [← hg0] at c4; exact Int.not_le.1 c4) q1 q2
  rw [decide_eq_false c3]
  by_cases c2 : d.getD k.toNat 0 ≥ 192
  · rw [decide_eq_true c2]
    by_cases s2 : (2 : Int) > ((d.length : Nat) : Int) - k
    · rw [decide_eq_true s2]
      have e := runeSz0 (short2 (xs := d.drop k.toNat) (by rw [hg0]; exact c2) (by rw [hg0]; omega) (by omega))
      obtain ⟨e1, e2⟩ := Prod.mk.inj e
      rw [e1, e2]; rfl
    · rw [decide_eq_false s2]
      unfold R_s_l01Rune_18_0
      rw [wrap_in (n := d.getD k.toNat 0 - 192) (by omega) (by omega)]
      obtain ⟨m, hm⟩ : ∃ m, List.length d + k.toNat + (2 : Int).toNat + (d.getD k.toNat 0 - 192).toNat + (1 : Int).toNat + 2 = m + 2 := ⟨List.length d + k.toNat + (2 : Int).toNat + (d.getD k.toNat 0 - 192).toNat + (1 : Int).toNat + 2 - 2, by omega⟩
      rw [hm]
      simp only [cond_false, cond_true]
      rw [rune_step h (by omega) (by omega) (by omega) (by omega) (by omega), rune_end (by omega)]
      refine rune_k h (by omega) (by omega) (by omega) (by omega) (xs := [(d.drop k.toNat).getD 0 0, (d.drop k.toNat).getD 1 0]) ?_ ?_
      · obtain ⟨a, t, e⟩ := list1 (xs := d.drop k.toNat) (by omega)
        obtain ⟨b, t2, e2⟩ := list1 (xs := t) (by rw [e] at hdl; simp at hdl; omega)
        rw [e, e2]; rfl
      · obtain ⟨a, t, e⟩ := list1 (xs := d.drop k.toNat) (by omega)
        obtain ⟨b, t2, e2⟩ := list1 (xs := t) (by rw [e] at hdl; simp at hdl; omega)
        have g1 := hg 1
        have q0 := hbytes 0
        have q1 := hbytes 1
        rw [e, e2] at hg0 g1 q0 q1 ⊢
        rw [show (k + 1).toNat = (k + ((1 : Nat) : Int)).toNat from rfl, ← g1, ← hg0]
        exact dec2 (by rw [← hg0] at c2; exact c2) (by rw [← hg0] at c3; exact Int.not_le.1 c3) q1
  rw [decide_eq_false c2, decide_eq_false (show ¬ (1 : Int) > ((d.length : Nat) : Int) - k by omega)]
  unfold R_s_l01Rune_18_0
  obtain ⟨m, hm⟩ : ∃ m, List.length d + k.toNat + (1 : Int).toNat + (d.getD k.toNat 0).toNat + (1 : Int).toNat + 2 = m + 1 := ⟨List.length d + k.toNat + (1 : Int).toNat + (d.getD k.toNat 0).toNat + (1 : Int).toNat + 2 - 1, by omega⟩
  rw [hm]
  simp only [cond_false, cond_true]
  rw [rune_end (by omega)]
  refine rune_k h (by omega) (by omega) (by omega) (by omega) (xs := [(d.drop k.toNat).getD 0 0]) ?_ ?_
  · obtain ⟨a, t, e⟩ := list1 (xs := d.drop k.toNat) (by omega)
    rw [e]; rfl
  · obtain ⟨a, t, e⟩ := list1 (xs := d.drop k.toNat) (by omega)
    have q0 := hbytes 0
    rw [e] at hg0 q0 ⊢
    rw [← hg0]
    exact dec1 q0.1 (by rw [← hg0] at c2; exact Int.not_le.1 c2)
theorem okS_s_l01Rune : OkFn prog I N.s_l01Rune true S_s_l01Rune := okN (ok_fn (memc okS_s_RuneBytes mem0) (l := [(N.s_RuneBytes, true, S_s_RuneBytes)]) (p := [(21, takeB [0, 3, 4, 5, 6, 7, 8] (.fork (.more 1 (.fork (.more 2 (.fork (.one 9 (takes [10]))) (.one 9 (.fork (.one 2 (takes [10])))))) (.one 9 (.fork (.one 1 (.fork (.one 2 (takes [10])))))))), [])]) (ls := [(18, [0,1,7,8,9], [0,1,4,5,7,8], W_s_l01Rune_18)]) (lend := []) (focus := false) (fuel := 0) (give := []) (fn := F.s_l01Rune) (by kernel_rfl) (by kernel_rfl) (by kernel_rfl) (by kernel_rfl) (cs := [bodyOf F.s_l01Rune 18]) (by kernel_rfl) (loopsc loopK_s_l01Rune_18 loops0)) (S_fnR_of fun d K h => (e_s_l01Rune d.1 d.2.1 K).trans (v_s_l01Rune d.1 d.2.1 h K))
end Go.Ev.Seat
end
section
/- s_RuneSize: its contract. -/
namespace Go.Ev.Seat
open Go.RowKit
set_option maxRecDepth 100000
set_option linter.unusedVariables false
set_option linter.unusedSimpArgs false
noncomputable abbrev E_s_RuneSize : Env := En [(N.s_l01Rune, true, S_s_l01Rune)] [] [] [] false 0 []
noncomputable def T_s_RuneSize (d : List Int) (k : Int) (K : Ret → Option Ret) : Option Ret :=
 (bif (fitB d) then
 K ((.s (.int .i64 (szAt d k))), [])
 else none)
theorem e_s_RuneSize (d : List Int) (k : Int) (K : Ret → Option Ret) : evF E_s_RuneSize true F.s_RuneSize [.l .no bytesR d, .s (.int .i64 k)] K = T_s_RuneSize d k K := by kernel_rfl
def S_s_RuneSize : Sm := S_fnR [.l bytesR, .i] (fun d => fitB d.1) (fun d => (sc (szAt d.1 d.2.1), []))
theorem v_s_RuneSize (d : List Int) (k : Int) (h : (fitB d) = true) (K : Ret → Option Ret) : T_s_RuneSize d k K = K (sc (szAt d k), []) := by
  unfold T_s_RuneSize; rw [h]; rfl
theorem okS_s_RuneSize : OkFn prog I N.s_RuneSize true S_s_RuneSize := okN (ok_fn (memc okS_s_l01Rune mem0) (l := [(N.s_l01Rune, true, S_s_l01Rune)]) (p := []) (ls := []) (lend := []) (focus := false) (fuel := 0) (give := []) (fn := F.s_RuneSize) (by kernel_rfl) (by kernel_rfl) (by kernel_rfl) (by kernel_rfl) (cs := []) (by kernel_rfl) loops0) (S_fnR_of fun d K h => (e_s_RuneSize d.1 d.2.1 K).trans (v_s_RuneSize d.1 d.2.1 h K))
end Go.Ev.Seat
end
section
/- s_l01Cuts: its contract. -/
namespace Go.Ev.Seat
open Go.RowKit
set_option maxRecDepth 100000
set_option linter.unusedVariables false
set_option linter.unusedSimpArgs false
def z_s_l01Cuts_5_0 (x4 : Int) (o0 : List Int) : St := { tm := ([.x, .x, .nl, (.w 0), (.s (.int .i64 x4))] ++ List.replicate 25 .x), ob := [(0, (.arr true true intR o0))], nx := 1, io := [] }
def z_s_l01Cuts_5_1 (x4 : Int) (o0 : List Int) : St := { tm := ([.x, .x, .x, (.w 0), (.s (.int .i64 x4))] ++ List.replicate 25 .x), ob := [(0, (.arr true true intR o0))], nx := 1, io := [] }
def sh_s_l01Cuts_5_0 : Ss := { tm := (.cons (.l .no bytesR) (.cons (.x) (.cons (.x) (.cons (.w 0) (.cons (.int .i64) (xsh 25)))))), ob := (.arr true true intR .nil), nx := 1, io := .nil }
def d_s_l01Cuts_5_0 (x0 : List Int) (x4 : Int) (o0 : List Int) : sh_s_l01Cuts_5_0.T := ((x0, ((), ((), ((), (x4, xd 25))))), (o0, ()), ())
def s_s_l01Cuts_5_0 (x0 : List Int) (x4 : Int) (o0 : List Int) : St := { tm := ([(.l .no bytesR x0), .x, .x, (.w 0), (.s (.int .i64 x4))] ++ List.replicate 25 .x), ob := [(0, (.arr true true intR o0))], nx := 1, io := [] }
theorem se_s_l01Cuts_5_0 (x0 : List Int) (x4 : Int) (o0 : List Int) : sh_s_l01Cuts_5_0.mk' (d_s_l01Cuts_5_0 x0 x4 o0) = (s_s_l01Cuts_5_0 x0 x4 o0) := by kernel_rfl
def w_s_l01Cuts_5_0 (d : sh_s_l01Cuts_5_0.T) (f : (List Int) → Int → (List Int) → Option Ret) : Option Ret := match d with | ((x0, (_, (_, (_, (x4, _))))), (o0, _), _) => f x0 x4 o0
noncomputable def P_s_l01Cuts_5_0 (x0 : List Int) (x4 : Int) (o0 : List Int) (nx0 : (List Int) → Int → (List Int) → Option Ret) (k0 : Int → (List Int) → Option Ret) (k1 : Int → (List Int) → Option Ret) : Option Ret :=
 (bif (decide (x4 < (((List.length x0) : Nat) : Int))) then
 (bif (fitB x0) then
  (bif ((szAt x0 x4) == (0 : Int)) then
   (k0 x4 o0)
   else (bif (Nat.ble (((List.length o0) + (List.length (x4 :: ([] : List Int)))) * 8) 140737488355328) then
    (nx0 x0 (IntKind.wrap .i64 (x4 + (szAt x0 x4))) (o0 ++ (x4 :: ([] : List Int))))
    else none))
  else none)
 else (k1 x4 o0))
noncomputable def Q_s_l01Cuts_5_0 : Nat → (List Int) → Int → (List Int) → (Int → (List Int) → Option Ret) → (Int → (List Int) → Option Ret) → Option Ret
  | 0, _, _, _, _, _ => none
  | m + 1, x0, x4, o0, k0, k1 => P_s_l01Cuts_5_0 x0 x4 o0 (fun x0 x4 o0 => (Q_s_l01Cuts_5_0 m x0 x4 o0 k0 k1)) k0 k1
noncomputable def R_s_l01Cuts_5_0 (x0 : List Int) (x4 : Int) (o0 : List Int) (k0 : Int → (List Int) → Option Ret) (k1 : Int → (List Int) → Option Ret) : Option Ret := Q_s_l01Cuts_5_0 (List.length x0 + x4.toNat + List.length o0 + 2) x0 x4 o0 k0 k1
noncomputable def W_s_l01Cuts_5 : LoopFn := (fun (σ : St) (K : Ex → St → Option Ret) => (match sh_s_l01Cuts_5_0.un σ with | some d => w_s_l01Cuts_5_0 d (fun x0 x4 o0 => R_s_l01Cuts_5_0 x0 x4 o0 (fun x4 o0 => (K .ret (z_s_l01Cuts_5_0 x4 o0))) (fun x4 o0 => (K (.ext 0) (z_s_l01Cuts_5_1 x4 o0)))) | none => none))
noncomputable abbrev E_s_l01Cuts : Env := En [(N.s_RuneSize, true, S_s_RuneSize)] [] [(5, [0,3,4], [2,3,4], W_s_l01Cuts_5)] [] false 0 []
theorem st_s_l01Cuts_5_0 (m : Nat) (x0 : List Int) (x4 : Int) (o0 : List Int) (K : Ex → St → Option Ret) : rounds (run E_s_l01Cuts (bodyOf F.s_l01Cuts 5)) [0,3,4] [2,3,4] (m + 1) (s_s_l01Cuts_5_0 x0 x4 o0) K = P_s_l01Cuts_5_0 x0 x4 o0 (fun x0 x4 o0 => (rounds (run E_s_l01Cuts (bodyOf F.s_l01Cuts 5)) [0,3,4] [2,3,4] m (s_s_l01Cuts_5_0 x0 x4 o0) K)) (fun x4 o0 => (K .ret (z_s_l01Cuts_5_0 x4 o0))) (fun x4 o0 => (K (.ext 0) (z_s_l01Cuts_5_1 x4 o0))) := by kernel_rfl
theorem q_s_l01Cuts_5 (K : Ex → St → Option Ret) : ∀ m : Nat, (∀ (x0 : List Int) (x4 : Int) (o0 : List Int), rounds (run E_s_l01Cuts (bodyOf F.s_l01Cuts 5)) [0,3,4] [2,3,4] m (s_s_l01Cuts_5_0 x0 x4 o0) K = Q_s_l01Cuts_5_0 m x0 x4 o0 (fun x4 o0 => (K .ret (z_s_l01Cuts_5_0 x4 o0))) (fun x4 o0 => (K (.ext 0) (z_s_l01Cuts_5_1 x4 o0))))
  | 0 => (fun _ _ _ => rfl)
  | m + 1 => (fun x0 x4 o0 => (by rw [st_s_l01Cuts_5_0, show (fun x0 x4 o0 => (rounds (run E_s_l01Cuts (bodyOf F.s_l01Cuts 5)) [0,3,4] [2,3,4] m (s_s_l01Cuts_5_0 x0 x4 o0) K)) = (fun x0 x4 o0 => (Q_s_l01Cuts_5_0 m x0 x4 o0 (fun x4 o0 => (K .ret (z_s_l01Cuts_5_0 x4 o0))) (fun x4 o0 => (K (.ext 0) (z_s_l01Cuts_5_1 x4 o0))))) from funext fun x0 => funext fun x4 => funext fun o0 => (q_s_l01Cuts_5 K m) x0 x4 o0]; rfl))
theorem loopK_s_l01Cuts_5 : LoopOk E_s_l01Cuts (bodyOf F.s_l01Cuts 5) := by
  refine loopW_ok (n := 5) (F := W_s_l01Cuts_5) (by kernel_rfl) rfl (li := [0,3,4]) (lo := [2,3,4]) rfl (fun σ K r hr => ?_)
  unfold W_s_l01Cuts_5 at hr
  split at hr
  · rename_i d hd
    rw [Ss.un_mk hd]
    exact ⟨_, ((congrArg (fun z => rounds (run E_s_l01Cuts (bodyOf F.s_l01Cuts 5)) [0,3,4] [2,3,4] _ z K) (se_s_l01Cuts_5_0 _ _ _)).trans ((q_s_l01Cuts_5 K _) _ _ _)).trans hr⟩
  · cases hr
noncomputable def T_s_l01Cuts (d : List Int) (K : Ret → Option Ret) : Option Ret :=
 (bif (decide ((((List.length d) : Nat) : Int) > (400 : Int))) then
 K ((.l .deep intR ([] : List Int)), [])
 else (R_s_l01Cuts_5_0 d (0 : Int) ([] : List Int) (fun y0 y1 =>
  K ((.l .deep intR ([] : List Int)), [])) (fun y2 y3 =>
  (bif (Nat.ble (((List.length y3) + (List.length (y2 :: ([] : List Int)))) * 8) 140737488355328) then
   K ((.l .deep intR (y3 ++ (y2 :: ([] : List Int)))), [])
   else none))))
theorem e_s_l01Cuts (d : List Int) (K : Ret → Option Ret) : evF E_s_l01Cuts true F.s_l01Cuts [.l .no bytesR d] K = T_s_l01Cuts d K := by kernel_rfl
theorem cuts_loop {d : List Int} (hd : fitB d = true) (F : Option Ret) (k1 : Int → List Int → Option Ret) : ∀ (m n : Nat) (o : List Int), n ≤ d.length → d.length - n < m → o.length ≤ n →
    Q_s_l01Cuts_5_0 m d (n : Int) o (fun _ _ => F) k1 = bif valid (d.drop n) then k1 ((d.length : Nat) : Int) (o ++ starts (d.drop n) (n : Int)) else F
  | 0, n, o, _, h, _ => absurd h (by omega)
  | m + 1, n, o, hn, hm, ho => by
    have hlen := fitB_len hd
    show P_s_l01Cuts_5_0 d (n : Int) o _ _ k1 = _
    unfold P_s_l01Cuts_5_0
    by_cases hl : n < d.length
    · rw [decide_eq_true (show (n : Int) < ((d.length : Nat) : Int) by omega), hd, szAt_in (by omega) (by omega), Int.toNat_natCast]
      simp only [cond_true]
      have hle := runeSz_le (d.drop n)
      rw [List.length_drop] at hle
      by_cases h0 : runeSz (d.drop n) = 0
      · rw [h0, valid_stop h0 (by simp; omega)]; rfl
      · rw [beq_eq_false_iff_ne.2 (show ¬ ((runeSz (d.drop n) : Nat) : Int) = 0 by omega), Nat.ble_eq_true_of_le (show (o.length + [(n : Int)].length) * 8 ≤ 140737488355328 by simp; omega), wrap_in (n := (n : Int) + (runeSz (d.drop n) : Nat)) (by omega) (by omega)]
        have e : (n : Int) + ((runeSz (d.drop n) : Nat) : Int) = ((n + runeSz (d.drop n) : Nat) : Int) := by omega
        simp only [cond_false, cond_true]
        rw [e]
        refine (cuts_loop hd F k1 m (n + runeSz (d.drop n)) (o ++ [(n : Int)]) (by omega) (by omega) (by simp; omega)).trans ?_
        rw [valid_step h0, starts_step h0, List.drop_drop, List.append_assoc, List.singleton_append, e]
    · have : n = d.length := by omega
      subst this
      rw [decide_eq_false (show ¬ ((d.length : Nat) : Int) < ((d.length : Nat) : Int) by omega), List.drop_length, valid_nil, starts_stop (by rfl), List.append_nil]; rfl
def S_s_l01Cuts : Sm := S_fnR [.l bytesR] (fun d => fitB d.1) (fun d => (.l .deep intR (cutsD d.1), []))
theorem v_s_l01Cuts (d : List Int) (h : (fitB d) = true) (K : Ret → Option Ret) : T_s_l01Cuts d K = K (.l .deep intR (cutsD d), []) := by
  unfold T_s_l01Cuts cutsD
  by_cases h4 : ((d.length : Nat) : Int) > 400
  · rw [decide_eq_true h4, show textOk d = false from Bool.eq_false_iff.2 (fun he => by have := (textOk_iff.1 he).1; omega)]; rfl
  · rw [decide_eq_false h4]
    unfold R_s_l01Cuts_5_0
    have := cuts_loop h (K (.l .deep intR [], [])) (fun y2 y3 => (bif (Nat.ble (((List.length y3) + (List.length (y2 :: []))) * 8) 140737488355328) then K ((.l .deep intR (y3 ++ (y2 :: []))), []) else none)) (List.length d + (0 : Int).toNat + List.length ([] : List Int) + 2) 0 [] (by omega) (by omega) (by simp)
    refine Eq.trans this ?_
    rw [List.drop_zero]
    cases hv : valid d with
    | false => rw [show textOk d = false from Bool.eq_false_iff.2 (fun he => by have := (textOk_iff.1 he).2; rw [hv] at this; cases this)]; rfl
    | true =>
      rw [textOk_iff.2 ⟨by omega, hv⟩]
      have hs := starts_len _ d 0 (Nat.le_refl _)
      simp only [cond_true, List.nil_append]
      rw [Nat.ble_eq_true_of_le (by simp; omega), bounds_starts _ d 0 (Nat.le_refl _) hv, Int.zero_add]
      rfl
theorem okS_s_l01Cuts : OkFn prog I N.s_l01Cuts true S_s_l01Cuts := okN (ok_fn (memc okS_s_RuneSize mem0) (l := [(N.s_RuneSize, true, S_s_RuneSize)]) (p := []) (ls := [(5, [0,3,4], [2,3,4], W_s_l01Cuts_5)]) (lend := []) (focus := false) (fuel := 0) (give := []) (fn := F.s_l01Cuts) (by kernel_rfl) (by kernel_rfl) (by kernel_rfl) (by kernel_rfl) (cs := [bodyOf F.s_l01Cuts 5]) (by kernel_rfl) (loopsc loopK_s_l01Cuts_5 loops0)) (S_fnR_of fun d K h => (e_s_l01Cuts d.1 K).trans (v_s_l01Cuts d.1 h K))
end Go.Ev.Seat
end
section
/- s_TextOk: its contract. -/
namespace Go.Ev.Seat
open Go.RowKit
set_option maxRecDepth 100000
set_option linter.unusedVariables false
set_option linter.unusedSimpArgs false
noncomputable abbrev E_s_TextOk : Env := En [(N.s_l01Cuts, true, S_s_l01Cuts)] [] [] [] false 0 []
noncomputable def T_s_TextOk (d : List Int) (K : Ret → Option Ret) : Option Ret :=
 (bif (fitB d) then
 K ((.s (.bool (decide ((((List.length (cutsD d)) : Nat) : Int) > (0 : Int))))), [])
 else none)
theorem e_s_TextOk (d : List Int) (K : Ret → Option Ret) : evF E_s_TextOk true F.s_TextOk [.l .no bytesR d] K = T_s_TextOk d K := by kernel_rfl
def S_s_TextOk : Sm := S_fnR [.l bytesR] (fun d => fitB d.1) (fun d => (bl (textOk d.1), []))
theorem v_s_TextOk (d : List Int) (h : (fitB d) = true) (K : Ret → Option Ret) : T_s_TextOk d K = K (bl (textOk d), []) := by
  unfold T_s_TextOk
  rw [h]
  have e : decide ((((List.length (cutsD d)) : Nat) : Int) > (0 : Int)) = textOk d := by
    unfold cutsD
    cases textOk d with
    | false => rfl
    | true => exact decide_eq_true (show (((bounds d 0).length : Nat) : Int) > 0 by have := bounds_ne d 0; omega)
  rw [e]; rfl
theorem okS_s_TextOk : OkFn prog I N.s_TextOk true S_s_TextOk := okN (ok_fn (memc okS_s_l01Cuts mem0) (l := [(N.s_l01Cuts, true, S_s_l01Cuts)]) (p := []) (ls := []) (lend := []) (focus := false) (fuel := 0) (give := []) (fn := F.s_TextOk) (by kernel_rfl) (by kernel_rfl) (by kernel_rfl) (by kernel_rfl) (cs := []) (by kernel_rfl) loops0) (S_fnR_of fun d K h => (e_s_TextOk d.1 K).trans (v_s_TextOk d.1 h K))
end Go.Ev.Seat
end
section
/- Loops over lists, by index. -/
set_option linter.unusedVariables false
namespace Go.Ev
section
variable {α β ρ : Type}
theorem getD_lt {xs : List α} {i : Nat} (z : α) (h : i < xs.length) : xs.getD i z = xs[i] := by
  rw [List.getD_eq_getElem?_getD, List.getElem?_eq_getElem h]; rfl
theorem idx_find {R : Nat → Int → ρ} {p : α → Bool} {kt : ρ} {kf : Int → ρ} {xs : List α} {z : α}
    (hs : ∀ m (i : Nat), i < xs.length → R (m + 1) i = bif p (xs.getD i z) then kf i else R m ((i + 1 : Nat) : Int))
    (he : ∀ m, R (m + 1) (xs.length : Nat) = kt) : ∀ (m i : Nat), i ≤ xs.length → xs.length - i < m → R m i = (match (xs.drop i).findIdx? p with
      | some j => kf ((i + j : Nat) : Int)
      | none => kt)
  | 0, i, _, h => absurd h (by omega)
  | m + 1, i, hi, hm => by
    by_cases h : i < xs.length
    · rw [hs m i h, getD_lt z h, List.drop_eq_getElem_cons h, List.findIdx?_cons]
      cases hp : p xs[i] with
      | true => simp
      | false =>
        rw [cond_false, idx_find hs he m (i + 1) (by omega) (by omega)]
        simp only [Bool.false_eq_true, if_false]
        cases (xs.drop (i + 1)).findIdx? p with
        | none => rfl
        | some k => show kf ((i + 1 + k : Nat) : Int) = kf ((i + (k + 1) : Nat) : Int); congr 2; omega
    · have : i = xs.length := by omega
      subst this
      rw [he m, List.drop_length]; rfl
theorem idx_all {R : Nat → Int → ρ} {p : α → Bool} {kt kf : ρ} {xs : List α} {z : α}
    (hs : ∀ m (i : Nat), i < xs.length → R (m + 1) i = bif p (xs.getD i z) then R m ((i + 1 : Nat) : Int) else kf)
    (he : ∀ m, R (m + 1) (xs.length : Nat) = kt) : ∀ (m i : Nat), i ≤ xs.length → xs.length - i < m → R m i = bif (xs.drop i).all p then kt else kf
  | 0, i, _, h => absurd h (by omega)
  | m + 1, i, hi, hm => by
    by_cases h : i < xs.length
    · rw [hs m i h, getD_lt z h, List.drop_eq_getElem_cons h, List.all_cons]
      cases hp : p xs[i] with
      | true => rw [cond_true, idx_all hs he m (i + 1) (by omega) (by omega)]; rfl
      | false => rfl
    · have : i = xs.length := by omega
      subst this
      rw [he m, List.drop_length]; rfl
theorem idx_fold {R : Nat → Int → β → ρ} {f : β → α → β} {I : Nat → β → Prop} {kt : β → ρ} {xs : List α} {z : α}
    (hs : ∀ m (i : Nat) a, i < xs.length → I i a → R (m + 1) i a = R m ((i + 1 : Nat) : Int) (f a (xs.getD i z)))
    (hI : ∀ (i : Nat) a, i < xs.length → I i a → I (i + 1) (f a (xs.getD i z)))
    (he : ∀ m a, I xs.length a → R (m + 1) (xs.length : Nat) a = kt a) : ∀ (m i : Nat) (a : β), I i a → i ≤ xs.length → xs.length - i < m → R m i a = kt ((xs.drop i).foldl f a)
  | 0, i, _, _, _, h => absurd h (by omega)
  | m + 1, i, a, ha, hi, hm => by
    by_cases h : i < xs.length
    · rw [hs m i a h ha, idx_fold hs hI he m (i + 1) _ (hI i a h ha) (by omega) (by omega), List.drop_eq_getElem_cons h, List.foldl_cons, getD_lt z h]
    · have : i = xs.length := by omega
      subst this
      rw [he m a ha, List.drop_length]; rfl
/-- A fold that may stop. -/
def foldS (f : β → α → Option β) : List α → β → Option β
  | [], a => some a
  | x :: xs, a => match f a x with
    | some b => foldS f xs b
    | none => none
theorem idx_foldS {R : Nat → Int → β → ρ} {f : β → α → Option β} {I : Nat → β → Prop} {kt : β → ρ} {kf : ρ} {xs : List α} {z : α}
    (hs : ∀ m (i : Nat) a, i < xs.length → I i a → R (m + 1) i a = (match f a (xs.getD i z) with
      | some b => R m ((i + 1 : Nat) : Int) b
      | none => kf))
    (hI : ∀ (i : Nat) a b, i < xs.length → I i a → f a (xs.getD i z) = some b → I (i + 1) b)
    (he : ∀ m a, I xs.length a → R (m + 1) (xs.length : Nat) a = kt a) : ∀ (m i : Nat) (a : β), I i a → i ≤ xs.length → xs.length - i < m → R m i a = (match foldS f (xs.drop i) a with
      | some b => kt b
      | none => kf)
  | 0, i, _, _, _, h => absurd h (by omega)
  | m + 1, i, a, ha, hi, hm => by
    by_cases h : i < xs.length
    · rw [hs m i a h ha, List.drop_eq_getElem_cons h, foldS]
      cases e : f a (xs.getD i z) with
      | none => rw [getD_lt z h] at e; rw [e]
      | some b =>
        rw [getD_lt z h] at e
        rw [e]
        exact idx_foldS hs hI he m (i + 1) b (hI i a b h ha (by rw [getD_lt z h]; exact e)) (by omega) (by omega)
    · have : i = xs.length := by omega
      subst this
      rw [he m a ha, List.drop_length]; rfl
def idxOfD (l : List Int) (k : Int) : Int := match l.findIdx? (fun c => c == k) with
  | some i => (i : Nat)
  | none => -1
theorem idxOfD_any (l : List Int) (k : Int) : decide (idxOfD l k ≥ 0) = l.any (fun c => c == k) := by
  unfold idxOfD
  cases h : l.findIdx? (fun c => c == k) with
  | none =>
    rw [List.findIdx?_eq_none_iff] at h
    rw [show l.any (fun c => c == k) = false from List.any_eq_false.2 (fun x hx => by rw [h x hx]; simp)]; rfl
  | some i =>
    rw [List.findIdx?_eq_some_iff_getElem] at h
    obtain ⟨h1, h2, _⟩ := h
    rw [show l.any (fun c => c == k) = true from List.any_eq_true.2 ⟨l[i], List.getElem_mem h1, h2⟩]
    exact decide_eq_true (show ((i : Nat) : Int) ≥ 0 by omega)
def idxF {α : Type} (p : α → Bool) (l : List α) : Int := match l.findIdx? p with
  | some i => (i : Nat)
  | none => -1
theorem idxF_any {α : Type} (p : α → Bool) (l : List α) : decide (idxF p l ≥ 0) = l.any p := by
  unfold idxF
  cases h : l.findIdx? p with
  | none =>
    rw [List.findIdx?_eq_none_iff] at h
    rw [show l.any p = false from List.any_eq_false.2 (fun x hx => by rw [h x hx]; simp)]; rfl
  | some i =>
    rw [List.findIdx?_eq_some_iff_getElem] at h
    obtain ⟨h1, h2, _⟩ := h
    rw [show l.any p = true from List.any_eq_true.2 ⟨l[i], List.getElem_mem h1, h2⟩]
    exact decide_eq_true (show ((i : Nat) : Int) ≥ 0 by omega)
end
end Go.Ev
end
section
/- Chunks and ropes, as lists of lists of bytes. -/
set_option linter.unusedVariables false
namespace Go.Ev
open Go.RowKit
def chunkOkD (d : List Int) : Bool := decide (1 ≤ ((d.length : Nat) : Int)) && decide (((d.length : Nat) : Int) ≤ 16) && textOk d
def chunksOkL : List (List Int) → Nat → Bool
  | [], _ => true
  | d :: l, n => bif chunkOkD d then (bif decide (((n + d.length : Nat) : Int) > 400) then false else chunksOkL l (n + d.length)) else false
def chunksOkD (l : List (List Int)) : Bool := chunksOkL l 0
theorem chunkOkD_len {d : List Int} (h : chunkOkD d = true) : 1 ≤ d.length ∧ d.length ≤ 16 := by
  unfold chunkOkD at h
  simp only [Bool.and_eq_true, decide_eq_true_eq] at h
  omega
theorem chunksOkL_iff : ∀ (l : List (List Int)) (n : Nat), n ≤ 400 → (chunksOkL l n = true ↔ (∀ d ∈ l, chunkOkD d = true) ∧ n + sumW List.length l ≤ 400)
  | [], n, h => by simp [chunksOkL, sumW, h]
  | d :: l, n, h => by
    simp only [chunksOkL, sumW, List.mem_cons, forall_eq_or_imp]
    cases hd : chunkOkD d with
    | false => simp
    | true =>
      by_cases h4 : ((n + d.length : Nat) : Int) > 400
      · rw [decide_eq_true h4]
        simp only [cond_true, Bool.false_eq_true, false_iff, true_and, not_and]
        intro _; omega
      · rw [decide_eq_false h4]
        simp only [cond_true, cond_false, true_and]
        rw [chunksOkL_iff l (n + d.length) (by omega)]
        rw [Nat.add_assoc]
theorem chunksOkD_iff {l : List (List Int)} : chunksOkD l = true ↔ (∀ d ∈ l, chunkOkD d = true) ∧ sumW List.length l ≤ 400 := by
  unfold chunksOkD
  rw [chunksOkL_iff l 0 (by omega), Nat.zero_add]
theorem sumW_app {α : Type} (f : α → Nat) : ∀ (a b : List α), sumW f (a ++ b) = sumW f a + sumW f b
  | [], b => by simp [sumW]
  | x :: a, b => by simp only [List.cons_append, sumW, sumW_app f a b]; omega
theorem chunksOkD_app (r s : List (List Int)) : chunksOkD (r ++ s) = (chunksOkD r && chunksOkD s && decide (sumW List.length r + sumW List.length s ≤ 400)) := by
  rw [Bool.eq_iff_iff]
  simp only [Bool.and_eq_true, decide_eq_true_eq, chunksOkD_iff, sumW_app, List.mem_append]
  constructor
  · rintro ⟨h1, h2⟩
    exact ⟨⟨⟨fun d hd => h1 d (.inl hd), by omega⟩, ⟨fun d hd => h1 d (.inr hd), by omega⟩⟩, h2⟩
  · rintro ⟨⟨⟨h1, _⟩, ⟨h2, _⟩⟩, h3⟩
    exact ⟨fun d hd => hd.elim (h1 d) (h2 d), h3⟩
theorem sumW_flat : ∀ (l : List (List Int)), l.flatten.length = sumW List.length l
  | [] => rfl
  | d :: l => by simp only [List.flatten_cons, List.length_append, sumW, sumW_flat l]
def chunksTextD (l : List (List Int)) : List Int := bif chunksOkD l then l.flatten else []
theorem chunksTextD_len (l : List (List Int)) : (chunksTextD l).length ≤ 400 := by
  unfold chunksTextD
  cases h : chunksOkD l with
  | false => simp
  | true => rw [cond_true, sumW_flat]; exact (chunksOkD_iff.1 h).2
def ropeJoinD (r s : List (List Int)) : List (List Int) := bif chunksOkD (r ++ s) then r ++ s else []
theorem chunk_w : ∀ (l : List (List Int)), sumW List.length l + l.length ≤ sumW List.length l + l.length := fun _ => Nat.le_refl _
theorem chunksOkD_count {l : List (List Int)} (h : chunksOkD l = true) : l.length ≤ 400 := by
  obtain ⟨h1, h2⟩ := chunksOkD_iff.1 h
  have : ∀ (l : List (List Int)), (∀ d ∈ l, chunkOkD d = true) → l.length ≤ sumW List.length l := by
    intro l
    induction l with
    | nil => intro _; simp
    | cons d l ih =>
      intro hh
      have a := ih fun x hx => hh x (List.mem_cons_of_mem _ hx)
      have b := chunkOkD_len (hh d List.mem_cons_self)
      simp only [List.length_cons, sumW]; omega
  have := this l h1
  omega
end Go.Ev
end
section
/- s_ChunkOk: its contract. -/
namespace Go.Ev.Seat
open Go.RowKit
set_option maxRecDepth 100000
set_option linter.unusedVariables false
set_option linter.unusedSimpArgs false
noncomputable abbrev E_s_ChunkOk : Env := En [(N.s_TextOk, true, S_s_TextOk)] [] [] [] false 0 []
noncomputable def T_s_ChunkOk (d : T_Chunk) (K : Ret → Option Ret) : Option Ret :=
 (bif (decide ((((List.length d) : Nat) : Int) ≥ (1 : Int))) then
 (bif (decide ((((List.length d) : Nat) : Int) ≤ (16 : Int))) then
  (bif (fitB d) then
   K ((.s (.bool (textOk d))), [])
   else none)
  else K ((.s (.bool false)), []))
 else K ((.s (.bool false)), []))
theorem e_s_ChunkOk (d : T_Chunk) (K : Ret → Option Ret) : evF E_s_ChunkOk true F.s_ChunkOk [.a (chunkR.cells .no d)] K = T_s_ChunkOk d K := by kernel_rfl
def S_s_ChunkOk : Sm := S_fnR [.a chunkR] (fun d => fitB d.1) (fun d => (bl (chunkOkD d.1), []))
theorem v_s_ChunkOk (d : T_Chunk) (h : (fitB d) = true) (K : Ret → Option Ret) : T_s_ChunkOk d K = K (bl (chunkOkD d), []) := by
  unfold T_s_ChunkOk chunkOkD
  rw [h, show decide (((d.length : Nat) : Int) ≥ 1) = decide (1 ≤ ((d.length : Nat) : Int)) from rfl]
  cases decide (1 ≤ ((d.length : Nat) : Int)) <;> cases decide (((d.length : Nat) : Int) ≤ 16) <;> rfl
theorem okS_s_ChunkOk : OkFn prog I N.s_ChunkOk true S_s_ChunkOk := okN (ok_fn (memc okS_s_TextOk mem0) (l := [(N.s_TextOk, true, S_s_TextOk)]) (p := []) (ls := []) (lend := []) (focus := false) (fuel := 0) (give := []) (fn := F.s_ChunkOk) (by kernel_rfl) (by kernel_rfl) (by kernel_rfl) (by kernel_rfl) (cs := []) (by kernel_rfl) loops0) (S_fnR_of fun d K h => (e_s_ChunkOk d.1 K).trans (v_s_ChunkOk d.1 h K))
end Go.Ev.Seat
end
section
/- Requests and replies, as numbers and lists. -/
set_option linter.unusedVariables false
namespace Go.Ev
open Go.RowKit
def isWordD (n : Int) : Bool := decide (0 ≤ n) && decide (n ≤ 65535)
def wordD (n : Int) : List Int := [n / 256, n % 256]
theorem isWordD_iff {n : Int} : isWordD n = true ↔ 0 ≤ n ∧ n ≤ 65535 := by unfold isWordD; rw [Bool.and_eq_true, decide_eq_true_iff, decide_eq_true_iff]
theorem wrap8_mod (n : Int) : IntKind.u8.wrap n = n % 256 := by
  simp only [IntKind.wrap, IntKind.bits, IntKind.signed]; simp
theorem shr8 (n : Int) : shrI .i64 n 8 = n / 256 := by
  unfold shrI
  show Int.fdiv n (2 ^ 8) = _
  rw [Int.fdiv_eq_ediv_of_nonneg _ (by decide)]; rfl
theorem wordD_fit {n : Int} (h : isWordD n = true) : ∀ x ∈ wordD n, 0 ≤ x ∧ x ≤ 255 := by
  have := isWordD_iff.1 h
  intro x hx
  simp only [wordD, List.mem_cons, List.not_mem_nil, or_false] at hx
  rcases hx with rfl | rfl <;> omega
theorem bifK {K : Ret → Option Ret} (p u v : Bool) : (bif p then K ((.s (.bool u)), []) else K ((.s (.bool v)), [])) = K ((.s (.bool (bif p then u else v))), []) := by cases p <;> rfl
theorem kinds {k : Int} (h1 : 1 ≤ k) (h2 : k ≤ 16) : k = 1 ∨ k = 2 ∨ k = 3 ∨ k = 4 ∨ k = 5 ∨ k = 6 ∨ k = 7 ∨ k = 8 ∨ k = 9 ∨ k = 10 ∨ k = 11 ∨ k = 12 ∨ k = 13 ∨ k = 14 ∨ k = 15 ∨ k = 16 := by omega
abbrev P4 : Type := Int × Int × Int × List Int
def replyOkD (r : P4) : Bool := decide (0 ≤ r.1) && decide (r.1 ≤ 10) && isWordD r.2.1 && isWordD r.2.2.1 && textOk r.2.2.2 && (r.1 == 0 || r.2.1 == 0 && r.2.2.1 == 0 && (((r.2.2.2.length : Nat) : Int) == 0))
def replyBytesD (r : P4) : List Int := bif replyOkD r then [r.1] ++ wordD r.2.1 ++ wordD r.2.2.1 ++ wordD ((r.2.2.2.length : Nat) : Int) ++ r.2.2.2 else []
theorem replyBytesD_len (r : P4) : (replyBytesD r).length ≤ 407 := by
  unfold replyBytesD
  cases h : replyOkD r with
  | false => simp
  | true =>
    unfold replyOkD at h
    simp only [Bool.and_eq_true] at h
    have := (textOk_iff.1 h.1.2).1
    simp [wordD]; omega
/-- How many numbers a kind of request has. -/
def usedD (k : Int) : Int := bif k == 3 || k == 7 || k == 8 || k == 9 then 1 else bif k == 4 || k == 5 || k == 6 || k == 10 || k == 11 || k == 14 then 2 else bif k == 12 || k == 13 then 3 else 0
abbrev P6 : Type := Int × Int × Int × Int × Int × List Int
def reqKindD (k n : Int) : Bool := bif k == 3 || k == 5 then true else bif k == 7 || k == 8 then decide (n > 0) else !decide (n > 0)
def reqOkD (r : P6) : Bool := decide (1 ≤ r.1) && decide (r.1 ≤ 16) && (decide (1 ≤ r.2.1) && decide (r.2.1 ≤ 8)) && (decide (((r.2.2.2.2.2.length : Nat) : Int) ≤ 100) && textOk r.2.2.2.2.2) &&
  isWordD r.2.2.1 && isWordD r.2.2.2.1 && isWordD r.2.2.2.2.1 && ((decide (0 < usedD r.1) || r.2.2.1 == 0) && (decide (1 < usedD r.1) || r.2.2.2.1 == 0) && (decide (2 < usedD r.1) || r.2.2.2.2.1 == 0) && reqKindD r.1 ((r.2.2.2.2.2.length : Nat) : Int))
def reqBytesL (r : P6) : List Int := [r.1, r.2.1] ++ wordD r.2.2.1 ++ wordD r.2.2.2.1 ++ wordD r.2.2.2.2.1 ++ [((r.2.2.2.2.2.length : Nat) : Int)] ++ r.2.2.2.2.2
def reqBytesD (r : P6) : List Int := bif reqOkD r then reqBytesL r else []
/-- The text that a document starts with. -/
def startD (t : List Int) : List Int := bif textOk t then t else []
def docNewD {α β γ : Type} (t : List Int) : List Int × List Int × List α × Int × List β × List γ := (startD t, startD t, [], 0, [], [])
theorem startD_len (t : List Int) : (startD t).length ≤ 400 := by
  unfold startD
  cases h : textOk t with
  | false => exact Nat.zero_le _
  | true => exact (textOk_iff.1 h).1
theorem reqOkD_q {r : P6} (h : reqOkD r = true) : 0 ≤ r.1 ∧ r.1 < 256 ∧ 0 ≤ r.2.1 ∧ r.2.1 < 256 ∧ ((r.2.2.2.2.2.length : Nat) : Int) ≤ 100 ∧ isWordD r.2.2.1 = true ∧ isWordD r.2.2.2.1 = true ∧ isWordD r.2.2.2.2.1 = true := by
  unfold reqOkD at h
  simp only [Bool.and_eq_true, decide_eq_true_eq] at h
  obtain ⟨⟨⟨⟨⟨⟨⟨h1, h2⟩, h3⟩, h4⟩, h5⟩, h6⟩, h7⟩, _⟩ := h
  exact ⟨by omega, by omega, by omega, by omega, h4.1, h5, h6, h7⟩
theorem reqBytesD_len (r : P6) : (reqBytesD r).length ≤ 109 := by
  unfold reqBytesD
  cases h : reqOkD r with
  | false => exact Nat.zero_le _
  | true =>
    have := (reqOkD_q h).2.2.2.2.1
    simp [reqBytesL, wordD]; omega
def reqEqD (r o : P6) : Bool := (r.1 == o.1) && (r.2.1 == o.2.1) && (r.2.2.1 == o.2.2.1) && (r.2.2.2.1 == o.2.2.2.1) && (r.2.2.2.2.1 == o.2.2.2.2.1) && decide (r.2.2.2.2.2 = o.2.2.2.2.2)
abbrev P9 : Type := Int × Int × Int × P6
def actOkD (a : P9) : Bool := bif a.1 == 1 then (a.2.1 == 0) && decide (a.2.2.1 ≥ 0) && reqOkD a.2.2.2 else bif a.1 == 2 then decide (a.2.1 ≥ 1) && decide (a.2.1 ≤ 1000) && (a.2.2.1 == 0) && reqEqD a.2.2.2 (0, 0, 0, 0, 0, []) else false
theorem len0 (t : List Int) : (((t.length : Nat) : Int) == 0) = decide (t = []) := by
  cases t with
  | nil => rfl
  | cons x t =>
    rw [decide_eq_false (by simp)]
    exact beq_false_of_ne (by simp only [List.length_cons]; omega)
def atD (d : List Int) (k : Int) : Int := 256 * d.getD k.toNat 0 + d.getD (k.toNat + 1) 0
theorem bor_word {a b : Nat} (ha : a < 256) (hb : b < 256) : bor .i64 (shlI .i64 (a : Int) 8) (b : Int) = ((256 * a + b : Nat) : Int) := by
  have e : shlI .i64 (a : Int) 8 = ((a * 256 : Nat) : Int) := by
    unfold shlI
    show IntKind.i64.wrap ((a : Int) * 2 ^ 8) = _
    rw [wrap_in (by omega) (by omega)]; omega
  rw [e]
  unfold bor
  rw [BitVec.toNat_or]
  have h1 : (BitVec.ofInt IntKind.i64.bits ((a * 256 : Nat) : Int)).toNat = a * 256 := by
    rw [BitVec.ofInt_natCast, BitVec.toNat_ofNat]
    exact Nat.mod_eq_of_lt (show a * 256 < 2 ^ 64 by omega)
  have h2 : (BitVec.ofInt IntKind.i64.bits (b : Int)).toNat = b := by
    rw [BitVec.ofInt_natCast, BitVec.toNat_ofNat]
    exact Nat.mod_eq_of_lt (show b < 2 ^ 64 by omega)
  rw [h1, h2]
  have h3 : a * 256 ||| b = a * 256 + b := by
    have := Nat.shiftLeft_add_eq_or_of_lt (i := 8) (b := b) hb a
    rw [Nat.shiftLeft_eq] at this
    exact this.symm
  rw [h3, wrap_in (by omega) (by omega)]; omega
theorem fitB_getD {d : List Int} (h : fitB d = true) (i : Nat) : 0 ≤ d.getD i 0 ∧ d.getD i 0 ≤ 255 := by
  by_cases hi : i < d.length
  · have e : d.getD i 0 = d[i] := by rw [List.getD_eq_getElem?_getD, List.getElem?_eq_getElem hi]; rfl
    rw [e]; exact fitB_mem h (List.getElem_mem hi)
  · have e : d.getD i 0 = 0 := by rw [List.getD_eq_getElem?_getD, List.getElem?_eq_none (by omega)]; rfl
    rw [e]; exact ⟨by omega, by omega⟩
/-- The request that lies in the bytes. -/
def reqOf (d : List Int) : P6 := (d.getD 0 0, d.getD 1 0, atD d 2, atD d 4, atD d 6, d.drop 9)
def reqParseD (d : List Int) : P6 × Bool := bif decide (((d.length : Nat) : Int) < 9) then ((0, 0, 0, 0, 0, []), false) else
  bif reqOkD (reqOf d) && decide (((d.length : Nat) : Int) = 9 + d.getD 8 0) then (reqOf d, true) else ((0, 0, 0, 0, 0, []), false)
theorem wordD_at {x y : Int} (hy : 0 ≤ y ∧ y ≤ 255) : wordD (256 * x + y) = [x, y] := by
  unfold wordD
  rw [show (256 * x + y) / 256 = x by omega, show (256 * x + y) % 256 = y by omega]
theorem parse_eq : ∀ (d : List Int), fitB d = true → 9 ≤ d.length → decide (reqBytesL (reqOf d) = d) = decide (((d.length : Nat) : Int) = 9 + d.getD 8 0)
  | a0 :: a1 :: a2 :: a3 :: a4 :: a5 :: a6 :: a7 :: a8 :: t, h, _ => by
    have f : ∀ x ∈ (a0 :: a1 :: a2 :: a3 :: a4 :: a5 :: a6 :: a7 :: a8 :: t), 0 ≤ x ∧ x ≤ 255 := fun x hx => fitB_mem h hx
    have e : reqBytesL (reqOf (a0 :: a1 :: a2 :: a3 :: a4 :: a5 :: a6 :: a7 :: a8 :: t)) = a0 :: a1 :: a2 :: a3 :: a4 :: a5 :: a6 :: a7 :: ((t.length : Nat) : Int) :: t := by
      show [a0, a1] ++ wordD (256 * a2 + a3) ++ wordD (256 * a4 + a5) ++ wordD (256 * a6 + a7) ++ [((t.length : Nat) : Int)] ++ t = _
      rw [wordD_at (f a3 (by simp)), wordD_at (f a5 (by simp)), wordD_at (f a7 (by simp))]; rfl
    rw [e]
    apply decide_eq_decide.2
    show _ ↔ (((t.length + 1 + 1 + 1 + 1 + 1 + 1 + 1 + 1 + 1 : Nat)) : Int) = 9 + a8
    simp only [List.cons.injEq, true_and, and_true]
    omega
  | [], _, h | [_], _, h | [_, _], _, h | [_, _, _], _, h | [_, _, _, _], _, h | [_, _, _, _, _], _, h | [_, _, _, _, _, _], _, h | [_, _, _, _, _, _, _], _, h | [_, _, _, _, _, _, _, _], _, h => absurd h (by simp)
theorem fitB_reqBytesL {r : P6} (h : fitB r.2.2.2.2.2 = true) (hk : reqOkD r = true) : ∀ x ∈ reqBytesL r, 0 ≤ x ∧ x ≤ 255 := by
  obtain ⟨a0, a1, s0, s1, l1, q1, q2, q3⟩ := reqOkD_q hk
  intro x hx
  unfold reqBytesL at hx
  simp only [List.mem_append, List.mem_cons, List.not_mem_nil, or_false] at hx
  rcases hx with ((((( rfl | rfl) | hx) | hx) | hx) | rfl) | hx
  · omega
  · omega
  · exact wordD_fit q1 x hx
  · exact wordD_fit q2 x hx
  · exact wordD_fit q3 x hx
  · omega
  · exact fitB_mem h hx
end Go.Ev
end
section
/- What is known of an argument: bytes are bytes, and it is small. -/
set_option linter.unusedVariables false
namespace Go.Ev.Seat
open Go.RowKit
mutual
def fitC : (c : Cc) → c.T → Bool
  | .int .u8, n => isB n
  | .int _, _ => true
  | .bool, _ => true
  | .str, _ => true
  | .sl r, xs => Nat.ble xs.length 1048576 && xs.all (fitR r)
def fitR : (r : Rw) → r.T → Bool
  | .one c, d => fitC c d
  | .cons c r, d => fitC c d.1 && fitR r d.2
end
mutual
theorem fitC_of : (c : Cc) → (d : c.T) → c.wf d → c.lim d = true → fitC c d = true
  | .int k, n, h, _ => by
    cases k <;> simp only [fitC]
    have h' : (Lit.int .u8 n).wf = true := h
    simp only [Lit.wf, Bool.and_eq_true, decide_eq_true_eq] at h'
    have a : IntKind.u8.min = 0 := rfl
    have b : IntKind.u8.max = 255 := rfl
    rw [a, b] at h'
    simp only [isB, Bool.and_eq_true, decide_eq_true_eq]
    exact h'
  | .bool, _, _, _ => rfl
  | .str, _, _, _ => rfl
  | .sl r, xs, h, g => by
    simp only [Cc.lim, Bool.and_eq_true, List.all_eq_true] at g
    simp only [fitC, Bool.and_eq_true, List.all_eq_true]
    exact ⟨g.1, fun x hx => fitR_of r x (h.2 x hx) (g.2 x hx)⟩
theorem fitR_of : (r : Rw) → (d : r.T) → r.wf d → r.lim d = true → fitR r d = true
  | .one c, d, h, g => fitC_of c d h g
  | .cons c r, d, h, g => by
    simp only [Rw.lim, Bool.and_eq_true] at g
    simp only [fitR, Bool.and_eq_true]
    exact ⟨fitC_of c d.1 h.1 g.1, fitR_of r d.2 h.2 g.2⟩
end
theorem fitB_fit {b : List Int} (h : fitC (.sl bytesR) b = true) : fitB b = true := h
theorem fitR_snd {c : Cc} {r : Rw} {d : (Rw.cons c r).T} (h : fitR (.cons c r) d = true) : fitR r d.2 = true := ((Bool.and_eq_true _ _).mp h).2
theorem fitR_fst {c : Cc} {r : Rw} {d : (Rw.cons c r).T} (h : fitR (.cons c r) d = true) : fitC c d.1 = true := ((Bool.and_eq_true _ _).mp h).1
theorem fitC_mem {r : Rw} {l : List r.T} (h : fitC (.sl r) l = true) {x : r.T} (hx : x ∈ l) : fitR r x = true := by
  simp only [fitC, Bool.and_eq_true, List.all_eq_true] at h
  exact h.2 x hx
theorem fitC_len {r : Rw} {l : List r.T} (h : fitC (.sl r) l = true) : l.length ≤ 1048576 := by
  simp only [fitC, Bool.and_eq_true] at h
  exact Nat.le_of_ble_eq_true h.1
theorem fitC_getD {r : Rw} {l : List r.T} (h : fitC (.sl r) l = true) (hd : fitR r r.dflt = true) (k : Nat) : fitR r (l.getD k r.dflt) = true := by
  rw [List.getD_eq_getElem?_getD]
  rcases Nat.lt_or_ge k l.length with hk | hk
  · rw [List.getElem?_eq_getElem hk]; exact fitC_mem h (List.getElem_mem hk)
  · rw [List.getElem?_eq_none hk]; exact hd
theorem fit_ev {e : T_Event} (h : fitR eventR e = true) : fitB e.2.2.2 = true := fitB_fit (fitR_snd (fitR_snd (fitR_snd h)))
theorem fit_out {o : T_Out} (h : fitR outR o = true) : fitB o.2.2.2.2.2.2.2.1 = true ∧ fitB o.2.2.2.2.2.2.2.2.2.2.2.2 = true :=
  ⟨fitB_fit (fitR_fst (fitR_snd (fitR_snd (fitR_snd (fitR_snd (fitR_snd (fitR_snd (fitR_snd h)))))))), fitB_fit (fitR_snd (fitR_snd (fitR_snd (fitR_snd (fitR_snd (fitR_snd (fitR_snd (fitR_snd (fitR_snd (fitR_snd (fitR_snd (fitR_snd h))))))))))))⟩
theorem bytes_w0 : ∀ (b : List Int), sumW (Rw.one (.int .u8)).w b = 0
  | [] => rfl
  | x :: b => by simp only [sumW, bytes_w0 b]; rfl
theorem bytes_w (b : List Int) : (Cc.sl bytesR).w b = b.length := by
  show b.length + sumW (Rw.one (.int .u8)).w b = _
  rw [bytes_w0 b]; rfl
theorem bytes_lim {b : List Int} (h : b.length ≤ 1048576) : (Cc.sl bytesR).lim b = true := by
  simp only [Cc.lim, Bool.and_eq_true, List.all_eq_true]
  exact ⟨Nat.ble_eq_true_of_le h, fun _ _ => rfl⟩
theorem lw_len {xs : List Int} {Z R : Option Ret} (h : xs.length ≤ 1048576 → R = Z) : (bif decide (((xs.length : Nat) : Int) > 1048576) then Z else R) = Z := by
  by_cases q : ((xs.length : Nat) : Int) > 1048576
  · rw [decide_eq_true q]; rfl
  · rw [decide_eq_false q]; exact h (by omega)
theorem bytes_le {b : List Int} {n : Nat} (h : b.length ≤ n) (hn : n ≤ 1099511627776) : (Cc.sl bytesR).w b ≤ 1099511627776 := by
  rw [bytes_w]; omega
theorem docNew_w (t : List Int) : docR.w (docNewD t) ≤ 1099511627776 := by
  have h := startD_len t
  show (Cc.sl bytesR).w (startD t) + ((Cc.sl bytesR).w (startD t) + 0) ≤ _
  rw [bytes_w]; omega
theorem machNew_w (t : List Int) : machR.w (startD t, startD t, [], 0, [], [], []) ≤ 1099511627776 := by
  have h := startD_len t
  show (Cc.sl bytesR).w (startD t) + ((Cc.sl bytesR).w (startD t) + 0) ≤ _
  rw [bytes_w]; omega
theorem reqParse_w {d : List Int} (h : (Cc.sl bytesR).w d ≤ 1048576) : reqR.w (reqParseD d).1 ≤ 1099511627776 := by
  rw [bytes_w] at h
  have e : ∀ r : T_Req, reqR.w r = 0 + (0 + (0 + (0 + (0 + (Cc.sl bytesR).w r.2.2.2.2.2)))) := fun _ => rfl
  have hd : (d.drop 9).length ≤ 1048576 := by simp; omega
  rw [e, bytes_w]
  unfold reqParseD
  cases decide (((d.length : Nat) : Int) < 9) with
  | true => simp
  | false =>
    cases reqOkD (reqOf d) && decide (((d.length : Nat) : Int) = 9 + d.getD 8 0) with
    | true => show 0 + (0 + (0 + (0 + (0 + (d.drop 9).length)))) ≤ _; omega
    | false => simp
end Go.Ev.Seat
end
section
/- s_ChunksOk: its contract. -/
namespace Go.Ev.Seat
open Go.RowKit
set_option maxRecDepth 100000
set_option linter.unusedVariables false
set_option linter.unusedSimpArgs false
def z_s_ChunksOk_3_0 (x2 : Bool) : St := { tm := ([.x, .x, (.s (.bool x2))] ++ List.replicate 24 .x), ob := [], nx := 0, io := [] }
def z_s_ChunksOk_3_1 : St := { tm := ([] ++ List.replicate 27 .x), ob := [], nx := 0, io := [] }
def sh_s_ChunksOk_3_0 : Ss := { tm := (.cons (.l .no pieceR) (.cons (.x) (.cons (.x) (.cons (.int .i64) (.cons (.int .i64) (xsh 22)))))), ob := .nil, nx := 0, io := .nil }
def d_s_ChunksOk_3_0 (x0 : List T_Piece) (x3 : Int) (x4 : Int) : sh_s_ChunksOk_3_0.T := ((x0, ((), ((), (x3, (x4, xd 22))))), (), ())
def s_s_ChunksOk_3_0 (x0 : List T_Piece) (x3 : Int) (x4 : Int) : St := { tm := ([(.l .no pieceR x0), .x, .x, (.s (.int .i64 x3)), (.s (.int .i64 x4))] ++ List.replicate 22 .x), ob := [], nx := 0, io := [] }
theorem se_s_ChunksOk_3_0 (x0 : List T_Piece) (x3 : Int) (x4 : Int) : sh_s_ChunksOk_3_0.mk' (d_s_ChunksOk_3_0 x0 x3 x4) = (s_s_ChunksOk_3_0 x0 x3 x4) := by kernel_rfl
def w_s_ChunksOk_3_0 (d : sh_s_ChunksOk_3_0.T) (f : (List T_Piece) → Int → Int → Option Ret) : Option Ret := match d with | ((x0, (_, (_, (x3, (x4, _))))), _, _) => f x0 x3 x4
noncomputable def P_s_ChunksOk_3_0 (x0 : List T_Piece) (x3 : Int) (x4 : Int) (nx0 : (List T_Piece) → Int → Int → Option Ret) (k0 : Bool → Option Ret) (k1 : Option Ret) : Option Ret :=
 (bif (decide (x4 < (((List.length x0) : Nat) : Int))) then
 (bif ((decide ((0 : Int) ≤ x4)) && (decide (x4 < (((List.length x0) : Nat) : Int)))) then
  (bif (fitB (List.getD x0 (Int.toNat x4) (pieceR.dflt))) then
   (bif (!(chunkOkD (List.getD x0 (Int.toNat x4) (pieceR.dflt)))) then
    (k0 false)
    else (bif ((decide ((0 : Int) ≤ x4)) && (decide (x4 < (((List.length x0) : Nat) : Int)))) then
     (bif (decide ((IntKind.wrap .i64 (x3 + (((List.length (List.getD x0 (Int.toNat x4) (pieceR.dflt))) : Nat) : Int))) > (400 : Int))) then
      (k0 false)
      else (nx0 x0 (IntKind.wrap .i64 (x3 + (((List.length (List.getD x0 (Int.toNat x4) (pieceR.dflt))) : Nat) : Int))) (IntKind.wrap .i64 (x4 + (1 : Int)))))
     else none))
   else none)
  else none)
 else k1)
noncomputable def Q_s_ChunksOk_3_0 : Nat → (List T_Piece) → Int → Int → (Bool → Option Ret) → (Option Ret) → Option Ret
  | 0, _, _, _, _, _ => none
  | m + 1, x0, x3, x4, k0, k1 => P_s_ChunksOk_3_0 x0 x3 x4 (fun x0 x3 x4 => (Q_s_ChunksOk_3_0 m x0 x3 x4 k0 k1)) k0 k1
noncomputable def R_s_ChunksOk_3_0 (x0 : List T_Piece) (x3 : Int) (x4 : Int) (k0 : Bool → Option Ret) (k1 : Option Ret) : Option Ret := Q_s_ChunksOk_3_0 (List.length x0 + x3.toNat + x4.toNat + 2) x0 x3 x4 k0 k1
noncomputable def W_s_ChunksOk_3 : LoopFn := (fun (σ : St) (K : Ex → St → Option Ret) => (match sh_s_ChunksOk_3_0.un σ with | some d => w_s_ChunksOk_3_0 d (fun x0 x3 x4 => R_s_ChunksOk_3_0 x0 x3 x4 (fun x2 => (K .ret (z_s_ChunksOk_3_0 x2))) (K (.ext 0) z_s_ChunksOk_3_1)) | none => none))
noncomputable abbrev E_s_ChunksOk : Env := En [(N.s_ChunkOk, true, S_s_ChunkOk)] [] [(3, [0,3,4], [2], W_s_ChunksOk_3)] [] false 0 []
theorem st_s_ChunksOk_3_0 (m : Nat) (x0 : List T_Piece) (x3 : Int) (x4 : Int) (K : Ex → St → Option Ret) : rounds (run E_s_ChunksOk (bodyOf F.s_ChunksOk 3)) [0,3,4] [2] (m + 1) (s_s_ChunksOk_3_0 x0 x3 x4) K = P_s_ChunksOk_3_0 x0 x3 x4 (fun x0 x3 x4 => (rounds (run E_s_ChunksOk (bodyOf F.s_ChunksOk 3)) [0,3,4] [2] m (s_s_ChunksOk_3_0 x0 x3 x4) K)) (fun x2 => (K .ret (z_s_ChunksOk_3_0 x2))) (K (.ext 0) z_s_ChunksOk_3_1) := by kernel_rfl
theorem q_s_ChunksOk_3 (K : Ex → St → Option Ret) : ∀ m : Nat, (∀ (x0 : List T_Piece) (x3 : Int) (x4 : Int), rounds (run E_s_ChunksOk (bodyOf F.s_ChunksOk 3)) [0,3,4] [2] m (s_s_ChunksOk_3_0 x0 x3 x4) K = Q_s_ChunksOk_3_0 m x0 x3 x4 (fun x2 => (K .ret (z_s_ChunksOk_3_0 x2))) (K (.ext 0) z_s_ChunksOk_3_1))
  | 0 => (fun _ _ _ => rfl)
  | m + 1 => (fun x0 x3 x4 => (by rw [st_s_ChunksOk_3_0, show (fun x0 x3 x4 => (rounds (run E_s_ChunksOk (bodyOf F.s_ChunksOk 3)) [0,3,4] [2] m (s_s_ChunksOk_3_0 x0 x3 x4) K)) = (fun x0 x3 x4 => (Q_s_ChunksOk_3_0 m x0 x3 x4 (fun x2 => (K .ret (z_s_ChunksOk_3_0 x2))) (K (.ext 0) z_s_ChunksOk_3_1))) from funext fun x0 => funext fun x3 => funext fun x4 => (q_s_ChunksOk_3 K m) x0 x3 x4]; rfl))
theorem loopK_s_ChunksOk_3 : LoopOk E_s_ChunksOk (bodyOf F.s_ChunksOk 3) := by
  refine loopW_ok (n := 3) (F := W_s_ChunksOk_3) (by kernel_rfl) rfl (li := [0,3,4]) (lo := [2]) rfl (fun σ K r hr => ?_)
  unfold W_s_ChunksOk_3 at hr
  split at hr
  · rename_i d hd
    rw [Ss.un_mk hd]
    exact ⟨_, ((congrArg (fun z => rounds (run E_s_ChunksOk (bodyOf F.s_ChunksOk 3)) [0,3,4] [2] _ z K) (se_s_ChunksOk_3_0 _ _ _)).trans ((q_s_ChunksOk_3 K _) _ _ _)).trans hr⟩
  · cases hr
noncomputable def T_s_ChunksOk (l : List T_Chunk) (K : Ret → Option Ret) : Option Ret :=
 (R_s_ChunksOk_3_0 l (0 : Int) (0 : Int) (fun y0 =>
 K ((.s (.bool y0)), [])) (K ((.s (.bool true)), [])))
theorem e_s_ChunksOk (l : List T_Chunk) (K : Ret → Option Ret) : evF E_s_ChunksOk true F.s_ChunksOk [.l .no chunkR l] K = T_s_ChunksOk l K := by kernel_rfl
def S_s_ChunksOk : Sm := S_fnR [.l chunkR] (fun d => fitC (.sl chunkR) d.1) (fun d => (bl (chunksOkD d.1), []))
theorem v_s_ChunksOk (l : List T_Chunk) (h : (fitC (.sl chunkR) l) = true) (K : Ret → Option Ret) : T_s_ChunksOk l K = K (bl (chunksOkD l), []) := by
  have hl := fitC_len h
  unfold T_s_ChunksOk chunksOkD
  have q : ∀ (m i n : Nat), n ≤ 400 → i ≤ l.length → l.length - i < m → Q_s_ChunksOk_3_0 m l ((n : Nat) : Int) ((i : Nat) : Int) (fun y0 => K ((.s (.bool y0)), [])) (K ((.s (.bool true)), [])) = K (bl (chunksOkL (l.drop i) n), []) := by
    intro m
    induction m with
    | zero => intro i n _ _ hm; omega
    | succ m ih =>
      intro i n hn hi hm
      show P_s_ChunksOk_3_0 l ((n : Nat) : Int) ((i : Nat) : Int) _ _ _ = _
      unfold P_s_ChunksOk_3_0
      by_cases hlt : i < l.length
      · have hg : l.getD i (pieceR.dflt) = l[i] := getD_lt _ hlt
        have hf : fitB l[i] = true := fitB_fit (fitC_mem (r := chunkR) h (List.getElem_mem hlt))
        have hd : l.drop i = l[i] :: l.drop (i + 1) := (List.getElem_cons_drop hlt).symm
        rw [decide_eq_true (show ((i : Nat) : Int) < ((l.length : Nat) : Int) by omega), decide_eq_true (show (0 : Int) ≤ ((i : Nat) : Int) by omega), Int.toNat_natCast, wrap_nat (by omega), hg, hf, hd]
        cases he : chunkOkD l[i] with
        | false => simp only [chunksOkL, he]; rfl
        | true =>
          have hk := chunkOkD_len he
          have e1 : ((n : Nat) : Int) + ((l[i].length : Nat) : Int) = ((n + l[i].length : Nat) : Int) := by omega
          rw [wrap_in (n := ((n : Nat) : Int) + ((l[i].length : Nat) : Int)) (by omega) (by omega), e1]
          simp only [chunksOkL, he]
          by_cases h4 : ((n + l[i].length : Nat) : Int) > 400
          · rw [decide_eq_true h4]; rfl
          · rw [decide_eq_false h4]
            exact ih (i + 1) (n + l[i].length) (by omega) (by omega) (by omega)
      · obtain rfl : i = l.length := by omega
        rw [decide_eq_false (show ¬ ((l.length : Nat) : Int) < ((l.length : Nat) : Int) by omega), List.drop_length]; rfl
  refine Eq.trans (q _ 0 0 (by omega) (by omega) (by omega)) ?_
  rw [List.drop_zero]
theorem okS_s_ChunksOk : OkFn prog I N.s_ChunksOk true S_s_ChunksOk := okN (ok_fn (memc okS_s_ChunkOk mem0) (l := [(N.s_ChunkOk, true, S_s_ChunkOk)]) (p := []) (ls := [(3, [0,3,4], [2], W_s_ChunksOk_3)]) (lend := []) (focus := false) (fuel := 0) (give := []) (fn := F.s_ChunksOk) (by kernel_rfl) (by kernel_rfl) (by kernel_rfl) (by kernel_rfl) (cs := [bodyOf F.s_ChunksOk 3]) (by kernel_rfl) (loopsc loopK_s_ChunksOk_3 loops0)) (S_fnR_of fun d K h => (e_s_ChunksOk d.1 K).trans (v_s_ChunksOk d.1 h K))
end Go.Ev.Seat
end
section
/- s_RopeOk: its contract. -/
namespace Go.Ev.Seat
open Go.RowKit
set_option maxRecDepth 100000
set_option linter.unusedVariables false
set_option linter.unusedSimpArgs false
noncomputable abbrev E_s_RopeOk : Env := En [(N.s_ChunksOk, true, S_s_ChunksOk)] [] [] [] false 0 []
noncomputable def T_s_RopeOk (r : T_Rope) (K : Ret → Option Ret) : Option Ret :=
 (bif (fitC (Cc.sl chunkR) r) then
 K ((.s (.bool (chunksOkD r))), [])
 else none)
theorem e_s_RopeOk (r : T_Rope) (K : Ret → Option Ret) : evF E_s_RopeOk true F.s_RopeOk [.a (ropeR.cells .no r)] K = T_s_RopeOk r K := by kernel_rfl
def S_s_RopeOk : Sm := S_fnR [.a ropeR] (fun d => fitC (.sl chunkR) d.1) (fun d => (bl (chunksOkD d.1), []))
theorem v_s_RopeOk (r : T_Rope) (h : (fitC (.sl chunkR) r) = true) (K : Ret → Option Ret) : T_s_RopeOk r K = K (bl (chunksOkD r), []) := by
  unfold T_s_RopeOk
  rw [h]; rfl
theorem okS_s_RopeOk : OkFn prog I N.s_RopeOk true S_s_RopeOk := okN (ok_fn (memc okS_s_ChunksOk mem0) (l := [(N.s_ChunksOk, true, S_s_ChunksOk)]) (p := []) (ls := []) (lend := []) (focus := false) (fuel := 0) (give := []) (fn := F.s_RopeOk) (by kernel_rfl) (by kernel_rfl) (by kernel_rfl) (by kernel_rfl) (cs := []) (by kernel_rfl) loops0) (S_fnR_of fun d K h => (e_s_RopeOk d.1 K).trans (v_s_RopeOk d.1 h K))
end Go.Ev.Seat
end
section
/- s_ChunksText: its contract. -/
namespace Go.Ev.Seat
open Go.RowKit
set_option maxRecDepth 100000
set_option linter.unusedVariables false
set_option linter.unusedSimpArgs false
def z_s_ChunksText_3_0 (o0 : List Int) : St := { tm := ([.x, .x, .x, (.w 0)] ++ List.replicate 20 .x), ob := [(0, (.arr true true bytesR o0))], nx := 1, io := [] }
def sh_s_ChunksText_3_0 : Ss := { tm := (.cons (.l .no pieceR) (.cons (.x) (.cons (.x) (.cons (.w 0) (.cons (.int .i64) (xsh 19)))))), ob := (.arr true true bytesR .nil), nx := 1, io := .nil }
def d_s_ChunksText_3_0 (x0 : List T_Piece) (x4 : Int) (o0 : List Int) : sh_s_ChunksText_3_0.T := ((x0, ((), ((), ((), (x4, xd 19))))), (o0, ()), ())
def s_s_ChunksText_3_0 (x0 : List T_Piece) (x4 : Int) (o0 : List Int) : St := { tm := ([(.l .no pieceR x0), .x, .x, (.w 0), (.s (.int .i64 x4))] ++ List.replicate 19 .x), ob := [(0, (.arr true true bytesR o0))], nx := 1, io := [] }
theorem se_s_ChunksText_3_0 (x0 : List T_Piece) (x4 : Int) (o0 : List Int) : sh_s_ChunksText_3_0.mk' (d_s_ChunksText_3_0 x0 x4 o0) = (s_s_ChunksText_3_0 x0 x4 o0) := by kernel_rfl
def w_s_ChunksText_3_0 (d : sh_s_ChunksText_3_0.T) (f : (List T_Piece) → Int → (List Int) → Option Ret) : Option Ret := match d with | ((x0, (_, (_, (_, (x4, _))))), (o0, _), _) => f x0 x4 o0
noncomputable def P_s_ChunksText_3_0 (x0 : List T_Piece) (x4 : Int) (o0 : List Int) (nx0 : (List T_Piece) → Int → (List Int) → Option Ret) (k0 : (List Int) → Option Ret) : Option Ret :=
 (bif (fitC (Cc.sl chunkR) x0) then
 (bif (chunksOkD x0) then
  (bif (decide (x4 < (((List.length x0) : Nat) : Int))) then
   (bif ((decide ((0 : Int) ≤ x4)) && (decide (x4 < (((List.length x0) : Nat) : Int)))) then
    (bif (Nat.ble (((List.length o0) + (List.length (List.getD x0 (Int.toNat x4) (pieceR.dflt)))) * 1) 140737488355328) then
     (nx0 x0 (IntKind.wrap .i64 (x4 + (1 : Int))) (o0 ++ (List.getD x0 (Int.toNat x4) (pieceR.dflt))))
     else none)
    else none)
   else (k0 o0))
  else (k0 o0))
 else none)
noncomputable def Q_s_ChunksText_3_0 : Nat → (List T_Piece) → Int → (List Int) → ((List Int) → Option Ret) → Option Ret
  | 0, _, _, _, _ => none
  | m + 1, x0, x4, o0, k0 => P_s_ChunksText_3_0 x0 x4 o0 (fun x0 x4 o0 => (Q_s_ChunksText_3_0 m x0 x4 o0 k0)) k0
noncomputable def R_s_ChunksText_3_0 (x0 : List T_Piece) (x4 : Int) (o0 : List Int) (k0 : (List Int) → Option Ret) : Option Ret := Q_s_ChunksText_3_0 (List.length x0 + x4.toNat + List.length o0 + 2) x0 x4 o0 k0
noncomputable def W_s_ChunksText_3 : LoopFn := (fun (σ : St) (K : Ex → St → Option Ret) => (match sh_s_ChunksText_3_0.un σ with | some d => w_s_ChunksText_3_0 d (fun x0 x4 o0 => R_s_ChunksText_3_0 x0 x4 o0 (fun o0 => (K (.ext 0) (z_s_ChunksText_3_0 o0)))) | none => none))
noncomputable abbrev E_s_ChunksText : Env := En [(N.s_ChunksOk, true, S_s_ChunksOk)] [] [(3, [0,3,4], [2,3], W_s_ChunksText_3)] [] false 0 []
theorem st_s_ChunksText_3_0 (m : Nat) (x0 : List T_Piece) (x4 : Int) (o0 : List Int) (K : Ex → St → Option Ret) : rounds (run E_s_ChunksText (bodyOf F.s_ChunksText 3)) [0,3,4] [2,3] (m + 1) (s_s_ChunksText_3_0 x0 x4 o0) K = P_s_ChunksText_3_0 x0 x4 o0 (fun x0 x4 o0 => (rounds (run E_s_ChunksText (bodyOf F.s_ChunksText 3)) [0,3,4] [2,3] m (s_s_ChunksText_3_0 x0 x4 o0) K)) (fun o0 => (K (.ext 0) (z_s_ChunksText_3_0 o0))) := by kernel_rfl
theorem q_s_ChunksText_3 (K : Ex → St → Option Ret) : ∀ m : Nat, (∀ (x0 : List T_Piece) (x4 : Int) (o0 : List Int), rounds (run E_s_ChunksText (bodyOf F.s_ChunksText 3)) [0,3,4] [2,3] m (s_s_ChunksText_3_0 x0 x4 o0) K = Q_s_ChunksText_3_0 m x0 x4 o0 (fun o0 => (K (.ext 0) (z_s_ChunksText_3_0 o0))))
  | 0 => (fun _ _ _ => rfl)
  | m + 1 => (fun x0 x4 o0 => (by rw [st_s_ChunksText_3_0, show (fun x0 x4 o0 => (rounds (run E_s_ChunksText (bodyOf F.s_ChunksText 3)) [0,3,4] [2,3] m (s_s_ChunksText_3_0 x0 x4 o0) K)) = (fun x0 x4 o0 => (Q_s_ChunksText_3_0 m x0 x4 o0 (fun o0 => (K (.ext 0) (z_s_ChunksText_3_0 o0))))) from funext fun x0 => funext fun x4 => funext fun o0 => (q_s_ChunksText_3 K m) x0 x4 o0]; rfl))
theorem loopK_s_ChunksText_3 : LoopOk E_s_ChunksText (bodyOf F.s_ChunksText 3) := by
  refine loopW_ok (n := 3) (F := W_s_ChunksText_3) (by kernel_rfl) rfl (li := [0,3,4]) (lo := [2,3]) rfl (fun σ K r hr => ?_)
  unfold W_s_ChunksText_3 at hr
  split at hr
  · rename_i d hd
    rw [Ss.un_mk hd]
    exact ⟨_, ((congrArg (fun z => rounds (run E_s_ChunksText (bodyOf F.s_ChunksText 3)) [0,3,4] [2,3] _ z K) (se_s_ChunksText_3_0 _ _ _)).trans ((q_s_ChunksText_3 K _) _ _ _)).trans hr⟩
  · cases hr
noncomputable def T_s_ChunksText (l : List T_Chunk) (K : Ret → Option Ret) : Option Ret :=
 (R_s_ChunksText_3_0 l (0 : Int) ([] : List Int) (fun y0 =>
 K ((.l .deep bytesR y0), [])))
theorem e_s_ChunksText (l : List T_Chunk) (K : Ret → Option Ret) : evF E_s_ChunksText true F.s_ChunksText [.l .no chunkR l] K = T_s_ChunksText l K := by kernel_rfl
def S_s_ChunksText : Sm := S_fnR [.l chunkR] (fun d => fitC (.sl chunkR) d.1) (fun d => (.l .deep bytesR (chunksTextD d.1), []))
theorem v_s_ChunksText (l : List T_Chunk) (h : (fitC (.sl chunkR) l) = true) (K : Ret → Option Ret) : T_s_ChunksText l K = K (.l .deep bytesR (chunksTextD l), []) := by
  have hl := fitC_len h
  unfold T_s_ChunksText chunksTextD
  cases hk : chunksOkD l with
  | false =>
    have hq : ∀ (m : Nat) (k : List Int → Option Ret), Q_s_ChunksText_3_0 (m + 1) l 0 [] k = P_s_ChunksText_3_0 l 0 [] (fun a b c => Q_s_ChunksText_3_0 m a b c k) k := fun _ _ => rfl
    refine (hq (List.length l + (0 : Int).toNat + List.length ([] : List Int) + 1) _).trans ?_
    unfold P_s_ChunksText_3_0
    rw [h, hk]; rfl
  | true =>
    have hs := (chunksOkD_iff.1 hk).2
    have q : ∀ (m i : Nat), i ≤ l.length → l.length - i < m → Q_s_ChunksText_3_0 m l ((i : Nat) : Int) (l.take i).flatten (fun y0 => K ((.l .deep bytesR y0), [])) = K (.l .deep bytesR l.flatten, []) := by
      intro m
      induction m with
      | zero => intro i _ hm; omega
      | succ m ih =>
        intro i hi hm
        show P_s_ChunksText_3_0 l ((i : Nat) : Int) _ _ _ = _
        unfold P_s_ChunksText_3_0
        rw [h, hk]
        by_cases hlt : i < l.length
        · have h2 : (l.take i).flatten.length ≤ 400 := by
            rw [sumW_flat]
            exact Nat.le_trans sumW_take_le hs
          have h3 : (l.getD i []).length ≤ 400 := by
            rw [getD_lt [] hlt]
            have := chunkOkD_len ((chunksOkD_iff.1 hk).1 l[i] (List.getElem_mem hlt)); omega
          have hf2 : (l.take (i + 1)).flatten = (l.take i).flatten ++ l.getD i [] := flatten_take hlt
          rw [decide_eq_true (show ((i : Nat) : Int) < ((l.length : Nat) : Int) by omega), decide_eq_true (show (0 : Int) ≤ ((i : Nat) : Int) by omega), Int.toNat_natCast, wrap_nat (by omega), show l.getD i pieceR.dflt = l.getD i [] from rfl, Nat.ble_eq_true_of_le (by omega), ← hf2]
          exact ih (i + 1) (by omega) (by omega)
        · obtain rfl : i = l.length := by omega
          rw [decide_eq_false (show ¬ ((l.length : Nat) : Int) < ((l.length : Nat) : Int) by omega), List.take_length]; rfl
    exact q _ 0 (by omega) (by omega)
theorem okS_s_ChunksText : OkFn prog I N.s_ChunksText true S_s_ChunksText := okN (ok_fn (memc okS_s_ChunksOk mem0) (l := [(N.s_ChunksOk, true, S_s_ChunksOk)]) (p := []) (ls := [(3, [0,3,4], [2,3], W_s_ChunksText_3)]) (lend := []) (focus := false) (fuel := 0) (give := []) (fn := F.s_ChunksText) (by kernel_rfl) (by kernel_rfl) (by kernel_rfl) (by kernel_rfl) (cs := [bodyOf F.s_ChunksText 3]) (by kernel_rfl) (loopsc loopK_s_ChunksText_3 loops0)) (S_fnR_of fun d K h => (e_s_ChunksText d.1 K).trans (v_s_ChunksText d.1 h K))
end Go.Ev.Seat
end
section
/- s_RopeText: its contract. -/
namespace Go.Ev.Seat
open Go.RowKit
set_option maxRecDepth 100000
set_option linter.unusedVariables false
set_option linter.unusedSimpArgs false
noncomputable abbrev E_s_RopeText : Env := En [(N.s_ChunksText, true, S_s_ChunksText)] [] [] [] false 0 []
noncomputable def T_s_RopeText (r : T_Rope) (K : Ret → Option Ret) : Option Ret :=
 (bif (fitC (Cc.sl chunkR) r) then
 K ((.l .deep bytesR (chunksTextD r)), [])
 else none)
theorem e_s_RopeText (r : T_Rope) (K : Ret → Option Ret) : evF E_s_RopeText true F.s_RopeText [.a (ropeR.cells .no r)] K = T_s_RopeText r K := by kernel_rfl
def S_s_RopeText : Sm := S_fnR [.a ropeR] (fun d => fitC (.sl chunkR) d.1) (fun d => (.l .deep bytesR (chunksTextD d.1), []))
theorem v_s_RopeText (r : T_Rope) (h : (fitC (.sl chunkR) r) = true) (K : Ret → Option Ret) : T_s_RopeText r K = K (.l .deep bytesR (chunksTextD r), []) := by
  unfold T_s_RopeText
  rw [h]; rfl
theorem okS_s_RopeText : OkFn prog I N.s_RopeText true S_s_RopeText := okN (ok_fn (memc okS_s_ChunksText mem0) (l := [(N.s_ChunksText, true, S_s_ChunksText)]) (p := []) (ls := []) (lend := []) (focus := false) (fuel := 0) (give := []) (fn := F.s_RopeText) (by kernel_rfl) (by kernel_rfl) (by kernel_rfl) (by kernel_rfl) (cs := []) (by kernel_rfl) loops0) (S_fnR_of fun d K h => (e_s_RopeText d.1 K).trans (v_s_RopeText d.1 h K))
end Go.Ev.Seat
end
section
/- s_l04Copy: its contract. -/
namespace Go.Ev.Seat
open Go.RowKit
set_option maxRecDepth 100000
set_option linter.unusedVariables false
set_option linter.unusedSimpArgs false
def z_s_l04Copy_3_0 (o0 : List T_Piece) : St := { tm := ([.x, .x, .x, (.w 0)] ++ List.replicate 20 .x), ob := [(0, (.arr true true pieceR o0))], nx := 1, io := [] }
def sh_s_l04Copy_3_0 : Ss := { tm := (.cons (.l .no pieceR) (.cons (.x) (.cons (.x) (.cons (.w 0) (.cons (.int .i64) (xsh 19)))))), ob := (.arr true true pieceR .nil), nx := 1, io := .nil }
def d_s_l04Copy_3_0 (x0 : List T_Piece) (x4 : Int) (o0 : List T_Piece) : sh_s_l04Copy_3_0.T := ((x0, ((), ((), ((), (x4, xd 19))))), (o0, ()), ())
def s_s_l04Copy_3_0 (x0 : List T_Piece) (x4 : Int) (o0 : List T_Piece) : St := { tm := ([(.l .no pieceR x0), .x, .x, (.w 0), (.s (.int .i64 x4))] ++ List.replicate 19 .x), ob := [(0, (.arr true true pieceR o0))], nx := 1, io := [] }
theorem se_s_l04Copy_3_0 (x0 : List T_Piece) (x4 : Int) (o0 : List T_Piece) : sh_s_l04Copy_3_0.mk' (d_s_l04Copy_3_0 x0 x4 o0) = (s_s_l04Copy_3_0 x0 x4 o0) := by kernel_rfl
def w_s_l04Copy_3_0 (d : sh_s_l04Copy_3_0.T) (f : (List T_Piece) → Int → (List T_Piece) → Option Ret) : Option Ret := match d with | ((x0, (_, (_, (_, (x4, _))))), (o0, _), _) => f x0 x4 o0
noncomputable def P_s_l04Copy_3_0 (x0 : List T_Piece) (x4 : Int) (o0 : List T_Piece) (nx0 : (List T_Piece) → Int → (List T_Piece) → Option Ret) (k0 : (List T_Piece) → Option Ret) : Option Ret :=
 (bif (decide (x4 < (((List.length x0) : Nat) : Int))) then
 (bif ((decide ((0 : Int) ≤ x4)) && (decide (x4 < (((List.length x0) : Nat) : Int)))) then
  (bif (Nat.ble (((List.length ([] : List Int)) + (List.length (List.getD x0 (Int.toNat x4) (pieceR.dflt)))) * 1) 140737488355328) then
   (bif (Nat.ble (((List.length o0) + (List.length ((([] : List Int) ++ (List.getD x0 (Int.toNat x4) (pieceR.dflt))) :: []))) * 24) 140737488355328) then
    (nx0 x0 (IntKind.wrap .i64 (x4 + (1 : Int))) (o0 ++ ((([] : List Int) ++ (List.getD x0 (Int.toNat x4) (pieceR.dflt))) :: [])))
    else none)
   else none)
  else none)
 else (k0 o0))
noncomputable def Q_s_l04Copy_3_0 : Nat → (List T_Piece) → Int → (List T_Piece) → ((List T_Piece) → Option Ret) → Option Ret
  | 0, _, _, _, _ => none
  | m + 1, x0, x4, o0, k0 => P_s_l04Copy_3_0 x0 x4 o0 (fun x0 x4 o0 => (Q_s_l04Copy_3_0 m x0 x4 o0 k0)) k0
noncomputable def R_s_l04Copy_3_0 (x0 : List T_Piece) (x4 : Int) (o0 : List T_Piece) (k0 : (List T_Piece) → Option Ret) : Option Ret := Q_s_l04Copy_3_0 (List.length x0 + x4.toNat + List.length o0 + 2) x0 x4 o0 k0
noncomputable def W_s_l04Copy_3 : LoopFn := (fun (σ : St) (K : Ex → St → Option Ret) => (match sh_s_l04Copy_3_0.un σ with | some d => w_s_l04Copy_3_0 d (fun x0 x4 o0 => R_s_l04Copy_3_0 x0 x4 o0 (fun o0 => (K (.ext 0) (z_s_l04Copy_3_0 o0)))) | none => none))
noncomputable abbrev E_s_l04Copy : Env := En [] [] [(3, [0,3,4], [2,3], W_s_l04Copy_3)] [] false 0 []
theorem st_s_l04Copy_3_0 (m : Nat) (x0 : List T_Piece) (x4 : Int) (o0 : List T_Piece) (K : Ex → St → Option Ret) : rounds (run E_s_l04Copy (bodyOf F.s_l04Copy 3)) [0,3,4] [2,3] (m + 1) (s_s_l04Copy_3_0 x0 x4 o0) K = P_s_l04Copy_3_0 x0 x4 o0 (fun x0 x4 o0 => (rounds (run E_s_l04Copy (bodyOf F.s_l04Copy 3)) [0,3,4] [2,3] m (s_s_l04Copy_3_0 x0 x4 o0) K)) (fun o0 => (K (.ext 0) (z_s_l04Copy_3_0 o0))) := by kernel_rfl
theorem q_s_l04Copy_3 (K : Ex → St → Option Ret) : ∀ m : Nat, (∀ (x0 : List T_Piece) (x4 : Int) (o0 : List T_Piece), rounds (run E_s_l04Copy (bodyOf F.s_l04Copy 3)) [0,3,4] [2,3] m (s_s_l04Copy_3_0 x0 x4 o0) K = Q_s_l04Copy_3_0 m x0 x4 o0 (fun o0 => (K (.ext 0) (z_s_l04Copy_3_0 o0))))
  | 0 => (fun _ _ _ => rfl)
  | m + 1 => (fun x0 x4 o0 => (by rw [st_s_l04Copy_3_0, show (fun x0 x4 o0 => (rounds (run E_s_l04Copy (bodyOf F.s_l04Copy 3)) [0,3,4] [2,3] m (s_s_l04Copy_3_0 x0 x4 o0) K)) = (fun x0 x4 o0 => (Q_s_l04Copy_3_0 m x0 x4 o0 (fun o0 => (K (.ext 0) (z_s_l04Copy_3_0 o0))))) from funext fun x0 => funext fun x4 => funext fun o0 => (q_s_l04Copy_3 K m) x0 x4 o0]; rfl))
theorem loopK_s_l04Copy_3 : LoopOk E_s_l04Copy (bodyOf F.s_l04Copy 3) := by
  refine loopW_ok (n := 3) (F := W_s_l04Copy_3) (by kernel_rfl) rfl (li := [0,3,4]) (lo := [2,3]) rfl (fun σ K r hr => ?_)
  unfold W_s_l04Copy_3 at hr
  split at hr
  · rename_i d hd
    rw [Ss.un_mk hd]
    exact ⟨_, ((congrArg (fun z => rounds (run E_s_l04Copy (bodyOf F.s_l04Copy 3)) [0,3,4] [2,3] _ z K) (se_s_l04Copy_3_0 _ _ _)).trans ((q_s_l04Copy_3 K _) _ _ _)).trans hr⟩
  · cases hr
noncomputable def T_s_l04Copy (l : List T_Chunk) (K : Ret → Option Ret) : Option Ret :=
 (R_s_l04Copy_3_0 l (0 : Int) [] (fun y0 =>
 K ((.l .deep pieceR y0), [])))
theorem e_s_l04Copy (l : List T_Chunk) (K : Ret → Option Ret) : evF E_s_l04Copy true F.s_l04Copy [.l .no chunkR l] K = T_s_l04Copy l K := by kernel_rfl
def S_s_l04Copy : Sm := S_fnR [.l chunkR] (fun d => fitC (.sl chunkR) d.1) (fun d => (.l .deep pieceR d.1, []))
theorem v_s_l04Copy (l : List T_Chunk) (h : (fitC (.sl chunkR) l) = true) (K : Ret → Option Ret) : T_s_l04Copy l K = K (.l .deep pieceR l, []) := by
  have hl := fitC_len h
  unfold T_s_l04Copy
  have q : ∀ (m i : Nat), i ≤ l.length → l.length - i < m → Q_s_l04Copy_3_0 m l ((i : Nat) : Int) (l.take i) (fun y0 => K ((.l .deep pieceR y0), [])) = K ((.l .deep pieceR l), []) := by
    intro m
    induction m with
    | zero => intro i _ hm; omega
    | succ m ih =>
      intro i hi hm
      show P_s_l04Copy_3_0 l ((i : Nat) : Int) (l.take i) _ _ = _
      unfold P_s_l04Copy_3_0
      by_cases hlt : i < l.length
      · have hg : l.getD i (pieceR.dflt) = l[i] := getD_lt _ hlt
        have hf : fitB l[i] = true := fitB_fit (fitC_mem (r := chunkR) h (List.getElem_mem hlt))
        have hb := fitB_len hf
        have ht : l.take i ++ [l[i]] = l.take (i + 1) := by rw [List.take_add_one, List.getElem?_eq_getElem hlt]; rfl
        rw [decide_eq_true (show ((i : Nat) : Int) < ((l.length : Nat) : Int) by omega), decide_eq_true (show (0 : Int) ≤ ((i : Nat) : Int) by omega), Int.toNat_natCast, wrap_nat (by omega), hg]
        simp only [List.nil_append, List.length_nil, List.length_cons, List.length_take]
        rw [Nat.ble_eq_true_of_le (by omega), Nat.ble_eq_true_of_le (by omega), ht]
        exact ih (i + 1) (by omega) (by omega)
      · obtain rfl : i = l.length := by omega
        rw [decide_eq_false (show ¬ ((l.length : Nat) : Int) < ((l.length : Nat) : Int) by omega), List.take_length]; rfl
  exact q _ 0 (by omega) (by omega)
theorem okS_s_l04Copy : OkFn prog I N.s_l04Copy true S_s_l04Copy := okN (ok_fn mem0 (l := []) (p := []) (ls := [(3, [0,3,4], [2,3], W_s_l04Copy_3)]) (lend := []) (focus := false) (fuel := 0) (give := []) (fn := F.s_l04Copy) (by kernel_rfl) (by kernel_rfl) (by kernel_rfl) (by kernel_rfl) (cs := [bodyOf F.s_l04Copy 3]) (by kernel_rfl) (loopsc loopK_s_l04Copy_3 loops0)) (S_fnR_of fun d K h => (e_s_l04Copy d.1 K).trans (v_s_l04Copy d.1 h K))
end Go.Ev.Seat
end
section
/- s_RopeJoin: its contract. -/
namespace Go.Ev.Seat
open Go.RowKit
set_option maxRecDepth 100000
set_option linter.unusedVariables false
set_option linter.unusedSimpArgs false
noncomputable abbrev E_s_RopeJoin : Env := En [(N.s_RopeOk, true, S_s_RopeOk), (N.s_RopeText, true, S_s_RopeText), (N.s_l04Copy, true, S_s_l04Copy)] [(1, takeB [0] (.fork (.one 1 (takeB [2, 3, 4] (.fork (.one 5 (takeB [6, 7, 8, 9, 12] (.fork (.one 10 (takeB [11] (.fork (.one 13 (takes [14, 15, 16, 17])))))))))))), []), (3, takeB [0, 1, 3, 4] (.fork (.one 2 (.fork (.one 5 (.fork (.one 6 (takeB [7] (.fork (.one 8 (takes [9])))))))))), [])] [] [] false 0 []
noncomputable def T_s_RopeJoin (r : T_Rope) (s : T_Rope) (K : Ret → Option Ret) : Option Ret :=
 (bif (fitC (Cc.sl chunkR) r) then
 (bif (!(chunksOkD r)) then
  K ((.t [(.a [(.l .deep pieceR [])]), (.s (.bool false))]), [])
  else (bif (fitC (Cc.sl chunkR) s) then
   (bif (!(chunksOkD s)) then
    K ((.t [(.a [(.l .deep pieceR [])]), (.s (.bool false))]), [])
    else (bif (fitC (Cc.sl chunkR) r) then
     (bif (fitC (Cc.sl chunkR) s) then
      (bif (decide ((IntKind.wrap .i64 ((((List.length (chunksTextD r)) : Nat) : Int) + (((List.length (chunksTextD s)) : Nat) : Int))) > (400 : Int))) then
       K ((.t [(.a [(.l .deep pieceR [])]), (.s (.bool false))]), [])
       else (bif (fitC (Cc.sl chunkR) r) then
        (bif (fitC (Cc.sl chunkR) s) then
         (bif (Nat.ble (((List.length r) + (List.length s)) * 24) 140737488355328) then
          K ((.t [(.a [(.l .deep pieceR (r ++ s))]), (.s (.bool true))]), [])
          else none)
         else none)
        else none))
      else none)
     else none))
   else none))
 else none)
theorem e_s_RopeJoin (r : T_Rope) (s : T_Rope) (K : Ret → Option Ret) : evF E_s_RopeJoin true F.s_RopeJoin [.a (ropeR.cells .no r), .a (ropeR.cells .no s)] K = T_s_RopeJoin r s K := by kernel_rfl
def S_s_RopeJoin : Sm := S_fnR [.a ropeR, .a ropeR] (fun d => fitC (.sl chunkR) d.1 && fitC (.sl chunkR) d.2.1 && Nat.ble (d.1.length + d.2.1.length) 1048576) (fun d => (.t [.a (ropeR.cells .deep (ropeJoinD d.1 d.2.1)), bl (chunksOkD (d.1 ++ d.2.1))], []))
theorem v_s_RopeJoin (r : T_Rope) (s : T_Rope) (h : (fitC (.sl chunkR) r && fitC (.sl chunkR) s && Nat.ble (r.length + s.length) 1048576) = true) (K : Ret → Option Ret) : T_s_RopeJoin r s K = K (.t [.a (ropeR.cells .deep (ropeJoinD r s)), bl (chunksOkD (r ++ s))], []) := by
  simp only [Bool.and_eq_true] at h
  obtain ⟨⟨h1, h2⟩, h3⟩ := h
  have h3' := Nat.le_of_ble_eq_true h3
  unfold T_s_RopeJoin ropeJoinD
  rw [h1, h2, chunksOkD_app]
  cases hr : chunksOkD r with
  | false => rfl
  | true =>
    cases hs : chunksOkD s with
    | false => rfl
    | true =>
      have e1 : (chunksTextD r).length = sumW List.length r := by unfold chunksTextD; rw [hr, cond_true, sumW_flat]
      have e2 : (chunksTextD s).length = sumW List.length s := by unfold chunksTextD; rw [hs, cond_true, sumW_flat]
      have l1 := (chunksOkD_iff.1 hr).2
      have l2 := (chunksOkD_iff.1 hs).2
      rw [e1, e2, wrap_in (by omega) (by omega), Nat.ble_eq_true_of_le (show (r.length + s.length) * 24 ≤ 140737488355328 by omega)]
      by_cases h4 : sumW List.length r + sumW List.length s ≤ 400
      · rw [decide_eq_true h4, decide_eq_false (show ¬ ((sumW List.length r : Nat) : Int) + ((sumW List.length s : Nat) : Int) > 400 by omega)]; rfl
      · rw [decide_eq_false h4, decide_eq_true (show ((sumW List.length r : Nat) : Int) + ((sumW List.length s : Nat) : Int) > 400 by omega)]; rfl
theorem okS_s_RopeJoin : OkFn prog I N.s_RopeJoin true S_s_RopeJoin := okN (ok_fn (memc okS_s_RopeOk (memc okS_s_RopeText (memc okS_s_l04Copy mem0))) (l := [(N.s_RopeOk, true, S_s_RopeOk), (N.s_RopeText, true, S_s_RopeText), (N.s_l04Copy, true, S_s_l04Copy)]) (p := [(1, takeB [0] (.fork (.one 1 (takeB [2, 3, 4] (.fork (.one 5 (takeB [6, 7, 8, 9, 12] (.fork (.one 10 (takeB [11] (.fork (.one 13 (takes [14, 15, 16, 17])))))))))))), []), (3, takeB [0, 1, 3, 4] (.fork (.one 2 (.fork (.one 5 (.fork (.one 6 (takeB [7] (.fork (.one 8 (takes [9])))))))))), [])]) (ls := []) (lend := []) (focus := false) (fuel := 0) (give := []) (fn := F.s_RopeJoin) (by kernel_rfl) (by kernel_rfl) (by kernel_rfl) (by kernel_rfl) (cs := []) (by kernel_rfl) loops0) (S_fnR_of fun d K h => (e_s_RopeJoin d.1 d.2.1 K).trans (v_s_RopeJoin d.1 d.2.1 h K))
end Go.Ev.Seat
end
section
/- slices.Grow of a nil slice: room and nothing else. -/
set_option linter.unusedVariables false
namespace Go.Ev
open Go.RowKit Go.Shelf Go.Proofs
def S_growN (r : Rw) : Sm := fun vs K => match vs with
  | [.nl, .s (.int .i64 n)] => bif decide (0 ≤ n) && decide (n ≤ 1099511627776) then K (.l .deep r [], []) else none
  | _ => none
variable {P : Program} {I : Nat → World → Prop}
theorem grow_ok {ρ : Ren} (L : Lays8.n4 P ρ) (hent : ∀ (args : Array Value) (w : World), (callFunc (ρ.f 4) args).run P w = .ok (.enter (ρ.f 4) args) w) {r : Rw} {i0 : TypeInfo} {z : Value} (hi0 : P.info? (ρ.t 25) = some i0) (hz0 : i0.zero = some z) (hs0 : 0 < i0.size) (hb : i0.bytes ≤ 64) (hn : z.cells.size = r.n) : OkFn P I (ρ.f 4) true (S_growN r) := by
  refine ⟨hent, fun ws K q hq B0 w0 w N vs O M H hI hbel hB hargs hnd hO hM hH hN => ?_⟩
  unfold S_growN at hq
  split at hq
  · rename_i n
    cases hc : (decide (0 ≤ n) && decide (n ≤ 1099511627776)) with
    | false => rw [hc] at hq; cases hq
    | true =>
      rw [hc] at hq
      simp only [Bool.and_eq_true, decide_eq_true_eq] at hc
      obtain ⟨h0, h1⟩ := hc
      have hq' : K (.l .deep r [], []) = some q := hq
      obtain ⟨v1, vs1, O1, O2, M1, M2, H1, H2, rfl, rfl, rfl, rfl, a1, b1⟩ := hargs
      obtain ⟨v2, vs2, O3, O4, M3, M4, H3, H4, rfl, rfl, rfl, rfl, a2, b2⟩ := b1
      obtain ⟨rfl, rfl, rfl, rfl⟩ := b2
      have e1 : v1 = .slice none 0 0 := a1.1
      have e2 : v2 = .int .i64 n := a2.1.1
      subst e1 e2
      obtain ⟨k, rfl⟩ : ∃ k : Nat, n = (k : Int) := ⟨n.toNat, by omega⟩
      by_cases hk : k = 0
      · subst hk
        refine Calls.mono (Any8.slices_Grow_room L none 0 0 0 w (Nat.le_refl _) (by omega) (by omega) (by omega)) ?_
        rintro e w' ⟨rfl, rfl⟩
        refine ⟨_, hq', ⟨⟨[], [], [], [], [], [], ⟨.inl ⟨rfl, rfl, none, 0, rfl, fun _ => ⟨rfl, rfl⟩⟩, rfl, rfl⟩, ⟨rfl, rfl, rfl, rfl⟩, List.nodup_nil, by simp, by simp, by simp⟩, hbel, Nat.le_refl _, fun _ _ _ => rfl⟩⟩
      · have hmul : (0 + k) * i0.bytes ≤ 1099511627776 * 64 := Nat.mul_le_mul (by omega) hb
        refine Calls.mono (Any8.slices_Grow_grow L i0 z hi0 hz0 hs0 none 0 0 k [] w (Nat.le_refl _) (by omega) (by omega) (by omega) (by simp) (fun _ => rfl) (fun a h => nomatch h)) ?_
        rintro e w' ⟨rfl, rfl⟩
        have hsz : ∀ cs t, (w.drew.alloc (.cells cs t)).heap.size = w.heap.size + 1 := fun cs t => alloc_size w.drew _
        have hnew : ∀ cs t, (w.drew.alloc (.cells cs t)).heap[w.heap.size]? = some (.cells cs t (0, 0)) := fun cs t => alloc_new w.drew _
        refine ⟨_, hq', ⟨⟨[w.heap.size], [], [w.heap.size], [], [], [], ⟨.inr ⟨w.heap.size, 0, _, [], rfl, Nat.zero_le _, rfl, by rw [hsz]; omega, fun _ => ⟨_, _, hnew _ _, ?_⟩, rfl⟩, rfl, rfl⟩, ⟨rfl, rfl, rfl, rfl⟩, by simp, ?_, by simp, ?_⟩, (hbel.drew).alloc hB _, by rw [hsz]; omega, fun x hx _ => alloc_old w.drew _ x hx⟩⟩
        · simp only [Array.size_append, size_zeroCells, hn]
          have : ∀ c : Nat, 0 + c * r.n ≤ ([] : List Value).toArray.size + (0 + k - 0) * r.n + (c - (0 + k)) * r.n := fun c => by
            rw [Nat.add_assoc, ← Nat.add_mul]
            have : c * r.n ≤ (0 + k - 0 + (c - (0 + k))) * r.n := Nat.mul_le_mul_right _ (by omega)
            omega
          exact this _
        · intro x hx
          simp at hx
          subst hx
          exact ⟨.inr (Nat.le_refl _), by rw [hsz]; omega⟩
        · intro x hx
          simp at hx
          subst hx
          exact ⟨by simp, fun h => by have := hN _ h; omega⟩
  · cases hq
end Go.Ev
namespace Go.Proofs
open Go.Shelf
def Tryd.grow_ren : Go.Shelf.Ren := ⟨fun | 4 => 131 | n => n, fun | 22 => 22 | 25 => 5 | 3 => 3 | 4 => 4 | 9 => 9 | 20 => 20 | 0 => 0 | n => n, fun | n => n⟩
theorem Tryd.grow : Go.Proofs.Lays8.n4 Tryd.prog Tryd.grow_ren := {
  mixed := by kernel_rfl
  f4 := ⟨Tryd.f131.name, by decide, Tryd.func131.trans (congrArg some (by kernel_rfl))⟩
  t0 := Tryd.underlying0
  a0 := Tryd.isAgg0
  z0 := Tryd.sizeOf0
  v0 := Tryd.zeroValue0
  t3 := Tryd.underlying3
  a3 := Tryd.isAgg3
  z3 := Tryd.sizeOf3
  v3 := Tryd.zeroValue3
  t4 := Tryd.underlying4
  a4 := Tryd.isAgg4
  z4 := Tryd.sizeOf4
  v4 := Tryd.zeroValue4
  t9 := Tryd.underlying9
  a9 := Tryd.isAgg9
  z9 := Tryd.sizeOf9
  v9 := Tryd.zeroValue9
  t20 := Tryd.underlying20
  a20 := Tryd.isAgg20
  z20 := Tryd.sizeOf20
  v20 := Tryd.zeroValue20
  t22 := Tryd.underlying22
  a22 := Tryd.isAgg22
  z22 := Tryd.sizeOf22
  v22 := Tryd.zeroValue22 }
end Go.Proofs
namespace Go.Ev.Seat
open Go.RowKit
set_option maxRecDepth 100000
theorem okS_Grow : OkFn prog I N.slices_Grow_bytes_byte true (S_growN bytesR) := by
  refine grow_ok (i0 := (prog.info? 5).getD default) (z := .int .u8 0) Go.Proofs.Tryd.grow (ok_fn (l := []) (p := []) (ls := []) (lend := []) (focus := false) (fuel := 0) (give := []) (fresh := true) mem0 (g := N.slices_Grow_bytes_byte) (fn := F.slices_Grow_bytes_byte) (by kernel_rfl) (by kernel_rfl) (by kernel_rfl) (by kernel_rfl) (cs := []) (by kernel_rfl) loops0).1 (by kernel_rfl) (by kernel_rfl) (Nat.le_of_ble_eq_true (by kernel_rfl)) (Nat.le_of_ble_eq_true (by kernel_rfl)) rfl
end Go.Ev.Seat
end
section
/- slices_Grow_Chunk: its contract. -/
namespace Go.Proofs
open Go.Shelf
def Tryd.growChunk_ren : Go.Shelf.Ren := ⟨fun | 4 => 147 | n => n, fun | 22 => 79 | 25 => 130 | 3 => 3 | 4 => 4 | 9 => 9 | 20 => 20 | 0 => 0 | n => n, fun | n => n⟩
theorem Tryd.growChunk : Go.Proofs.Lays8.n4 Tryd.prog Tryd.growChunk_ren := {
  mixed := by kernel_rfl
  f4 := ⟨Tryd.f147.name, by decide, Tryd.func147.trans (congrArg some (by kernel_rfl))⟩
  t0 := Tryd.underlying0
  a0 := Tryd.isAgg0
  z0 := Tryd.sizeOf0
  v0 := Tryd.zeroValue0
  t3 := Tryd.underlying3
  a3 := Tryd.isAgg3
  z3 := Tryd.sizeOf3
  v3 := Tryd.zeroValue3
  t4 := Tryd.underlying4
  a4 := Tryd.isAgg4
  z4 := Tryd.sizeOf4
  v4 := Tryd.zeroValue4
  t9 := Tryd.underlying9
  a9 := Tryd.isAgg9
  z9 := Tryd.sizeOf9
  v9 := Tryd.zeroValue9
  t20 := Tryd.underlying20
  a20 := Tryd.isAgg20
  z20 := Tryd.sizeOf20
  v20 := Tryd.zeroValue20
  t22 := Tryd.underlying79
  a22 := Tryd.isAgg79
  z22 := Tryd.sizeOf79
  v22 := Tryd.zeroValue79 }
end Go.Proofs
namespace Go.Ev.Seat
open Go.RowKit
set_option maxRecDepth 100000
theorem okS_slices_Grow_Chunk : OkFn prog I N.slices_Grow_Chunk true (S_growN chunkR) := by
  refine grow_ok (i0 := (prog.info? 130).getD default) (z := .agg #[.slice none 0 0]) Go.Proofs.Tryd.growChunk (ok_fn (l := []) (p := []) (ls := []) (lend := []) (focus := false) (fuel := 0) (give := []) (fresh := true) mem0 (g := N.slices_Grow_Chunk) (fn := F.slices_Grow_Chunk) (by kernel_rfl) (by kernel_rfl) (by kernel_rfl) (by kernel_rfl) (cs := []) (by kernel_rfl) loops0).1 (by kernel_rfl) (by kernel_rfl) (Nat.le_of_ble_eq_true (by kernel_rfl)) (Nat.le_of_ble_eq_true (by kernel_rfl)) rfl
end Go.Ev.Seat
end
section
/- slices.Clone and slices.Concat of bytes. -/
namespace Go.Ev.Seat
open Go.RowKit
set_option maxRecDepth 100000
set_option linter.unusedVariables false
-- Clone
noncomputable def G_Clone := evF (En []) true F.slices_Clone_bytes_byte
theorem ok_Clone : OkFn prog I N.slices_Clone_bytes_byte true G_Clone := ok_fn mem0 (by kernel_rfl) (by kernel_rfl) (by kernel_rfl) (by kernel_rfl) (cs := []) (by kernel_rfl) loops0
theorem okS_Clone : OkFn prog I N.slices_Clone_bytes_byte true (S_toL bytesR) := okW ok_Clone (S_toL_of fun xs K h => by
  have e : G_Clone [.l .no bytesR xs] K = (bif (Nat.beq (List.length xs) 0) then meet (K (.l .deep bytesR [], [])) (bif (Nat.ble (((List.length ([] : List Int)) + (List.length xs)) * 1) 140737488355328) then K ((.l .deep bytesR ([] ++ xs)), []) else none)
    else (bif (Nat.ble (((List.length ([] : List Int)) + (List.length xs)) * 1) 140737488355328) then K ((.l .deep bytesR ([] ++ xs)), []) else none)) := by kernel_rfl
  rw [e]
  simp only [Cc.lim, Bool.and_eq_true] at h
  have h1 : xs.length ≤ 1048576 := Nat.le_of_ble_eq_true h.1
  have h2 : Nat.ble (((List.length ([] : List Int)) + (List.length xs)) * 1) 140737488355328 = true := Nat.ble_eq_true_of_le (by simp; omega)
  rw [h2]
  cases xs with
  | nil => exact meet_self _
  | cons x xs => rfl)
-- Concat
def sh_cc1 : Ss := { tm := (.cons (.l .no pieceR) (.cons (.x) (.cons (.x) (.cons (.int .i64) (.cons (.x) (.cons (.x) (.cons (.x) (.cons (.x) (.cons (.x) (.cons (.l .no pieceR) (.cons (.int .i64) (.cons (.int .i64) (xsh 24))))))))))))), ob := .nil, nx := 0, io := .nil }
def d_cc1 (x0 : List (List (Int))) (x3 : Int) (x9 : List (List (Int))) (x10 : Int) (x11 : Int) : sh_cc1.T := ((x0, ((), ((), (x3, ((), ((), ((), ((), ((), (x9, (x10, (x11, xd 24)))))))))))), (), ())
def z_cc1 (x0 : List (List Int)) (x3 : Int) : St := { tm := ([(.l .no pieceR x0), .x, .x, (.s (.int .i64 x3))] ++ List.replicate 32 .x), ob := [], nx := 0, io := [] }
def R_cc1 (d : sh_cc1.T) (K : Ex → St → Option Ret) : Option Ret := match d with
  | ((x0, (_, (_, (x3, (_, (_, (_, (_, (_, (x9, (x10, (x11, _)))))))))))), _, _) => bif (x11 == 0) && (x3 == 0) && (x10 == ((x9.length : Nat) : Int)) && Nat.ble x9.length 4611686018427387904 && Nat.ble (sumW List.length x9) 1099511627776 then K (.ext 0) (z_cc1 x0 ((sumW List.length x9 : Nat) : Int)) else none
def sh_cc2 : Ss := { tm := (.cons (.x) (.cons (.x) (.cons (.x) (.cons (.x) (.cons (.x) (.cons (.x) (.cons (.w 0) (.cons (.x) (.cons (.x) (.cons (.x) (.cons (.x) (.cons (.x) (.cons (.x) (.cons (.x) (.cons (.x) (.cons (.x) (.cons (.x) (.cons (.x) (.cons (.x) (.cons (.x) (.cons (.x) (.cons (.x) (.cons (.x) (.cons (.x) (.cons (.x) (.cons (.l .no pieceR) (.cons (.int .i64) (.cons (.int .i64) (xsh 8))))))))))))))))))))))))))))), ob := (.arr true true bytesR .nil), nx := 1, io := .nil }
def d_cc2 (x25 : List (List (Int))) (x26 : Int) (x27 : Int) (o0 : List (Int)) : sh_cc2.T := (((), ((), ((), ((), ((), ((), ((), ((), ((), ((), ((), ((), ((), ((), ((), ((), ((), ((), ((), ((), ((), ((), ((), ((), ((), (x25, (x26, (x27, xd 8)))))))))))))))))))))))))))), (o0, ()), ())
def z_cc2 (o0 : List Int) : St := { tm := ([.x, .x, .x, .x, .x, .x, (.w 0)] ++ List.replicate 29 .x), ob := [(0, (.arr true true bytesR o0))], nx := 1, io := [] }
def R_cc2 (d : sh_cc2.T) (K : Ex → St → Option Ret) : Option Ret := match d with
  | ((_, (_, (_, (_, (_, (_, (_, (_, (_, (_, (_, (_, (_, (_, (_, (_, (_, (_, (_, (_, (_, (_, (_, (_, (_, (x25, (x26, (x27, _)))))))))))))))))))))))))))), (o0, _), _) => bif (x27 == 0) && (x26 == ((x25.length : Nat) : Int)) && Nat.ble x25.length 4611686018427387904 && Nat.beq o0.length 0 && Nat.ble (sumW List.length x25) 1099511627776 then K (.ext 2) (z_cc2 x25.flatten) else none
noncomputable def E_cc : Env := En [(N.slices_Grow_bytes_byte, true, S_growN bytesR)] [] [(3, [0,3,9,10,11], [0,3], loopF sh_cc1 R_cc1), (11, [6,25,26,27], [6], loopF sh_cc2 R_cc2)]
noncomputable abbrev L_cc1 (n : Nat) (x0 : List (List Int)) (x3 : Int) (x9 : List (List (Int))) (x10 x11 : Int) (K : Ex → St → Option Ret) : Option Ret := rounds (run E_cc (bodyOf F.slices_Concat_bytes_byte 3)) [0,3,9,10,11] [0,3] n (sh_cc1.mk' (d_cc1 x0 x3 x9 x10 x11)) K
noncomputable abbrev L_cc2 (n : Nat) (x25 : List (List (Int))) (x26 x27 : Int) (o0 : List Int) (K : Ex → St → Option Ret) : Option Ret := rounds (run E_cc (bodyOf F.slices_Concat_bytes_byte 11)) [6,25,26,27] [6] n (sh_cc2.mk' (d_cc2 x25 x26 x27 o0)) K
theorem step_cc1 (n : Nat) (x0 : List (List (Int))) (x3 : Int) (x9 : List (List (Int))) (x10 : Int) (x11 : Int) (K : Ex → St → Option Ret) : L_cc1 (n + 1) x0 x3 x9 x10 x11 K =
 (bif decide (x11 < x10) then
 (bif (decide ((0 : Int) ≤ x11) && decide (x11 < (((List.length x9) : Nat) : Int))) then
  (bif decide ((IntKind.wrap .i64 (x3 + (((List.length (List.getD x9 (Int.toNat x11) (pieceR.dflt))) : Nat) : Int))) < (0 : Int)) then
   none
   else L_cc1 n x0 (IntKind.wrap .i64 (x3 + (((List.length (List.getD x9 (Int.toNat x11) (pieceR.dflt))) : Nat) : Int))) x9 x10 (IntKind.wrap .i64 (x11 + (1 : Int))) K)
  else none)
 else K (.ext 0) (z_cc1 x0 x3)) := by kernel_rfl
theorem step_cc2 (n : Nat) (x25 : List (List (Int))) (x26 : Int) (x27 : Int) (o0 : List (Int)) (K : Ex → St → Option Ret) : L_cc2 (n + 1) x25 x26 x27 o0 K =
 (bif decide (x27 < x26) then
 (bif (decide ((0 : Int) ≤ x27) && decide (x27 < (((List.length x25) : Nat) : Int))) then
  (bif (Nat.ble (((List.length o0) + (List.length (List.getD x25 (Int.toNat x27) (pieceR.dflt)))) * 1) 140737488355328) then
   L_cc2 n x25 x26 (IntKind.wrap .i64 (x27 + (1 : Int))) (o0 ++ (List.getD x25 (Int.toNat x27) (pieceR.dflt))) K
   else none)
  else none)
 else K (.ext 2) (z_cc2 o0)) := by kernel_rfl
theorem go_cc1 (x0 x9 : List (List Int)) (K : Ex → St → Option Ret) (h1 : x9.length ≤ 4611686018427387904) (h2 : sumW List.length x9 ≤ 1099511627776) : L_cc1 (x9.length + 1) x0 0 x9 ((x9.length : Nat) : Int) 0 K = K (.ext 0) (z_cc1 x0 ((sumW List.length x9 : Nat) : Int)) := by
  have := loop_idx (R := fun n i (s : Int) => L_cc1 n x0 s x9 ((x9.length : Nat) : Int) i K) (k := K (.ext 0) (z_cc1 x0 ((sumW List.length x9 : Nat) : Int))) (f := fun i => ((sumW List.length (x9.take i) : Nat) : Int)) x9.length (fun m i hi => by
    show L_cc1 (m + 1) x0 _ x9 _ i K = L_cc1 m x0 ((sumW List.length (x9.take (i + 1)) : Nat) : Int) x9 _ ((i + 1 : Nat) : Int) K
    have hs := sumW_take (g := List.length) (z := (pieceR.dflt : List Int)) hi
    have hs' : sumW List.length (List.take (i + 1) x9) = sumW List.length (List.take i x9) + List.length (x9.getD i pieceR.dflt) := hs
    have hle : sumW List.length (x9.take (i + 1)) ≤ sumW List.length x9 := sumW_take_le
    rw [step_cc1, decide_eq_true (show ((i : Nat) : Int) < ((x9.length : Nat) : Int) by omega), decide_eq_true (show (0 : Int) ≤ ((i : Nat) : Int) by omega), wrap_nat (show i ≤ 4611686018427387904 by omega), Int.toNat_natCast, wrap_id (by omega) (by omega), hs', decide_eq_false (show ¬ ((((sumW List.length (List.take i x9) : Nat) : Int) + ((List.length (x9.getD i pieceR.dflt) : Nat) : Int)) < 0) by omega), Int.natCast_add]
    rfl) (fun m => by
    show L_cc1 (m + 1) x0 _ x9 _ _ K = _
    rw [step_cc1, decide_eq_false (show ¬ ((x9.length : Nat) : Int) < ((x9.length : Nat) : Int) by omega), List.take_length]; rfl)
  exact this
theorem go_cc2 (x25 : List (List Int)) (K : Ex → St → Option Ret) (h1 : x25.length ≤ 4611686018427387904) (h2 : sumW List.length x25 ≤ 1099511627776) : L_cc2 (x25.length + 1) x25 ((x25.length : Nat) : Int) 0 [] K = K (.ext 2) (z_cc2 x25.flatten) := by
  have := loop_idx (R := fun n i (s : List Int) => L_cc2 n x25 ((x25.length : Nat) : Int) i s K) (k := K (.ext 2) (z_cc2 x25.flatten)) (f := fun i => (x25.take i).flatten) x25.length (fun m i hi => by
    show L_cc2 (m + 1) x25 _ i _ K = L_cc2 m x25 _ ((i + 1 : Nat) : Int) (x25.take (i + 1)).flatten K
    have hs := sumW_take (g := List.length) (z := (pieceR.dflt : List Int)) hi
    have hs' : sumW List.length (List.take (i + 1) x25) = sumW List.length (List.take i x25) + List.length (x25.getD i pieceR.dflt) := hs
    have hle : sumW List.length (x25.take (i + 1)) ≤ sumW List.length x25 := sumW_take_le
    have hfl := sumW_flatten (x25.take i)
    rw [step_cc2, decide_eq_true (show ((i : Nat) : Int) < ((x25.length : Nat) : Int) by omega), decide_eq_true (show (0 : Int) ≤ ((i : Nat) : Int) by omega), wrap_nat (show i ≤ 4611686018427387904 by omega), Int.toNat_natCast, Nat.ble_eq_true_of_le (show (((x25.take i).flatten.length + (x25.getD i pieceR.dflt).length) * 1) ≤ 140737488355328 by omega)]
    show L_cc2 m x25 _ _ ((x25.take i).flatten ++ x25.getD i pieceR.dflt) K = _
    have hf2 : (x25.take (i + 1)).flatten = (x25.take i).flatten ++ x25.getD i pieceR.dflt := flatten_take hi
    rw [hf2]) (fun m => by
    show L_cc2 (m + 1) x25 _ _ _ K = _
    rw [step_cc2, decide_eq_false (show ¬ ((x25.length : Nat) : Int) < ((x25.length : Nat) : Int) by omega), List.take_length]; rfl)
  exact this
theorem loop_cc1 : LoopOk E_cc (bodyOf F.slices_Concat_bytes_byte 3) := by
  refine loopF_ok (n := 3) (sh := sh_cc1) (R := R_cc1) (by kernel_rfl) rfl rfl (fun d K r hr => ?_)
  obtain ⟨⟨x0, u1, u2, x3, u4, u5, u6, u7, u8, x9, x10, x11, u12⟩, u13, u14⟩ := d
  unfold R_cc1 at hr
  simp only at hr
  cases hc : ((x11 == 0) && (x3 == 0) && (x10 == ((x9.length : Nat) : Int)) && Nat.ble x9.length 4611686018427387904 && Nat.ble (sumW List.length x9) 1099511627776) with
  | false => rw [hc] at hr; cases hr
  | true =>
    rw [hc] at hr
    simp only [Bool.and_eq_true, beq_iff_eq] at hc
    obtain ⟨⟨⟨⟨rfl, rfl⟩, rfl⟩, h1⟩, h2⟩ := hc
    exact ⟨x9.length + 1, (go_cc1 x0 x9 K (Nat.le_of_ble_eq_true h1) (Nat.le_of_ble_eq_true h2)).trans hr⟩
theorem loop_cc2 : LoopOk E_cc (bodyOf F.slices_Concat_bytes_byte 11) := by
  refine loopF_ok (n := 11) (sh := sh_cc2) (R := R_cc2) (by kernel_rfl) rfl rfl (fun d K r hr => ?_)
  obtain ⟨⟨_, _, _, _, _, _, _, _, _, _, _, _, _, _, _, _, _, _, _, _, _, _, _, _, _, x25, x26, x27, u12⟩, ⟨o0, u13⟩, u14⟩ := d
  unfold R_cc2 at hr
  simp only at hr
  cases hc : ((x27 == 0) && (x26 == ((x25.length : Nat) : Int)) && Nat.ble x25.length 4611686018427387904 && Nat.beq o0.length 0 && Nat.ble (sumW List.length x25) 1099511627776) with
  | false => rw [hc] at hr; cases hr
  | true =>
    rw [hc] at hr
    simp only [Bool.and_eq_true, beq_iff_eq] at hc
    obtain ⟨⟨⟨⟨rfl, rfl⟩, h1⟩, h3⟩, h2⟩ := hc
    have h3' : o0 = [] := List.eq_nil_of_length_eq_zero (Nat.eq_of_beq_eq_true h3)
    subst h3'
    exact ⟨x25.length + 1, (go_cc2 x25 K (Nat.le_of_ble_eq_true h1) (Nat.le_of_ble_eq_true h2)).trans hr⟩
noncomputable def G_Concat := evF E_cc true F.slices_Concat_bytes_byte
theorem ok_Concat : OkFn prog I N.slices_Concat_bytes_byte true G_Concat := ok_fn (memc okS_Grow mem0) (by kernel_rfl) (by kernel_rfl) (by kernel_rfl) (by kernel_rfl) (cs := [bodyOf F.slices_Concat_bytes_byte 3, bodyOf F.slices_Concat_bytes_byte 11]) (by kernel_rfl) (loopsc loop_cc1 (loopsc loop_cc2 loops0))
def S_concat : Sm := fun vs K => match vs with
  | [v] => match (Cc.sl pieceR).dec v with
    | some (xs : List (List Int)) => bif Nat.ble xs.length 4611686018427387904 && Nat.ble (sumW List.length xs) 1099511627776 then K (.l .deep bytesR xs.flatten, []) else none
    | none => none
  | _ => none
theorem okS_Concat : OkFn prog I N.slices_Concat_bytes_byte true S_concat := okW ok_Concat (by
  intro ws K q hr
  unfold S_concat at hr
  split at hr
  · split at hr
    · rename_i xs hx
      rw [Cc.dec_ok _ hx]
      have e : G_Concat [.l .no pieceR xs] K = (bif ((0 : Int) == 0) && ((0 : Int) == 0) && (((List.length xs : Nat) : Int) == ((List.length xs : Nat) : Int)) && Nat.ble (List.length xs) 4611686018427387904 && Nat.ble (sumW List.length xs) 1099511627776 then
        (bif decide (0 ≤ ((sumW List.length xs : Nat) : Int)) && decide (((sumW List.length xs : Nat) : Int) ≤ 1099511627776) then
         (bif ((0 : Int) == 0) && (((List.length xs : Nat) : Int) == ((List.length xs : Nat) : Int)) && Nat.ble (List.length xs) 4611686018427387904 && Nat.beq 0 0 && Nat.ble (sumW List.length xs) 1099511627776 then K (.l .deep bytesR (List.flatten xs), []) else none)
         else none) else none) := by kernel_rfl
      cases hl : (Nat.ble xs.length 4611686018427387904 && Nat.ble (sumW List.length xs) 1099511627776) with
      | false => rw [hl] at hr; cases hr
      | true =>
        rw [hl] at hr
        simp only [Bool.and_eq_true] at hl
        refine e.trans (Eq.trans ?_ hr)
        rw [hl.1, hl.2, beq_self_eq_true, beq_self_eq_true, decide_eq_true (show (0 : Int) ≤ ((sumW List.length xs : Nat) : Int) by omega), decide_eq_true (show ((sumW List.length xs : Nat) : Int) ≤ 1099511627776 by have := Nat.le_of_ble_eq_true hl.2; omega)]
        rfl
    · cases hr
  · cases hr)
end Go.Ev.Seat
end
section
/- slices_Concat_Chunk: its contract. -/
namespace Go.Ev.Seat
open Go.RowKit
set_option maxRecDepth 100000
set_option linter.unusedVariables false
set_option linter.unusedSimpArgs false
def z_slices_Concat_Chunk_3_0 (x0 : List T_Rope) (x3 : Int) : St := { tm := ([(.l .no ropeR x0), .x, .x, (.s (.int .i64 x3))] ++ List.replicate 32 .x), ob := [], nx := 0, io := [] }
def sh_slices_Concat_Chunk_3_0 : Ss := { tm := (.cons (.l .no ropeR) (.cons (.x) (.cons (.x) (.cons (.int .i64) (.cons (.x) (.cons (.x) (.cons (.x) (.cons (.x) (.cons (.x) (.cons (.l .no ropeR) (.cons (.int .i64) (.cons (.int .i64) (xsh 24))))))))))))), ob := .nil, nx := 0, io := .nil }
def d_slices_Concat_Chunk_3_0 (x0 : List T_Rope) (x3 : Int) (x9 : List T_Rope) (x10 : Int) (x11 : Int) : sh_slices_Concat_Chunk_3_0.T := ((x0, ((), ((), (x3, ((), ((), ((), ((), ((), (x9, (x10, (x11, xd 24)))))))))))), (), ())
def s_slices_Concat_Chunk_3_0 (x0 : List T_Rope) (x3 : Int) (x9 : List T_Rope) (x10 : Int) (x11 : Int) : St := { tm := ([(.l .no ropeR x0), .x, .x, (.s (.int .i64 x3)), .x, .x, .x, .x, .x, (.l .no ropeR x9), (.s (.int .i64 x10)), (.s (.int .i64 x11))] ++ List.replicate 24 .x), ob := [], nx := 0, io := [] }
theorem se_slices_Concat_Chunk_3_0 (x0 : List T_Rope) (x3 : Int) (x9 : List T_Rope) (x10 : Int) (x11 : Int) : sh_slices_Concat_Chunk_3_0.mk' (d_slices_Concat_Chunk_3_0 x0 x3 x9 x10 x11) = (s_slices_Concat_Chunk_3_0 x0 x3 x9 x10 x11) := by kernel_rfl
def w_slices_Concat_Chunk_3_0 (d : sh_slices_Concat_Chunk_3_0.T) (f : (List T_Rope) → Int → (List T_Rope) → Int → Int → Option Ret) : Option Ret := match d with | ((x0, (_, (_, (x3, (_, (_, (_, (_, (_, (x9, (x10, (x11, _)))))))))))), _, _) => f x0 x3 x9 x10 x11
noncomputable def P_slices_Concat_Chunk_3_0 (x0 : List T_Rope) (x3 : Int) (x9 : List T_Rope) (x10 : Int) (x11 : Int) (nx0 : (List T_Rope) → Int → (List T_Rope) → Int → Int → Option Ret) (k0 : (List T_Rope) → Int → Option Ret) : Option Ret :=
 (bif (decide (x11 < x10)) then
 (bif ((decide ((0 : Int) ≤ x11)) && (decide (x11 < (((List.length x9) : Nat) : Int)))) then
  (bif (decide ((IntKind.wrap .i64 (x3 + (((List.length (List.getD x9 (Int.toNat x11) (ropeR.dflt))) : Nat) : Int))) < (0 : Int))) then
   none
   else (nx0 x0 (IntKind.wrap .i64 (x3 + (((List.length (List.getD x9 (Int.toNat x11) (ropeR.dflt))) : Nat) : Int))) x9 x10 (IntKind.wrap .i64 (x11 + (1 : Int)))))
  else none)
 else (k0 x0 x3))
noncomputable def Q_slices_Concat_Chunk_3_0 : Nat → (List T_Rope) → Int → (List T_Rope) → Int → Int → ((List T_Rope) → Int → Option Ret) → Option Ret
  | 0, _, _, _, _, _, _ => none
  | m + 1, x0, x3, x9, x10, x11, k0 => P_slices_Concat_Chunk_3_0 x0 x3 x9 x10 x11 (fun x0 x3 x9 x10 x11 => (Q_slices_Concat_Chunk_3_0 m x0 x3 x9 x10 x11 k0)) k0
noncomputable def R_slices_Concat_Chunk_3_0 (x0 : List T_Rope) (x3 : Int) (x9 : List T_Rope) (x10 : Int) (x11 : Int) (k0 : (List T_Rope) → Int → Option Ret) : Option Ret := Q_slices_Concat_Chunk_3_0 (List.length x0 + x3.toNat + List.length x9 + x10.toNat + x11.toNat + 2) x0 x3 x9 x10 x11 k0
noncomputable def W_slices_Concat_Chunk_3 : LoopFn := (fun (σ : St) (K : Ex → St → Option Ret) => (match sh_slices_Concat_Chunk_3_0.un σ with | some d => w_slices_Concat_Chunk_3_0 d (fun x0 x3 x9 x10 x11 => R_slices_Concat_Chunk_3_0 x0 x3 x9 x10 x11 (fun x0 x3 => (K (.ext 0) (z_slices_Concat_Chunk_3_0 x0 x3)))) | none => none))
def z_slices_Concat_Chunk_11_0 (o0 : List T_Piece) : St := { tm := ([.x, .x, .x, .x, .x, .x, (.w 0)] ++ List.replicate 29 .x), ob := [(0, (.arr true true pieceR o0))], nx := 1, io := [] }
def z_slices_Concat_Chunk_11_1 (o0 : List T_Piece) : St := { tm := ([.x, .x, .x, .x, .x, .x, (.w 0)] ++ List.replicate 29 .x), ob := [(0, (.arr true false pieceR o0))], nx := 1, io := [] }
def sh_slices_Concat_Chunk_11_0 : Ss := { tm := (.cons (.x) (.cons (.x) (.cons (.x) (.cons (.x) (.cons (.x) (.cons (.x) (.cons (.w 0) (.cons (.x) (.cons (.x) (.cons (.x) (.cons (.x) (.cons (.x) (.cons (.x) (.cons (.x) (.cons (.x) (.cons (.x) (.cons (.x) (.cons (.x) (.cons (.x) (.cons (.x) (.cons (.x) (.cons (.x) (.cons (.x) (.cons (.x) (.cons (.x) (.cons (.l .no ropeR) (.cons (.int .i64) (.cons (.int .i64) (xsh 8))))))))))))))))))))))))))))), ob := (.arr true true pieceR .nil), nx := 1, io := .nil }
def d_slices_Concat_Chunk_11_0 (x25 : List T_Rope) (x26 : Int) (x27 : Int) (o0 : List T_Piece) : sh_slices_Concat_Chunk_11_0.T := (((), ((), ((), ((), ((), ((), ((), ((), ((), ((), ((), ((), ((), ((), ((), ((), ((), ((), ((), ((), ((), ((), ((), ((), ((), (x25, (x26, (x27, xd 8)))))))))))))))))))))))))))), (o0, ()), ())
def s_slices_Concat_Chunk_11_0 (x25 : List T_Rope) (x26 : Int) (x27 : Int) (o0 : List T_Piece) : St := { tm := ([.x, .x, .x, .x, .x, .x, (.w 0), .x, .x, .x, .x, .x, .x, .x, .x, .x, .x, .x, .x, .x, .x, .x, .x, .x, .x, (.l .no ropeR x25), (.s (.int .i64 x26)), (.s (.int .i64 x27))] ++ List.replicate 8 .x), ob := [(0, (.arr true true pieceR o0))], nx := 1, io := [] }
theorem se_slices_Concat_Chunk_11_0 (x25 : List T_Rope) (x26 : Int) (x27 : Int) (o0 : List T_Piece) : sh_slices_Concat_Chunk_11_0.mk' (d_slices_Concat_Chunk_11_0 x25 x26 x27 o0) = (s_slices_Concat_Chunk_11_0 x25 x26 x27 o0) := by kernel_rfl
def w_slices_Concat_Chunk_11_0 (d : sh_slices_Concat_Chunk_11_0.T) (f : (List T_Rope) → Int → Int → (List T_Piece) → Option Ret) : Option Ret := match d with | ((_, (_, (_, (_, (_, (_, (_, (_, (_, (_, (_, (_, (_, (_, (_, (_, (_, (_, (_, (_, (_, (_, (_, (_, (_, (x25, (x26, (x27, _)))))))))))))))))))))))))))), (o0, _), _) => f x25 x26 x27 o0
noncomputable def P_slices_Concat_Chunk_11_0 (x25 : List T_Rope) (x26 : Int) (x27 : Int) (o0 : List T_Piece) (nx0 : (List T_Rope) → Int → Int → (List T_Piece) → Option Ret) (nx1 : (List T_Rope) → Int → Int → (List T_Piece) → Option Ret) (k0 : (List T_Piece) → Option Ret) (k1 : (List T_Piece) → Option Ret) : Option Ret :=
 (bif (decide (x27 < x26)) then
 (bif ((decide ((0 : Int) ≤ x27)) && (decide (x27 < (((List.length x25) : Nat) : Int)))) then
  (bif (Nat.ble (((List.length o0) + (List.length (List.getD x25 (Int.toNat x27) (ropeR.dflt)))) * 24) 140737488355328) then
   (nx1 x25 x26 (IntKind.wrap .i64 (x27 + (1 : Int))) (o0 ++ (List.getD x25 (Int.toNat x27) (ropeR.dflt))))
   else none)
  else none)
 else (k0 o0))
def sh_slices_Concat_Chunk_11_1 : Ss := { tm := (.cons (.x) (.cons (.x) (.cons (.x) (.cons (.x) (.cons (.x) (.cons (.x) (.cons (.w 0) (.cons (.x) (.cons (.x) (.cons (.x) (.cons (.x) (.cons (.x) (.cons (.x) (.cons (.x) (.cons (.x) (.cons (.x) (.cons (.x) (.cons (.x) (.cons (.x) (.cons (.x) (.cons (.x) (.cons (.x) (.cons (.x) (.cons (.x) (.cons (.x) (.cons (.l .no ropeR) (.cons (.int .i64) (.cons (.int .i64) (xsh 8))))))))))))))))))))))))))))), ob := (.arr true false pieceR .nil), nx := 1, io := .nil }
def d_slices_Concat_Chunk_11_1 (x25 : List T_Rope) (x26 : Int) (x27 : Int) (o0 : List T_Piece) : sh_slices_Concat_Chunk_11_1.T := (((), ((), ((), ((), ((), ((), ((), ((), ((), ((), ((), ((), ((), ((), ((), ((), ((), ((), ((), ((), ((), ((), ((), ((), ((), (x25, (x26, (x27, xd 8)))))))))))))))))))))))))))), (o0, ()), ())
def s_slices_Concat_Chunk_11_1 (x25 : List T_Rope) (x26 : Int) (x27 : Int) (o0 : List T_Piece) : St := { tm := ([.x, .x, .x, .x, .x, .x, (.w 0), .x, .x, .x, .x, .x, .x, .x, .x, .x, .x, .x, .x, .x, .x, .x, .x, .x, .x, (.l .no ropeR x25), (.s (.int .i64 x26)), (.s (.int .i64 x27))] ++ List.replicate 8 .x), ob := [(0, (.arr true false pieceR o0))], nx := 1, io := [] }
theorem se_slices_Concat_Chunk_11_1 (x25 : List T_Rope) (x26 : Int) (x27 : Int) (o0 : List T_Piece) : sh_slices_Concat_Chunk_11_1.mk' (d_slices_Concat_Chunk_11_1 x25 x26 x27 o0) = (s_slices_Concat_Chunk_11_1 x25 x26 x27 o0) := by kernel_rfl
def w_slices_Concat_Chunk_11_1 (d : sh_slices_Concat_Chunk_11_1.T) (f : (List T_Rope) → Int → Int → (List T_Piece) → Option Ret) : Option Ret := match d with | ((_, (_, (_, (_, (_, (_, (_, (_, (_, (_, (_, (_, (_, (_, (_, (_, (_, (_, (_, (_, (_, (_, (_, (_, (_, (x25, (x26, (x27, _)))))))))))))))))))))))))))), (o0, _), _) => f x25 x26 x27 o0
noncomputable def P_slices_Concat_Chunk_11_1 (x25 : List T_Rope) (x26 : Int) (x27 : Int) (o0 : List T_Piece) (nx0 : (List T_Rope) → Int → Int → (List T_Piece) → Option Ret) (nx1 : (List T_Rope) → Int → Int → (List T_Piece) → Option Ret) (k0 : (List T_Piece) → Option Ret) (k1 : (List T_Piece) → Option Ret) : Option Ret :=
 (bif (decide (x27 < x26)) then
 (bif ((decide ((0 : Int) ≤ x27)) && (decide (x27 < (((List.length x25) : Nat) : Int)))) then
  (bif (Nat.ble (((List.length o0) + (List.length (List.getD x25 (Int.toNat x27) (ropeR.dflt)))) * 24) 140737488355328) then
   (nx1 x25 x26 (IntKind.wrap .i64 (x27 + (1 : Int))) (o0 ++ (List.getD x25 (Int.toNat x27) (ropeR.dflt))))
   else none)
  else none)
 else (k1 o0))
mutual
noncomputable def Q_slices_Concat_Chunk_11_0 : Nat → (List T_Rope) → Int → Int → (List T_Piece) → ((List T_Piece) → Option Ret) → ((List T_Piece) → Option Ret) → Option Ret
  | 0, _, _, _, _, _, _ => none
  | m + 1, x25, x26, x27, o0, k0, k1 => P_slices_Concat_Chunk_11_0 x25 x26 x27 o0 (fun x25 x26 x27 o0 => (Q_slices_Concat_Chunk_11_0 m x25 x26 x27 o0 k0 k1)) (fun x25 x26 x27 o0 => (Q_slices_Concat_Chunk_11_1 m x25 x26 x27 o0 k0 k1)) k0 k1
noncomputable def Q_slices_Concat_Chunk_11_1 : Nat → (List T_Rope) → Int → Int → (List T_Piece) → ((List T_Piece) → Option Ret) → ((List T_Piece) → Option Ret) → Option Ret
  | 0, _, _, _, _, _, _ => none
  | m + 1, x25, x26, x27, o0, k0, k1 => P_slices_Concat_Chunk_11_1 x25 x26 x27 o0 (fun x25 x26 x27 o0 => (Q_slices_Concat_Chunk_11_0 m x25 x26 x27 o0 k0 k1)) (fun x25 x26 x27 o0 => (Q_slices_Concat_Chunk_11_1 m x25 x26 x27 o0 k0 k1)) k0 k1
end
noncomputable def R_slices_Concat_Chunk_11_0 (x25 : List T_Rope) (x26 : Int) (x27 : Int) (o0 : List T_Piece) (k0 : (List T_Piece) → Option Ret) (k1 : (List T_Piece) → Option Ret) : Option Ret := Q_slices_Concat_Chunk_11_0 (List.length x25 + x26.toNat + x27.toNat + List.length o0 + 2) x25 x26 x27 o0 k0 k1
noncomputable def R_slices_Concat_Chunk_11_1 (x25 : List T_Rope) (x26 : Int) (x27 : Int) (o0 : List T_Piece) (k0 : (List T_Piece) → Option Ret) (k1 : (List T_Piece) → Option Ret) : Option Ret := Q_slices_Concat_Chunk_11_1 (List.length x25 + x26.toNat + x27.toNat + List.length o0 + 2) x25 x26 x27 o0 k0 k1
noncomputable def W_slices_Concat_Chunk_11 : LoopFn := (fun (σ : St) (K : Ex → St → Option Ret) => (match sh_slices_Concat_Chunk_11_0.un σ with | some d => w_slices_Concat_Chunk_11_0 d (fun x25 x26 x27 o0 => R_slices_Concat_Chunk_11_0 x25 x26 x27 o0 (fun o0 => (K (.ext 2) (z_slices_Concat_Chunk_11_0 o0))) (fun o0 => (K (.ext 2) (z_slices_Concat_Chunk_11_1 o0)))) | none => (match sh_slices_Concat_Chunk_11_1.un σ with | some d => w_slices_Concat_Chunk_11_1 d (fun x25 x26 x27 o0 => R_slices_Concat_Chunk_11_1 x25 x26 x27 o0 (fun o0 => (K (.ext 2) (z_slices_Concat_Chunk_11_0 o0))) (fun o0 => (K (.ext 2) (z_slices_Concat_Chunk_11_1 o0)))) | none => none)))
noncomputable abbrev E_slices_Concat_Chunk : Env := En [(N.slices_Grow_Chunk, true, S_growN chunkR)] [] [(3, [0,3,9,10,11], [0,2,3], W_slices_Concat_Chunk_3), (11, [6,25,26,27], [2,6], W_slices_Concat_Chunk_11)] [] false 0 []
theorem st_slices_Concat_Chunk_3_0 (m : Nat) (x0 : List T_Rope) (x3 : Int) (x9 : List T_Rope) (x10 : Int) (x11 : Int) (K : Ex → St → Option Ret) : rounds (run E_slices_Concat_Chunk (bodyOf F.slices_Concat_Chunk 3)) [0,3,9,10,11] [0,2,3] (m + 1) (s_slices_Concat_Chunk_3_0 x0 x3 x9 x10 x11) K = P_slices_Concat_Chunk_3_0 x0 x3 x9 x10 x11 (fun x0 x3 x9 x10 x11 => (rounds (run E_slices_Concat_Chunk (bodyOf F.slices_Concat_Chunk 3)) [0,3,9,10,11] [0,2,3] m (s_slices_Concat_Chunk_3_0 x0 x3 x9 x10 x11) K)) (fun x0 x3 => (K (.ext 0) (z_slices_Concat_Chunk_3_0 x0 x3))) := by kernel_rfl
theorem q_slices_Concat_Chunk_3 (K : Ex → St → Option Ret) : ∀ m : Nat, (∀ (x0 : List T_Rope) (x3 : Int) (x9 : List T_Rope) (x10 : Int) (x11 : Int), rounds (run E_slices_Concat_Chunk (bodyOf F.slices_Concat_Chunk 3)) [0,3,9,10,11] [0,2,3] m (s_slices_Concat_Chunk_3_0 x0 x3 x9 x10 x11) K = Q_slices_Concat_Chunk_3_0 m x0 x3 x9 x10 x11 (fun x0 x3 => (K (.ext 0) (z_slices_Concat_Chunk_3_0 x0 x3))))
  | 0 => (fun _ _ _ _ _ => rfl)
  | m + 1 => (fun x0 x3 x9 x10 x11 => (by rw [st_slices_Concat_Chunk_3_0, show (fun x0 x3 x9 x10 x11 => (rounds (run E_slices_Concat_Chunk (bodyOf F.slices_Concat_Chunk 3)) [0,3,9,10,11] [0,2,3] m (s_slices_Concat_Chunk_3_0 x0 x3 x9 x10 x11) K)) = (fun x0 x3 x9 x10 x11 => (Q_slices_Concat_Chunk_3_0 m x0 x3 x9 x10 x11 (fun x0 x3 => (K (.ext 0) (z_slices_Concat_Chunk_3_0 x0 x3))))) from funext fun x0 => funext fun x3 => funext fun x9 => funext fun x10 => funext fun x11 => (q_slices_Concat_Chunk_3 K m) x0 x3 x9 x10 x11]; rfl))
theorem loopK_slices_Concat_Chunk_3 : LoopOk E_slices_Concat_Chunk (bodyOf F.slices_Concat_Chunk 3) := by
  refine loopW_ok (n := 3) (F := W_slices_Concat_Chunk_3) (by kernel_rfl) rfl (li := [0,3,9,10,11]) (lo := [0,2,3]) rfl (fun σ K r hr => ?_)
  unfold W_slices_Concat_Chunk_3 at hr
  split at hr
  · rename_i d hd
    rw [Ss.un_mk hd]
    exact ⟨_, ((congrArg (fun z => rounds (run E_slices_Concat_Chunk (bodyOf F.slices_Concat_Chunk 3)) [0,3,9,10,11] [0,2,3] _ z K) (se_slices_Concat_Chunk_3_0 _ _ _ _ _)).trans ((q_slices_Concat_Chunk_3 K _) _ _ _ _ _)).trans hr⟩
  · cases hr
theorem st_slices_Concat_Chunk_11_0 (m : Nat) (x25 : List T_Rope) (x26 : Int) (x27 : Int) (o0 : List T_Piece) (K : Ex → St → Option Ret) : rounds (run E_slices_Concat_Chunk (bodyOf F.slices_Concat_Chunk 11)) [6,25,26,27] [2,6] (m + 1) (s_slices_Concat_Chunk_11_0 x25 x26 x27 o0) K = P_slices_Concat_Chunk_11_0 x25 x26 x27 o0 (fun x25 x26 x27 o0 => (rounds (run E_slices_Concat_Chunk (bodyOf F.slices_Concat_Chunk 11)) [6,25,26,27] [2,6] m (s_slices_Concat_Chunk_11_0 x25 x26 x27 o0) K)) (fun x25 x26 x27 o0 => (rounds (run E_slices_Concat_Chunk (bodyOf F.slices_Concat_Chunk 11)) [6,25,26,27] [2,6] m (s_slices_Concat_Chunk_11_1 x25 x26 x27 o0) K)) (fun o0 => (K (.ext 2) (z_slices_Concat_Chunk_11_0 o0))) (fun o0 => (K (.ext 2) (z_slices_Concat_Chunk_11_1 o0))) := by kernel_rfl
theorem st_slices_Concat_Chunk_11_1 (m : Nat) (x25 : List T_Rope) (x26 : Int) (x27 : Int) (o0 : List T_Piece) (K : Ex → St → Option Ret) : rounds (run E_slices_Concat_Chunk (bodyOf F.slices_Concat_Chunk 11)) [6,25,26,27] [2,6] (m + 1) (s_slices_Concat_Chunk_11_1 x25 x26 x27 o0) K = P_slices_Concat_Chunk_11_1 x25 x26 x27 o0 (fun x25 x26 x27 o0 => (rounds (run E_slices_Concat_Chunk (bodyOf F.slices_Concat_Chunk 11)) [6,25,26,27] [2,6] m (s_slices_Concat_Chunk_11_0 x25 x26 x27 o0) K)) (fun x25 x26 x27 o0 => (rounds (run E_slices_Concat_Chunk (bodyOf F.slices_Concat_Chunk 11)) [6,25,26,27] [2,6] m (s_slices_Concat_Chunk_11_1 x25 x26 x27 o0) K)) (fun o0 => (K (.ext 2) (z_slices_Concat_Chunk_11_0 o0))) (fun o0 => (K (.ext 2) (z_slices_Concat_Chunk_11_1 o0))) := by kernel_rfl
theorem q_slices_Concat_Chunk_11 (K : Ex → St → Option Ret) : ∀ m : Nat, (∀ (x25 : List T_Rope) (x26 : Int) (x27 : Int) (o0 : List T_Piece), rounds (run E_slices_Concat_Chunk (bodyOf F.slices_Concat_Chunk 11)) [6,25,26,27] [2,6] m (s_slices_Concat_Chunk_11_0 x25 x26 x27 o0) K = Q_slices_Concat_Chunk_11_0 m x25 x26 x27 o0 (fun o0 => (K (.ext 2) (z_slices_Concat_Chunk_11_0 o0))) (fun o0 => (K (.ext 2) (z_slices_Concat_Chunk_11_1 o0)))) ∧ (∀ (x25 : List T_Rope) (x26 : Int) (x27 : Int) (o0 : List T_Piece), rounds (run E_slices_Concat_Chunk (bodyOf F.slices_Concat_Chunk 11)) [6,25,26,27] [2,6] m (s_slices_Concat_Chunk_11_1 x25 x26 x27 o0) K = Q_slices_Concat_Chunk_11_1 m x25 x26 x27 o0 (fun o0 => (K (.ext 2) (z_slices_Concat_Chunk_11_0 o0))) (fun o0 => (K (.ext 2) (z_slices_Concat_Chunk_11_1 o0))))
  | 0 => ⟨(fun _ _ _ _ => rfl), (fun _ _ _ _ => rfl)⟩
  | m + 1 => ⟨(fun x25 x26 x27 o0 => (by rw [st_slices_Concat_Chunk_11_0, show (fun x25 x26 x27 o0 => (rounds (run E_slices_Concat_Chunk (bodyOf F.slices_Concat_Chunk 11)) [6,25,26,27] [2,6] m (s_slices_Concat_Chunk_11_0 x25 x26 x27 o0) K)) = (fun x25 x26 x27 o0 => (Q_slices_Concat_Chunk_11_0 m x25 x26 x27 o0 (fun o0 => (K (.ext 2) (z_slices_Concat_Chunk_11_0 o0))) (fun o0 => (K (.ext 2) (z_slices_Concat_Chunk_11_1 o0))))) from funext fun x25 => funext fun x26 => funext fun x27 => funext fun o0 => (q_slices_Concat_Chunk_11 K m).1 x25 x26 x27 o0, show (fun x25 x26 x27 o0 => (rounds (run E_slices_Concat_Chunk (bodyOf F.slices_Concat_Chunk 11)) [6,25,26,27] [2,6] m (s_slices_Concat_Chunk_11_1 x25 x26 x27 o0) K)) = (fun x25 x26 x27 o0 => (Q_slices_Concat_Chunk_11_1 m x25 x26 x27 o0 (fun o0 => (K (.ext 2) (z_slices_Concat_Chunk_11_0 o0))) (fun o0 => (K (.ext 2) (z_slices_Concat_Chunk_11_1 o0))))) from funext fun x25 => funext fun x26 => funext fun x27 => funext fun o0 => (q_slices_Concat_Chunk_11 K m).2 x25 x26 x27 o0]; rfl)), (fun x25 x26 x27 o0 => (by rw [st_slices_Concat_Chunk_11_1, show (fun x25 x26 x27 o0 => (rounds (run E_slices_Concat_Chunk (bodyOf F.slices_Concat_Chunk 11)) [6,25,26,27] [2,6] m (s_slices_Concat_Chunk_11_0 x25 x26 x27 o0) K)) = (fun x25 x26 x27 o0 => (Q_slices_Concat_Chunk_11_0 m x25 x26 x27 o0 (fun o0 => (K (.ext 2) (z_slices_Concat_Chunk_11_0 o0))) (fun o0 => (K (.ext 2) (z_slices_Concat_Chunk_11_1 o0))))) from funext fun x25 => funext fun x26 => funext fun x27 => funext fun o0 => (q_slices_Concat_Chunk_11 K m).1 x25 x26 x27 o0, show (fun x25 x26 x27 o0 => (rounds (run E_slices_Concat_Chunk (bodyOf F.slices_Concat_Chunk 11)) [6,25,26,27] [2,6] m (s_slices_Concat_Chunk_11_1 x25 x26 x27 o0) K)) = (fun x25 x26 x27 o0 => (Q_slices_Concat_Chunk_11_1 m x25 x26 x27 o0 (fun o0 => (K (.ext 2) (z_slices_Concat_Chunk_11_0 o0))) (fun o0 => (K (.ext 2) (z_slices_Concat_Chunk_11_1 o0))))) from funext fun x25 => funext fun x26 => funext fun x27 => funext fun o0 => (q_slices_Concat_Chunk_11 K m).2 x25 x26 x27 o0]; rfl))⟩
theorem loopK_slices_Concat_Chunk_11 : LoopOk E_slices_Concat_Chunk (bodyOf F.slices_Concat_Chunk 11) := by
  refine loopW_ok (n := 11) (F := W_slices_Concat_Chunk_11) (by kernel_rfl) rfl (li := [6,25,26,27]) (lo := [2,6]) rfl (fun σ K r hr => ?_)
  unfold W_slices_Concat_Chunk_11 at hr
  split at hr
  · rename_i d hd
    rw [Ss.un_mk hd]
    exact ⟨_, ((congrArg (fun z => rounds (run E_slices_Concat_Chunk (bodyOf F.slices_Concat_Chunk 11)) [6,25,26,27] [2,6] _ z K) (se_slices_Concat_Chunk_11_0 _ _ _ _)).trans ((q_slices_Concat_Chunk_11 K _).1 _ _ _ _)).trans hr⟩
  · split at hr
    · rename_i d hd
      rw [Ss.un_mk hd]
      exact ⟨_, ((congrArg (fun z => rounds (run E_slices_Concat_Chunk (bodyOf F.slices_Concat_Chunk 11)) [6,25,26,27] [2,6] _ z K) (se_slices_Concat_Chunk_11_1 _ _ _ _)).trans ((q_slices_Concat_Chunk_11 K _).2 _ _ _ _)).trans hr⟩
    · cases hr
noncomputable def T_slices_Concat_Chunk (l : List (List T_Chunk)) (K : Ret → Option Ret) : Option Ret :=
 (R_slices_Concat_Chunk_3_0 l (0 : Int) l (((List.length l) : Nat) : Int) (0 : Int) (fun y0 y1 =>
 (bif ((decide ((0 : Int) ≤ y1)) && (decide (y1 ≤ (1099511627776 : Int)))) then
  (R_slices_Concat_Chunk_11_0 y0 (((List.length y0) : Nat) : Int) (0 : Int) [] (fun y2 =>
   K ((.l .deep pieceR y2), [])) (fun y3 =>
   K ((.l .top pieceR y3), [])))
  else none)))
theorem e_slices_Concat_Chunk (l : List (List T_Chunk)) (K : Ret → Option Ret) : evF E_slices_Concat_Chunk false F.slices_Concat_Chunk [.l .no (.one (.sl chunkR)) l] K = T_slices_Concat_Chunk l K := by kernel_rfl
def S_slices_Concat_Chunk : Sm := S_fnR [.l (.one (.sl chunkR))] (fun d => Nat.ble 1 d.1.length && Nat.ble d.1.length 1048576 && Nat.ble (sumW List.length d.1) 1048576) (fun d => (.l .top chunkR d.1.flatten, []))
theorem v_slices_Concat_Chunk (l : List (List T_Chunk)) (h : (Nat.ble 1 l.length && Nat.ble l.length 1048576 && Nat.ble (sumW List.length l) 1048576) = true) (K : Ret → Option Ret) : T_slices_Concat_Chunk l K = K (.l .top chunkR l.flatten, []) := by
  simp only [Bool.and_eq_true] at h
  have h1 := Nat.le_of_ble_eq_true h.1.1
  have h2 := Nat.le_of_ble_eq_true h.1.2
  have h3 := Nat.le_of_ble_eq_true h.2
  unfold T_slices_Concat_Chunk
  have q3 : ∀ (k : List (List T_Chunk) → Int → Option Ret) (m i : Nat), i ≤ l.length → l.length - i < m → Q_slices_Concat_Chunk_3_0 m l ((sumW List.length (l.take i) : Nat) : Int) l ((l.length : Nat) : Int) ((i : Nat) : Int) k = k l ((sumW List.length l : Nat) : Int) := by
    intro k m
    induction m with
    | zero => intro i _ hm; omega
    | succ m ih =>
      intro i hi hm
      show P_slices_Concat_Chunk_3_0 l _ l _ ((i : Nat) : Int) _ _ = _
      unfold P_slices_Concat_Chunk_3_0
      by_cases hlt : i < l.length
      · have hs : sumW List.length (List.take (i + 1) l) = sumW List.length (List.take i l) + List.length (l.getD i []) := sumW_take (g := List.length) (z := []) hlt
        have hle : sumW List.length (l.take (i + 1)) ≤ sumW List.length l := sumW_take_le
        have e0 : ∀ (z : List T_Chunk), l.getD i z = l.getD i [] := fun z => (getD_lt z hlt).trans (getD_lt [] hlt).symm
        rw [decide_eq_true (show ((i : Nat) : Int) < ((l.length : Nat) : Int) by omega), decide_eq_true (show (0 : Int) ≤ ((i : Nat) : Int) by omega), Int.toNat_natCast, wrap_nat (by omega), e0, wrap_in (n := ((sumW List.length (List.take i l) : Nat) : Int) + (((l.getD i []).length : Nat) : Int)) (by omega) (by omega), decide_eq_false (show ¬ ((sumW List.length (List.take i l) : Nat) : Int) + (((l.getD i []).length : Nat) : Int) < 0 by omega)]
        have := ih (i + 1) (by omega) (by omega)
        rw [hs, Int.natCast_add] at this
        exact this
      · obtain rfl : i = l.length := by omega
        rw [decide_eq_false (show ¬ ((l.length : Nat) : Int) < ((l.length : Nat) : Int) by omega), List.take_length]; rfl
  have q11 : ∀ (k0 k1 : List T_Chunk → Option Ret) (m i : Nat), i ≤ l.length → l.length - i < m → Q_slices_Concat_Chunk_11_1 m l ((l.length : Nat) : Int) ((i : Nat) : Int) (l.take i).flatten k0 k1 = k1 l.flatten := by
    intro k0 k1 m
    induction m with
    | zero => intro i _ hm; omega
    | succ m ih =>
      intro i hi hm
      show P_slices_Concat_Chunk_11_1 l _ ((i : Nat) : Int) _ _ _ _ _ = _
      unfold P_slices_Concat_Chunk_11_1
      by_cases hlt : i < l.length
      · have hs : sumW List.length (List.take (i + 1) l) = sumW List.length (List.take i l) + List.length (l.getD i []) := sumW_take (g := List.length) (z := []) hlt
        have hle : sumW List.length (l.take (i + 1)) ≤ sumW List.length l := sumW_take_le
        have hfl := sumW_flatten (l.take i)
        have e0 : ∀ (z : List T_Chunk), l.getD i z = l.getD i [] := fun z => (getD_lt z hlt).trans (getD_lt [] hlt).symm
        have hf2 : (l.take (i + 1)).flatten = (l.take i).flatten ++ l.getD i [] := flatten_take hlt
        rw [decide_eq_true (show ((i : Nat) : Int) < ((l.length : Nat) : Int) by omega), decide_eq_true (show (0 : Int) ≤ ((i : Nat) : Int) by omega), Int.toNat_natCast, wrap_nat (by omega), e0, Nat.ble_eq_true_of_le (by omega), ← hf2]
        exact ih (i + 1) (by omega) (by omega)
      · obtain rfl : i = l.length := by omega
        rw [decide_eq_false (show ¬ ((l.length : Nat) : Int) < ((l.length : Nat) : Int) by omega), List.take_length]; rfl
  have e3 := q3 (fun y0 y1 => (bif ((decide ((0 : Int) ≤ y1)) && (decide (y1 ≤ (1099511627776 : Int)))) then (R_slices_Concat_Chunk_11_0 y0 (((List.length y0) : Nat) : Int) (0 : Int) [] (fun y2 => K ((.l .deep pieceR y2), [])) (fun y3 => K ((.l .top pieceR y3), []))) else none)) (List.length l + (0 : Int).toNat + List.length l + (((List.length l) : Nat) : Int).toNat + (0 : Int).toNat + 2) 0 (by omega) (by omega)
  refine e3.trans ?_
  rw [decide_eq_true (show (0 : Int) ≤ ((sumW List.length l : Nat) : Int) by omega), decide_eq_true (show ((sumW List.length l : Nat) : Int) ≤ 1099511627776 by omega)]
  have hq : ∀ (m : Nat) (k0 k1 : List T_Chunk → Option Ret), Q_slices_Concat_Chunk_11_0 (m + 1) l ((l.length : Nat) : Int) 0 [] k0 k1 = P_slices_Concat_Chunk_11_0 l ((l.length : Nat) : Int) 0 [] (fun a b c d => Q_slices_Concat_Chunk_11_0 m a b c d k0 k1) (fun a b c d => Q_slices_Concat_Chunk_11_1 m a b c d k0 k1) k0 k1 := fun _ _ _ => rfl
  refine (hq (List.length l + (((List.length l) : Nat) : Int).toNat + (0 : Int).toNat + List.length ([] : List T_Chunk) + 1) _ _).trans ?_
  unfold P_slices_Concat_Chunk_11_0
  have e0 : ∀ (z : List T_Chunk), l.getD 0 z = l.getD 0 [] := fun z => (getD_lt z (by omega)).trans (getD_lt [] (by omega)).symm
  have hs : sumW List.length (List.take (0 + 1) l) = sumW List.length (List.take 0 l) + List.length (l.getD 0 []) := sumW_take (g := List.length) (z := []) (by omega)
  have hle : sumW List.length (l.take (0 + 1)) ≤ sumW List.length l := sumW_take_le
  have hf2 : (l.take (0 + 1)).flatten = (l.take 0).flatten ++ l.getD 0 [] := flatten_take (by omega)
  rw [decide_eq_true (show (0 : Int) < ((l.length : Nat) : Int) by omega), show Int.toNat 0 = 0 from rfl, e0, Nat.ble_eq_true_of_le (by simp only [List.length_nil]; omega)]
  have := q11 (fun y2 => K ((.l .deep pieceR y2), [])) (fun y3 => K ((.l .top pieceR y3), [])) (List.length l + (((List.length l) : Nat) : Int).toNat + (0 : Int).toNat + List.length ([] : List T_Chunk) + 1) 1 (by omega) (by omega)
  rw [hf2] at this
  exact this
theorem okS_slices_Concat_Chunk : OkFn prog I N.slices_Concat_Chunk false S_slices_Concat_Chunk := okN (ok_fn (memc okS_slices_Grow_Chunk mem0) (l := [(N.slices_Grow_Chunk, true, S_growN chunkR)]) (p := []) (ls := [(3, [0,3,9,10,11], [0,2,3], W_slices_Concat_Chunk_3), (11, [6,25,26,27], [2,6], W_slices_Concat_Chunk_11)]) (lend := []) (focus := false) (fuel := 0) (give := []) (fn := F.slices_Concat_Chunk) (by kernel_rfl) (by kernel_rfl) (by kernel_rfl) (by kernel_rfl) (cs := [bodyOf F.slices_Concat_Chunk 3, bodyOf F.slices_Concat_Chunk 11]) (by kernel_rfl) (loopsc loopK_slices_Concat_Chunk_3 (loopsc loopK_slices_Concat_Chunk_11 loops0))) (S_fnR_of fun d K h => (e_slices_Concat_Chunk d.1 K).trans (v_slices_Concat_Chunk d.1 h K))
end Go.Ev.Seat
end
section
/- i_in: its contract. -/
namespace Go.Ev.Seat
open Go.RowKit
set_option maxRecDepth 100000
set_option linter.unusedVariables false
set_option linter.unusedSimpArgs false
noncomputable abbrev E_i_in : Env := En [] [] [] [] false 0 []
noncomputable def T_i_in (n : Int) (low : Int) (high : Int) (K : Ret → Option Ret) : Option Ret :=
 (bif (decide (low ≤ n)) then
 K ((.s (.bool (decide (n ≤ high)))), [])
 else K ((.s (.bool false)), []))
theorem e_i_in (n : Int) (low : Int) (high : Int) (K : Ret → Option Ret) : evF E_i_in true F.i_in [.s (.int .i64 n), .s (.int .i64 low), .s (.int .i64 high)] K = T_i_in n low high K := by kernel_rfl
def S_i_in : Sm := S_fnR [.i, .i, .i] (fun d => true) (fun d => (bl (decide (d.2.1 ≤ d.1) && decide (d.1 ≤ d.2.2.1)), []))
theorem v_i_in (n : Int) (low : Int) (high : Int) (K : Ret → Option Ret) : T_i_in n low high K = K (bl (decide (low ≤ n) && decide (n ≤ high)), []) := by
  unfold T_i_in; cases decide (low ≤ n) <;> rfl
theorem okS_i_in : OkFn prog I N.i_in true S_i_in := okN (ok_fn mem0 (l := []) (p := []) (ls := []) (lend := []) (focus := false) (fuel := 0) (give := []) (fn := F.i_in) (by kernel_rfl) (by kernel_rfl) (by kernel_rfl) (by kernel_rfl) (cs := []) (by kernel_rfl) loops0) (S_fnR_of fun d K h => (e_i_in d.1 d.2.1 d.2.2.1 K).trans (v_i_in d.1 d.2.1 d.2.2.1 K))
end Go.Ev.Seat
end
section
/- utf8_word_bytes: its contract. -/
namespace Go.Ev.Seat
open Go.RowKit
set_option maxRecDepth 100000
set_option linter.unusedVariables false
set_option linter.unusedSimpArgs false
def w8 (p : List Int) : Int := bor .u64 (bor .u64 (bor .u64 (bor .u64 (bor .u64 (bor .u64 (bor .u64 (IntKind.wrap .u64 (p.getD 0 0)) (shlI .u64 (IntKind.wrap .u64 (p.getD 1 0)) 8)) (shlI .u64 (IntKind.wrap .u64 (p.getD 2 0)) 16)) (shlI .u64 (IntKind.wrap .u64 (p.getD 3 0)) 24)) (shlI .u64 (IntKind.wrap .u64 (p.getD 4 0)) 32)) (shlI .u64 (IntKind.wrap .u64 (p.getD 5 0)) 40)) (shlI .u64 (IntKind.wrap .u64 (p.getD 6 0)) 48)) (shlI .u64 (IntKind.wrap .u64 (p.getD 7 0)) 56)
noncomputable abbrev E_utf8_word_bytes : Env := En [] [(1, takes [0, 1, 2, 3, 4, 5, 6, 7, 8, 9, 10, 11, 12, 13, 14, 15, 16, 17, 18, 19, 20, 21, 22], []), (2, takes [0, 1, 2, 3, 4, 5, 6, 7, 8, 9, 10, 11, 12, 13, 14, 15, 16, 17, 18, 19, 20, 21, 22, 23, 24, 25, 26, 27, 28, 29, 30, 31, 32, 33, 34, 35, 36, 37, 38, 39, 40, 41, 42, 43, 44, 45, 46], [])] [] [] false 0 []
noncomputable def T_utf8_word_bytes (p : List Int) (K : Ret → Option Ret) : Option Ret :=
 (bif (decide ((0 : Int) < (((List.length p) : Nat) : Int))) then
 (bif (decide ((1 : Int) < (((List.length p) : Nat) : Int))) then
  (bif (decide ((2 : Int) < (((List.length p) : Nat) : Int))) then
   (bif (decide ((3 : Int) < (((List.length p) : Nat) : Int))) then
    (bif (decide ((4 : Int) < (((List.length p) : Nat) : Int))) then
     (bif (decide ((5 : Int) < (((List.length p) : Nat) : Int))) then
      (bif (decide ((6 : Int) < (((List.length p) : Nat) : Int))) then
       (bif (decide ((7 : Int) < (((List.length p) : Nat) : Int))) then
        K ((.s (.int .u64 (bor .u64 (bor .u64 (bor .u64 (bor .u64 (bor .u64 (bor .u64 (bor .u64 (IntKind.wrap .u64 (List.getD p 0 (0 : Int))) (shlI .u64 (IntKind.wrap .u64 (List.getD p 1 (0 : Int))) (8 : Int))) (shlI .u64 (IntKind.wrap .u64 (List.getD p 2 (0 : Int))) (16 : Int))) (shlI .u64 (IntKind.wrap .u64 (List.getD p 3 (0 : Int))) (24 : Int))) (shlI .u64 (IntKind.wrap .u64 (List.getD p 4 (0 : Int))) (32 : Int))) (shlI .u64 (IntKind.wrap .u64 (List.getD p 5 (0 : Int))) (40 : Int))) (shlI .u64 (IntKind.wrap .u64 (List.getD p 6 (0 : Int))) (48 : Int))) (shlI .u64 (IntKind.wrap .u64 (List.getD p 7 (0 : Int))) (56 : Int))))), [])
        else none)
       else none)
      else none)
     else none)
    else none)
   else none)
  else none)
 else none)
theorem e_utf8_word_bytes (p : List Int) (K : Ret → Option Ret) : evF E_utf8_word_bytes true F.utf8_word_bytes [.l .no bytesR p] K = T_utf8_word_bytes p K := by kernel_rfl
def S_utf8_word_bytes : Sm := S_fnR [.l bytesR] (fun d => Nat.ble 8 d.1.length) (fun d => (.s (.int .u64 (w8 d.1)), []))
theorem v_utf8_word_bytes (p : List Int) (h : (Nat.ble 8 p.length) = true) (K : Ret → Option Ret) : T_utf8_word_bytes p K = K (.s (.int .u64 (w8 p)), []) := by
  have h' := Nat.le_of_ble_eq_true h
  unfold T_utf8_word_bytes
  simp (disch := omega) only [decide_eq_true, Bool.true_and, cond_true]
  rfl
theorem okS_utf8_word_bytes : OkFn prog I N.utf8_word_bytes true S_utf8_word_bytes := okN (ok_fn mem0 (l := []) (p := [(1, takes [0, 1, 2, 3, 4, 5, 6, 7, 8, 9, 10, 11, 12, 13, 14, 15, 16, 17, 18, 19, 20, 21, 22], []), (2, takes [0, 1, 2, 3, 4, 5, 6, 7, 8, 9, 10, 11, 12, 13, 14, 15, 16, 17, 18, 19, 20, 21, 22, 23, 24, 25, 26, 27, 28, 29, 30, 31, 32, 33, 34, 35, 36, 37, 38, 39, 40, 41, 42, 43, 44, 45, 46], [])]) (ls := []) (lend := []) (focus := false) (fuel := 0) (give := []) (fn := F.utf8_word_bytes) (by kernel_rfl) (by kernel_rfl) (by kernel_rfl) (by kernel_rfl) (cs := []) (by kernel_rfl) loops0) (S_fnR_of fun d K h => (e_utf8_word_bytes d.1 K).trans (v_utf8_word_bytes d.1 h K))
end Go.Ev.Seat
end
section
/- utf8_Valid: its contract. -/
namespace Go.Ev.Seat
open Go.RowKit
set_option maxRecDepth 100000
set_option linter.unusedVariables false
set_option linter.unusedSimpArgs false
def z_utf8_Valid_10_0 (x0 : List Int) (x3 : Int) : St := { tm := ([(.l .no bytesR x0), .x, .x, (.s (.int .u8 x3))] ++ List.replicate 184 .x), ob := [], nx := 0, io := [] }
def sh_utf8_Valid_10_0 : Ss := { tm := (.cons (.l .no bytesR) (.cons (.x) (.cons (.x) (.cons (.int .u8) (xsh 184))))), ob := .nil, nx := 0, io := .nil }
def d_utf8_Valid_10_0 (x0 : List Int) (x3 : Int) : sh_utf8_Valid_10_0.T := ((x0, ((), ((), (x3, xd 184)))), (), ())
def s_utf8_Valid_10_0 (x0 : List Int) (x3 : Int) : St := { tm := ([(.l .no bytesR x0), .x, .x, (.s (.int .u8 x3))] ++ List.replicate 184 .x), ob := [], nx := 0, io := [] }
theorem se_utf8_Valid_10_0 (x0 : List Int) (x3 : Int) : sh_utf8_Valid_10_0.mk' (d_utf8_Valid_10_0 x0 x3) = (s_utf8_Valid_10_0 x0 x3) := by kernel_rfl
def w_utf8_Valid_10_0 (d : sh_utf8_Valid_10_0.T) (f : (List Int) → Int → Option Ret) : Option Ret := match d with | ((x0, (_, (_, (x3, _)))), _, _) => f x0 x3
noncomputable def P_utf8_Valid_10_0 (x0 : List Int) (x3 : Int) (nx0 : (List Int) → Int → Option Ret) (k0 : (List Int) → Int → Option Ret) : Option Ret :=
 (bif (decide ((((List.length x0) : Nat) : Int) > (32 : Int))) then
 (bif (decide ((8 : Int) ≤ (((List.length x0) : Nat) : Int))) then
  (bif (decide ((16 : Int) ≤ (((List.length x0) : Nat) : Int))) then
   (bif (decide ((24 : Int) ≤ (((List.length x0) : Nat) : Int))) then
    (bif (Nat.ble 8 (List.length x0)) then
     (bif (Nat.ble 8 (List.length (List.drop 8 x0))) then
      (bif (Nat.ble 8 (List.length (List.drop 16 x0))) then
       (bif (Nat.ble 8 (List.length (List.drop 24 x0))) then
        (bif ((band .u64 (bor .u64 (bor .u64 (w8 x0) (w8 (List.drop 8 x0))) (bor .u64 (w8 (List.drop 16 x0)) (w8 (List.drop 24 x0)))) (9259542123273814144 : Int)) == (0 : Int)) then
         (bif (decide ((32 : Int) ≤ (((List.length x0) : Nat) : Int))) then
          (nx0 (List.drop 32 x0) x3)
          else none)
         else (k0 x0 x3))
        else none)
       else none)
      else none)
     else none)
    else none)
   else none)
  else none)
 else (k0 x0 x3))
noncomputable def Q_utf8_Valid_10_0 : Nat → (List Int) → Int → ((List Int) → Int → Option Ret) → Option Ret
  | 0, _, _, _ => none
  | m + 1, x0, x3, k0 => P_utf8_Valid_10_0 x0 x3 (fun x0 x3 => (Q_utf8_Valid_10_0 m x0 x3 k0)) k0
noncomputable def R_utf8_Valid_10_0 (x0 : List Int) (x3 : Int) (k0 : (List Int) → Int → Option Ret) : Option Ret := Q_utf8_Valid_10_0 (List.length x0 + x3.toNat + 2) x0 x3 k0
noncomputable def W_utf8_Valid_10 : LoopFn := (fun (σ : St) (K : Ex → St → Option Ret) => (match sh_utf8_Valid_10_0.un σ with | some d => w_utf8_Valid_10_0 d (fun x0 x3 => R_utf8_Valid_10_0 x0 x3 (fun x0 x3 => (K (.ext 2) (z_utf8_Valid_10_0 x0 x3)))) | none => none))
def z_utf8_Valid_2_0 (x2 : Bool) : St := { tm := ([.x, .x, (.s (.bool x2))] ++ List.replicate 185 .x), ob := [], nx := 0, io := [] }
def z_utf8_Valid_2_1 : St := { tm := ([] ++ List.replicate 188 .x), ob := [], nx := 0, io := [] }
def sh_utf8_Valid_2_0 : Ss := { tm := (.cons (.l .no bytesR) (xsh 187)), ob := .nil, nx := 0, io := .nil }
def d_utf8_Valid_2_0 (x0 : List Int) : sh_utf8_Valid_2_0.T := ((x0, xd 187), (), ())
def s_utf8_Valid_2_0 (x0 : List Int) : St := { tm := ([(.l .no bytesR x0)] ++ List.replicate 187 .x), ob := [], nx := 0, io := [] }
theorem se_utf8_Valid_2_0 (x0 : List Int) : sh_utf8_Valid_2_0.mk' (d_utf8_Valid_2_0 x0) = (s_utf8_Valid_2_0 x0) := by kernel_rfl
def w_utf8_Valid_2_0 (d : sh_utf8_Valid_2_0.T) (f : (List Int) → Option Ret) : Option Ret := match d with | ((x0, _), _, _) => f x0
noncomputable def P_utf8_Valid_2_0 (x0 : List Int) (nx0 : (List Int) → Option Ret) (k0 : Bool → Option Ret) (k1 : Option Ret) : Option Ret :=
 (bif (decide ((((List.length x0) : Nat) : Int) > (0 : Int))) then
 (bif (decide ((0 : Int) < (((List.length x0) : Nat) : Int))) then
  (bif (decide ((List.getD x0 0 (0 : Int)) < (128 : Int))) then
   (bif (decide ((1 : Int) ≤ (((List.length x0) : Nat) : Int))) then
    (bif (decide ((((List.length (List.drop 1 x0)) : Nat) : Int) > (8 : Int))) then
     (bif (Nat.ble 8 (List.length (List.drop 1 x0))) then
      (bif ((band .u64 (w8 (List.drop 1 x0)) (9259542123273814144 : Int)) == (0 : Int)) then
       (bif (decide ((8 : Int) ≤ (((List.length (List.drop 1 x0)) : Nat) : Int))) then
        (bif (decide ((((List.length (List.drop 8 (List.drop 1 x0))) : Nat) : Int) > (16 : Int))) then
         (bif (decide ((8 : Int) ≤ (((List.length (List.drop 8 (List.drop 1 x0))) : Nat) : Int))) then
          (bif (Nat.ble 8 (List.length (List.drop 8 (List.drop 1 x0)))) then
           (bif (Nat.ble 8 (List.length (List.drop 8 (List.drop 8 (List.drop 1 x0))))) then
            (bif ((band .u64 (bor .u64 (w8 (List.drop 8 (List.drop 1 x0))) (w8 (List.drop 8 (List.drop 8 (List.drop 1 x0))))) (9259542123273814144 : Int)) == (0 : Int)) then
             (bif (decide ((16 : Int) ≤ (((List.length (List.drop 8 (List.drop 1 x0))) : Nat) : Int))) then
              (R_utf8_Valid_10_0 (List.drop 16 (List.drop 8 (List.drop 1 x0))) (List.getD x0 0 (0 : Int)) (fun y0 y1 =>
               (nx0 y0)))
              else none)
             else (nx0 (List.drop 8 (List.drop 1 x0))))
            else none)
           else none)
          else none)
         else (nx0 (List.drop 8 (List.drop 1 x0))))
        else none)
       else (nx0 (List.drop 1 x0)))
      else none)
     else (nx0 (List.drop 1 x0)))
    else none)
   else (bif ((decide ((0 : Int) ≤ (List.getD x0 0 (0 : Int)))) && (decide ((List.getD x0 0 (0 : Int)) < ((256 : Nat) : Int)))) then
    (bif (Nat.blt (Int.toNat (List.getD x0 0 (0 : Int))) (List.length utfFirst)) then
     (bif ((decide ((0 : Int) ≤ (shrI .u8 (List.getD utfFirst (Int.toNat (List.getD x0 0 (0 : Int))) (0 : Int)) (4 : Int)))) && (decide ((shrI .u8 (List.getD utfFirst (Int.toNat (List.getD x0 0 (0 : Int))) (0 : Int)) (4 : Int)) < ((16 : Nat) : Int)))) then
      (bif (Nat.blt (Int.toNat (shrI .u8 (List.getD utfFirst (Int.toNat (List.getD x0 0 (0 : Int))) (0 : Int)) (4 : Int))) (List.length utfAccept)) then
       (bif ((IntKind.wrap .i64 (band .u8 (List.getD utfFirst (Int.toNat (List.getD x0 0 (0 : Int))) (0 : Int)) (7 : Int))) == (2 : Int)) then
        (bif (decide ((((List.length x0) : Nat) : Int) < (2 : Int))) then
         (k0 false)
         else (bif (decide ((1 : Int) < (((List.length x0) : Nat) : Int))) then
          (bif (decide ((List.getD x0 1 (0 : Int)) < (List.getD utfAccept (Int.toNat (shrI .u8 (List.getD utfFirst (Int.toNat (List.getD x0 0 (0 : Int))) (0 : Int)) (4 : Int))) (accR.dflt)).1)) then
           (k0 false)
           else (bif (decide ((1 : Int) < (((List.length x0) : Nat) : Int))) then
            (bif (decide ((List.getD utfAccept (Int.toNat (shrI .u8 (List.getD utfFirst (Int.toNat (List.getD x0 0 (0 : Int))) (0 : Int)) (4 : Int))) (accR.dflt)).2 < (List.getD x0 1 (0 : Int)))) then
             (k0 false)
             else (bif (decide ((2 : Int) ≤ (((List.length x0) : Nat) : Int))) then
              (nx0 (List.drop 2 x0))
              else none))
            else none))
          else none))
        else (bif ((IntKind.wrap .i64 (band .u8 (List.getD utfFirst (Int.toNat (List.getD x0 0 (0 : Int))) (0 : Int)) (7 : Int))) == (3 : Int)) then
         (bif (decide ((((List.length x0) : Nat) : Int) < (3 : Int))) then
          (k0 false)
          else (bif (decide ((1 : Int) < (((List.length x0) : Nat) : Int))) then
           (bif (decide ((List.getD x0 1 (0 : Int)) < (List.getD utfAccept (Int.toNat (shrI .u8 (List.getD utfFirst (Int.toNat (List.getD x0 0 (0 : Int))) (0 : Int)) (4 : Int))) (accR.dflt)).1)) then
            (k0 false)
            else (bif (decide ((1 : Int) < (((List.length x0) : Nat) : Int))) then
             (bif (decide ((List.getD utfAccept (Int.toNat (shrI .u8 (List.getD utfFirst (Int.toNat (List.getD x0 0 (0 : Int))) (0 : Int)) (4 : Int))) (accR.dflt)).2 < (List.getD x0 1 (0 : Int)))) then
              (k0 false)
              else (bif (decide ((2 : Int) < (((List.length x0) : Nat) : Int))) then
               (bif (decide ((List.getD x0 2 (0 : Int)) < (128 : Int))) then
                (k0 false)
                else (bif (decide ((2 : Int) < (((List.length x0) : Nat) : Int))) then
                 (bif (decide ((191 : Int) < (List.getD x0 2 (0 : Int)))) then
                  (k0 false)
                  else (bif (decide ((3 : Int) ≤ (((List.length x0) : Nat) : Int))) then
                   (nx0 (List.drop 3 x0))
                   else none))
                 else none))
               else none))
             else none))
           else none))
         else (bif ((IntKind.wrap .i64 (band .u8 (List.getD utfFirst (Int.toNat (List.getD x0 0 (0 : Int))) (0 : Int)) (7 : Int))) == (4 : Int)) then
          (bif (decide ((((List.length x0) : Nat) : Int) < (4 : Int))) then
           (k0 false)
           else (bif (decide ((1 : Int) < (((List.length x0) : Nat) : Int))) then
            (bif (decide ((List.getD x0 1 (0 : Int)) < (List.getD utfAccept (Int.toNat (shrI .u8 (List.getD utfFirst (Int.toNat (List.getD x0 0 (0 : Int))) (0 : Int)) (4 : Int))) (accR.dflt)).1)) then
             (k0 false)
             else (bif (decide ((1 : Int) < (((List.length x0) : Nat) : Int))) then
              (bif (decide ((List.getD utfAccept (Int.toNat (shrI .u8 (List.getD utfFirst (Int.toNat (List.getD x0 0 (0 : Int))) (0 : Int)) (4 : Int))) (accR.dflt)).2 < (List.getD x0 1 (0 : Int)))) then
               (k0 false)
               else (bif (decide ((2 : Int) < (((List.length x0) : Nat) : Int))) then
                (bif (decide ((List.getD x0 2 (0 : Int)) < (128 : Int))) then
                 (k0 false)
                 else (bif (decide ((2 : Int) < (((List.length x0) : Nat) : Int))) then
                  (bif (decide ((191 : Int) < (List.getD x0 2 (0 : Int)))) then
                   (k0 false)
                   else (bif (decide ((3 : Int) < (((List.length x0) : Nat) : Int))) then
                    (bif (decide ((List.getD x0 3 (0 : Int)) < (128 : Int))) then
                     (k0 false)
                     else (bif (decide ((3 : Int) < (((List.length x0) : Nat) : Int))) then
                      (bif (decide ((191 : Int) < (List.getD x0 3 (0 : Int)))) then
                       (k0 false)
                       else (bif (decide ((4 : Int) ≤ (((List.length x0) : Nat) : Int))) then
                        (nx0 (List.drop 4 x0))
                        else none))
                      else none))
                    else none))
                  else none))
                else none))
              else none))
            else none))
          else (k0 false))))
       else none)
      else none)
     else none)
    else none))
  else none)
 else k1)
noncomputable def Q_utf8_Valid_2_0 : Nat → (List Int) → (Bool → Option Ret) → (Option Ret) → Option Ret
  | 0, _, _, _ => none
  | m + 1, x0, k0, k1 => P_utf8_Valid_2_0 x0 (fun x0 => (Q_utf8_Valid_2_0 m x0 k0 k1)) k0 k1
noncomputable def R_utf8_Valid_2_0 (x0 : List Int) (k0 : Bool → Option Ret) (k1 : Option Ret) : Option Ret := Q_utf8_Valid_2_0 (List.length x0 + 2) x0 k0 k1
noncomputable def W_utf8_Valid_2 : LoopFn := (fun (σ : St) (K : Ex → St → Option Ret) => (match sh_utf8_Valid_2_0.un σ with | some d => w_utf8_Valid_2_0 d (fun x0 => R_utf8_Valid_2_0 x0 (fun x2 => (K .ret (z_utf8_Valid_2_0 x2))) (K (.ext 0) z_utf8_Valid_2_1)) | none => none))
noncomputable abbrev E_utf8_Valid : Env := En [(N.utf8_word_bytes, true, S_utf8_word_bytes)] [(8, takeB [0, 1, 2, 3, 4, 6, 7] (.fork (.one 5 (.fork (.one 8 (takes [9, 10, 11, 12]))))), []), (10, takeB [0, 1, 2, 3, 4, 6, 7, 10, 11, 13, 14] (.fork (.one 5 (.fork (.one 8 (takeB [9] (.fork (.one 12 (.fork (.one 15 (takes [16, 17, 18, 19, 20])))))))))), []), (18, takes [0, 1, 2, 3, 4, 5, 6, 7, 8, 9, 10, 11, 12, 13, 14, 15, 16, 17, 18], []), (22, takes [0, 1, 2, 3, 4, 5, 6, 7, 8, 9, 10, 11, 12, 13, 14, 15, 16, 17, 18, 19, 20, 21, 22, 23, 24, 25, 26, 27, 28, 29, 30], []), (26, takes [0, 1, 2, 3, 4, 5, 6, 7, 8, 9, 10, 11, 12, 13, 14, 15, 16, 17, 18, 19, 20, 21, 22, 23, 24, 25, 26, 27, 28, 29, 30, 31, 32, 33, 34, 35, 36, 37, 38, 39, 40, 41, 42], [])] [(10, [0,3], [0,2,3], W_utf8_Valid_10), (2, [0], [2], W_utf8_Valid_2)] [] false 0 []
theorem st_utf8_Valid_10_0 (m : Nat) (x0 : List Int) (x3 : Int) (K : Ex → St → Option Ret) : rounds (run E_utf8_Valid (bodyOf F.utf8_Valid 10)) [0,3] [0,2,3] (m + 1) (s_utf8_Valid_10_0 x0 x3) K = P_utf8_Valid_10_0 x0 x3 (fun x0 x3 => (rounds (run E_utf8_Valid (bodyOf F.utf8_Valid 10)) [0,3] [0,2,3] m (s_utf8_Valid_10_0 x0 x3) K)) (fun x0 x3 => (K (.ext 2) (z_utf8_Valid_10_0 x0 x3))) := by kernel_rfl
theorem q_utf8_Valid_10 (K : Ex → St → Option Ret) : ∀ m : Nat, (∀ (x0 : List Int) (x3 : Int), rounds (run E_utf8_Valid (bodyOf F.utf8_Valid 10)) [0,3] [0,2,3] m (s_utf8_Valid_10_0 x0 x3) K = Q_utf8_Valid_10_0 m x0 x3 (fun x0 x3 => (K (.ext 2) (z_utf8_Valid_10_0 x0 x3))))
  | 0 => (fun _ _ => rfl)
  | m + 1 => (fun x0 x3 => (by rw [st_utf8_Valid_10_0, show (fun x0 x3 => (rounds (run E_utf8_Valid (bodyOf F.utf8_Valid 10)) [0,3] [0,2,3] m (s_utf8_Valid_10_0 x0 x3) K)) = (fun x0 x3 => (Q_utf8_Valid_10_0 m x0 x3 (fun x0 x3 => (K (.ext 2) (z_utf8_Valid_10_0 x0 x3))))) from funext fun x0 => funext fun x3 => (q_utf8_Valid_10 K m) x0 x3]; rfl))
theorem loopK_utf8_Valid_10 : LoopOk E_utf8_Valid (bodyOf F.utf8_Valid 10) := by
  refine loopW_ok (n := 10) (F := W_utf8_Valid_10) (by kernel_rfl) rfl (li := [0,3]) (lo := [0,2,3]) rfl (fun σ K r hr => ?_)
  unfold W_utf8_Valid_10 at hr
  split at hr
  · rename_i d hd
    rw [Ss.un_mk hd]
    exact ⟨_, ((congrArg (fun z => rounds (run E_utf8_Valid (bodyOf F.utf8_Valid 10)) [0,3] [0,2,3] _ z K) (se_utf8_Valid_10_0 _ _)).trans ((q_utf8_Valid_10 K _) _ _)).trans hr⟩
  · cases hr
theorem st_utf8_Valid_2_0 (m : Nat) (x0 : List Int) (K : Ex → St → Option Ret) : rounds (run E_utf8_Valid (bodyOf F.utf8_Valid 2)) [0] [2] (m + 1) (s_utf8_Valid_2_0 x0) K = P_utf8_Valid_2_0 x0 (fun x0 => (rounds (run E_utf8_Valid (bodyOf F.utf8_Valid 2)) [0] [2] m (s_utf8_Valid_2_0 x0) K)) (fun x2 => (K .ret (z_utf8_Valid_2_0 x2))) (K (.ext 0) z_utf8_Valid_2_1) := by kernel_rfl
theorem q_utf8_Valid_2 (K : Ex → St → Option Ret) : ∀ m : Nat, (∀ (x0 : List Int), rounds (run E_utf8_Valid (bodyOf F.utf8_Valid 2)) [0] [2] m (s_utf8_Valid_2_0 x0) K = Q_utf8_Valid_2_0 m x0 (fun x2 => (K .ret (z_utf8_Valid_2_0 x2))) (K (.ext 0) z_utf8_Valid_2_1))
  | 0 => (fun _ => rfl)
  | m + 1 => (fun x0 => (by rw [st_utf8_Valid_2_0, show (fun x0 => (rounds (run E_utf8_Valid (bodyOf F.utf8_Valid 2)) [0] [2] m (s_utf8_Valid_2_0 x0) K)) = (fun x0 => (Q_utf8_Valid_2_0 m x0 (fun x2 => (K .ret (z_utf8_Valid_2_0 x2))) (K (.ext 0) z_utf8_Valid_2_1))) from funext fun x0 => (q_utf8_Valid_2 K m) x0]; rfl))
theorem loopK_utf8_Valid_2 : LoopOk E_utf8_Valid (bodyOf F.utf8_Valid 2) := by
  refine loopW_ok (n := 2) (F := W_utf8_Valid_2) (by kernel_rfl) rfl (li := [0]) (lo := [2]) rfl (fun σ K r hr => ?_)
  unfold W_utf8_Valid_2 at hr
  split at hr
  · rename_i d hd
    rw [Ss.un_mk hd]
    exact ⟨_, ((congrArg (fun z => rounds (run E_utf8_Valid (bodyOf F.utf8_Valid 2)) [0] [2] _ z K) (se_utf8_Valid_2_0 _)).trans ((q_utf8_Valid_2 K _) _)).trans hr⟩
  · cases hr
noncomputable def T_utf8_Valid (p : List Int) (K : Ret → Option Ret) : Option Ret :=
 (bif ((decide ((((List.length p) : Nat) : Int) ≤ (((List.length p) : Nat) : Int))) && (decide ((((List.length p) : Nat) : Int) ≤ (((List.length p) : Nat) : Int)))) then
 (R_utf8_Valid_2_0 (List.drop 0 (List.take (List.length p) p)) (fun y2 =>
  K ((.s (.bool y2)), [])) (K ((.s (.bool true)), [])))
 else none)
theorem e_utf8_Valid (p : List Int) (K : Ret → Option Ret) : evF E_utf8_Valid true F.utf8_Valid [.l .no bytesR p] K = T_utf8_Valid p K := by kernel_rfl
theorem w8_nat {xs : List Int} (h : fitB xs = true) : ∃ W : Nat, w8 xs = (W : Int) ∧ W < 18446744073709551616 ∧ (W &&& M8 = 0 ↔ ∀ i, i < 8 → xs.getD i 0 < 128) := by
  have hb : ∀ i : Nat, ∃ n : Nat, xs.getD i 0 = (n : Int) ∧ n < 256 := fun i => by
    have := fitB_get h i
    exact ⟨(xs.getD i 0).toNat, by omega, by omega⟩
  obtain ⟨n0, e0, l0⟩ := hb 0
  obtain ⟨n1, e1, l1⟩ := hb 1
  obtain ⟨n2, e2, l2⟩ := hb 2
  obtain ⟨n3, e3, l3⟩ := hb 3
  obtain ⟨n4, e4, l4⟩ := hb 4
  obtain ⟨n5, e5, l5⟩ := hb 5
  obtain ⟨n6, e6, l6⟩ := hb 6
  obtain ⟨n7, e7, l7⟩ := hb 7
  have o : ∀ {a b : Nat}, a < 18446744073709551616 → b < 18446744073709551616 → a ||| b < 18446744073709551616 := fun ha hb => Nat.or_lt_two_pow (n := 64) ha hb
  have s0 : n0 < 18446744073709551616 := by omega
  have s1 := shl_lt l1 (show 1 < 8 by omega)
  have s2 := shl_lt l2 (show 2 < 8 by omega)
  have s3 := shl_lt l3 (show 3 < 8 by omega)
  have s4 := shl_lt l4 (show 4 < 8 by omega)
  have s5 := shl_lt l5 (show 5 < 8 by omega)
  have s6 := shl_lt l6 (show 6 < 8 by omega)
  have s7 := shl_lt l7 (show 7 < 8 by omega)
  refine ⟨((((((n0 ||| n1 * 2 ^ (8 * 1)) ||| n2 * 2 ^ (8 * 2)) ||| n3 * 2 ^ (8 * 3)) ||| n4 * 2 ^ (8 * 4)) ||| n5 * 2 ^ (8 * 5)) ||| n6 * 2 ^ (8 * 6)) ||| n7 * 2 ^ (8 * 7), ?_, o (o (o (o (o (o (o s0 s1) s2) s3) s4) s5) s6) s7, ?_⟩
  · unfold w8
    rw [e0, e1, e2, e3, e4, e5, e6, e7]
    rw [show (8 : Int) = ((8 * 1 : Nat) : Int) from rfl, show (16 : Int) = ((8 * 2 : Nat) : Int) from rfl, show (24 : Int) = ((8 * 3 : Nat) : Int) from rfl, show (32 : Int) = ((8 * 4 : Nat) : Int) from rfl, show (40 : Int) = ((8 * 5 : Nat) : Int) from rfl, show (48 : Int) = ((8 * 6 : Nat) : Int) from rfl, show (56 : Int) = ((8 * 7 : Nat) : Int) from rfl]
    rw [shl64 l1 (by omega), shl64 l2 (by omega), shl64 l3 (by omega), shl64 l4 (by omega), shl64 l5 (by omega), shl64 l6 (by omega), shl64 l7 (by omega), wrap64 s0]
    rw [bor64 s0 s1, bor64 (o s0 s1) s2, bor64 (o (o s0 s1) s2) s3, bor64 (o (o (o s0 s1) s2) s3) s4, bor64 (o (o (o (o s0 s1) s2) s3) s4) s5, bor64 (o (o (o (o (o s0 s1) s2) s3) s4) s5) s6, bor64 (o (o (o (o (o (o s0 s1) s2) s3) s4) s5) s6) s7]
  · rw [or_mask, or_mask, or_mask, or_mask, or_mask, or_mask, or_mask, hi_ok l1 (by omega), hi_ok l2 (by omega), hi_ok l3 (by omega), hi_ok l4 (by omega), hi_ok l5 (by omega), hi_ok l6 (by omega), hi_ok l7 (by omega)]
    have h0 := hi_ok l0 (show 0 < 8 by omega)
    rw [show n0 * 2 ^ (8 * 0) = n0 by simp] at h0
    rw [h0]
    constructor
    · intro hh i hi
      have hc : i = 0 ∨ i = 1 ∨ i = 2 ∨ i = 3 ∨ i = 4 ∨ i = 5 ∨ i = 6 ∨ i = 7 := by omega
      rcases hc with rfl | rfl | rfl | rfl | rfl | rfl | rfl | rfl
      · rw [e0]; omega
      · rw [e1]; omega
      · rw [e2]; omega
      · rw [e3]; omega
      · rw [e4]; omega
      · rw [e5]; omega
      · rw [e6]; omega
      · rw [e7]; omega
    · intro hh
      have g0 := hh 0 (by omega)
      have g1 := hh 1 (by omega)
      have g2 := hh 2 (by omega)
      have g3 := hh 3 (by omega)
      have g4 := hh 4 (by omega)
      have g5 := hh 5 (by omega)
      have g6 := hh 6 (by omega)
      have g7 := hh 7 (by omega)
      rw [e0] at g0; rw [e1] at g1; rw [e2] at g2; rw [e3] at g3; rw [e4] at g4; rw [e5] at g5; rw [e6] at g6; rw [e7] at g7
      omega
theorem mask1 {xs : List Int} (h : fitB xs = true) (hm : (band .u64 (w8 xs) (9259542123273814144 : Int) == (0 : Int)) = true) : ∀ i, i < 8 → xs.getD i 0 < 128 := by
  obtain ⟨W, e, l, hw⟩ := w8_nat h
  rw [e, show (9259542123273814144 : Int) = ((M8 : Nat) : Int) from rfl, band64 l (by decide), beq_iff_eq] at hm
  exact hw.1 (by omega)
theorem mask2 {xs ys : List Int} (h : fitB xs = true) (h2 : fitB ys = true) (hm : (band .u64 (bor .u64 (w8 xs) (w8 ys)) (9259542123273814144 : Int) == (0 : Int)) = true) : (∀ i, i < 8 → xs.getD i 0 < 128) ∧ ∀ i, i < 8 → ys.getD i 0 < 128 := by
  obtain ⟨W, e, l, hw⟩ := w8_nat h
  obtain ⟨V, e2, l2, hv⟩ := w8_nat h2
  rw [e, e2, bor64 l l2, show (9259542123273814144 : Int) = ((M8 : Nat) : Int) from rfl, band64 (Nat.or_lt_two_pow (n := 64) l l2) (by decide), beq_iff_eq] at hm
  have : (W ||| V) &&& M8 = 0 := by omega
  rw [or_mask] at this
  exact ⟨hw.1 this.1, hv.1 this.2⟩
theorem mask4 {a b c d : List Int} (ha : fitB a = true) (hb : fitB b = true) (hc : fitB c = true) (hd : fitB d = true) (hm : (band .u64 (bor .u64 (bor .u64 (w8 a) (w8 b)) (bor .u64 (w8 c) (w8 d))) (9259542123273814144 : Int) == (0 : Int)) = true) :
    (∀ i, i < 8 → a.getD i 0 < 128) ∧ (∀ i, i < 8 → b.getD i 0 < 128) ∧ (∀ i, i < 8 → c.getD i 0 < 128) ∧ ∀ i, i < 8 → d.getD i 0 < 128 := by
  obtain ⟨A, e1, l1, h1⟩ := w8_nat ha
  obtain ⟨B, e2, l2, h2⟩ := w8_nat hb
  obtain ⟨C, e3, l3, h3⟩ := w8_nat hc
  obtain ⟨D, e4, l4, h4⟩ := w8_nat hd
  have o : ∀ {a b : Nat}, a < 18446744073709551616 → b < 18446744073709551616 → a ||| b < 18446744073709551616 := fun ha hb => Nat.or_lt_two_pow (n := 64) ha hb
  rw [e1, e2, e3, e4, bor64 l1 l2, bor64 l3 l4, bor64 (o l1 l2) (o l3 l4), show (9259542123273814144 : Int) = ((M8 : Nat) : Int) from rfl, band64 (o (o l1 l2) (o l3 l4)) (by decide), beq_iff_eq] at hm
  have : ((A ||| B) ||| (C ||| D)) &&& M8 = 0 := by omega
  rw [or_mask, or_mask, or_mask] at this
  exact ⟨h1.1 this.1.1, h2.1 this.1.2, h3.1 this.2.1, h4.1 this.2.2⟩
theorem ascii_more {xs : List Int} {n m : Nat} (h1 : ∀ i, i < n → xs.getD i 0 < 128) (h2 : ∀ i, i < m → (xs.drop n).getD i 0 < 128) : ∀ i, i < n + m → xs.getD i 0 < 128 := fun i hi => by
  by_cases h : i < n
  · exact h1 i h
  · have := h2 (i - n) (by omega)
    rw [getD_drop, show n + (i - n) = i by omega] at this
    exact this
theorem loop10 (k0 : List Int → Int → Option Ret) (x3 : Int) : ∀ (m : Nat) (xs : List Int), fitB xs = true → xs.length < m → ∃ ys, fitB ys = true ∧ ys.length ≤ xs.length ∧ valid ys = valid xs ∧ Q_utf8_Valid_10_0 m xs x3 k0 = k0 ys x3
  | 0, xs, _, h => absurd h (by omega)
  | m + 1, xs, hf, hl => by
    show ∃ ys, fitB ys = true ∧ ys.length ≤ xs.length ∧ valid ys = valid xs ∧ P_utf8_Valid_10_0 xs x3 _ k0 = k0 ys x3
    unfold P_utf8_Valid_10_0
    by_cases h32 : ((xs.length : Nat) : Int) > 32
    · simp (disch := omega) only [decide_eq_true, decide_eq_false, Bool.true_and, cond_true, List.length_drop, Nat.ble_eq_true_of_le]
      cases hm : (band .u64 (bor .u64 (bor .u64 (w8 xs) (w8 (List.drop 8 xs))) (bor .u64 (w8 (List.drop 16 xs)) (w8 (List.drop 24 xs)))) (9259542123273814144 : Int) == (0 : Int)) with
      | false => exact ⟨xs, hf, Nat.le_refl _, rfl, rfl⟩
      | true =>
        obtain ⟨a1, a2, a3, a4⟩ := mask4 hf (fitB_drop hf 8) (fitB_drop hf 16) (fitB_drop hf 24) hm
        have a := ascii_more (n := 24) (ascii_more (n := 16) (ascii_more (n := 8) a1 a2) a3) a4
        obtain ⟨ys, g1, g2, g3, g4⟩ := loop10 k0 x3 m (List.drop 32 xs) (fitB_drop hf 32) (by simp; omega)
        exact ⟨ys, g1, by simp at g2; omega, g3.trans (valid_drop 32 (by omega) a), g4⟩
    · rw [decide_eq_false h32]
      exact ⟨xs, hf, Nat.le_refl _, rfl, rfl⟩
theorem step2 (x0 : List Int) (hx : fitB x0 = true) (nx : List Int → Option Ret) (k0 : Bool → Option Ret) (k1 RES : Option Ret)
    (hn : ∀ ys, fitB ys = true → ys.length < x0.length → valid ys = valid x0 → nx ys = RES) (h1 : valid x0 = true → k1 = RES) (h0 : valid x0 = false → k0 false = RES) : P_utf8_Valid_2_0 x0 nx k0 k1 = RES := by
  unfold P_utf8_Valid_2_0
  by_cases hl : ((x0.length : Nat) : Int) > 0
  case neg =>
    rw [decide_eq_false hl]
    have : x0 = [] := List.length_eq_zero_iff.1 (by omega)
    exact h1 (by rw [this]; exact valid_nil)
  case pos =>
  have hb := fitB_get hx 0
  by_cases hb1 : x0.getD 0 0 < 128
  · have hd : ∀ n, 1 ≤ n → n ≤ x0.length → (∀ i, i < n → x0.getD i 0 < 128) → nx (x0.drop n) = RES := fun n hn1 hn2 ha => hn _ (fitB_drop hx n) (by simp; omega) (valid_drop n hn2 ha)
    have a0 : ∀ i, i < 1 → x0.getD i 0 < 128 := fun i hi => by rw [show i = 0 by omega]; exact hb1
    simp (disch := omega) only [decide_eq_true, Bool.true_and, cond_true, List.length_drop, List.drop_drop]
    by_cases h9 : ((x0.length - 1 : Nat) : Int) > 8
    case neg => rw [decide_eq_false h9]; exact hd 1 (by omega) (by omega) a0
    rw [decide_eq_true h9, Nat.ble_eq_true_of_le (show 8 ≤ x0.length - 1 by omega)]
    cases hm : (band .u64 (w8 (List.drop 1 x0)) (9259542123273814144 : Int) == (0 : Int)) with
    | false => exact hd 1 (by omega) (by omega) a0
    | true =>
    have a9 := ascii_more a0 (mask1 (fitB_drop hx 1) hm)
    rw [decide_eq_true (show (8 : Int) ≤ ((x0.length - 1 : Nat) : Int) by omega)]
    simp only [cond_true]
    by_cases h17 : ((x0.length - (1 + 8) : Nat) : Int) > 16
    case neg => rw [decide_eq_false h17]; exact hd 9 (by omega) (by omega) a9
    simp (disch := omega) only [decide_eq_true, Nat.ble_eq_true_of_le, Bool.true_and, cond_true]
    cases hm2 : (band .u64 (bor .u64 (w8 (List.drop (1 + 8) x0)) (w8 (List.drop (1 + 8 + 8) x0))) (9259542123273814144 : Int) == (0 : Int)) with
    | false => exact hd 9 (by omega) (by omega) a9
    | true =>
    obtain ⟨m1, m2⟩ := mask2 (fitB_drop hx _) (fitB_drop hx _) hm2
    have a25 := ascii_more (ascii_more a9 m1) m2
    unfold R_utf8_Valid_10_0
    obtain ⟨ys, g1, g2, g3, g4⟩ := loop10 (fun y0 y1 => nx y0) (x0.getD 0 0) ((List.drop (1 + 8 + 16) x0).length + (x0.getD 0 0).toNat + 2) (List.drop (1 + 8 + 16) x0) (fitB_drop hx _) (by omega)
    refine g4.trans (hn ys g1 ?_ (g3.trans (valid_drop 25 (by omega) a25)))
    simp at g2; omega
  · have hsh := first_sh hb.1 hb.2
    have hlen := first_len
    have hacc := accept_len
    have e1 : shrI .u8 (List.getD utfFirst (Int.toNat (List.getD x0 0 (0 : Int))) (0 : Int)) (4 : Int) = fsh (x0.getD 0 0) := rfl
    have e2 : IntKind.wrap .i64 (band .u8 (List.getD utfFirst (Int.toNat (List.getD x0 0 (0 : Int))) (0 : Int)) (7 : Int)) = fsz (x0.getD 0 0) := rfl
    have e3 : List.getD utfAccept (Int.toNat (fsh (x0.getD 0 0))) (Seat.accR.dflt) = fac (x0.getD 0 0) := rfl
    rw [e1, e2, e3]
    have c1 : Nat.blt (Int.toNat (List.getD x0 0 (0 : Int))) (List.length utfFirst) = true := by rw [hlen, Nat.blt_eq]; omega
    have c2 : Nat.blt (Int.toNat (fsh (x0.getD 0 0))) (List.length utfAccept) = true := by rw [hacc, Nat.blt_eq]; omega
    rw [c1, c2]
    simp (disch := omega) only [decide_eq_true, decide_eq_false, Bool.true_and, cond_true, cond_false]
    have stop : runeSz x0 = 0 → k0 false = RES := fun h => h0 (valid_stop h (by omega))
    have go : ∀ n, runeSz x0 = n → 1 ≤ n → nx (x0.drop n) = RES := fun n h hn1 => by
      subst h
      exact hn _ (fitB_drop hx _) (by have := runeSz_le x0; simp; omega) (valid_step (by omega)).symm
    by_cases r1 : x0.getD 0 0 < 194 ∨ 245 ≤ x0.getD 0 0
    · rw [first_1 (by omega) hb.2 r1]
      refine stop ?_
      unfold runeSz
      repeat' split
      all_goals first | omega | rfl
    by_cases r2 : x0.getD 0 0 < 224
    · obtain ⟨f1, f2⟩ := first_2 (by omega) r2
      rw [f1, f2]
      have er : runeSz x0 = if 2 ≤ x0.length ∧ 128 ≤ x0.getD 1 0 ∧ x0.getD 1 0 ≤ 191 then 2 else 0 := by
        unfold runeSz; rw [if_neg (by omega), if_neg (by omega), if_neg (by omega), if_pos r2]
      simp only [BEq.rfl, cond_true]
      by_cases c : ((x0.length : Nat) : Int) < 2
      · rw [decide_eq_true c]; exact stop (by rw [er, if_neg (by omega)])
      rw [decide_eq_false c, decide_eq_true (show (1 : Int) < ((x0.length : Nat) : Int) by omega)]
      simp only [cond_true, cond_false]
      by_cases d1 : x0.getD 1 0 < 128
      · rw [decide_eq_true d1]; exact stop (by rw [er, if_neg (by omega)])
      by_cases d2 : 191 < x0.getD 1 0
      · rw [decide_eq_false d1, decide_eq_true d2]; exact stop (by rw [er, if_neg (by omega)])
      rw [decide_eq_false d1, decide_eq_false d2, decide_eq_true (show (2 : Int) ≤ ((x0.length : Nat) : Int) by omega)]
      exact go 2 (by rw [er, if_pos (by omega)]) (by omega)
    by_cases r3 : x0.getD 0 0 < 240
    · obtain ⟨f1, f2⟩ := first_3 (by omega) r3
      rw [f1, f2]
      have er : runeSz x0 = if 3 ≤ x0.length ∧ lo3 (x0.getD 0 0) ≤ x0.getD 1 0 ∧ x0.getD 1 0 ≤ hi3 (x0.getD 0 0) ∧ 128 ≤ x0.getD 2 0 ∧ x0.getD 2 0 ≤ 191 then 3 else 0 := by
        unfold runeSz; rw [if_neg (by omega), if_neg (by omega), if_neg (by omega), if_neg (by omega), if_pos r3]
      rw [show ((3 : Int) == 2) = false from rfl]
      simp only [BEq.rfl, cond_true, cond_false]
      by_cases c : ((x0.length : Nat) : Int) < 3
      · rw [decide_eq_true c]; exact stop (by rw [er, if_neg (by omega)])
      rw [decide_eq_false c, decide_eq_true (show (1 : Int) < ((x0.length : Nat) : Int) by omega), decide_eq_true (show (2 : Int) < ((x0.length : Nat) : Int) by omega), decide_eq_true (show (3 : Int) ≤ ((x0.length : Nat) : Int) by omega)]
      simp only [cond_true, cond_false]
      by_cases d1 : x0.getD 1 0 < lo3 (x0.getD 0 0)
      · rw [decide_eq_true d1]; exact stop (by rw [er, if_neg (by omega)])
      by_cases d2 : hi3 (x0.getD 0 0) < x0.getD 1 0
      · rw [decide_eq_false d1, decide_eq_true d2]; exact stop (by rw [er, if_neg (by omega)])
      by_cases d3 : x0.getD 2 0 < 128
      · rw [decide_eq_false d1, decide_eq_false d2, decide_eq_true d3]; exact stop (by rw [er, if_neg (by omega)])
      by_cases d4 : 191 < x0.getD 2 0
      · rw [decide_eq_false d1, decide_eq_false d2, decide_eq_false d3, decide_eq_true d4]; exact stop (by rw [er, if_neg (by omega)])
      rw [decide_eq_false d1, decide_eq_false d2, decide_eq_false d3, decide_eq_false d4]
      exact go 3 (by rw [er, if_pos (by omega)]) (by omega)
    · obtain ⟨f1, f2⟩ := first_4 (b := x0.getD 0 0) (by omega) (by omega)
      rw [f1, f2]
      have er : runeSz x0 = if 4 ≤ x0.length ∧ lo4 (x0.getD 0 0) ≤ x0.getD 1 0 ∧ x0.getD 1 0 ≤ hi4 (x0.getD 0 0) ∧ 128 ≤ x0.getD 2 0 ∧ x0.getD 2 0 ≤ 191 ∧ 128 ≤ x0.getD 3 0 ∧ x0.getD 3 0 ≤ 191 then 4 else 0 := by
        unfold runeSz; rw [if_neg (by omega), if_neg (by omega), if_neg (by omega), if_neg (by omega), if_neg r3, if_pos (by omega)]
      rw [show ((4 : Int) == 2) = false from rfl, show ((4 : Int) == 3) = false from rfl]
      simp only [BEq.rfl, cond_true, cond_false]
      by_cases c : ((x0.length : Nat) : Int) < 4
      · rw [decide_eq_true c]; exact stop (by rw [er, if_neg (by omega)])
      rw [decide_eq_false c, decide_eq_true (show (1 : Int) < ((x0.length : Nat) : Int) by omega), decide_eq_true (show (2 : Int) < ((x0.length : Nat) : Int) by omega), decide_eq_true (show (3 : Int) < ((x0.length : Nat) : Int) by omega), decide_eq_true (show (4 : Int) ≤ ((x0.length : Nat) : Int) by omega)]
      simp only [cond_true, cond_false]
      by_cases d1 : x0.getD 1 0 < lo4 (x0.getD 0 0)
      · rw [decide_eq_true d1]; exact stop (by rw [er, if_neg (by omega)])
      by_cases d2 : hi4 (x0.getD 0 0) < x0.getD 1 0
      · rw [decide_eq_false d1, decide_eq_true d2]; exact stop (by rw [er, if_neg (by omega)])
      by_cases d3 : x0.getD 2 0 < 128
      · rw [decide_eq_false d1, decide_eq_false d2, decide_eq_true d3]; exact stop (by rw [er, if_neg (by omega)])
      by_cases d4 : 191 < x0.getD 2 0
      · rw [decide_eq_false d1, decide_eq_false d2, decide_eq_false d3, decide_eq_true d4]; exact stop (by rw [er, if_neg (by omega)])
      by_cases d5 : x0.getD 3 0 < 128
      · rw [decide_eq_false d1, decide_eq_false d2, decide_eq_false d3, decide_eq_false d4, decide_eq_true d5]; exact stop (by rw [er, if_neg (by omega)])
      by_cases d6 : 191 < x0.getD 3 0
      · rw [decide_eq_false d1, decide_eq_false d2, decide_eq_false d3, decide_eq_false d4, decide_eq_false d5, decide_eq_true d6]; exact stop (by rw [er, if_neg (by omega)])
      rw [decide_eq_false d1, decide_eq_false d2, decide_eq_false d3, decide_eq_false d4, decide_eq_false d5, decide_eq_false d6]
      exact go 4 (by rw [er, if_pos (by omega)]) (by omega)
theorem loop2 (k0 : Bool → Option Ret) (k1 : Option Ret) : ∀ (m : Nat) (xs : List Int), fitB xs = true → xs.length < m → Q_utf8_Valid_2_0 m xs k0 k1 = bif valid xs then k1 else k0 false
  | 0, xs, _, h => absurd h (by omega)
  | m + 1, xs, hf, hl => by
    show P_utf8_Valid_2_0 xs _ k0 k1 = _
    refine step2 xs hf _ k0 k1 _ (fun ys h1 h2 h3 => ?_) (fun h => by rw [h]; rfl) (fun h => by rw [h]; rfl)
    have := loop2 k0 k1 m ys h1 (by omega)
    rw [h3] at this
    exact this
def S_utf8_Valid : Sm := S_fnR [.l bytesR] (fun d => fitB d.1) (fun d => (bl (valid d.1), []))
theorem v_utf8_Valid (p : List Int) (h : (fitB p) = true) (K : Ret → Option Ret) : T_utf8_Valid p K = K (bl (valid p), []) := by
  unfold T_utf8_Valid R_utf8_Valid_2_0
  rw [decide_eq_true (Int.le_refl _), List.take_length]
  simp only [Bool.true_and, cond_true, List.drop_zero]
  rw [loop2 _ _ _ p h (by omega)]
  cases valid p <;> rfl
theorem okS_utf8_Valid : OkFn prog I N.utf8_Valid true S_utf8_Valid := okN (ok_fn (memc okS_utf8_word_bytes mem0) (l := [(N.utf8_word_bytes, true, S_utf8_word_bytes)]) (p := [(8, takeB [0, 1, 2, 3, 4, 6, 7] (.fork (.one 5 (.fork (.one 8 (takes [9, 10, 11, 12]))))), []), (10, takeB [0, 1, 2, 3, 4, 6, 7, 10, 11, 13, 14] (.fork (.one 5 (.fork (.one 8 (takeB [9] (.fork (.one 12 (.fork (.one 15 (takes [16, 17, 18, 19, 20])))))))))), []), (18, takes [0, 1, 2, 3, 4, 5, 6, 7, 8, 9, 10, 11, 12, 13, 14, 15, 16, 17, 18], []), (22, takes [0, 1, 2, 3, 4, 5, 6, 7, 8, 9, 10, 11, 12, 13, 14, 15, 16, 17, 18, 19, 20, 21, 22, 23, 24, 25, 26, 27, 28, 29, 30], []), (26, takes [0, 1, 2, 3, 4, 5, 6, 7, 8, 9, 10, 11, 12, 13, 14, 15, 16, 17, 18, 19, 20, 21, 22, 23, 24, 25, 26, 27, 28, 29, 30, 31, 32, 33, 34, 35, 36, 37, 38, 39, 40, 41, 42], [])]) (ls := [(10, [0,3], [0,2,3], W_utf8_Valid_10), (2, [0], [2], W_utf8_Valid_2)]) (lend := []) (focus := false) (fuel := 0) (give := []) (fn := F.utf8_Valid) (by kernel_rfl) (by kernel_rfl) (by kernel_rfl) (by kernel_rfl) (cs := [bodyOf F.utf8_Valid 2, bodyOf F.utf8_Valid 10]) (by kernel_rfl) (loopsc loopK_utf8_Valid_2 (loopsc loopK_utf8_Valid_10 loops0))) (S_fnR_of fun d K h => (e_utf8_Valid d.1 K).trans (v_utf8_Valid d.1 h K))
end Go.Ev.Seat
end
section
/- i_isChunk: its contract. -/
namespace Go.Ev.Seat
open Go.RowKit
set_option maxRecDepth 100000
set_option linter.unusedVariables false
set_option linter.unusedSimpArgs false
noncomputable abbrev E_i_isChunk : Env := En [(N.i_in, true, S_i_in), (N.utf8_Valid, true, S_utf8_Valid)] [] [] [] false 0 []
noncomputable def T_i_isChunk (d : T_Chunk) (K : Ret → Option Ret) : Option Ret :=
 (bif ((decide ((1 : Int) ≤ (((List.length d) : Nat) : Int))) && (decide ((((List.length d) : Nat) : Int) ≤ (16 : Int)))) then
 (bif (fitB d) then
  K ((.s (.bool (valid d))), [])
  else none)
 else K ((.s (.bool false)), []))
theorem e_i_isChunk (d : T_Chunk) (K : Ret → Option Ret) : evF E_i_isChunk true F.i_isChunk [.a (chunkR.cells .no d)] K = T_i_isChunk d K := by kernel_rfl
def S_i_isChunk : Sm := S_fnR [.a chunkR] (fun d => fitB d.1) (fun d => (bl (chunkOkD d.1), []))
theorem v_i_isChunk (d : T_Chunk) (h : (fitB d) = true) (K : Ret → Option Ret) : T_i_isChunk d K = K (bl (chunkOkD d), []) := by
  unfold T_i_isChunk chunkOkD
  rw [h]
  by_cases h1 : ((d.length : Nat) : Int) ≤ 16
  · have e : textOk d = valid d := by
      rw [Bool.eq_iff_iff, textOk_iff]
      exact ⟨fun q => q.2, fun q => ⟨by omega, q⟩⟩
    rw [e]
    cases decide (1 ≤ ((d.length : Nat) : Int)) <;> cases decide (((d.length : Nat) : Int) ≤ 16) <;> rfl
  · rw [decide_eq_false h1]
    cases decide (1 ≤ ((d.length : Nat) : Int)) <;> rfl
theorem okS_i_isChunk : OkFn prog I N.i_isChunk true S_i_isChunk := okN (ok_fn (memc okS_i_in (memc okS_utf8_Valid mem0)) (l := [(N.i_in, true, S_i_in), (N.utf8_Valid, true, S_utf8_Valid)]) (p := []) (ls := []) (lend := []) (focus := false) (fuel := 0) (give := []) (fn := F.i_isChunk) (by kernel_rfl) (by kernel_rfl) (by kernel_rfl) (by kernel_rfl) (cs := []) (by kernel_rfl) loops0) (S_fnR_of fun d K h => (e_i_isChunk d.1 K).trans (v_i_isChunk d.1 h K))
end Go.Ev.Seat
end
section
/- i_areChunks: its contract. -/
namespace Go.Ev.Seat
open Go.RowKit
set_option maxRecDepth 100000
set_option linter.unusedVariables false
set_option linter.unusedSimpArgs false
def z_i_areChunks_3_0 (x2 : Bool) : St := { tm := ([.x, .x, (.s (.bool x2))] ++ List.replicate 22 .x), ob := [], nx := 0, io := [] }
def z_i_areChunks_3_1 : St := { tm := ([] ++ List.replicate 25 .x), ob := [], nx := 0, io := [] }
def sh_i_areChunks_3_0 : Ss := { tm := (.cons (.x) (.cons (.x) (.cons (.x) (.cons (.int .i64) (.cons (.x) (.cons (.x) (.cons (.l .no pieceR) (.cons (.int .i64) (.cons (.int .i64) (xsh 16)))))))))), ob := .nil, nx := 0, io := .nil }
def d_i_areChunks_3_0 (x3 : Int) (x6 : List T_Piece) (x7 : Int) (x8 : Int) : sh_i_areChunks_3_0.T := (((), ((), ((), (x3, ((), ((), (x6, (x7, (x8, xd 16))))))))), (), ())
def s_i_areChunks_3_0 (x3 : Int) (x6 : List T_Piece) (x7 : Int) (x8 : Int) : St := { tm := ([.x, .x, .x, (.s (.int .i64 x3)), .x, .x, (.l .no pieceR x6), (.s (.int .i64 x7)), (.s (.int .i64 x8))] ++ List.replicate 16 .x), ob := [], nx := 0, io := [] }
theorem se_i_areChunks_3_0 (x3 : Int) (x6 : List T_Piece) (x7 : Int) (x8 : Int) : sh_i_areChunks_3_0.mk' (d_i_areChunks_3_0 x3 x6 x7 x8) = (s_i_areChunks_3_0 x3 x6 x7 x8) := by kernel_rfl
def w_i_areChunks_3_0 (d : sh_i_areChunks_3_0.T) (f : Int → (List T_Piece) → Int → Int → Option Ret) : Option Ret := match d with | ((_, (_, (_, (x3, (_, (_, (x6, (x7, (x8, _))))))))), _, _) => f x3 x6 x7 x8
noncomputable def P_i_areChunks_3_0 (x3 : Int) (x6 : List T_Piece) (x7 : Int) (x8 : Int) (nx0 : Int → (List T_Piece) → Int → Int → Option Ret) (k0 : Bool → Option Ret) (k1 : Option Ret) : Option Ret :=
 (bif (decide (x8 < x7)) then
 (bif ((decide ((0 : Int) ≤ x8)) && (decide (x8 < (((List.length x6) : Nat) : Int)))) then
  (bif (fitB (List.getD x6 (Int.toNat x8) (pieceR.dflt))) then
   (bif (!(chunkOkD (List.getD x6 (Int.toNat x8) (pieceR.dflt)))) then
    (k0 false)
    else (bif (decide ((IntKind.wrap .i64 (x3 + (((List.length (List.getD x6 (Int.toNat x8) (pieceR.dflt))) : Nat) : Int))) > (400 : Int))) then
     (k0 false)
     else (nx0 (IntKind.wrap .i64 (x3 + (((List.length (List.getD x6 (Int.toNat x8) (pieceR.dflt))) : Nat) : Int))) x6 x7 (IntKind.wrap .i64 (x8 + (1 : Int))))))
   else none)
  else none)
 else k1)
noncomputable def Q_i_areChunks_3_0 : Nat → Int → (List T_Piece) → Int → Int → (Bool → Option Ret) → (Option Ret) → Option Ret
  | 0, _, _, _, _, _, _ => none
  | m + 1, x3, x6, x7, x8, k0, k1 => P_i_areChunks_3_0 x3 x6 x7 x8 (fun x3 x6 x7 x8 => (Q_i_areChunks_3_0 m x3 x6 x7 x8 k0 k1)) k0 k1
noncomputable def R_i_areChunks_3_0 (x3 : Int) (x6 : List T_Piece) (x7 : Int) (x8 : Int) (k0 : Bool → Option Ret) (k1 : Option Ret) : Option Ret := Q_i_areChunks_3_0 (x3.toNat + List.length x6 + x7.toNat + x8.toNat + 2) x3 x6 x7 x8 k0 k1
noncomputable def W_i_areChunks_3 : LoopFn := (fun (σ : St) (K : Ex → St → Option Ret) => (match sh_i_areChunks_3_0.un σ with | some d => w_i_areChunks_3_0 d (fun x3 x6 x7 x8 => R_i_areChunks_3_0 x3 x6 x7 x8 (fun x2 => (K .ret (z_i_areChunks_3_0 x2))) (K (.ext 0) z_i_areChunks_3_1)) | none => none))
noncomputable abbrev E_i_areChunks : Env := En [(N.i_isChunk, true, S_i_isChunk)] [] [(3, [3,6,7,8], [2], W_i_areChunks_3)] [] false 0 []
theorem st_i_areChunks_3_0 (m : Nat) (x3 : Int) (x6 : List T_Piece) (x7 : Int) (x8 : Int) (K : Ex → St → Option Ret) : rounds (run E_i_areChunks (bodyOf F.i_areChunks 3)) [3,6,7,8] [2] (m + 1) (s_i_areChunks_3_0 x3 x6 x7 x8) K = P_i_areChunks_3_0 x3 x6 x7 x8 (fun x3 x6 x7 x8 => (rounds (run E_i_areChunks (bodyOf F.i_areChunks 3)) [3,6,7,8] [2] m (s_i_areChunks_3_0 x3 x6 x7 x8) K)) (fun x2 => (K .ret (z_i_areChunks_3_0 x2))) (K (.ext 0) z_i_areChunks_3_1) := by kernel_rfl
theorem q_i_areChunks_3 (K : Ex → St → Option Ret) : ∀ m : Nat, (∀ (x3 : Int) (x6 : List T_Piece) (x7 : Int) (x8 : Int), rounds (run E_i_areChunks (bodyOf F.i_areChunks 3)) [3,6,7,8] [2] m (s_i_areChunks_3_0 x3 x6 x7 x8) K = Q_i_areChunks_3_0 m x3 x6 x7 x8 (fun x2 => (K .ret (z_i_areChunks_3_0 x2))) (K (.ext 0) z_i_areChunks_3_1))
  | 0 => (fun _ _ _ _ => rfl)
  | m + 1 => (fun x3 x6 x7 x8 => (by rw [st_i_areChunks_3_0, show (fun x3 x6 x7 x8 => (rounds (run E_i_areChunks (bodyOf F.i_areChunks 3)) [3,6,7,8] [2] m (s_i_areChunks_3_0 x3 x6 x7 x8) K)) = (fun x3 x6 x7 x8 => (Q_i_areChunks_3_0 m x3 x6 x7 x8 (fun x2 => (K .ret (z_i_areChunks_3_0 x2))) (K (.ext 0) z_i_areChunks_3_1))) from funext fun x3 => funext fun x6 => funext fun x7 => funext fun x8 => (q_i_areChunks_3 K m) x3 x6 x7 x8]; rfl))
theorem loopK_i_areChunks_3 : LoopOk E_i_areChunks (bodyOf F.i_areChunks 3) := by
  refine loopW_ok (n := 3) (F := W_i_areChunks_3) (by kernel_rfl) rfl (li := [3,6,7,8]) (lo := [2]) rfl (fun σ K r hr => ?_)
  unfold W_i_areChunks_3 at hr
  split at hr
  · rename_i d hd
    rw [Ss.un_mk hd]
    exact ⟨_, ((congrArg (fun z => rounds (run E_i_areChunks (bodyOf F.i_areChunks 3)) [3,6,7,8] [2] _ z K) (se_i_areChunks_3_0 _ _ _ _)).trans ((q_i_areChunks_3 K _) _ _ _ _)).trans hr⟩
  · cases hr
noncomputable def T_i_areChunks (l : List T_Chunk) (K : Ret → Option Ret) : Option Ret :=
 (R_i_areChunks_3_0 (0 : Int) l (((List.length l) : Nat) : Int) (0 : Int) (fun y0 =>
 K ((.s (.bool y0)), [])) (K ((.s (.bool true)), [])))
theorem e_i_areChunks (l : List T_Chunk) (K : Ret → Option Ret) : evF E_i_areChunks true F.i_areChunks [.l .no chunkR l] K = T_i_areChunks l K := by kernel_rfl
def S_i_areChunks : Sm := S_fnR [.l chunkR] (fun d => fitC (.sl chunkR) d.1) (fun d => (bl (chunksOkD d.1), []))
theorem v_i_areChunks (l : List T_Chunk) (h : (fitC (.sl chunkR) l) = true) (K : Ret → Option Ret) : T_i_areChunks l K = K (bl (chunksOkD l), []) := by
  have hl := fitC_len h
  unfold T_i_areChunks chunksOkD
  have q : ∀ (m i n : Nat), n ≤ 400 → i ≤ l.length → l.length - i < m → Q_i_areChunks_3_0 m ((n : Nat) : Int) l ((l.length : Nat) : Int) ((i : Nat) : Int) (fun y0 => K ((.s (.bool y0)), [])) (K ((.s (.bool true)), [])) = K (bl (chunksOkL (l.drop i) n), []) := by
    intro m
    induction m with
    | zero => intro i n _ _ hm; omega
    | succ m ih =>
      intro i n hn hi hm
      show P_i_areChunks_3_0 ((n : Nat) : Int) l ((l.length : Nat) : Int) ((i : Nat) : Int) _ _ _ = _
      unfold P_i_areChunks_3_0
      by_cases hlt : i < l.length
      · have hg : l.getD i (pieceR.dflt) = l[i] := getD_lt _ hlt
        have hf : fitB l[i] = true := fitB_fit (fitC_mem (r := chunkR) h (List.getElem_mem hlt))
        have hd : l.drop i = l[i] :: l.drop (i + 1) := (List.getElem_cons_drop hlt).symm
        rw [decide_eq_true (show ((i : Nat) : Int) < ((l.length : Nat) : Int) by omega), decide_eq_true (show (0 : Int) ≤ ((i : Nat) : Int) by omega), Int.toNat_natCast, wrap_nat (by omega), hg, hf, hd]
        cases he : chunkOkD l[i] with
        | false => simp only [chunksOkL, he]; rfl
        | true =>
          have hk := chunkOkD_len he
          have e1 : ((n : Nat) : Int) + ((l[i].length : Nat) : Int) = ((n + l[i].length : Nat) : Int) := by omega
          rw [wrap_in (n := ((n : Nat) : Int) + ((l[i].length : Nat) : Int)) (by omega) (by omega), e1]
          simp only [chunksOkL, he]
          by_cases h4 : ((n + l[i].length : Nat) : Int) > 400
          · rw [decide_eq_true h4]; rfl
          · rw [decide_eq_false h4]
            exact ih (i + 1) (n + l[i].length) (by omega) (by omega) (by omega)
      · obtain rfl : i = l.length := by omega
        rw [decide_eq_false (show ¬ ((l.length : Nat) : Int) < ((l.length : Nat) : Int) by omega), List.drop_length]; rfl
  refine Eq.trans (q _ 0 0 (by omega) (by omega) (by omega)) ?_
  rw [List.drop_zero]
theorem okS_i_areChunks : OkFn prog I N.i_areChunks true S_i_areChunks := okN (ok_fn (memc okS_i_isChunk mem0) (l := [(N.i_isChunk, true, S_i_isChunk)]) (p := []) (ls := [(3, [3,6,7,8], [2], W_i_areChunks_3)]) (lend := []) (focus := false) (fuel := 0) (give := []) (fn := F.i_areChunks) (by kernel_rfl) (by kernel_rfl) (by kernel_rfl) (by kernel_rfl) (cs := [bodyOf F.i_areChunks 3]) (by kernel_rfl) (loopsc loopK_i_areChunks_3 loops0)) (S_fnR_of fun d K h => (e_i_areChunks d.1 K).trans (v_i_areChunks d.1 h K))
end Go.Ev.Seat
end
section
/- i_isRope: its contract. -/
namespace Go.Ev.Seat
open Go.RowKit
set_option maxRecDepth 100000
set_option linter.unusedVariables false
set_option linter.unusedSimpArgs false
noncomputable abbrev E_i_isRope : Env := En [(N.i_areChunks, true, S_i_areChunks)] [] [] [] false 0 []
noncomputable def T_i_isRope (r : T_Rope) (K : Ret → Option Ret) : Option Ret :=
 (bif (fitC (Cc.sl chunkR) r) then
 K ((.s (.bool (chunksOkD r))), [])
 else none)
theorem e_i_isRope (r : T_Rope) (K : Ret → Option Ret) : evF E_i_isRope true F.i_isRope [.a (ropeR.cells .no r)] K = T_i_isRope r K := by kernel_rfl
def S_i_isRope : Sm := S_fnR [.a ropeR] (fun d => fitC (.sl chunkR) d.1) (fun d => (bl (chunksOkD d.1), []))
theorem v_i_isRope (r : T_Rope) (h : (fitC (.sl chunkR) r) = true) (K : Ret → Option Ret) : T_i_isRope r K = K (bl (chunksOkD r), []) := by
  unfold T_i_isRope
  rw [h]; rfl
theorem okS_i_isRope : OkFn prog I N.i_isRope true S_i_isRope := okN (ok_fn (memc okS_i_areChunks mem0) (l := [(N.i_areChunks, true, S_i_areChunks)]) (p := []) (ls := []) (lend := []) (focus := false) (fuel := 0) (give := []) (fn := F.i_isRope) (by kernel_rfl) (by kernel_rfl) (by kernel_rfl) (by kernel_rfl) (cs := []) (by kernel_rfl) loops0) (S_fnR_of fun d K h => (e_i_isRope d.1 K).trans (v_i_isRope d.1 h K))
end Go.Ev.Seat
end
section
/- i_Rope_copied: its contract. -/
namespace Go.Ev.Seat
open Go.RowKit
set_option maxRecDepth 100000
set_option linter.unusedVariables false
set_option linter.unusedSimpArgs false
def z_i_Rope_copied_3_0 : St := { tm := ([.x, .x, (.pb 0 0), (.pb 1 0)] ++ List.replicate 21 .x), ob := [(0, (.box [.nl])), (1, (.box [.nl]))], nx := 2, io := [] }
def z_i_Rope_copied_3_1 (o2 : List T_Piece) : St := { tm := ([.x, .x, (.pb 0 0), (.pb 1 0)] ++ List.replicate 21 .x), ob := [(0, (.box [.nl])), (1, (.box [(.w 2)])), (2, (.arr true true pieceR o2))], nx := 3, io := [] }
def sh_i_Rope_copied_3_0 : Ss := { tm := (.cons (.x) (.cons (.x) (.cons (.pb 0 0) (.cons (.pb 1 0) (.cons (.x) (.cons (.x) (.cons (.x) (.cons (.x) (.cons (.l .no pieceR) (.cons (.int .i64) (.cons (.int .i64) (xsh 14)))))))))))), ob := (.box (.cons (.nl) .nil) (.box (.cons (.nl) .nil) .nil)), nx := 2, io := .nil }
def d_i_Rope_copied_3_0 (x8 : List T_Piece) (x9 : Int) (x10 : Int) : sh_i_Rope_copied_3_0.T := (((), ((), ((), ((), ((), ((), ((), ((), (x8, (x9, (x10, xd 14))))))))))), (((), ()), (((), ()), ())), ())
def s_i_Rope_copied_3_0 (x8 : List T_Piece) (x9 : Int) (x10 : Int) : St := { tm := ([.x, .x, (.pb 0 0), (.pb 1 0), .x, .x, .x, .x, (.l .no pieceR x8), (.s (.int .i64 x9)), (.s (.int .i64 x10))] ++ List.replicate 14 .x), ob := [(0, (.box [.nl])), (1, (.box [.nl]))], nx := 2, io := [] }
theorem se_i_Rope_copied_3_0 (x8 : List T_Piece) (x9 : Int) (x10 : Int) : sh_i_Rope_copied_3_0.mk' (d_i_Rope_copied_3_0 x8 x9 x10) = (s_i_Rope_copied_3_0 x8 x9 x10) := by kernel_rfl
def w_i_Rope_copied_3_0 (d : sh_i_Rope_copied_3_0.T) (f : (List T_Piece) → Int → Int → Option Ret) : Option Ret := match d with | ((_, (_, (_, (_, (_, (_, (_, (_, (x8, (x9, (x10, _))))))))))), ((_, _), ((_, _), _)), _) => f x8 x9 x10
noncomputable def P_i_Rope_copied_3_0 (x8 : List T_Piece) (x9 : Int) (x10 : Int) (nx0 : (List T_Piece) → Int → Int → Option Ret) (nx1 : (List T_Piece) → Int → Int → (List T_Piece) → Option Ret) (k0 : Option Ret) (k1 : (List T_Piece) → Option Ret) : Option Ret :=
 (bif (decide (x10 < x9)) then
 (bif ((decide ((0 : Int) ≤ x10)) && (decide (x10 < (((List.length x8) : Nat) : Int)))) then
  (bif (Cc.lim (Cc.sl bytesR) (List.getD x8 (Int.toNat x10) (pieceR.dflt))) then
   (nx1 x8 x9 (IntKind.wrap .i64 (x10 + (1 : Int))) ((List.getD x8 (Int.toNat x10) (pieceR.dflt)) :: []))
   else none)
  else none)
 else k0)
def sh_i_Rope_copied_3_1 : Ss := { tm := (.cons (.x) (.cons (.x) (.cons (.pb 0 0) (.cons (.pb 1 0) (.cons (.x) (.cons (.x) (.cons (.x) (.cons (.x) (.cons (.l .no pieceR) (.cons (.int .i64) (.cons (.int .i64) (xsh 14)))))))))))), ob := (.box (.cons (.nl) .nil) (.box (.cons (.w 2) .nil) (.arr true true pieceR .nil))), nx := 3, io := .nil }
def d_i_Rope_copied_3_1 (x8 : List T_Piece) (x9 : Int) (x10 : Int) (o2 : List T_Piece) : sh_i_Rope_copied_3_1.T := (((), ((), ((), ((), ((), ((), ((), ((), (x8, (x9, (x10, xd 14))))))))))), (((), ()), (((), ()), (o2, ()))), ())
def s_i_Rope_copied_3_1 (x8 : List T_Piece) (x9 : Int) (x10 : Int) (o2 : List T_Piece) : St := { tm := ([.x, .x, (.pb 0 0), (.pb 1 0), .x, .x, .x, .x, (.l .no pieceR x8), (.s (.int .i64 x9)), (.s (.int .i64 x10))] ++ List.replicate 14 .x), ob := [(0, (.box [.nl])), (1, (.box [(.w 2)])), (2, (.arr true true pieceR o2))], nx := 3, io := [] }
theorem se_i_Rope_copied_3_1 (x8 : List T_Piece) (x9 : Int) (x10 : Int) (o2 : List T_Piece) : sh_i_Rope_copied_3_1.mk' (d_i_Rope_copied_3_1 x8 x9 x10 o2) = (s_i_Rope_copied_3_1 x8 x9 x10 o2) := by kernel_rfl
def w_i_Rope_copied_3_1 (d : sh_i_Rope_copied_3_1.T) (f : (List T_Piece) → Int → Int → (List T_Piece) → Option Ret) : Option Ret := match d with | ((_, (_, (_, (_, (_, (_, (_, (_, (x8, (x9, (x10, _))))))))))), ((_, _), ((_, _), (o2, _))), _) => f x8 x9 x10 o2
noncomputable def P_i_Rope_copied_3_1 (x8 : List T_Piece) (x9 : Int) (x10 : Int) (o2 : List T_Piece) (nx0 : (List T_Piece) → Int → Int → Option Ret) (nx1 : (List T_Piece) → Int → Int → (List T_Piece) → Option Ret) (k0 : Option Ret) (k1 : (List T_Piece) → Option Ret) : Option Ret :=
 (bif (decide (x10 < x9)) then
 (bif ((decide ((0 : Int) ≤ x10)) && (decide (x10 < (((List.length x8) : Nat) : Int)))) then
  (bif (Cc.lim (Cc.sl bytesR) (List.getD x8 (Int.toNat x10) (pieceR.dflt))) then
   (bif (Nat.ble (((List.length o2) + (List.length ((List.getD x8 (Int.toNat x10) (pieceR.dflt)) :: []))) * 24) 140737488355328) then
    (nx1 x8 x9 (IntKind.wrap .i64 (x10 + (1 : Int))) (o2 ++ ((List.getD x8 (Int.toNat x10) (pieceR.dflt)) :: [])))
    else none)
   else none)
  else none)
 else (k1 o2))
mutual
noncomputable def Q_i_Rope_copied_3_0 : Nat → (List T_Piece) → Int → Int → (Option Ret) → ((List T_Piece) → Option Ret) → Option Ret
  | 0, _, _, _, _, _ => none
  | m + 1, x8, x9, x10, k0, k1 => P_i_Rope_copied_3_0 x8 x9 x10 (fun x8 x9 x10 => (Q_i_Rope_copied_3_0 m x8 x9 x10 k0 k1)) (fun x8 x9 x10 o2 => (Q_i_Rope_copied_3_1 m x8 x9 x10 o2 k0 k1)) k0 k1
noncomputable def Q_i_Rope_copied_3_1 : Nat → (List T_Piece) → Int → Int → (List T_Piece) → (Option Ret) → ((List T_Piece) → Option Ret) → Option Ret
  | 0, _, _, _, _, _, _ => none
  | m + 1, x8, x9, x10, o2, k0, k1 => P_i_Rope_copied_3_1 x8 x9 x10 o2 (fun x8 x9 x10 => (Q_i_Rope_copied_3_0 m x8 x9 x10 k0 k1)) (fun x8 x9 x10 o2 => (Q_i_Rope_copied_3_1 m x8 x9 x10 o2 k0 k1)) k0 k1
end
noncomputable def R_i_Rope_copied_3_0 (x8 : List T_Piece) (x9 : Int) (x10 : Int) (k0 : Option Ret) (k1 : (List T_Piece) → Option Ret) : Option Ret := Q_i_Rope_copied_3_0 (List.length x8 + x9.toNat + x10.toNat + 2) x8 x9 x10 k0 k1
noncomputable def R_i_Rope_copied_3_1 (x8 : List T_Piece) (x9 : Int) (x10 : Int) (o2 : List T_Piece) (k0 : Option Ret) (k1 : (List T_Piece) → Option Ret) : Option Ret := Q_i_Rope_copied_3_1 (List.length x8 + x9.toNat + x10.toNat + List.length o2 + 2) x8 x9 x10 o2 k0 k1
noncomputable def W_i_Rope_copied_3 : LoopFn := (fun (σ : St) (K : Ex → St → Option Ret) => (match sh_i_Rope_copied_3_0.un σ with | some d => w_i_Rope_copied_3_0 d (fun x8 x9 x10 => R_i_Rope_copied_3_0 x8 x9 x10 (K (.ext 0) z_i_Rope_copied_3_0) (fun o2 => (K (.ext 0) (z_i_Rope_copied_3_1 o2)))) | none => (match sh_i_Rope_copied_3_1.un σ with | some d => w_i_Rope_copied_3_1 d (fun x8 x9 x10 o2 => R_i_Rope_copied_3_1 x8 x9 x10 o2 (K (.ext 0) z_i_Rope_copied_3_0) (fun o2 => (K (.ext 0) (z_i_Rope_copied_3_1 o2)))) | none => none)))
noncomputable abbrev E_i_Rope_copied : Env := En [(N.slices_Clone_bytes_byte, true, S_toL bytesR)] [(5, takeB [0, 1, 2, 3] (.fork (.one 4 (takeB [5] (.fork (.one 6 (.fork (.one 7 (takeB [8] (.fork (.one 9 (.done))))))))))), [100003])] [(3, [2,3,8,9,10], [2,3], W_i_Rope_copied_3)] [] false 0 []
theorem st_i_Rope_copied_3_0 (m : Nat) (x8 : List T_Piece) (x9 : Int) (x10 : Int) (K : Ex → St → Option Ret) : rounds (run E_i_Rope_copied (bodyOf F.i_Rope_copied 3)) [2,3,8,9,10] [2,3] (m + 1) (s_i_Rope_copied_3_0 x8 x9 x10) K = P_i_Rope_copied_3_0 x8 x9 x10 (fun x8 x9 x10 => (rounds (run E_i_Rope_copied (bodyOf F.i_Rope_copied 3)) [2,3,8,9,10] [2,3] m (s_i_Rope_copied_3_0 x8 x9 x10) K)) (fun x8 x9 x10 o2 => (rounds (run E_i_Rope_copied (bodyOf F.i_Rope_copied 3)) [2,3,8,9,10] [2,3] m (s_i_Rope_copied_3_1 x8 x9 x10 o2) K)) (K (.ext 0) z_i_Rope_copied_3_0) (fun o2 => (K (.ext 0) (z_i_Rope_copied_3_1 o2))) := by kernel_rfl
theorem st_i_Rope_copied_3_1 (m : Nat) (x8 : List T_Piece) (x9 : Int) (x10 : Int) (o2 : List T_Piece) (K : Ex → St → Option Ret) : rounds (run E_i_Rope_copied (bodyOf F.i_Rope_copied 3)) [2,3,8,9,10] [2,3] (m + 1) (s_i_Rope_copied_3_1 x8 x9 x10 o2) K = P_i_Rope_copied_3_1 x8 x9 x10 o2 (fun x8 x9 x10 => (rounds (run E_i_Rope_copied (bodyOf F.i_Rope_copied 3)) [2,3,8,9,10] [2,3] m (s_i_Rope_copied_3_0 x8 x9 x10) K)) (fun x8 x9 x10 o2 => (rounds (run E_i_Rope_copied (bodyOf F.i_Rope_copied 3)) [2,3,8,9,10] [2,3] m (s_i_Rope_copied_3_1 x8 x9 x10 o2) K)) (K (.ext 0) z_i_Rope_copied_3_0) (fun o2 => (K (.ext 0) (z_i_Rope_copied_3_1 o2))) := by kernel_rfl
theorem q_i_Rope_copied_3 (K : Ex → St → Option Ret) : ∀ m : Nat, (∀ (x8 : List T_Piece) (x9 : Int) (x10 : Int), rounds (run E_i_Rope_copied (bodyOf F.i_Rope_copied 3)) [2,3,8,9,10] [2,3] m (s_i_Rope_copied_3_0 x8 x9 x10) K = Q_i_Rope_copied_3_0 m x8 x9 x10 (K (.ext 0) z_i_Rope_copied_3_0) (fun o2 => (K (.ext 0) (z_i_Rope_copied_3_1 o2)))) ∧ (∀ (x8 : List T_Piece) (x9 : Int) (x10 : Int) (o2 : List T_Piece), rounds (run E_i_Rope_copied (bodyOf F.i_Rope_copied 3)) [2,3,8,9,10] [2,3] m (s_i_Rope_copied_3_1 x8 x9 x10 o2) K = Q_i_Rope_copied_3_1 m x8 x9 x10 o2 (K (.ext 0) z_i_Rope_copied_3_0) (fun o2 => (K (.ext 0) (z_i_Rope_copied_3_1 o2))))
  | 0 => ⟨(fun _ _ _ => rfl), (fun _ _ _ _ => rfl)⟩
  | m + 1 => ⟨(fun x8 x9 x10 => (by rw [st_i_Rope_copied_3_0, show (fun x8 x9 x10 => (rounds (run E_i_Rope_copied (bodyOf F.i_Rope_copied 3)) [2,3,8,9,10] [2,3] m (s_i_Rope_copied_3_0 x8 x9 x10) K)) = (fun x8 x9 x10 => (Q_i_Rope_copied_3_0 m x8 x9 x10 (K (.ext 0) z_i_Rope_copied_3_0) (fun o2 => (K (.ext 0) (z_i_Rope_copied_3_1 o2))))) from funext fun x8 => funext fun x9 => funext fun x10 => (q_i_Rope_copied_3 K m).1 x8 x9 x10, show (fun x8 x9 x10 o2 => (rounds (run E_i_Rope_copied (bodyOf F.i_Rope_copied 3)) [2,3,8,9,10] [2,3] m (s_i_Rope_copied_3_1 x8 x9 x10 o2) K)) = (fun x8 x9 x10 o2 => (Q_i_Rope_copied_3_1 m x8 x9 x10 o2 (K (.ext 0) z_i_Rope_copied_3_0) (fun o2 => (K (.ext 0) (z_i_Rope_copied_3_1 o2))))) from funext fun x8 => funext fun x9 => funext fun x10 => funext fun o2 => (q_i_Rope_copied_3 K m).2 x8 x9 x10 o2]; rfl)), (fun x8 x9 x10 o2 => (by rw [st_i_Rope_copied_3_1, show (fun x8 x9 x10 => (rounds (run E_i_Rope_copied (bodyOf F.i_Rope_copied 3)) [2,3,8,9,10] [2,3] m (s_i_Rope_copied_3_0 x8 x9 x10) K)) = (fun x8 x9 x10 => (Q_i_Rope_copied_3_0 m x8 x9 x10 (K (.ext 0) z_i_Rope_copied_3_0) (fun o2 => (K (.ext 0) (z_i_Rope_copied_3_1 o2))))) from funext fun x8 => funext fun x9 => funext fun x10 => (q_i_Rope_copied_3 K m).1 x8 x9 x10, show (fun x8 x9 x10 o2 => (rounds (run E_i_Rope_copied (bodyOf F.i_Rope_copied 3)) [2,3,8,9,10] [2,3] m (s_i_Rope_copied_3_1 x8 x9 x10 o2) K)) = (fun x8 x9 x10 o2 => (Q_i_Rope_copied_3_1 m x8 x9 x10 o2 (K (.ext 0) z_i_Rope_copied_3_0) (fun o2 => (K (.ext 0) (z_i_Rope_copied_3_1 o2))))) from funext fun x8 => funext fun x9 => funext fun x10 => funext fun o2 => (q_i_Rope_copied_3 K m).2 x8 x9 x10 o2]; rfl))⟩
theorem loopK_i_Rope_copied_3 : LoopOk E_i_Rope_copied (bodyOf F.i_Rope_copied 3) := by
  refine loopW_ok (n := 3) (F := W_i_Rope_copied_3) (by kernel_rfl) rfl (li := [2,3,8,9,10]) (lo := [2,3]) rfl (fun σ K r hr => ?_)
  unfold W_i_Rope_copied_3 at hr
  split at hr
  · rename_i d hd
    rw [Ss.un_mk hd]
    exact ⟨_, ((congrArg (fun z => rounds (run E_i_Rope_copied (bodyOf F.i_Rope_copied 3)) [2,3,8,9,10] [2,3] _ z K) (se_i_Rope_copied_3_0 _ _ _)).trans ((q_i_Rope_copied_3 K _).1 _ _ _)).trans hr⟩
  · split at hr
    · rename_i d hd
      rw [Ss.un_mk hd]
      exact ⟨_, ((congrArg (fun z => rounds (run E_i_Rope_copied (bodyOf F.i_Rope_copied 3)) [2,3,8,9,10] [2,3] _ z K) (se_i_Rope_copied_3_1 _ _ _ _)).trans ((q_i_Rope_copied_3 K _).2 _ _ _ _)).trans hr⟩
    · cases hr
noncomputable def T_i_Rope_copied (r : T_Rope) (K : Ret → Option Ret) : Option Ret :=
 (R_i_Rope_copied_3_0 r (((List.length r) : Nat) : Int) (0 : Int) (K ((.a [(.l .deep pieceR [])]), [])) (fun y0 =>
 K ((.a [(.l .deep pieceR y0)]), [])))
theorem e_i_Rope_copied (r : T_Rope) (K : Ret → Option Ret) : evF E_i_Rope_copied true F.i_Rope_copied [.a (ropeR.cells .no r)] K = T_i_Rope_copied r K := by kernel_rfl
def S_i_Rope_copied : Sm := S_fnR [.a ropeR] (fun d => fitC (.sl chunkR) d.1) (fun d => (.a (ropeR.cells .deep d.1), []))
theorem v_i_Rope_copied (r : T_Rope) (h : (fitC (.sl chunkR) r) = true) (K : Ret → Option Ret) : T_i_Rope_copied r K = K (.a (ropeR.cells .deep r), []) := by
  have hl := fitC_len h
  have hb : ∀ i, i < r.length → Cc.lim (.sl bytesR) (r.getD i []) = true := fun i hi => by
    rw [getD_lt [] hi]
    exact bytes_lim (fitB_len (fitB_fit (fitC_mem (r := chunkR) h (List.getElem_mem hi))))
  have ht : ∀ i, i < r.length → r.take i ++ [r.getD i []] = r.take (i + 1) := fun i hi => by
    rw [List.take_add_one, List.getElem?_eq_getElem hi, getD_lt [] hi]; rfl
  unfold T_i_Rope_copied
  have q : ∀ (k0 : Option Ret) (k1 : List T_Piece → Option Ret) (m i : Nat), i ≤ r.length → r.length - i < m → Q_i_Rope_copied_3_1 m r ((r.length : Nat) : Int) ((i : Nat) : Int) (r.take i) k0 k1 = k1 r := by
    intro k0 k1 m
    induction m with
    | zero => intro i _ hm; omega
    | succ m ih =>
      intro i hi hm
      show P_i_Rope_copied_3_1 r _ ((i : Nat) : Int) (r.take i) _ _ _ _ = _
      unfold P_i_Rope_copied_3_1
      by_cases hlt : i < r.length
      · rw [decide_eq_true (show ((i : Nat) : Int) < ((r.length : Nat) : Int) by omega), decide_eq_true (show (0 : Int) ≤ ((i : Nat) : Int) by omega), Int.toNat_natCast, wrap_nat (by omega), show r.getD i pieceR.dflt = r.getD i [] from rfl, hb i hlt, Nat.ble_eq_true_of_le (by simp only [List.length_take, List.length_cons, List.length_nil]; omega), ht i hlt]
        exact ih (i + 1) (by omega) (by omega)
      · obtain rfl : i = r.length := by omega
        rw [decide_eq_false (show ¬ ((r.length : Nat) : Int) < ((r.length : Nat) : Int) by omega), List.take_length]; rfl
  have hq : ∀ (m : Nat) (k0 : Option Ret) (k1 : List T_Piece → Option Ret), Q_i_Rope_copied_3_0 (m + 1) r ((r.length : Nat) : Int) 0 k0 k1 = P_i_Rope_copied_3_0 r ((r.length : Nat) : Int) 0 (fun a b c => Q_i_Rope_copied_3_0 m a b c k0 k1) (fun a b c d => Q_i_Rope_copied_3_1 m a b c d k0 k1) k0 k1 := fun _ _ _ => rfl
  refine (hq (List.length r + ((r.length : Nat) : Int).toNat + (0 : Int).toNat + 1) _ _).trans ?_
  unfold P_i_Rope_copied_3_0
  by_cases hlt : 0 < r.length
  · have h1 := ht 0 hlt
    rw [decide_eq_true (show (0 : Int) < ((r.length : Nat) : Int) by omega), show Int.toNat 0 = 0 from rfl, show r.getD 0 pieceR.dflt = r.getD 0 [] from rfl, hb 0 hlt, show ([r.getD 0 []] : List T_Piece) = r.take 1 from h1]
    exact q _ _ _ 1 (by omega) (by omega)
  · have h0 : r = [] := List.length_eq_zero_iff.1 (by omega)
    subst h0
    rfl
theorem okS_i_Rope_copied : OkFn prog I N.i_Rope_copied true S_i_Rope_copied := okN (ok_fn (memc okS_Clone mem0) (l := [(N.slices_Clone_bytes_byte, true, S_toL bytesR)]) (p := [(5, takeB [0, 1, 2, 3] (.fork (.one 4 (takeB [5] (.fork (.one 6 (.fork (.one 7 (takeB [8] (.fork (.one 9 (.done))))))))))), [100003])]) (ls := [(3, [2,3,8,9,10], [2,3], W_i_Rope_copied_3)]) (lend := []) (focus := false) (fuel := 0) (give := []) (fn := F.i_Rope_copied) (by kernel_rfl) (by kernel_rfl) (by kernel_rfl) (by kernel_rfl) (cs := [bodyOf F.i_Rope_copied 3]) (by kernel_rfl) (loopsc loopK_i_Rope_copied_3 loops0)) (S_fnR_of fun d K h => (e_i_Rope_copied d.1 K).trans (v_i_Rope_copied d.1 h K))
end Go.Ev.Seat
end
section
/- i_RopeJoin: its contract. -/
namespace Go.Ev.Seat
open Go.RowKit
set_option maxRecDepth 100000
set_option linter.unusedVariables false
set_option linter.unusedSimpArgs false
noncomputable abbrev E_i_RopeJoin : Env := En [(N.slices_Concat_Chunk, false, S_slices_Concat_Chunk), (N.i_isRope, true, S_i_isRope), (N.i_Rope_copied, true, S_i_Rope_copied)] [] [] [] false 0 []
noncomputable def T_i_RopeJoin (r : T_Rope) (s : T_Rope) (K : Ret → Option Ret) : Option Ret :=
 (bif (Nat.ble (sumW List.length (r :: (s :: []))) 1048576) then
 (bif (fitC (Cc.sl chunkR) (List.flatten (r :: (s :: [])))) then
  (bif (!(chunksOkD (List.flatten (r :: (s :: []))))) then
   K ((.t [(.a [(.l .deep pieceR [])]), (.s (.bool false))]), [])
   else (bif (fitC (Cc.sl chunkR) (List.flatten (r :: (s :: [])))) then
    K ((.t [(.a [(.l .deep pieceR (List.flatten (r :: (s :: []))))]), (.s (.bool true))]), [])
    else none))
  else none)
 else none)
theorem e_i_RopeJoin (r : T_Rope) (s : T_Rope) (K : Ret → Option Ret) : evF E_i_RopeJoin true F.i_RopeJoin [.a (ropeR.cells .no r), .a (ropeR.cells .no s)] K = T_i_RopeJoin r s K := by kernel_rfl
def S_i_RopeJoin : Sm := S_fnR [.a ropeR, .a ropeR] (fun d => fitC (.sl chunkR) d.1 && fitC (.sl chunkR) d.2.1 && Nat.ble (d.1.length + d.2.1.length) 1048576) (fun d => (.t [.a (ropeR.cells .deep (ropeJoinD d.1 d.2.1)), bl (chunksOkD (d.1 ++ d.2.1))], []))
theorem v_i_RopeJoin (r : T_Rope) (s : T_Rope) (h : (fitC (.sl chunkR) r && fitC (.sl chunkR) s && Nat.ble (r.length + s.length) 1048576) = true) (K : Ret → Option Ret) : T_i_RopeJoin r s K = K (.t [.a (ropeR.cells .deep (ropeJoinD r s)), bl (chunksOkD (r ++ s))], []) := by
  simp only [Bool.and_eq_true] at h
  obtain ⟨⟨h1, h2⟩, h3⟩ := h
  have h3' := Nat.le_of_ble_eq_true h3
  have hf : fitC (.sl chunkR) (r ++ s) = true := by
    simp only [fitC, Bool.and_eq_true, List.all_append] at h1 h2 ⊢
    exact ⟨Nat.ble_eq_true_of_le (by rw [List.length_append]; exact h3'), h1.2, h2.2⟩
  unfold T_i_RopeJoin ropeJoinD
  rw [show List.flatten (r :: (s :: [])) = r ++ s by simp, hf, Nat.ble_eq_true_of_le (show sumW List.length (r :: (s :: [])) ≤ 1048576 by simp only [sumW]; omega)]
  cases chunksOkD (r ++ s) <;> rfl
theorem okS_i_RopeJoin : OkFn prog I N.i_RopeJoin true S_i_RopeJoin := okN (ok_fn (memc okS_slices_Concat_Chunk (memc okS_i_isRope (memc okS_i_Rope_copied mem0))) (l := [(N.slices_Concat_Chunk, false, S_slices_Concat_Chunk), (N.i_isRope, true, S_i_isRope), (N.i_Rope_copied, true, S_i_Rope_copied)]) (p := []) (ls := []) (lend := []) (focus := false) (fuel := 0) (give := []) (fn := F.i_RopeJoin) (by kernel_rfl) (by kernel_rfl) (by kernel_rfl) (by kernel_rfl) (cs := []) (by kernel_rfl) loops0) (S_fnR_of fun d K h => (e_i_RopeJoin d.1 d.2.1 K).trans (v_i_RopeJoin d.1 d.2.1 h K))
end Go.Ev.Seat
end
section
/- How much a rope weighs. -/
namespace Go.Ev.Seat
open Go.RowKit
theorem sumW_bytes : ∀ (l : List (List Int)), sumW chunkR.w l = sumW List.length l
  | [] => rfl
  | d :: l => by
    simp only [sumW, sumW_bytes l]
    rw [show chunkR.w d = d.length from bytes_w d]
theorem chunks_w {l : List (List Int)} (h : chunksOkD l = true) : (Cc.sl chunkR).w l ≤ 800 := by
  show l.length + sumW chunkR.w l ≤ 800
  rw [sumW_bytes]
  have := chunksOkD_count h
  have := (chunksOkD_iff.1 h).2
  omega
theorem ropeJoin_w (r s : List (List Int)) : ropeR.w (ropeJoinD r s) ≤ 1099511627776 := by
  show (Cc.sl chunkR).w (ropeJoinD r s) ≤ _
  unfold ropeJoinD
  cases h : chunksOkD (r ++ s) with
  | false => exact Nat.zero_le _
  | true => exact Nat.le_trans (chunks_w h) (by omega)
theorem rope_len (r : List (List Int)) : r.length ≤ ropeR.w r := by
  show r.length ≤ r.length + sumW chunkR.w r
  omega
end Go.Ev.Seat
end
section
/- The law FnExactRopeJoin. Printed by laws.py. -/
namespace Go.Ev.Seat
open Go.RowKit
set_option maxRecDepth 100000
set_option linter.unusedVariables false
noncomputable abbrev ls_RopeJoin (T : MText) : List (Nat × Bool × Sm) := [(N.s_RopeJoin, true, S_s_RopeJoin), (N.i_RopeJoin, true, S_i_RopeJoin), (N.l_toRope, true, S_toA ropeR), (N.l_eqRope, true, S_eqA ropeR), (N.l_szRope, true, S_szA ropeR), (N.l_markRope, true, S_markA T ropeR), (N.l_heldRope, true, S_heldA T ropeR)]
noncomputable abbrev pl_RopeJoin : List (Nat × Plan × List Nat) := [(8, takeB [0, 2] (.fork (.more 1 (.fork (.more 3 (.fork (.more 4 (takeB [5, 6, 7] (.fork (.one 8 (.fork (.one 9 (takes [10])))))) (.one 8 (.fork (.one 4 (takeB [5, 6, 7] (.fork (.one 9 (takes [10]))))))))) (.one 8 (.fork (.one 3 (.fork (.one 4 (takeB [5, 6, 7] (.fork (.one 9 (takes [10]))))))))))) (.one 8 (.fork (.one 1 (.fork (.one 3 (.fork (.one 4 (takeB [5, 6, 7] (.fork (.one 9 (takes [10]))))))))))))), []), (14, takeB [0, 1] (.fork (.one 2 (.fork (.one 3 (takes [4]))))), []), (16, takeB [0, 1] (.fork (.one 2 (.fork (.one 3 (takes [4]))))), []), (31, takeB [0, 2] (.fork (.more 1 (.fork (.more 3 (.fork (.more 4 (takeB [5, 6, 7] (.fork (.one 8 (.fork (.one 9 (takes [10])))))) (.one 8 (.fork (.one 4 (takeB [5, 6, 7] (.fork (.one 9 (takes [10]))))))))) (.one 8 (.fork (.one 3 (.fork (.one 4 (takeB [5, 6, 7] (.fork (.one 9 (takes [10]))))))))))) (.one 8 (.fork (.one 1 (.fork (.one 3 (.fork (.one 4 (takeB [5, 6, 7] (.fork (.one 9 (takes [10]))))))))))))), [])]
noncomputable def G_RopeJoin (T : MText) := evF (En (ls_RopeJoin T) pl_RopeJoin [] [N.l_markRope] true) true F.l_FnExactRopeJoin
theorem ok_RopeJoin (T : MText) : OkFn prog I N.l_FnExactRopeJoin true (G_RopeJoin T) := ok_fn (l := ls_RopeJoin T) (memc okS_s_RopeJoin (memc okS_i_RopeJoin (memc okS_toRope (memc okS_eqRope (memc okS_szRope (memc (okS_markRope T) (memc (okS_heldRope T) mem0))))))) (by kernel_rfl) (by kernel_rfl) (by kernel_rfl) (by kernel_rfl) (cs := []) (by kernel_rfl) loops0
noncomputable def L1_RopeJoin (T : MText) (r : T_Rope) (s : T_Rope) (K : Ret → Option Ret) : Option Ret := (bif ropeR.cnt (ropeJoinD r s) then (bif !(eqD ((ropeJoinD r s) : T_Rope) (ropeJoinD r s)) then K (bl false, []) else (bif !((chunksOkD (r ++ s)) == (chunksOkD (r ++ s))) then K (bl false, []) else (bif (eqD (ropeR.markA T (ropeR.markA T (ropeJoinD r s) (1 : Int)).1 (1 : Int)).1 (ropeR.markA T (ropeJoinD r s) (1 : Int)).1) && (ropeR.cnt (ropeR.markA T (ropeJoinD r s) (1 : Int)).1 && decide ((0 : Int) ≤ (1 : Int)) && decide ((1 : Int) + ((ropeR.marksA (ropeR.markA T (ropeJoinD r s) (1 : Int)).1 : Nat) : Int) ≤ 4611686018427387904)) then (bif decide ((ropeR.markA T (ropeR.markA T (ropeJoinD r s) (1 : Int)).1 (1 : Int)).2 < 0) then K (bl false, []) else (bif (ropeR.markA T (ropeR.markA T (ropeJoinD r s) (1 : Int)).1 (1 : Int)).2 != (ropeR.markA T (ropeJoinD r s) (1 : Int)).2 then K (bl false, []) else K (bl true, []))) else none))) else none)
noncomputable def L0_RopeJoin (T : MText) (r : T_Rope) (s : T_Rope) (K : Ret → Option Ret) : Option Ret := (bif ropeR.lim r then (bif ropeR.lim s then (bif (fitC (.sl chunkR) r && fitC (.sl chunkR) s && Nat.ble (r.length + s.length) 1048576) then (bif ropeR.cnt (ropeJoinD r s) then (bif !(eqD ((ropeJoinD r s) : T_Rope) (ropeJoinD r s)) then K (bl false, []) else (bif !((chunksOkD (r ++ s)) == (chunksOkD (r ++ s))) then K (bl false, []) else (bif ropeR.lim r then (bif ropeR.cnt r then (bif !(eqD (r : T_Rope) r) then K (bl false, []) else (bif ropeR.lim s then (bif ropeR.cnt s then (bif !(eqD (s : T_Rope) s) then K (bl false, []) else (bif ropeR.cnt r then (bif ropeR.cnt s then (bif decide ((ropeR.markA T s (ropeR.markA T r (1 : Int)).2).2 < 0) then K (bl false, []) else (bif ropeR.cnt (ropeJoinD r s) then (bif !(eqD ((ropeJoinD r s) : T_Rope) (ropeJoinD r s)) then K (bl false, []) else (bif !((chunksOkD (r ++ s)) == (chunksOkD (r ++ s))) then K (bl false, []) else (bif ropeR.cnt (ropeJoinD r s) then (bif (eqD (ropeR.markA T (ropeR.markA T (ropeJoinD r s) (1 : Int)).1 (1 : Int)).1 (ropeR.markA T (ropeJoinD r s) (1 : Int)).1) && (ropeR.cnt (ropeR.markA T (ropeJoinD r s) (1 : Int)).1 && decide ((0 : Int) ≤ (1 : Int)) && decide ((1 : Int) + ((ropeR.marksA (ropeR.markA T (ropeJoinD r s) (1 : Int)).1 : Nat) : Int) ≤ 4611686018427387904)) then (bif decide ((ropeR.markA T (ropeR.markA T (ropeJoinD r s) (1 : Int)).1 (1 : Int)).2 < 0) then K (bl false, []) else (bif (ropeR.markA T (ropeR.markA T (ropeJoinD r s) (1 : Int)).1 (1 : Int)).2 != (ropeR.markA T (ropeJoinD r s) (1 : Int)).2 then K (bl false, []) else (meet (bif ropeR.lim r then (meet (bif ropeR.lim s then (meet (bif (fitC (.sl chunkR) r && fitC (.sl chunkR) s && Nat.ble (r.length + s.length) 1048576) then (L1_RopeJoin T r s K) else none) (bif (fitC (.sl chunkR) r && fitC (.sl chunkR) s && Nat.ble (r.length + s.length) 1048576) then (L1_RopeJoin T r s K) else none)) else none) (bif ropeR.lim s then (bif (fitC (.sl chunkR) r && fitC (.sl chunkR) s && Nat.ble (r.length + s.length) 1048576) then (L1_RopeJoin T r s K) else none) else none)) else none) (bif ropeR.lim r then (bif ropeR.lim s then (bif (fitC (.sl chunkR) r && fitC (.sl chunkR) s && Nat.ble (r.length + s.length) 1048576) then (L1_RopeJoin T r s K) else none) else none) else none)))) else none) else none))) else none)) else none) else none)) else none) else none)) else none) else none))) else none) else none) else none) else none)
theorem law_RopeJoin (T : MText) (r : T_Rope) (s : T_Rope) (K : Ret → Option Ret) (hwf0 : ropeR.wf r) (hwf1 : ropeR.wf s) : G_RopeJoin T [.a (ropeR.cells .no r), .a (ropeR.cells .no s)] K = K (bl true, []) := by
  have e : G_RopeJoin T [.a (ropeR.cells .no r), .a (ropeR.cells .no s)] K = (bif szOk (1048576 : Int) && ropeR.cnz r then (bif decide (szN (ropeR.w r) (1048576 : Int) < 0) then K (bl true, []) else (bif szOk (szN (ropeR.w r) (1048576 : Int)) && ropeR.cnz s then (bif decide (szN (ropeR.w s) (szN (ropeR.w r) (1048576 : Int)) < 0) then K (bl true, []) else (meet (bif ropeR.lim r then (meet (bif ropeR.lim s then (meet (bif (fitC (.sl chunkR) r && fitC (.sl chunkR) s && Nat.ble (r.length + s.length) 1048576) then (L0_RopeJoin T r s K) else none) (bif (fitC (.sl chunkR) r && fitC (.sl chunkR) s && Nat.ble (r.length + s.length) 1048576) then (L0_RopeJoin T r s K) else none)) else none) (bif ropeR.lim s then (bif (fitC (.sl chunkR) r && fitC (.sl chunkR) s && Nat.ble (r.length + s.length) 1048576) then (L0_RopeJoin T r s K) else none) else none)) else none) (bif ropeR.lim r then (bif ropeR.lim s then (bif (fitC (.sl chunkR) r && fitC (.sl chunkR) s && Nat.ble (r.length + s.length) 1048576) then (L0_RopeJoin T r s K) else none) else none) else none))) else none)) else none) := by kernel_rfl
  refine e.trans ?_
  have hz0 : ropeR.cnz r = true := Rw.cnz_of_wf ropeR r hwf0
  have hz1 : ropeR.cnz s = true := Rw.cnz_of_wf ropeR s hwf1
  refine lw_sz (show szOk 1048576 = true by rfl) hz0 (fun n0 e0 s0 => ?_)
  refine lw_sz s0 hz1 (fun n1 e1 s1 => ?_)
  have hw0 : ropeR.w r ≤ 1048576 := by omega
  have lim0 : ropeR.lim r = true := Rw.lim_ok ropeR r hw0
  have cnt0 : ropeR.cnt r = true := Rw.cnt_of_lim ropeR r lim0
  have mk0 : ropeR.marksA r ≤ 32 * ropeR.w r := Rw.marksA_le ropeR rfl r
  have hw1 : ropeR.w s ≤ 1048576 := by omega
  have lim1 : ropeR.lim s = true := Rw.lim_ok ropeR s hw1
  have cnt1 : ropeR.cnt s = true := Rw.cnt_of_lim ropeR s lim1
  have mk1 : ropeR.marksA s ≤ 32 * ropeR.w s := Rw.marksA_le ropeR rfl s
  have hpre : (fitC (.sl chunkR) r && fitC (.sl chunkR) s && Nat.ble (r.length + s.length) 1048576) = true := (Bool.and_eq_true _ _).mpr ⟨(Bool.and_eq_true _ _).mpr ⟨fitR_of ropeR r hwf0 lim0, fitR_of ropeR s hwf1 lim1⟩, Nat.ble_eq_true_of_le (by have := rope_len r; have := rope_len s; omega)⟩
  have rw0 : ropeR.w (ropeJoinD r s) ≤ 1099511627776 := ropeJoin_w r s
  have rcnt0 : ropeR.cnt (ropeJoinD r s) = true := Rw.cnt_of_w ropeR (ropeJoinD r s) (by omega)
  have rmk0 : ropeR.marksA (ropeJoinD r s) ≤ 32 * ropeR.w (ropeJoinD r s) := Rw.marksA_le ropeR rfl (ropeJoinD r s)
  have k0 := Rw.markA_cnt T ropeR r (1 : Int) (by omega) (by omega)
  have k1 := Rw.markA_cnt T ropeR s (ropeR.markA T r (1 : Int)).2 (by omega) (by omega)
  have pk2 : 0 ≤ (ropeR.markA T s (ropeR.markA T r (1 : Int)).2).2 := by omega
  have mm0 := Rw.markA_cnt T ropeR (ropeJoinD r s) (1 : Int) (by omega) (by omega)
  have hq0 : (1 : Int) = 1 := rfl
  have id0 : ropeR.markA T (ropeR.markA T (ropeJoinD r s) (1 : Int)).1 (1 : Int) = ropeR.markA T (ropeJoinD r s) (1 : Int) := Rw.markA_idem T ropeR (ropeJoinD r s) (1 : Int)
  have hq1 : (ropeR.markA T (ropeR.markA T (ropeJoinD r s) (1 : Int)).1 (1 : Int)).2 = (ropeR.markA T (ropeJoinD r s) (1 : Int)).2 := congrArg Prod.snd id0
  have hg0 : eqD (ropeR.markA T (ropeR.markA T (ropeJoinD r s) (1 : Int)).1 (1 : Int)).1 (ropeR.markA T (ropeJoinD r s) (1 : Int)).1 = true := eqD_iff.2 (congrArg Prod.fst id0)
  have gcnt0 : ropeR.cnt (ropeR.markA T (ropeJoinD r s) (1 : Int)).1 = true := (Rw.markA_w T ropeR (ropeJoinD r s) (1 : Int)).trans rcnt0
  have gmk0 : ropeR.marksA (ropeR.markA T (ropeJoinD r s) (1 : Int)).1 = ropeR.marksA (ropeJoinD r s) := Rw.markA_marks T ropeR (ropeJoinD r s) (1 : Int)
  have pq0 : 0 ≤ (1 : Int) := by omega
  have bq0 : (1 : Int) + ((ropeR.marksA (ropeR.markA T (ropeJoinD r s) (1 : Int)).1 : Nat) : Int) ≤ 4611686018427387904 := by omega
  have pq1 : 0 ≤ (ropeR.markA T (ropeR.markA T (ropeJoinD r s) (1 : Int)).1 (1 : Int)).2 := by omega
  have t1 : L1_RopeJoin T r s K = K (bl true, []) := by
    unfold L1_RopeJoin
    exact (lw_eq rcnt0 (lw_bool (lw_held hg0 gcnt0 pq0 bq0 (lw_lt pq1 (lw_int2 hq1 rfl)))))
  have t0 : L0_RopeJoin T r s K = K (bl true, []) := by
    unfold L0_RopeJoin
    exact (to_step lim0 (to_step lim1 (to_step hpre (lw_eq rcnt0 (lw_bool (to_step lim0 (lw_eq cnt0 (to_step lim1 (lw_eq cnt1 (to_step cnt0 (to_step cnt1 (lw_lt pk2 (lw_eq rcnt0 (lw_bool (to_step rcnt0 (lw_held hg0 gcnt0 pq0 bq0 (lw_lt pq1 (lw_int2 hq1 (lw_meet (to_step lim0 (lw_meet (to_step lim1 (lw_meet (to_step hpre t1) (to_step hpre t1))) (to_step lim1 (to_step hpre t1)))) (to_step lim0 (to_step lim1 (to_step hpre t1))))))))))))))))))))))
  exact (lw_meet (to_step lim0 (lw_meet (to_step lim1 (lw_meet (to_step hpre t0) (to_step hpre t0))) (to_step lim1 (to_step hpre t0)))) (to_step lim0 (to_step lim1 (to_step hpre t0))))
end Go.Ev.Seat
end
section
/- Kinds of types that come in, checked by reckoning. -/
set_option linter.unusedVariables false
namespace Go.Ev
open Go.RowKit
mutual
def ccN (P : Program) : Nat → Cc → TypeId → Bool
  | 0, _, _ => false
  | n + 1, c, t => match c, P.underlying t with
    | .int k, some (.int k') => decide (k' = k)
    | .bool, some .bool => true
    | .str, some .string => true
    | .sl r, some (.slice e) => Nat.beq (P.cellsOf e) r.n && (match layN P n r.list e with
      | some [] => true
      | _ => false)
    | _, _ => false
/-- The cells of a type, taken off a list: what is left. -/
def layN (P : Program) : Nat → List Cc → TypeId → Option (List Cc)
  | 0, _, _ => none
  | n + 1, cs, t => match cs with
    | [] => none
    | c :: rest => bif ccN P n c t then some rest else match P.underlying t with
      | some (.struct fs) => fsN P n (c :: rest) 0 fs.toList
      | _ => none
def fsN (P : Program) : Nat → List Cc → Nat → List Field → Option (List Cc)
  | 0, _, _, _ => none
  | n + 1, cs, i, fs => match fs with
    | [] => some cs
    | f :: rest => bif Nat.beq f.offset i then (match layN P n cs f.type with
      | some cs' => bif Nat.beq (P.cellsOf f.type + cs'.length) cs.length then fsN P n cs' (i + P.cellsOf f.type) rest else none
      | none => none) else none
end
theorem kinds_ok {P : Program} : ∀ (n : Nat), (∀ c t, ccN P n c t = true → CcOk P c t) ∧ (∀ cs t rest, layN P n cs t = some rest → ∃ pre, cs = pre ++ rest ∧ LayOk P pre t) ∧ ∀ cs i fs rest, fsN P n cs i fs = some rest → ∃ pre, cs = pre ++ rest ∧ LayFs P pre i fs
  | 0 => ⟨fun _ _ h => by simp [ccN] at h, fun _ _ _ h => by simp [layN] at h, fun _ _ _ _ h => by simp [fsN] at h⟩
  | n + 1 => by
    obtain ⟨h1, h2, h3⟩ := kinds_ok (P := P) n
    refine ⟨fun c t h => ?_, fun cs t rest h => ?_, fun cs i fs rest h => ?_⟩
    · simp only [ccN] at h
      split at h
      · rename_i k k' hu
        have := of_decide_eq_true h
        subst this
        exact .int hu
      · rename_i hu; exact .bool hu
      · rename_i hu; exact .str hu
      · rename_i r e hu
        simp only [Bool.and_eq_true] at h
        obtain ⟨g1, g2⟩ := h
        split at g2
        · rename_i hl
          obtain ⟨pre, e1, e2⟩ := h2 _ _ _ hl
          rw [List.append_nil] at e1
          exact .sl hu (Nat.eq_of_beq_eq_true g1) (e1 ▸ e2)
        · cases g2
      · cases h
    · simp only [layN] at h
      split at h
      · cases h
      · rename_i c rest'
        cases hc : ccN P n c t with
        | true =>
          rw [hc] at h
          cases h
          exact ⟨[c], rfl, .one (h1 _ _ hc)⟩
        | false =>
          rw [hc] at h
          simp only [cond_false] at h
          split at h
          · rename_i fs hu
            obtain ⟨pre, e1, e2⟩ := h3 _ _ _ _ h
            exact ⟨pre, e1, .st hu e2⟩
          · cases h
    · simp only [fsN] at h
      split at h
      · cases h
        exact ⟨[], rfl, .nil⟩
      · rename_i f rest'
        cases ho : Nat.beq f.offset i with
        | false => rw [ho] at h; cases h
        | true =>
          rw [ho] at h
          simp only [cond_true] at h
          split at h
          · rename_i cs' hl
            obtain ⟨pre, e1, e2⟩ := h2 _ _ _ hl
            cases hb : Nat.beq (P.cellsOf f.type + cs'.length) cs.length with
            | false => rw [hb] at h; cases h
            | true =>
              rw [hb] at h
              simp only [cond_true] at h
              have hlen := Nat.eq_of_beq_eq_true hb
              have hp : P.cellsOf f.type = pre.length := by rw [e1, List.length_append] at hlen; omega
              obtain ⟨pre2, e3, e4⟩ := h3 _ _ _ _ h
              rw [hp] at e4
              refine ⟨pre ++ pre2, by rw [e1, e3, List.append_assoc], .cons (Nat.eq_of_beq_eq_true ho) hp e2 e4⟩
          · cases h
def ccB (P : Program) (c : Cc) (t : TypeId) : Bool := ccN P 100 c t
def rwB (P : Program) (r : Rw) (t : TypeId) : Bool := match layN P 100 r.list t with
  | some [] => true
  | _ => false
theorem ccB_ok {P : Program} (c : Cc) {t : TypeId} (h : ccB P c t = true) : CcOk P c t := (kinds_ok 100).1 c t h
theorem rwB_ok {P : Program} (r : Rw) {t : TypeId} (h : rwB P r t = true) : RwOk P r t := by
  unfold rwB at h
  split at h
  · rename_i hl
    obtain ⟨pre, e1, e2⟩ := (kinds_ok 100).2.1 _ _ _ hl
    rw [List.append_nil] at e1
    show LayOk P r.list t
    rw [e1]; exact e2
  · cases h
end Go.Ev
end
section
/- An argument of one cell. -/
set_option linter.unusedVariables false
namespace Go.Ev
theorem cells_one {P : Program} {W : World} {r : Reach} {base : Nat} {c : Cc} {t : TypeId} {v : Value} (h : CcOk P c t) (ok : Value.okWide P W r base t v) : v.cells.toList = [v] := by
  cases v with
  | agg cs =>
    exfalso
    unfold Value.okWide at ok
    cases h with
    | int h => rw [h] at ok; simp [Cell.okWide, Cell.ok, h] at ok
    | bool h => rw [h] at ok; simp [Cell.okWide, Cell.ok, h] at ok
    | str h => rw [h] at ok; simp [Cell.okWide, Cell.ok, h] at ok
    | sl h _ _ => rw [h] at ok; simp [Cell.okWide, Cell.ok, h] at ok
  | _ => rfl
end Go.Ev
end
