/- DocPlan: parts Fsl01Rune FsRuneSize Fsl01Cuts FsTextOk FsRunesTo FsCutOk FsEditOk FsEditDo FsEditsDo Fsl10Session FsSelOk Fsl02Small Fsl05Small Fsl08All FsStackOk Fsl10Fits Fsl10FitAll Fsl07Meet PDocF PUtf2 PMoveF FsDocOk PBs PDoc2 Fsl10Version Fsl09Word Fsl09Is FsReqOk PPlan FsReqEdits Fsl10Member, packed by squash.py. -/
import Derived.Test.YtmdnlehoeilmfaaGreatDoorZDocPlan0
import Derived.Test.YtmdnlehoeilmfaaGreatDoorZDocPlan1
import Derived.Test.YtmdnlehoeilmfaaGreatDoorZDocPlan2
import Derived.Test.YtmdnlehoeilmfaaGreatDoorZDocPlan3
set_option linter.unusedVariables false
set_option linter.unusedSimpArgs false
section
namespace Go.Ev.Seat
open Go.RowKit
set_option maxRecDepth 100000
set_option linter.unusedVariables false
set_option linter.unusedSimpArgs false
def vF (x0 : List Int) (x1 : Int) (x7 : Int) (x8 : Int) : St := { tm := ([(.l .no ah x0), (.s (.int .i64 x1)), .x, .x, .x, .x, .x, (.s (.int .i64 x7)), (.s (.int .i64 x8))] ++ List.replicate 65 .x), ob := [], nx := 0, io := [] }
def sH : Ss := { tm := (.cons (.l .no ah) (.cons (.int .i64) (.cons (.x) (.cons (.x) (.cons (.x) (.cons (.x) (.cons (.x) (.cons (.int .i64) (.cons (.int .i64) (.cons (.int .i64) (Ed 64))))))))))), ob := .nil, nx := 0, io := .nil }
def UZ (x0 : List Int) (x1 : Int) (x7 : Int) (x8 : Int) (x9 : Int) : sH.T := ((x0, (x1, ((), ((), ((), ((), ((), (x7, (x8, (x9, xd 64)))))))))), (), ())
def o7 (x0 : List Int) (x1 : Int) (x7 : Int) (x8 : Int) (x9 : Int) : St := { tm := ([(.l .no ah x0), (.s (.int .i64 x1)), .x, .x, .x, .x, .x, (.s (.int .i64 x7)), (.s (.int .i64 x8)), (.s (.int .i64 x9))] ++ List.replicate 64 .x), ob := [], nx := 0, io := [] }
theorem Sr (x0 : List Int) (x1 : Int) (x7 : Int) (x8 : Int) (x9 : Int) : sH.mk' (UZ x0 x1 x7 x8 x9) = (o7 x0 x1 x7 x8 x9) := by kernel_rfl
def U0 (d : sH.T) (f : (List Int) → Int → Int → Int → Int → Option aj) : Option aj := match d with | ((x0, (x1, (_, (_, (_, (_, (_, (x7, (x8, (x9, _)))))))))), _, _) => f x0 x1 x7 x8 x9
noncomputable def lK (x0 : List Int) (x1 : Int) (x7 : Int) (x8 : Int) (x9 : Int) (pW : (List Int) → Int → Int → Int → Int → Option aj) (k0 : (List Int) → Int → Int → Int → Option aj) : Option aj := (bif (decide (x9 < x7)) then (bif ((decide ((0 : Int) ≤ (IntKind.wrap .i64 (x1 + x9)))) && (decide ((IntKind.wrap .i64 (x1 + x9)) < (((List.length x0) : Nat) : Int)))) then (pW x0 x1 x7 (IntKind.wrap .i64 ((IntKind.wrap .i64 ((IntKind.wrap .i64 ((64 : Int) * x8)) + (IntKind.wrap .i64 (List.getD x0 (Int.toNat (IntKind.wrap .i64 (x1 + x9))) (0 : Int))))) - (128 : Int))) (IntKind.wrap .i64 (x9 + (1 : Int)))) else none) else (k0 x0 x1 x7 x8))
noncomputable def jR : Nat → (List Int) → Int → Int → Int → Int → ((List Int) → Int → Int → Int → Option aj) → Option aj
 | 0, _, _, _, _, _, _ => none
 | m + 1, x0, x1, x7, x8, x9, k0 => lK x0 x1 x7 x8 x9 (fun x0 x1 x7 x8 x9 => (jR m x0 x1 x7 x8 x9 k0)) k0
noncomputable def gY (x0 : List Int) (x1 : Int) (x7 : Int) (x8 : Int) (x9 : Int) (k0 : (List Int) → Int → Int → Int → Option aj) : Option aj := jR (List.length x0 + x1.toNat + x7.toNat + x8.toNat + x9.toNat + 2) x0 x1 x7 x8 x9 k0
noncomputable def zH : fG := (fun (σ : St) (K : Ex → St → Option aj) => (match sH.un σ with | some d => U0 d (fun x0 x1 x7 x8 x9 => gY x0 x1 x7 x8 x9 (fun x0 x1 x7 x8 => (K (.ext 1) (vF x0 x1 x7 x8)))) | none => none))
noncomputable abbrev uo : Env := En [(N.yR, true, Iu)] [(21, takeB [0, 3, 4, 5, 6, 7, 8] (.fork (.more 1 (.fork (.more 2 (.fork (.one 9 (takes [10]))) (.one 9 (.fork (.one 2 (takes [10])))))) (.one 9 (.fork (.one 1 (.fork (.one 2 (takes [10])))))))), [])] [(18, [0,1,7,8,9], [0,1,4,5,7,8], zH)] [] false 0 []
theorem Sv (m : Nat) (x0 : List Int) (x1 : Int) (x7 : Int) (x8 : Int) (x9 : Int) (K : Ex → St → Option aj) : rounds (run uo (aA F.lH 18)) [0,1,7,8,9] [0,1,4,5,7,8] (m + 1) (o7 x0 x1 x7 x8 x9) K = lK x0 x1 x7 x8 x9 (fun x0 x1 x7 x8 x9 => (rounds (run uo (aA F.lH 18)) [0,1,7,8,9] [0,1,4,5,7,8] m (o7 x0 x1 x7 x8 x9) K)) (fun x0 x1 x7 x8 => (K (.ext 1) (vF x0 x1 x7 x8))) := by kernel_rfl
theorem MX (K : Ex → St → Option aj) : ∀ m : Nat, (∀ (x0 : List Int) (x1 : Int) (x7 : Int) (x8 : Int) (x9 : Int), rounds (run uo (aA F.lH 18)) [0,1,7,8,9] [0,1,4,5,7,8] m (o7 x0 x1 x7 x8 x9) K = jR m x0 x1 x7 x8 x9 (fun x0 x1 x7 x8 => (K (.ext 1) (vF x0 x1 x7 x8))))
 | 0 => (fun _ _ _ _ _ => rfl)
 | m + 1 => (fun x0 x1 x7 x8 x9 => (by rw [Sv, show (fun x0 x1 x7 x8 x9 => (rounds (run uo (aA F.lH 18)) [0,1,7,8,9] [0,1,4,5,7,8] m (o7 x0 x1 x7 x8 x9) K)) = (fun x0 x1 x7 x8 x9 => (jR m x0 x1 x7 x8 x9 (fun x0 x1 x7 x8 => (K (.ext 1) (vF x0 x1 x7 x8))))) from funext fun x0 => funext fun x1 => funext fun x7 => funext fun x8 => funext fun x9 => (MX K m) x0 x1 x7 x8 x9]; rfl))
theorem Ql : dL uo (aA F.lH 18) := by
 refine dG (n := 18) (F := zH) (by kernel_rfl) rfl (li := [0,1,7,8,9]) (lo := [0,1,4,5,7,8]) rfl (fun σ K r hr => ?_)
 unfold zH at hr
 split at hr
 ·rename_i d hd
  rw [Ss.fF hd]
  exact ⟨_, ((congrArg (fun z => rounds (run uo (aA F.lH 18)) [0,1,7,8,9] [0,1,4,5,7,8] _ z K) (Sr _ _ _ _ _)).trans ((MX K _) _ _ _ _ _)).trans hr⟩
 ·cases hr
noncomputable def MZ (d : List Int) (k : Int) (K : aj → Option aj) : Option aj := (bif (decide (k < (0 : Int))) then K ((.t [(.s (.int .i64 (-(1 : Int)))), (.s (.int .i64 (0 : Int)))]), []) else (bif (decide (k ≥ (((List.length d) : Nat) : Int))) then K ((.t [(.s (.int .i64 (-(1 : Int)))), (.s (.int .i64 (0 : Int)))]), []) else (bif ((decide ((0 : Int) ≤ k)) && (decide (k < (((List.length d) : Nat) : Int)))) then (bif (decide ((IntKind.wrap .i64 (List.getD d (Int.toNat k) (0 : Int))) ≥ (240 : Int))) then (bif (decide ((4 : Int) > (IntKind.wrap .i64 ((((List.length d) : Nat) : Int) - k)))) then K ((.t [(.s (.int .i64 (-(1 : Int)))), (.s (.int .i64 (0 : Int)))]), []) else (gY d k (4 : Int) (IntKind.wrap .i64 ((IntKind.wrap .i64 (List.getD d (Int.toNat k) (0 : Int))) - (240 : Int))) (1 : Int) (fun y0 y1 y2 y3 => (bif (((decide ((0 : Int) ≤ y1)) && (decide (y1 ≤ (IntKind.wrap .i64 (y1 + y2))))) && (decide ((IntKind.wrap .i64 (y1 + y2)) ≤ (((List.length y0) : Nat) : Int)))) then (meet ((meet ((bif (!((ByteArray.toList (oJ (wB y3))) == (ByteArray.toList (oJ (List.drop (Int.toNat y1) (List.take (Int.toNat (IntKind.wrap .i64 (y1 + y2))) y0)))))) then K ((.t [(.s (.int .i64 (-(1 : Int)))), (.s (.int .i64 (0 : Int)))]), []) else K ((.t [(.s (.int .i64 y3)), (.s (.int .i64 y2))]), []))) ((bif (!((ByteArray.toList (oJ (wB y3))) == (ByteArray.toList (oJ (List.drop (Int.toNat y1) (List.take (Int.toNat (IntKind.wrap .i64 (y1 + y2))) y0)))))) then K ((.t [(.s (.int .i64 (-(1 : Int)))), (.s (.int .i64 (0 : Int)))]), []) else K ((.t [(.s (.int .i64 y3)), (.s (.int .i64 y2))]), []))))) ((bif (!((ByteArray.toList (oJ (wB y3))) == (ByteArray.toList (oJ (List.drop (Int.toNat y1) (List.take (Int.toNat (IntKind.wrap .i64 (y1 + y2))) y0)))))) then K ((.t [(.s (.int .i64 (-(1 : Int)))), (.s (.int .i64 (0 : Int)))]), []) else K ((.t [(.s (.int .i64 y3)), (.s (.int .i64 y2))]), [])))) else none)))) else (bif (decide ((IntKind.wrap .i64 (List.getD d (Int.toNat k) (0 : Int))) ≥ (224 : Int))) then (bif (decide ((3 : Int) > (IntKind.wrap .i64 ((((List.length d) : Nat) : Int) - k)))) then K ((.t [(.s (.int .i64 (-(1 : Int)))), (.s (.int .i64 (0 : Int)))]), []) else (gY d k (3 : Int) (IntKind.wrap .i64 ((IntKind.wrap .i64 (List.getD d (Int.toNat k) (0 : Int))) - (224 : Int))) (1 : Int) (fun y4 y5 y6 y7 => (bif (((decide ((0 : Int) ≤ y5)) && (decide (y5 ≤ (IntKind.wrap .i64 (y5 + y6))))) && (decide ((IntKind.wrap .i64 (y5 + y6)) ≤ (((List.length y4) : Nat) : Int)))) then (meet ((meet ((bif (!((ByteArray.toList (oJ (wB y7))) == (ByteArray.toList (oJ (List.drop (Int.toNat y5) (List.take (Int.toNat (IntKind.wrap .i64 (y5 + y6))) y4)))))) then K ((.t [(.s (.int .i64 (-(1 : Int)))), (.s (.int .i64 (0 : Int)))]), []) else K ((.t [(.s (.int .i64 y7)), (.s (.int .i64 y6))]), []))) ((bif (!((ByteArray.toList (oJ (wB y7))) == (ByteArray.toList (oJ (List.drop (Int.toNat y5) (List.take (Int.toNat (IntKind.wrap .i64 (y5 + y6))) y4)))))) then K ((.t [(.s (.int .i64 (-(1 : Int)))), (.s (.int .i64 (0 : Int)))]), []) else K ((.t [(.s (.int .i64 y7)), (.s (.int .i64 y6))]), []))))) ((bif (!((ByteArray.toList (oJ (wB y7))) == (ByteArray.toList (oJ (List.drop (Int.toNat y5) (List.take (Int.toNat (IntKind.wrap .i64 (y5 + y6))) y4)))))) then K ((.t [(.s (.int .i64 (-(1 : Int)))), (.s (.int .i64 (0 : Int)))]), []) else K ((.t [(.s (.int .i64 y7)), (.s (.int .i64 y6))]), [])))) else none)))) else (bif (decide ((IntKind.wrap .i64 (List.getD d (Int.toNat k) (0 : Int))) ≥ (192 : Int))) then (bif (decide ((2 : Int) > (IntKind.wrap .i64 ((((List.length d) : Nat) : Int) - k)))) then K ((.t [(.s (.int .i64 (-(1 : Int)))), (.s (.int .i64 (0 : Int)))]), []) else (gY d k (2 : Int) (IntKind.wrap .i64 ((IntKind.wrap .i64 (List.getD d (Int.toNat k) (0 : Int))) - (192 : Int))) (1 : Int) (fun y8 y9 y10 y11 => (bif (((decide ((0 : Int) ≤ y9)) && (decide (y9 ≤ (IntKind.wrap .i64 (y9 + y10))))) && (decide ((IntKind.wrap .i64 (y9 + y10)) ≤ (((List.length y8) : Nat) : Int)))) then (meet ((meet ((bif (!((ByteArray.toList (oJ (wB y11))) == (ByteArray.toList (oJ (List.drop (Int.toNat y9) (List.take (Int.toNat (IntKind.wrap .i64 (y9 + y10))) y8)))))) then K ((.t [(.s (.int .i64 (-(1 : Int)))), (.s (.int .i64 (0 : Int)))]), []) else K ((.t [(.s (.int .i64 y11)), (.s (.int .i64 y10))]), []))) ((bif (!((ByteArray.toList (oJ (wB y11))) == (ByteArray.toList (oJ (List.drop (Int.toNat y9) (List.take (Int.toNat (IntKind.wrap .i64 (y9 + y10))) y8)))))) then K ((.t [(.s (.int .i64 (-(1 : Int)))), (.s (.int .i64 (0 : Int)))]), []) else K ((.t [(.s (.int .i64 y11)), (.s (.int .i64 y10))]), []))))) ((bif (!((ByteArray.toList (oJ (wB y11))) == (ByteArray.toList (oJ (List.drop (Int.toNat y9) (List.take (Int.toNat (IntKind.wrap .i64 (y9 + y10))) y8)))))) then K ((.t [(.s (.int .i64 (-(1 : Int)))), (.s (.int .i64 (0 : Int)))]), []) else K ((.t [(.s (.int .i64 y11)), (.s (.int .i64 y10))]), [])))) else none)))) else (bif (decide ((1 : Int) > (IntKind.wrap .i64 ((((List.length d) : Nat) : Int) - k)))) then K ((.t [(.s (.int .i64 (-(1 : Int)))), (.s (.int .i64 (0 : Int)))]), []) else (gY d k (1 : Int) (IntKind.wrap .i64 (List.getD d (Int.toNat k) (0 : Int))) (1 : Int) (fun y12 y13 y14 y15 => (bif (((decide ((0 : Int) ≤ y13)) && (decide (y13 ≤ (IntKind.wrap .i64 (y13 + y14))))) && (decide ((IntKind.wrap .i64 (y13 + y14)) ≤ (((List.length y12) : Nat) : Int)))) then (meet ((meet ((bif (!((ByteArray.toList (oJ (wB y15))) == (ByteArray.toList (oJ (List.drop (Int.toNat y13) (List.take (Int.toNat (IntKind.wrap .i64 (y13 + y14))) y12)))))) then K ((.t [(.s (.int .i64 (-(1 : Int)))), (.s (.int .i64 (0 : Int)))]), []) else K ((.t [(.s (.int .i64 y15)), (.s (.int .i64 y14))]), []))) ((bif (!((ByteArray.toList (oJ (wB y15))) == (ByteArray.toList (oJ (List.drop (Int.toNat y13) (List.take (Int.toNat (IntKind.wrap .i64 (y13 + y14))) y12)))))) then K ((.t [(.s (.int .i64 (-(1 : Int)))), (.s (.int .i64 (0 : Int)))]), []) else K ((.t [(.s (.int .i64 y15)), (.s (.int .i64 y14))]), []))))) ((bif (!((ByteArray.toList (oJ (wB y15))) == (ByteArray.toList (oJ (List.drop (Int.toNat y13) (List.take (Int.toNat (IntKind.wrap .i64 (y13 + y14))) y12)))))) then K ((.t [(.s (.int .i64 (-(1 : Int)))), (.s (.int .i64 (0 : Int)))]), []) else K ((.t [(.s (.int .i64 y15)), (.s (.int .i64 y14))]), [])))) else none))))))) else none)))
theorem afP (d : List Int) (k : Int) (K : aj → Option aj) : dS uo true F.lH [.l .no ah d, .s (.int .i64 k)] K = MZ d k K := by kernel_rfl
theorem E8 {m : Nat} {d : List Int} {k n r i : Int} {k0 : List Int → Int → Int → Int → Option aj} (hd : aO d = true) (h0 : 0 ≤ k) (hi : 0 < i) (hn : i < n) (hl : k + i < ((d.length : Nat) : Int)) (hr : -1000000000 ≤ r ∧ r ≤ 1000000000) :
  jR (m + 1) d k n r i k0 = jR m d k n (64 * r + d.getD (k + i).toNat 0 - 128) (i + 1) k0 := by
 have hb := zy hd (k + i).toNat
 have hlen := oP hd
 show lK d k n r i _ k0 = _
 unfold lK
 rw [decide_eq_true hn, wrap_in (n := k + i) (by omega) (by omega), decide_eq_true (show 0 ≤ k + i by omega), decide_eq_true hl, wrap_in (n := d.getD (k + i).toNat 0) (by omega) (by omega), wrap_in (n := 64 * r) (by omega) (by omega), wrap_in (n := 64 * r + d.getD (k + i).toNat 0) (by omega) (by omega), wrap_in (n := 64 * r + d.getD (k + i).toNat 0 - 128) (by omega) (by omega), wrap_in (n := i + 1) (by omega) (by omega)]
 rfl
theorem rune_end {m : Nat} {d : List Int} {k n r i : Int} {k0 : List Int → Int → Int → Int → Option aj} (hn : ¬ i < n) : jR (m + 1) d k n r i k0 = k0 d k n r := by
 show lK d k n r i _ k0 = _
 unfold lK
 rw [decide_eq_false hn]; rfl
theorem al9 {K : aj → Option aj} {c : Prop} [Decidable c] {r n v s : Int} (h : (if c then (r, n) else (-1, 0)) = (v, s)) :
  (bif !(decide c) then K ((.t [(.s (.int .i64 (-(1 : Int)))), (.s (.int .i64 (0 : Int)))]), []) else K ((.t [(.s (.int .i64 r)), (.s (.int .i64 n))]), [])) = K (.t [sc v, sc s], []) := by
 by_cases hc : c
 ·rw [if_pos hc] at h
  obtain ⟨rfl, rfl⟩ := Prod.mk.inj h
  rw [decide_eq_true hc]; rfl
 ·rw [if_neg hc] at h
  obtain ⟨h1, h2⟩ := Prod.mk.inj h
  rw [decide_eq_false hc, ← h1, ← h2]; rfl
theorem akl (d : List Int) (k n : Nat) : List.drop k (List.take (k + n) d) = (d.drop k).take n := by
 rw [List.drop_take]; congr 1; omega
theorem adI {K : aj → Option aj} {d xs : List Int} {k r n v s : Int} (hd : aO d = true) (h0 : 0 ≤ k) (hn0 : 0 ≤ n) (hn : n ≤ 4) (hl : k + n ≤ ((d.length : Nat) : Int)) (hx : (d.drop k.toNat).take n.toNat = xs) (h : (if wB r = xs then (r, n) else (-1, 0)) = (v, s)) :
    (bif (((decide ((0 : Int) ≤ k)) && (decide (k ≤ (IntKind.wrap .i64 (k + n))))) && (decide ((IntKind.wrap .i64 (k + n)) ≤ (((List.length d) : Nat) : Int)))) then
       (meet
        (meet
         (bif (!((ByteArray.toList (oJ (wB r))) == (ByteArray.toList (oJ (List.drop (Int.toNat k) (List.take (Int.toNat (IntKind.wrap .i64 (k + n))) d)))))) then
          K ((.t [(.s (.int .i64 (-(1 : Int)))), (.s (.int .i64 (0 : Int)))]), [])
          else K ((.t [(.s (.int .i64 r)), (.s (.int .i64 n))]), []))
         (bif (!((ByteArray.toList (oJ (wB r))) == (ByteArray.toList (oJ (List.drop (Int.toNat k) (List.take (Int.toNat (IntKind.wrap .i64 (k + n))) d)))))) then
          K ((.t [(.s (.int .i64 (-(1 : Int)))), (.s (.int .i64 (0 : Int)))]), [])
          else K ((.t [(.s (.int .i64 r)), (.s (.int .i64 n))]), [])))
        (bif (!((ByteArray.toList (oJ (wB r))) == (ByteArray.toList (oJ (List.drop (Int.toNat k) (List.take (Int.toNat (IntKind.wrap .i64 (k + n))) d)))))) then
         K ((.t [(.s (.int .i64 (-(1 : Int)))), (.s (.int .i64 (0 : Int)))]), [])
         else K ((.t [(.s (.int .i64 r)), (.s (.int .i64 n))]), [])))
       else none) = K (.t [sc v, sc s], []) := by
  have hlen := oP hd
  rw [wrap_in (n := k + n) (by omega) (by omega), decide_eq_true h0, decide_eq_true (show k ≤ k + n by omega), decide_eq_true hl]
  rw [meet_self, meet_self]
  have e : List.drop (Int.toNat k) (List.take (Int.toNat (k + n)) d) = xs := by
    rw [← hx, show (k + n).toNat = k.toNat + n.toNat by omega]; exact akl d _ _
  rw [e, adv (akh r) (fun y hy => by
    rw [← hx] at hy
    exact wL hd (List.mem_of_mem_drop (List.mem_of_mem_take hy)))]
  exact al9 h
theorem yX {xs : List Int} (h : 1 ≤ xs.length) : ∃ a t, xs = a :: t := by
 cases xs with
 | nil => simp at h
 | cons a t => exact ⟨a, t, rfl⟩
def Na : Sm := bD [.l ah, .i] (fun d => aO d.1) (fun d => (.t [sc (al2 d.1 d.2.1), sc (aaR d.1 d.2.1)], []))
theorem afQ (d : List Int) (k : Int) (h : (aO d) = true) (K : aj → Option aj) : MZ d k K = K (.t [sc (al2 d k), sc (aaR d k)], []) := by
 unfold MZ al2 aaR inD
 have hlen := oP h
 by_cases h1 : k < 0
 ·rw [decide_eq_true h1, decide_eq_false (show ¬ 0 ≤ k by omega)]; rfl
 by_cases h2 : k ≥ ((d.length : Nat) : Int)
 ·rw [decide_eq_false h1, decide_eq_true h2, decide_eq_true (show 0 ≤ k by omega), decide_eq_false (show ¬ k < ((d.length : Nat) : Int) by omega)]; rfl
 have hbk := zy h k.toNat
 rw [decide_eq_false h1, decide_eq_false h2, decide_eq_true (show 0 ≤ k by omega), decide_eq_true (show k < ((d.length : Nat) : Int) by omega), wrap_in (n := d.getD k.toNat 0) (by omega) (by omega), wrap_in (n := ((d.length : Nat) : Int) - k) (by omega) (by omega)]
 simp only [Bool.and_true, cond_true, cond_false]
 have hg : ∀ i : Nat, (d.drop k.toNat).getD i 0 = d.getD (k + (i : Nat)).toNat 0 := fun i => by
  rw [getD_drop]; congr 1; omega
 have hg0 := hg 0
 rw [show (k + ((0 : Nat) : Int)).toNat = k.toNat by omega] at hg0
 have hdl : (d.drop k.toNat).length = d.length - k.toNat := by simp
 have hbytes := fun i => zy (oQ h k.toNat) i
 by_cases c4 : d.getD k.toNat 0 ≥ 240
 ·rw [decide_eq_true c4]
  by_cases s4 : (4 : Int) > ((d.length : Nat) : Int) - k
  ·rw [decide_eq_true s4]
   have e := JY (anS (xs := d.drop k.toNat) (by rw [hg0]; exact c4) (by omega))
   obtain ⟨e1, e2⟩ := Prod.mk.inj e
   rw [e1, e2]; rfl
  ·rw [decide_eq_false s4]
   unfold gY
   rw [wrap_in (n := d.getD k.toNat 0 - 240) (by omega) (by omega)]
   obtain ⟨m, hm⟩ : ∃ m, List.length d + k.toNat + (4 : Int).toNat + (d.getD k.toNat 0 - 240).toNat + (1 : Int).toNat + 2 = m + 4 := ⟨List.length d + k.toNat + (4 : Int).toNat + (d.getD k.toNat 0 - 240).toNat + (1 : Int).toNat + 2 - 4, by omega⟩
   have b1 := zy h (k + 1).toNat
   have b2 := zy h (k + (1 + 1)).toNat
   rw [hm, E8 h (by omega) (by omega) (by omega) (by omega) (by omega), E8 h (by omega) (by omega) (by omega) (by omega) (by omega), E8 h (by omega) (by omega) (by omega) (by omega) (by omega), rune_end (by omega)]
   refine adI h (by omega) (by omega) (by omega) (by omega) (xs := [(d.drop k.toNat).getD 0 0, (d.drop k.toNat).getD 1 0, (d.drop k.toNat).getD 2 0, (d.drop k.toNat).getD 3 0]) ?_ ?_
   ·obtain ⟨a, t, e⟩ := yX (xs := d.drop k.toNat) (by omega)
    obtain ⟨b, t2, e2⟩ := yX (xs := t) (by rw [e] at hdl; simp at hdl; omega)
    obtain ⟨c, t3, e3⟩ := yX (xs := t2) (by rw [e, e2] at hdl; simp at hdl; omega)
    obtain ⟨f, t4, e4⟩ := yX (xs := t3) (by rw [e, e2, e3] at hdl; simp at hdl; omega)
    rw [e, e2, e3, e4]; rfl
   ·obtain ⟨a, t, e⟩ := yX (xs := d.drop k.toNat) (by omega)
    obtain ⟨b, t2, e2⟩ := yX (xs := t) (by rw [e] at hdl; simp at hdl; omega)
    obtain ⟨c, t3, e3⟩ := yX (xs := t2) (by rw [e, e2] at hdl; simp at hdl; omega)
    obtain ⟨f, t4, e4⟩ := yX (xs := t3) (by rw [e, e2, e3] at hdl; simp at hdl; omega)
    have g1 := hg 1
    have g2 := hg 2
    have g3 := hg 3
    have q0 := hbytes 0
    have q1 := hbytes 1
    have q2 := hbytes 2
    have q3 := hbytes 3
    rw [e, e2, e3, e4] at hg0 g1 g2 g3 q0 q1 q2 q3 ⊢
    rw [show (k + 1).toNat = (k + ((1 : Nat) : Int)).toNat from rfl, show (k + (1 + 1)).toNat = (k + ((2 : Nat) : Int)).toNat by congr 1, show (k + (1 + 1 + 1)).toNat = (k + ((3 : Nat) : Int)).toNat by congr 1, ← g1, ← g2, ← g3, ← hg0]
    exact apZ (by rw [← hg0] at c4; exact c4) q0.2 q1 q2 q3
 rw [decide_eq_false c4]
 by_cases c3 : d.getD k.toNat 0 ≥ 224
 ·rw [decide_eq_true c3]
  by_cases s3 : (3 : Int) > ((d.length : Nat) : Int) - k
  ·rw [decide_eq_true s3]
   have e := JY (anT (xs := d.drop k.toNat) (by rw [hg0]; exact c3) (by rw [hg0]; omega) (by omega))
   obtain ⟨e1, e2⟩ := Prod.mk.inj e
   rw [e1, e2]; rfl
  ·rw [decide_eq_false s3]
   unfold gY
   rw [wrap_in (n := d.getD k.toNat 0 - 224) (by omega) (by omega)]
   obtain ⟨m, hm⟩ : ∃ m, List.length d + k.toNat + (3 : Int).toNat + (d.getD k.toNat 0 - 224).toNat + (1 : Int).toNat + 2 = m + 3 := ⟨List.length d + k.toNat + (3 : Int).toNat + (d.getD k.toNat 0 - 224).toNat + (1 : Int).toNat + 2 - 3, by omega⟩
   have b1 := zy h (k + 1).toNat
   rw [hm]
   simp only [cond_false, cond_true]
   rw [E8 h (by omega) (by omega) (by omega) (by omega) (by omega), E8 h (by omega) (by omega) (by omega) (by omega) (by omega), rune_end (by omega)]
   refine adI h (by omega) (by omega) (by omega) (by omega) (xs := [(d.drop k.toNat).getD 0 0, (d.drop k.toNat).getD 1 0, (d.drop k.toNat).getD 2 0]) ?_ ?_
   ·obtain ⟨a, t, e⟩ := yX (xs := d.drop k.toNat) (by omega)
    obtain ⟨b, t2, e2⟩ := yX (xs := t) (by rw [e] at hdl; simp at hdl; omega)
    obtain ⟨c, t3, e3⟩ := yX (xs := t2) (by rw [e, e2] at hdl; simp at hdl; omega)
    rw [e, e2, e3]; rfl
   ·obtain ⟨a, t, e⟩ := yX (xs := d.drop k.toNat) (by omega)
    obtain ⟨b, t2, e2⟩ := yX (xs := t) (by rw [e] at hdl; simp at hdl; omega)
    obtain ⟨c, t3, e3⟩ := yX (xs := t2) (by rw [e, e2] at hdl; simp at hdl; omega)
    have g1 := hg 1
    have g2 := hg 2
    have q0 := hbytes 0
    have q1 := hbytes 1
    have q2 := hbytes 2
    rw [e, e2, e3] at hg0 g1 g2 q0 q1 q2 ⊢
    rw [show (k + 1).toNat = (k + ((1 : Nat) : Int)).toNat from rfl, show (k + (1 + 1)).toNat = (k + ((2 : Nat) : Int)).toNat by congr 1, ← g1, ← g2, ← hg0]
    exact apY (by rw [← hg0] at c3; exact c3) (by rw [← hg0] at c4; exact Int.not_le.1 c4) q1 q2
 rw [decide_eq_false c3]
 by_cases c2 : d.getD k.toNat 0 ≥ 192
 ·rw [decide_eq_true c2]
  by_cases s2 : (2 : Int) > ((d.length : Nat) : Int) - k
  ·rw [decide_eq_true s2]
   have e := JY (anU (xs := d.drop k.toNat) (by rw [hg0]; exact c2) (by rw [hg0]; omega) (by omega))
   obtain ⟨e1, e2⟩ := Prod.mk.inj e
   rw [e1, e2]; rfl
  ·rw [decide_eq_false s2]
   unfold gY
   rw [wrap_in (n := d.getD k.toNat 0 - 192) (by omega) (by omega)]
   obtain ⟨m, hm⟩ : ∃ m, List.length d + k.toNat + (2 : Int).toNat + (d.getD k.toNat 0 - 192).toNat + (1 : Int).toNat + 2 = m + 2 := ⟨List.length d + k.toNat + (2 : Int).toNat + (d.getD k.toNat 0 - 192).toNat + (1 : Int).toNat + 2 - 2, by omega⟩
   rw [hm]
   simp only [cond_false, cond_true]
   rw [E8 h (by omega) (by omega) (by omega) (by omega) (by omega), rune_end (by omega)]
   refine adI h (by omega) (by omega) (by omega) (by omega) (xs := [(d.drop k.toNat).getD 0 0, (d.drop k.toNat).getD 1 0]) ?_ ?_
   ·obtain ⟨a, t, e⟩ := yX (xs := d.drop k.toNat) (by omega)
    obtain ⟨b, t2, e2⟩ := yX (xs := t) (by rw [e] at hdl; simp at hdl; omega)
    rw [e, e2]; rfl
   ·obtain ⟨a, t, e⟩ := yX (xs := d.drop k.toNat) (by omega)
    obtain ⟨b, t2, e2⟩ := yX (xs := t) (by rw [e] at hdl; simp at hdl; omega)
    have g1 := hg 1
    have q0 := hbytes 0
    have q1 := hbytes 1
    rw [e, e2] at hg0 g1 q0 q1 ⊢
    rw [show (k + 1).toNat = (k + ((1 : Nat) : Int)).toNat from rfl, ← g1, ← hg0]
    exact apX (by rw [← hg0] at c2; exact c2) (by rw [← hg0] at c3; exact Int.not_le.1 c3) q1
 rw [decide_eq_false c2, decide_eq_false (show ¬ (1 : Int) > ((d.length : Nat) : Int) - k by omega)]
 unfold gY
 obtain ⟨m, hm⟩ : ∃ m, List.length d + k.toNat + (1 : Int).toNat + (d.getD k.toNat 0).toNat + (1 : Int).toNat + 2 = m + 1 := ⟨List.length d + k.toNat + (1 : Int).toNat + (d.getD k.toNat 0).toNat + (1 : Int).toNat + 2 - 1, by omega⟩
 rw [hm]
 simp only [cond_false, cond_true]
 rw [rune_end (by omega)]
 refine adI h (by omega) (by omega) (by omega) (by omega) (xs := [(d.drop k.toNat).getD 0 0]) ?_ ?_
 ·obtain ⟨a, t, e⟩ := yX (xs := d.drop k.toNat) (by omega)
  rw [e]; rfl
 ·obtain ⟨a, t, e⟩ := yX (xs := d.drop k.toNat) (by omega)
  have q0 := hbytes 0
  rw [e] at hg0 q0 ⊢
  rw [← hg0]
  exact apW q0.1 (by rw [← hg0] at c2; exact Int.not_le.1 c2)
theorem aaW : aT prog I N.lH true Na := lN (aU (bf Xj bn) (l := [(N.yR, true, Iu)]) (p := [(21, takeB [0, 3, 4, 5, 6, 7, 8] (.fork (.more 1 (.fork (.more 2 (.fork (.one 9 (takes [10]))) (.one 9 (.fork (.one 2 (takes [10])))))) (.one 9 (.fork (.one 1 (.fork (.one 2 (takes [10])))))))), [])]) (ls := [(18, [0,1,7,8,9], [0,1,4,5,7,8], zH)]) (lend := []) (focus := false) (fuel := 0) (give := []) (fn := F.lH) (by kernel_rfl) (by kernel_rfl) (by kernel_rfl) (by kernel_rfl) (cs := [aA F.lH 18]) (by kernel_rfl) (dw Ql aJ)) (aK fun d K h => (afP d.1 d.2.1 K).trans (afQ d.1 d.2.1 h K))
end Go.Ev.Seat
end
section
namespace Go.Ev.Seat
open Go.RowKit
set_option maxRecDepth 100000
set_option linter.unusedVariables false
set_option linter.unusedSimpArgs false
noncomputable abbrev adJ : Env := En [(N.lH, true, Na)] [] [] [] false 0 []
noncomputable def Ko (d : List Int) (k : Int) (K : aj → Option aj) : Option aj := (bif (aO d) then K ((.s (.int .i64 (aaR d k))), []) else none)
theorem adK (d : List Int) (k : Int) (K : aj → Option aj) : dS adJ true F.Bd [.l .no ah d, .s (.int .i64 k)] K = Ko d k K := by kernel_rfl
def Kq : Sm := bD [.l ah, .i] (fun d => aO d.1) (fun d => (sc (aaR d.1 d.2.1), []))
theorem adL (d : List Int) (k : Int) (h : (aO d) = true) (K : aj → Option aj) : Ko d k K = K (sc (aaR d k), []) := by
 unfold Ko; rw [h]; rfl
theorem Zn : aT prog I N.Bd true Kq := lN (aU (bf aaW bn) (l := [(N.lH, true, Na)]) (p := []) (ls := []) (lend := []) (focus := false) (fuel := 0) (give := []) (fn := F.Bd) (by kernel_rfl) (by kernel_rfl) (by kernel_rfl) (by kernel_rfl) (cs := []) (by kernel_rfl) aJ) (aK fun d K h => (adK d.1 d.2.1 K).trans (adL d.1 d.2.1 h K))
end Go.Ev.Seat
end
section
namespace Go.Ev.Seat
open Go.RowKit
set_option maxRecDepth 100000
set_option linter.unusedVariables false
set_option linter.unusedSimpArgs false
def xu (x4 : Int) (o0 : List Int) : St := { tm := ([.x, .x, .nl, (.w 0), (.s (.int .i64 x4))] ++ List.replicate 25 .x), ob := [(0, (.arr true true FN o0))], nx := 1, io := [] }
def xw (x4 : Int) (o0 : List Int) : St := { tm := ([.x, .x, .x, (.w 0), (.s (.int .i64 x4))] ++ List.replicate 25 .x), ob := [(0, (.arr true true FN o0))], nx := 1, io := [] }
def vG : Ss := { tm := (.cons (.l .no ah) (.cons (.x) (.cons (.x) (.cons (.w 0) (.cons (.int .i64) (Ed 25)))))), ob := (.arr true true FN .nil), nx := 1, io := .nil }
def Xk (x0 : List Int) (x4 : Int) (o0 : List Int) : vG.T := ((x0, ((), ((), ((), (x4, xd 25))))), (o0, ()), ())
def qM (x0 : List Int) (x4 : Int) (o0 : List Int) : St := { tm := ([(.l .no ah x0), .x, .x, (.w 0), (.s (.int .i64 x4))] ++ List.replicate 25 .x), ob := [(0, (.arr true true FN o0))], nx := 1, io := [] }
theorem U1 (x0 : List Int) (x4 : Int) (o0 : List Int) : vG.mk' (Xk x0 x4 o0) = (qM x0 x4 o0) := by kernel_rfl
def Xl (d : vG.T) (f : (List Int) → Int → (List Int) → Option aj) : Option aj := match d with | ((x0, (_, (_, (_, (x4, _))))), (o0, _), _) => f x0 x4 o0
noncomputable def xA (x0 : List Int) (x4 : Int) (o0 : List Int) (pW : (List Int) → Int → (List Int) → Option aj) (k0 : Int → (List Int) → Option aj) (k1 : Int → (List Int) → Option aj) : Option aj := (bif (decide (x4 < (((List.length x0) : Nat) : Int))) then (bif (aO x0) then (bif ((aaR x0 x4) == (0 : Int)) then (k0 x4 o0) else (bif (Nat.ble (((List.length o0) + (List.length (x4 :: ([] : List Int)))) * 8) 140737488355328) then (pW x0 (IntKind.wrap .i64 (x4 + (aaR x0 x4))) (o0 ++ (x4 :: ([] : List Int)))) else none)) else none) else (k1 x4 o0))
noncomputable def qN : Nat → (List Int) → Int → (List Int) → (Int → (List Int) → Option aj) → (Int → (List Int) → Option aj) → Option aj
 | 0, _, _, _, _, _ => none
 | m + 1, x0, x4, o0, k0, k1 => xA x0 x4 o0 (fun x0 x4 o0 => (qN m x0 x4 o0 k0 k1)) k0 k1
noncomputable def Dz (x0 : List Int) (x4 : Int) (o0 : List Int) (k0 : Int → (List Int) → Option aj) (k1 : Int → (List Int) → Option aj) : Option aj := qN (List.length x0 + x4.toNat + List.length o0 + 2) x0 x4 o0 k0 k1
noncomputable def Ci : fG := (fun (σ : St) (K : Ex → St → Option aj) => (match vG.un σ with | some d => Xl d (fun x0 x4 o0 => Dz x0 x4 o0 (fun x4 o0 => (K .ret (xu x4 o0))) (fun x4 o0 => (K (.ext 0) (xw x4 o0)))) | none => none))
noncomputable abbrev uq : Env := En [(N.Bd, true, Kq)] [] [(5, [0,3,4], [2,3,4], Ci)] [] false 0 []
theorem U2 (m : Nat) (x0 : List Int) (x4 : Int) (o0 : List Int) (K : Ex → St → Option aj) : rounds (run uq (aA F.jP 5)) [0,3,4] [2,3,4] (m + 1) (qM x0 x4 o0) K = xA x0 x4 o0 (fun x0 x4 o0 => (rounds (run uq (aA F.jP 5)) [0,3,4] [2,3,4] m (qM x0 x4 o0) K)) (fun x4 o0 => (K .ret (xu x4 o0))) (fun x4 o0 => (K (.ext 0) (xw x4 o0))) := by kernel_rfl
theorem O8 (K : Ex → St → Option aj) : ∀ m : Nat, (∀ (x0 : List Int) (x4 : Int) (o0 : List Int), rounds (run uq (aA F.jP 5)) [0,3,4] [2,3,4] m (qM x0 x4 o0) K = qN m x0 x4 o0 (fun x4 o0 => (K .ret (xu x4 o0))) (fun x4 o0 => (K (.ext 0) (xw x4 o0))))
 | 0 => (fun _ _ _ => rfl)
 | m + 1 => (fun x0 x4 o0 => (by rw [U2, show (fun x0 x4 o0 => (rounds (run uq (aA F.jP 5)) [0,3,4] [2,3,4] m (qM x0 x4 o0) K)) = (fun x0 x4 o0 => (qN m x0 x4 o0 (fun x4 o0 => (K .ret (xu x4 o0))) (fun x4 o0 => (K (.ext 0) (xw x4 o0))))) from funext fun x0 => funext fun x4 => funext fun o0 => (O8 K m) x0 x4 o0]; rfl))
theorem Sz : dL uq (aA F.jP 5) := by
 refine dG (n := 5) (F := Ci) (by kernel_rfl) rfl (li := [0,3,4]) (lo := [2,3,4]) rfl (fun σ K r hr => ?_)
 unfold Ci at hr
 split at hr
 ·rename_i d hd
  rw [Ss.fF hd]
  exact ⟨_, ((congrArg (fun z => rounds (run uq (aA F.jP 5)) [0,3,4] [2,3,4] _ z K) (U1 _ _ _)).trans ((O8 K _) _ _ _)).trans hr⟩
 ·cases hr
noncomputable def Nb (d : List Int) (K : aj → Option aj) : Option aj := (bif (decide ((((List.length d) : Nat) : Int) > (400 : Int))) then K ((.l .deep FN ([] : List Int)), []) else (Dz d (0 : Int) ([] : List Int) (fun y0 y1 => K ((.l .deep FN ([] : List Int)), [])) (fun y2 y3 => (bif (Nat.ble (((List.length y3) + (List.length (y2 :: ([] : List Int)))) * 8) 140737488355328) then K ((.l .deep FN (y3 ++ (y2 :: ([] : List Int)))), []) else none))))
theorem afR (d : List Int) (K : aj → Option aj) : dS uq true F.jP [.l .no ah d] K = Nb d K := by kernel_rfl
theorem aci {d : List Int} (hd : aO d = true) (F : Option aj) (k1 : Int → List Int → Option aj) : ∀ (m n : Nat) (o : List Int), n ≤ d.length → d.length - n < m → o.length ≤ n →
  qN m d (n : Int) o (fun _ _ => F) k1 = bif valid (d.drop n) then k1 ((d.length : Nat) : Int) (o ++ starts (d.drop n) (n : Int)) else F
 | 0, n, o, _, h, _ => absurd h (by omega)
 | m + 1, n, o, hn, hm, ho => by
  have hlen := oP hd
  show xA d (n : Int) o _ _ k1 = _
  unfold xA
  by_cases hl : n < d.length
  ·rw [decide_eq_true (show (n : Int) < ((d.length : Nat) : Int) by omega), hd, amW (by omega) (by omega), Int.toNat_natCast]
   simp only [cond_true]
   have hle := mW (d.drop n)
   rw [List.length_drop] at hle
   by_cases h0 : aN (d.drop n) = 0
   ·rw [h0, JW h0 (by simp; omega)]; rfl
   ·rw [beq_eq_false_iff_ne.2 (show ¬ ((aN (d.drop n) : Nat) : Int) = 0 by omega), Nat.ble_eq_true_of_le (show (o.length + [(n : Int)].length) * 8 ≤ 140737488355328 by simp; omega), wrap_in (n := (n : Int) + (aN (d.drop n) : Nat)) (by omega) (by omega)]
    have e : (n : Int) + ((aN (d.drop n) : Nat) : Int) = ((n + aN (d.drop n) : Nat) : Int) := by omega
    simp only [cond_false, cond_true]
    rw [e]
    refine (aci hd F k1 m (n + aN (d.drop n)) (o ++ [(n : Int)]) (by omega) (by omega) (by simp; omega)).trans ?_
    rw [yE h0, MK h0, List.drop_drop, List.append_assoc, List.singleton_append, e]
  ·have : n = d.length := by omega
   subst this
   rw [decide_eq_false (show ¬ ((d.length : Nat) : Int) < ((d.length : Nat) : Int) by omega), List.drop_length, OG, MJ (by rfl), List.append_nil]; rfl
def Dp : Sm := bD [.l ah] (fun d => aO d.1) (fun d => (.l .deep FN (uh d.1), []))
theorem afS (d : List Int) (h : (aO d) = true) (K : aj → Option aj) : Nb d K = K (.l .deep FN (uh d), []) := by
 unfold Nb uh
 by_cases h4 : ((d.length : Nat) : Int) > 400
 ·rw [decide_eq_true h4, show aS d = false from Bool.eq_false_iff.2 (fun he => by have := (uj.1 he).1; omega)]; rfl
 ·rw [decide_eq_false h4]
  unfold Dz
  have := aci h (K (.l .deep FN [], [])) (fun y2 y3 => (bif (Nat.ble (((List.length y3) + (List.length (y2 :: []))) * 8) 140737488355328) then K ((.l .deep FN (y3 ++ (y2 :: []))), []) else none)) (List.length d + (0 : Int).toNat + List.length ([] : List Int) + 2) 0 [] (by omega) (by omega) (by simp)
  refine Eq.trans this ?_
  rw [List.drop_zero]
  cases hv : valid d with
  | false => rw [show aS d = false from Bool.eq_false_iff.2 (fun he => by have := (uj.1 he).2; rw [hv] at this; cases this)]; rfl
  | true =>
   rw [uj.2 ⟨by omega, hv⟩]
   have hs := Qi _ d 0 (Nat.le_refl _)
   simp only [cond_true, List.nil_append]
   rw [Nat.ble_eq_true_of_le (by simp; omega), Ip _ d 0 (Nat.le_refl _) hv, Int.zero_add]
   rfl
theorem O9 : aT prog I N.jP true Dp := lN (aU (bf Zn bn) (l := [(N.Bd, true, Kq)]) (p := []) (ls := [(5, [0,3,4], [2,3,4], Ci)]) (lend := []) (focus := false) (fuel := 0) (give := []) (fn := F.jP) (by kernel_rfl) (by kernel_rfl) (by kernel_rfl) (by kernel_rfl) (cs := [aA F.jP 5]) (by kernel_rfl) (dw Sz aJ)) (aK fun d K h => (afR d.1 K).trans (afS d.1 h K))
end Go.Ev.Seat
end
section
namespace Go.Ev.Seat
open Go.RowKit
set_option maxRecDepth 100000
set_option linter.unusedVariables false
set_option linter.unusedSimpArgs false
noncomputable abbrev aif : Env := En [(N.jP, true, Dp)] [] [] [] false 0 []
noncomputable def Qm (d : List Int) (K : aj → Option aj) : Option aj := (bif (aO d) then K ((.s (.bool (decide ((((List.length (uh d)) : Nat) : Int) > (0 : Int))))), []) else none)
theorem aii (d : List Int) (K : aj → Option aj) : dS aif true F.qK [.l .no ah d] K = Qm d K := by kernel_rfl
def qw : Sm := bD [.l ah] (fun d => aO d.1) (fun d => (bl (aS d.1), []))
theorem aij (d : List Int) (h : (aO d) = true) (K : aj → Option aj) : Qm d K = K (bl (aS d), []) := by
 unfold Qm
 rw [h]
 have e : decide ((((List.length (uh d)) : Nat) : Int) > (0 : Int)) = aS d := by
  unfold uh
  cases aS d with
  | false => rfl
  | true => exact decide_eq_true (show (((bounds d 0).length : Nat) : Int) > 0 by have := akg d 0; omega)
 rw [e]; rfl
theorem Eh : aT prog I N.qK true qw := lN (aU (bf O9 bn) (l := [(N.jP, true, Dp)]) (p := []) (ls := []) (lend := []) (focus := false) (fuel := 0) (give := []) (fn := F.qK) (by kernel_rfl) (by kernel_rfl) (by kernel_rfl) (by kernel_rfl) (cs := []) (by kernel_rfl) aJ) (aK fun d K h => (aii d.1 K).trans (aij d.1 h K))
end Go.Ev.Seat
end
section
namespace Go.Ev.Seat
open Go.RowKit
set_option maxRecDepth 100000
set_option linter.unusedVariables false
set_option linter.unusedSimpArgs false
def xB (x4 : Int) : St := { tm := ([.x, .x, .x, .x, (.s (.int .i64 x4))] ++ List.replicate 17 .x), ob := [], nx := 0, io := [] }
def xC : St := { tm := ([] ++ List.replicate 22 .x), ob := [], nx := 0, io := [] }
def vH : Ss := { tm := (.cons (.x) (.cons (.int .i64) (.cons (.x) (.cons (.x) (.cons (.x) (.cons (.w 0) (.cons (.int .i64) (Ed 15)))))))), ob := (.arr true true FN .nil), nx := 1, io := .nil }
def Xm (x1 : Int) (x6 : Int) (o0 : List Int) : vH.T := (((), (x1, ((), ((), ((), ((), (x6, xd 15))))))), (o0, ()), ())
def qO (x1 : Int) (x6 : Int) (o0 : List Int) : St := { tm := ([.x, (.s (.int .i64 x1)), .x, .x, .x, (.w 0), (.s (.int .i64 x6))] ++ List.replicate 15 .x), ob := [(0, (.arr true true FN o0))], nx := 1, io := [] }
theorem U3 (x1 : Int) (x6 : Int) (o0 : List Int) : vH.mk' (Xm x1 x6 o0) = (qO x1 x6 o0) := by kernel_rfl
def Xn (d : vH.T) (f : Int → Int → (List Int) → Option aj) : Option aj := match d with | ((_, (x1, (_, (_, (_, (_, (x6, _))))))), (o0, _), _) => f x1 x6 o0
noncomputable def mX (x1 : Int) (x6 : Int) (o0 : List Int) (pW : Int → Int → (List Int) → Option aj) (k0 : Int → Option aj) (k1 : Option aj) : Option aj := (bif (decide (x6 < (((List.length o0) : Nat) : Int))) then (bif ((decide ((0 : Int) ≤ x6)) && (decide (x6 < (((List.length o0) : Nat) : Int)))) then (bif ((List.getD o0 (Int.toNat x6) (0 : Int)) == x1) then (k0 x6) else (pW x1 (IntKind.wrap .i64 (x6 + (1 : Int))) o0)) else none) else k1)
noncomputable def qP : Nat → Int → Int → (List Int) → (Int → Option aj) → (Option aj) → Option aj
 | 0, _, _, _, _, _ => none
 | m + 1, x1, x6, o0, k0, k1 => mX x1 x6 o0 (fun x1 x6 o0 => (qP m x1 x6 o0 k0 k1)) k0 k1
noncomputable def DC (x1 : Int) (x6 : Int) (o0 : List Int) (k0 : Int → Option aj) (k1 : Option aj) : Option aj := qP (x1.toNat + x6.toNat + List.length o0 + 2) x1 x6 o0 k0 k1
noncomputable def Cj : fG := (fun (σ : St) (K : Ex → St → Option aj) => (match vH.un σ with | some d => Xn d (fun x1 x6 o0 => DC x1 x6 o0 (fun x4 => (K .ret (xB x4))) (K (.ext 0) xC)) | none => none))
noncomputable abbrev uw : Env := En [(N.jP, true, Dp)] [] [(3, [1,5,6], [4], Cj)] [] false 0 []
theorem U4 (m : Nat) (x1 : Int) (x6 : Int) (o0 : List Int) (K : Ex → St → Option aj) : rounds (run uw (aA F.lF 3)) [1,5,6] [4] (m + 1) (qO x1 x6 o0) K = mX x1 x6 o0 (fun x1 x6 o0 => (rounds (run uw (aA F.lF 3)) [1,5,6] [4] m (qO x1 x6 o0) K)) (fun x4 => (K .ret (xB x4))) (K (.ext 0) xC) := by kernel_rfl
theorem Pg (K : Ex → St → Option aj) : ∀ m : Nat, (∀ (x1 : Int) (x6 : Int) (o0 : List Int), rounds (run uw (aA F.lF 3)) [1,5,6] [4] m (qO x1 x6 o0) K = qP m x1 x6 o0 (fun x4 => (K .ret (xB x4))) (K (.ext 0) xC))
 | 0 => (fun _ _ _ => rfl)
 | m + 1 => (fun x1 x6 o0 => (by rw [U4, show (fun x1 x6 o0 => (rounds (run uw (aA F.lF 3)) [1,5,6] [4] m (qO x1 x6 o0) K)) = (fun x1 x6 o0 => (qP m x1 x6 o0 (fun x4 => (K .ret (xB x4))) (K (.ext 0) xC))) from funext fun x1 => funext fun x6 => funext fun o0 => (Pg K m) x1 x6 o0]; rfl))
theorem SA : dL uw (aA F.lF 3) := by
 refine dG (n := 3) (F := Cj) (by kernel_rfl) rfl (li := [1,5,6]) (lo := [4]) rfl (fun σ K r hr => ?_)
 unfold Cj at hr
 split at hr
 ·rename_i d hd
  rw [Ss.fF hd]
  exact ⟨_, ((congrArg (fun z => rounds (run uw (aA F.lF 3)) [1,5,6] [4] _ z K) (U3 _ _ _)).trans ((Pg K _) _ _ _)).trans hr⟩
 ·cases hr
noncomputable def Nc (d : List Int) (k : Int) (K : aj → Option aj) : Option aj := (bif (aO d) then (DC k (0 : Int) (uh d) (fun y0 => K ((.s (.int .i64 y0)), [])) (K ((.s (.int .i64 (-(1 : Int)))), []))) else none)
theorem afT (d : List Int) (k : Int) (K : aj → Option aj) : dS uw true F.lF [.l .no ah d, .s (.int .i64 k)] K = Nc d k K := by kernel_rfl
def Nh : Sm := bD [.l ah, .i] (fun d => aO d.1) (fun d => (sc (UQ (uh d.1) d.2.1), []))
theorem afU (d : List Int) (k : Int) (h : (aO d) = true) (K : aj → Option aj) : Nc d k K = K (sc (UQ (uh d) k), []) := by
 unfold Nc DC
 rw [h]
 have hl : (uh d).length ≤ 401 := by
  unfold uh
  cases ht : aS d with
  | false => simp
  | true =>
   have hh := uj.1 ht
   rw [cond_true, Ip _ d 0 (Nat.le_refl _) hh.2]
   have := Qi _ d 0 (Nat.le_refl _)
   simp; omega
 have := Jr (R := fun m i => qP m k i (uh d) (fun y0 => K ((.s (.int .i64 y0)), [])) (K ((.s (.int .i64 (-(1 : Int)))), []))) (p := fun c => c == k) (z := 0) (xs := uh d) (kf := fun y0 => K ((.s (.int .i64 y0)), [])) (kt := K ((.s (.int .i64 (-(1 : Int)))), []))
  (fun m i hi => by
   show mX k i (uh d) _ _ _ = _
   unfold mX
   rw [decide_eq_true (show ((i : Nat) : Int) < (((uh d).length : Nat) : Int) by omega), decide_eq_true (show (0 : Int) ≤ ((i : Nat) : Int) by omega), bY (by omega), Int.toNat_natCast]
   rfl)
  (fun m => by
   show mX k _ (uh d) _ _ _ = _
   unfold mX
   rw [decide_eq_false (show ¬ (((uh d).length : Nat) : Int) < (((uh d).length : Nat) : Int) by omega)]; rfl)
  (k.toNat + (0 : Int).toNat + List.length (uh d) + 2) 0 (by omega) (by omega)
 refine Eq.trans this ?_
 rw [List.drop_zero]
 unfold UQ
 cases (uh d).findIdx? (fun c => c == k) with
 | none => rfl
 | some j => show K (V.s (Value.int .i64 ((0 + j : Nat) : Int)), []) = K (sc ((j : Nat) : Int), []); rw [Nat.zero_add]; rfl
theorem aaX : aT prog I N.lF true Nh := lN (aU (bf O9 bn) (l := [(N.jP, true, Dp)]) (p := []) (ls := [(3, [1,5,6], [4], Cj)]) (lend := []) (focus := false) (fuel := 0) (give := []) (fn := F.lF) (by kernel_rfl) (by kernel_rfl) (by kernel_rfl) (by kernel_rfl) (cs := [aA F.lF 3]) (by kernel_rfl) (dw SA aJ)) (aK fun d K h => (afT d.1 d.2.1 K).trans (afU d.1 d.2.1 h K))
end Go.Ev.Seat
end
section
namespace Go.Ev.Seat
open Go.RowKit
set_option maxRecDepth 100000
set_option linter.unusedVariables false
set_option linter.unusedSimpArgs false
noncomputable abbrev akm : Env := En [(N.lF, true, Nh)] [] [] [] false 0 []
noncomputable def U5 (d : List Int) (k : Int) (K : aj → Option aj) : Option aj := (bif (aO d) then K ((.s (.bool (decide ((UQ (uh d) k) ≥ (0 : Int))))), []) else none)
theorem akn (d : List Int) (k : Int) (K : aj → Option aj) : dS akm true F.wZ [.l .no ah d, .s (.int .i64 k)] K = U5 d k K := by kernel_rfl
def vI : Sm := bD [.l ah, .i] (fun d => aO d.1) (fun d => (bl (qL d.1 d.2.1), []))
theorem ako (d : List Int) (k : Int) (h : (aO d) = true) (K : aj → Option aj) : U5 d k K = K (bl (qL d k), []) := by
 unfold U5
 rw [h, ← akf, ← ah8]; rfl
theorem Hz : aT prog I N.wZ true vI := lN (aU (bf aaX bn) (l := [(N.lF, true, Nh)]) (p := []) (ls := []) (lend := []) (focus := false) (fuel := 0) (give := []) (fn := F.wZ) (by kernel_rfl) (by kernel_rfl) (by kernel_rfl) (by kernel_rfl) (cs := []) (by kernel_rfl) aJ) (aK fun d K h => (akn d.1 d.2.1 K).trans (ako d.1 d.2.1 h K))
end Go.Ev.Seat
end
section
namespace Go.Ev.Seat
open Go.RowKit
set_option maxRecDepth 100000
set_option linter.unusedVariables false
set_option linter.unusedSimpArgs false
noncomputable abbrev aik : Env := En [(N.qK, true, qw), (N.wZ, true, vI)] [] [] [] false 0 []
noncomputable def Qn (t : List Int) (e : ak) (K : aj → Option aj) : Option aj := (bif (aO t) then (bif (!(aS t)) then K ((.s (.bool false)), []) else (bif (aO t) then (bif (!(qL t e.1)) then K ((.s (.bool false)), []) else (bif (decide (e.2.1 < (0 : Int))) then K ((.s (.bool false)), []) else (bif (decide (e.2.1 > (IntKind.wrap .i64 ((((List.length t) : Nat) : Int) - e.1)))) then K ((.s (.bool false)), []) else (bif (aO t) then (bif (!(qL t (IntKind.wrap .i64 (e.1 + e.2.1)))) then K ((.s (.bool false)), []) else (bif (aO e.2.2) then (bif (!(aS e.2.2)) then K ((.s (.bool false)), []) else K ((.s (.bool (decide ((IntKind.wrap .i64 ((IntKind.wrap .i64 ((((List.length t) : Nat) : Int) - e.2.1)) + (((List.length e.2.2) : Nat) : Int))) ≤ (400 : Int))))), [])) else none)) else none)))) else none)) else none)
theorem ail (t : List Int) (e : ak) (K : aj → Option aj) : dS aik true F.Ji [.l .no ah t, .a (ay.cells .no e)] K = Qn t e K := by kernel_rfl
def Qo : Sm := bD [.l ah, .a ay] (fun d => aO d.1 && aO d.2.1.2.2) (fun d => (bl (iE d.1 d.2.1), []))
theorem ain (t : List Int) (e : ak) (h : (aO t && aO e.2.2) = true) (K : aj → Option aj) : Qn t e K = K (bl (iE t e), []) := by
 rw [Bool.and_eq_true] at h
 obtain ⟨ht, he⟩ := h
 unfold Qn iE qL
 rw [ht, he]
 cases c1 : aS t with
 | false => rfl
 | true =>
 have hl := jm c1
 cases c2 : dh t e.1 with
 | false => rfl
 | true =>
 have hr := fA c2
 simp only [Bool.true_and, Bool.not_true, cond_true, cond_false]
 by_cases d1 : e.2.1 < 0
 ·rw [decide_eq_true d1, decide_eq_false (show ¬ 0 ≤ e.2.1 by omega)]; rfl
 rw [decide_eq_false d1, decide_eq_true (show 0 ≤ e.2.1 by omega), wrap_in (n := ((t.length : Nat) : Int) - e.1) (by omega) (by omega)]
 by_cases d2 : e.2.1 > ((t.length : Nat) : Int) - e.1
 ·rw [decide_eq_true d2, decide_eq_false (show ¬ e.2.1 ≤ ((t.length : Nat) : Int) - e.1 by omega)]; rfl
 rw [decide_eq_false d2, decide_eq_true (show e.2.1 ≤ ((t.length : Nat) : Int) - e.1 by omega), wrap_in (n := e.1 + e.2.1) (by omega) (by omega)]
 cases c3 : dh t (e.1 + e.2.1) with
 | false => rfl
 | true =>
 cases c4 : aS e.2.2 with
 | false => rfl
 | true =>
 have hl2 := jm c4
 rw [wrap_in (n := ((t.length : Nat) : Int) - e.2.1) (by omega) (by omega), wrap_in (n := ((t.length : Nat) : Int) - e.2.1 + ((List.length e.2.2 : Nat) : Int)) (by omega) (by omega)]
 rfl
theorem adM : aT prog I N.Ji true Qo := lN (aU (bf Eh (bf Hz bn)) (l := [(N.qK, true, qw), (N.wZ, true, vI)]) (p := []) (ls := []) (lend := []) (focus := false) (fuel := 0) (give := []) (fn := F.Ji) (by kernel_rfl) (by kernel_rfl) (by kernel_rfl) (by kernel_rfl) (cs := []) (by kernel_rfl) aJ) (aK fun d K h => (ail d.1 d.2.1 K).trans (ain d.1 d.2.1 h K))
end Go.Ev.Seat
end
section
namespace Go.Ev.Seat
open Go.RowKit
set_option maxRecDepth 100000
set_option linter.unusedVariables false
set_option linter.unusedSimpArgs false
noncomputable abbrev aio : Env := En [(N.Ji, true, Qo)] [(3, takeB [1, 2, 3, 4, 6, 7, 9, 10, 11, 12, 13, 14, 15] (.fork (.one 0 (.fork (.one 5 (.fork (.one 8 (.fork (.one 16 (takes [17, 18]))))))))), [])] [] [] false 0 []
noncomputable def Qp (t : List Int) (e : ak) (K : aj → Option aj) : Option aj := (bif ((aO t) && (aO e.2.2)) then (bif (!(iE t e)) then K ((.t [(.l .deep ah ([] : List Int)), (.s (.bool false))]), []) else (bif ((decide ((0 : Int) ≤ e.1)) && (decide (e.1 ≤ (((List.length t) : Nat) : Int)))) then (bif ((decide ((0 : Int) ≤ (IntKind.wrap .i64 (e.1 + e.2.1)))) && (decide ((IntKind.wrap .i64 (e.1 + e.2.1)) ≤ (((List.length t) : Nat) : Int)))) then (bif (Nat.ble (((List.length ([] : List Int)) + (List.length (List.take (Int.toNat e.1) t))) * 1) 140737488355328) then (bif (Nat.ble (((List.length (([] : List Int) ++ (List.take (Int.toNat e.1) t))) + (List.length e.2.2)) * 1) 140737488355328) then (bif (Nat.ble (((List.length ((([] : List Int) ++ (List.take (Int.toNat e.1) t)) ++ e.2.2)) + (List.length (List.drop (Int.toNat (IntKind.wrap .i64 (e.1 + e.2.1))) t))) * 1) 140737488355328) then K ((.t [(.l .deep ah (((([] : List Int) ++ (List.take (Int.toNat e.1) t)) ++ e.2.2) ++ (List.drop (Int.toNat (IntKind.wrap .i64 (e.1 + e.2.1))) t))), (.s (.bool true))]), []) else none) else none) else none) else none) else none)) else none)
theorem aip (t : List Int) (e : ak) (K : aj → Option aj) : dS aio true F.Jb [.l .no ah t, .a (ay.cells .no e)] K = Qp t e K := by kernel_rfl
def Qq : Sm := bD [.l ah, .a ay] (fun d => aO d.1 && aO d.2.1.2.2) (fun d => (.t [.l .deep ah (ny d.1 d.2.1), bl (iE d.1 d.2.1)], []))
theorem aiq (t : List Int) (e : ak) (h : (aO t && aO e.2.2) = true) (K : aj → Option aj) : Qp t e K = K (.t [.l .deep ah (ny t e), bl (iE t e)], []) := by
 unfold Qp ny
 rw [h]
 cases hk : iE t e with
 | false => rfl
 | true =>
 have q := yV.1 hk
 have r1 := fA q.a
 have r2 := fA q.b
 have c0 := q.c0
 have l1 := jm q.tx
 have l2 := jm q.p
 rw [wrap_in (n := e.1 + e.2.1) (by omega) (by omega), decide_eq_true r1.1, decide_eq_true r1.2, decide_eq_true r2.1, decide_eq_true r2.2]
 have t1 : (List.take (Int.toNat e.1) t).length ≤ 400 := by simp; omega
 have t2 : (List.drop (Int.toNat (e.1 + e.2.1)) t).length ≤ 400 := by simp; omega
 rw [Nat.ble_eq_true_of_le (by simp only [List.length_nil]; omega), Nat.ble_eq_true_of_le (by simp only [List.length_append, List.length_nil]; omega), Nat.ble_eq_true_of_le (by simp only [List.length_append, List.length_nil]; omega)]
 rfl
theorem adN : aT prog I N.Jb true Qq := lN (aU (bf adM bn) (l := [(N.Ji, true, Qo)]) (p := [(3, takeB [1, 2, 3, 4, 6, 7, 9, 10, 11, 12, 13, 14, 15] (.fork (.one 0 (.fork (.one 5 (.fork (.one 8 (.fork (.one 16 (takes [17, 18]))))))))), [])]) (ls := []) (lend := []) (focus := false) (fuel := 0) (give := []) (fn := F.Jb) (by kernel_rfl) (by kernel_rfl) (by kernel_rfl) (by kernel_rfl) (cs := []) (by kernel_rfl) aJ) (aK fun d K h => (aip d.1 d.2.1 K).trans (aiq d.1 d.2.1 h K))
end Go.Ev.Seat
end
section
namespace Go.Ev.Seat
open Go.RowKit
set_option maxRecDepth 100000
set_option linter.unusedVariables false
set_option linter.unusedSimpArgs false
def xE (x1 : List ak) (x5 : Int) (o0 : List Int) : St := { tm := ([.x, (.l .no ay x1), .x, .x, (.w 0), (.s (.int .i64 x5)), (.w 0)] ++ List.replicate 32 .x), ob := [(0, (.arr true true ah o0))], nx := 1, io := [] }
def xG (x1 : List ak) (o0 : List Int) : St := { tm := ([.x, (.l .no ay x1), .x, .x, .x, .x, (.w 0)] ++ List.replicate 32 .x), ob := [(0, (.arr true true ah o0))], nx := 1, io := [] }
def vJ : Ss := { tm := (.cons (.x) (.cons (.l .no ay) (.cons (.x) (.cons (.x) (.cons (.x) (.cons (.x) (.cons (.w 0) (.cons (.int .i64) (Ed 31))))))))), ob := (.arr true true ah .nil), nx := 1, io := .nil }
def Xo (x1 : List ak) (x7 : Int) (o0 : List Int) : vJ.T := (((), (x1, ((), ((), ((), ((), ((), (x7, xd 31)))))))), (o0, ()), ())
def qQ (x1 : List ak) (x7 : Int) (o0 : List Int) : St := { tm := ([.x, (.l .no ay x1), .x, .x, .x, .x, (.w 0), (.s (.int .i64 x7))] ++ List.replicate 31 .x), ob := [(0, (.arr true true ah o0))], nx := 1, io := [] }
theorem U6 (x1 : List ak) (x7 : Int) (o0 : List Int) : vJ.mk' (Xo x1 x7 o0) = (qQ x1 x7 o0) := by kernel_rfl
def Xp (d : vJ.T) (f : (List ak) → Int → (List Int) → Option aj) : Option aj := match d with | ((_, (x1, (_, (_, (_, (_, (_, (x7, _)))))))), (o0, _), _) => f x1 x7 o0
noncomputable def xH (x1 : List ak) (x7 : Int) (o0 : List Int) (pW : (List ak) → Int → (List Int) → Option aj) (k0 : (List ak) → Int → (List Int) → Option aj) (k1 : (List ak) → (List Int) → Option aj) : Option aj := (bif (decide (x7 < (((List.length x1) : Nat) : Int))) then (bif ((decide ((0 : Int) ≤ x7)) && (decide (x7 < (((List.length x1) : Nat) : Int)))) then (bif ((aO o0) && (aO (List.getD x1 (Int.toNat x7) (ay.dflt)).2.2)) then (bif (!(iE o0 (List.getD x1 (Int.toNat x7) (ay.dflt)))) then (k0 x1 x7 o0) else (pW x1 (IntKind.wrap .i64 (x7 + (1 : Int))) (ny o0 (List.getD x1 (Int.toNat x7) (ay.dflt))))) else none) else none) else (k1 x1 o0))
noncomputable def qR : Nat → (List ak) → Int → (List Int) → ((List ak) → Int → (List Int) → Option aj) → ((List ak) → (List Int) → Option aj) → Option aj
 | 0, _, _, _, _, _ => none
 | m + 1, x1, x7, o0, k0, k1 => xH x1 x7 o0 (fun x1 x7 o0 => (qR m x1 x7 o0 k0 k1)) k0 k1
noncomputable def KW (x1 : List ak) (x7 : Int) (o0 : List Int) (k0 : (List ak) → Int → (List Int) → Option aj) (k1 : (List ak) → (List Int) → Option aj) : Option aj := qR (List.length x1 + x7.toNat + List.length o0 + 2) x1 x7 o0 k0 k1
noncomputable def Cm : fG := (fun (σ : St) (K : Ex → St → Option aj) => (match vJ.un σ with | some d => Xp d (fun x1 x7 o0 => KW x1 x7 o0 (fun x1 x5 o0 => (K .ret (xE x1 x5 o0))) (fun x1 o0 => (K (.ext 0) (xG x1 o0)))) | none => none))
noncomputable abbrev uy : Env := En [(N.qK, true, qw), (N.Jb, true, Qq)] [] [(5, [1,6,7], [1,4,5,6], Cm)] [] false 0 []
theorem U7 (m : Nat) (x1 : List ak) (x7 : Int) (o0 : List Int) (K : Ex → St → Option aj) : rounds (run uy (aA F.jK 5)) [1,6,7] [1,4,5,6] (m + 1) (qQ x1 x7 o0) K = xH x1 x7 o0 (fun x1 x7 o0 => (rounds (run uy (aA F.jK 5)) [1,6,7] [1,4,5,6] m (qQ x1 x7 o0) K)) (fun x1 x5 o0 => (K .ret (xE x1 x5 o0))) (fun x1 o0 => (K (.ext 0) (xG x1 o0))) := by kernel_rfl
theorem Ph (K : Ex → St → Option aj) : ∀ m : Nat, (∀ (x1 : List ak) (x7 : Int) (o0 : List Int), rounds (run uy (aA F.jK 5)) [1,6,7] [1,4,5,6] m (qQ x1 x7 o0) K = qR m x1 x7 o0 (fun x1 x5 o0 => (K .ret (xE x1 x5 o0))) (fun x1 o0 => (K (.ext 0) (xG x1 o0))))
 | 0 => (fun _ _ _ => rfl)
 | m + 1 => (fun x1 x7 o0 => (by rw [U7, show (fun x1 x7 o0 => (rounds (run uy (aA F.jK 5)) [1,6,7] [1,4,5,6] m (qQ x1 x7 o0) K)) = (fun x1 x7 o0 => (qR m x1 x7 o0 (fun x1 x5 o0 => (K .ret (xE x1 x5 o0))) (fun x1 o0 => (K (.ext 0) (xG x1 o0))))) from funext fun x1 => funext fun x7 => funext fun o0 => (Ph K m) x1 x7 o0]; rfl))
theorem SB : dL uy (aA F.jK 5) := by
 refine dG (n := 5) (F := Cm) (by kernel_rfl) rfl (li := [1,6,7]) (lo := [1,4,5,6]) rfl (fun σ K r hr => ?_)
 unfold Cm at hr
 split at hr
 ·rename_i d hd
  rw [Ss.fF hd]
  exact ⟨_, ((congrArg (fun z => rounds (run uy (aA F.jK 5)) [1,6,7] [1,4,5,6] _ z K) (U6 _ _ _)).trans ((Ph K _) _ _ _)).trans hr⟩
 ·cases hr
noncomputable def Nj (t : List Int) (l : List ak) (K : aj → Option aj) : Option aj := (bif (aO t) then (bif (!(aS t)) then K ((.t [(.l .deep ah ([] : List Int)), (.s (.int .i64 (-(1 : Int))))]), []) else (bif (Nat.ble (((List.length ([] : List Int)) + (List.length t)) * 1) 140737488355328) then (KW l (0 : Int) (([] : List Int) ++ t) (fun y0 y1 y2 => K ((.t [(.l .deep ah y2), (.s (.int .i64 y1))]), [])) (fun y3 y4 => K ((.t [(.l .deep ah y4), (.s (.int .i64 (((List.length y3) : Nat) : Int)))]), []))) else none)) else none)
theorem afV (t : List Int) (l : List ak) (K : aj → Option aj) : dS uy true F.jK [.l .no ah t, .l .no ay l] K = Nj t l K := by kernel_rfl
def Dq : Sm := bD [.l ah, .l ay] (fun d => aO d.1 && iR (.sl ay) d.2.1) (fun d => (.t [.l .deep ah (bQ d.1 d.2.1).1, .s (.int .i64 (bQ d.1 d.2.1).2)], []))
theorem afW (t : List Int) (l : List ak) (h : (aO t && iR (.sl ay) l) = true) (K : aj → Option aj) : Nj t l K = K (.t [.l .deep ah (bQ t l).1, .s (.int .i64 (bQ t l).2)], []) := by
 have h1 := ((Bool.and_eq_true _ _).mp h).1
 have h2 := ((Bool.and_eq_true _ _).mp h).2
 unfold Nj bQ
 rw [h1]
 cases ht : aS t with
 | false => rfl
 | true =>
 have lt := jm ht
 have hl := iw h2
 rw [Nat.ble_eq_true_of_le (by simp; omega)]
 have q : ∀ (m i : Nat) (o : List Int), aO o = true → i ≤ l.length → l.length - i < m → qR m l ((i : Nat) : Int) o (fun y0 y1 y2 => K ((.t [(.l .deep ah y2), (.s (.int .i64 y1))]), [])) (fun y3 y4 => K ((.t [(.l .deep ah y4), (.s (.int .i64 (((List.length y3) : Nat) : Int)))]), [])) =
   K ((.t [.l .deep ah (iq (l.drop i) o i).1, .s (.int .i64 (((iq (l.drop i) o i).2 : Nat) : Int))]), []) := by
  intro m
  induction m with
  | zero => intro i o _ _ hm; omega
  | succ m ih =>
   intro i o ho hi hm
   show xH l ((i : Nat) : Int) o _ _ _ = _
   unfold xH
   by_cases hlt : i < l.length
   ·have hg : l.getD i ay.dflt = l[i] := getD_lt _ hlt
    have hf : aO (l[i]).2.2 = true := FZ (dB (dB (F5 h2 (List.getElem_mem hlt))))
    have hd : l.drop i = l[i] :: l.drop (i + 1) := (List.getElem_cons_drop hlt).symm
    rw [decide_eq_true (show ((i : Nat) : Int) < ((l.length : Nat) : Int) by omega), decide_eq_true (show (0 : Int) ≤ ((i : Nat) : Int) by omega), Int.toNat_natCast, bY (by omega), ho, hg, hf, hd]
    cases he : iE o l[i] with
    | false => simp only [iq, he]; rfl
    | true =>
     have e1 : ny o l[i] = Xe l[i] o := by unfold ny; rw [he]; rfl
     have := ih (i + 1) (ny o l[i]) (JZ ho hf) (by omega) (by omega)
     rw [e1] at this ⊢
     simp only [iq, he]
     exact this
   ·obtain rfl : i = l.length := by omega
    rw [decide_eq_false (show ¬ ((l.length : Nat) : Int) < ((l.length : Nat) : Int) by omega), List.drop_length]; rfl
 refine Eq.trans (q _ 0 t h1 (by omega) (by omega)) ?_
 rw [List.drop_zero]; rfl
theorem Pj : aT prog I N.jK true Dq := lN (aU (bf Eh (bf adN bn)) (l := [(N.qK, true, qw), (N.Jb, true, Qq)]) (p := []) (ls := [(5, [1,6,7], [1,4,5,6], Cm)]) (lend := []) (focus := false) (fuel := 0) (give := []) (fn := F.jK) (by kernel_rfl) (by kernel_rfl) (by kernel_rfl) (by kernel_rfl) (cs := [aA F.jK 5]) (by kernel_rfl) (dw SB aJ)) (aK fun d K h => (afV d.1 d.2.1 K).trans (afW d.1 d.2.1 h K))
end Go.Ev.Seat
end
section
namespace Go.Ev.Seat
open Go.RowKit
set_option maxRecDepth 100000
set_option linter.unusedVariables false
set_option linter.unusedSimpArgs false
noncomputable abbrev Zo : Env := En [] [] [] [] false 0 []
noncomputable def F6 (s : Int) (K : aj → Option aj) : Option aj := (bif (decide (s ≥ (1 : Int))) then K ((.s (.bool (decide (s ≤ (8 : Int))))), []) else K ((.s (.bool false)), []))
theorem Zp (s : Int) (K : aj → Option aj) : dS Zo true F.uZ [.s (.int .i64 s)] K = F6 s K := by kernel_rfl
def F7 : Sm := bD [.i] (fun d => true) (fun d => (bl (nC d.1), []))
theorem Zq (s : Int) (K : aj → Option aj) : F6 s K = K (bl (nC s), []) := by
 unfold F6 nC
 rw [show decide (s ≥ 1) = decide (1 ≤ s) from rfl]
 cases decide (1 ≤ s) <;> rfl
theorem U8 : aT prog I N.uZ true F7 := lN (aU bn (l := []) (p := []) (ls := []) (lend := []) (focus := false) (fuel := 0) (give := []) (fn := F.uZ) (by kernel_rfl) (by kernel_rfl) (by kernel_rfl) (by kernel_rfl) (cs := []) (by kernel_rfl) aJ) (aK fun d K h => (Zp d.1 K).trans (Zq d.1 K))
end Go.Ev.Seat
end
section
namespace Go.Ev.Seat
open Go.RowKit
set_option maxRecDepth 100000
set_option linter.unusedVariables false
set_option linter.unusedSimpArgs false
noncomputable abbrev akp : Env := En [(N.wZ, true, vI)] [] [] [] false 0 []
noncomputable def U9 (t : List Int) (s : alF) (K : aj → Option aj) : Option aj := (bif (aO t) then (bif (qL t s.1) then (bif (aO t) then K ((.s (.bool (qL t s.2))), []) else none) else K ((.s (.bool false)), [])) else none)
theorem akq (t : List Int) (s : alF) (K : aj → Option aj) : dS akp true F.Ox [.l .no ah t, .a (UN.cells .no s)] K = U9 t s K := by kernel_rfl
def Va : Sm := bD [.l ah, .a UN] (fun d => aO d.1) (fun d => (bl (qL d.1 d.2.1.1 && qL d.1 d.2.1.2), []))
theorem akr (t : List Int) (s : alF) (h : (aO t) = true) (K : aj → Option aj) : U9 t s K = K (bl (qL t s.1 && qL t s.2), []) := by
 unfold U9
 rw [h]
 cases qL t s.1 <;> rfl
theorem afX : aT prog I N.Ox true Va := lN (aU (bf Hz bn) (l := [(N.wZ, true, vI)]) (p := []) (ls := []) (lend := []) (focus := false) (fuel := 0) (give := []) (fn := F.Ox) (by kernel_rfl) (by kernel_rfl) (by kernel_rfl) (by kernel_rfl) (cs := []) (by kernel_rfl) aJ) (aK fun d K h => (akq d.1 d.2.1 K).trans (akr d.1 d.2.1 h K))
end Go.Ev.Seat
end
section
namespace Go.Ev.Seat
open Go.RowKit
set_option maxRecDepth 100000
set_option linter.unusedVariables false
set_option linter.unusedSimpArgs false
noncomputable abbrev adO : Env := En [] [] [] [] false 0 []
noncomputable def Kr (n : Int) (K : aj → Option aj) : Option aj := (bif (decide (n ≥ (0 : Int))) then K ((.s (.bool (decide (n ≤ (400 : Int))))), []) else K ((.s (.bool false)), []))
theorem adP (n : Int) (K : aj → Option aj) : dS adO true F.Ba [.s (.int .i64 n)] K = Kr n K := by kernel_rfl
def Ku : Sm := bD [.i] (fun d => true) (fun d => (bl (KU d.1), []))
theorem adQ (n : Int) (K : aj → Option aj) : Kr n K = K (bl (KU n), []) := by
 unfold Kr KU
 rw [show decide (n ≥ 0) = decide (0 ≤ n) from rfl]
 cases decide (0 ≤ n) <;> rfl
theorem Zr : aT prog I N.Ba true Ku := lN (aU bn (l := []) (p := []) (ls := []) (lend := []) (focus := false) (fuel := 0) (give := []) (fn := F.Ba) (by kernel_rfl) (by kernel_rfl) (by kernel_rfl) (by kernel_rfl) (cs := []) (by kernel_rfl) aJ) (aK fun d K h => (adP d.1 K).trans (adQ d.1 K))
end Go.Ev.Seat
end
section
namespace Go.Ev.Seat
open Go.RowKit
set_option maxRecDepth 100000
set_option linter.unusedVariables false
set_option linter.unusedSimpArgs false
noncomputable abbrev adR : Env := En [(N.Ba, true, Ku)] [] [] [] false 0 []
noncomputable def Kv (e : ak) (K : aj → Option aj) : Option aj := (bif (KU e.1) then (bif (KU e.2.1) then K ((.s (.bool (decide ((((List.length e.2.2) : Nat) : Int) ≤ (400 : Int))))), []) else K ((.s (.bool false)), [])) else K ((.s (.bool false)), []))
theorem adS (e : ak) (K : aj → Option aj) : dS adR true F.lT [.a (ay.cells .no e)] K = Kv e K := by kernel_rfl
def nD : Sm := bD [.a ay] (fun d => true) (fun d => (bl (bg d.1), []))
theorem adT (e : ak) (K : aj → Option aj) : Kv e K = K (bl (bg e), []) := by
 unfold Kv bg
 cases KU e.1 <;> cases KU e.2.1 <;> rfl
theorem zI : aT prog I N.lT true nD := lN (aU (bf Zr bn) (l := [(N.Ba, true, Ku)]) (p := []) (ls := []) (lend := []) (focus := false) (fuel := 0) (give := []) (fn := F.lT) (by kernel_rfl) (by kernel_rfl) (by kernel_rfl) (by kernel_rfl) (cs := []) (by kernel_rfl) aJ) (aK fun d K h => (adS d.1 K).trans (adT d.1 K))
end Go.Ev.Seat
end
section
namespace Go.Ev.Seat
open Go.RowKit
set_option maxRecDepth 100000
set_option linter.unusedVariables false
set_option linter.unusedSimpArgs false
def zJ (x2 : Bool) : St := { tm := ([.x, .x, (.s (.bool x2))] ++ List.replicate 16 .x), ob := [], nx := 0, io := [] }
def zK : St := { tm := ([] ++ List.replicate 19 .x), ob := [], nx := 0, io := [] }
def xI : Ss := { tm := (.cons (.l .no ay) (.cons (.x) (.cons (.x) (.cons (.int .i64) (Ed 15))))), ob := .nil, nx := 0, io := .nil }
def Zt (x0 : List ak) (x3 : Int) : xI.T := ((x0, ((), ((), (x3, xd 15)))), (), ())
def uz (x0 : List ak) (x3 : Int) : St := { tm := ([(.l .no ay x0), .x, .x, (.s (.int .i64 x3))] ++ List.replicate 15 .x), ob := [], nx := 0, io := [] }
theorem Xq (x0 : List ak) (x3 : Int) : xI.mk' (Zt x0 x3) = (uz x0 x3) := by kernel_rfl
def Zu (d : xI.T) (f : (List ak) → Int → Option aj) : Option aj := match d with | ((x0, (_, (_, (x3, _)))), _, _) => f x0 x3
noncomputable def o8 (x0 : List ak) (x3 : Int) (pW : (List ak) → Int → Option aj) (k0 : Bool → Option aj) (k1 : Option aj) : Option aj := (bif (decide (x3 < (((List.length x0) : Nat) : Int))) then (bif ((decide ((0 : Int) ≤ x3)) && (decide (x3 < (((List.length x0) : Nat) : Int)))) then (bif (!(bg (List.getD x0 (Int.toNat x3) (ay.dflt)))) then (k0 false) else (pW x0 (IntKind.wrap .i64 (x3 + (1 : Int))))) else none) else k1)
noncomputable def uD : Nat → (List ak) → Int → (Bool → Option aj) → (Option aj) → Option aj
 | 0, _, _, _, _ => none
 | m + 1, x0, x3, k0, k1 => o8 x0 x3 (fun x0 x3 => (uD m x0 x3 k0 k1)) k0 k1
noncomputable def Nk (x0 : List ak) (x3 : Int) (k0 : Bool → Option aj) (k1 : Option aj) : Option aj := uD (List.length x0 + x3.toNat + 2) x0 x3 k0 k1
noncomputable def Ei : fG := (fun (σ : St) (K : Ex → St → Option aj) => (match xI.un σ with | some d => Zu d (fun x0 x3 => Nk x0 x3 (fun x2 => (K .ret (zJ x2))) (K (.ext 0) zK)) | none => none))
noncomputable abbrev yH : Env := En [(N.lT, true, nD)] [] [(4, [0,3], [2], Ei)] [] false 0 []
theorem Xr (m : Nat) (x0 : List ak) (x3 : Int) (K : Ex → St → Option aj) : rounds (run yH (aA F.oL 4)) [0,3] [2] (m + 1) (uz x0 x3) K = o8 x0 x3 (fun x0 x3 => (rounds (run yH (aA F.oL 4)) [0,3] [2] m (uz x0 x3) K)) (fun x2 => (K .ret (zJ x2))) (K (.ext 0) zK) := by kernel_rfl
theorem SC (K : Ex → St → Option aj) : ∀ m : Nat, (∀ (x0 : List ak) (x3 : Int), rounds (run yH (aA F.oL 4)) [0,3] [2] m (uz x0 x3) K = uD m x0 x3 (fun x2 => (K .ret (zJ x2))) (K (.ext 0) zK))
 | 0 => (fun _ _ => rfl)
 | m + 1 => (fun x0 x3 => (by rw [Xr, show (fun x0 x3 => (rounds (run yH (aA F.oL 4)) [0,3] [2] m (uz x0 x3) K)) = (fun x0 x3 => (uD m x0 x3 (fun x2 => (K .ret (zJ x2))) (K (.ext 0) zK))) from funext fun x0 => funext fun x3 => (SC K m) x0 x3]; rfl))
theorem Vb : dL yH (aA F.oL 4) := by
 refine dG (n := 4) (F := Ei) (by kernel_rfl) rfl (li := [0,3]) (lo := [2]) rfl (fun σ K r hr => ?_)
 unfold Ei at hr
 split at hr
 ·rename_i d hd
  rw [Ss.fF hd]
  exact ⟨_, ((congrArg (fun z => rounds (run yH (aA F.oL 4)) [0,3] [2] _ z K) (Xq _ _)).trans ((SC K _) _ _)).trans hr⟩
 ·cases hr
noncomputable def Qr (l : List ak) (K : aj → Option aj) : Option aj := (bif (decide ((((List.length l) : Nat) : Int) > (6 : Int))) then K ((.s (.bool false)), []) else (Nk l (0 : Int) (fun y0 => K ((.s (.bool y0)), [])) (K ((.s (.bool true)), []))))
theorem air (l : List ak) (K : aj → Option aj) : dS yH true F.oL [.l .no ay l] K = Qr l K := by kernel_rfl
def Qs : Sm := bD [.l ay] (fun d => Nat.ble d.1.length 1048576) (fun d => (bl (okL d.1), []))
theorem ais (l : List ak) (h : (Nat.ble l.length 1048576) = true) (K : aj → Option aj) : Qr l K = K (bl (okL l), []) := by
 have hl := Nat.le_of_ble_eq_true h
 unfold Qr okL
 by_cases h6 : ((l.length : Nat) : Int) ≤ 6
 case neg => rw [decide_eq_false h6, decide_eq_true (show ((l.length : Nat) : Int) > 6 by omega)]; rfl
 rw [decide_eq_true h6, decide_eq_false (show ¬ ((l.length : Nat) : Int) > 6 by omega)]
 have q := RY (R := fun m i => uD m l i (fun y0 => K ((.s (.bool y0)), [])) (K ((.s (.bool true)), []))) (p := bg) (xs := l) (z := ay.dflt) (kt := K ((.s (.bool true)), [])) (kf := K ((.s (.bool false)), [])) (fun m i hi => by
   show o8 l ((i : Nat) : Int) _ _ _ = _
   unfold o8
   rw [decide_eq_true (show ((i : Nat) : Int) < ((l.length : Nat) : Int) by omega), decide_eq_true (show (0 : Int) ≤ ((i : Nat) : Int) by omega), Int.toNat_natCast, bY (by omega)]
   cases bg (l.getD i ay.dflt) <;> rfl) (fun m => by
   show o8 l ((l.length : Nat) : Int) _ _ _ = _
   unfold o8
   rw [decide_eq_false (show ¬ ((l.length : Nat) : Int) < ((l.length : Nat) : Int) by omega)]; rfl) (List.length l + (0 : Int).toNat + 2) 0 (by omega) (by omega)
 refine Eq.trans q ?_
 rw [List.drop_zero]
 cases l.all bg <;> rfl
theorem adU : aT prog I N.oL true Qs := lN (aU (bf zI bn) (l := [(N.lT, true, nD)]) (p := []) (ls := [(4, [0,3], [2], Ei)]) (lend := []) (focus := false) (fuel := 0) (give := []) (fn := F.oL) (by kernel_rfl) (by kernel_rfl) (by kernel_rfl) (by kernel_rfl) (cs := [aA F.oL 4]) (by kernel_rfl) (dw Vb aJ)) (aK fun d K h => (air d.1 K).trans (ais d.1 h K))
end Go.Ev.Seat
end
section
namespace Go.Ev.Seat
open Go.RowKit
set_option maxRecDepth 100000
set_option linter.unusedVariables false
set_option linter.unusedSimpArgs false
noncomputable abbrev afY : Env := En [(N.oL, true, Qs)] [] [] [] false 0 []
noncomputable def Nl (s : OC) (K : aj → Option aj) : Option aj := (bif (Nat.ble (List.length s.1) 1048576) then (bif (okL s.1) then (bif (Nat.ble (List.length s.2) 1048576) then K ((.s (.bool (okL s.2))), []) else none) else K ((.s (.bool false)), [])) else none)
theorem afZ (s : OC) (K : aj → Option aj) : dS afY true F.EM [.a (kF.cells .no s)] K = Nl s K := by kernel_rfl
def Np : Sm := bD [.a kF] (fun d => Nat.ble d.1.1.length 1048576 && Nat.ble d.1.2.length 1048576) (fun d => (bl (kG d.1), []))
theorem af0 (s : OC) (h : (Nat.ble s.1.length 1048576 && Nat.ble s.2.length 1048576) = true) (K : aj → Option aj) : Nl s K = K (bl (kG s), []) := by
 obtain ⟨h1, h2⟩ := (Bool.and_eq_true _ _).mp h
 unfold Nl kG
 rw [h1, h2]
 cases okL s.1 <;> rfl
theorem aaY : aT prog I N.EM true Np := lN (aU (bf adU bn) (l := [(N.oL, true, Qs)]) (p := []) (ls := []) (lend := []) (focus := false) (fuel := 0) (give := []) (fn := F.EM) (by kernel_rfl) (by kernel_rfl) (by kernel_rfl) (by kernel_rfl) (cs := []) (by kernel_rfl) aJ) (aK fun d K h => (afZ d.1 K).trans (af0 d.1 h K))
end Go.Ev.Seat
end
section
namespace Go.Ev.Seat
open Go.RowKit
set_option maxRecDepth 100000
set_option linter.unusedVariables false
set_option linter.unusedSimpArgs false
noncomputable abbrev af2 : Env := En [(N.wZ, true, vI), (N.qK, true, qw)] [] [] [] false 0 []
noncomputable def Nq (t : List Int) (e : ak) (K : aj → Option aj) : Option aj := (bif (aO t) then (bif (qL t e.1) then (bif (decide (e.2.1 ≥ (0 : Int))) then (bif (decide (e.2.1 ≤ (IntKind.wrap .i64 ((((List.length t) : Nat) : Int) - e.1)))) then (bif (aO t) then (bif (qL t (IntKind.wrap .i64 (e.1 + e.2.1))) then (bif (aO e.2.2) then K ((.s (.bool (aS e.2.2))), []) else none) else K ((.s (.bool false)), [])) else none) else K ((.s (.bool false)), [])) else K ((.s (.bool false)), [])) else K ((.s (.bool false)), [])) else none)
theorem af4 (t : List Int) (e : ak) (K : aj → Option aj) : dS af2 true F.AY [.l .no ah t, .a (ay.cells .no e)] K = Nq t e K := by kernel_rfl
def HY : Sm := bD [.l ah, .a ay] (fun d => aO d.1 && aO d.2.1.2.2 && aS d.1) (fun d => (bl (fU d.1 d.2.1), []))
theorem af5 (t : List Int) (e : ak) (h : (aO t && aO e.2.2 && aS t) = true) (K : aj → Option aj) : Nq t e K = K (bl (fU t e), []) := by
 simp only [Bool.and_eq_true] at h
 obtain ⟨⟨h1, h2⟩, h3⟩ := h
 have hl := jm h3
 unfold Nq fU qL
 rw [h1, h2, h3, show decide (e.2.1 ≥ 0) = decide (0 ≤ e.2.1) from rfl]
 cases ha : dh t e.1 with
 | false => rfl
 | true =>
  have r1 := fA ha
  by_cases c0 : 0 ≤ e.2.1
  case neg => rw [decide_eq_false c0]; rfl
  rw [decide_eq_true c0, wrap_in (n := ((t.length : Nat) : Int) - e.1) (by omega) (by omega)]
  by_cases c1 : e.2.1 ≤ ((t.length : Nat) : Int) - e.1
  case neg => rw [decide_eq_false c1]; rfl
  rw [decide_eq_true c1, wrap_in (n := e.1 + e.2.1) (by omega) (by omega)]
  cases dh t (e.1 + e.2.1) <;> rfl
theorem Pm : aT prog I N.AY true HY := lN (aU (bf Hz (bf Eh bn)) (l := [(N.wZ, true, vI), (N.qK, true, qw)]) (p := []) (ls := []) (lend := []) (focus := false) (fuel := 0) (give := []) (fn := F.AY) (by kernel_rfl) (by kernel_rfl) (by kernel_rfl) (by kernel_rfl) (cs := []) (by kernel_rfl) aJ) (aK fun d K h => (af4 d.1 d.2.1 K).trans (af5 d.1 d.2.1 h K))
end Go.Ev.Seat
end
section
namespace Go.Ev.Seat
open Go.RowKit
set_option maxRecDepth 100000
set_option linter.unusedVariables false
set_option linter.unusedSimpArgs false
def sJ (x4 : Bool) : St := { tm := ([.x, .x, .x, .x, (.s (.bool x4))] ++ List.replicate 14 .x), ob := [], nx := 0, io := [] }
def sK : St := { tm := ([] ++ List.replicate 19 .x), ob := [], nx := 0, io := [] }
def qx : Ss := { tm := (.cons (.l .no ah) (.cons (.l .no ay) (.cons (.x) (.cons (.x) (.cons (.x) (.cons (.int .i64) (Ed 13))))))), ob := .nil, nx := 0, io := .nil }
def SE (x0 : List Int) (x1 : List ak) (x5 : Int) : qx.T := ((x0, (x1, ((), ((), ((), (x5, xd 13)))))), (), ())
def nG (x0 : List Int) (x1 : List ak) (x5 : Int) : St := { tm := ([(.l .no ah x0), (.l .no ay x1), .x, .x, .x, (.s (.int .i64 x5))] ++ List.replicate 13 .x), ob := [], nx := 0, io := [] }
theorem Qu (x0 : List Int) (x1 : List ak) (x5 : Int) : qx.mk' (SE x0 x1 x5) = (nG x0 x1 x5) := by kernel_rfl
def SG (d : qx.T) (f : (List Int) → (List ak) → Int → Option aj) : Option aj := match d with | ((x0, (x1, (_, (_, (_, (x5, _)))))), _, _) => f x0 x1 x5
noncomputable def kN (x0 : List Int) (x1 : List ak) (x5 : Int) (pW : (List Int) → (List ak) → Int → Option aj) (k0 : Bool → Option aj) (k1 : Option aj) : Option aj := (bif (decide (x5 < (((List.length x1) : Nat) : Int))) then (bif ((decide ((0 : Int) ≤ x5)) && (decide (x5 < (((List.length x1) : Nat) : Int)))) then (bif (((aO x0) && (aO (List.getD x1 (Int.toNat x5) (ay.dflt)).2.2)) && (aS x0)) then (bif (!(fU x0 (List.getD x1 (Int.toNat x5) (ay.dflt)))) then (k0 false) else (pW x0 x1 (IntKind.wrap .i64 (x5 + (1 : Int))))) else none) else none) else k1)
noncomputable def nH : Nat → (List Int) → (List ak) → Int → (Bool → Option aj) → (Option aj) → Option aj
 | 0, _, _, _, _, _ => none
 | m + 1, x0, x1, x5, k0, k1 => kN x0 x1 x5 (fun x0 x1 x5 => (nH m x0 x1 x5 k0 k1)) k0 k1
noncomputable def H6 (x0 : List Int) (x1 : List ak) (x5 : Int) (k0 : Bool → Option aj) (k1 : Option aj) : Option aj := nH (List.length x0 + List.length x1 + x5.toNat + 2) x0 x1 x5 k0 k1
noncomputable def xJ : fG := (fun (σ : St) (K : Ex → St → Option aj) => (match qx.un σ with | some d => SG d (fun x0 x1 x5 => H6 x0 x1 x5 (fun x4 => (K .ret (sJ x4))) (K (.ext 0) sK)) | none => none))
noncomputable abbrev oq : Env := En [(N.AY, true, HY)] [] [(2, [0,1,5], [4], xJ)] [] false 0 []
theorem Qv (m : Nat) (x0 : List Int) (x1 : List ak) (x5 : Int) (K : Ex → St → Option aj) : rounds (run oq (aA F.iW 2)) [0,1,5] [4] (m + 1) (nG x0 x1 x5) K = kN x0 x1 x5 (fun x0 x1 x5 => (rounds (run oq (aA F.iW 2)) [0,1,5] [4] m (nG x0 x1 x5) K)) (fun x4 => (K .ret (sJ x4))) (K (.ext 0) sK) := by kernel_rfl
theorem KX (K : Ex → St → Option aj) : ∀ m : Nat, (∀ (x0 : List Int) (x1 : List ak) (x5 : Int), rounds (run oq (aA F.iW 2)) [0,1,5] [4] m (nG x0 x1 x5) K = nH m x0 x1 x5 (fun x4 => (K .ret (sJ x4))) (K (.ext 0) sK))
 | 0 => (fun _ _ _ => rfl)
 | m + 1 => (fun x0 x1 x5 => (by rw [Qv, show (fun x0 x1 x5 => (rounds (run oq (aA F.iW 2)) [0,1,5] [4] m (nG x0 x1 x5) K)) = (fun x0 x1 x5 => (nH m x0 x1 x5 (fun x4 => (K .ret (sJ x4))) (K (.ext 0) sK))) from funext fun x0 => funext fun x1 => funext fun x5 => (KX K m) x0 x1 x5]; rfl))
theorem OO : dL oq (aA F.iW 2) := by
 refine dG (n := 2) (F := xJ) (by kernel_rfl) rfl (li := [0,1,5]) (lo := [4]) rfl (fun σ K r hr => ?_)
 unfold xJ at hr
 split at hr
 ·rename_i d hd
  rw [Ss.fF hd]
  exact ⟨_, ((congrArg (fun z => rounds (run oq (aA F.iW 2)) [0,1,5] [4] _ z K) (Qu _ _ _)).trans ((KX K _) _ _ _)).trans hr⟩
 ·cases hr
noncomputable def Iw (t : List Int) (l : List ak) (K : aj → Option aj) : Option aj := (H6 t l (0 : Int) (fun y0 => K ((.s (.bool y0)), [])) (K ((.s (.bool true)), [])))
theorem aaZ (t : List Int) (l : List ak) (K : aj → Option aj) : dS oq true F.iW [.l .no ah t, .l .no ay l] K = Iw t l K := by kernel_rfl
def Iy : Sm := bD [.l ah, .l ay] (fun d => aO d.1 && iR (.sl ay) d.2.1 && aS d.1) (fun d => (bl (d.2.1.all (fU d.1)), []))
theorem aa0 (t : List Int) (l : List ak) (h : (aO t && iR (.sl ay) l && aS t) = true) (K : aj → Option aj) : Iw t l K = K (bl (l.all (fU t)), []) := by
 simp only [Bool.and_eq_true] at h
 obtain ⟨⟨h1, h2⟩, h3⟩ := h
 have hl := iw h2
 unfold Iw
 have q := RY (R := fun m i => nH m t l i (fun y0 => K ((.s (.bool y0)), [])) (K ((.s (.bool true)), []))) (p := fU t) (xs := l) (z := ay.dflt) (kt := K ((.s (.bool true)), [])) (kf := K ((.s (.bool false)), [])) (fun m i hi => by
   show kN t l ((i : Nat) : Int) _ _ _ = _
   unfold kN
   have f1 : aO (l.getD i ay.dflt).2.2 = true := MS (Jt h2 rfl i)
   rw [decide_eq_true (show ((i : Nat) : Int) < ((l.length : Nat) : Int) by omega), decide_eq_true (show (0 : Int) ≤ ((i : Nat) : Int) by omega), Int.toNat_natCast, bY (by omega), h1, h3, f1]
   cases fU t (l.getD i ay.dflt) <;> rfl) (fun m => by
   show kN t l ((l.length : Nat) : Int) _ _ _ = _
   unfold kN
   rw [decide_eq_false (show ¬ ((l.length : Nat) : Int) < ((l.length : Nat) : Int) by omega)]; rfl) (List.length t + List.length l + (0 : Int).toNat + 2) 0 (by omega) (by omega)
 refine Eq.trans q ?_
 rw [List.drop_zero]
 cases l.all (fU t) <;> rfl
theorem Xt : aT prog I N.iW true Iy := lN (aU (bf Pm bn) (l := [(N.AY, true, HY)]) (p := []) (ls := [(2, [0,1,5], [4], xJ)]) (lend := []) (focus := false) (fuel := 0) (give := []) (fn := F.iW) (by kernel_rfl) (by kernel_rfl) (by kernel_rfl) (by kernel_rfl) (cs := [aA F.iW 2]) (by kernel_rfl) (dw OO aJ)) (aK fun d K h => (aaZ d.1 d.2.1 K).trans (aa0 d.1 d.2.1 h K))
end Go.Ev.Seat
end
section
namespace Go.Ev.Seat
open Go.RowKit
set_option maxRecDepth 100000
set_option linter.unusedVariables false
set_option linter.unusedSimpArgs false
noncomputable abbrev af6 : Env := En [] [] [] [] false 0 []
noncomputable def Nr (a : au) (b : au) (K : aj → Option aj) : Option aj := (bif (decide (a.1 < b.2.1)) then (bif (decide (b.1 < a.2.1)) then (bif (decide (a.1 < a.2.1)) then K ((.s (.bool (decide (b.1 < b.2.1)))), []) else K ((.s (.bool false)), [])) else K ((.s (.bool false)), [])) else K ((.s (.bool false)), []))
theorem af7 (a : au) (b : au) (K : aj → Option aj) : dS af6 true F.EN [.a (aI.cells .no a), .a (aI.cells .no b)] K = Nr a b K := by kernel_rfl
def Ns : Sm := bD [.a aI, .a aI] (fun d => true) (fun d => (bl (Hy d.1 d.2.1), []))
theorem af8 (a : au) (b : au) (K : aj → Option aj) : Nr a b K = K (bl (Hy a b), []) := by
 unfold Nr
 rw [← ah9]
 cases decide (a.1 < b.2.1) <;> cases decide (b.1 < a.2.1) <;> cases decide (a.1 < a.2.1) <;> rfl
theorem aa1 : aT prog I N.EN true Ns := lN (aU bn (l := []) (p := []) (ls := []) (lend := []) (focus := false) (fuel := 0) (give := []) (fn := F.EN) (by kernel_rfl) (by kernel_rfl) (by kernel_rfl) (by kernel_rfl) (cs := []) (by kernel_rfl) aJ) (aK fun d K h => (af7 d.1 d.2.1 K).trans (af8 d.1 d.2.1 K))
end Go.Ev.Seat
end
section
set_option linter.unusedVariables false
namespace Go.Ev.Seat
open Go.RowKit
theorem Ej {l : List aC} (h : iR (.sl aH) l = true) : iR (.sl ay) (dN l) = true := by
 unfold dN
 refine amX (by rw [List.length_map]; exact iw h) (fun x hx => ?_)
 obtain ⟨c, hc, rfl⟩ := List.mem_map.1 hx
 exact afN (F5 h hc)
theorem Pn : ∀ (l : List ak) (t : List Int) (n : Nat), aO t = true → (∀ e ∈ l, aO e.2.2 = true) → aO (iq l t n).1 = true
 | [], t, n, h, _ => h
 | e :: l, t, n, h, hl => by
  simp only [iq]
  cases he : iE t e with
  | false => exact h
  | true =>
   have e1 : ny t e = Xe e t := by unfold ny; rw [he]; rfl
   rw [cond_true]
   exact Pn l _ _ (e1 ▸ JZ h (hl e List.mem_cons_self)) (fun x hx => hl x (List.mem_cons_of_mem _ hx))
theorem Em {t : List Int} {l : List ak} (h : aO t = true) (hl : iR (.sl ay) l = true) : aO (bQ t l).1 = true := by
 unfold bQ
 cases aS t with
 | false => rfl
 | true => exact Pn l t 0 h (fun e he => MS (F5 hl he))
theorem Eo {d : eU} (h : iZ bT d = true) : aO d.1 = true ∧ aO d.2.1 = true ∧ iR (.sl aH) d.2.2.1 = true ∧ iR (.sl aF) d.2.2.2.2.1 = true ∧ iR (.sl aI) d.2.2.2.2.2 = true :=
 ⟨FZ (MR h), FZ (MR (dB h)), MR (dB (dB h)), MR (dB (dB (dB (dB h)))), dB (dB (dB (dB (dB h))))⟩
theorem Zv {m : aB} (h : iZ aF m = true) : iR (.sl ay) m.2.2.2.1 = true ∧ iR (.sl ay) m.2.2.2.2 = true :=
 ⟨MR (dB (dB (dB h))), dB (dB (dB (dB h)))⟩
end Go.Ev.Seat
end
section
set_option linter.unusedVariables false
namespace Go.Ev
open Go.RowKit
theorem Zw {xs ys : List Int} (h : aN xs ≠ 0) (hl : aN xs ≤ ys.length) (he : ∀ i, i < aN xs → ys.getD i 0 = xs.getD i 0) : aN ys = aN xs := by
 have e0 := he 0 (by omega)
 have l0 : ¬ ys.length = 0 := by omega
 by_cases n0 : xs.length = 0
 ·exact absurd (by unfold aN; rw [if_pos n0]) h
 by_cases a1 : xs.getD 0 0 < 128
 ·have s1 : aN xs = 1 := by unfold aN; rw [if_neg n0, if_pos a1]
  rw [s1]; unfold aN; rw [if_neg l0, e0, if_pos a1]
 by_cases a2 : xs.getD 0 0 < 194
 ·exact absurd (by unfold aN; rw [if_neg n0, if_neg a1, if_pos a2]) h
 by_cases a3 : xs.getD 0 0 < 224
 ·by_cases b : 2 ≤ xs.length ∧ 128 ≤ xs.getD 1 0 ∧ xs.getD 1 0 ≤ 191
  ·have s1 : aN xs = 2 := by unfold aN; rw [if_neg n0, if_neg a1, if_neg a2, if_pos a3, if_pos b]
   have e1 := he 1 (by omega)
   rw [s1]; unfold aN; rw [if_neg l0, e0, if_neg a1, if_neg a2, if_pos a3, e1, if_pos ⟨by omega, b.2⟩]
  ·exact absurd (by unfold aN; rw [if_neg n0, if_neg a1, if_neg a2, if_pos a3, if_neg b]) h
 by_cases a4 : xs.getD 0 0 < 240
 ·by_cases b : 3 ≤ xs.length ∧ lo3 (xs.getD 0 0) ≤ xs.getD 1 0 ∧ xs.getD 1 0 ≤ hi3 (xs.getD 0 0) ∧ 128 ≤ xs.getD 2 0 ∧ xs.getD 2 0 ≤ 191
  ·have s1 : aN xs = 3 := by unfold aN; rw [if_neg n0, if_neg a1, if_neg a2, if_neg a3, if_pos a4, if_pos b]
   have e1 := he 1 (by omega)
   have e2 := he 2 (by omega)
   rw [s1]; unfold aN; rw [if_neg l0, e0, if_neg a1, if_neg a2, if_neg a3, if_pos a4, e1, e2, if_pos ⟨by omega, b.2⟩]
  ·exact absurd (by unfold aN; rw [if_neg n0, if_neg a1, if_neg a2, if_neg a3, if_pos a4, if_neg b]) h
 by_cases a5 : xs.getD 0 0 < 245
 ·by_cases b : 4 ≤ xs.length ∧ lo4 (xs.getD 0 0) ≤ xs.getD 1 0 ∧ xs.getD 1 0 ≤ hi4 (xs.getD 0 0) ∧ 128 ≤ xs.getD 2 0 ∧ xs.getD 2 0 ≤ 191 ∧ 128 ≤ xs.getD 3 0 ∧ xs.getD 3 0 ≤ 191
  ·have s1 : aN xs = 4 := by unfold aN; rw [if_neg n0, if_neg a1, if_neg a2, if_neg a3, if_neg a4, if_pos a5, if_pos b]
   have e1 := he 1 (by omega)
   have e2 := he 2 (by omega)
   have e3 := he 3 (by omega)
   rw [s1]; unfold aN; rw [if_neg l0, e0, if_neg a1, if_neg a2, if_neg a3, if_neg a4, if_pos a5, e1, e2, e3, if_pos ⟨by omega, b.2⟩]
  ·exact absurd (by unfold aN; rw [if_neg n0, if_neg a1, if_neg a2, if_neg a3, if_neg a4, if_pos a5, if_neg b]) h
 ·exact absurd (by unfold aN; rw [if_neg n0, if_neg a1, if_neg a2, if_neg a3, if_neg a4, if_neg a5]) h
theorem ama {xs ys : List Int} {i : Nat} (h : i < xs.length) : (xs ++ ys).getD i 0 = xs.getD i 0 := by
 rw [List.getD_eq_getElem?_getD, List.getD_eq_getElem?_getD, List.getElem?_append_left h]
theorem getD_take {xs : List Int} {i n : Nat} (h : i < n) : (xs.take n).getD i 0 = xs.getD i 0 := by
 rw [List.getD_eq_getElem?_getD, List.getD_eq_getElem?_getD, List.getElem?_take, if_pos h]
theorem Zx {xs : List Int} (h : aN xs ≠ 0) (ys : List Int) : aN (xs ++ ys) = aN xs := by
 have := mW xs
 exact Zw h (by rw [List.length_append]; omega) (fun i hi => ama (by omega))
theorem af9 {xs : List Int} (h : aN xs ≠ 0) {n : Nat} (hn : aN xs ≤ n) : aN (xs.take n) = aN xs := by
 have := mW xs
 exact Zw h (by rw [List.length_take]; omega) (fun i hi => getD_take (by omega))
theorem acj : ∀ (n : Nat) (xs ys : List Int), xs.length ≤ n → valid xs = true → valid (xs ++ ys) = valid ys
 | n, xs, ys, hn, hv => by
  rcases ML hv with rfl | ⟨h, h2⟩
  ·rfl
  ·have hle := mW xs
   cases n with
   | zero => omega
   | succ n =>
    rw [yE (xs := xs ++ ys) (by rw [Zx h]; exact h), Zx h, List.drop_append_of_le_length hle]
    exact acj n (xs.drop (aN xs)) ys (by rw [List.length_drop]; omega) h2
theorem SH {xs ys : List Int} (h1 : valid xs = true) (h2 : valid ys = true) : valid (xs ++ ys) = true := by
 rw [acj xs.length xs ys (Nat.le_refl _) h1, h2]
theorem Vd : ∀ (n : Nat) (xs : List Int) (k : Nat), xs.length ≤ n → valid xs = true → dh xs ((k : Nat) : Int) = true → valid (xs.take k) = true ∧ valid (xs.drop k) = true
 | n, xs, k, hn, hv, hk => by
  by_cases k0 : k = 0
  ·subst k0; exact ⟨OG, hv⟩
  rcases ML hv with rfl | ⟨h, h2⟩
  ·simp [OG]
  have hle := mW xs
  obtain ⟨c0, cj⟩ := acf h
  have hr := fA hk
  cases n with
  | zero => omega
  | succ n =>
   have hks : aN xs ≤ k := by
    rcases Nat.lt_or_ge k (aN xs) with q | q
    ·have := cj k (by omega) q
     unfold dh at hk
     rw [Bool.or_eq_true, beq_iff_eq, Bool.and_eq_true] at hk
     rcases hk with hk | ⟨_, hk⟩
     ·omega
     ·rw [Int.toNat_natCast, this] at hk; cases hk
    ·exact q
   have hk2 : dh (xs.drop (aN xs)) ((k - aN xs : Nat) : Int) = true := by
    unfold dh at hk ⊢
    rw [List.length_drop, getD_drop]
    rw [Bool.or_eq_true, beq_iff_eq, Bool.and_eq_true, Bool.and_eq_true, decide_eq_true_iff, decide_eq_true_iff] at hk ⊢
    rcases hk with hk | ⟨⟨_, hk1⟩, hk2⟩
    ·left; omega
    ·right
     rw [Int.toNat_natCast] at hk2 ⊢
     rw [show aN xs + (k - aN xs) = k by omega]
     exact ⟨⟨by omega, by omega⟩, hk2⟩
   obtain ⟨i1, i2⟩ := Vd n (xs.drop (aN xs)) (k - aN xs) (by rw [List.length_drop]; omega) h2 hk2
   refine ⟨?_, ?_⟩
   ·have ht : aN (xs.take k) = aN xs := af9 h hks
    rw [yE (xs := xs.take k) (by rw [ht]; exact h), ht, List.drop_take]
    exact i1
   ·rw [List.drop_drop, show aN xs + (k - aN xs) = k by omega] at i2
    exact i2
theorem ait {t : List Int} {e : E3} (h : iE t e = true) : aS (Xe e t) = true := by
 have q := yV.1 h
 have r1 := fA q.a
 have r2 := fA q.b
 have hl := adw r1.1 q.c0 r2.2
 have hx := q.l
 have hv := (uj.1 q.tx).2
 have hp := (uj.1 q.p).2
 refine uj.2 ⟨by omega, ?_⟩
 have a1 := (Vd t.length t e.1.toNat (Nat.le_refl _) hv (by rw [Int.toNat_of_nonneg r1.1]; exact q.a)).1
 have a2 := (Vd t.length t (e.1 + e.2.1).toNat (Nat.le_refl _) hv (by rw [Int.toNat_of_nonneg r2.1]; exact q.b)).2
 unfold Xe
 exact SH (SH a1 hp) a2
theorem KY : ∀ (l : List E3) (t : List Int) (n : Nat), aS t = true → aS (iq l t n).1 = true
 | [], t, n, h => h
 | e :: l, t, n, h => by
  simp only [iq]
  cases he : iE t e with
  | false => exact h
  | true => exact KY l _ _ (ait he)
theorem Nu {t : List Int} (l : List E3) (h : aS t = true) : aS (bQ t l).1 = true := by
 unfold bQ
 rw [h]; exact KY l t 0 h
end Go.Ev
end
section
set_option linter.unusedVariables false
namespace Go.Ev.Seat
open Go.RowKit
theorem anV (e : ak) : ay.w e = e.2.2.length := by
 show 0 + (0 + (Cc.sl ah).w e.2.2) = _
 rw [ajr]; omega
end Go.Ev.Seat
end
section
namespace Go.Ev.Seat
open Go.RowKit
set_option maxRecDepth 100000
set_option linter.unusedVariables false
set_option linter.unusedSimpArgs false
def CB (x2 : Bool) (b00 : List Int) (b01 : List Int) (b02 : List aC) (aW : Int) (aX : List aB) (aY : List au) : St := { tm := ([.x, (.pb 0 0), (.s (.bool x2))] ++ List.replicate 184 .x), ob := [(0, (.box [(.l .no ah b00), (.l .no ah b01), (.l .no aH b02), (.s (.int .i64 aW)), (.l .no aF aX), (.l .no aI aY)]))], nx := 1, io := [] }
def CG (b00 : List Int) (b01 : List Int) (b02 : List aC) (aW : Int) (aX : List aB) (aY : List au) : St := { tm := ([.x, (.pb 0 0)] ++ List.replicate 185 .x), ob := [(0, (.box [(.l .no ah b00), (.l .no ah b01), (.l .no aH b02), (.s (.int .i64 aW)), (.l .no aF aX), (.l .no aI aY)]))], nx := 1, io := [] }
def zL : Ss := { tm := (.cons (.x) (.cons (.pb 0 0) (.cons (.x) (.cons (.x) (.cons (.x) (.cons (.int .i64) (Ed 181))))))), ob := (.box (.cons (.l .no ah) (.cons (.l .no ah) (.cons (.l .no aH) (.cons (.int .i64) (.cons (.l .no aF) (.cons (.l .no aI) .nil)))))) .nil), nx := 1, io := .nil }
def aa2 (x5 : Int) (b00 : List Int) (b01 : List Int) (b02 : List aC) (aW : Int) (aX : List aB) (aY : List au) : zL.T := (((), ((), ((), ((), ((), (x5, xd 181)))))), ((b00, (b01, (b02, (aW, (aX, (aY, ())))))), ()), ())
def wO (x5 : Int) (b00 : List Int) (b01 : List Int) (b02 : List aC) (aW : Int) (aX : List aB) (aY : List au) : St := { tm := ([.x, (.pb 0 0), .x, .x, .x, (.s (.int .i64 x5))] ++ List.replicate 181 .x), ob := [(0, (.box [(.l .no ah b00), (.l .no ah b01), (.l .no aH b02), (.s (.int .i64 aW)), (.l .no aF aX), (.l .no aI aY)]))], nx := 1, io := [] }
theorem Zy (x5 : Int) (b00 : List Int) (b01 : List Int) (b02 : List aC) (aW : Int) (aX : List aB) (aY : List au) : zL.mk' (aa2 x5 b00 b01 b02 aW aX aY) = (wO x5 b00 b01 b02 aW aX aY) := by kernel_rfl
def aa3 (d : zL.T) (f : Int → (List Int) → (List Int) → (List aC) → Int → (List aB) → (List au) → Option aj) : Option aj := match d with | ((_, (_, (_, (_, (_, (x5, _)))))), ((b00, (b01, (b02, (aW, (aX, (aY, _)))))), _), _) => f x5 b00 b01 b02 aW aX aY
noncomputable def rQ (x5 : Int) (b00 : List Int) (b01 : List Int) (b02 : List aC) (aW : Int) (aX : List aB) (aY : List au) (pW : Int → (List Int) → (List Int) → (List aC) → Int → (List aB) → (List au) → Option aj) (k0 : Bool → (List Int) → (List Int) → (List aC) → Int → (List aB) → (List au) → Option aj) (k1 : (List Int) → (List Int) → (List aC) → Int → (List aB) → (List au) → Option aj) : Option aj := (bif (decide (x5 < (((List.length b02) : Nat) : Int))) then (bif ((decide ((0 : Int) ≤ x5)) && (decide (x5 < (((List.length b02) : Nat) : Int)))) then (bif (!(nC (List.getD b02 (Int.toNat x5) (aH.dflt)).1)) then (k0 false b00 b01 b02 aW aX aY) else (pW (IntKind.wrap .i64 (x5 + (1 : Int))) b00 b01 b02 aW aX aY)) else none) else (k1 b00 b01 b02 aW aX aY))
noncomputable def wP : Nat → Int → (List Int) → (List Int) → (List aC) → Int → (List aB) → (List au) → (Bool → (List Int) → (List Int) → (List aC) → Int → (List aB) → (List au) → Option aj) → ((List Int) → (List Int) → (List aC) → Int → (List aB) → (List au) → Option aj) → Option aj
 | 0, _, _, _, _, _, _, _, _, _ => none
 | m + 1, x5, b00, b01, b02, aW, aX, aY, k0, k1 => rQ x5 b00 b01 b02 aW aX aY (fun x5 b00 b01 b02 aW aX aY => (wP m x5 b00 b01 b02 aW aX aY k0 k1)) k0 k1
noncomputable def Iz (x5 : Int) (b00 : List Int) (b01 : List Int) (b02 : List aC) (aW : Int) (aX : List aB) (aY : List au) (k0 : Bool → (List Int) → (List Int) → (List aC) → Int → (List aB) → (List au) → Option aj) (k1 : (List Int) → (List Int) → (List aC) → Int → (List aB) → (List au) → Option aj) : Option aj := wP (x5.toNat + List.length b00 + List.length b01 + List.length b02 + aW.toNat + List.length aX + List.length aY + 2) x5 b00 b01 b02 aW aX aY k0 k1
noncomputable def H7 : fG := (fun (σ : St) (K : Ex → St → Option aj) => (match zL.un σ with | some d => aa3 d (fun x5 b00 b01 b02 aW aX aY => Iz x5 b00 b01 b02 aW aX aY (fun x2 b00 b01 b02 aW aX aY => (K .ret (CB x2 b00 b01 b02 aW aX aY))) (fun b00 b01 b02 aW aX aY => (K (.ext 0) (CG b00 b01 b02 aW aX aY)))) | none => none))
def zM (x2 : Bool) (b00 : List Int) (b01 : List Int) (b02 : List aC) (aW : Int) (aX : List aB) (aY : List au) : St := { tm := ([.x, (.pb 0 0), (.s (.bool x2))] ++ List.replicate 184 .x), ob := [(0, (.box [(.l .no ah b00), (.l .no ah b01), (.l .no aH b02), (.s (.int .i64 aW)), (.l .no aF aX), (.l .no aI aY)]))], nx := 1, io := [] }
def zN (b00 : List Int) (b01 : List Int) (b02 : List aC) (aW : Int) (aX : List aB) (aY : List au) : St := { tm := ([.x, (.pb 0 0)] ++ List.replicate 185 .x), ob := [(0, (.box [(.l .no ah b00), (.l .no ah b01), (.l .no aH b02), (.s (.int .i64 aW)), (.l .no aF aX), (.l .no aI aY)]))], nx := 1, io := [] }
def xK : Ss := { tm := (.cons (.x) (.cons (.pb 0 0) (.cons (.x) (.cons (.x) (.cons (.x) (.cons (.x) (.cons (.int .i64) (Ed 180)))))))), ob := (.box (.cons (.l .no ah) (.cons (.l .no ah) (.cons (.l .no aH) (.cons (.int .i64) (.cons (.l .no aF) (.cons (.l .no aI) .nil)))))) .nil), nx := 1, io := .nil }
def Zz (x6 : Int) (b00 : List Int) (b01 : List Int) (b02 : List aC) (aW : Int) (aX : List aB) (aY : List au) : xK.T := (((), ((), ((), ((), ((), ((), (x6, xd 180))))))), ((b00, (b01, (b02, (aW, (aX, (aY, ())))))), ()), ())
def uF (x6 : Int) (b00 : List Int) (b01 : List Int) (b02 : List aC) (aW : Int) (aX : List aB) (aY : List au) : St := { tm := ([.x, (.pb 0 0), .x, .x, .x, .x, (.s (.int .i64 x6))] ++ List.replicate 180 .x), ob := [(0, (.box [(.l .no ah b00), (.l .no ah b01), (.l .no aH b02), (.s (.int .i64 aW)), (.l .no aF aX), (.l .no aI aY)]))], nx := 1, io := [] }
theorem Xu (x6 : Int) (b00 : List Int) (b01 : List Int) (b02 : List aC) (aW : Int) (aX : List aB) (aY : List au) : xK.mk' (Zz x6 b00 b01 b02 aW aX aY) = (uF x6 b00 b01 b02 aW aX aY) := by kernel_rfl
def ZA (d : xK.T) (f : Int → (List Int) → (List Int) → (List aC) → Int → (List aB) → (List au) → Option aj) : Option aj := match d with | ((_, (_, (_, (_, (_, (_, (x6, _))))))), ((b00, (b01, (b02, (aW, (aX, (aY, _)))))), _), _) => f x6 b00 b01 b02 aW aX aY
noncomputable def o9 (x6 : Int) (b00 : List Int) (b01 : List Int) (b02 : List aC) (aW : Int) (aX : List aB) (aY : List au) (pW : Int → (List Int) → (List Int) → (List aC) → Int → (List aB) → (List au) → Option aj) (k0 : Bool → (List Int) → (List Int) → (List aC) → Int → (List aB) → (List au) → Option aj) (k1 : (List Int) → (List Int) → (List aC) → Int → (List aB) → (List au) → Option aj) : Option aj := (bif (decide (x6 < (((List.length aX) : Nat) : Int))) then (bif ((decide ((0 : Int) ≤ x6)) && (decide (x6 < (((List.length aX) : Nat) : Int)))) then (bif (!(nC (List.getD aX (Int.toNat x6) (aF.dflt)).1)) then (k0 false b00 b01 b02 aW aX aY) else (bif (decide (x6 > (0 : Int))) then (bif ((decide ((0 : Int) ≤ (IntKind.wrap .i64 (x6 - (1 : Int))))) && (decide ((IntKind.wrap .i64 (x6 - (1 : Int))) < (((List.length aX) : Nat) : Int)))) then (bif (decide ((List.getD aX (Int.toNat (IntKind.wrap .i64 (x6 - (1 : Int)))) (aF.dflt)).1 ≥ (List.getD aX (Int.toNat x6) (aF.dflt)).1)) then (k0 false b00 b01 b02 aW aX aY) else (bif (aO b01) then (bif (!((qL b01 (List.getD aX (Int.toNat x6) (aF.dflt)).2.1) && (qL b01 (List.getD aX (Int.toNat x6) (aF.dflt)).2.2.1))) then (k0 false b00 b01 b02 aW aX aY) else (bif ((Nat.ble (List.length (List.getD aX (Int.toNat x6) (aF.dflt)).2.2.2.1) 1048576) && (Nat.ble (List.length (List.getD aX (Int.toNat x6) (aF.dflt)).2.2.2.2) 1048576)) then (bif (!(kG (List.getD aX (Int.toNat x6) (aF.dflt)).2.2.2)) then (k0 false b00 b01 b02 aW aX aY) else (bif (((aO b01) && (iR (Cc.sl ay) (List.getD aX (Int.toNat x6) (aF.dflt)).2.2.2.1)) && (aS b01)) then (bif (!(List.all (List.getD aX (Int.toNat x6) (aF.dflt)).2.2.2.1 (fU b01))) then (k0 false b00 b01 b02 aW aX aY) else (bif (((aO b01) && (iR (Cc.sl ay) (List.getD aX (Int.toNat x6) (aF.dflt)).2.2.2.2)) && (aS b01)) then (bif (!(List.all (List.getD aX (Int.toNat x6) (aF.dflt)).2.2.2.2 (fU b01))) then (k0 false b00 b01 b02 aW aX aY) else (pW (IntKind.wrap .i64 (x6 + (1 : Int))) b00 b01 b02 aW aX aY)) else none)) else none)) else none)) else none)) else none) else (bif (aO b01) then (bif (!((qL b01 (List.getD aX (Int.toNat x6) (aF.dflt)).2.1) && (qL b01 (List.getD aX (Int.toNat x6) (aF.dflt)).2.2.1))) then (k0 false b00 b01 b02 aW aX aY) else (bif ((Nat.ble (List.length (List.getD aX (Int.toNat x6) (aF.dflt)).2.2.2.1) 1048576) && (Nat.ble (List.length (List.getD aX (Int.toNat x6) (aF.dflt)).2.2.2.2) 1048576)) then (bif (!(kG (List.getD aX (Int.toNat x6) (aF.dflt)).2.2.2)) then (k0 false b00 b01 b02 aW aX aY) else (bif (((aO b01) && (iR (Cc.sl ay) (List.getD aX (Int.toNat x6) (aF.dflt)).2.2.2.1)) && (aS b01)) then (bif (!(List.all (List.getD aX (Int.toNat x6) (aF.dflt)).2.2.2.1 (fU b01))) then (k0 false b00 b01 b02 aW aX aY) else (bif (((aO b01) && (iR (Cc.sl ay) (List.getD aX (Int.toNat x6) (aF.dflt)).2.2.2.2)) && (aS b01)) then (bif (!(List.all (List.getD aX (Int.toNat x6) (aF.dflt)).2.2.2.2 (fU b01))) then (k0 false b00 b01 b02 aW aX aY) else (pW (IntKind.wrap .i64 (x6 + (1 : Int))) b00 b01 b02 aW aX aY)) else none)) else none)) else none)) else none))) else none) else (k1 b00 b01 b02 aW aX aY))
noncomputable def uG : Nat → Int → (List Int) → (List Int) → (List aC) → Int → (List aB) → (List au) → (Bool → (List Int) → (List Int) → (List aC) → Int → (List aB) → (List au) → Option aj) → ((List Int) → (List Int) → (List aC) → Int → (List aB) → (List au) → Option aj) → Option aj
 | 0, _, _, _, _, _, _, _, _, _ => none
 | m + 1, x6, b00, b01, b02, aW, aX, aY, k0, k1 => o9 x6 b00 b01 b02 aW aX aY (fun x6 b00 b01 b02 aW aX aY => (uG m x6 b00 b01 b02 aW aX aY k0 k1)) k0 k1
noncomputable def F8 (x6 : Int) (b00 : List Int) (b01 : List Int) (b02 : List aC) (aW : Int) (aX : List aB) (aY : List au) (k0 : Bool → (List Int) → (List Int) → (List aC) → Int → (List aB) → (List au) → Option aj) (k1 : (List Int) → (List Int) → (List aC) → Int → (List aB) → (List au) → Option aj) : Option aj := uG (x6.toNat + List.length b00 + List.length b01 + List.length b02 + aW.toNat + List.length aX + List.length aY + 2) x6 b00 b01 b02 aW aX aY k0 k1
noncomputable def Ep : fG := (fun (σ : St) (K : Ex → St → Option aj) => (match xK.un σ with | some d => ZA d (fun x6 b00 b01 b02 aW aX aY => F8 x6 b00 b01 b02 aW aX aY (fun x2 b00 b01 b02 aW aX aY => (K .ret (zM x2 b00 b01 b02 aW aX aY))) (fun b00 b01 b02 aW aX aY => (K (.ext 2) (zN b00 b01 b02 aW aX aY)))) | none => none))
def zO (x2 : Bool) (x8 : Int) (b00 : List Int) (b01 : List Int) (b02 : List aC) (aW : Int) (aX : List aB) (aY : List au) : St := { tm := ([.x, (.pb 0 0), (.s (.bool x2)), .x, .x, .x, .x, .x, (.s (.int .i64 x8))] ++ List.replicate 178 .x), ob := [(0, (.box [(.l .no ah b00), (.l .no ah b01), (.l .no aH b02), (.s (.int .i64 aW)), (.l .no aF aX), (.l .no aI aY)]))], nx := 1, io := [] }
def zQ (x8 : Int) (b00 : List Int) (b01 : List Int) (b02 : List aC) (aW : Int) (aX : List aB) (aY : List au) : St := { tm := ([.x, (.pb 0 0), .x, .x, .x, .x, .x, .x, (.s (.int .i64 x8))] ++ List.replicate 178 .x), ob := [(0, (.box [(.l .no ah b00), (.l .no ah b01), (.l .no aH b02), (.s (.int .i64 aW)), (.l .no aF aX), (.l .no aI aY)]))], nx := 1, io := [] }
def xM : Ss := { tm := (.cons (.x) (.cons (.pb 0 0) (.cons (.x) (.cons (.x) (.cons (.x) (.cons (.x) (.cons (.x) (.cons (.x) (.cons (.int .i64) (.cons (.pb 1 0) (.cons (.int .i64) (Ed 176)))))))))))), ob := (.box (.cons (.l .no ah) (.cons (.l .no ah) (.cons (.l .no aH) (.cons (.int .i64) (.cons (.l .no aF) (.cons (.l .no aI) .nil)))))) (.box (.cons (.int .i64) (.cons (.int .i64) (.cons (.int .i64) (.cons (.int .i64) .nil)))) .nil)), nx := 2, io := .nil }
def ZB (x8 : Int) (x10 : Int) (b00 : List Int) (b01 : List Int) (b02 : List aC) (aW : Int) (aX : List aB) (aY : List au) (b10 : Int) (b11 : Int) (b12 : Int) (b13 : Int) : xM.T := (((), ((), ((), ((), ((), ((), ((), ((), (x8, ((), (x10, xd 176))))))))))), ((b00, (b01, (b02, (aW, (aX, (aY, ())))))), ((b10, (b11, (b12, (b13, ())))), ())), ())
def uH (x8 : Int) (x10 : Int) (b00 : List Int) (b01 : List Int) (b02 : List aC) (aW : Int) (aX : List aB) (aY : List au) (b10 : Int) (b11 : Int) (b12 : Int) (b13 : Int) : St := { tm := ([.x, (.pb 0 0), .x, .x, .x, .x, .x, .x, (.s (.int .i64 x8)), (.pb 1 0), (.s (.int .i64 x10))] ++ List.replicate 176 .x), ob := [(0, (.box [(.l .no ah b00), (.l .no ah b01), (.l .no aH b02), (.s (.int .i64 aW)), (.l .no aF aX), (.l .no aI aY)])), (1, (.box [(.s (.int .i64 b10)), (.s (.int .i64 b11)), (.s (.int .i64 b12)), (.s (.int .i64 b13))]))], nx := 2, io := [] }
theorem Xv (x8 : Int) (x10 : Int) (b00 : List Int) (b01 : List Int) (b02 : List aC) (aW : Int) (aX : List aB) (aY : List au) (b10 : Int) (b11 : Int) (b12 : Int) (b13 : Int) : xM.mk' (ZB x8 x10 b00 b01 b02 aW aX aY b10 b11 b12 b13) = (uH x8 x10 b00 b01 b02 aW aX aY b10 b11 b12 b13) := by kernel_rfl
def ZC (d : xM.T) (f : Int → Int → (List Int) → (List Int) → (List aC) → Int → (List aB) → (List au) → Int → Int → Int → Int → Option aj) : Option aj := match d with | ((_, (_, (_, (_, (_, (_, (_, (_, (x8, (_, (x10, _))))))))))), ((b00, (b01, (b02, (aW, (aX, (aY, _)))))), ((b10, (b11, (b12, (b13, _)))), _)), _) => f x8 x10 b00 b01 b02 aW aX aY b10 b11 b12 b13
noncomputable def pq (x8 : Int) (x10 : Int) (b00 : List Int) (b01 : List Int) (b02 : List aC) (aW : Int) (aX : List aB) (aY : List au) (b10 : Int) (b11 : Int) (b12 : Int) (b13 : Int) (pW : Int → Int → (List Int) → (List Int) → (List aC) → Int → (List aB) → (List au) → Int → Int → Int → Int → Option aj) (k0 : Bool → Int → (List Int) → (List Int) → (List aC) → Int → (List aB) → (List au) → Option aj) (k1 : Int → (List Int) → (List Int) → (List aC) → Int → (List aB) → (List au) → Option aj) : Option aj := (bif (decide (x10 < x8)) then (bif ((decide ((0 : Int) ≤ x10)) && (decide (x10 < (((List.length aY) : Nat) : Int)))) then (bif ((List.getD aY (Int.toNat x10) (aI.dflt)).2.2.1 != b12) then (bif ((decide ((0 : Int) ≤ x10)) && (decide (x10 < (((List.length aY) : Nat) : Int)))) then (bif (Hy (List.getD aY (Int.toNat x10) (aI.dflt)) (b10, (b11, (b12, b13)))) then (k0 false x8 b00 b01 b02 aW aX aY) else (pW x8 (IntKind.wrap .i64 (x10 + (1 : Int))) b00 b01 b02 aW aX aY b10 b11 b12 b13)) else none) else (pW x8 (IntKind.wrap .i64 (x10 + (1 : Int))) b00 b01 b02 aW aX aY b10 b11 b12 b13)) else none) else (k1 x8 b00 b01 b02 aW aX aY))
noncomputable def uI : Nat → Int → Int → (List Int) → (List Int) → (List aC) → Int → (List aB) → (List au) → Int → Int → Int → Int → (Bool → Int → (List Int) → (List Int) → (List aC) → Int → (List aB) → (List au) → Option aj) → (Int → (List Int) → (List Int) → (List aC) → Int → (List aB) → (List au) → Option aj) → Option aj
 | 0, _, _, _, _, _, _, _, _, _, _, _, _, _, _ => none
 | m + 1, x8, x10, b00, b01, b02, aW, aX, aY, b10, b11, b12, b13, k0, k1 => pq x8 x10 b00 b01 b02 aW aX aY b10 b11 b12 b13 (fun x8 x10 b00 b01 b02 aW aX aY b10 b11 b12 b13 => (uI m x8 x10 b00 b01 b02 aW aX aY b10 b11 b12 b13 k0 k1)) k0 k1
noncomputable def F9 (x8 : Int) (x10 : Int) (b00 : List Int) (b01 : List Int) (b02 : List aC) (aW : Int) (aX : List aB) (aY : List au) (b10 : Int) (b11 : Int) (b12 : Int) (b13 : Int) (k0 : Bool → Int → (List Int) → (List Int) → (List aC) → Int → (List aB) → (List au) → Option aj) (k1 : Int → (List Int) → (List Int) → (List aC) → Int → (List aB) → (List au) → Option aj) : Option aj := uI (x8.toNat + x10.toNat + List.length b00 + List.length b01 + List.length b02 + aW.toNat + List.length aX + List.length aY + b10.toNat + b11.toNat + b12.toNat + b13.toNat + 2) x8 x10 b00 b01 b02 aW aX aY b10 b11 b12 b13 k0 k1
noncomputable def Es : fG := (fun (σ : St) (K : Ex → St → Option aj) => (match xM.un σ with | some d => ZC d (fun x8 x10 b00 b01 b02 aW aX aY b10 b11 b12 b13 => F9 x8 x10 b00 b01 b02 aW aX aY b10 b11 b12 b13 (fun x2 x8 b00 b01 b02 aW aX aY => (K .ret (zO x2 x8 b00 b01 b02 aW aX aY))) (fun x8 b00 b01 b02 aW aX aY => (K (.ext 6) (zQ x8 b00 b01 b02 aW aX aY)))) | none => none))
def zS (x2 : Bool) : St := { tm := ([.x, .x, (.s (.bool x2))] ++ List.replicate 184 .x), ob := [], nx := 0, io := [] }
def zT : St := { tm := ([] ++ List.replicate 187 .x), ob := [], nx := 0, io := [] }
def xO : Ss := { tm := (.cons (.x) (.cons (.pb 0 0) (.cons (.x) (.cons (.x) (.cons (.x) (.cons (.x) (.cons (.x) (.cons (.x) (.cons (.int .i64) (Ed 178)))))))))), ob := (.box (.cons (.l .no ah) (.cons (.l .no ah) (.cons (.l .no aH) (.cons (.int .i64) (.cons (.l .no aF) (.cons (.l .no aI) .nil)))))) .nil), nx := 1, io := .nil }
def ZE (x8 : Int) (b00 : List Int) (b01 : List Int) (b02 : List aC) (aW : Int) (aX : List aB) (aY : List au) : xO.T := (((), ((), ((), ((), ((), ((), ((), ((), (x8, xd 178))))))))), ((b00, (b01, (b02, (aW, (aX, (aY, ())))))), ()), ())
def uJ (x8 : Int) (b00 : List Int) (b01 : List Int) (b02 : List aC) (aW : Int) (aX : List aB) (aY : List au) : St := { tm := ([.x, (.pb 0 0), .x, .x, .x, .x, .x, .x, (.s (.int .i64 x8))] ++ List.replicate 178 .x), ob := [(0, (.box [(.l .no ah b00), (.l .no ah b01), (.l .no aH b02), (.s (.int .i64 aW)), (.l .no aF aX), (.l .no aI aY)]))], nx := 1, io := [] }
theorem Xw (x8 : Int) (b00 : List Int) (b01 : List Int) (b02 : List aC) (aW : Int) (aX : List aB) (aY : List au) : xO.mk' (ZE x8 b00 b01 b02 aW aX aY) = (uJ x8 b00 b01 b02 aW aX aY) := by kernel_rfl
def ZF (d : xO.T) (f : Int → (List Int) → (List Int) → (List aC) → Int → (List aB) → (List au) → Option aj) : Option aj := match d with | ((_, (_, (_, (_, (_, (_, (_, (_, (x8, _))))))))), ((b00, (b01, (b02, (aW, (aX, (aY, _)))))), _), _) => f x8 b00 b01 b02 aW aX aY
noncomputable def pz (x8 : Int) (b00 : List Int) (b01 : List Int) (b02 : List aC) (aW : Int) (aX : List aB) (aY : List au) (pW : Int → (List Int) → (List Int) → (List aC) → Int → (List aB) → (List au) → Option aj) (k0 : Bool → Option aj) (k1 : Option aj) : Option aj := (bif (decide (x8 < (((List.length aY) : Nat) : Int))) then (bif ((decide ((0 : Int) ≤ x8)) && (decide (x8 < (((List.length aY) : Nat) : Int)))) then (bif (decide ((List.getD aY (Int.toNat x8) (aI.dflt)).2.2.2 ≤ aW)) then (k0 false) else (bif (aO b01) then (bif (!(qL b01 (List.getD aY (Int.toNat x8) (aI.dflt)).1)) then (k0 false) else (bif (aO b01) then (bif (!(qL b01 (List.getD aY (Int.toNat x8) (aI.dflt)).2.1)) then (k0 false) else (F9 x8 (0 : Int) b00 b01 b02 aW aX aY (List.getD aY (Int.toNat x8) (aI.dflt)).1 (List.getD aY (Int.toNat x8) (aI.dflt)).2.1 (List.getD aY (Int.toNat x8) (aI.dflt)).2.2.1 (List.getD aY (Int.toNat x8) (aI.dflt)).2.2.2 (fun y0 y1 y2 y3 y4 y5 y6 y7 => (k0 y0)) (fun y8 y9 y10 y11 y12 y13 y14 => (pW (IntKind.wrap .i64 (y8 + (1 : Int))) y9 y10 y11 y12 y13 y14)))) else none)) else none)) else none) else k1)
noncomputable def uK : Nat → Int → (List Int) → (List Int) → (List aC) → Int → (List aB) → (List au) → (Bool → Option aj) → (Option aj) → Option aj
 | 0, _, _, _, _, _, _, _, _, _ => none
 | m + 1, x8, b00, b01, b02, aW, aX, aY, k0, k1 => pz x8 b00 b01 b02 aW aX aY (fun x8 b00 b01 b02 aW aX aY => (uK m x8 b00 b01 b02 aW aX aY k0 k1)) k0 k1
noncomputable def Gf (x8 : Int) (b00 : List Int) (b01 : List Int) (b02 : List aC) (aW : Int) (aX : List aB) (aY : List au) (k0 : Bool → Option aj) (k1 : Option aj) : Option aj := uK (x8.toNat + List.length b00 + List.length b01 + List.length b02 + aW.toNat + List.length aX + List.length aY + 2) x8 b00 b01 b02 aW aX aY k0 k1
noncomputable def Et : fG := (fun (σ : St) (K : Ex → St → Option aj) => (match xO.un σ with | some d => ZF d (fun x8 b00 b01 b02 aW aX aY => Gf x8 b00 b01 b02 aW aX aY (fun x2 => (K .ret (zS x2))) (K (.ext 4) zT)) | none => none))
noncomputable abbrev dX : Env := En [(N.AZ, true, J4), (N.jO, true, J8), (N.fK, false, yG), (N.jK, true, Dq), (N.uZ, true, F7), (N.Ox, true, Va), (N.EM, true, Np), (N.iW, true, Iy), (N.wZ, true, vI), (N.EN, true, Ns)] [(3, takeB [0, 1, 2] (.fork (.one 3 (.fork (.one 4 (takes [5, 6, 7, 8, 9]))))), []), (15, takeB [0, 1] (.fork (.one 2 (takeB [3, 4, 5, 6, 7, 8, 9, 10, 11, 12, 13, 14, 15, 16, 17, 18, 19, 20, 21, 22, 23, 24] (.fork (.one 25 (takeB [26, 27, 28, 29, 30] (.fork (.one 31 (takes [32, 33]))))))))), []), (28, takeB [0, 1, 2, 3, 4, 5, 6, 7, 8, 9, 10, 11, 12, 13, 14, 15] (.fork (.one 16 (takes [17]))), [])] [(7, [1,5], [1,2], H7), (12, [1,6], [1,2], Ep), (26, [1,8,9,10], [1,2,8], Es), (20, [1,8], [2], Et)] [] false 0 []
theorem ZG (m : Nat) (x5 : Int) (b00 : List Int) (b01 : List Int) (b02 : List aC) (aW : Int) (aX : List aB) (aY : List au) (K : Ex → St → Option aj) : rounds (run dX (aA F.eG 7)) [1,5] [1,2] (m + 1) (wO x5 b00 b01 b02 aW aX aY) K = rQ x5 b00 b01 b02 aW aX aY (fun x5 b00 b01 b02 aW aX aY => (rounds (run dX (aA F.eG 7)) [1,5] [1,2] m (wO x5 b00 b01 b02 aW aX aY) K)) (fun x2 b00 b01 b02 aW aX aY => (K .ret (CB x2 b00 b01 b02 aW aX aY))) (fun b00 b01 b02 aW aX aY => (K (.ext 0) (CG b00 b01 b02 aW aX aY))) := by kernel_rfl
theorem WL (K : Ex → St → Option aj) : ∀ m : Nat, (∀ (x5 : Int) (b00 : List Int) (b01 : List Int) (b02 : List aC) (aW : Int) (aX : List aB) (aY : List au), rounds (run dX (aA F.eG 7)) [1,5] [1,2] m (wO x5 b00 b01 b02 aW aX aY) K = wP m x5 b00 b01 b02 aW aX aY (fun x2 b00 b01 b02 aW aX aY => (K .ret (CB x2 b00 b01 b02 aW aX aY))) (fun b00 b01 b02 aW aX aY => (K (.ext 0) (CG b00 b01 b02 aW aX aY))))
 | 0 => (fun _ _ _ _ _ _ _ => rfl)
 | m + 1 => (fun x5 b00 b01 b02 aW aX aY => (by rw [ZG, show (fun x5 b00 b01 b02 aW aX aY => (rounds (run dX (aA F.eG 7)) [1,5] [1,2] m (wO x5 b00 b01 b02 aW aX aY) K)) = (fun x5 b00 b01 b02 aW aX aY => (wP m x5 b00 b01 b02 aW aX aY (fun x2 b00 b01 b02 aW aX aY => (K .ret (CB x2 b00 b01 b02 aW aX aY))) (fun b00 b01 b02 aW aX aY => (K (.ext 0) (CG b00 b01 b02 aW aX aY))))) from funext fun x5 => funext fun b00 => funext fun b01 => funext fun b02 => funext fun aW => funext fun aX => funext fun aY => (WL K m) x5 b00 b01 b02 aW aX aY]; rfl))
theorem Xx : dL dX (aA F.eG 7) := by
 refine dG (n := 7) (F := H7) (by kernel_rfl) rfl (li := [1,5]) (lo := [1,2]) rfl (fun σ K r hr => ?_)
 unfold H7 at hr
 split at hr
 ·rename_i d hd
  rw [Ss.fF hd]
  exact ⟨_, ((congrArg (fun z => rounds (run dX (aA F.eG 7)) [1,5] [1,2] _ z K) (Zy _ _ _ _ _ _ _)).trans ((WL K _) _ _ _ _ _ _ _)).trans hr⟩
 ·cases hr
theorem Xy (m : Nat) (x6 : Int) (b00 : List Int) (b01 : List Int) (b02 : List aC) (aW : Int) (aX : List aB) (aY : List au) (K : Ex → St → Option aj) : rounds (run dX (aA F.eG 12)) [1,6] [1,2] (m + 1) (uF x6 b00 b01 b02 aW aX aY) K = o9 x6 b00 b01 b02 aW aX aY (fun x6 b00 b01 b02 aW aX aY => (rounds (run dX (aA F.eG 12)) [1,6] [1,2] m (uF x6 b00 b01 b02 aW aX aY) K)) (fun x2 b00 b01 b02 aW aX aY => (K .ret (zM x2 b00 b01 b02 aW aX aY))) (fun b00 b01 b02 aW aX aY => (K (.ext 2) (zN b00 b01 b02 aW aX aY))) := by kernel_rfl
theorem SI (K : Ex → St → Option aj) : ∀ m : Nat, (∀ (x6 : Int) (b00 : List Int) (b01 : List Int) (b02 : List aC) (aW : Int) (aX : List aB) (aY : List au), rounds (run dX (aA F.eG 12)) [1,6] [1,2] m (uF x6 b00 b01 b02 aW aX aY) K = uG m x6 b00 b01 b02 aW aX aY (fun x2 b00 b01 b02 aW aX aY => (K .ret (zM x2 b00 b01 b02 aW aX aY))) (fun b00 b01 b02 aW aX aY => (K (.ext 2) (zN b00 b01 b02 aW aX aY))))
 | 0 => (fun _ _ _ _ _ _ _ => rfl)
 | m + 1 => (fun x6 b00 b01 b02 aW aX aY => (by rw [Xy, show (fun x6 b00 b01 b02 aW aX aY => (rounds (run dX (aA F.eG 12)) [1,6] [1,2] m (uF x6 b00 b01 b02 aW aX aY) K)) = (fun x6 b00 b01 b02 aW aX aY => (uG m x6 b00 b01 b02 aW aX aY (fun x2 b00 b01 b02 aW aX aY => (K .ret (zM x2 b00 b01 b02 aW aX aY))) (fun b00 b01 b02 aW aX aY => (K (.ext 2) (zN b00 b01 b02 aW aX aY))))) from funext fun x6 => funext fun b00 => funext fun b01 => funext fun b02 => funext fun aW => funext fun aX => funext fun aY => (SI K m) x6 b00 b01 b02 aW aX aY]; rfl))
theorem Ve : dL dX (aA F.eG 12) := by
 refine dG (n := 12) (F := Ep) (by kernel_rfl) rfl (li := [1,6]) (lo := [1,2]) rfl (fun σ K r hr => ?_)
 unfold Ep at hr
 split at hr
 ·rename_i d hd
  rw [Ss.fF hd]
  exact ⟨_, ((congrArg (fun z => rounds (run dX (aA F.eG 12)) [1,6] [1,2] _ z K) (Xu _ _ _ _ _ _ _)).trans ((SI K _) _ _ _ _ _ _ _)).trans hr⟩
 ·cases hr
theorem Xz (m : Nat) (x8 : Int) (x10 : Int) (b00 : List Int) (b01 : List Int) (b02 : List aC) (aW : Int) (aX : List aB) (aY : List au) (b10 : Int) (b11 : Int) (b12 : Int) (b13 : Int) (K : Ex → St → Option aj) : rounds (run dX (aA F.eG 26)) [1,8,9,10] [1,2,8] (m + 1) (uH x8 x10 b00 b01 b02 aW aX aY b10 b11 b12 b13) K = pq x8 x10 b00 b01 b02 aW aX aY b10 b11 b12 b13 (fun x8 x10 b00 b01 b02 aW aX aY b10 b11 b12 b13 => (rounds (run dX (aA F.eG 26)) [1,8,9,10] [1,2,8] m (uH x8 x10 b00 b01 b02 aW aX aY b10 b11 b12 b13) K)) (fun x2 x8 b00 b01 b02 aW aX aY => (K .ret (zO x2 x8 b00 b01 b02 aW aX aY))) (fun x8 b00 b01 b02 aW aX aY => (K (.ext 6) (zQ x8 b00 b01 b02 aW aX aY))) := by kernel_rfl
theorem SK (K : Ex → St → Option aj) : ∀ m : Nat, (∀ (x8 : Int) (x10 : Int) (b00 : List Int) (b01 : List Int) (b02 : List aC) (aW : Int) (aX : List aB) (aY : List au) (b10 : Int) (b11 : Int) (b12 : Int) (b13 : Int), rounds (run dX (aA F.eG 26)) [1,8,9,10] [1,2,8] m (uH x8 x10 b00 b01 b02 aW aX aY b10 b11 b12 b13) K = uI m x8 x10 b00 b01 b02 aW aX aY b10 b11 b12 b13 (fun x2 x8 b00 b01 b02 aW aX aY => (K .ret (zO x2 x8 b00 b01 b02 aW aX aY))) (fun x8 b00 b01 b02 aW aX aY => (K (.ext 6) (zQ x8 b00 b01 b02 aW aX aY))))
 | 0 => (fun _ _ _ _ _ _ _ _ _ _ _ _ => rfl)
 | m + 1 => (fun x8 x10 b00 b01 b02 aW aX aY b10 b11 b12 b13 => (by rw [Xz, show (fun x8 x10 b00 b01 b02 aW aX aY b10 b11 b12 b13 => (rounds (run dX (aA F.eG 26)) [1,8,9,10] [1,2,8] m (uH x8 x10 b00 b01 b02 aW aX aY b10 b11 b12 b13) K)) = (fun x8 x10 b00 b01 b02 aW aX aY b10 b11 b12 b13 => (uI m x8 x10 b00 b01 b02 aW aX aY b10 b11 b12 b13 (fun x2 x8 b00 b01 b02 aW aX aY => (K .ret (zO x2 x8 b00 b01 b02 aW aX aY))) (fun x8 b00 b01 b02 aW aX aY => (K (.ext 6) (zQ x8 b00 b01 b02 aW aX aY))))) from funext fun x8 => funext fun x10 => funext fun b00 => funext fun b01 => funext fun b02 => funext fun aW => funext fun aX => funext fun aY => funext fun b10 => funext fun b11 => funext fun b12 => funext fun b13 => (SK K m) x8 x10 b00 b01 b02 aW aX aY b10 b11 b12 b13]; rfl))
theorem Vf : dL dX (aA F.eG 26) := by
 refine dG (n := 26) (F := Es) (by kernel_rfl) rfl (li := [1,8,9,10]) (lo := [1,2,8]) rfl (fun σ K r hr => ?_)
 unfold Es at hr
 split at hr
 ·rename_i d hd
  rw [Ss.fF hd]
  exact ⟨_, ((congrArg (fun z => rounds (run dX (aA F.eG 26)) [1,8,9,10] [1,2,8] _ z K) (Xv _ _ _ _ _ _ _ _ _ _ _ _)).trans ((SK K _) _ _ _ _ _ _ _ _ _ _ _ _)).trans hr⟩
 ·cases hr
theorem XA (m : Nat) (x8 : Int) (b00 : List Int) (b01 : List Int) (b02 : List aC) (aW : Int) (aX : List aB) (aY : List au) (K : Ex → St → Option aj) : rounds (run dX (aA F.eG 20)) [1,8] [2] (m + 1) (uJ x8 b00 b01 b02 aW aX aY) K = pz x8 b00 b01 b02 aW aX aY (fun x8 b00 b01 b02 aW aX aY => (rounds (run dX (aA F.eG 20)) [1,8] [2] m (uJ x8 b00 b01 b02 aW aX aY) K)) (fun x2 => (K .ret (zS x2))) (K (.ext 4) zT) := by kernel_rfl
theorem SL (K : Ex → St → Option aj) : ∀ m : Nat, (∀ (x8 : Int) (b00 : List Int) (b01 : List Int) (b02 : List aC) (aW : Int) (aX : List aB) (aY : List au), rounds (run dX (aA F.eG 20)) [1,8] [2] m (uJ x8 b00 b01 b02 aW aX aY) K = uK m x8 b00 b01 b02 aW aX aY (fun x2 => (K .ret (zS x2))) (K (.ext 4) zT))
 | 0 => (fun _ _ _ _ _ _ _ => rfl)
 | m + 1 => (fun x8 b00 b01 b02 aW aX aY => (by rw [XA, show (fun x8 b00 b01 b02 aW aX aY => (rounds (run dX (aA F.eG 20)) [1,8] [2] m (uJ x8 b00 b01 b02 aW aX aY) K)) = (fun x8 b00 b01 b02 aW aX aY => (uK m x8 b00 b01 b02 aW aX aY (fun x2 => (K .ret (zS x2))) (K (.ext 4) zT))) from funext fun x8 => funext fun b00 => funext fun b01 => funext fun b02 => funext fun aW => funext fun aX => funext fun aY => (SL K m) x8 b00 b01 b02 aW aX aY]; rfl))
theorem Vg : dL dX (aA F.eG 20) := by
 refine dG (n := 20) (F := Et) (by kernel_rfl) rfl (li := [1,8]) (lo := [2]) rfl (fun σ K r hr => ?_)
 unfold Et at hr
 split at hr
 ·rename_i d hd
  rw [Ss.fF hd]
  exact ⟨_, ((congrArg (fun z => rounds (run dX (aA F.eG 20)) [1,8] [2] _ z K) (Xw _ _ _ _ _ _ _)).trans ((SL K _) _ _ _ _ _ _ _)).trans hr⟩
 ·cases hr
noncomputable def Vh (d : eU) (K : aj → Option aj) : Option aj := (bif (decide ((((List.length d.2.2.1) : Nat) : Int) > (60 : Int))) then K ((.s (.bool false)), []) else (bif (!(Iq d.2.2.2.1)) then K ((.s (.bool false)), []) else (bif (decide ((((List.length d.2.2.2.2.1) : Nat) : Int) > (8 : Int))) then K ((.s (.bool false)), []) else (bif (Nat.ble (List.length d.2.2.2.2.2) 1048576) then (bif (!(oV d.2.2.2.2.2)) then K ((.s (.bool false)), []) else (bif (Nat.ble (List.length d.2.2.1) 1048576) then (bif ((aO d.1) && (iR (Cc.sl ay) (dN d.2.2.1))) then (bif ((bQ d.1 (dN d.2.2.1)).2 != (((List.length d.2.2.1) : Nat) : Int)) then K ((.s (.bool false)), []) else (bif (!((ByteArray.toList (oJ (bQ d.1 (dN d.2.2.1)).1)) == (ByteArray.toList (oJ d.2.1)))) then K ((.s (.bool false)), []) else (Iz (0 : Int) d.1 d.2.1 d.2.2.1 d.2.2.2.1 d.2.2.2.2.1 d.2.2.2.2.2 (fun y15 y16 y17 y18 y19 y20 y21 => K ((.s (.bool y15)), [])) (fun y22 y23 y24 y25 y26 y27 => (F8 (0 : Int) y22 y23 y24 y25 y26 y27 (fun y28 y29 y30 y31 y32 y33 y34 => K ((.s (.bool y28)), [])) (fun y35 y36 y37 y38 y39 y40 => (Gf (0 : Int) y35 y36 y37 y38 y39 y40 (fun y41 => K ((.s (.bool y41)), [])) (K ((.s (.bool true)), []))))))))) else none) else none)) else none))))
theorem aks (d : eU) (K : aj → Option aj) : dS dX true F.eG [.a (bT.cells .no d)] K = Vh d K := by kernel_rfl
def Vj : Sm := bD [.a bT] (fun d => iZ bT d.1) (fun d => (bl (um d.1), []))
theorem akt (d : eU) (h : (iZ bT d) = true) (K : aj → Option aj) : Vh d K = K (bl (um d), []) := by
 obtain ⟨st, tx, lg, ck, mb, ls⟩ := d
 obtain ⟨h1, h2, h3, h4, h5⟩ := Eo h
 have h1 : aO st = true := h1
 have h2 : aO tx = true := h2
 have h3 : iR (.sl aH) lg = true := h3
 have h4 : iR (.sl aF) mb = true := h4
 have h5 : iR (.sl aI) ls = true := h5
 have n3 := iw h3
 have n4 := iw h4
 have n5 := iw h5
 have aoS := Ej h3
 have hT : ((bQ st (dN lg)).2 == ((lg.length : Nat) : Int)) = true → aS st = true := fun q => by
  cases ht : aS st with
  | true => rfl
  | false =>
   have : (bQ st (dN lg)).2 = -1 := by unfold bQ; rw [ht]; rfl
   rw [this, beq_iff_eq] at q; omega
 have q7 : ∀ (k0 : Bool → (List Int) → (List Int) → (List aC) → Int → (List aB) → (List au) → Option aj) (k1 : (List Int) → (List Int) → (List aC) → Int → (List aB) → (List au) → Option aj), Iz 0 st tx lg ck mb ls k0 k1 = bif lg.all (fun c => nC c.1) then k1 st tx lg ck mb ls else k0 false st tx lg ck mb ls := by
  intro k0 k1
  refine Eq.trans (RY (R := fun m i => wP m i st tx lg ck mb ls k0 k1) (p := fun c : aC => nC c.1) (xs := lg) (z := aH.dflt) (kt := k1 st tx lg ck mb ls) (kf := k0 false st tx lg ck mb ls) (fun m i hi => by
   show rQ ((i : Nat) : Int) st tx lg ck mb ls _ _ _ = _
   unfold rQ
   rw [decide_eq_true (show ((i : Nat) : Int) < ((lg.length : Nat) : Int) by omega), decide_eq_true (show (0 : Int) ≤ ((i : Nat) : Int) by omega), Int.toNat_natCast, bY (by omega)]
   cases nC (lg.getD i aH.dflt).1 <;> rfl) (fun m => by
   show rQ ((lg.length : Nat) : Int) st tx lg ck mb ls _ _ _ = _
   unfold rQ
   rw [decide_eq_false (show ¬ ((lg.length : Nat) : Int) < ((lg.length : Nat) : Int) by omega)]; rfl) _ 0 (by omega) (by omega)) ?_
  rw [List.drop_zero]
 have q12 : aS tx = true → ∀ (k0 : Bool → (List Int) → (List Int) → (List aC) → Int → (List aB) → (List au) → Option aj) (k1 : (List Int) → (List Int) → (List aC) → Int → (List aB) → (List au) → Option aj), F8 0 st tx lg ck mb ls k0 k1 = bif GN mb.length (rP tx mb) then k1 st tx lg ck mb ls else k0 false st tx lg ck mb ls := by
  intro hx k0 k1
  refine Eq.trans (zA (R := fun m i => uG m i st tx lg ck mb ls k0 k1) (p := rP tx mb) (n := mb.length) (kt := k1 st tx lg ck mb ls) (kf := k0 false st tx lg ck mb ls) (fun m i hi => by
   show o9 ((i : Nat) : Int) st tx lg ck mb ls _ _ _ = _
   unfold o9 rP ady qL
   have hf := Zv (m := mb.getD i Dn) (Jt h4 rfl i)
   rw [decide_eq_true (show ((i : Nat) : Int) < ((mb.length : Nat) : Int) by omega), decide_eq_true (show (0 : Int) ≤ ((i : Nat) : Int) by omega), Int.toNat_natCast, bY (by omega), show mb.getD i aF.dflt = mb.getD i Dn from rfl, h2, hx]
   generalize mb.getD i Dn = x at *
   have n1 := iw hf.1
   have n2 := iw hf.2
   rw [hf.1, hf.2, Nat.ble_eq_true_of_le n1, Nat.ble_eq_true_of_le n2]
   cases i with
   | zero =>
    rw [decide_eq_false (show ¬ ((0 : Nat) : Int) > 0 by omega)]
    cases nC x.1
    ·rfl
    cases dh tx x.2.1
    ·rfl
    cases dh tx x.2.2.1
    ·rfl
    cases kG x.2.2.2
    ·rfl
    cases List.all x.2.2.2.1 (fU tx) <;> cases List.all x.2.2.2.2 (fU tx) <;> rfl
   | succ i =>
    rw [wrap_in (n := ((i + 1 : Nat) : Int) - 1) (by omega) (by omega), decide_eq_true (show ((i + 1 : Nat) : Int) > 0 by omega), show ((i + 1 : Nat) : Int) - 1 = ((i : Nat) : Int) by omega, decide_eq_true (show (0 : Int) ≤ ((i : Nat) : Int) by omega), decide_eq_true (show ((i : Nat) : Int) < ((mb.length : Nat) : Int) by omega), Int.toNat_natCast, show i + 1 - 1 = i from rfl, show mb.getD i aF.dflt = mb.getD i Dn from rfl]
    cases nC x.1
    ·rfl
    by_cases a3 : (mb.getD i Dn).1 < x.1
    ·rw [decide_eq_true a3, decide_eq_false (show ¬ (mb.getD i Dn).1 ≥ x.1 from Int.not_le.2 a3)]
     cases dh tx x.2.1
     ·rfl
     cases dh tx x.2.2.1
     ·rfl
     cases kG x.2.2.2
     ·rfl
     cases List.all x.2.2.2.1 (fU tx) <;> cases List.all x.2.2.2.2 (fU tx) <;> rfl
    ·rw [decide_eq_false a3, decide_eq_true (show (mb.getD i Dn).1 ≥ x.1 from Int.not_lt.1 a3), show Nat.beq (i + 1) 0 = false from rfl, Bool.or_self, Bool.and_false]; rfl) (fun m => by
   show o9 ((mb.length : Nat) : Int) st tx lg ck mb ls _ _ _ = _
   unfold o9
   rw [decide_eq_false (show ¬ ((mb.length : Nat) : Int) < ((mb.length : Nat) : Int) by omega)]; rfl) _ 0 (by omega) (by omega)) ?_
  rw [Nat.sub_zero]; rfl
 have q26 : ∀ (i : Nat) (hi : i < ls.length) (y : au) (k0 : Bool → Int → (List Int) → (List Int) → (List aC) → Int → (List aB) → (List au) → Option aj) (k1 : Int → (List Int) → (List Int) → (List aC) → Int → (List aB) → (List au) → Option aj), F9 ((i : Nat) : Int) 0 st tx lg ck mb ls y.1 y.2.1 y.2.2.1 y.2.2.2 k0 k1 =
   bif GN i (fun k => !(((ls.getD k fM).2.2.1 != y.2.2.1) && Hy (ls.getD k fM) y)) then k1 ((i : Nat) : Int) st tx lg ck mb ls else k0 false ((i : Nat) : Int) st tx lg ck mb ls := by
  intro i hi y k0 k1
  refine Eq.trans (zA (R := fun m j => uI m ((i : Nat) : Int) j st tx lg ck mb ls y.1 y.2.1 y.2.2.1 y.2.2.2 k0 k1) (p := fun k => !(((ls.getD k fM).2.2.1 != y.2.2.1) && Hy (ls.getD k fM) y)) (n := i) (kt := k1 ((i : Nat) : Int) st tx lg ck mb ls) (kf := k0 false ((i : Nat) : Int) st tx lg ck mb ls) (fun m j hj => by
   show pq ((i : Nat) : Int) ((j : Nat) : Int) st tx lg ck mb ls y.1 y.2.1 y.2.2.1 y.2.2.2 _ _ _ = _
   unfold pq
   rw [decide_eq_true (show ((j : Nat) : Int) < ((i : Nat) : Int) by omega), decide_eq_true (show (0 : Int) ≤ ((j : Nat) : Int) by omega), decide_eq_true (show ((j : Nat) : Int) < ((ls.length : Nat) : Int) by omega), Int.toNat_natCast, bY (by omega), show ls.getD j aI.dflt = ls.getD j fM from rfl, show (y.1, (y.2.1, (y.2.2.1, y.2.2.2))) = y from rfl]
   cases ((ls.getD j fM).2.2.1 != y.2.2.1) <;> cases Hy (ls.getD j fM) y <;> rfl) (fun m => by
   show pq ((i : Nat) : Int) ((i : Nat) : Int) st tx lg ck mb ls y.1 y.2.1 y.2.2.1 y.2.2.2 _ _ _ = _
   unfold pq
   rw [decide_eq_false (show ¬ ((i : Nat) : Int) < ((i : Nat) : Int) by omega)]; rfl) _ 0 (by omega) (by omega)) ?_
  rw [Nat.sub_zero]; rfl
 have q20 : aS tx = true → ∀ (k0 : Bool → Option aj) (k1 : Option aj), Gf 0 st tx lg ck mb ls k0 k1 = bif GN ls.length (Ee tx ck ls) then k1 else k0 false := by
  intro hx k0 k1
  refine Eq.trans (zA (R := fun m i => uK m i st tx lg ck mb ls k0 k1) (p := Ee tx ck ls) (n := ls.length) (kt := k1) (kf := k0 false) (fun m i hi => by
   show pz ((i : Nat) : Int) st tx lg ck mb ls _ _ _ = _
   unfold pz Ee qL
   rw [decide_eq_true (show ((i : Nat) : Int) < ((ls.length : Nat) : Int) by omega), decide_eq_true (show (0 : Int) ≤ ((i : Nat) : Int) by omega), Int.toNat_natCast, show ls.getD i aI.dflt = ls.getD i fM from rfl, h2, hx, q26 i hi, bY (by omega)]
   by_cases hc : (ls.getD i fM).2.2.2 > ck
   ·rw [decide_eq_true hc, decide_eq_false (show ¬ (ls.getD i fM).2.2.2 ≤ ck by omega)]
    cases dh tx (ls.getD i fM).1
    ·rfl
    cases dh tx (ls.getD i fM).2.1
    ·rfl
    cases GN i (fun k => !(((ls.getD k fM).2.2.1 != (ls.getD i fM).2.2.1) && Hy (ls.getD k fM) (ls.getD i fM))) <;> rfl
   ·rw [decide_eq_false hc, decide_eq_true (show (ls.getD i fM).2.2.2 ≤ ck by omega)]; rfl) (fun m => by
   show pz ((ls.length : Nat) : Int) st tx lg ck mb ls _ _ _ = _
   unfold pz
   rw [decide_eq_false (show ¬ ((ls.length : Nat) : Int) < ((ls.length : Nat) : Int) by omega)]; rfl) _ 0 (by omega) (by omega)) ?_
  rw [Nat.sub_zero]; rfl
 unfold Vh um zC wM ach
 dsimp only
 rw [Nat.ble_eq_true_of_le n3, Nat.ble_eq_true_of_le n5, h1, aoS, adv (fun x hx => wL (Em h1 aoS) hx) (fun x hx => wL h2 hx)]
 by_cases c1 : ((lg.length : Nat) : Int) ≤ 60
 case neg => rw [decide_eq_false c1, decide_eq_true (show ((lg.length : Nat) : Int) > 60 by omega), Bool.false_and, Bool.false_and, Bool.false_and, Bool.and_false]; rfl
 rw [decide_eq_true c1, decide_eq_false (show ¬ ((lg.length : Nat) : Int) > 60 by omega)]
 have fin : ∀ b : Bool, b = false → K (.s (.bool false), []) = K (bl b, []) := fun b h => by rw [h]; rfl
 cases Iq ck
 ·exact fin _ (by simp)
 by_cases c2 : ((mb.length : Nat) : Int) ≤ 8
 case neg => rw [decide_eq_false c2, decide_eq_true (show ((mb.length : Nat) : Int) > 8 by omega)]; exact fin _ (by simp)
 rw [decide_eq_true c2, decide_eq_false (show ¬ ((mb.length : Nat) : Int) > 8 by omega)]
 cases oV ls
 ·exact fin _ (by simp)
 cases hN : ((bQ st (dN lg)).2 == ((lg.length : Nat) : Int)) with
 | false =>
  rw [show ((bQ st (dN lg)).2 != ((lg.length : Nat) : Int)) = true by unfold bne; rw [hN]; rfl]
  exact fin _ (by simp)
 | true =>
  rw [show ((bQ st (dN lg)).2 != ((lg.length : Nat) : Int)) = false by unfold bne; rw [hN]; rfl]
  have ht := hT hN
  by_cases hX : (bQ st (dN lg)).1 = tx
  case neg => rw [decide_eq_false hX]; exact fin _ (by simp)
  have hx : aS tx = true := hX ▸ Nu (dN lg) ht
  rw [decide_eq_true hX, ht]
  simp only [Bool.not_true, Bool.not_false, cond_true, cond_false, Bool.and_true, Bool.true_and]
  rw [q7]
  cases lg.all (fun c => nC c.1)
  ·rfl
  rw [cond_true, q12 hx]
  cases GN mb.length (rP tx mb)
  ·rfl
  rw [cond_true, q20 hx]
  cases GN ls.length (Ee tx ck ls) <;> rfl
theorem aga : aT prog I N.eG true Vj := lN (aU (bf Zf (bf Zh (bf J9 (bf Pj (bf U8 (bf afX (bf aaY (bf Xt (bf Hz (bf aa1 bn)))))))))) (l := [(N.AZ, true, J4), (N.jO, true, J8), (N.fK, false, yG), (N.jK, true, Dq), (N.uZ, true, F7), (N.Ox, true, Va), (N.EM, true, Np), (N.iW, true, Iy), (N.wZ, true, vI), (N.EN, true, Ns)]) (p := [(3, takeB [0, 1, 2] (.fork (.one 3 (.fork (.one 4 (takes [5, 6, 7, 8, 9]))))), []), (15, takeB [0, 1] (.fork (.one 2 (takeB [3, 4, 5, 6, 7, 8, 9, 10, 11, 12, 13, 14, 15, 16, 17, 18, 19, 20, 21, 22, 23, 24] (.fork (.one 25 (takeB [26, 27, 28, 29, 30] (.fork (.one 31 (takes [32, 33]))))))))), []), (28, takeB [0, 1, 2, 3, 4, 5, 6, 7, 8, 9, 10, 11, 12, 13, 14, 15] (.fork (.one 16 (takes [17]))), [])]) (ls := [(7, [1,5], [1,2], H7), (12, [1,6], [1,2], Ep), (26, [1,8,9,10], [1,2,8], Es), (20, [1,8], [2], Et)]) (lend := []) (focus := false) (fuel := 0) (give := []) (fn := F.eG) (by kernel_rfl) (by kernel_rfl) (by kernel_rfl) (by kernel_rfl) (cs := [aA F.eG 7, aA F.eG 12, aA F.eG 20, aA F.eG 26]) (by kernel_rfl) (dw Xx (dw Ve (dw Vg (dw Vf aJ))))) (aK fun d K h => (aks d.1 K).trans (akt d.1 h K))
end Go.Ev.Seat
end
section
set_option linter.unusedVariables false
namespace Go.Ev
section
variable {α ρ : Type}
def yI (p : α → Bool) (l : List α) : Nat := (l.takeWhile p).length
def monoB (p : α → Bool) (l : List α) : Bool := (l.dropWhile p).all (fun x => !p x)
theorem ajs (p : α → Bool) : ∀ l : List α, yI p l ≤ l.length
 | [] => Nat.le_refl _
 | x :: l => by
  unfold yI
  rw [List.takeWhile_cons]
  cases p x with
  | false => simp
  | true => have := ajs p l; unfold yI at this; simpa using this
theorem adV (p : α → Bool) (z : α) : ∀ (l : List α) (k : Nat), k < yI p l → p (l.getD k z) = true
 | [], k, h => by simp [yI] at h
 | x :: l, k, h => by
  unfold yI at h
  rw [List.takeWhile_cons] at h
  cases hp : p x with
  | false => rw [hp] at h; simp at h
  | true =>
   rw [hp] at h
   cases k with
   | zero => exact hp
   | succ k => exact adV p z l k (by unfold yI; simpa using h)
theorem ZH (p : α → Bool) (z : α) : ∀ (l : List α) (k : Nat), monoB p l = true → yI p l ≤ k → k < l.length → p (l.getD k z) = false
 | [], k, _, _, h => by simp at h
 | x :: l, k, hm, hc, h => by
  unfold yI at hc
  unfold monoB at hm
  rw [List.takeWhile_cons] at hc
  rw [List.dropWhile_cons] at hm
  cases hp : p x with
  | false =>
   rw [hp] at hm
   simp only [Bool.false_eq_true, if_false, List.all_eq_true] at hm
   have := hm ((x :: l).getD k z) (by rw [getD_lt z h]; exact List.getElem_mem h)
   simpa using this
  | true =>
   rw [hp] at hm hc
   cases k with
   | zero => simp at hc
   | succ k => exact ZH p z l k (by unfold monoB; simpa using hm) (by unfold yI; simpa using hc) (by simpa using h)
theorem adW {R : Nat → Int → Int → ρ} {p : α → Bool} {kt : Int → ρ} {l : List α} {z : α}
  (hs : ∀ m (i j : Nat), i < j → j ≤ l.length → R (m + 1) i j = bif p (l.getD ((i + j) / 2) z) then R m (((i + j) / 2 + 1 : Nat) : Int) j else R m i ((((i + j) / 2) : Nat) : Int))
  (he : ∀ m (i : Nat), i ≤ l.length → R (m + 1) i i = kt i) (hm : monoB p l = true) :
  ∀ (m i j : Nat), i ≤ yI p l → yI p l ≤ j → j ≤ l.length → j - i < m → R m i j = kt (yI p l : Nat)
 | 0, i, j, _, _, _, h => absurd h (by omega)
 | m + 1, i, j, h1, h2, h3, h4 => by
  by_cases h : i < j
  ·rw [hs m i j h h3]
   by_cases hc : (i + j) / 2 < yI p l
   ·rw [adV p z l _ hc, cond_true]
    exact adW hs he hm m _ _ (by omega) h2 h3 (by omega)
   ·rw [ZH p z l _ hm (by omega) (by omega), cond_false]
    exact adW hs he hm m _ _ h1 (by omega) (by omega) (by omega)
  ·obtain rfl : i = j := by omega
   rw [he m i h3]
   congr 1; omega
end
def IB {α : Type} (p q : α → Bool) (z : α) (l : List α) : Bool := Nat.blt (yI p l) l.length && q (l.getD (yI p l) z)
theorem amZ {i j : Nat} (h : i + j ≤ 4611686018427387904) : IntKind.wrap .i64 (JQ .u64 (IntKind.wrap .u64 (IntKind.wrap .i64 (((i : Nat) : Int) + ((j : Nat) : Int)))) 1) = (((i + j) / 2 : Nat) : Int) := by
 have e : IntKind.u64.wrap (((i + j : Nat) : Int)) = ((i + j : Nat) : Int) := by
  have : IntKind.u64.wrap (((i + j : Nat) : Int)) = ((i + j : Nat) : Int) % 18446744073709551616 := by
   simp only [IntKind.wrap, IntKind.bits, IntKind.signed]; simp
  rw [this]; omega
 rw [wrap_in (n := ((i : Nat) : Int) + ((j : Nat) : Int)) (by omega) (by omega), ← Int.natCast_add, e]
 have e2 : JQ .u64 (((i + j : Nat) : Int)) 1 = (((i + j) / 2 : Nat) : Int) := by
  unfold JQ
  show Int.fdiv (((i + j : Nat) : Int)) 2 = _
  rw [Int.fdiv_eq_ediv_of_nonneg _ (by omega)]; omega
 rw [e2, wrap_in (by omega) (by omega)]
theorem Po {α : Type} {p : α → Bool} : ∀ {l : List α}, (∀ i j : Nat, (h : i < j) → (hj : j < l.length) → p l[j] = true → p (l[i]'(by omega)) = true) → monoB p l = true
 | [], _ => rfl
 | x :: l, h => by
  unfold monoB
  rw [List.dropWhile_cons]
  cases hp : p x with
  | false =>
   simp only [Bool.false_eq_true, if_false, List.all_eq_true]
   intro y hy
   obtain ⟨k, hk, rfl⟩ := List.mem_iff_getElem.1 hy
   cases hy2 : p (x :: l)[k] with
   | false => rfl
   | true =>
    cases k with
    | zero => rw [show (x :: l)[0] = x from rfl] at hy2; rw [hp] at hy2; cases hy2
    | succ k => have := h 0 (k + 1) (by omega) hk hy2; rw [show (x :: l)[0] = x from rfl, hp] at this; cases this
  | true =>
   simp only [if_true]
   exact Po (l := l) (fun i j hij hj hpj => h (i + 1) (j + 1) (by omega) (by simp; omega) hpj)
end Go.Ev
end
section
set_option linter.unusedVariables false
namespace Go.Ev.Seat
open Go.RowKit
def fD (d : eU) (v : Int) : Bool := um d && decide (0 ≤ v) && decide (v ≤ ((d.2.2.1.length : Nat) : Int))
theorem zU {d : eU} {v : Int} : fD d v = true ↔ um d = true ∧ 0 ≤ v ∧ v ≤ ((d.2.2.1.length : Nat) : Int) := by
 unfold fD; simp only [Bool.and_eq_true, decide_eq_true_eq]
 exact ⟨fun ⟨⟨a, b⟩, c⟩ => ⟨a, b, c⟩, fun ⟨a, b, c⟩ => ⟨⟨a, b⟩, c⟩⟩
def jS (d : eU) (v : Int) : List Int := bif fD d v then (bQ d.1 (dN (d.2.2.1.take v.toNat))).1 else []
def eH (d : eU) (v : Int) : List ak := bif fD d v then dN (d.2.2.1.drop v.toNat) else []
theorem aiu {t : List Int} {l : List aB} (h : wM t l = true) : ∀ i j : Nat, (hij : i < j) → (hj : j < l.length) → (l[i]'(by omega)).1 < l[j].1 := by
 unfold wM at h
 rw [Bool.and_eq_true] at h
 have hall := al4.1 h.2
 intro i j hij
 induction j with
 | zero => omega
 | succ j ih =>
  intro hj
  have h1 := hall (j + 1) hj
  unfold rP at h1
  rw [Bool.and_eq_true, Bool.or_eq_true, decide_eq_true_iff, getD_lt _ hj, show j + 1 - 1 = j from rfl, getD_lt _ (show j < l.length by omega)] at h1
  have h2 : l[j].1 < l[j + 1].1 := by
   rcases h1.2 with h | h
   ·cases h
   ·exact h
  rcases Nat.lt_or_ge i j with hlt | hge
  ·have := ih hlt (by omega); omega
  ·obtain rfl : i = j := by omega
   exact h2
theorem ajt (a b : Int) : decide (zf a b < 0) = decide (a < b) := by
 rcases Js a b with ⟨h, e⟩ | ⟨h, e⟩ | ⟨h, e⟩ <;> rw [e, Bool.eq_iff_iff, decide_eq_true_iff, decide_eq_true_iff] <;> omega
theorem amb (a b : Int) : (zf a b == 0) = (a == b) := by
 rcases Js a b with ⟨h, e⟩ | ⟨h, e⟩ | ⟨h, e⟩ <;> rw [e, Bool.eq_iff_iff, beq_iff_eq, beq_iff_eq] <;> omega
theorem aju {α : Type} {f : α → Int} {l : List α} (h : ∀ i j : Nat, (hij : i < j) → (hj : j < l.length) → f (l[i]'(by omega)) < f l[j]) (s : Int) : monoB (fun x => decide (zf (f x) s < 0)) l = true := by
 refine Po (fun i j hij hj hp => ?_)
 simp only [ajt, decide_eq_true_iff] at hp ⊢
 have := h i j hij hj
 omega
theorem amc {α : Type} {f : α → Int} {l : List α} (z : α) (h : ∀ i j : Nat, (hij : i < j) → (hj : j < l.length) → f (l[i]'(by omega)) < f l[j]) (s : Int) :
  Dl (fun x => f x == s) l = bif IB (fun x => decide (zf (f x) s < 0)) (fun x => zf (f x) s == 0) z l then ((yI (fun x => decide (zf (f x) s < 0)) l : Nat) : Int) else -1 := by
 have hm := aju h s
 have hin := fun k hk => adV (fun x => decide (zf (f x) s < 0)) z l k hk
 have hout := fun k h1 h2 => ZH (fun x => decide (zf (f x) s < 0)) z l k hm h1 h2
 unfold IB
 generalize yI (fun x => decide (zf (f x) s < 0)) l = c at *
 simp only [ajt, amb] at hin hout ⊢
 by_cases hf : c < l.length ∧ f (l.getD c z) = s
 ·obtain ⟨h1, h2⟩ := hf
  rw [show Nat.blt c l.length = true from Nat.ble_eq_true_of_le h1, show (f (l.getD c z) == s) = true from beq_iff_eq.2 h2]
  rw [getD_lt z h1] at h2
  have e : l.findIdx? (fun x => f x == s) = some c := by
   rw [List.findIdx?_eq_some_iff_getElem]
   refine ⟨h1, beq_iff_eq.2 h2, fun j hj => ?_⟩
   have := hin j hj
   rw [getD_lt z (by omega), decide_eq_true_iff] at this
   rw [Bool.not_eq_true, beq_eq_false_iff_ne]
   omega
  unfold Dl; rw [e]; rfl
 ·have e0 : (Nat.blt c l.length && (f (l.getD c z) == s)) = false := by
   rw [Bool.eq_false_iff]
   intro q
   rw [Bool.and_eq_true, beq_iff_eq] at q
   exact hf ⟨Nat.le_of_ble_eq_true q.1, q.2⟩
  rw [e0]
  have e : l.findIdx? (fun x => f x == s) = none := by
   rw [List.findIdx?_eq_none_iff]
   intro x hx
   obtain ⟨k, hk, rfl⟩ := List.mem_iff_getElem.1 hx
   rw [beq_eq_false_iff_ne]
   intro hs
   rcases Nat.lt_trichotomy k c with hlt | rfl | hgt
   ·have := hin k hlt
    rw [getD_lt z hk, decide_eq_true_iff] at this
    omega
   ·exact hf ⟨hk, by rw [getD_lt z hk]; exact hs⟩
   ·have := hout c (Nat.le_refl _) (by omega)
    rw [getD_lt z (by omega), decide_eq_false_iff_not] at this
    have := h c k hgt hk
    omega
  unfold Dl; rw [e]; rfl
end Go.Ev.Seat
end
section
namespace Go.Ev.Seat
open Go.RowKit
set_option maxRecDepth 100000
set_option linter.unusedVariables false
set_option linter.unusedSimpArgs false
noncomputable abbrev ZI : Env := En [(N.eG, true, Vj)] [] [] [] false 0 []
noncomputable def Gg (d : eU) (v : Int) (K : aj → Option aj) : Option aj := (bif (iZ bT d) then (bif (um d) then (bif (decide (v ≥ (0 : Int))) then K ((.s (.bool (decide (v ≤ (((List.length d.2.2.1) : Nat) : Int))))), []) else K ((.s (.bool false)), [])) else K ((.s (.bool false)), [])) else none)
theorem ZJ (d : eU) (v : Int) (K : aj → Option aj) : dS ZI true F.kY [.a (bT.cells .no d), .s (.int .i64 v)] K = Gg d v K := by kernel_rfl
def pF : Sm := bD [.a bT, .i] (fun d => iZ bT d.1) (fun d => (bl (fD d.1 d.2.1), []))
theorem ZK (d : eU) (v : Int) (h : (iZ bT d) = true) (K : aj → Option aj) : Gg d v K = K (bl (fD d v), []) := by
 unfold Gg fD
 rw [h]
 cases um d
 ·rfl
 cases hv : decide (0 ≤ v) <;> rfl
theorem Bq : aT prog I N.kY true pF := lN (aU (bf aga bn) (l := [(N.eG, true, Vj)]) (p := []) (ls := []) (lend := []) (focus := false) (fuel := 0) (give := []) (fn := F.kY) (by kernel_rfl) (by kernel_rfl) (by kernel_rfl) (by kernel_rfl) (cs := []) (by kernel_rfl) aJ) (aK fun d K h => (ZJ d.1 d.2.1 K).trans (ZK d.1 d.2.1 h K))
end Go.Ev.Seat
end
section
namespace Go.Ev.Seat
open Go.RowKit
set_option maxRecDepth 100000
set_option linter.unusedVariables false
set_option linter.unusedSimpArgs false
noncomputable abbrev agb : Env := En [] [] [] [] false 0 []
noncomputable def Nv (n : Int) (K : aj → Option aj) : Option aj := (bif (decide (n ≥ (0 : Int))) then K ((.s (.bool (decide (n ≤ (65535 : Int))))), []) else K ((.s (.bool false)), []))
theorem agc (n : Int) (K : aj → Option aj) : dS agb true F.EO [.s (.int .i64 n)] K = Nv n K := by kernel_rfl
def Nw : Sm := bD [.i] (fun d => true) (fun d => (bl (aG d.1), []))
theorem agd (n : Int) (K : aj → Option aj) : Nv n K = K (bl (aG n), []) := by
 unfold Nv aG
 by_cases h : n ≥ 0
 ·rw [decide_eq_true h]; rfl
 ·rw [decide_eq_false h]; rfl
theorem aa4 : aT prog I N.EO true Nw := lN (aU bn (l := []) (p := []) (ls := []) (lend := []) (focus := false) (fuel := 0) (give := []) (fn := F.EO) (by kernel_rfl) (by kernel_rfl) (by kernel_rfl) (by kernel_rfl) (cs := []) (by kernel_rfl) aJ) (aK fun d K h => (agc d.1 K).trans (agd d.1 K))
end Go.Ev.Seat
end
section
namespace Go.Ev.Seat
open Go.RowKit
set_option maxRecDepth 100000
set_option linter.unusedVariables false
set_option linter.unusedSimpArgs false
def CJ (x4 : Bool) : St := { tm := ([.x, .x, .x, .x, (.s (.bool x4))] ++ List.replicate 13 .x), ob := [], nx := 0, io := [] }
def CO : St := { tm := ([] ++ List.replicate 18 .x), ob := [], nx := 0, io := [] }
def zV : Ss := { tm := (.cons (.int .i64) (.cons (.l .no FN) (.cons (.x) (.cons (.x) (.cons (.x) (.cons (.int .i64) (Ed 12))))))), ob := .nil, nx := 0, io := .nil }
def aa5 (x0 : Int) (x1 : List Int) (x5 : Int) : zV.T := ((x0, (x1, ((), ((), ((), (x5, xd 12)))))), (), ())
def wQ (x0 : Int) (x1 : List Int) (x5 : Int) : St := { tm := ([(.s (.int .i64 x0)), (.l .no FN x1), .x, .x, .x, (.s (.int .i64 x5))] ++ List.replicate 12 .x), ob := [], nx := 0, io := [] }
theorem ZL (x0 : Int) (x1 : List Int) (x5 : Int) : zV.mk' (aa5 x0 x1 x5) = (wQ x0 x1 x5) := by kernel_rfl
def aa6 (d : zV.T) (f : Int → (List Int) → Int → Option aj) : Option aj := match d with | ((x0, (x1, (_, (_, (_, (x5, _)))))), _, _) => f x0 x1 x5
noncomputable def rU (x0 : Int) (x1 : List Int) (x5 : Int) (pW : Int → (List Int) → Int → Option aj) (k0 : Bool → Option aj) (k1 : Option aj) : Option aj := (bif (decide (x5 < (((List.length x1) : Nat) : Int))) then (bif ((decide ((0 : Int) ≤ x5)) && (decide (x5 < (((List.length x1) : Nat) : Int)))) then (bif ((List.getD x1 (Int.toNat x5) (0 : Int)) == x0) then (k0 true) else (pW x0 x1 (IntKind.wrap .i64 (x5 + (1 : Int))))) else none) else k1)
noncomputable def wR : Nat → Int → (List Int) → Int → (Bool → Option aj) → (Option aj) → Option aj
 | 0, _, _, _, _, _ => none
 | m + 1, x0, x1, x5, k0, k1 => rU x0 x1 x5 (fun x0 x1 x5 => (wR m x0 x1 x5 k0 k1)) k0 k1
noncomputable def CP (x0 : Int) (x1 : List Int) (x5 : Int) (k0 : Bool → Option aj) (k1 : Option aj) : Option aj := wR (x0.toNat + List.length x1 + x5.toNat + 2) x0 x1 x5 k0 k1
noncomputable def H8 : fG := (fun (σ : St) (K : Ex → St → Option aj) => (match zV.un σ with | some d => aa6 d (fun x0 x1 x5 => CP x0 x1 x5 (fun x4 => (K .ret (CJ x4))) (K (.ext 0) CO)) | none => none))
noncomputable abbrev Bv : Env := En [] [] [(2, [0,1,5], [4], H8)] [] false 0 []
theorem ZM (m : Nat) (x0 : Int) (x1 : List Int) (x5 : Int) (K : Ex → St → Option aj) : rounds (run Bv (aA F.sF 2)) [0,1,5] [4] (m + 1) (wQ x0 x1 x5) K = rU x0 x1 x5 (fun x0 x1 x5 => (rounds (run Bv (aA F.sF 2)) [0,1,5] [4] m (wQ x0 x1 x5) K)) (fun x4 => (K .ret (CJ x4))) (K (.ext 0) CO) := by kernel_rfl
theorem WM (K : Ex → St → Option aj) : ∀ m : Nat, (∀ (x0 : Int) (x1 : List Int) (x5 : Int), rounds (run Bv (aA F.sF 2)) [0,1,5] [4] m (wQ x0 x1 x5) K = wR m x0 x1 x5 (fun x4 => (K .ret (CJ x4))) (K (.ext 0) CO))
 | 0 => (fun _ _ _ => rfl)
 | m + 1 => (fun x0 x1 x5 => (by rw [ZM, show (fun x0 x1 x5 => (rounds (run Bv (aA F.sF 2)) [0,1,5] [4] m (wQ x0 x1 x5) K)) = (fun x0 x1 x5 => (wR m x0 x1 x5 (fun x4 => (K .ret (CJ x4))) (K (.ext 0) CO))) from funext fun x0 => funext fun x1 => funext fun x5 => (WM K m) x0 x1 x5]; rfl))
theorem XB : dL Bv (aA F.sF 2) := by
 refine dG (n := 2) (F := H8) (by kernel_rfl) rfl (li := [0,1,5]) (lo := [4]) rfl (fun σ K r hr => ?_)
 unfold H8 at hr
 split at hr
 ·rename_i d hd
  rw [Ss.fF hd]
  exact ⟨_, ((congrArg (fun z => rounds (run Bv (aA F.sF 2)) [0,1,5] [4] _ z K) (ZL _ _ _)).trans ((WM K _) _ _ _)).trans hr⟩
 ·cases hr
noncomputable def Vk (k : Int) (l : List Int) (K : aj → Option aj) : Option aj := (CP k l (0 : Int) (fun y0 => K ((.s (.bool y0)), [])) (K ((.s (.bool false)), [])))
theorem aku (k : Int) (l : List Int) (K : aj → Option aj) : dS Bv true F.sF [.s (.int .i64 k), .l .no FN l] K = Vk k l K := by kernel_rfl
def OJ : Sm := bD [.i, .l FN] (fun d => Nat.ble d.2.1.length 1048576) (fun d => (bl (d.2.1.any fun c => c == d.1), []))
theorem akv (k : Int) (l : List Int) (h : (Nat.ble l.length 1048576) = true) (K : aj → Option aj) : Vk k l K = K (bl (l.any fun c => c == k), []) := by
 have hl := Nat.le_of_ble_eq_true h
 unfold Vk
 show CP k l 0 _ _ = _
 unfold CP
 have q := RY (R := fun m i => wR m k l i (fun y0 => K ((.s (.bool y0)), [])) (K ((.s (.bool false)), []))) (p := fun c => !(c == k)) (xs := l) (z := (0 : Int)) (kt := K ((.s (.bool false)), [])) (kf := K ((.s (.bool true)), []))
  (fun m i hi => by
   show rU k l i _ _ _ = _
   unfold rU
   rw [decide_eq_true (show ((i : Nat) : Int) < ((l.length : Nat) : Int) by omega), decide_eq_true (show (0 : Int) ≤ ((i : Nat) : Int) by omega), bY (by omega), Int.toNat_natCast]
   cases l.getD i 0 == k <;> rfl)
  (fun m => by
   show rU k l _ _ _ _ = _
   unfold rU
   rw [decide_eq_false (show ¬ ((l.length : Nat) : Int) < ((l.length : Nat) : Int) by omega)]; rfl)
  (k.toNat + List.length l + (0 : Int).toNat + 2) 0 (by omega) (by omega)
 refine Eq.trans (show _ = _ from q) ?_
 rw [List.drop_zero]
 have e : (l.all fun c => !(c == k)) = !(l.any fun c => c == k) := by rw [List.not_any_eq_all_not]
 rw [e]
 cases l.any fun c => c == k <;> rfl
theorem WO : aT prog I N.sF true OJ := lN (aU bn (l := []) (p := []) (ls := [(2, [0,1,5], [4], H8)]) (lend := []) (focus := false) (fuel := 0) (give := []) (fn := F.sF) (by kernel_rfl) (by kernel_rfl) (by kernel_rfl) (by kernel_rfl) (cs := [aA F.sF 2]) (by kernel_rfl) (dw XB aJ)) (aK fun d K h => (aku d.1 d.2.1 K).trans (akv d.1 d.2.1 h K))
end Go.Ev.Seat
end
section
namespace Go.Ev.Seat
open Go.RowKit
set_option maxRecDepth 100000
set_option linter.unusedVariables false
set_option linter.unusedSimpArgs false
noncomputable abbrev bW : Env := En [(N.EO, true, Nw), (N.qK, true, qw), (N.sF, true, OJ)] [] [] [] false 0 []
noncomputable abbrev ZN : Env := En [] [] [] [] false 0 []
theorem WQ : aT prog I N.dn true (dS bW true F.dn) := aU (bf aa4 (bf Eh (bf WO bn))) (l := [(N.EO, true, Nw), (N.qK, true, qw), (N.sF, true, OJ)]) (p := []) (ls := []) (lend := []) (focus := false) (fuel := 0) (give := []) (fn := F.dn) (by kernel_rfl) (by kernel_rfl) (by kernel_rfl) (by kernel_rfl) (cs := []) (by kernel_rfl) aJ
theorem WR : aT prog I N.dn true (dS ZN true F.dn) := aU bn (l := []) (p := []) (ls := []) (lend := []) (focus := false) (fuel := 0) (give := []) (fn := F.dn) (by kernel_rfl) (by kernel_rfl) (by kernel_rfl) (by kernel_rfl) (cs := []) (by kernel_rfl) aJ
theorem ZO (r : oO) (K : aj → Option aj) : dS ZN true F.dn [.a (dJ.cells .no r)] K =
  (bif (decide (r.1 < 1)) then K ((.s (.bool false)), []) else (bif (decide (r.1 > 16)) then K ((.s (.bool false)), []) else
   (bif (decide (r.2.1 < 1)) then K ((.s (.bool false)), []) else (bif (decide (r.2.1 > 8)) then K ((.s (.bool false)), []) else none)))) := by kernel_rfl
theorem agf (s a b d : Int) (t : List Int) (K : aj → Option aj) : dS bW true F.dn [.a (dJ.cells .no (1, s, a, b, d, t))] K =
 (bif (decide (s < 1)) then K ((.s (.bool false)), []) else (bif (decide (s > 8)) then K ((.s (.bool false)), []) else (bif (!(aG a)) then K ((.s (.bool false)), []) else (bif (!(aG b)) then K ((.s (.bool false)), []) else (bif (!(aG d)) then K ((.s (.bool false)), []) else (bif aO t then (bif (!(aS t)) then K ((.s (.bool false)), []) else (bif (decide (((List.length t : Nat) : Int) > 100)) then K ((.s (.bool false)), []) else (bif (a != (0 : Int)) then K ((.s (.bool false)), []) else (bif (b != (0 : Int)) then K ((.s (.bool false)), []) else (bif (d != (0 : Int)) then K ((.s (.bool false)), []) else (bif (decide (((List.length t : Nat) : Int) > 0)) then K ((.s (.bool false)), []) else K ((.s (.bool true)), []))))))) else none)))))) := by kernel_rfl
theorem agh (s a b d : Int) (t : List Int) (h : aO t = true) (K : aj → Option aj) : dS bW true F.dn [.a (dJ.cells .no (1, s, a, b, d, t))] K = K (bl (dH (1, s, a, b, d, t)), []) := by
 refine (agf s a b d t K).trans ?_
 unfold dH
 simp only [bne, h]
 by_cases h3 : s < 1
 ·rw [decide_eq_true h3, decide_eq_false (show ¬ 1 ≤ s by omega)]; rfl
 by_cases h4 : s > 8
 ·rw [decide_eq_false h3, decide_eq_true h4, decide_eq_true (show 1 ≤ s by omega), decide_eq_false (show ¬ s ≤ 8 by omega)]; rfl
 rw [decide_eq_false h3, decide_eq_false h4, decide_eq_true (show 1 ≤ s by omega), decide_eq_true (show s ≤ 8 by omega)]
 by_cases h5 : ((t.length : Nat) : Int) > 100
 ·rw [decide_eq_true h5, decide_eq_false (show ¬ ((t.length : Nat) : Int) ≤ 100 by omega)]
  cases aG a <;> cases aG b <;> cases aG d <;> cases aS t <;> rfl
 rw [decide_eq_false h5, decide_eq_true (show ((t.length : Nat) : Int) ≤ 100 by omega)]
 unfold jI
 generalize decide (((t.length : Nat) : Int) > 0) = n
 generalize (a == 0) = x
 generalize (b == 0) = y
 generalize (d == 0) = z
 generalize aS t = p
 cases aG a <;> cases aG b <;> cases aG d <;> cases p <;> first | rfl | (cases x <;> cases y <;> cases z <;> cases n <;> rfl)
theorem agi (s a b d : Int) (t : List Int) (K : aj → Option aj) : dS bW true F.dn [.a (dJ.cells .no (2, s, a, b, d, t))] K =
 (bif (decide (s < 1)) then K ((.s (.bool false)), []) else (bif (decide (s > 8)) then K ((.s (.bool false)), []) else (bif (!(aG a)) then K ((.s (.bool false)), []) else (bif (!(aG b)) then K ((.s (.bool false)), []) else (bif (!(aG d)) then K ((.s (.bool false)), []) else (bif aO t then (bif (!(aS t)) then K ((.s (.bool false)), []) else (bif (decide (((List.length t : Nat) : Int) > 100)) then K ((.s (.bool false)), []) else (bif (a != (0 : Int)) then K ((.s (.bool false)), []) else (bif (b != (0 : Int)) then K ((.s (.bool false)), []) else (bif (d != (0 : Int)) then K ((.s (.bool false)), []) else (bif (decide (((List.length t : Nat) : Int) > 0)) then K ((.s (.bool false)), []) else K ((.s (.bool true)), []))))))) else none)))))) := by kernel_rfl
theorem agj (s a b d : Int) (t : List Int) (h : aO t = true) (K : aj → Option aj) : dS bW true F.dn [.a (dJ.cells .no (2, s, a, b, d, t))] K = K (bl (dH (2, s, a, b, d, t)), []) := by
 refine (agi s a b d t K).trans ?_
 unfold dH
 simp only [bne, h]
 by_cases h3 : s < 1
 ·rw [decide_eq_true h3, decide_eq_false (show ¬ 1 ≤ s by omega)]; rfl
 by_cases h4 : s > 8
 ·rw [decide_eq_false h3, decide_eq_true h4, decide_eq_true (show 1 ≤ s by omega), decide_eq_false (show ¬ s ≤ 8 by omega)]; rfl
 rw [decide_eq_false h3, decide_eq_false h4, decide_eq_true (show 1 ≤ s by omega), decide_eq_true (show s ≤ 8 by omega)]
 by_cases h5 : ((t.length : Nat) : Int) > 100
 ·rw [decide_eq_true h5, decide_eq_false (show ¬ ((t.length : Nat) : Int) ≤ 100 by omega)]
  cases aG a <;> cases aG b <;> cases aG d <;> cases aS t <;> rfl
 rw [decide_eq_false h5, decide_eq_true (show ((t.length : Nat) : Int) ≤ 100 by omega)]
 unfold jI
 generalize decide (((t.length : Nat) : Int) > 0) = n
 generalize (a == 0) = x
 generalize (b == 0) = y
 generalize (d == 0) = z
 generalize aS t = p
 cases aG a <;> cases aG b <;> cases aG d <;> cases p <;> first | rfl | (cases x <;> cases y <;> cases z <;> cases n <;> rfl)
theorem agk (s a b d : Int) (t : List Int) (K : aj → Option aj) : dS bW true F.dn [.a (dJ.cells .no (3, s, a, b, d, t))] K =
 (bif (decide (s < 1)) then K ((.s (.bool false)), []) else (bif (decide (s > 8)) then K ((.s (.bool false)), []) else (bif (!(aG a)) then K ((.s (.bool false)), []) else (bif (!(aG b)) then K ((.s (.bool false)), []) else (bif (!(aG d)) then K ((.s (.bool false)), []) else (bif aO t then (bif (!(aS t)) then K ((.s (.bool false)), []) else (bif (decide (((List.length t : Nat) : Int) > 100)) then K ((.s (.bool false)), []) else (bif (b != (0 : Int)) then K ((.s (.bool false)), []) else (bif (d != (0 : Int)) then K ((.s (.bool false)), []) else K ((.s (.bool true)), []))))) else none)))))) := by kernel_rfl
theorem agl (s a b d : Int) (t : List Int) (h : aO t = true) (K : aj → Option aj) : dS bW true F.dn [.a (dJ.cells .no (3, s, a, b, d, t))] K = K (bl (dH (3, s, a, b, d, t)), []) := by
 refine (agk s a b d t K).trans ?_
 unfold dH
 simp only [bne, h]
 by_cases h3 : s < 1
 ·rw [decide_eq_true h3, decide_eq_false (show ¬ 1 ≤ s by omega)]; rfl
 by_cases h4 : s > 8
 ·rw [decide_eq_false h3, decide_eq_true h4, decide_eq_true (show 1 ≤ s by omega), decide_eq_false (show ¬ s ≤ 8 by omega)]; rfl
 rw [decide_eq_false h3, decide_eq_false h4, decide_eq_true (show 1 ≤ s by omega), decide_eq_true (show s ≤ 8 by omega)]
 by_cases h5 : ((t.length : Nat) : Int) > 100
 ·rw [decide_eq_true h5, decide_eq_false (show ¬ ((t.length : Nat) : Int) ≤ 100 by omega)]
  cases aG a <;> cases aG b <;> cases aG d <;> cases aS t <;> rfl
 rw [decide_eq_false h5, decide_eq_true (show ((t.length : Nat) : Int) ≤ 100 by omega)]
 unfold jI
 generalize decide (((t.length : Nat) : Int) > 0) = n
 generalize (a == 0) = x
 generalize (b == 0) = y
 generalize (d == 0) = z
 generalize aS t = p
 cases aG a <;> cases aG b <;> cases aG d <;> cases p <;> first | rfl | (cases x <;> cases y <;> cases z <;> cases n <;> rfl)
theorem agm (s a b d : Int) (t : List Int) (K : aj → Option aj) : dS bW true F.dn [.a (dJ.cells .no (4, s, a, b, d, t))] K =
 (bif (decide (s < 1)) then K ((.s (.bool false)), []) else (bif (decide (s > 8)) then K ((.s (.bool false)), []) else (bif (!(aG a)) then K ((.s (.bool false)), []) else (bif (!(aG b)) then K ((.s (.bool false)), []) else (bif (!(aG d)) then K ((.s (.bool false)), []) else (bif aO t then (bif (!(aS t)) then K ((.s (.bool false)), []) else (bif (decide (((List.length t : Nat) : Int) > 100)) then K ((.s (.bool false)), []) else (bif (d != (0 : Int)) then K ((.s (.bool false)), []) else (bif (decide (((List.length t : Nat) : Int) > 0)) then K ((.s (.bool false)), []) else K ((.s (.bool true)), []))))) else none)))))) := by kernel_rfl
theorem agn (s a b d : Int) (t : List Int) (h : aO t = true) (K : aj → Option aj) : dS bW true F.dn [.a (dJ.cells .no (4, s, a, b, d, t))] K = K (bl (dH (4, s, a, b, d, t)), []) := by
 refine (agm s a b d t K).trans ?_
 unfold dH
 simp only [bne, h]
 by_cases h3 : s < 1
 ·rw [decide_eq_true h3, decide_eq_false (show ¬ 1 ≤ s by omega)]; rfl
 by_cases h4 : s > 8
 ·rw [decide_eq_false h3, decide_eq_true h4, decide_eq_true (show 1 ≤ s by omega), decide_eq_false (show ¬ s ≤ 8 by omega)]; rfl
 rw [decide_eq_false h3, decide_eq_false h4, decide_eq_true (show 1 ≤ s by omega), decide_eq_true (show s ≤ 8 by omega)]
 by_cases h5 : ((t.length : Nat) : Int) > 100
 ·rw [decide_eq_true h5, decide_eq_false (show ¬ ((t.length : Nat) : Int) ≤ 100 by omega)]
  cases aG a <;> cases aG b <;> cases aG d <;> cases aS t <;> rfl
 rw [decide_eq_false h5, decide_eq_true (show ((t.length : Nat) : Int) ≤ 100 by omega)]
 unfold jI
 generalize decide (((t.length : Nat) : Int) > 0) = n
 generalize (a == 0) = x
 generalize (b == 0) = y
 generalize (d == 0) = z
 generalize aS t = p
 cases aG a <;> cases aG b <;> cases aG d <;> cases p <;> first | rfl | (cases x <;> cases y <;> cases z <;> cases n <;> rfl)
theorem agp (s a b d : Int) (t : List Int) (K : aj → Option aj) : dS bW true F.dn [.a (dJ.cells .no (5, s, a, b, d, t))] K =
 (bif (decide (s < 1)) then K ((.s (.bool false)), []) else (bif (decide (s > 8)) then K ((.s (.bool false)), []) else (bif (!(aG a)) then K ((.s (.bool false)), []) else (bif (!(aG b)) then K ((.s (.bool false)), []) else (bif (!(aG d)) then K ((.s (.bool false)), []) else (bif aO t then (bif (!(aS t)) then K ((.s (.bool false)), []) else (bif (decide (((List.length t : Nat) : Int) > 100)) then K ((.s (.bool false)), []) else (bif (d != (0 : Int)) then K ((.s (.bool false)), []) else K ((.s (.bool true)), [])))) else none)))))) := by kernel_rfl
theorem agq (s a b d : Int) (t : List Int) (h : aO t = true) (K : aj → Option aj) : dS bW true F.dn [.a (dJ.cells .no (5, s, a, b, d, t))] K = K (bl (dH (5, s, a, b, d, t)), []) := by
 refine (agp s a b d t K).trans ?_
 unfold dH
 simp only [bne, h]
 by_cases h3 : s < 1
 ·rw [decide_eq_true h3, decide_eq_false (show ¬ 1 ≤ s by omega)]; rfl
 by_cases h4 : s > 8
 ·rw [decide_eq_false h3, decide_eq_true h4, decide_eq_true (show 1 ≤ s by omega), decide_eq_false (show ¬ s ≤ 8 by omega)]; rfl
 rw [decide_eq_false h3, decide_eq_false h4, decide_eq_true (show 1 ≤ s by omega), decide_eq_true (show s ≤ 8 by omega)]
 by_cases h5 : ((t.length : Nat) : Int) > 100
 ·rw [decide_eq_true h5, decide_eq_false (show ¬ ((t.length : Nat) : Int) ≤ 100 by omega)]
  cases aG a <;> cases aG b <;> cases aG d <;> cases aS t <;> rfl
 rw [decide_eq_false h5, decide_eq_true (show ((t.length : Nat) : Int) ≤ 100 by omega)]
 unfold jI
 generalize decide (((t.length : Nat) : Int) > 0) = n
 generalize (a == 0) = x
 generalize (b == 0) = y
 generalize (d == 0) = z
 generalize aS t = p
 cases aG a <;> cases aG b <;> cases aG d <;> cases p <;> first | rfl | (cases x <;> cases y <;> cases z <;> cases n <;> rfl)
theorem agr (s a b d : Int) (t : List Int) (K : aj → Option aj) : dS bW true F.dn [.a (dJ.cells .no (6, s, a, b, d, t))] K =
 (bif (decide (s < 1)) then K ((.s (.bool false)), []) else (bif (decide (s > 8)) then K ((.s (.bool false)), []) else (bif (!(aG a)) then K ((.s (.bool false)), []) else (bif (!(aG b)) then K ((.s (.bool false)), []) else (bif (!(aG d)) then K ((.s (.bool false)), []) else (bif aO t then (bif (!(aS t)) then K ((.s (.bool false)), []) else (bif (decide (((List.length t : Nat) : Int) > 100)) then K ((.s (.bool false)), []) else (bif (d != (0 : Int)) then K ((.s (.bool false)), []) else (bif (decide (((List.length t : Nat) : Int) > 0)) then K ((.s (.bool false)), []) else K ((.s (.bool true)), []))))) else none)))))) := by kernel_rfl
theorem ags (s a b d : Int) (t : List Int) (h : aO t = true) (K : aj → Option aj) : dS bW true F.dn [.a (dJ.cells .no (6, s, a, b, d, t))] K = K (bl (dH (6, s, a, b, d, t)), []) := by
 refine (agr s a b d t K).trans ?_
 unfold dH
 simp only [bne, h]
 by_cases h3 : s < 1
 ·rw [decide_eq_true h3, decide_eq_false (show ¬ 1 ≤ s by omega)]; rfl
 by_cases h4 : s > 8
 ·rw [decide_eq_false h3, decide_eq_true h4, decide_eq_true (show 1 ≤ s by omega), decide_eq_false (show ¬ s ≤ 8 by omega)]; rfl
 rw [decide_eq_false h3, decide_eq_false h4, decide_eq_true (show 1 ≤ s by omega), decide_eq_true (show s ≤ 8 by omega)]
 by_cases h5 : ((t.length : Nat) : Int) > 100
 ·rw [decide_eq_true h5, decide_eq_false (show ¬ ((t.length : Nat) : Int) ≤ 100 by omega)]
  cases aG a <;> cases aG b <;> cases aG d <;> cases aS t <;> rfl
 rw [decide_eq_false h5, decide_eq_true (show ((t.length : Nat) : Int) ≤ 100 by omega)]
 unfold jI
 generalize decide (((t.length : Nat) : Int) > 0) = n
 generalize (a == 0) = x
 generalize (b == 0) = y
 generalize (d == 0) = z
 generalize aS t = p
 cases aG a <;> cases aG b <;> cases aG d <;> cases p <;> first | rfl | (cases x <;> cases y <;> cases z <;> cases n <;> rfl)
theorem agt (s a b d : Int) (t : List Int) (K : aj → Option aj) : dS bW true F.dn [.a (dJ.cells .no (7, s, a, b, d, t))] K =
 (bif (decide (s < 1)) then K ((.s (.bool false)), []) else (bif (decide (s > 8)) then K ((.s (.bool false)), []) else (bif (!(aG a)) then K ((.s (.bool false)), []) else (bif (!(aG b)) then K ((.s (.bool false)), []) else (bif (!(aG d)) then K ((.s (.bool false)), []) else (bif aO t then (bif (!(aS t)) then K ((.s (.bool false)), []) else (bif (decide (((List.length t : Nat) : Int) > 100)) then K ((.s (.bool false)), []) else (bif (b != (0 : Int)) then K ((.s (.bool false)), []) else (bif (d != (0 : Int)) then K ((.s (.bool false)), []) else K ((.s (.bool (decide (((List.length t : Nat) : Int) > 0)))), []))))) else none)))))) := by kernel_rfl
theorem agu (s a b d : Int) (t : List Int) (h : aO t = true) (K : aj → Option aj) : dS bW true F.dn [.a (dJ.cells .no (7, s, a, b, d, t))] K = K (bl (dH (7, s, a, b, d, t)), []) := by
 refine (agt s a b d t K).trans ?_
 unfold dH
 simp only [bne, h]
 by_cases h3 : s < 1
 ·rw [decide_eq_true h3, decide_eq_false (show ¬ 1 ≤ s by omega)]; rfl
 by_cases h4 : s > 8
 ·rw [decide_eq_false h3, decide_eq_true h4, decide_eq_true (show 1 ≤ s by omega), decide_eq_false (show ¬ s ≤ 8 by omega)]; rfl
 rw [decide_eq_false h3, decide_eq_false h4, decide_eq_true (show 1 ≤ s by omega), decide_eq_true (show s ≤ 8 by omega)]
 by_cases h5 : ((t.length : Nat) : Int) > 100
 ·rw [decide_eq_true h5, decide_eq_false (show ¬ ((t.length : Nat) : Int) ≤ 100 by omega)]
  cases aG a <;> cases aG b <;> cases aG d <;> cases aS t <;> rfl
 rw [decide_eq_false h5, decide_eq_true (show ((t.length : Nat) : Int) ≤ 100 by omega)]
 unfold jI
 generalize decide (((t.length : Nat) : Int) > 0) = n
 generalize (a == 0) = x
 generalize (b == 0) = y
 generalize (d == 0) = z
 generalize aS t = p
 cases aG a <;> cases aG b <;> cases aG d <;> cases p <;> first | rfl | (cases x <;> cases y <;> cases z <;> cases n <;> rfl)
theorem agv (s a b d : Int) (t : List Int) (K : aj → Option aj) : dS bW true F.dn [.a (dJ.cells .no (8, s, a, b, d, t))] K =
 (bif (decide (s < 1)) then K ((.s (.bool false)), []) else (bif (decide (s > 8)) then K ((.s (.bool false)), []) else (bif (!(aG a)) then K ((.s (.bool false)), []) else (bif (!(aG b)) then K ((.s (.bool false)), []) else (bif (!(aG d)) then K ((.s (.bool false)), []) else (bif aO t then (bif (!(aS t)) then K ((.s (.bool false)), []) else (bif (decide (((List.length t : Nat) : Int) > 100)) then K ((.s (.bool false)), []) else (bif (b != (0 : Int)) then K ((.s (.bool false)), []) else (bif (d != (0 : Int)) then K ((.s (.bool false)), []) else K ((.s (.bool (decide (((List.length t : Nat) : Int) > 0)))), []))))) else none)))))) := by kernel_rfl
theorem agw (s a b d : Int) (t : List Int) (h : aO t = true) (K : aj → Option aj) : dS bW true F.dn [.a (dJ.cells .no (8, s, a, b, d, t))] K = K (bl (dH (8, s, a, b, d, t)), []) := by
 refine (agv s a b d t K).trans ?_
 unfold dH
 simp only [bne, h]
 by_cases h3 : s < 1
 ·rw [decide_eq_true h3, decide_eq_false (show ¬ 1 ≤ s by omega)]; rfl
 by_cases h4 : s > 8
 ·rw [decide_eq_false h3, decide_eq_true h4, decide_eq_true (show 1 ≤ s by omega), decide_eq_false (show ¬ s ≤ 8 by omega)]; rfl
 rw [decide_eq_false h3, decide_eq_false h4, decide_eq_true (show 1 ≤ s by omega), decide_eq_true (show s ≤ 8 by omega)]
 by_cases h5 : ((t.length : Nat) : Int) > 100
 ·rw [decide_eq_true h5, decide_eq_false (show ¬ ((t.length : Nat) : Int) ≤ 100 by omega)]
  cases aG a <;> cases aG b <;> cases aG d <;> cases aS t <;> rfl
 rw [decide_eq_false h5, decide_eq_true (show ((t.length : Nat) : Int) ≤ 100 by omega)]
 unfold jI
 generalize decide (((t.length : Nat) : Int) > 0) = n
 generalize (a == 0) = x
 generalize (b == 0) = y
 generalize (d == 0) = z
 generalize aS t = p
 cases aG a <;> cases aG b <;> cases aG d <;> cases p <;> first | rfl | (cases x <;> cases y <;> cases z <;> cases n <;> rfl)
theorem agx (s a b d : Int) (t : List Int) (K : aj → Option aj) : dS bW true F.dn [.a (dJ.cells .no (9, s, a, b, d, t))] K =
 (bif (decide (s < 1)) then K ((.s (.bool false)), []) else (bif (decide (s > 8)) then K ((.s (.bool false)), []) else (bif (!(aG a)) then K ((.s (.bool false)), []) else (bif (!(aG b)) then K ((.s (.bool false)), []) else (bif (!(aG d)) then K ((.s (.bool false)), []) else (bif aO t then (bif (!(aS t)) then K ((.s (.bool false)), []) else (bif (decide (((List.length t : Nat) : Int) > 100)) then K ((.s (.bool false)), []) else (bif (b != (0 : Int)) then K ((.s (.bool false)), []) else (bif (d != (0 : Int)) then K ((.s (.bool false)), []) else (bif (decide (((List.length t : Nat) : Int) > 0)) then K ((.s (.bool false)), []) else K ((.s (.bool true)), [])))))) else none)))))) := by kernel_rfl
theorem agy (s a b d : Int) (t : List Int) (h : aO t = true) (K : aj → Option aj) : dS bW true F.dn [.a (dJ.cells .no (9, s, a, b, d, t))] K = K (bl (dH (9, s, a, b, d, t)), []) := by
 refine (agx s a b d t K).trans ?_
 unfold dH
 simp only [bne, h]
 by_cases h3 : s < 1
 ·rw [decide_eq_true h3, decide_eq_false (show ¬ 1 ≤ s by omega)]; rfl
 by_cases h4 : s > 8
 ·rw [decide_eq_false h3, decide_eq_true h4, decide_eq_true (show 1 ≤ s by omega), decide_eq_false (show ¬ s ≤ 8 by omega)]; rfl
 rw [decide_eq_false h3, decide_eq_false h4, decide_eq_true (show 1 ≤ s by omega), decide_eq_true (show s ≤ 8 by omega)]
 by_cases h5 : ((t.length : Nat) : Int) > 100
 ·rw [decide_eq_true h5, decide_eq_false (show ¬ ((t.length : Nat) : Int) ≤ 100 by omega)]
  cases aG a <;> cases aG b <;> cases aG d <;> cases aS t <;> rfl
 rw [decide_eq_false h5, decide_eq_true (show ((t.length : Nat) : Int) ≤ 100 by omega)]
 unfold jI
 generalize decide (((t.length : Nat) : Int) > 0) = n
 generalize (a == 0) = x
 generalize (b == 0) = y
 generalize (d == 0) = z
 generalize aS t = p
 cases aG a <;> cases aG b <;> cases aG d <;> cases p <;> first | rfl | (cases x <;> cases y <;> cases z <;> cases n <;> rfl)
theorem adX (s a b d : Int) (t : List Int) (K : aj → Option aj) : dS bW true F.dn [.a (dJ.cells .no (10, s, a, b, d, t))] K =
 (bif (decide (s < 1)) then K ((.s (.bool false)), []) else (bif (decide (s > 8)) then K ((.s (.bool false)), []) else (bif (!(aG a)) then K ((.s (.bool false)), []) else (bif (!(aG b)) then K ((.s (.bool false)), []) else (bif (!(aG d)) then K ((.s (.bool false)), []) else (bif aO t then (bif (!(aS t)) then K ((.s (.bool false)), []) else (bif (decide (((List.length t : Nat) : Int) > 100)) then K ((.s (.bool false)), []) else (bif (d != (0 : Int)) then K ((.s (.bool false)), []) else (bif (decide (((List.length t : Nat) : Int) > 0)) then K ((.s (.bool false)), []) else K ((.s (.bool true)), []))))) else none)))))) := by kernel_rfl
theorem adY (s a b d : Int) (t : List Int) (h : aO t = true) (K : aj → Option aj) : dS bW true F.dn [.a (dJ.cells .no (10, s, a, b, d, t))] K = K (bl (dH (10, s, a, b, d, t)), []) := by
 refine (adX s a b d t K).trans ?_
 unfold dH
 simp only [bne, h]
 by_cases h3 : s < 1
 ·rw [decide_eq_true h3, decide_eq_false (show ¬ 1 ≤ s by omega)]; rfl
 by_cases h4 : s > 8
 ·rw [decide_eq_false h3, decide_eq_true h4, decide_eq_true (show 1 ≤ s by omega), decide_eq_false (show ¬ s ≤ 8 by omega)]; rfl
 rw [decide_eq_false h3, decide_eq_false h4, decide_eq_true (show 1 ≤ s by omega), decide_eq_true (show s ≤ 8 by omega)]
 by_cases h5 : ((t.length : Nat) : Int) > 100
 ·rw [decide_eq_true h5, decide_eq_false (show ¬ ((t.length : Nat) : Int) ≤ 100 by omega)]
  cases aG a <;> cases aG b <;> cases aG d <;> cases aS t <;> rfl
 rw [decide_eq_false h5, decide_eq_true (show ((t.length : Nat) : Int) ≤ 100 by omega)]
 unfold jI
 generalize decide (((t.length : Nat) : Int) > 0) = n
 generalize (a == 0) = x
 generalize (b == 0) = y
 generalize (d == 0) = z
 generalize aS t = p
 cases aG a <;> cases aG b <;> cases aG d <;> cases p <;> first | rfl | (cases x <;> cases y <;> cases z <;> cases n <;> rfl)
theorem adZ (s a b d : Int) (t : List Int) (K : aj → Option aj) : dS bW true F.dn [.a (dJ.cells .no (11, s, a, b, d, t))] K =
 (bif (decide (s < 1)) then K ((.s (.bool false)), []) else (bif (decide (s > 8)) then K ((.s (.bool false)), []) else (bif (!(aG a)) then K ((.s (.bool false)), []) else (bif (!(aG b)) then K ((.s (.bool false)), []) else (bif (!(aG d)) then K ((.s (.bool false)), []) else (bif aO t then (bif (!(aS t)) then K ((.s (.bool false)), []) else (bif (decide (((List.length t : Nat) : Int) > 100)) then K ((.s (.bool false)), []) else (bif (d != (0 : Int)) then K ((.s (.bool false)), []) else (bif (decide (((List.length t : Nat) : Int) > 0)) then K ((.s (.bool false)), []) else K ((.s (.bool true)), []))))) else none)))))) := by kernel_rfl
theorem ad1 (s a b d : Int) (t : List Int) (h : aO t = true) (K : aj → Option aj) : dS bW true F.dn [.a (dJ.cells .no (11, s, a, b, d, t))] K = K (bl (dH (11, s, a, b, d, t)), []) := by
 refine (adZ s a b d t K).trans ?_
 unfold dH
 simp only [bne, h]
 by_cases h3 : s < 1
 ·rw [decide_eq_true h3, decide_eq_false (show ¬ 1 ≤ s by omega)]; rfl
 by_cases h4 : s > 8
 ·rw [decide_eq_false h3, decide_eq_true h4, decide_eq_true (show 1 ≤ s by omega), decide_eq_false (show ¬ s ≤ 8 by omega)]; rfl
 rw [decide_eq_false h3, decide_eq_false h4, decide_eq_true (show 1 ≤ s by omega), decide_eq_true (show s ≤ 8 by omega)]
 by_cases h5 : ((t.length : Nat) : Int) > 100
 ·rw [decide_eq_true h5, decide_eq_false (show ¬ ((t.length : Nat) : Int) ≤ 100 by omega)]
  cases aG a <;> cases aG b <;> cases aG d <;> cases aS t <;> rfl
 rw [decide_eq_false h5, decide_eq_true (show ((t.length : Nat) : Int) ≤ 100 by omega)]
 unfold jI
 generalize decide (((t.length : Nat) : Int) > 0) = n
 generalize (a == 0) = x
 generalize (b == 0) = y
 generalize (d == 0) = z
 generalize aS t = p
 cases aG a <;> cases aG b <;> cases aG d <;> cases p <;> first | rfl | (cases x <;> cases y <;> cases z <;> cases n <;> rfl)
theorem ad2 (s a b d : Int) (t : List Int) (K : aj → Option aj) : dS bW true F.dn [.a (dJ.cells .no (12, s, a, b, d, t))] K =
 (bif (decide (s < 1)) then K ((.s (.bool false)), []) else (bif (decide (s > 8)) then K ((.s (.bool false)), []) else (bif (!(aG a)) then K ((.s (.bool false)), []) else (bif (!(aG b)) then K ((.s (.bool false)), []) else (bif (!(aG d)) then K ((.s (.bool false)), []) else (bif aO t then (bif (!(aS t)) then K ((.s (.bool false)), []) else (bif (decide (((List.length t : Nat) : Int) > 100)) then K ((.s (.bool false)), []) else (bif (decide (((List.length t : Nat) : Int) > 0)) then K ((.s (.bool false)), []) else K ((.s (.bool true)), [])))) else none)))))) := by kernel_rfl
theorem ad3 (s a b d : Int) (t : List Int) (h : aO t = true) (K : aj → Option aj) : dS bW true F.dn [.a (dJ.cells .no (12, s, a, b, d, t))] K = K (bl (dH (12, s, a, b, d, t)), []) := by
 refine (ad2 s a b d t K).trans ?_
 unfold dH
 simp only [bne, h]
 by_cases h3 : s < 1
 ·rw [decide_eq_true h3, decide_eq_false (show ¬ 1 ≤ s by omega)]; rfl
 by_cases h4 : s > 8
 ·rw [decide_eq_false h3, decide_eq_true h4, decide_eq_true (show 1 ≤ s by omega), decide_eq_false (show ¬ s ≤ 8 by omega)]; rfl
 rw [decide_eq_false h3, decide_eq_false h4, decide_eq_true (show 1 ≤ s by omega), decide_eq_true (show s ≤ 8 by omega)]
 by_cases h5 : ((t.length : Nat) : Int) > 100
 ·rw [decide_eq_true h5, decide_eq_false (show ¬ ((t.length : Nat) : Int) ≤ 100 by omega)]
  cases aG a <;> cases aG b <;> cases aG d <;> cases aS t <;> rfl
 rw [decide_eq_false h5, decide_eq_true (show ((t.length : Nat) : Int) ≤ 100 by omega)]
 unfold jI
 generalize decide (((t.length : Nat) : Int) > 0) = n
 generalize (a == 0) = x
 generalize (b == 0) = y
 generalize (d == 0) = z
 generalize aS t = p
 cases aG a <;> cases aG b <;> cases aG d <;> cases p <;> first | rfl | (cases x <;> cases y <;> cases z <;> cases n <;> rfl)
theorem ad4 (s a b d : Int) (t : List Int) (K : aj → Option aj) : dS bW true F.dn [.a (dJ.cells .no (13, s, a, b, d, t))] K =
 (bif (decide (s < 1)) then K ((.s (.bool false)), []) else (bif (decide (s > 8)) then K ((.s (.bool false)), []) else (bif (!(aG a)) then K ((.s (.bool false)), []) else (bif (!(aG b)) then K ((.s (.bool false)), []) else (bif (!(aG d)) then K ((.s (.bool false)), []) else (bif aO t then (bif (!(aS t)) then K ((.s (.bool false)), []) else (bif (decide (((List.length t : Nat) : Int) > 100)) then K ((.s (.bool false)), []) else (bif (decide (((List.length t : Nat) : Int) > 0)) then K ((.s (.bool false)), []) else K ((.s (.bool true)), [])))) else none)))))) := by kernel_rfl
theorem ad5 (s a b d : Int) (t : List Int) (h : aO t = true) (K : aj → Option aj) : dS bW true F.dn [.a (dJ.cells .no (13, s, a, b, d, t))] K = K (bl (dH (13, s, a, b, d, t)), []) := by
 refine (ad4 s a b d t K).trans ?_
 unfold dH
 simp only [bne, h]
 by_cases h3 : s < 1
 ·rw [decide_eq_true h3, decide_eq_false (show ¬ 1 ≤ s by omega)]; rfl
 by_cases h4 : s > 8
 ·rw [decide_eq_false h3, decide_eq_true h4, decide_eq_true (show 1 ≤ s by omega), decide_eq_false (show ¬ s ≤ 8 by omega)]; rfl
 rw [decide_eq_false h3, decide_eq_false h4, decide_eq_true (show 1 ≤ s by omega), decide_eq_true (show s ≤ 8 by omega)]
 by_cases h5 : ((t.length : Nat) : Int) > 100
 ·rw [decide_eq_true h5, decide_eq_false (show ¬ ((t.length : Nat) : Int) ≤ 100 by omega)]
  cases aG a <;> cases aG b <;> cases aG d <;> cases aS t <;> rfl
 rw [decide_eq_false h5, decide_eq_true (show ((t.length : Nat) : Int) ≤ 100 by omega)]
 unfold jI
 generalize decide (((t.length : Nat) : Int) > 0) = n
 generalize (a == 0) = x
 generalize (b == 0) = y
 generalize (d == 0) = z
 generalize aS t = p
 cases aG a <;> cases aG b <;> cases aG d <;> cases p <;> first | rfl | (cases x <;> cases y <;> cases z <;> cases n <;> rfl)
theorem ad6 (s a b d : Int) (t : List Int) (K : aj → Option aj) : dS bW true F.dn [.a (dJ.cells .no (14, s, a, b, d, t))] K =
 (bif (decide (s < 1)) then K ((.s (.bool false)), []) else (bif (decide (s > 8)) then K ((.s (.bool false)), []) else (bif (!(aG a)) then K ((.s (.bool false)), []) else (bif (!(aG b)) then K ((.s (.bool false)), []) else (bif (!(aG d)) then K ((.s (.bool false)), []) else (bif aO t then (bif (!(aS t)) then K ((.s (.bool false)), []) else (bif (decide (((List.length t : Nat) : Int) > 100)) then K ((.s (.bool false)), []) else (bif (d != (0 : Int)) then K ((.s (.bool false)), []) else (bif (decide (((List.length t : Nat) : Int) > 0)) then K ((.s (.bool false)), []) else K ((.s (.bool true)), []))))) else none)))))) := by kernel_rfl
theorem ad7 (s a b d : Int) (t : List Int) (h : aO t = true) (K : aj → Option aj) : dS bW true F.dn [.a (dJ.cells .no (14, s, a, b, d, t))] K = K (bl (dH (14, s, a, b, d, t)), []) := by
 refine (ad6 s a b d t K).trans ?_
 unfold dH
 simp only [bne, h]
 by_cases h3 : s < 1
 ·rw [decide_eq_true h3, decide_eq_false (show ¬ 1 ≤ s by omega)]; rfl
 by_cases h4 : s > 8
 ·rw [decide_eq_false h3, decide_eq_true h4, decide_eq_true (show 1 ≤ s by omega), decide_eq_false (show ¬ s ≤ 8 by omega)]; rfl
 rw [decide_eq_false h3, decide_eq_false h4, decide_eq_true (show 1 ≤ s by omega), decide_eq_true (show s ≤ 8 by omega)]
 by_cases h5 : ((t.length : Nat) : Int) > 100
 ·rw [decide_eq_true h5, decide_eq_false (show ¬ ((t.length : Nat) : Int) ≤ 100 by omega)]
  cases aG a <;> cases aG b <;> cases aG d <;> cases aS t <;> rfl
 rw [decide_eq_false h5, decide_eq_true (show ((t.length : Nat) : Int) ≤ 100 by omega)]
 unfold jI
 generalize decide (((t.length : Nat) : Int) > 0) = n
 generalize (a == 0) = x
 generalize (b == 0) = y
 generalize (d == 0) = z
 generalize aS t = p
 cases aG a <;> cases aG b <;> cases aG d <;> cases p <;> first | rfl | (cases x <;> cases y <;> cases z <;> cases n <;> rfl)
theorem ad8 (s a b d : Int) (t : List Int) (K : aj → Option aj) : dS bW true F.dn [.a (dJ.cells .no (15, s, a, b, d, t))] K =
 (bif (decide (s < 1)) then K ((.s (.bool false)), []) else (bif (decide (s > 8)) then K ((.s (.bool false)), []) else (bif (!(aG a)) then K ((.s (.bool false)), []) else (bif (!(aG b)) then K ((.s (.bool false)), []) else (bif (!(aG d)) then K ((.s (.bool false)), []) else (bif aO t then (bif (!(aS t)) then K ((.s (.bool false)), []) else (bif (decide (((List.length t : Nat) : Int) > 100)) then K ((.s (.bool false)), []) else (bif (a != (0 : Int)) then K ((.s (.bool false)), []) else (bif (b != (0 : Int)) then K ((.s (.bool false)), []) else (bif (d != (0 : Int)) then K ((.s (.bool false)), []) else (bif (decide (((List.length t : Nat) : Int) > 0)) then K ((.s (.bool false)), []) else K ((.s (.bool true)), []))))))) else none)))))) := by kernel_rfl
theorem ad9 (s a b d : Int) (t : List Int) (h : aO t = true) (K : aj → Option aj) : dS bW true F.dn [.a (dJ.cells .no (15, s, a, b, d, t))] K = K (bl (dH (15, s, a, b, d, t)), []) := by
 refine (ad8 s a b d t K).trans ?_
 unfold dH
 simp only [bne, h]
 by_cases h3 : s < 1
 ·rw [decide_eq_true h3, decide_eq_false (show ¬ 1 ≤ s by omega)]; rfl
 by_cases h4 : s > 8
 ·rw [decide_eq_false h3, decide_eq_true h4, decide_eq_true (show 1 ≤ s by omega), decide_eq_false (show ¬ s ≤ 8 by omega)]; rfl
 rw [decide_eq_false h3, decide_eq_false h4, decide_eq_true (show 1 ≤ s by omega), decide_eq_true (show s ≤ 8 by omega)]
 by_cases h5 : ((t.length : Nat) : Int) > 100
 ·rw [decide_eq_true h5, decide_eq_false (show ¬ ((t.length : Nat) : Int) ≤ 100 by omega)]
  cases aG a <;> cases aG b <;> cases aG d <;> cases aS t <;> rfl
 rw [decide_eq_false h5, decide_eq_true (show ((t.length : Nat) : Int) ≤ 100 by omega)]
 unfold jI
 generalize decide (((t.length : Nat) : Int) > 0) = n
 generalize (a == 0) = x
 generalize (b == 0) = y
 generalize (d == 0) = z
 generalize aS t = p
 cases aG a <;> cases aG b <;> cases aG d <;> cases p <;> first | rfl | (cases x <;> cases y <;> cases z <;> cases n <;> rfl)
theorem aea (s a b d : Int) (t : List Int) (K : aj → Option aj) : dS bW true F.dn [.a (dJ.cells .no (16, s, a, b, d, t))] K =
 (bif (decide (s < 1)) then K ((.s (.bool false)), []) else (bif (decide (s > 8)) then K ((.s (.bool false)), []) else (bif (!(aG a)) then K ((.s (.bool false)), []) else (bif (!(aG b)) then K ((.s (.bool false)), []) else (bif (!(aG d)) then K ((.s (.bool false)), []) else (bif aO t then (bif (!(aS t)) then K ((.s (.bool false)), []) else (bif (decide (((List.length t : Nat) : Int) > 100)) then K ((.s (.bool false)), []) else (bif (a != (0 : Int)) then K ((.s (.bool false)), []) else (bif (b != (0 : Int)) then K ((.s (.bool false)), []) else (bif (d != (0 : Int)) then K ((.s (.bool false)), []) else (bif (decide (((List.length t : Nat) : Int) > 0)) then K ((.s (.bool false)), []) else K ((.s (.bool true)), []))))))) else none)))))) := by kernel_rfl
theorem aeb (s a b d : Int) (t : List Int) (h : aO t = true) (K : aj → Option aj) : dS bW true F.dn [.a (dJ.cells .no (16, s, a, b, d, t))] K = K (bl (dH (16, s, a, b, d, t)), []) := by
 refine (aea s a b d t K).trans ?_
 unfold dH
 simp only [bne, h]
 by_cases h3 : s < 1
 ·rw [decide_eq_true h3, decide_eq_false (show ¬ 1 ≤ s by omega)]; rfl
 by_cases h4 : s > 8
 ·rw [decide_eq_false h3, decide_eq_true h4, decide_eq_true (show 1 ≤ s by omega), decide_eq_false (show ¬ s ≤ 8 by omega)]; rfl
 rw [decide_eq_false h3, decide_eq_false h4, decide_eq_true (show 1 ≤ s by omega), decide_eq_true (show s ≤ 8 by omega)]
 by_cases h5 : ((t.length : Nat) : Int) > 100
 ·rw [decide_eq_true h5, decide_eq_false (show ¬ ((t.length : Nat) : Int) ≤ 100 by omega)]
  cases aG a <;> cases aG b <;> cases aG d <;> cases aS t <;> rfl
 rw [decide_eq_false h5, decide_eq_true (show ((t.length : Nat) : Int) ≤ 100 by omega)]
 unfold jI
 generalize decide (((t.length : Nat) : Int) > 0) = n
 generalize (a == 0) = x
 generalize (b == 0) = y
 generalize (d == 0) = z
 generalize aS t = p
 cases aG a <;> cases aG b <;> cases aG d <;> cases p <;> first | rfl | (cases x <;> cases y <;> cases z <;> cases n <;> rfl)
theorem akw (r : oO) (h : aO r.2.2.2.2.2 = true) (K : aj → Option aj) : ∃ G', aT prog I N.dn true G' ∧ G' [.a (dJ.cells .no r)] K = K (bl (dH r), []) := by
 obtain ⟨k, s, a, b, d, t⟩ := r
 by_cases h1 : k < 1
 ·refine ⟨_, WR, (ZO (k, s, a, b, d, t) K).trans ?_⟩
  unfold dH
  rw [decide_eq_true h1, decide_eq_false (show ¬ 1 ≤ k by omega)]; rfl
 by_cases h2 : k > 16
 ·refine ⟨_, WR, (ZO (k, s, a, b, d, t) K).trans ?_⟩
  unfold dH
  rw [decide_eq_false h1, decide_eq_true h2, decide_eq_true (show 1 ≤ k by omega), decide_eq_false (show ¬ k ≤ 16 by omega)]; rfl
 refine ⟨_, WQ, ?_⟩
 rcases kinds (k := k) (by omega) (by omega) with rfl | rfl | rfl | rfl | rfl | rfl | rfl | rfl | rfl | rfl | rfl | rfl | rfl | rfl | rfl | rfl
 ·exact agh s a b d t h K
 ·exact agj s a b d t h K
 ·exact agl s a b d t h K
 ·exact agn s a b d t h K
 ·exact agq s a b d t h K
 ·exact ags s a b d t h K
 ·exact agu s a b d t h K
 ·exact agw s a b d t h K
 ·exact agy s a b d t h K
 ·exact adY s a b d t h K
 ·exact ad1 s a b d t h K
 ·exact ad3 s a b d t h K
 ·exact ad5 s a b d t h K
 ·exact ad7 s a b d t h K
 ·exact ad9 s a b d t h K
 ·exact aeb s a b d t h K
def Vl : Sm := aoO [.a dJ] (fun d => aO d.1.2.2.2.2.2) (fun d => bl (dH d.1))
theorem agz : aT prog I N.dn true Vl := aT.weak (fun ws K q hr => by
 unfold Vl aoO at hr
 split at hr
 ·rename_i dd hd
  have hw := alP _ hd
  replace hr : (bif aO dd.1.2.2.2.2.2 then K (bl (dH dd.1), []) else none) = some q := hr
  cases hp : aO dd.1.2.2.2.2.2 with
  | false => rw [hp] at hr; cases hr
  | true =>
  rw [hp] at hr
  obtain ⟨G', g1, g2⟩ := akw dd.1 hp K
  exact ⟨G', g1, by rw [hw]; exact g2.trans hr⟩
 ·cases hr) WQ.1
end Go.Ev.Seat
end
section
set_option linter.unusedVariables false
namespace Go.Ev
open Go.RowKit
def jw (k : Int) : Bool := decide ((3 : Int) ≤ k) && decide (k ≤ (5 : Int))
theorem aa7 (k : Int) : List.any ((3 : Int) :: ((4 : Int) :: ((5 : Int) :: ([] : List Int)))) (fun c => (c == k)) = jw k := by
 unfold jw
 simp only [List.any_cons, List.any_nil, Bool.or_false]
 rw [Bool.eq_iff_iff]
 simp only [Bool.or_eq_true, beq_iff_eq, Bool.and_eq_true, decide_eq_true_eq]
 omega
def mD (r : P6) : E3 := (r.2.2.1, bif r.1 != 3 then IntKind.wrap .i64 (r.2.2.2.1 - r.2.2.1) else 0, r.2.2.2.2.2)
def InT (t : List Int) (e : E3) : Prop := 0 ≤ e.1 ∧ 0 ≤ e.2.1 ∧ e.1 + e.2.1 ≤ ((t.length : Nat) : Int) ∧ e.2.2.length ≤ 400
theorem InT.small {t : List Int} {e : E3} (h : InT t e) (ht : t.length ≤ 400) : bg e = true := by
 obtain ⟨h1, h2, h3, h4⟩ := h
 exact qo.2 ⟨⟨h1, by omega⟩, ⟨h2, by omega⟩, h4⟩
theorem Zc.inT {t : List Int} {b : E3} (h : Zc t b) : InT t b := by
 have h1 := fA h.a
 have h2 := fA h.b
 exact ⟨h1.1, h.c0, h2.2, jm h.p⟩
theorem ajv {b : E3} {n m p : Int} {r : Bool} (h1 : 0 ≤ b.1) (h2 : 0 ≤ b.2.1) (h3 : b.1 + b.2.1 ≤ n) (hm : m = n - b.2.1 + ((b.2.2.length : Nat) : Int)) (hp : 0 ≤ p) (hn : p ≤ n) : 0 ≤ bV b p r ∧ bV b p r ≤ m := by
 rcases Ze b p r with ⟨q, w⟩ | ⟨q, w, _, v⟩ | ⟨q, w, _, v⟩ | ⟨q, w, v⟩ <;> omega
theorem InT.moved {t : List Int} {e b : E3} (h : InT t e) (hb : Zc t b) : InT (Xe b t) (jh e b) := by
 obtain ⟨h1, h2, h3, h4⟩ := h
 obtain ⟨b1, b2, b3, b4⟩ := hb.inT
 have hl := adw b1 b2 b3
 have p1 := ajv (p := e.1) (r := true) b1 b2 b3 hl h1 (by omega)
 have p2 := ajv (p := e.1 + e.2.1) (r := false) b1 b2 b3 hl (by omega) h3
 have e2 : (jh e b).2.1 = (bif e.1 == e.1 + e.2.1 then bV b e.1 true else max (bV b e.1 true) (bV b (e.1 + e.2.1) false)) - bV b e.1 true := rfl
 refine ⟨p1.1, ?_, ?_, h4⟩
 ·rw [e2]
  cases (e.1 == e.1 + e.2.1) with
  | true => rw [cond_true]; omega
  | false => rw [cond_false]; omega
 ·rw [e2]
  show bV b e.1 true + _ ≤ _
  cases (e.1 == e.1 + e.2.1) with
  | true => rw [cond_true]; omega
  | false => rw [cond_false]; omega
theorem aiv {t : List Int} {b : E3} (h : Zc t b) : (Xe b t).length ≤ 400 := by
 have := MN t b
 unfold ny at this
 rw [yV.2 h] at this
 exact this
def qy : List E3 → List Int → Bool
 | [], _ => true
 | b :: l, t => iE t b && qy l (Xe b t)
theorem ZP : ∀ (l : List E3) (t : List Int) (n : Nat), (iq l t n).2 = n + l.length → qy l t = true
 | [], _, _, _ => rfl
 | b :: l, t, n, h => by
  simp only [iq] at h
  simp only [qy]
  cases hb : iE t b with
  | false => rw [hb] at h; simp at h
  | true =>
   rw [hb] at h
   exact ZP l (Xe b t) (n + 1) (by rw [cond_true] at h; rw [h]; simp; omega)
theorem Pq : ∀ (l : List E3) (t : List Int) (n : Nat), qy l t = true → ∀ l2, qy (l ++ l2) t = qy l2 (iq l t n).1
 | [], _, _, _, _ => rfl
 | b :: l, t, n, h, l2 => by
  simp only [qy, Bool.and_eq_true] at h
  simp only [List.cons_append, qy, iq, h.1, cond_true, Bool.true_and]
  exact Pq l (Xe b t) (n + 1) h.2 l2
theorem WS : ∀ (l l2 : List E3) (t : List Int), qy (l ++ l2) t = true → qy l t = true
 | [], _, _, _ => rfl
 | b :: l, l2, t, h => by
  simp only [List.cons_append, qy, Bool.and_eq_true] at h ⊢
  exact ⟨h.1, WS l l2 _ h.2⟩
theorem WT : ∀ (l : List E3) (t : List Int) (e : E3), t.length ≤ 400 → InT t e → qy l t = true → yF l e = (l.foldl jh e, true) ∧ (∀ k, k ≤ l.length → bg ((l.take k).foldl jh e) = true) ∧ ∀ b ∈ l, bg b = true
 | [], t, e, ht, he, _ => ⟨rfl, fun k _ => by rw [List.take_nil]; exact he.small ht, fun b hb => by cases hb⟩
 | b :: l, t, e, ht, he, hd => by
  simp only [qy, Bool.and_eq_true] at hd
  have hb := yV.1 hd.1
  obtain ⟨h1, h2, h3⟩ := WT l (Xe b t) (jh e b) (aiv hb) (he.moved hb) hd.2
  refine ⟨?_, fun k hk => ?_, fun c hc => ?_⟩
  ·simp only [yF, he.small ht, hb.inT.small ht, Bool.and_self, cond_true, List.foldl_cons]
   exact h1
  ·cases k with
   | zero => exact he.small ht
   | succ k => exact h2 k (by simp at hk; omega)
  ·rcases List.mem_cons.1 hc with rfl | hc
   ·exact hb.inT.small ht
   ·exact h3 c hc
end Go.Ev
namespace Go.Ev.Seat
open Go.RowKit
def cO (d : eU) (r : oO) (v : Int) : ak × Int :=
 bif !(fD d v && dH r && jw r.1) then ((0, 0, []), 1)
 else bif !(decide (Dl (fun m : aB => m.1 == r.2.1) d.2.2.2.2.1 ≥ 0)) then ((0, 0, []), 2)
 else bif !(fU (jS d v) (mD r)) then ((0, 0, []), 5)
 else ((wC (mD r) (eH d v)).1, 0)
theorem akx {d : eU} {v : Int} (h : fD d v = true) : qy (eH d v) (jS d v) = true := by
 obtain ⟨h1, h2, h3⟩ := zU.1 h
 have hc : zC d.1 d.2.1 d.2.2.1 = true ∧ aS d.1 = true := by
  unfold um at h1
  simp only [Bool.and_eq_true] at h1
  exact ⟨h1.1.1.1.2, h1.1.1.1.1⟩
 obtain ⟨hc, ht⟩ := hc
 unfold zC at hc
 simp only [Bool.and_eq_true, beq_iff_eq] at hc
 have hn := hc.1.2
 unfold eH jS
 rw [h, cond_true, cond_true]
 unfold bQ at hn ⊢
 rw [ht, cond_true] at hn ⊢
 have ha : qy (dN d.2.2.1) d.1 = true := by
  refine ZP _ _ 0 ?_
  have : (dN d.2.2.1).length = d.2.2.1.length := by unfold dN; rw [List.length_map]
  have hn : (((iq (dN d.2.2.1) d.1 0).2 : Nat) : Int) = ((d.2.2.1.length : Nat) : Int) := hn
  omega
 have hs : dN d.2.2.1 = dN (d.2.2.1.take v.toNat) ++ dN (d.2.2.1.drop v.toNat) := by
  unfold dN
  rw [← List.map_append, List.take_append_drop]
 rw [hs] at ha
 have hb := WS _ _ _ ha
 rw [Pq _ _ 0 hb] at ha
 exact ha
theorem amd {t : List Int} {e : E3} (h : fU t e = true) : InT t e := by
 unfold fU at h
 simp only [Bool.and_eq_true, decide_eq_true_eq] at h
 obtain ⟨⟨⟨⟨h1, h2⟩, h3⟩, h4⟩, h5⟩ := h
 have r1 := fA h1
 exact ⟨r1.1, h2, by omega, jm h5⟩
theorem acn (d : eU) (v : Int) : (jS d v).length ≤ 400 := by
 unfold jS
 cases fD d v with
 | false => exact Nat.zero_le _
 | true => exact adx _ _
theorem agA {d : eU} (hk : um d = true) : wM d.2.1 d.2.2.2.2.1 = true := by
 unfold um at hk
 simp only [Bool.and_eq_true] at hk
 exact hk.1.2
theorem ZQ : ∀ (l : List E3) (e : E3), (yF l e).1.2.2.length ≤ e.2.2.length
 | [], e => Nat.le_refl _
 | b :: l, e => by
  simp only [yF]
  cases (bg e && bg b) with
  | false => exact Nat.zero_le _
  | true => exact ZQ l (jh e b)
theorem aco (d : eU) (r : oO) (v : Int) : (cO d r v).1.2.2.length ≤ r.2.2.2.2.2.length := by
 unfold cO
 cases (!(fD d v && dH r && jw r.1)) with
 | true => exact Nat.zero_le _
 | false =>
 cases (!(decide (Dl (fun m : aB => m.1 == r.2.1) d.2.2.2.2.1 ≥ 0))) with
 | true => exact Nat.zero_le _
 | false =>
 cases (!(fU (jS d v) (mD r))) with
 | true => exact Nat.zero_le _
 | false =>
 show (wC (mD r) (eH d v)).1.2.2.length ≤ _
 unfold wC
 cases bg (mD r) with
 | false => exact Nat.zero_le _
 | true => exact ZQ (eH d v) (mD r)
theorem anW {d : eU} {r : oO} {v : Int} (h : dJ.w r ≤ 1048576) : ay.w (cO d r v).1 ≤ 1099511627776 := by
 have h1 : dJ.w r = 0 + (0 + (0 + (0 + (0 + (Cc.sl ah).w r.2.2.2.2.2)))) := rfl
 rw [ajr] at h1
 rw [anV]
 have := aco d r v
 omega
end Go.Ev.Seat
end
section
namespace Go.Ev.Seat
open Go.RowKit
set_option maxRecDepth 100000
set_option linter.unusedVariables false
set_option linter.unusedSimpArgs false
noncomputable abbrev Pv : List (Nat × Bool × Sm) := [(N.sF, true, OJ)]
noncomputable abbrev aec : Env := En Pv [] [] [] false 0 []
noncomputable def Kw (r : oO) (K : aj → Option aj) : Option aj := K ((.s (.bool (List.any ((3 : Int) :: ((4 : Int) :: ((5 : Int) :: ([] : List Int)))) (fun c => (c == r.1))))), [])
theorem aed (r : oO) (K : aj → Option aj) : dS aec true F.Fz [.a (dJ.cells .no r)] K = Kw r K := by kernel_rfl
def SN : Sm := bD [.a dJ] (fun d => true) (fun d => (bl (jw d.1.1), []))
theorem aee (r : oO) (K : aj → Option aj) : Kw r K = K (bl (jw r.1), []) := by
 unfold Kw
 rw [aa7]
 rfl
theorem ZR : aT prog I N.Fz true SN := lN (aU (bf WO bn) (l := Pv) (p := []) (ls := []) (lend := []) (focus := false) (fuel := 0) (give := []) (fn := F.Fz) (by kernel_rfl) (by kernel_rfl) (by kernel_rfl) (by kernel_rfl) (cs := []) (by kernel_rfl) aJ) (aK fun d K h => (aed d.1 K).trans (aee d.1 K))
end Go.Ev.Seat
end
section
namespace Go.Ev.Seat
open Go.RowKit
set_option maxRecDepth 100000
set_option linter.unusedVariables false
set_option linter.unusedSimpArgs false
def sN (x4 : Int) : St := { tm := ([.x, .x, .x, .x, (.s (.int .i64 x4))] ++ List.replicate 17 .x), ob := [], nx := 0, io := [] }
def sO : St := { tm := ([] ++ List.replicate 22 .x), ob := [], nx := 0, io := [] }
def qA : Ss := { tm := (.cons (.x) (.cons (.int .i64) (.cons (.pb 0 0) (.cons (.x) (.cons (.x) (.cons (.int .i64) (Ed 16))))))), ob := (.box (.cons (.l .no ah) (.cons (.l .no ah) (.cons (.l .no aH) (.cons (.int .i64) (.cons (.l .no aF) (.cons (.l .no aI) .nil)))))) .nil), nx := 1, io := .nil }
def SQ (x1 : Int) (x5 : Int) (b00 : List Int) (b01 : List Int) (b02 : List aC) (aW : Int) (aX : List aB) (aY : List au) : qA.T := (((), (x1, ((), ((), ((), (x5, xd 16)))))), ((b00, (b01, (b02, (aW, (aX, (aY, ())))))), ()), ())
def nI (x1 : Int) (x5 : Int) (b00 : List Int) (b01 : List Int) (b02 : List aC) (aW : Int) (aX : List aB) (aY : List au) : St := { tm := ([.x, (.s (.int .i64 x1)), (.pb 0 0), .x, .x, (.s (.int .i64 x5))] ++ List.replicate 16 .x), ob := [(0, (.box [(.l .no ah b00), (.l .no ah b01), (.l .no aH b02), (.s (.int .i64 aW)), (.l .no aF aX), (.l .no aI aY)]))], nx := 1, io := [] }
theorem Qw (x1 : Int) (x5 : Int) (b00 : List Int) (b01 : List Int) (b02 : List aC) (aW : Int) (aX : List aB) (aY : List au) : qA.mk' (SQ x1 x5 b00 b01 b02 aW aX aY) = (nI x1 x5 b00 b01 b02 aW aX aY) := by kernel_rfl
def SS (d : qA.T) (f : Int → Int → (List Int) → (List Int) → (List aC) → Int → (List aB) → (List au) → Option aj) : Option aj := match d with | ((_, (x1, (_, (_, (_, (x5, _)))))), ((b00, (b01, (b02, (aW, (aX, (aY, _)))))), _), _) => f x1 x5 b00 b01 b02 aW aX aY
noncomputable def kP (x1 : Int) (x5 : Int) (b00 : List Int) (b01 : List Int) (b02 : List aC) (aW : Int) (aX : List aB) (aY : List au) (pW : Int → Int → (List Int) → (List Int) → (List aC) → Int → (List aB) → (List au) → Option aj) (k0 : Int → Option aj) (k1 : Option aj) : Option aj := (bif (decide (x5 < (((List.length aX) : Nat) : Int))) then (bif ((decide ((0 : Int) ≤ x5)) && (decide (x5 < (((List.length aX) : Nat) : Int)))) then (bif ((List.getD aX (Int.toNat x5) (aF.dflt)).1 == x1) then (k0 x5) else (pW x1 (IntKind.wrap .i64 (x5 + (1 : Int))) b00 b01 b02 aW aX aY)) else none) else k1)
noncomputable def nJ : Nat → Int → Int → (List Int) → (List Int) → (List aC) → Int → (List aB) → (List au) → (Int → Option aj) → (Option aj) → Option aj
 | 0, _, _, _, _, _, _, _, _, _, _ => none
 | m + 1, x1, x5, b00, b01, b02, aW, aX, aY, k0, k1 => kP x1 x5 b00 b01 b02 aW aX aY (fun x1 x5 b00 b01 b02 aW aX aY => (nJ m x1 x5 b00 b01 b02 aW aX aY k0 k1)) k0 k1
noncomputable def H9 (x1 : Int) (x5 : Int) (b00 : List Int) (b01 : List Int) (b02 : List aC) (aW : Int) (aX : List aB) (aY : List au) (k0 : Int → Option aj) (k1 : Option aj) : Option aj := nJ (x1.toNat + x5.toNat + List.length b00 + List.length b01 + List.length b02 + aW.toNat + List.length aX + List.length aY + 2) x1 x5 b00 b01 b02 aW aX aY k0 k1
noncomputable def xP : fG := (fun (σ : St) (K : Ex → St → Option aj) => (match qA.un σ with | some d => SS d (fun x1 x5 b00 b01 b02 aW aX aY => H9 x1 x5 b00 b01 b02 aW aX aY (fun x4 => (K .ret (sN x4))) (K (.ext 0) sO)) | none => none))
noncomputable abbrev ou : Env := En [] [] [(2, [1,2,5], [4], xP)] [] false 0 []
theorem Qx (m : Nat) (x1 : Int) (x5 : Int) (b00 : List Int) (b01 : List Int) (b02 : List aC) (aW : Int) (aX : List aB) (aY : List au) (K : Ex → St → Option aj) : rounds (run ou (aA F.jA 2)) [1,2,5] [4] (m + 1) (nI x1 x5 b00 b01 b02 aW aX aY) K = kP x1 x5 b00 b01 b02 aW aX aY (fun x1 x5 b00 b01 b02 aW aX aY => (rounds (run ou (aA F.jA 2)) [1,2,5] [4] m (nI x1 x5 b00 b01 b02 aW aX aY) K)) (fun x4 => (K .ret (sN x4))) (K (.ext 0) sO) := by kernel_rfl
theorem KZ (K : Ex → St → Option aj) : ∀ m : Nat, (∀ (x1 : Int) (x5 : Int) (b00 : List Int) (b01 : List Int) (b02 : List aC) (aW : Int) (aX : List aB) (aY : List au), rounds (run ou (aA F.jA 2)) [1,2,5] [4] m (nI x1 x5 b00 b01 b02 aW aX aY) K = nJ m x1 x5 b00 b01 b02 aW aX aY (fun x4 => (K .ret (sN x4))) (K (.ext 0) sO))
 | 0 => (fun _ _ _ _ _ _ _ _ => rfl)
 | m + 1 => (fun x1 x5 b00 b01 b02 aW aX aY => (by rw [Qx, show (fun x1 x5 b00 b01 b02 aW aX aY => (rounds (run ou (aA F.jA 2)) [1,2,5] [4] m (nI x1 x5 b00 b01 b02 aW aX aY) K)) = (fun x1 x5 b00 b01 b02 aW aX aY => (nJ m x1 x5 b00 b01 b02 aW aX aY (fun x4 => (K .ret (sN x4))) (K (.ext 0) sO))) from funext fun x1 => funext fun x5 => funext fun b00 => funext fun b01 => funext fun b02 => funext fun aW => funext fun aX => funext fun aY => (KZ K m) x1 x5 b00 b01 b02 aW aX aY]; rfl))
theorem OQ : dL ou (aA F.jA 2) := by
 refine dG (n := 2) (F := xP) (by kernel_rfl) rfl (li := [1,2,5]) (lo := [4]) rfl (fun σ K r hr => ?_)
 unfold xP at hr
 split at hr
 ·rename_i d hd
  rw [Ss.fF hd]
  exact ⟨_, ((congrArg (fun z => rounds (run ou (aA F.jA 2)) [1,2,5] [4] _ z K) (Qw _ _ _ _ _ _ _ _)).trans ((KZ K _) _ _ _ _ _ _ _ _)).trans hr⟩
 ·cases hr
noncomputable def IC (d : eU) (s : Int) (K : aj → Option aj) : Option aj := (H9 s (0 : Int) d.1 d.2.1 d.2.2.1 d.2.2.2.1 d.2.2.2.2.1 d.2.2.2.2.2 (fun y0 => K ((.s (.int .i64 y0)), [])) (K ((.s (.int .i64 (-(1 : Int)))), [])))
theorem aa8 (d : eU) (s : Int) (K : aj → Option aj) : dS ou true F.jA [.a (bT.cells .no d), .s (.int .i64 s)] K = IC d s K := by kernel_rfl
def Px : Sm := bD [.a bT, .i] (fun d => Nat.ble d.1.2.2.2.2.1.length 1048576) (fun d => (.s (.int .i64 (Dl (fun m => m.1 == d.2.1) d.1.2.2.2.2.1)), []))
theorem aa9 (d : eU) (s : Int) (h : (Nat.ble d.2.2.2.2.1.length 1048576) = true) (K : aj → Option aj) : IC d s K = K (.s (.int .i64 (Dl (fun m => m.1 == s) d.2.2.2.2.1)), []) := by
 have hl := Nat.le_of_ble_eq_true h
 obtain ⟨st, tx, lg, ck, mb, ls⟩ := d
 have hl : mb.length ≤ 1048576 := hl
 unfold IC
 refine Eq.trans (Jr (R := fun m i => nJ m s i st tx lg ck mb ls (fun y0 => K ((.s (.int .i64 y0)), [])) (K ((.s (.int .i64 (-(1 : Int)))), []))) (p := fun x => x.1 == s) (xs := mb) (z := aF.dflt) (kf := fun y0 => K ((.s (.int .i64 y0)), [])) (kt := K ((.s (.int .i64 (-(1 : Int)))), [])) (fun m i hi => by
  show kP s ((i : Nat) : Int) st tx lg ck mb ls _ _ _ = _
  unfold kP
  rw [decide_eq_true (show ((i : Nat) : Int) < ((mb.length : Nat) : Int) by omega), decide_eq_true (show (0 : Int) ≤ ((i : Nat) : Int) by omega), Int.toNat_natCast, bY (by omega)]
  rfl) (fun m => by
  show kP s ((mb.length : Nat) : Int) st tx lg ck mb ls _ _ _ = _
  unfold kP
  rw [decide_eq_false (show ¬ ((mb.length : Nat) : Int) < ((mb.length : Nat) : Int) by omega)]; rfl) _ 0 (by omega) (by dsimp only; omega)) ?_
 rw [List.drop_zero]
 unfold Dl
 show _ = K (.s (.int .i64 (match mb.findIdx? (fun x => x.1 == s) with | some i => ((i : Nat) : Int) | none => -1)), [])
 cases mb.findIdx? (fun x => x.1 == s) with
 | none => rfl
 | some j => show K (.s (.int .i64 ((0 + j : Nat) : Int)), []) = _; rw [Nat.zero_add]
theorem XC : aT prog I N.jA true Px := lN (aU bn (l := []) (p := []) (ls := [(2, [1,2,5], [4], xP)]) (lend := []) (focus := false) (fuel := 0) (give := []) (fn := F.jA) (by kernel_rfl) (by kernel_rfl) (by kernel_rfl) (by kernel_rfl) (cs := [aA F.jA 2]) (by kernel_rfl) (dw OQ aJ)) (aK fun d K h => (aa8 d.1 d.2.1 K).trans (aa9 d.1 d.2.1 h K))
end Go.Ev.Seat
end
