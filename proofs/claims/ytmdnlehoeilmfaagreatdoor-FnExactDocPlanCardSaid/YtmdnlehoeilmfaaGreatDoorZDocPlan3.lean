/- DocPlan: parts EvBytes EvFam EvRows EvEditH EvSelH EvLeaseH EvStackH EvReqH EvCommitH EvMemberH EvDocH EvSig EvWeak EvSigN PUtf PEdit PReq PLoop PEvent PMove PDoc Fsl07Clock Fsl07Right Fsl07Less EvFit FsLeasesOk Fsl10Log FsRuneBytes, packed by squash.py. -/
import Derived.Lib.Strings
import Derived.Test.YtmdnlehoeilmfaaGreatDoorZDocPlan0
import Derived.Test.YtmdnlehoeilmfaaGreatDoorZDocPlan1
import Derived.Test.YtmdnlehoeilmfaaGreatDoorZDocPlan2
set_option linter.unusedVariables false
set_option linter.unusedSimpArgs false
section
namespace Go.Ev.Seat
open Go.RowKit
set_option maxRecDepth 100000
set_option linter.unusedVariables false
def FW : Ss := { tm := (.cons (.l .no ah) (.cons (.x) (.cons (.x) (.cons (.w 0) (.cons (.int .i64) (Ed 17)))))), ob := (.arr true true ah .nil), nx := 1, io := .nil }
def ajT (x0 : List (Int)) (x4 : Int) (o0 : List (Int)) : FW.T := ((x0, ((), ((), ((), (x4, xd 17))))), (o0, ()), ())
def OB (x0 : List Int) : St := { tm := ([.x, .x, .x, (.w 0)] ++ List.replicate 18 .x), ob := [(0, (.arr true true ah x0))], nx := 1, io := [] }
def UD (d : FW.T) (K : Ex → St → Option aj) : Option aj := match d with
 | ((x0, (_, (_, (_, (x4, _))))), (o0, _), _) => bif (x4 == 0) && Nat.beq o0.length x0.length && (Cc.sl ah).lim x0 then K (.ext 0) (OB x0) else none
noncomputable def UE : Env := En [] [] [(3, [0,3,4], [3], oN FW UD)]
noncomputable abbrev EZ (n : Nat) (x0 : List Int) (x4 : Int) (o0 : List Int) (K : Ex → St → Option aj) : Option aj := rounds (run UE (aA F.rM 3)) [0,3,4] [3] n (FW.mk' (ajT x0 x4 o0)) K
theorem RS (n : Nat) (x0 : List (Int)) (x4 : Int) (o0 : List (Int)) (K : Ex → St → Option aj) : EZ (n + 1) x0 x4 o0 K =
 (bif decide (x4 < (((List.length x0) : Nat) : Int)) then
 (bif (decide ((0 : Int) ≤ x4) && decide (x4 < (((List.length x0) : Nat) : Int))) then
  (bif (decide ((0 : Int) ≤ x4) && decide (x4 < (((List.length o0) : Nat) : Int))) then
   EZ n x0 (IntKind.wrap .i64 (x4 + (1 : Int))) (List.set o0 (Int.toNat x4) (List.getD x0 (Int.toNat x4) ((0 : Nat) : Int))) K
   else none)
  else none)
 else K (.ext 0) (OB o0)) := by kernel_rfl
theorem ahH (x0 o0 : List Int) (K : Ex → St → Option aj) (h2 : o0.length = x0.length) (h3 : x0.length ≤ 1048576) : EZ (x0.length + 1) x0 0 o0 K = K (.ext 0) (OB x0) :=
 ai6 (R := fun n i ys => EZ n x0 i ys K) (Kf := fun ys => K (.ext 0) (OB ys)) (z := (0 : Int)) (fun n i ys hi hy => by
  show EZ (n + 1) x0 i ys K = _
  rw [RS, decide_eq_true (show ((i : Nat) : Int) < ((x0.length : Nat) : Int) by omega), decide_eq_true (show (0 : Int) ≤ ((i : Nat) : Int) by omega), decide_eq_true (show ((i : Nat) : Int) < ((ys.length : Nat) : Int) by omega), bY (show i ≤ 4611686018427387904 by omega)]
  rfl) (fun n ys hy => by
  show EZ (n + 1) x0 _ ys K = _
  rw [RS, decide_eq_false (show ¬ ((x0.length : Nat) : Int) < ((x0.length : Nat) : Int) by omega)]; rfl) o0 h2
theorem acS : dL UE (aA F.rM 3) := by
 refine wI (n := 3) (sh := FW) (R := UD) (by kernel_rfl) rfl rfl (fun d K r hr => ?_)
 obtain ⟨⟨x0, u1, u2, u3, x4, u4⟩, ⟨o0, u5⟩, u6⟩ := d
 unfold UD at hr
 simp only at hr
 cases hc : ((x4 == 0) && Nat.beq o0.length x0.length && (Cc.sl ah).lim x0) with
 | false => rw [hc] at hr; cases hr
 | true =>
  rw [hc] at hr
  simp only [Bool.and_eq_true, beq_iff_eq, Cc.lim] at hc
  obtain ⟨⟨rfl, h2⟩, h3, _⟩ := hc
  exact ⟨x0.length + 1, (ahH x0 o0 K (Nat.eq_of_beq_eq_true h2) (Nat.le_of_ble_eq_true h3)).trans hr⟩
noncomputable def UF := dS UE true F.rM
theorem ahI : aT prog I N.rM true UF := aU bn (by kernel_rfl) (by kernel_rfl) (by kernel_rfl) (by kernel_rfl) (cs := [aA F.rM 3]) (by kernel_rfl) (dw acS aJ)
theorem ahJ (a : List Int) (K : aj → Option aj) (h : (Cc.sl ah).lim a = true) : UF [.l .no ah a] K = K (.l .deep ah a, []) := by
  have e : UF [.l .no ah a] K =
   (bif ((((((((List.length a) : Nat) : Int) == (((List.length a) : Nat) : Int)) && decide ((0 : Int) ≤ (((List.length a) : Nat) : Int))) && decide (((Int.toNat (((List.length a) : Nat) : Int)) * 1) ≤ 140737488355328)) && decide ((((List.length a) : Nat) : Int) ≤ (4611686018427387904 : Int)))) then
    (bif ((0 : Int) == 0) && Nat.beq (List.replicate (Int.toNat (((List.length a) : Nat) : Int)) (0 : Int)).length a.length && (Cc.sl ah).lim a then K (.l .deep ah a, []) else none) else none) := by kernel_rfl
  rw [e, h]
  simp only [Cc.lim, Bool.and_eq_true] at h
  have h3 : a.length ≤ 1048576 := Nat.le_of_ble_eq_true h.1
  rw [decide_eq_true (show ((a.length : Nat) : Int) ≤ 4611686018427387904 by omega), decide_eq_true (show (0 : Int) ≤ ((a.length : Nat) : Int) by omega), Int.toNat_natCast, decide_eq_true (show a.length * 1 ≤ 140737488355328 by omega), List.length_replicate, beq_self_eq_true, beq_self_eq_true, Nat.beq_refl]
  rfl
theorem LV : aT prog I N.rM true (FT ah) := okW ahI (ae6 fun xs K h => ahJ xs K h)
def FX : Ss := { tm := (.cons (.l .no ah) (.cons (.l .no ah) (.cons (.x) (.cons (.x) (.cons (.x) (.cons (.int .i64) (Ed 20))))))), ob := .nil, nx := 0, io := .nil }
def ajU (x0 : List (Int)) (x1 : List (Int)) (x5 : Int) : FX.T := ((x0, (x1, ((), ((), ((), (x5, xd 20)))))), (), ())
def UG : St := { tm := ([] ++ List.replicate 26 .x), ob := [], nx := 0, io := [] }
def UH : St := { tm := ([.x, .x, .x, .x, (.s (.bool false))] ++ List.replicate 21 .x), ob := [], nx := 0, io := [] }
noncomputable def UJ (d : FX.T) (K : Ex → St → Option aj) : Option aj := match d with
 | ((x0, (x1, (_, (_, (_, (x5, _)))))), _, _) => bif (x5 == 0) && Nat.beq x1.length x0.length && Nat.ble x0.length 4611686018427387904 then (bif wG x0 x1 then K (.ext 0) UG else K .ret UH) else none
noncomputable def UK : Env := En [] [(6, takes [0, 1, 2, 3, 4, 5, 6, 7, 8], [])] [(4, [0,1,5], [4], oN FX UJ)]
noncomputable abbrev E5 (n : Nat) (x0 x1 : List Int) (x5 : Int) (K : Ex → St → Option aj) : Option aj := rounds (run UK (aA F.rJ 4)) [0,1,5] [4] n (FX.mk' (ajU x0 x1 x5)) K
theorem RU (n : Nat) (x0 : List (Int)) (x1 : List (Int)) (x5 : Int) (K : Ex → St → Option aj) : E5 (n + 1) x0 x1 x5 K =
 (bif decide (x5 < (((List.length x0) : Nat) : Int)) then
 (bif (decide ((0 : Int) ≤ x5) && decide (x5 < (((List.length x0) : Nat) : Int))) then
  (bif (decide ((0 : Int) ≤ x5) && decide (x5 < (((List.length x1) : Nat) : Int))) then
   (bif ((List.getD x0 (Int.toNat x5) ((0 : Nat) : Int)) != (List.getD x1 (Int.toNat x5) ((0 : Nat) : Int))) then
    K .ret UH
    else E5 n x0 x1 (IntKind.wrap .i64 (x5 + (1 : Int))) K)
   else none)
  else none)
 else K (.ext 0) UG) := by kernel_rfl
theorem ahK (x0 x1 : List Int) (K : Ex → St → Option aj) (h2 : x1.length = x0.length) (h3 : x0.length ≤ 4611686018427387904) : E5 (x0.length + 1) x0 x1 0 K = bif wG x0 x1 then K (.ext 0) UG else K .ret UH :=
 ai7 (R := fun n i => E5 n x0 x1 i K) (z := (0 : Int)) (e := fun a b => a == b) (fun a b => by simp) h2 (fun n i hi => by
  show E5 (n + 1) x0 x1 i K = _
  rw [RU, decide_eq_true (show ((i : Nat) : Int) < ((x0.length : Nat) : Int) by omega), decide_eq_true (show (0 : Int) ≤ ((i : Nat) : Int) by omega), decide_eq_true (show ((i : Nat) : Int) < ((x1.length : Nat) : Int) by omega), bY (show i ≤ 4611686018427387904 by omega), Int.toNat_natCast, bne]
  show (bif !(x0.getD i 0 == x1.getD i 0) then _ else _) = bif (x0.getD i 0 == x1.getD i 0) then _ else _
  cases (x0.getD i 0 == x1.getD i 0) <;> rfl) (fun n => by
  show E5 (n + 1) x0 x1 _ K = _
  rw [RU, decide_eq_false (show ¬ ((x0.length : Nat) : Int) < ((x0.length : Nat) : Int) by omega)]; rfl)
theorem acT : dL UK (aA F.rJ 4) := by
 refine wI (n := 4) (sh := FX) (R := UJ) (by kernel_rfl) rfl rfl (fun d K r hr => ?_)
 obtain ⟨⟨x0, x1, u1, u2, u3, x5, u4⟩, u5, u6⟩ := d
 unfold UJ at hr
 simp only at hr
 cases hc : ((x5 == 0) && Nat.beq x1.length x0.length && Nat.ble x0.length 4611686018427387904) with
 | false => rw [hc] at hr; cases hr
 | true =>
  rw [hc] at hr
  simp only [Bool.and_eq_true, beq_iff_eq] at hc
  obtain ⟨⟨rfl, h2⟩, h3⟩ := hc
  exact ⟨x0.length + 1, (ahK x0 x1 K (Nat.eq_of_beq_eq_true h2) (Nat.le_of_ble_eq_true h3)).trans hr⟩
noncomputable def UL := dS UK true F.rJ
theorem ahL : aT prog I N.rJ true UL := aU bn (by kernel_rfl) (by kernel_rfl) (by kernel_rfl) (by kernel_rfl) (cs := [aA F.rJ 4]) (by kernel_rfl) (dw acT aJ)
theorem ahM (a b : List Int) (K : aj → Option aj) (h : Nat.ble a.length 4611686018427387904 = true) : UL [.l .no ah a, .l .no ah b] K = K (bl (wG a b), []) := by
  have e : UL [.l .no ah a, .l .no ah b] K =
   (bif ((((List.length a) : Nat) : Int) != (((List.length b) : Nat) : Int)) then K (bl false, [])
    else bif ((0 : Int) == 0) && Nat.beq b.length a.length && Nat.ble a.length 4611686018427387904 then (bif wG a b then K (bl true, []) else K (bl false, [])) else none) := by kernel_rfl
  rw [e]
  by_cases hl : b.length = a.length
  · rw [hl, h, Nat.beq_refl]
    cases wG a b <;> simp
  · have h1 : ((((List.length a) : Nat) : Int) != (((List.length b) : Nat) : Int)) = true := by simp; omega
    rw [h1, lI (fun h' => hl (by rw [h']))]; rfl
theorem LW : aT prog I N.rJ true (Qb ah) := okW ahL (ai8 fun xs ys K h => by
 simp only [Cc.cnt, Bool.and_eq_true] at h
 exact ahM xs ys K h.1)
noncomputable def UM := dS (En []) true F.AU
theorem ahN : aT prog I N.AU true UM := aU bn (by kernel_rfl) (by kernel_rfl) (by kernel_rfl) (by kernel_rfl) (cs := []) (by kernel_rfl) aJ
theorem ahO (a : List Int) (k : Int) (K : aj → Option aj) (h0 : 0 ≤ k) (h1 : k ≤ 4611686018427387904) (h : a.length ≤ 9223372036854775807) : UM [.l .no ah a, .s (.int .i64 k)] K = K (sc (nY a.length k), []) := by
  have e : UM [.l .no ah a, .s (.int .i64 k)] K =
   (bif decide ((IntKind.wrap .i64 (k - (((List.length a) : Nat) : Int))) < (0 : Int)) then K (sc (-1), [])
    else K (sc (IntKind.wrap .i64 (k - (((List.length a) : Nat) : Int))), [])) := by kernel_rfl
  rw [e, wrap_in (by omega) (by omega)]
  unfold nY
  by_cases hc : k - ((a.length : Nat) : Int) < 0
  · rw [decide_eq_true hc, if_pos hc]; rfl
  · rw [decide_eq_false hc, if_neg hc]; rfl
theorem anK (xs : List Int) : (Cc.sl ah).w xs = xs.length := by
 have : ∀ ys : List Int, sumW ah.w ys = 0 := fun ys => by
  induction ys with
  | nil => rfl
  | cons y ys ih => simp only [sumW]; rw [ih]; rfl
 exact (congrArg (fun n => List.length xs + n) (this xs)).trans rfl
theorem LX : aT prog I N.AU true (FU ah) := okW ahN (YM fun xs l K h1 h2 => by
 simp only [oD, Cc.Dh, Bool.and_eq_true, decide_eq_true_eq] at h1 h2
 exact (ahO xs l K h1.1 h1.2 (Nat.le_of_ble_eq_true h2.1)).trans (congrArg (fun n => K (sc (nY n l), [])) (anK xs).symm))
def zu : Ss := { tm := (.cons (.w 0) (.cons (.int .i64) (.cons (.x) (.cons (.x) (.cons (.x) (.cons (.int .i64) (Ed 14))))))), ob := (.own true ah .nil), nx := 1, io := (.cons (.w 0) .nil) }
def ae8 (x1 : Int) (x5 : Int) (o0 : List (Int)) : zu.T := (((), (x1, ((), ((), ((), (x5, xd 14)))))), (o0, ()), ((), ()))
def Ht (x1 : Int) (o0 : List Int) : St := { tm := ([.x, (.s (.int .i64 x1))] ++ List.replicate 18 .x), ob := [(0, (.own true ah o0))], nx := 1, io := [(.w 0)] }
def ql (x : Int) (k : Int) : Int × Int := (IntKind.u8.wrap k, IntKind.i64.wrap (k + 1))
def LY (d : zu.T) (K : Ex → St → Option aj) : Option aj := match d with
 | ((_, (x1, (_, (_, (_, (x5, _)))))), (o0, _), _) => bif (x5 == 0) && Nat.ble o0.length 4611686018427387904 then K (.ext 0) (Ht (bC ql o0 x1).2 (bC ql o0 x1).1) else none
noncomputable def LZ : Env := En [] [] [(2, [0,1,5], [1], oN zu LY)] [] true
noncomputable abbrev yT (n : Nat) (x1 x5 : Int) (o0 : List Int) (K : Ex → St → Option aj) : Option aj := rounds (run LZ (aA F.fJ 2)) [0,1,5] [1] n (zu.mk' (ae8 x1 x5 o0)) K
theorem L6 (n : Nat) (x1 : Int) (x5 : Int) (o0 : List (Int)) (K : Ex → St → Option aj) : yT (n + 1) x1 x5 o0 K =
 (bif decide (x5 < (((List.length o0) : Nat) : Int)) then
 (bif (decide ((0 : Int) ≤ x5) && decide (x5 < (((List.length o0) : Nat) : Int))) then
  yT n (IntKind.wrap .i64 (x1 + (1 : Int))) (IntKind.wrap .i64 (x5 + (1 : Int))) (List.set o0 (Int.toNat x5) (IntKind.wrap .u8 x1)) K
  else none)
 else K (.ext 0) (Ht x1 o0)) := by kernel_rfl
theorem acU (x1 : Int) (o0 : List Int) (K : Ex → St → Option aj) (h3 : o0.length ≤ 4611686018427387904) : yT (o0.length + 1) x1 0 o0 K = K (.ext 0) (Ht (bC ql o0 x1).2 (bC ql o0 x1).1) :=
 ajQ (R := fun n i k ys => yT n k i ys K) (Kf := fun k ys => K (.ext 0) (Ht k ys)) (f := ql) (z := (0 : Int)) o0.length (fun n i k ys hi hy => by
  show yT (n + 1) k i ys K = _
  rw [L6, decide_eq_true (show ((i : Nat) : Int) < ((ys.length : Nat) : Int) by omega), decide_eq_true (show (0 : Int) ≤ ((i : Nat) : Int) by omega), bY (show i ≤ 4611686018427387904 by omega)]
  rfl) (fun n k ys hy => by
  show yT (n + 1) k _ ys K = _
  rw [L6, decide_eq_false (show ¬ ((o0.length : Nat) : Int) < ((ys.length : Nat) : Int) by omega)]; rfl) o0 rfl x1
theorem YO : dL LZ (aA F.fJ 2) := by
 refine wI (n := 2) (sh := zu) (R := LY) (by kernel_rfl) rfl rfl (fun d K r hr => ?_)
 obtain ⟨⟨u0, x1, u1, u2, u3, x5, u4⟩, ⟨o0, u5⟩, u6⟩ := d
 unfold LY at hr
 simp only at hr
 cases hc : ((x5 == 0) && Nat.ble o0.length 4611686018427387904) with
 | false => rw [hc] at hr; cases hr
 | true =>
  rw [hc] at hr
  simp only [Bool.and_eq_true, beq_iff_eq] at hc
  obtain ⟨rfl, h3⟩ := hc
  exact ⟨o0.length + 1, (acU x1 o0 K (Nat.le_of_ble_eq_true h3)).trans hr⟩
noncomputable def L8 := dS LZ true F.fJ
theorem acV : aT prog I N.fJ true L8 := aU bn (by kernel_rfl) (by kernel_rfl) (by kernel_rfl) (by kernel_rfl) (cs := [aA F.fJ 2]) (by kernel_rfl) (dw YO aJ)
theorem acW (a : List Int) (k : Int) (K : aj → Option aj) (h : Nat.ble a.length 4611686018427387904 = true) : L8 [.l .own ah a, .s (.int .i64 k)] K = K (sc (bC ql a k).2, [.l .own ah (bC ql a k).1]) := by
  have e : L8 [.l .own ah a, .s (.int .i64 k)] K =
   (bif ((0 : Int) == 0) && Nat.ble a.length 4611686018427387904 then K (sc (bC ql a k).2, [.l .own ah (bC ql a k).1]) else none) := by kernel_rfl
  rw [e, h]; rfl
theorem wK (T : dO) : aT prog I N.fJ true (ni T ah) := okW acV (YN fun xs k K h => by
 simp only [Cc.cnt, Bool.and_eq_true] at h
 exact acW xs k K h.1)
def zx : Ss := { tm := (.cons (.l .no ah) (.cons (.int .i64) (.cons (.x) (.cons (.x) (.cons (.x) (.cons (.int .i64) (Ed 16))))))), ob := .nil, nx := 0, io := .nil }
def ae9 (x0 : List (Int)) (x1 : Int) (x5 : Int) : zx.T := ((x0, (x1, ((), ((), ((), (x5, xd 16)))))), (), ())
def Hu (x1 : Int) : St := { tm := ([.x, (.s (.int .i64 x1))] ++ List.replicate 20 .x), ob := [], nx := 0, io := [] }
noncomputable def L9 (d : zx.T) (K : Ex → St → Option aj) : Option aj := match d with
 | ((x0, (x1, (_, (_, (_, (x5, _)))))), _, _) => bif (x5 == 0) && Nat.ble x0.length 4611686018427387904 && wG (bC ql x0 x1).1 x0 then K (.ext 0) (Hu (bC ql x0 x1).2) else none
noncomputable def Mc : Env := En [] [] [(2, [0,1,5], [1,4], oN zx L9)]
noncomputable abbrev yU (n : Nat) (x0 : List Int) (x1 x5 : Int) (K : Ex → St → Option aj) : Option aj := rounds (run Mc (aA F.pX 2)) [0,1,5] [1,4] n (zx.mk' (ae9 x0 x1 x5)) K
theorem Md (n : Nat) (x0 : List (Int)) (x1 : Int) (x5 : Int) (K : Ex → St → Option aj) : yU (n + 1) x0 x1 x5 K =
 (bif decide (x5 < (((List.length x0) : Nat) : Int)) then
 (bif (decide ((0 : Int) ≤ x5) && decide (x5 < (((List.length x0) : Nat) : Int))) then
  (bif ((List.getD x0 (Int.toNat x5) ((0 : Nat) : Int)) != (IntKind.wrap .u8 x1)) then
   K .ret { tm := ([.x, (.s (.int .i64 x1)), .x, .x, (.s (.int .i64 (-(1 : Int))))] ++ List.replicate 17 .x), ob := [], nx := 0, io := [] }
   else yU n x0 (IntKind.wrap .i64 (x1 + (1 : Int))) (IntKind.wrap .i64 (x5 + (1 : Int))) K)
  else none)
 else K (.ext 0) (Hu x1)) := by kernel_rfl
theorem acX (x0 : List Int) (x1 : Int) (K : Ex → St → Option aj) (h3 : x0.length ≤ 4611686018427387904) (hm : (bC ql x0 x1).1 = x0) : yU (x0.length + 1) x0 x1 0 K = K (.ext 0) (Hu (bC ql x0 x1).2) :=
 ajR (R := fun n i k => yU n x0 k i K) (Kf := fun k => K (.ext 0) (Hu k)) (f := ql) (z := (0 : Int)) (fun n i k hi hy => by
  show yU (n + 1) x0 k i K = _
  have hy' : IntKind.u8.wrap k = x0.getD i 0 := hy
  rw [Md, decide_eq_true (show ((i : Nat) : Int) < ((x0.length : Nat) : Int) by omega), decide_eq_true (show (0 : Int) ≤ ((i : Nat) : Int) by omega), bY (show i ≤ 4611686018427387904 by omega), Int.toNat_natCast, hy']
  show (bif (x0.getD i 0 != x0.getD i 0) then _ else _) = _
  rw [bne_self_eq_false]; rfl) (fun n k => by
  show yU (n + 1) x0 k _ K = _
  rw [Md, decide_eq_false (show ¬ ((x0.length : Nat) : Int) < ((x0.length : Nat) : Int) by omega)]; rfl) x1 hm
theorem YP : dL Mc (aA F.pX 2) := by
 refine wI (n := 2) (sh := zx) (R := L9) (by kernel_rfl) rfl rfl (fun d K r hr => ?_)
 obtain ⟨⟨x0, x1, u1, u2, u3, x5, u4⟩, u5, u6⟩ := d
 unfold L9 at hr
 simp only at hr
 cases hc : ((x5 == 0) && Nat.ble x0.length 4611686018427387904 && wG (bC ql x0 x1).1 x0) with
 | false => rw [hc] at hr; cases hr
 | true =>
  rw [hc] at hr
  simp only [Bool.and_eq_true, beq_iff_eq] at hc
  obtain ⟨⟨rfl, h3⟩, h4⟩ := hc
  exact ⟨x0.length + 1, (acX x0 x1 K (Nat.le_of_ble_eq_true h3) (JU.1 h4)).trans hr⟩
noncomputable def Me := dS Mc true F.pX
theorem acY : aT prog I N.pX true Me := aU bn (by kernel_rfl) (by kernel_rfl) (by kernel_rfl) (by kernel_rfl) (cs := [aA F.pX 2]) (by kernel_rfl) (dw YP aJ)
theorem acZ (a : List Int) (k : Int) (K : aj → Option aj) (h : Nat.ble a.length 4611686018427387904 = true) (hm : wG (bC ql a k).1 a = true) : Me [.l .no ah a, .s (.int .i64 k)] K = K (sc (bC ql a k).2, []) := by
  have e : Me [.l .no ah a, .s (.int .i64 k)] K =
   (bif ((0 : Int) == 0) && Nat.ble a.length 4611686018427387904 && wG (bC ql a k).1 a then K (sc (bC ql a k).2, []) else none) := by kernel_rfl
  rw [e, h, hm]; rfl
theorem aaE (T : dO) : aT prog I N.pX true (Ye T ah) := okW acY (ahF fun xs k K h0 h1 h2 h3 => by
 simp only [Cc.cnt, Bool.and_eq_true] at h1
 exact acZ xs k K h1.1 (JU.2 h0))
end Go.Ev.Seat
end
section
set_option linter.unusedVariables false
namespace Go.Ev
noncomputable abbrev CtL (Γ : Env) (c : Code) (li lo : List Nat) (n : Nat) (σ : St) (K : Ex → St → Option aj) : Option aj := rounds (run Γ c) li lo n σ K
section
variable {Γ : Env} {c : Code} {r : Rw} {n : Nat} {T : dO}
theorem getD_mem {α : Type} {xs : List α} {i : Nat} {z : α} (h : i < xs.length) : xs.getD i z ∈ xs := by
 rw [List.getD_eq_getElem?_getD, List.getElem?_eq_getElem h]; exact List.getElem_mem h
theorem YQ {α : Type} {xs : List α} {p : α → Bool} {i : Nat} {z : α} (h : xs.all p = true) (hi : i < xs.length) : p (xs.getD i z) = true := (List.all_eq_true.1 h) _ (getD_mem hi)
def YR (r : Rw) (n : Nat) : Ss := { tm := (.cons (.l .no r) (.cons .x (.cons .x (.cons (.w 0) (.cons (.int .i64) (Ed n)))))), ob := (.arr true true r .nil), nx := 1, io := .nil }
def dTo (r : Rw) (n : Nat) (x0 : List r.T) (x4 : Int) (o0 : List r.T) : (YR r n).T := ((x0, ((), ((), ((), (x4, xd n))))), (o0, ()), ())
def zTo (r : Rw) (n : Nat) (o0 : List r.T) : St := { tm := ([.x, .x, .x, (.w 0)] ++ List.replicate (n + 1) .x), ob := [(0, (.arr true true r o0))], nx := 1, io := [] }
def RTo (r : Rw) (n : Nat) (d : (YR r n).T) (K : Ex → St → Option aj) : Option aj := match d with
 | ((x0, (_, (_, (_, (x4, _))))), (o0, _), _) => bif (x4 == 0) && Nat.beq o0.length x0.length && (Cc.sl r).lim x0 then K (.ext 0) (zTo r n x0) else none
def aly (Γ : Env) (c : Code) (r : Rw) (n : Nat) : Prop := ∀ (m : Nat) (x0 : List r.T) (x4 : Int) (o0 : List r.T) (K : Ex → St → Option aj), CtL Γ c [0,3,4] [3] (m + 1) ((YR r n).mk' (dTo r n x0 x4 o0)) K =
  (bif decide (x4 < (((List.length x0) : Nat) : Int)) then
   (bif (decide ((0 : Int) ≤ x4) && decide (x4 < (((List.length x0) : Nat) : Int))) then
    (bif (r.lim (List.getD x0 (Int.toNat x4) r.dflt)) then
     (bif (decide ((0 : Int) ≤ x4) && decide (x4 < (((List.length o0) : Nat) : Int))) then
      CtL Γ c [0,3,4] [3] m ((YR r n).mk' (dTo r n x0 (IntKind.wrap .i64 (x4 + (1 : Int))) (List.set o0 (Int.toNat x4) (List.getD x0 (Int.toNat x4) r.dflt)))) K
      else none)
     else none)
    else none)
   else K (.ext 0) (zTo r n o0))
theorem apP (hs : aly Γ c r n) (x0 o0 : List r.T) (K : Ex → St → Option aj) (h2 : o0.length = x0.length) (h3 : x0.length ≤ 1048576) (h4 : x0.all r.lim = true) : CtL Γ c [0,3,4] [3] (x0.length + 1) ((YR r n).mk' (dTo r n x0 0 o0)) K = K (.ext 0) (zTo r n x0) :=
 ai6 (R := fun m i ys => CtL Γ c [0,3,4] [3] m ((YR r n).mk' (dTo r n x0 i ys)) K) (Kf := fun ys => K (.ext 0) (zTo r n ys)) (z := r.dflt) (fun m i ys hi hy => by
  have := hs m x0 i ys K
  refine this.trans ?_
  rw [decide_eq_true (show ((i : Nat) : Int) < ((x0.length : Nat) : Int) by omega), decide_eq_true (show (0 : Int) ≤ ((i : Nat) : Int) by omega), decide_eq_true (show ((i : Nat) : Int) < ((ys.length : Nat) : Int) by omega), bY (show i ≤ 4611686018427387904 by omega), Int.toNat_natCast, YQ h4 hi]
  rfl) (fun m ys hy => by
  refine (hs m x0 _ ys K).trans ?_
  rw [decide_eq_false (show ¬ ((x0.length : Nat) : Int) < ((x0.length : Nat) : Int) by omega)]; rfl) o0 h2
theorem Qd (hn : fH c = some 3) (hF : Γ.sum 3 = some (oN (YR r n) (RTo r n))) (hh : Γ.hint 3 = ([0,3,4], [3])) (hs : aly Γ c r n) : dL Γ c := by
 refine wI (n := 3) hn hF hh (fun d K q hr => ?_)
 obtain ⟨⟨x0, u1, u2, u3, x4, u4⟩, ⟨o0, u5⟩, u6⟩ := d
 unfold RTo at hr
 simp only at hr
 cases hc : ((x4 == 0) && Nat.beq o0.length x0.length && (Cc.sl r).lim x0) with
 | false => rw [hc] at hr; cases hr
 | true =>
  rw [hc] at hr
  simp only [Bool.and_eq_true, beq_iff_eq, Cc.lim] at hc
  obtain ⟨⟨rfl, h2⟩, h3, h4⟩ := hc
  refine ⟨x0.length + 1, Eq.trans ?_ hr⟩
  have he : u4 = xd n := afb u4
  subst he
  exact apP hs x0 o0 K (Nat.eq_of_beq_eq_true h2) (Nat.le_of_ble_eq_true h3) h4
where afb : {n : Nat} → (u : (Ed n).T) → u = xd n
 | 0, _ => rfl
 | n + 1, (_, u) => congrArg (Prod.mk ()) (afb u)
def anL (r : Rw) (n sz : Nat) (G : Sm) : Prop := ∀ (a : List r.T) (K : aj → Option aj), G [.l .no r a] K =
   (bif ((((((((List.length a) : Nat) : Int) == (((List.length a) : Nat) : Int)) && decide ((0 : Int) ≤ (((List.length a) : Nat) : Int))) && decide (((Int.toNat (((List.length a) : Nat) : Int)) * sz) ≤ 140737488355328)) && decide ((((List.length a) : Nat) : Int) ≤ (4611686018427387904 : Int)))) then
    (bif ((0 : Int) == 0) && Nat.beq (List.replicate (Int.toNat (((List.length a) : Nat) : Int)) r.dflt).length a.length && (Cc.sl r).lim a then K (.l .deep r a, []) else none) else none)
theorem amM {G : Sm} {sz : Nat} (h : anL r n sz G) (hz : Nat.ble sz 1024 = true) : ∀ ws K q, FT r ws K = some q → G ws K = some q := ae6 (fun a K hl => by
 rw [h, hl]
 simp only [Cc.lim, Bool.and_eq_true] at hl
 have h3 : a.length ≤ 1048576 := Nat.le_of_ble_eq_true hl.1
 have h5 : sz ≤ 1024 := Nat.le_of_ble_eq_true hz
 have h6 : a.length * sz ≤ 1048576 * 1024 := Nat.mul_le_mul h3 h5
 rw [decide_eq_true (show ((a.length : Nat) : Int) ≤ 4611686018427387904 by omega), decide_eq_true (show (0 : Int) ≤ ((a.length : Nat) : Int) by omega), Int.toNat_natCast, decide_eq_true (show a.length * sz ≤ 140737488355328 by omega), List.length_replicate, beq_self_eq_true, beq_self_eq_true, Nat.beq_refl]
 rfl)
def YS (r : Rw) (n : Nat) : Ss := { tm := (.cons (.l .no r) (.cons (.l .no r) (.cons (.x) (.cons (.x) (.cons (.x) (.cons (.int .i64) (Ed n))))))), ob := .nil, nx := 0, io := .nil }
def dEq (r : Rw) (n : Nat) (x0 x1 : List r.T) (x5 : Int) : (YS r n).T := ((x0, (x1, ((), ((), ((), (x5, xd n)))))), (), ())
def zEq (n : Nat) : St := { tm := ([] ++ List.replicate (n + 6) .x), ob := [], nx := 0, io := [] }
def yEq (n : Nat) : St := { tm := ([.x, .x, .x, .x, (.s (.bool false))] ++ List.replicate (n + 1) .x), ob := [], nx := 0, io := [] }
noncomputable def REq (r : Rw) (n : Nat) (d : (YS r n).T) (K : Ex → St → Option aj) : Option aj := match d with
 | ((x0, (x1, (_, (_, (_, (x5, _)))))), _, _) => bif (x5 == 0) && Nat.beq x1.length x0.length && (Cc.sl r).cnt x0 then (bif wG x0 x1 then K (.ext 0) (zEq n) else K .ret (yEq n)) else none
def alz (Γ : Env) (c : Code) (r : Rw) (n : Nat) : Prop := ∀ (m : Nat) (x0 x1 : List r.T) (x5 : Int) (K : Ex → St → Option aj), CtL Γ c [0,1,5] [4] (m + 1) ((YS r n).mk' (dEq r n x0 x1 x5)) K =
 (bif decide (x5 < (((List.length x0) : Nat) : Int)) then
 (bif (decide ((0 : Int) ≤ x5) && decide (x5 < (((List.length x0) : Nat) : Int))) then
  (bif (decide ((0 : Int) ≤ x5) && decide (x5 < (((List.length x1) : Nat) : Int))) then
   (bif (r.cnt (List.getD x0 (Int.toNat x5) r.dflt)) then
    (bif (!(wG (List.getD x0 (Int.toNat x5) r.dflt) (List.getD x1 (Int.toNat x5) r.dflt))) then
     K .ret (yEq n)
     else CtL Γ c [0,1,5] [4] m ((YS r n).mk' (dEq r n x0 x1 (IntKind.wrap .i64 (x5 + (1 : Int))))) K)
    else none)
   else none)
  else none)
 else K (.ext 0) (zEq n))
theorem goEq (hs : alz Γ c r n) (x0 x1 : List r.T) (K : Ex → St → Option aj) (h2 : x1.length = x0.length) (h3 : x0.length ≤ 4611686018427387904) (h4 : x0.all r.cnt = true) : CtL Γ c [0,1,5] [4] (x0.length + 1) ((YS r n).mk' (dEq r n x0 x1 0)) K = bif wG x0 x1 then K (.ext 0) (zEq n) else K .ret (yEq n) :=
 ai7 (R := fun m i => CtL Γ c [0,1,5] [4] m ((YS r n).mk' (dEq r n x0 x1 i)) K) (z := r.dflt) (e := wG) (fun a b => JU) h2 (fun m i hi => by
  refine (hs m x0 x1 i K).trans ?_
  rw [decide_eq_true (show ((i : Nat) : Int) < ((x0.length : Nat) : Int) by omega), decide_eq_true (show (0 : Int) ≤ ((i : Nat) : Int) by omega), decide_eq_true (show ((i : Nat) : Int) < ((x1.length : Nat) : Int) by omega), bY (show i ≤ 4611686018427387904 by omega), Int.toNat_natCast, YQ h4 hi]
  cases wG (x0.getD i r.dflt) (x1.getD i r.dflt) <;> rfl) (fun m => by
  refine (hs m x0 x1 _ K).trans ?_
  rw [decide_eq_false (show ¬ ((x0.length : Nat) : Int) < ((x0.length : Nat) : Int) by omega)]; rfl)
theorem ac0 (hn : fH c = some 4) (hF : Γ.sum 4 = some (oN (YS r n) (REq r n))) (hh : Γ.hint 4 = ([0,1,5], [4])) (hs : alz Γ c r n) : dL Γ c := by
 refine wI (n := 4) hn hF hh (fun d K q hr => ?_)
 obtain ⟨⟨x0, x1, u1, u2, u3, x5, u4⟩, u5, u6⟩ := d
 unfold REq at hr
 simp only at hr
 cases hc : ((x5 == 0) && Nat.beq x1.length x0.length && (Cc.sl r).cnt x0) with
 | false => rw [hc] at hr; cases hr
 | true =>
  rw [hc] at hr
  simp only [Bool.and_eq_true, beq_iff_eq, Cc.cnt] at hc
  obtain ⟨⟨rfl, h2⟩, h3, h4⟩ := hc
  refine ⟨x0.length + 1, Eq.trans ?_ hr⟩
  have he : u4 = xd n := Qd.afb u4
  subst he
  exact goEq hs x0 x1 K (Nat.eq_of_beq_eq_true h2) (Nat.le_of_ble_eq_true h3) h4
def anM (r : Rw) (G : Sm) : Prop := ∀ (a b : List r.T) (K : aj → Option aj), G [.l .no r a, .l .no r b] K =
   (bif ((((List.length a) : Nat) : Int) != (((List.length b) : Nat) : Int)) then K (bl false, [])
    else bif ((0 : Int) == 0) && Nat.beq b.length a.length && (Cc.sl r).cnt a then (bif wG a b then K (bl true, []) else K (bl false, [])) else none)
theorem amN {G : Sm} (h : anM r G) : ∀ ws K q, Qb r ws K = some q → G ws K = some q := ai8 (fun a b K hl => by
 rw [h, hl]
 by_cases hl : b.length = a.length
 ·rw [hl, Nat.beq_refl]
  cases wG a b <;> simp
 ·have h1 : ((((List.length a) : Nat) : Int) != (((List.length b) : Nat) : Int)) = true := by simp; omega
  rw [h1, lI (fun h' => hl (by rw [h']))]; rfl)
def aaF (r : Rw) (n : Nat) : Ss := { tm := (.cons (.l .no r) (.cons (.int .i64) (.cons (.x) (.cons (.x) (.cons (.x) (.cons (.int .i64) (Ed n))))))), ob := .nil, nx := 0, io := .nil }
def dSz (r : Rw) (n : Nat) (x0 : List r.T) (x1 : Int) (x5 : Int) : (aaF r n).T := ((x0, (x1, ((), ((), ((), (x5, xd n)))))), (), ())
def zSz (n : Nat) (x1 : Int) : St := { tm := ([.x, (.s (.int .i64 x1))] ++ List.replicate (n + 4) .x), ob := [], nx := 0, io := [] }
def ySz (n : Nat) (x1 : Int) : St := { tm := ([.x, (.s (.int .i64 x1)), .x, .x, (.s (.int .i64 (-(1 : Int))))] ++ List.replicate (n + 1) .x), ob := [], nx := 0, io := [] }
def RSz (r : Rw) (n : Nat) (d : (aaF r n).T) (K : Ex → St → Option aj) : Option aj := match d with
 | ((x0, (x1, (_, (_, (_, (x5, _)))))), _, _) => bif (x5 == 0) && oD x1 && (Nat.ble x0.length 4611686018427387904 && x0.all r.Dh) then (bif decide (x1 - sumW r.w x0 < 0) then K .ret (ySz n (-1)) else K (.ext 0) (zSz n (x1 - sumW r.w x0))) else none
def alA (Γ : Env) (c : Code) (r : Rw) (n : Nat) : Prop := ∀ (m : Nat) (x0 : List r.T) (x1 : Int) (x5 : Int) (K : Ex → St → Option aj), CtL Γ c [0,1,5] [1,4] (m + 1) ((aaF r n).mk' (dSz r n x0 x1 x5)) K =
 (bif decide (x5 < (((List.length x0) : Nat) : Int)) then
 (bif (decide ((0 : Int) ≤ x5) && decide (x5 < (((List.length x0) : Nat) : Int))) then
  (bif ((oD x1) && (r.Dh (List.getD x0 (Int.toNat x5) r.dflt))) then
   (bif decide ((nY (r.w (List.getD x0 (Int.toNat x5) r.dflt)) x1) < (0 : Int)) then
    K .ret (ySz n (nY (r.w (List.getD x0 (Int.toNat x5) r.dflt)) x1))
    else CtL Γ c [0,1,5] [1,4] m ((aaF r n).mk' (dSz r n x0 (nY (r.w (List.getD x0 (Int.toNat x5) r.dflt)) x1) (IntKind.wrap .i64 (x5 + (1 : Int))))) K)
   else none)
  else none)
 else K (.ext 0) (zSz n x1))
theorem ac1 {w : Nat} {l : Int} (h : l - w < 0) : nY w l = -1 := if_pos h
theorem ac2 {w : Nat} {l : Int} (h : ¬ l - w < 0) : nY w l = l - w := if_neg h
theorem ai9 {l : Int} (h0 : 0 ≤ l) (h1 : l ≤ 4611686018427387904) : oD l = true := by
 unfold oD; rw [decide_eq_true h0, decide_eq_true h1]; rfl
theorem apS (hs : alA Γ c r n) (x0 : List r.T) (x1 : Int) (K : Ex → St → Option aj) (h0 : 0 ≤ x1) (h1 : x1 ≤ 4611686018427387904) (h3 : x0.length ≤ 4611686018427387904) (h4 : x0.all r.Dh = true) : CtL Γ c [0,1,5] [1,4] (x0.length + 1) ((aaF r n).mk' (dSz r n x0 x1 0)) K = bif decide (x1 - sumW r.w x0 < 0) then K .ret (ySz n (-1)) else K (.ext 0) (zSz n (x1 - sumW r.w x0)) :=
 amL (R := fun m i l => CtL Γ c [0,1,5] [1,4] m ((aaF r n).mk' (dSz r n x0 l i)) K) (Kt := fun l => K (.ext 0) (zSz n l)) (Kf := K .ret (ySz n (-1))) (g := r.w) (z := r.dflt) (fun m i l hi h0 h1 => by
  refine (hs m x0 l i K).trans ?_
  rw [decide_eq_true (show ((i : Nat) : Int) < ((x0.length : Nat) : Int) by omega), decide_eq_true (show (0 : Int) ≤ ((i : Nat) : Int) by omega), bY (show i ≤ 4611686018427387904 by omega), Int.toNat_natCast, YQ h4 hi, ai9 h0 h1]
  by_cases e : l - (r.w (x0.getD i r.dflt) : Int) < 0
  ·rw [ac1 e, decide_eq_true e]; rfl
  ·rw [ac2 e, decide_eq_false e]; rfl) (fun m l h0 => by
  refine (hs m x0 l _ K).trans ?_
  rw [decide_eq_false (show ¬ ((x0.length : Nat) : Int) < ((x0.length : Nat) : Int) by omega)]; rfl) x1 h0 h1
theorem ahP (hn : fH c = some 5) (hF : Γ.sum 5 = some (oN (aaF r n) (RSz r n))) (hh : Γ.hint 5 = ([0,1,5], [1,4])) (hs : alA Γ c r n) : dL Γ c := by
 refine wI (n := 5) hn hF hh (fun d K q hr => ?_)
 obtain ⟨⟨x0, x1, u1, u2, u3, x5, u4⟩, u5, u6⟩ := d
 unfold RSz at hr
 simp only at hr
 cases hc : ((x5 == 0) && oD x1 && (Nat.ble x0.length 4611686018427387904 && x0.all r.Dh)) with
 | false => rw [hc] at hr; cases hr
 | true =>
  rw [hc] at hr
  simp only [Bool.and_eq_true, beq_iff_eq, oD, decide_eq_true_eq] at hc
  obtain ⟨⟨rfl, h1, h2⟩, h3, h4⟩ := hc
  refine ⟨x0.length + 1, Eq.trans ?_ hr⟩
  have he : u4 = xd n := Qd.afb u4
  subst he
  exact apS hs x0 x1 K h1 h2 (Nat.le_of_ble_eq_true h3) h4
def anN (r : Rw) (G : Sm) : Prop := ∀ (a : List r.T) (k : Int) (K : aj → Option aj), G [.l .no r a, .s (.int .i64 k)] K =
   (bif decide ((IntKind.wrap .i64 (k - (((List.length a) : Nat) : Int))) < (0 : Int)) then K (sc (-1), [])
    else (bif ((0 : Int) == 0) && oD (IntKind.wrap .i64 (k - (((List.length a) : Nat) : Int))) && (Nat.ble a.length 4611686018427387904 && a.all r.Dh) then (bif decide (IntKind.wrap .i64 (k - (((List.length a) : Nat) : Int)) - sumW r.w a < 0) then K (sc (-1), []) else K (sc (IntKind.wrap .i64 (k - (((List.length a) : Nat) : Int)) - sumW r.w a), [])) else none))
theorem anO {G : Sm} (h : anN r G) : ∀ ws K q, FU r ws K = some q → G ws K = some q := YM (fun a k K hk hl => by
 simp only [oD, Bool.and_eq_true, decide_eq_true_eq] at hk
 have hl' := hl
 simp only [Cc.Dh, Bool.and_eq_true] at hl'
 have h3 : a.length ≤ 9223372036854775807 := Nat.le_of_ble_eq_true hl'.1
 rw [h, hl'.2, wrap_in (by omega) (by omega), show (Cc.sl r).w a = a.length + sumW r.w a from rfl, ae5 hk.1]
 by_cases e : k - ((a.length : Nat) : Int) < 0
 ·rw [decide_eq_true e, ac1 e]; rfl
 ·rw [decide_eq_false e, ac2 e, ai9 (by omega) (by omega), Nat.ble_eq_true_of_le (show a.length ≤ 4611686018427387904 by omega), if_neg (by omega)]
  by_cases e2 : k - ((a.length : Nat) : Int) - sumW r.w a < 0
  ·rw [decide_eq_true e2, ac1 e2]; rfl
  ·rw [decide_eq_false e2, ac2 e2]; rfl)
def mkC {α ρ : Type} (T : dO) (z : α) (x5 : Int) : (c : Cc) → (get : α → c.T) → (put : α → c.T → α) → List α → Int → (List α → Int → Option ρ) → Option ρ
  | .sl r, get, put, o, k, n =>
    bif (decide ((0 : Int) ≤ x5) && decide (x5 < (((List.length o) : Nat) : Int))) then
     (bif decide (Int.toNat x5 < List.length o) then
      (bif (Cc.sl r).cnt (get (List.getD o (Int.toNat x5) z)) then
       n (List.set o (Int.toNat x5) (put (List.getD o (Int.toNat x5) z) ((Cc.sl r).mark T (get (List.getD o (Int.toNat x5) z)) k).1)) ((Cc.sl r).mark T (get (List.getD o (Int.toNat x5) z)) k).2
       else none)
      else none)
     else none
  | .int i, get, put, o, k, n =>
    bif (decide ((0 : Int) ≤ x5) && decide (x5 < (((List.length o) : Nat) : Int))) then
     n (List.set o (Int.toNat x5) (put (List.getD o (Int.toNat x5) z) (ai5 i k))) (IntKind.i64.wrap (k + 1))
     else none
  | _, _, _, _, _, _ => none
def mkR {α ρ : Type} (T : dO) (z : α) (x5 : Int) : (r : Rw) → (get : α → r.T) → (put : α → r.T → α) → List α → Int → (List α → Int → Option ρ) → Option ρ
 | .one c, get, put, o, k, n => mkC T z x5 c get put o k n
 | .cons c r, get, put, o, k, n => mkC T z x5 c (fun p => (get p).1) (fun p v => put p (v, (get p).2)) o k (fun o k => mkR T z x5 r (fun p => (get p).2) (fun p v => put p ((get p).1, v)) o k n)
def Cc.ac3 : Cc → Bool
 | .int _ => true
 | .sl _ => true
 | _ => false
def Rw.ac3 : Rw → Bool
 | .one c => c.ac3
 | .cons c r => c.ac3 && r.ac3
theorem Io {α : Type} {os : List α} {i : Nat} {v z : α} (h : i < os.length) : (os.set i v).getD i z = v := by
 rw [List.getD_eq_getElem?_getD, List.getElem?_set_self h]; rfl
theorem alB {α ρ : Type} {z : α} {os : List α} {i : Nat} (hi : i < os.length) : (c : Cc) → (get : α → c.T) → (put : α → c.T → α) → (hgp : ∀ p v, get (put p v) = v) → (v : α) → (k : Int) → (n : List α → Int → Option ρ) → c.ac3 = true → c.cnt (get v) = true → mkC T z (i : Nat) c get put (os.set i v) k n = n (os.set i (put v (c.mark T (get v) k).1)) (c.mark T (get v) k).2
 | .sl r, get, put, hgp, v, k, n, hm, hc => by
  have hc' : (Cc.sl r).cnt (get ((os.set i v).getD i z)) = true := by rw [Io hi]; exact hc
  simp only [mkC]
  rw [Int.toNat_natCast, hc', List.length_set, decide_eq_true (show (0 : Int) ≤ ((i : Nat) : Int) by omega), decide_eq_true (show ((i : Nat) : Int) < ((os.length : Nat) : Int) by omega), decide_eq_true hi, Io hi, List.set_set]
  rfl
 | .int _, get, put, hgp, v, k, n, hm, hc => by
  simp only [mkC]
  rw [Int.toNat_natCast, List.length_set, decide_eq_true (show (0 : Int) ≤ ((i : Nat) : Int) by omega), decide_eq_true (show ((i : Nat) : Int) < ((os.length : Nat) : Int) by omega), Io hi, List.set_set]
  rfl
 | .bool, _, _, _, _, _, _, hm, _ => by cases hm
 | .str, _, _, _, _, _, _, hm, _ => by cases hm
theorem alD {α ρ : Type} {z : α} {os : List α} {i : Nat} (hi : i < os.length) : (r : Rw) → (get : α → r.T) → (put : α → r.T → α) → (hgp : ∀ p v, get (put p v) = v) → (hpp : ∀ p v w, put (put p v) w = put p w) → (v : α) → (k : Int) → (n : List α → Int → Option ρ) → r.ac3 = true → r.cnt (get v) = true → mkR T z (i : Nat) r get put (os.set i v) k n = n (os.set i (put v (r.mark T (get v) k).1)) (r.mark T (get v) k).2
 | .one c, get, put, hgp, hpp, v, k, n, hm, hc => alB hi c get put hgp v k n hm hc
 | .cons c r, get, put, hgp, hpp, v, k, n, hm, hc => by
  simp only [Rw.ac3, Rw.cnt, Bool.and_eq_true] at hm hc
  simp only [mkR]
  rw [alB hi c _ _ (fun p v => by rw [hgp]) v k _ hm.1 hc.1]
  rw [alD hi r _ _ (fun p v => by rw [hgp]) (fun p v w => by rw [hgp, hpp]) _ _ n hm.2 (by rw [hgp]; exact hc.2)]
  simp only [hgp, hpp]
  rfl
def Xb (r : Rw) (n : Nat) : Ss := { tm := (.cons (.w 0) (.cons (.int .i64) (.cons (.x) (.cons (.x) (.cons (.x) (.cons (.int .i64) (Ed n))))))), ob := (.own true r .nil), nx := 1, io := (.cons (.w 0) .nil) }
def dMk (r : Rw) (n : Nat) (x1 : Int) (x5 : Int) (o0 : List r.T) : (Xb r n).T := (((), (x1, ((), ((), ((), (x5, xd n)))))), (o0, ()), ((), ()))
def zMk (r : Rw) (n : Nat) (x1 : Int) (o0 : List r.T) : St := { tm := ([.x, (.s (.int .i64 x1))] ++ List.replicate (n + 4) .x), ob := [(0, (.own true r o0))], nx := 1, io := [(.w 0)] }
def RMk (T : dO) (r : Rw) (n : Nat) (d : (Xb r n).T) (K : Ex → St → Option aj) : Option aj := match d with
 | ((_, (x1, (_, (_, (_, (x5, _)))))), (o0, _), _) => bif (x5 == 0) && (Cc.sl r).cnt o0 then K (.ext 0) (zMk r n ((Cc.sl r).mark T o0 x1).2 ((Cc.sl r).mark T o0 x1).1) else none
def alE (T : dO) (Γ : Env) (c : Code) (r : Rw) (n : Nat) : Prop := ∀ (m : Nat) (x1 : Int) (x5 : Int) (o0 : List r.T) (K : Ex → St → Option aj), CtL Γ c [0,1,5] [1] (m + 1) ((Xb r n).mk' (dMk r n x1 x5 o0)) K =
 (bif decide (x5 < (((List.length o0) : Nat) : Int)) then
  mkR T r.dflt x5 r id (fun _ v => v) o0 x1 (fun o k => CtL Γ c [0,1,5] [1] m ((Xb r n).mk' (dMk r n k (IntKind.wrap .i64 (x5 + (1 : Int))) o)) K)
  else K (.ext 0) (zMk r n x1 o0))
theorem ahQ {α ρ : Type} {R : Nat → Int → Int → List α → ρ} {Kf : Int → List α → ρ} {f : α → Int → α × Int} {z : α} {p : α → Bool} (n : Nat)
  (hs : ∀ m (i : Nat) k (ys : List α), i < n → ys.length = n → p (ys.getD i z) = true → R (m + 1) i k ys = R m ((i + 1 : Nat) : Int) (f (ys.getD i z) k).2 (ys.set i (f (ys.getD i z) k).1))
  (he : ∀ m k (ys : List α), ys.length = n → R (m + 1) (n : Nat) k ys = Kf k ys) (xs : List α) (hx : xs.length = n) (hp : xs.all p = true) (k : Int) : R (n + 1) 0 k xs = Kf (bC f xs k).2 (bC f xs k).1 := by
 have key : ∀ (j i : Nat) (k : Int) (pre suf : List α), pre.length = i → (pre ++ suf).length = n → i + j = n → suf.all p = true → R (j + 1) i k (pre ++ suf) = Kf (bC f suf k).2 (pre ++ (bC f suf k).1) := by
  intro j
  induction j with
  | zero =>
   intro i k pre suf hp hn hi _
   have hs0 : suf = [] := by
    cases suf with
    | nil => rfl
    | cons x xs => simp at hn; omega
   subst hs0
   have : i = n := by omega
   subst this
   rw [he 0 k _ hn]; rfl
  | succ j ih =>
   intro i k pre suf hp hn hi ha
   cases suf with
   | nil => simp at hn; omega
   | cons x suf =>
    simp only [List.all_cons, Bool.and_eq_true] at ha
    have hg : (pre ++ x :: suf).getD i z = x := by
     rw [List.getD_eq_getElem?_getD, List.getElem?_append_right (by omega), hp, Nat.sub_self]; rfl
    rw [hs _ i k _ (by omega) hn (by rw [hg]; exact ha.1)]
    have hset : (pre ++ x :: suf).set i (f x k).1 = (pre ++ [(f x k).1]) ++ suf := by
     rw [List.set_append_right _ _ (by omega), hp, Nat.sub_self]; simp
    rw [hg, hset, ih (i + 1) (f x k).2 (pre ++ [(f x k).1]) suf (by simp [hp]) (by simpa using hn) (by omega) ha.2]
    simp [bC]
 have := key n 0 k [] xs rfl (by simpa using hx) (by omega) hp
 simpa using this
theorem aaG {α : Type} {xs : List α} {i : Nat} {z : α} (h : i < xs.length) : xs.set i (xs.getD i z) = xs := by
 rw [List.getD_eq_getElem?_getD, List.getElem?_eq_getElem h]; simp
theorem apT (hm : r.ac3 = true) (hs : alE T Γ c r n) (x1 : Int) (o0 : List r.T) (K : Ex → St → Option aj) (h3 : o0.length ≤ 4611686018427387904) (h4 : o0.all r.cnt = true) : CtL Γ c [0,1,5] [1] (o0.length + 1) ((Xb r n).mk' (dMk r n x1 0 o0)) K = K (.ext 0) (zMk r n ((Cc.sl r).mark T o0 x1).2 ((Cc.sl r).mark T o0 x1).1) :=
 ahQ (R := fun m i k ys => CtL Γ c [0,1,5] [1] m ((Xb r n).mk' (dMk r n k i ys)) K) (Kf := fun k ys => K (.ext 0) (zMk r n k ys)) (f := r.mark T) (z := r.dflt) (p := r.cnt) o0.length (fun m i k ys hi hy hp => by
  refine (hs m k i ys K).trans ?_
  rw [decide_eq_true (show ((i : Nat) : Int) < ((ys.length : Nat) : Int) by omega), bY (show i ≤ 4611686018427387904 by omega)]
  have := alD (T := T) (z := r.dflt) (os := ys) (i := i) (by omega) r id (fun _ v => v) (fun _ _ => rfl) (fun _ _ _ => rfl) (ys.getD i r.dflt) k (fun o k => CtL Γ c [0,1,5] [1] m ((Xb r n).mk' (dMk r n k ((i + 1 : Nat) : Int) o)) K) hm hp
  rw [aaG (by omega)] at this
  exact this) (fun m k ys hy => by
  refine (hs m k _ ys K).trans ?_
  rw [decide_eq_false (show ¬ ((o0.length : Nat) : Int) < ((ys.length : Nat) : Int) by omega)]; rfl) o0 rfl h4 x1
theorem ac4 (hn : fH c = some 2) (hF : Γ.sum 2 = some (oN (Xb r n) (RMk T r n))) (hh : Γ.hint 2 = ([0,1,5], [1])) (hm : r.ac3 = true) (hs : alE T Γ c r n) : dL Γ c := by
 refine wI (n := 2) hn hF hh (fun d K q hr => ?_)
 obtain ⟨⟨u0, x1, u1, u2, u3, x5, u4⟩, ⟨o0, u5⟩, u6⟩ := d
 unfold RMk at hr
 simp only at hr
 cases hc : ((x5 == 0) && (Cc.sl r).cnt o0) with
 | false => rw [hc] at hr; cases hr
 | true =>
  rw [hc] at hr
  simp only [Bool.and_eq_true, beq_iff_eq, Cc.cnt] at hc
  obtain ⟨rfl, h3, h4⟩ := hc
  refine ⟨o0.length + 1, Eq.trans ?_ hr⟩
  have he : u4 = xd n := Qd.afb u4
  subst he
  exact apT hm hs x1 o0 K (Nat.le_of_ble_eq_true h3) h4
def anP (T : dO) (r : Rw) (G : Sm) : Prop := ∀ (a : List r.T) (k : Int) (K : aj → Option aj), G [.l .own r a, .s (.int .i64 k)] K =
   (bif ((0 : Int) == 0) && (Cc.sl r).cnt a then K (sc ((Cc.sl r).mark T a k).2, [.l .own r ((Cc.sl r).mark T a k).1]) else none)
theorem amO {G : Sm} (h : anP T r G) : ∀ ws K q, ni T r ws K = some q → G ws K = some q := YN (fun a k K hl => by
 rw [h, hl]; rfl)
end
end Go.Ev
end
section
namespace Go.Ev.Seat
open Go.RowKit
abbrev rX : Rw := .one (.sl ah)
abbrev ay : Rw := .cons (.int .i64) (.cons (.int .i64) (.one (.sl ah)))
abbrev UN : Rw := .cons (.int .i64) (.one (.int .i64))
abbrev aI : Rw := .cons (.int .i64) (.cons (.int .i64) (.cons (.int .i64) (.one (.int .i64))))
abbrev kF : Rw := .cons (.sl ay) (.one (.sl ay))
abbrev dJ : Rw := .cons (.int .i64) (.cons (.int .i64) (.cons (.int .i64) (.cons (.int .i64) (.cons (.int .i64) (.one (.sl ah))))))
abbrev aH : Rw := .cons (.int .i64) (.cons (.int .i64) (.cons (.int .i64) (.one (.sl ah))))
abbrev aF : Rw := .cons (.int .i64) (.cons (.int .i64) (.cons (.int .i64) (.cons (.sl ay) (.one (.sl ay)))))
abbrev bT : Rw := .cons (.sl ah) (.cons (.sl ah) (.cons (.sl aH) (.cons (.int .i64) (.cons (.sl aF) (.one (.sl aI))))))
abbrev ak : Type := Int × Int × List Int
abbrev alF : Type := Int × Int
abbrev au : Type := Int × Int × Int × Int
abbrev OC : Type := List ak × List ak
abbrev oO : Type := Int × Int × Int × Int × Int × List Int
abbrev aC : Type := Int × Int × Int × List Int
abbrev aB : Type := Int × Int × Int × List ak × List ak
abbrev eU : Type := List Int × List Int × List aC × Int × List aB × List au
end Go.Ev.Seat
end
section
namespace Go.Ev.Seat
open Go.RowKit
set_option maxRecDepth 100000
set_option linter.unusedVariables false
set_option linter.unusedSimpArgs false
noncomputable def afc := dS (En [(N.rM, true, FT ah)] []) true F.Jj
theorem ajV : aT prog I N.Jj true (afc) := aU (bf LV bn) (by kernel_rfl) (by kernel_rfl) (by kernel_rfl) (by kernel_rfl) (cs := []) (by kernel_rfl) aJ
theorem YT : aT prog I N.Jj true (zo ay) := okW ajV (Di fun d K h => by
 obtain ⟨x0, x1, x2⟩ := d
 have h0 : (true && (true && (Cc.sl ah).lim x2)) = true := h
 try simp only [Bool.true_and, Bool.and_true, Bool.and_eq_true] at h0
 have c2 := h0
 have e : afc [.a (ay.cells .no (x0, x1, x2))] K = (bif (Cc.sl ah).lim x2 then K (.a (ay.cells .deep (x0, x1, x2)), []) else none) := by kernel_rfl
 exact e.trans (bZ c2 rfl))
noncomputable def afd := dS (En [(N.rJ, true, Qb ah)] []) true F.Fp
theorem ajW : aT prog I N.Fp true (afd) := aU (bf LW bn) (by kernel_rfl) (by kernel_rfl) (by kernel_rfl) (by kernel_rfl) (cs := []) (by kernel_rfl) aJ
theorem Qe : aT prog I N.Fp true (yS ay) := okW ajW (Dj fun d e K h => by
 obtain ⟨x0, x1, x2⟩ := d
 obtain ⟨y0, y1, y2⟩ := e
 have h0 : (true && (true && (Cc.sl ah).cnt x2)) = true := h
 try simp only [Bool.true_and, Bool.and_true, Bool.and_eq_true] at h0
 have c2 := h0
 have e : afd [.a (ay.cells .no (x0, x1, x2)), .a (ay.cells .no (y0, y1, y2))] K = (bif (x0 != y0) then K (bl false, []) else (bif (x1 != y1) then K (bl false, []) else (bif (Cc.sl ah).cnt x2 then (bif !(wG x2 y2) then K (bl false, []) else K (bl true, [])) else none))) := by kernel_rfl
 exact e.trans (Hr (Hr (OA c2))))
noncomputable def afe := dS (En [(N.AU, true, FU ah)] []) true F.Jg
theorem ajX : aT prog I N.Jg true (afe) := aU (bf LX bn) (by kernel_rfl) (by kernel_rfl) (by kernel_rfl) (by kernel_rfl) (cs := []) (by kernel_rfl) aJ
theorem YU : aT prog I N.Jg true (FV ay) := okW ajX (Jo fun d l K hl0 h => by
 obtain ⟨x0, x1, x2⟩ := d
 have h0 : (true && (true && (Cc.sl ah).Dh x2)) = true := h
 try simp only [Bool.true_and, Bool.and_true, Bool.and_eq_true] at h0
 have c2 := h0
 have e : afe [.a (ay.cells .no (x0, x1, x2)), .s (.int .i64 l)] K = (bif oD l && (Cc.sl ah).Dh x2 then (bif decide (nY ((Cc.sl ah).w x2) l < 0) then K (sc (-1), []) else K (sc (nY ((Cc.sl ah).w x2) l), [])) else none) := by kernel_rfl
 have hw : ((Cc.sl ah).w x2 + 0) = ay.w (x0, x1, x2) := by
  show ((Cc.sl ah).w x2 + 0) = (0 + (0 + (Cc.sl ah).w x2))
  omega
 refine (e.trans (zq (K := fun n => K (sc n, [])) (w2 := 0) (wt := ((Cc.sl ah).w x2 + 0)) hl0 c2 rfl (fun hl1 => UC (K := fun n => K (sc n, [])) hl1))).trans ?_
 exact congrArg (fun n => K (sc (nY n l), [])) hw)
noncomputable def YV (T : dO) := dS (En [(N.fJ, true, ni T ah)] [] [] [N.fJ] true) true F.AQ
theorem aff (T : dO) : aT prog I N.AQ true (YV T) := aU (bf (wK T) bn) (by kernel_rfl) (by kernel_rfl) (by kernel_rfl) (by kernel_rfl) (cs := []) (by kernel_rfl) aJ
theorem ac5 (T : dO) : aT prog I N.AQ true (Hq T ay) := okW (aff T) (Qc fun d k K h => by
 obtain ⟨x0, x1, x2⟩ := d
 have h0 : (true && (true && (Cc.sl ah).cnt x2)) = true := h
 try simp only [Bool.true_and, Bool.and_true, Bool.and_eq_true] at h0
 have c2 := h0
 have e : YV T [.a (ay.cells .own (x0, x1, x2)), .s (.int .i64 k)] K = (bif (Cc.sl ah).cnt x2 then K (sc (ay.bU T (x0, x1, x2) k).2, [.a (ay.cells .own (ay.bU T (x0, x1, x2) k).1)]) else none) := by kernel_rfl
 exact e.trans (bZ c2 rfl))
noncomputable def YW (T : dO) := dS (En [(N.pX, true, Ye T ah)] []) true F.Fq
theorem afg (T : dO) : aT prog I N.Fq true (YW T) := aU (bf (aaE T) bn) (by kernel_rfl) (by kernel_rfl) (by kernel_rfl) (by kernel_rfl) (cs := []) (by kernel_rfl) aJ
theorem ac6 (T : dO) : aT prog I N.Fq true (Yf T ay) := okW (afg T) (ahG fun d k K hm h hk hle => by
 obtain ⟨x0, x1, x2⟩ := d
 have h0 : (true && (true && (Cc.sl ah).cnt x2)) = true := h
 try simp only [Bool.true_and, Bool.and_true, Bool.and_eq_true] at h0
 have c2 := h0
 have ht : k + (((0 + (0 + (Cc.sl ah).marks x2)) : Nat) : Int) ≤ 4611686018427387904 := hle
 have p0 : 0 ≤ k := by omega
 have q0 : k + (((Cc.sl ah).marks x2 : Nat) : Int) ≤ 4611686018427387904 := by omega
 have m0 := Cc.FQ T (.sl ah) x2 k p0 q0
 have e0 : ((Cc.sl ah).mark T x2 k).1 = x2 := congrArg (fun p : ay.T => p.2.2) hm
 have e : YW T [.a (ay.cells .no (x0, x1, x2)), .s (.int .i64 k)] K = (bif (wG ((Cc.sl ah).mark T x2 k).1 x2) && ((Cc.sl ah).cnt x2 && decide ((0 : Int) ≤ k) && decide (k + (((Cc.sl ah).marks x2 : Nat) : Int) ≤ 4611686018427387904)) then (bif decide (((Cc.sl ah).mark T x2 k).2 < 0) then K (sc (-1), []) else K (sc ((Cc.sl ah).mark T x2 k).2, [])) else none) := by kernel_rfl
 exact e.trans (ajS (JU.2 e0) c2 p0 q0 m0 rfl))
noncomputable def ajY := dS (En [(N.Jj, true, zo ay)] [] [(3, [0,3,4], [3], oN (YR ay 18) (RTo ay 18))]) true F.EU
theorem ahR : aT prog I N.EU true ajY := aU (bf YT bn) (by kernel_rfl) (by kernel_rfl) (by kernel_rfl) (by kernel_rfl) (cs := [aA F.EU 3]) (by kernel_rfl) (dw (Qd (r := ay) (n := 18) (by kernel_rfl) rfl rfl (fun m x0 x4 o0 K => by kernel_rfl)) aJ)
theorem afh : aT prog I N.EU true (FT ay) := okW ahR (amM (n := 18) (sz := 40) (fun a K => by kernel_rfl) rfl)
noncomputable def ajZ := dS (En [(N.Fp, true, yS ay)] [(6, takeB [0, 1, 2, 3, 4, 5, 6, 7] (.fork (.one 8 (takes [9]))), [])] [(4, [0,1,5], [4], oN (YS ay 21) (REq ay 21))]) true F.EJ
theorem ahS : aT prog I N.EJ true ajZ := aU (bf Qe bn) (by kernel_rfl) (by kernel_rfl) (by kernel_rfl) (by kernel_rfl) (cs := [aA F.EJ 4]) (by kernel_rfl) (dw (ac0 (r := ay) (n := 21) (by kernel_rfl) rfl rfl (fun m x0 x1 x5 K => by kernel_rfl)) aJ)
theorem afi : aT prog I N.EJ true (Qb ay) := okW ahS (amN (fun a b K => by kernel_rfl))
noncomputable def aj0 := dS (En [(N.Jg, true, FV ay)] [] [(5, [0,1,5], [1,4], oN (aaF ay 21) (RSz ay 21))]) true F.ET
theorem ahT : aT prog I N.ET true aj0 := aU (bf YU bn) (by kernel_rfl) (by kernel_rfl) (by kernel_rfl) (by kernel_rfl) (cs := [aA F.ET 5]) (by kernel_rfl) (dw (ahP (r := ay) (n := 21) (by kernel_rfl) rfl rfl (fun m x0 x1 x5 K => by kernel_rfl)) aJ)
theorem afj : aT prog I N.ET true (FU ay) := okW ahT (anO (fun a k K => by kernel_rfl))
noncomputable def afk (T : dO) := dS (En [(N.fJ, true, ni T ah)] [] [(2, [0,1,5], [1], oN (Xb ay 28) (RMk T ay 28))] [N.fJ] true) true F.tZ
theorem ac7 (T : dO) : aT prog I N.tZ true (afk T) := aU (bf (wK T) bn) (by kernel_rfl) (by kernel_rfl) (by kernel_rfl) (by kernel_rfl) (cs := [aA F.tZ 2]) (by kernel_rfl) (dw (ac4 (T := T) (r := ay) (n := 28) (by kernel_rfl) rfl rfl rfl (fun m x1 x5 o0 K => by kernel_rfl)) aJ)
theorem aaH (T : dO) : aT prog I N.tZ true (ni T ay) := okW (ac7 T) (amO (fun a k K => by kernel_rfl))
end Go.Ev.Seat
end
section
namespace Go.Ev.Seat
open Go.RowKit
set_option maxRecDepth 100000
set_option linter.unusedVariables false
set_option linter.unusedSimpArgs false
noncomputable def aja := dS (En [] []) true F.RI
theorem alG : aT prog I N.RI true (aja) := aU bn (by kernel_rfl) (by kernel_rfl) (by kernel_rfl) (by kernel_rfl) (cs := []) (by kernel_rfl) aJ
theorem aj1 : aT prog I N.RI true (zo UN) := okW alG (Di fun d K h => by
 obtain ⟨x0, x1⟩ := d
 have h0 : (true && true) = true := h
 have e : aja [.a (UN.cells .no (x0, x1))] K = K (.a (UN.cells .deep (x0, x1)), []) := by kernel_rfl
 exact e.trans rfl)
noncomputable def ajb := dS (En [] []) true F.RH
theorem alH : aT prog I N.RH true (ajb) := aU bn (by kernel_rfl) (by kernel_rfl) (by kernel_rfl) (by kernel_rfl) (cs := []) (by kernel_rfl) aJ
theorem aj2 : aT prog I N.RH true (yS UN) := okW alH (Dj fun d e K h => by
 obtain ⟨x0, x1⟩ := d
 obtain ⟨y0, y1⟩ := e
 have h0 : (true && true) = true := h
 have e : ajb [.a (UN.cells .no (x0, x1)), .a (UN.cells .no (y0, y1))] K = (bif (x0 != y0) then K (bl false, []) else (bif (x1 != y1) then K (bl false, []) else K (bl true, []))) := by kernel_rfl
 exact e.trans (Hr alv))
end Go.Ev.Seat
end
section
namespace Go.Ev.Seat
open Go.RowKit
set_option maxRecDepth 100000
set_option linter.unusedVariables false
set_option linter.unusedSimpArgs false
noncomputable def ab3 := dS (En [] []) true F.Jc
theorem ahU : aT prog I N.Jc true (ab3) := aU bn (by kernel_rfl) (by kernel_rfl) (by kernel_rfl) (by kernel_rfl) (cs := []) (by kernel_rfl) aJ
theorem afl : aT prog I N.Jc true (zo aI) := okW ahU (Di fun d K h => by
 obtain ⟨x0, x1, x2, x3⟩ := d
 have h0 : (true && (true && (true && true))) = true := h
 have e : ab3 [.a (aI.cells .no (x0, x1, x2, x3))] K = K (.a (aI.cells .deep (x0, x1, x2, x3)), []) := by kernel_rfl
 exact e.trans rfl)
noncomputable def ab4 := dS (En [] []) true F.Jd
theorem ahV : aT prog I N.Jd true (ab4) := aU bn (by kernel_rfl) (by kernel_rfl) (by kernel_rfl) (by kernel_rfl) (cs := []) (by kernel_rfl) aJ
theorem afm : aT prog I N.Jd true (yS aI) := okW ahV (Dj fun d e K h => by
 obtain ⟨x0, x1, x2, x3⟩ := d
 obtain ⟨y0, y1, y2, y3⟩ := e
 have h0 : (true && (true && (true && true))) = true := h
 have e : ab4 [.a (aI.cells .no (x0, x1, x2, x3)), .a (aI.cells .no (y0, y1, y2, y3))] K = (bif (x0 != y0) then K (bl false, []) else (bif (x1 != y1) then K (bl false, []) else (bif (x2 != y2) then K (bl false, []) else (bif (x3 != y3) then K (bl false, []) else K (bl true, []))))) := by kernel_rfl
 exact e.trans (Hr (Hr (Hr alv))))
noncomputable def ahW := dS (En [(N.Jc, true, zo aI)] [] [(3, [0,3,4], [3], oN (YR aI 18) (RTo aI 18))]) true F.AV
theorem afn : aT prog I N.AV true ahW := aU (bf afl bn) (by kernel_rfl) (by kernel_rfl) (by kernel_rfl) (by kernel_rfl) (cs := [aA F.AV 3]) (by kernel_rfl) (dw (Qd (r := aI) (n := 18) (by kernel_rfl) rfl rfl (fun m x0 x4 o0 K => by kernel_rfl)) aJ)
theorem ac8 : aT prog I N.AV true (FT aI) := okW afn (amM (n := 18) (sz := 32) (fun a K => by kernel_rfl) rfl)
noncomputable def ahX := dS (En [(N.Jd, true, yS aI)] [(6, takeB [0, 1, 2, 3, 4, 5, 6, 7] (.fork (.one 8 (takes [9]))), [])] [(4, [0,1,5], [4], oN (YS aI 21) (REq aI 21))]) true F.AX
theorem afo : aT prog I N.AX true ahX := aU (bf afm bn) (by kernel_rfl) (by kernel_rfl) (by kernel_rfl) (by kernel_rfl) (cs := [aA F.AX 4]) (by kernel_rfl) (dw (ac0 (r := aI) (n := 21) (by kernel_rfl) rfl rfl (fun m x0 x1 x5 K => by kernel_rfl)) aJ)
theorem ac9 : aT prog I N.AX true (Qb aI) := okW afo (amN (fun a b K => by kernel_rfl))
noncomputable def YX := dS (En []) true F.Fv
theorem afp : aT prog I N.Fv true YX := aU bn (by kernel_rfl) (by kernel_rfl) (by kernel_rfl) (by kernel_rfl) (cs := []) (by kernel_rfl) aJ
theorem amP (xs : List aI.T) : (Cc.sl aI).w xs = xs.length := by
 have : ∀ ys : List aI.T, sumW aI.w ys = 0 := fun ys => by
  induction ys with
  | nil => rfl
  | cons y ys ih => simp only [sumW]; rw [ih]; rfl
 exact (congrArg (fun n => List.length xs + n) (this xs)).trans rfl
theorem ada : aT prog I N.Fv true (FU aI) := okW afp (YM fun a k K h1 h2 => by
  simp only [oD, Cc.Dh, Bool.and_eq_true, decide_eq_true_eq] at h1 h2
  have h3 := Nat.le_of_ble_eq_true h2.1
  have e : YX [.l .no aI a, .s (.int .i64 k)] K =
   (bif decide ((IntKind.wrap .i64 (k - (((List.length a) : Nat) : Int))) < (0 : Int)) then K (sc (-1), [])
    else K (sc (IntKind.wrap .i64 (k - (((List.length a) : Nat) : Int))), [])) := by kernel_rfl
  rw [e, wrap_in (by omega) (by omega), amP a]
  unfold nY
  by_cases hc : k - ((a.length : Nat) : Int) < 0
  · rw [decide_eq_true hc, if_pos hc]; rfl
  · rw [decide_eq_false hc, if_neg hc]; rfl)
noncomputable def adb (T : dO) := dS (En [] [] [(2, [0,1,5], [1], oN (Xb aI 35) (RMk T aI 35))] [] true) true F.qj
theorem aaI (T : dO) : aT prog I N.qj true (adb T) := aU bn (by kernel_rfl) (by kernel_rfl) (by kernel_rfl) (by kernel_rfl) (cs := [aA F.qj 2]) (by kernel_rfl) (dw (ac4 (T := T) (r := aI) (n := 35) (by kernel_rfl) rfl rfl rfl (fun m x1 x5 o0 K => by kernel_rfl)) aJ)
theorem YZ (T : dO) : aT prog I N.qj true (ni T aI) := okW (aaI T) (amO (fun a k K => by kernel_rfl))
end Go.Ev.Seat
end
section
namespace Go.Ev.Seat
open Go.RowKit
set_option maxRecDepth 100000
set_option linter.unusedVariables false
set_option linter.unusedSimpArgs false
noncomputable def ab5 := dS (En [(N.EU, true, FT ay)] []) true F.Jk
theorem ahY : aT prog I N.Jk true (ab5) := aU (bf afh bn) (by kernel_rfl) (by kernel_rfl) (by kernel_rfl) (by kernel_rfl) (cs := []) (by kernel_rfl) aJ
theorem afq : aT prog I N.Jk true (zo kF) := okW ahY (Di fun d K h => by
 obtain ⟨x0, x1⟩ := d
 have h0 : ((Cc.sl ay).lim x0 && (Cc.sl ay).lim x1) = true := h
 try simp only [Bool.true_and, Bool.and_true, Bool.and_eq_true] at h0
 have c0 := h0.1
 have c1 := h0.2
 have e : ab5 [.a (kF.cells .no (x0, x1))] K = (bif (Cc.sl ay).lim x0 then (bif (Cc.sl ay).lim x1 then K (.a (kF.cells .deep (x0, x1)), []) else none) else none) := by kernel_rfl
 exact e.trans (bZ c0 (bZ c1 rfl)))
noncomputable def ab6 := dS (En [(N.EJ, true, Qb ay)] []) true F.Ja
theorem ahZ : aT prog I N.Ja true (ab6) := aU (bf afi bn) (by kernel_rfl) (by kernel_rfl) (by kernel_rfl) (by kernel_rfl) (cs := []) (by kernel_rfl) aJ
theorem afr : aT prog I N.Ja true (yS kF) := okW ahZ (Dj fun d e K h => by
 obtain ⟨x0, x1⟩ := d
 obtain ⟨y0, y1⟩ := e
 have h0 : ((Cc.sl ay).cnt x0 && (Cc.sl ay).cnt x1) = true := h
 try simp only [Bool.true_and, Bool.and_true, Bool.and_eq_true] at h0
 have c0 := h0.1
 have c1 := h0.2
 have e : ab6 [.a (kF.cells .no (x0, x1)), .a (kF.cells .no (y0, y1))] K = (bif (Cc.sl ay).cnt x0 then (bif !(wG x0 y0) then K (bl false, []) else (bif (Cc.sl ay).cnt x1 then (bif !(wG x1 y1) then K (bl false, []) else K (bl true, [])) else none)) else none) := by kernel_rfl
 exact e.trans (ae7 c0 (OA c1)))
noncomputable def ab7 := dS (En [(N.ET, true, FU ay)] []) true F.Jh
theorem ah0 : aT prog I N.Jh true (ab7) := aU (bf afj bn) (by kernel_rfl) (by kernel_rfl) (by kernel_rfl) (by kernel_rfl) (cs := []) (by kernel_rfl) aJ
theorem afs : aT prog I N.Jh true (FV kF) := okW ah0 (Jo fun d l K hl0 h => by
 obtain ⟨x0, x1⟩ := d
 have h0 : ((Cc.sl ay).Dh x0 && (Cc.sl ay).Dh x1) = true := h
 try simp only [Bool.true_and, Bool.and_true, Bool.and_eq_true] at h0
 have c0 := h0.1
 have c1 := h0.2
 have e : ab7 [.a (kF.cells .no (x0, x1)), .s (.int .i64 l)] K = (bif oD l && (Cc.sl ay).Dh x0 then (bif decide (nY ((Cc.sl ay).w x0) l < 0) then K (sc (-1), []) else (bif oD (nY ((Cc.sl ay).w x0) l) && (Cc.sl ay).Dh x1 then (bif decide (nY ((Cc.sl ay).w x1) (nY ((Cc.sl ay).w x0) l) < 0) then K (sc (-1), []) else K (sc (nY ((Cc.sl ay).w x1) (nY ((Cc.sl ay).w x0) l)), [])) else none)) else none) := by kernel_rfl
 have hw : ((Cc.sl ay).w x0 + ((Cc.sl ay).w x1 + 0)) = kF.w (x0, x1) := by
  show ((Cc.sl ay).w x0 + ((Cc.sl ay).w x1 + 0)) = ((Cc.sl ay).w x0 + (Cc.sl ay).w x1)
  omega
 refine (e.trans (zq (K := fun n => K (sc n, [])) (w2 := ((Cc.sl ay).w x1 + 0)) (wt := ((Cc.sl ay).w x0 + ((Cc.sl ay).w x1 + 0))) hl0 c0 rfl (fun hl1 => zq (K := fun n => K (sc n, [])) (w2 := 0) (wt := ((Cc.sl ay).w x1 + 0)) hl1 c1 rfl (fun hl2 => UC (K := fun n => K (sc n, [])) hl2)))).trans ?_
 exact congrArg (fun n => K (sc (nY n l), [])) hw)
end Go.Ev.Seat
end
section
namespace Go.Ev.Seat
open Go.RowKit
set_option maxRecDepth 100000
set_option linter.unusedVariables false
set_option linter.unusedSimpArgs false
noncomputable def ajc := dS (En [(N.rM, true, FT ah)] []) true F.RD
theorem alI : aT prog I N.RD true (ajc) := aU (bf LV bn) (by kernel_rfl) (by kernel_rfl) (by kernel_rfl) (by kernel_rfl) (cs := []) (by kernel_rfl) aJ
theorem aj3 : aT prog I N.RD true (zo dJ) := okW alI (Di fun d K h => by
 obtain ⟨x0, x1, x2, x3, x4, x5⟩ := d
 have h0 : (true && (true && (true && (true && (true && (Cc.sl ah).lim x5))))) = true := h
 try simp only [Bool.true_and, Bool.and_true, Bool.and_eq_true] at h0
 have c5 := h0
 have e : ajc [.a (dJ.cells .no (x0, x1, x2, x3, x4, x5))] K = (bif (Cc.sl ah).lim x5 then K (.a (dJ.cells .deep (x0, x1, x2, x3, x4, x5)), []) else none) := by kernel_rfl
 exact e.trans (bZ c5 rfl))
noncomputable def ajd := dS (En [(N.rJ, true, Qb ah)] []) true F.RF
theorem alJ : aT prog I N.RF true (ajd) := aU (bf LW bn) (by kernel_rfl) (by kernel_rfl) (by kernel_rfl) (by kernel_rfl) (cs := []) (by kernel_rfl) aJ
theorem aj6 : aT prog I N.RF true (yS dJ) := okW alJ (Dj fun d e K h => by
 obtain ⟨x0, x1, x2, x3, x4, x5⟩ := d
 obtain ⟨y0, y1, y2, y3, y4, y5⟩ := e
 have h0 : (true && (true && (true && (true && (true && (Cc.sl ah).cnt x5))))) = true := h
 try simp only [Bool.true_and, Bool.and_true, Bool.and_eq_true] at h0
 have c5 := h0
 have e : ajd [.a (dJ.cells .no (x0, x1, x2, x3, x4, x5)), .a (dJ.cells .no (y0, y1, y2, y3, y4, y5))] K = (bif (x0 != y0) then K (bl false, []) else (bif (x1 != y1) then K (bl false, []) else (bif (x2 != y2) then K (bl false, []) else (bif (x3 != y3) then K (bl false, []) else (bif (x4 != y4) then K (bl false, []) else (bif (Cc.sl ah).cnt x5 then (bif !(wG x5 y5) then K (bl false, []) else K (bl true, [])) else none)))))) := by kernel_rfl
 exact e.trans (Hr (Hr (Hr (Hr (Hr (OA c5)))))))
noncomputable def aje := dS (En [(N.AU, true, FU ah)] []) true F.Rz
theorem alK : aT prog I N.Rz true (aje) := aU (bf LX bn) (by kernel_rfl) (by kernel_rfl) (by kernel_rfl) (by kernel_rfl) (cs := []) (by kernel_rfl) aJ
theorem aj7 : aT prog I N.Rz true (FV dJ) := okW alK (Jo fun d l K hl0 h => by
 obtain ⟨x0, x1, x2, x3, x4, x5⟩ := d
 have h0 : (true && (true && (true && (true && (true && (Cc.sl ah).Dh x5))))) = true := h
 try simp only [Bool.true_and, Bool.and_true, Bool.and_eq_true] at h0
 have c5 := h0
 have e : aje [.a (dJ.cells .no (x0, x1, x2, x3, x4, x5)), .s (.int .i64 l)] K = (bif oD l && (Cc.sl ah).Dh x5 then (bif decide (nY ((Cc.sl ah).w x5) l < 0) then K (sc (-1), []) else K (sc (nY ((Cc.sl ah).w x5) l), [])) else none) := by kernel_rfl
 have hw : ((Cc.sl ah).w x5 + 0) = dJ.w (x0, x1, x2, x3, x4, x5) := by
  show ((Cc.sl ah).w x5 + 0) = (0 + (0 + (0 + (0 + (0 + (Cc.sl ah).w x5)))))
  omega
 refine (e.trans (zq (K := fun n => K (sc n, [])) (w2 := 0) (wt := ((Cc.sl ah).w x5 + 0)) hl0 c5 rfl (fun hl1 => UC (K := fun n => K (sc n, [])) hl1))).trans ?_
 exact congrArg (fun n => K (sc (nY n l), [])) hw)
noncomputable def ab8 (T : dO) := dS (En [(N.fJ, true, ni T ah)] [] [] [N.fJ] true) true F.EK
theorem ah1 (T : dO) : aT prog I N.EK true (ab8 T) := aU (bf (wK T) bn) (by kernel_rfl) (by kernel_rfl) (by kernel_rfl) (by kernel_rfl) (cs := []) (by kernel_rfl) aJ
theorem aft (T : dO) : aT prog I N.EK true (Hq T dJ) := okW (ah1 T) (Qc fun d k K h => by
 obtain ⟨x0, x1, x2, x3, x4, x5⟩ := d
 have h0 : (true && (true && (true && (true && (true && (Cc.sl ah).cnt x5))))) = true := h
 try simp only [Bool.true_and, Bool.and_true, Bool.and_eq_true] at h0
 have c5 := h0
 have e : ab8 T [.a (dJ.cells .own (x0, x1, x2, x3, x4, x5)), .s (.int .i64 k)] K = (bif (Cc.sl ah).cnt x5 then K (sc (dJ.bU T (x0, x1, x2, x3, x4, x5) k).2, [.a (dJ.cells .own (dJ.bU T (x0, x1, x2, x3, x4, x5) k).1)]) else none) := by kernel_rfl
 exact e.trans (bZ c5 rfl))
end Go.Ev.Seat
end
section
namespace Go.Ev.Seat
open Go.RowKit
set_option maxRecDepth 100000
set_option linter.unusedVariables false
set_option linter.unusedSimpArgs false
noncomputable def Y0 := dS (En [(N.Jj, true, zo ay)] []) true F.FH
theorem afu : aT prog I N.FH true (Y0) := aU (bf YT bn) (by kernel_rfl) (by kernel_rfl) (by kernel_rfl) (by kernel_rfl) (cs := []) (by kernel_rfl) aJ
theorem ade : aT prog I N.FH true (zo aH) := okW afu (Di fun d K h => by
 obtain ⟨x0, x1, x2, x3⟩ := d
 have h0 : (true && (true && (true && (Cc.sl ah).lim x3))) = true := h
 try simp only [Bool.true_and, Bool.and_true, Bool.and_eq_true] at h0
 have c3 := h0
 have e : Y0 [.a (aH.cells .no (x0, x1, x2, x3))] K = (bif ay.lim (x1, x2, x3) then K (.a (aH.cells .deep (x0, x1, x2, x3)), []) else none) := by kernel_rfl
 exact e.trans (bZ (show (true && (true && (Cc.sl ah).lim x3)) = true by simp only [c3, Bool.and_self]) rfl))
noncomputable def Y1 := dS (En [(N.Fp, true, yS ay)] []) true F.FK
theorem afv : aT prog I N.FK true (Y1) := aU (bf Qe bn) (by kernel_rfl) (by kernel_rfl) (by kernel_rfl) (by kernel_rfl) (cs := []) (by kernel_rfl) aJ
theorem adf : aT prog I N.FK true (yS aH) := okW afv (Dj fun d e K h => by
 obtain ⟨x0, x1, x2, x3⟩ := d
 obtain ⟨y0, y1, y2, y3⟩ := e
 have h0 : (true && (true && (true && (Cc.sl ah).cnt x3))) = true := h
 try simp only [Bool.true_and, Bool.and_true, Bool.and_eq_true] at h0
 have c3 := h0
 have e : Y1 [.a (aH.cells .no (x0, x1, x2, x3)), .a (aH.cells .no (y0, y1, y2, y3))] K = (bif (x0 != y0) then K (bl false, []) else (bif ay.cnt (x1, x2, x3) then (bif !(wG ((x1, x2, x3) : ay.T) (y1, y2, y3)) then K (bl false, []) else K (bl true, [])) else none)) := by kernel_rfl
 exact e.trans (Hr (OA (show (true && (true && (Cc.sl ah).cnt x3)) = true by simp only [c3, Bool.and_self]))))
noncomputable def Y2 := dS (En [(N.Jg, true, FV ay)] []) true F.FC
theorem afw : aT prog I N.FC true (Y2) := aU (bf YU bn) (by kernel_rfl) (by kernel_rfl) (by kernel_rfl) (by kernel_rfl) (cs := []) (by kernel_rfl) aJ
theorem adg : aT prog I N.FC true (FV aH) := okW afw (Jo fun d l K hl0 h => by
 obtain ⟨x0, x1, x2, x3⟩ := d
 have h0 : (true && (true && (true && (Cc.sl ah).Dh x3))) = true := h
 try simp only [Bool.true_and, Bool.and_true, Bool.and_eq_true] at h0
 have c3 := h0
 have w1 : ay.w (x1, x2, x3) = (0 + (0 + (Cc.sl ah).w x3)) := rfl
 have e : Y2 [.a (aH.cells .no (x0, x1, x2, x3)), .s (.int .i64 l)] K = (bif oD l && ay.Dh (x1, x2, x3) then (bif decide (nY (ay.w (x1, x2, x3)) l < 0) then K (sc (-1), []) else K (sc (nY (ay.w (x1, x2, x3)) l), [])) else none) := by kernel_rfl
 have hw : (ay.w (x1, x2, x3) + 0) = aH.w (x0, x1, x2, x3) := by
  show (ay.w (x1, x2, x3) + 0) = (0 + (0 + (0 + (Cc.sl ah).w x3)))
  omega
 refine (e.trans (zq (K := fun n => K (sc n, [])) (w2 := 0) (wt := (ay.w (x1, x2, x3) + 0)) hl0 (show (true && (true && (Cc.sl ah).Dh x3)) = true by simp only [c3, Bool.and_self]) rfl (fun hl1 => UC (K := fun n => K (sc n, [])) hl1))).trans ?_
 exact congrArg (fun n => K (sc (nY n l), [])) hw)
noncomputable def afx := dS (En [(N.FH, true, zo aH)] [] [(3, [0,3,4], [3], oN (YR aH 18) (RTo aH 18))]) true F.yM
theorem adh : aT prog I N.yM true afx := aU (bf ade bn) (by kernel_rfl) (by kernel_rfl) (by kernel_rfl) (by kernel_rfl) (cs := [aA F.yM 3]) (by kernel_rfl) (dw (Qd (r := aH) (n := 18) (by kernel_rfl) rfl rfl (fun m x0 x4 o0 K => by kernel_rfl)) aJ)
theorem aaJ : aT prog I N.yM true (FT aH) := okW adh (amM (n := 18) (sz := 48) (fun a K => by kernel_rfl) rfl)
noncomputable def afy := dS (En [(N.FK, true, yS aH)] [(6, takeB [0, 1, 2, 3, 4, 5, 6, 7] (.fork (.one 8 (takes [9]))), [])] [(4, [0,1,5], [4], oN (YS aH 21) (REq aH 21))]) true F.yO
theorem adi : aT prog I N.yO true afy := aU (bf adf bn) (by kernel_rfl) (by kernel_rfl) (by kernel_rfl) (by kernel_rfl) (cs := [aA F.yO 4]) (by kernel_rfl) (dw (ac0 (r := aH) (n := 21) (by kernel_rfl) rfl rfl (fun m x0 x1 x5 K => by kernel_rfl)) aJ)
theorem aaK : aT prog I N.yO true (Qb aH) := okW adi (amN (fun a b K => by kernel_rfl))
noncomputable def afz := dS (En [(N.FC, true, FV aH)] [] [(5, [0,1,5], [1,4], oN (aaF aH 21) (RSz aH 21))]) true F.yK
theorem adk : aT prog I N.yK true afz := aU (bf adg bn) (by kernel_rfl) (by kernel_rfl) (by kernel_rfl) (by kernel_rfl) (cs := [aA F.yK 5]) (by kernel_rfl) (dw (ahP (r := aH) (n := 21) (by kernel_rfl) rfl rfl (fun m x0 x1 x5 K => by kernel_rfl)) aJ)
theorem aaL : aT prog I N.yK true (FU aH) := okW adk (anO (fun a k K => by kernel_rfl))
noncomputable def aaM (T : dO) := dS (En [(N.fJ, true, ni T ah)] [] [(2, [0,1,5], [1], oN (Xb aH 38) (RMk T aH 38))] [N.fJ] true) true F.nU
theorem Y3 (T : dO) : aT prog I N.nU true (aaM T) := aU (bf (wK T) bn) (by kernel_rfl) (by kernel_rfl) (by kernel_rfl) (by kernel_rfl) (cs := [aA F.nU 2]) (by kernel_rfl) (dw (ac4 (T := T) (r := aH) (n := 38) (by kernel_rfl) rfl rfl rfl (fun m x1 x5 o0 K => by kernel_rfl)) aJ)
theorem Xc (T : dO) : aT prog I N.nU true (ni T aH) := okW (Y3 T) (amO (fun a k K => by kernel_rfl))
end Go.Ev.Seat
end
section
namespace Go.Ev.Seat
open Go.RowKit
set_option maxRecDepth 100000
set_option linter.unusedVariables false
set_option linter.unusedSimpArgs false
noncomputable def Y4 := dS (En [(N.RI, true, zo UN), (N.Jk, true, zo kF)] []) true F.FI
theorem afA : aT prog I N.FI true (Y4) := aU (bf aj1 (bf afq bn)) (by kernel_rfl) (by kernel_rfl) (by kernel_rfl) (by kernel_rfl) (cs := []) (by kernel_rfl) aJ
theorem adl : aT prog I N.FI true (zo aF) := okW afA (Di fun d K h => by
 obtain ⟨x0, x1, x2, x3, x4⟩ := d
 have h0 : (true && (true && (true && ((Cc.sl ay).lim x3 && (Cc.sl ay).lim x4)))) = true := h
 try simp only [Bool.true_and, Bool.and_true, Bool.and_eq_true] at h0
 have c3 := h0.1
 have c4 := h0.2
 have e : Y4 [.a (aF.cells .no (x0, x1, x2, x3, x4))] K = (bif UN.lim (x1, x2) then (bif kF.lim (x3, x4) then K (.a (aF.cells .deep (x0, x1, x2, x3, x4)), []) else none) else none) := by kernel_rfl
 exact e.trans (bZ (show (true && true) = true by simp only [Bool.and_self]) (bZ (show ((Cc.sl ay).lim x3 && (Cc.sl ay).lim x4) = true by simp only [c3, c4, Bool.and_self]) rfl)))
noncomputable def Y5 := dS (En [(N.RH, true, yS UN), (N.Ja, true, yS kF)] []) true F.Fj
theorem afB : aT prog I N.Fj true (Y5) := aU (bf aj2 (bf afr bn)) (by kernel_rfl) (by kernel_rfl) (by kernel_rfl) (by kernel_rfl) (cs := []) (by kernel_rfl) aJ
theorem adn : aT prog I N.Fj true (yS aF) := okW afB (Dj fun d e K h => by
 obtain ⟨x0, x1, x2, x3, x4⟩ := d
 obtain ⟨y0, y1, y2, y3, y4⟩ := e
 have h0 : (true && (true && (true && ((Cc.sl ay).cnt x3 && (Cc.sl ay).cnt x4)))) = true := h
 try simp only [Bool.true_and, Bool.and_true, Bool.and_eq_true] at h0
 have c3 := h0.1
 have c4 := h0.2
 have e : Y5 [.a (aF.cells .no (x0, x1, x2, x3, x4)), .a (aF.cells .no (y0, y1, y2, y3, y4))] K = (bif (x0 != y0) then K (bl false, []) else (bif UN.cnt (x1, x2) then (bif !(wG ((x1, x2) : UN.T) (y1, y2)) then K (bl false, []) else (bif kF.cnt (x3, x4) then (bif !(wG ((x3, x4) : kF.T) (y3, y4)) then K (bl false, []) else K (bl true, [])) else none)) else none)) := by kernel_rfl
 exact e.trans (Hr (alx (show (true && true) = true by simp only [Bool.and_self]) ⟨fun h => by cases h; exact ⟨rfl, rfl⟩, fun h => by obtain ⟨h1, h2⟩ := h; cases h1; cases h2; rfl⟩ (OA (show ((Cc.sl ay).cnt x3 && (Cc.sl ay).cnt x4) = true by simp only [c3, c4, Bool.and_self])))))
noncomputable def Y6 := dS (En [(N.Jh, true, FV kF)] []) true F.FD
theorem afC : aT prog I N.FD true (Y6) := aU (bf afs bn) (by kernel_rfl) (by kernel_rfl) (by kernel_rfl) (by kernel_rfl) (cs := []) (by kernel_rfl) aJ
theorem ado : aT prog I N.FD true (FV aF) := okW afC (Jo fun d l K hl0 h => by
 obtain ⟨x0, x1, x2, x3, x4⟩ := d
 have h0 : (true && (true && (true && ((Cc.sl ay).Dh x3 && (Cc.sl ay).Dh x4)))) = true := h
 try simp only [Bool.true_and, Bool.and_true, Bool.and_eq_true] at h0
 have c3 := h0.1
 have c4 := h0.2
 have w3 : kF.w (x3, x4) = ((Cc.sl ay).w x3 + (Cc.sl ay).w x4) := rfl
 have e : Y6 [.a (aF.cells .no (x0, x1, x2, x3, x4)), .s (.int .i64 l)] K = (bif oD l && kF.Dh (x3, x4) then (bif decide (nY (kF.w (x3, x4)) l < 0) then K (sc (-1), []) else K (sc (nY (kF.w (x3, x4)) l), [])) else none) := by kernel_rfl
 have hw : (kF.w (x3, x4) + 0) = aF.w (x0, x1, x2, x3, x4) := by
  show (kF.w (x3, x4) + 0) = (0 + (0 + (0 + ((Cc.sl ay).w x3 + (Cc.sl ay).w x4))))
  omega
 refine (e.trans (zq (K := fun n => K (sc n, [])) (w2 := 0) (wt := (kF.w (x3, x4) + 0)) hl0 (show ((Cc.sl ay).Dh x3 && (Cc.sl ay).Dh x4) = true by simp only [c3, c4, Bool.and_self]) rfl (fun hl1 => UC (K := fun n => K (sc n, [])) hl1))).trans ?_
 exact congrArg (fun n => K (sc (nY n l), [])) hw)
noncomputable def afD := dS (En [(N.FI, true, zo aF)] [] [(3, [0,3,4], [3], oN (YR aF 18) (RTo aF 18))]) true F.yN
theorem adp : aT prog I N.yN true afD := aU (bf adl bn) (by kernel_rfl) (by kernel_rfl) (by kernel_rfl) (by kernel_rfl) (cs := [aA F.yN 3]) (by kernel_rfl) (dw (Qd (r := aF) (n := 18) (by kernel_rfl) rfl rfl (fun m x0 x4 o0 K => by kernel_rfl)) aJ)
theorem aaN : aT prog I N.yN true (FT aF) := okW adp (amM (n := 18) (sz := 72) (fun a K => by kernel_rfl) rfl)
noncomputable def afE := dS (En [(N.Fj, true, yS aF)] [(6, takeB [0, 1, 2, 3, 4, 5, 6, 7] (.fork (.one 8 (takes [9]))), [])] [(4, [0,1,5], [4], oN (YS aF 21) (REq aF 21))]) true F.yP
theorem adq : aT prog I N.yP true afE := aU (bf adn bn) (by kernel_rfl) (by kernel_rfl) (by kernel_rfl) (by kernel_rfl) (cs := [aA F.yP 4]) (by kernel_rfl) (dw (ac0 (r := aF) (n := 21) (by kernel_rfl) rfl rfl (fun m x0 x1 x5 K => by kernel_rfl)) aJ)
theorem aaO : aT prog I N.yP true (Qb aF) := okW adq (amN (fun a b K => by kernel_rfl))
noncomputable def afF := dS (En [(N.FD, true, FV aF)] [] [(5, [0,1,5], [1,4], oN (aaF aF 21) (RSz aF 21))]) true F.yL
theorem adr : aT prog I N.yL true afF := aU (bf ado bn) (by kernel_rfl) (by kernel_rfl) (by kernel_rfl) (by kernel_rfl) (cs := [aA F.yL 5]) (by kernel_rfl) (dw (ahP (r := aF) (n := 21) (by kernel_rfl) rfl rfl (fun m x0 x1 x5 K => by kernel_rfl)) aJ)
theorem aaP : aT prog I N.yL true (FU aF) := okW adr (anO (fun a k K => by kernel_rfl))
noncomputable def aaQ (T : dO) := dS (En [(N.tZ, true, ni T ay)] [] [(2, [0,1,5], [1], oN (Xb aF 46) (RMk T aF 46))] [N.tZ] true) true F.nV
theorem Y7 (T : dO) : aT prog I N.nV true (aaQ T) := aU (bf (aaH T) bn) (by kernel_rfl) (by kernel_rfl) (by kernel_rfl) (by kernel_rfl) (cs := [aA F.nV 2]) (by kernel_rfl) (dw (ac4 (T := T) (r := aF) (n := 46) (by kernel_rfl) rfl rfl rfl (fun m x1 x5 o0 K => by kernel_rfl)) aJ)
theorem Xd (T : dO) : aT prog I N.nV true (ni T aF) := okW (Y7 T) (amO (fun a k K => by kernel_rfl))
end Go.Ev.Seat
end
section
namespace Go.Ev.Seat
open Go.RowKit
set_option maxRecDepth 100000
set_option linter.unusedVariables false
set_option linter.unusedSimpArgs false
noncomputable def ajf := dS (En [(N.rM, true, FT ah), (N.yM, true, FT aH), (N.yN, true, FT aF), (N.AV, true, FT aI)] []) true F.Rx
theorem alL : aT prog I N.Rx true (ajf) := aU (bf LV (bf aaJ (bf aaN (bf ac8 bn)))) (by kernel_rfl) (by kernel_rfl) (by kernel_rfl) (by kernel_rfl) (cs := []) (by kernel_rfl) aJ
theorem aj8 : aT prog I N.Rx true (zo bT) := okW alL (Di fun d K h => by
 obtain ⟨x0, x1, x2, x3, x4, x5⟩ := d
 have h0 : ((Cc.sl ah).lim x0 && ((Cc.sl ah).lim x1 && ((Cc.sl aH).lim x2 && (true && ((Cc.sl aF).lim x4 && (Cc.sl aI).lim x5))))) = true := h
 try simp only [Bool.true_and, Bool.and_true, Bool.and_eq_true] at h0
 have c0 := h0.1
 have c1 := h0.2.1
 have c2 := h0.2.2.1
 have c4 := h0.2.2.2.1
 have c5 := h0.2.2.2.2
 have e : ajf [.a (bT.cells .no (x0, x1, x2, x3, x4, x5))] K = (bif (Cc.sl ah).lim x0 then (bif (Cc.sl ah).lim x1 then (bif (Cc.sl aH).lim x2 then (bif (Cc.sl aF).lim x4 then (bif (Cc.sl aI).lim x5 then K (.a (bT.cells .deep (x0, x1, x2, x3, x4, x5)), []) else none) else none) else none) else none) else none) := by kernel_rfl
 exact e.trans (bZ c0 (bZ c1 (bZ c2 (bZ c4 (bZ c5 rfl))))))
noncomputable def ajg := dS (En [(N.rJ, true, Qb ah), (N.yO, true, Qb aH), (N.yP, true, Qb aF), (N.AX, true, Qb aI)] []) true F.Ry
theorem alM : aT prog I N.Ry true (ajg) := aU (bf LW (bf aaK (bf aaO (bf ac9 bn)))) (by kernel_rfl) (by kernel_rfl) (by kernel_rfl) (by kernel_rfl) (cs := []) (by kernel_rfl) aJ
theorem aj9 : aT prog I N.Ry true (yS bT) := okW alM (Dj fun d e K h => by
 obtain ⟨x0, x1, x2, x3, x4, x5⟩ := d
 obtain ⟨y0, y1, y2, y3, y4, y5⟩ := e
 have h0 : ((Cc.sl ah).cnt x0 && ((Cc.sl ah).cnt x1 && ((Cc.sl aH).cnt x2 && (true && ((Cc.sl aF).cnt x4 && (Cc.sl aI).cnt x5))))) = true := h
 try simp only [Bool.true_and, Bool.and_true, Bool.and_eq_true] at h0
 have c0 := h0.1
 have c1 := h0.2.1
 have c2 := h0.2.2.1
 have c4 := h0.2.2.2.1
 have c5 := h0.2.2.2.2
 have e : ajg [.a (bT.cells .no (x0, x1, x2, x3, x4, x5)), .a (bT.cells .no (y0, y1, y2, y3, y4, y5))] K = (bif (Cc.sl ah).cnt x0 then (bif !(wG x0 y0) then K (bl false, []) else (bif (Cc.sl ah).cnt x1 then (bif !(wG x1 y1) then K (bl false, []) else (bif (Cc.sl aH).cnt x2 then (bif !(wG x2 y2) then K (bl false, []) else (bif (x3 != y3) then K (bl false, []) else (bif (Cc.sl aF).cnt x4 then (bif !(wG x4 y4) then K (bl false, []) else (bif (Cc.sl aI).cnt x5 then (bif !(wG x5 y5) then K (bl false, []) else K (bl true, [])) else none)) else none))) else none)) else none)) else none) := by kernel_rfl
 exact e.trans (ae7 c0 (ae7 c1 (ae7 c2 (Hr (ae7 c4 (OA c5)))))))
noncomputable def ajh := dS (En [(N.AU, true, FU ah), (N.yK, true, FU aH), (N.yL, true, FU aF), (N.Fv, true, FU aI)] []) true F.Rt
theorem alN : aT prog I N.Rt true (ajh) := aU (bf LX (bf aaL (bf aaP (bf ada bn)))) (by kernel_rfl) (by kernel_rfl) (by kernel_rfl) (by kernel_rfl) (cs := []) (by kernel_rfl) aJ
theorem akb : aT prog I N.Rt true (FV bT) := okW alN (Jo fun d l K hl0 h => by
 obtain ⟨x0, x1, x2, x3, x4, x5⟩ := d
 have h0 : ((Cc.sl ah).Dh x0 && ((Cc.sl ah).Dh x1 && ((Cc.sl aH).Dh x2 && (true && ((Cc.sl aF).Dh x4 && (Cc.sl aI).Dh x5))))) = true := h
 try simp only [Bool.true_and, Bool.and_true, Bool.and_eq_true] at h0
 have c0 := h0.1
 have c1 := h0.2.1
 have c2 := h0.2.2.1
 have c4 := h0.2.2.2.1
 have c5 := h0.2.2.2.2
 have e : ajh [.a (bT.cells .no (x0, x1, x2, x3, x4, x5)), .s (.int .i64 l)] K = (bif oD l && (Cc.sl ah).Dh x0 then (bif decide (nY ((Cc.sl ah).w x0) l < 0) then K (sc (-1), []) else (bif oD (nY ((Cc.sl ah).w x0) l) && (Cc.sl ah).Dh x1 then (bif decide (nY ((Cc.sl ah).w x1) (nY ((Cc.sl ah).w x0) l) < 0) then K (sc (-1), []) else (bif oD (nY ((Cc.sl ah).w x1) (nY ((Cc.sl ah).w x0) l)) && (Cc.sl aH).Dh x2 then (bif decide (nY ((Cc.sl aH).w x2) (nY ((Cc.sl ah).w x1) (nY ((Cc.sl ah).w x0) l)) < 0) then K (sc (-1), []) else (bif oD (nY ((Cc.sl aH).w x2) (nY ((Cc.sl ah).w x1) (nY ((Cc.sl ah).w x0) l))) && (Cc.sl aF).Dh x4 then (bif decide (nY ((Cc.sl aF).w x4) (nY ((Cc.sl aH).w x2) (nY ((Cc.sl ah).w x1) (nY ((Cc.sl ah).w x0) l))) < 0) then K (sc (-1), []) else (bif oD (nY ((Cc.sl aF).w x4) (nY ((Cc.sl aH).w x2) (nY ((Cc.sl ah).w x1) (nY ((Cc.sl ah).w x0) l)))) && (Cc.sl aI).Dh x5 then (bif decide (nY ((Cc.sl aI).w x5) (nY ((Cc.sl aF).w x4) (nY ((Cc.sl aH).w x2) (nY ((Cc.sl ah).w x1) (nY ((Cc.sl ah).w x0) l)))) < 0) then K (sc (-1), []) else K (sc (nY ((Cc.sl aI).w x5) (nY ((Cc.sl aF).w x4) (nY ((Cc.sl aH).w x2) (nY ((Cc.sl ah).w x1) (nY ((Cc.sl ah).w x0) l))))), [])) else none)) else none)) else none)) else none)) else none) := by kernel_rfl
 have hw : ((Cc.sl ah).w x0 + ((Cc.sl ah).w x1 + ((Cc.sl aH).w x2 + ((Cc.sl aF).w x4 + ((Cc.sl aI).w x5 + 0))))) = bT.w (x0, x1, x2, x3, x4, x5) := by
  show ((Cc.sl ah).w x0 + ((Cc.sl ah).w x1 + ((Cc.sl aH).w x2 + ((Cc.sl aF).w x4 + ((Cc.sl aI).w x5 + 0))))) = ((Cc.sl ah).w x0 + ((Cc.sl ah).w x1 + ((Cc.sl aH).w x2 + (0 + ((Cc.sl aF).w x4 + (Cc.sl aI).w x5)))))
  omega
 refine (e.trans (zq (K := fun n => K (sc n, [])) (w2 := ((Cc.sl ah).w x1 + ((Cc.sl aH).w x2 + ((Cc.sl aF).w x4 + ((Cc.sl aI).w x5 + 0))))) (wt := ((Cc.sl ah).w x0 + ((Cc.sl ah).w x1 + ((Cc.sl aH).w x2 + ((Cc.sl aF).w x4 + ((Cc.sl aI).w x5 + 0)))))) hl0 c0 rfl (fun hl1 => zq (K := fun n => K (sc n, [])) (w2 := ((Cc.sl aH).w x2 + ((Cc.sl aF).w x4 + ((Cc.sl aI).w x5 + 0)))) (wt := ((Cc.sl ah).w x1 + ((Cc.sl aH).w x2 + ((Cc.sl aF).w x4 + ((Cc.sl aI).w x5 + 0))))) hl1 c1 rfl (fun hl2 => zq (K := fun n => K (sc n, [])) (w2 := ((Cc.sl aF).w x4 + ((Cc.sl aI).w x5 + 0))) (wt := ((Cc.sl aH).w x2 + ((Cc.sl aF).w x4 + ((Cc.sl aI).w x5 + 0)))) hl2 c2 rfl (fun hl3 => zq (K := fun n => K (sc n, [])) (w2 := ((Cc.sl aI).w x5 + 0)) (wt := ((Cc.sl aF).w x4 + ((Cc.sl aI).w x5 + 0))) hl3 c4 rfl (fun hl4 => zq (K := fun n => K (sc n, [])) (w2 := 0) (wt := ((Cc.sl aI).w x5 + 0)) hl4 c5 rfl (fun hl5 => UC (K := fun n => K (sc n, [])) hl5))))))).trans ?_
 exact congrArg (fun n => K (sc (nY n l), [])) hw)
noncomputable def ab9 (T : dO) := dS (En [(N.fJ, true, ni T ah), (N.nU, true, ni T aH), (N.nV, true, ni T aF), (N.qj, true, ni T aI)] [] [] [N.fJ, N.nU, N.nV, N.qj] true) true F.EI
theorem ah2 (T : dO) : aT prog I N.EI true (ab9 T) := aU (bf (wK T) (bf (Xc T) (bf (Xd T) (bf (YZ T) bn)))) (by kernel_rfl) (by kernel_rfl) (by kernel_rfl) (by kernel_rfl) (cs := []) (by kernel_rfl) aJ
theorem afG (T : dO) : aT prog I N.EI true (Hq T bT) := okW (ah2 T) (Qc fun d k K h => by
 obtain ⟨x0, x1, x2, x3, x4, x5⟩ := d
 have h0 : ((Cc.sl ah).cnt x0 && ((Cc.sl ah).cnt x1 && ((Cc.sl aH).cnt x2 && (true && ((Cc.sl aF).cnt x4 && (Cc.sl aI).cnt x5))))) = true := h
 try simp only [Bool.true_and, Bool.and_true, Bool.and_eq_true] at h0
 have c0 := h0.1
 have c1 := h0.2.1
 have c2 := h0.2.2.1
 have c4 := h0.2.2.2.1
 have c5 := h0.2.2.2.2
 have e : ab9 T [.a (bT.cells .own (x0, x1, x2, x3, x4, x5)), .s (.int .i64 k)] K = (bif (Cc.sl ah).cnt x0 then (bif (Cc.sl ah).cnt x1 then (bif (Cc.sl aH).cnt x2 then (bif (Cc.sl aF).cnt x4 then (bif (Cc.sl aI).cnt x5 then K (sc (bT.bU T (x0, x1, x2, x3, x4, x5) k).2, [.a (bT.cells .own (bT.bU T (x0, x1, x2, x3, x4, x5) k).1)]) else none) else none) else none) else none) else none) := by kernel_rfl
 exact e.trans (bZ c0 (bZ c1 (bZ c2 (bZ c4 (bZ c5 rfl))))))
end Go.Ev.Seat
end
section
set_option linter.unusedVariables false
namespace Go.Ev
inductive Ak where
 | sc1 (k : Cc)
 | a (r : Rw)
 | l (r : Rw)
 | i
 | b
 | sh (s : Sh)
abbrev Ak.T : Ak → Type
 | .a r => r.T
 | .l r => List r.T
 | .i => Int
 | .b => Bool
 | .sc1 k => k.T
 | .sh s => s.T
def Ak.v : (k : Ak) → k.T → V
 | .a r, d => .a (r.cells .no d)
 | .l r, d => .l .no r d
 | .i, n => .s (.int .i64 n)
 | .b, c => .s (.bool c)
 | .sc1 k, d => k.cell .no d
 | .sh s, d => s.mk d
def Ak.dec : (k : Ak) → V → Option k.T
 | .a r, .a cs => r.dec cs
 | .l r, v => (Cc.sl r).dec v
 | .i, .s (.int .i64 n) => some n
 | .b, .s (.bool c) => some c
 | .sc1 k, v => k.dec v
 | .sh s, v => s.un v
 | _, _ => none
theorem Ak.iL : (k : Ak) → {v : V} → {d : k.T} → k.dec v = some d → v = k.v d
 | .a r, v, d, h => by
  cases v with
  | a cs => simp only [Ak.dec] at h; rw [Rw.iL r h]; rfl
  | _ => simp [Ak.dec] at h
 | .l r, v, d, h => by
  have h' : (Cc.sl r).dec v = some d := by
   cases v <;> simpa [Ak.dec] using h
  rw [Cc.iL (.sl r) h']; rfl
 | .i, v, d, h => by
  cases v with
  | s u =>
   cases u with
   | int k n => cases k <;> simp [Ak.dec] at h <;> subst h <;> rfl
   | _ => simp [Ak.dec] at h
  | _ => simp [Ak.dec] at h
 | .sc1 k, v, d, h => by
  have h' : k.dec v = some d := by
   cases v <;> simpa [Ak.dec] using h
  exact Cc.iL k h'
 | .sh s, v, d, h => by
  have h' : s.un v = some d := by
   cases v <;> simpa [Ak.dec] using h
  exact Sh.fF s h'
 | .b, v, d, h => by
  cases v with
  | s u =>
   cases u with
   | bool c => simp [Ak.dec] at h; subst h; rfl
   | _ => simp [Ak.dec] at h
  | _ => simp [Ak.dec] at h
abbrev SgT : List Ak → Type
 | [] => Unit
 | k :: ks => k.T × SgT ks
def sgV : (ks : List Ak) → SgT ks → List V
 | [], _ => []
 | k :: ks, d => k.v d.1 :: sgV ks d.2
def sgD : (ks : List Ak) → List V → Option (SgT ks)
 | [], [] => some ()
 | k :: ks, v :: vs => match k.dec v with
  | some d => match sgD ks vs with
   | some e => some (d, e)
   | none => none
  | none => none
 | _, _ => none
theorem alP : (ks : List Ak) → {vs : List V} → {d : SgT ks} → sgD ks vs = some d → vs = sgV ks d
 | [], [], d, h => rfl
 | [], _ :: _, d, h => by simp [sgD] at h
 | k :: ks, [], d, h => by simp [sgD] at h
 | k :: ks, v :: vs, d, h => by
  simp only [sgD] at h
  split at h
  ·rename_i d1 e1
   split at h
   ·rename_i d2 e2
    cases h
    rw [Ak.iL k e1, alP ks e2]; rfl
   ·cases h
  ·cases h
def aoO (ks : List Ak) (pre : SgT ks → Bool) (f : SgT ks → V) : Sm := fun vs K => match sgD ks vs with
 | some d => bif pre d then K (f d, []) else none
 | none => none
mutual
theorem Cc.Bj : (c : Cc) → (d : c.T) → c.wf d → c.Dh d = true
 | .int _, _, _ => rfl
 | .bool, _, _ => rfl
 | .str, _, _ => rfl
 | .sl r, xs, h => by
  simp only [Cc.Dh, Bool.and_eq_true, List.all_eq_true]
  exact ⟨Nat.ble_eq_true_of_le h.1, fun x hx => Rw.Bj r x (h.2 x hx)⟩
theorem Rw.Bj : (r : Rw) → (d : r.T) → r.wf d → r.Dh d = true
 | .one c, d, h => Cc.Bj c d h
 | .cons c r, d, h => by
  simp only [Rw.Dh, Bool.and_eq_true]
  exact ⟨Cc.Bj c d.1 h.1, Rw.Bj r d.2 h.2⟩
end
mutual
def Cc.mx : Cc → Bool
 | .sl r => Nat.ble r.sc 32 && r.mx
 | _ => true
def Rw.mx : Rw → Bool
 | .one c => c.mx
 | .cons c r => c.mx && r.mx
def Cc.sc : Cc → Nat
 | .sl _ => 0
 | _ => 1
def Rw.sc : Rw → Nat
 | .one c => c.sc
 | .cons c r => c.sc + r.sc
end
mutual
theorem Cc.Jp : (c : Cc) → c.mx = true → (d : c.T) → c.marks d ≤ c.sc + 32 * c.w d
 | .int _, _, _ => by simp [Cc.marks, Cc.sc, Cc.w]
 | .bool, _, _ => by simp [Cc.marks, Cc.sc, Cc.w]
 | .str, _, d => by simp only [Cc.marks, Cc.sc, Cc.w]; omega
 | .sl r, h, xs => by
  simp only [Cc.mx, Bool.and_eq_true] at h
  have h1 : r.sc ≤ 32 := Nat.le_of_ble_eq_true h.1
  have key : ∀ ys : List r.T, sumW r.marks ys ≤ 32 * (ys.length + sumW r.w ys) := by
   intro ys
   induction ys with
   | nil => simp [sumW]
   | cons y ys ih =>
    have := Rw.Jp r h.2 y
    simp only [sumW, List.length_cons]
    omega
  simp only [Cc.marks, Cc.sc, Cc.w]
  have := key xs
  omega
theorem Rw.Jp : (r : Rw) → r.mx = true → (d : r.T) → r.marks d ≤ r.sc + 32 * r.w d
 | .one c, h, d => Cc.Jp c h d
 | .cons c r, h, d => by
  simp only [Rw.mx, Bool.and_eq_true] at h
  have h1 := Cc.Jp c h.1 d.1
  have h2 := Rw.Jp r h.2 d.2
  simp only [Rw.marks, Rw.sc, Rw.w]
  omega
end
theorem Cc.Bl : (c : Cc) → c.mx = true → (d : c.T) → c.gV d ≤ 32 * c.w d
 | .int _, _, _ => by simp [Cc.gV]
 | .bool, _, _ => by simp [Cc.gV]
 | .str, _, d => by simp [Cc.gV]
 | .sl r, h, xs => by
  have := Cc.Jp (.sl r) h xs
  simp only [Cc.sc, Nat.zero_add] at this
  exact this
theorem Rw.Bl : (r : Rw) → r.mx = true → (d : r.T) → r.gV d ≤ 32 * r.w d
 | .one c, h, d => Cc.Bl c h d
 | .cons c r, h, d => by
  simp only [Rw.mx, Bool.and_eq_true] at h
  have h1 := Cc.Bl c h.1 d.1
  have h2 := Rw.Bl r h.2 d.2
  simp only [Rw.gV, Rw.w]
  omega
mutual
theorem Cc.Jq : (c : Cc) → (d : c.T) → c.w d ≤ 4611686018427387904 → c.cnt d = true
 | .int _, _, _ => rfl
 | .bool, _, _ => rfl
 | .str, _, _ => rfl
 | .sl r, xs, h => by
  simp only [Cc.w] at h
  simp only [Cc.cnt, Bool.and_eq_true, List.all_eq_true]
  refine ⟨Nat.ble_eq_true_of_le (by omega), fun x hx => ?_⟩
  have := YL (f := r.w) hx
  exact Rw.Jq r x (by omega)
theorem Rw.Jq : (r : Rw) → (d : r.T) → r.w d ≤ 4611686018427387904 → r.cnt d = true
 | .one c, d, h => Cc.Jq c d h
 | .cons c r, d, h => by
  simp only [Rw.w] at h
  simp only [Rw.cnt, Bool.and_eq_true]
  exact ⟨Cc.Jq c d.1 (by omega), Rw.Jq r d.2 (by omega)⟩
end
mutual
theorem Cc.UO (T : dO) : (c : Cc) → (d : c.T) → (k : Int) → c.cnt (c.mark T d k).1 = c.cnt d
 | .int _, _, _ => rfl
 | .bool, _, _ => rfl
 | .str, _, _ => rfl
 | .sl r, xs, k => by
  simp only [Cc.cnt, Cc.mark, RP]
  have key : ∀ (xs : List r.T) (k : Int), (bC (r.mark T) xs k).1.all r.cnt = xs.all r.cnt := by
   intro xs
   induction xs with
   | nil => intro k; rfl
   | cons x xs ih =>
    intro k
    simp only [bC, List.all_cons]
    rw [ih, Rw.UO T r x k]
  rw [key]
theorem Rw.UO (T : dO) : (r : Rw) → (d : r.T) → (k : Int) → r.cnt (r.mark T d k).1 = r.cnt d
 | .one c, d, k => Cc.UO T c d k
 | .cons c r, d, k => by simp only [Rw.cnt, Rw.mark]; rw [Cc.UO T c, Rw.UO T r]
end
theorem Cc.RV (T : dO) : (c : Cc) → (d : c.T) → (k : Int) → c.cnt (c.bU T d k).1 = c.cnt d
 | .int _, _, _ => rfl
 | .bool, _, _ => rfl
 | .str, _, _ => rfl
 | .sl r, xs, k => Cc.UO T (.sl r) xs k
theorem Rw.RV (T : dO) : (r : Rw) → (d : r.T) → (k : Int) → r.cnt (r.bU T d k).1 = r.cnt d
 | .one c, d, k => Cc.RV T c d k
 | .cons c r, d, k => by simp only [Rw.cnt, Rw.bU]; rw [Cc.RV T c, Rw.RV T r]
mutual
theorem Cc.Bo (T : dO) : (c : Cc) → (d : c.T) → (k : Int) → c.marks (c.mark T d k).1 = c.marks d
 | .int _, _, _ => rfl
 | .bool, _, _ => rfl
 | .str, _, _ => rfl
 | .sl r, xs, k => by
  have key : ∀ (xs : List r.T) (k : Int), sumW r.marks (bC (r.mark T) xs k).1 = sumW r.marks xs := by
   intro xs
   induction xs with
   | nil => intro k; rfl
   | cons x xs ih =>
    intro k
    simp only [bC, sumW]
    rw [ih, Rw.Bo T r x k]
  exact key xs k
theorem Rw.Bo (T : dO) : (r : Rw) → (d : r.T) → (k : Int) → r.marks (r.mark T d k).1 = r.marks d
 | .one c, d, k => Cc.Bo T c d k
 | .cons c r, d, k => by simp only [Rw.marks, Rw.mark]; rw [Cc.Bo T c, Rw.Bo T r]
end
theorem Cc.Dk (T : dO) : (c : Cc) → (d : c.T) → (k : Int) → c.gV (c.bU T d k).1 = c.gV d
 | .int _, _, _ => rfl
 | .bool, _, _ => rfl
 | .str, _, _ => rfl
 | .sl r, xs, k => Cc.Bo T (.sl r) xs k
theorem Rw.Dk (T : dO) : (r : Rw) → (d : r.T) → (k : Int) → r.gV (r.bU T d k).1 = r.gV d
 | .one c, d, k => Cc.Dk T c d k
 | .cons c r, d, k => by simp only [Rw.gV, Rw.bU]; rw [Cc.Dk T c, Rw.Dk T r]
section
variable {ρ : Type}
theorem am7 {b : Bool} {w : Nat} {l : Int} {Z A : Option ρ} (hl : oD l = true) (hb : b = true) (h : ¬ l - w < 0 → nY w l = l - w → oD (nY w l) = true → A = Z) : (bif oD l && b then (bif decide (nY w l < 0) then Z else A) else none) = Z := by
 rw [hl, hb]
 simp only [oD, Bool.and_eq_true, decide_eq_true_eq] at hl
 by_cases e : l - w < 0
 ·rw [nY, if_pos e]; rfl
 ·have e2 : nY w l = l - w := if_neg e
  rw [e2] at h ⊢
  rw [decide_eq_false e]
  refine h e rfl ?_
  unfold oD
  rw [decide_eq_true (show 0 ≤ l - (w : Int) by omega), decide_eq_true (show l - (w : Int) ≤ 4611686018427387904 by omega)]; rfl
theorem OD {x y Z : Option aj} (hx : x = Z) (hy : y = Z) : meet x y = Z := by
 rw [hx, hy]; unfold meet; rw [if_pos rfl]
theorem afH {α : Type} {x : α} {c : Bool} {F A Z : Option ρ} (hc : c = true) (h : A = Z) : (bif c then (bif !(wG x x) then F else A) else none) = Z := by
 rw [hc, wJ]; exact h
theorem ah3 {x : Int} {F A Z : Option ρ} (h : A = Z) : (bif x != x then F else A) = Z := by
 rw [bne_self_eq_false]; exact h
theorem aji {x y : Int} {F A Z : Option ρ} (hxy : x = y) (h : A = Z) : (bif x != y then F else A) = Z := by
 rw [hxy, bne_self_eq_false]; exact h
theorem alQ {k : Int} {F A Z : Option ρ} (hk : 0 ≤ k) (h : A = Z) : (bif decide (k < 0) then F else A) = Z := by
 rw [decide_eq_false (show ¬ k < 0 by omega)]; exact h
theorem ajj {a b : Bool} {k : Int} {n : Nat} {A Z : Option ρ} (h1 : a = true) (h2 : b = true) (h3 : 0 ≤ k) (h4 : k + (n : Nat) ≤ 4611686018427387904) (h : A = Z) : (bif a && (b && decide ((0 : Int) ≤ k) && decide (k + ((n : Nat) : Int) ≤ 4611686018427387904)) then A else none) = Z := by
 rw [h1, h2, decide_eq_true h3, decide_eq_true h4]
 exact h
end
end Go.Ev
end
section
set_option linter.unusedVariables false
namespace Go.Ev
def noC : V → V
 | .l _ r xs => .l .no r xs
 | v => v
def noV : V → V
 | .a cs => .a (cs.map noC)
 | v => noC v
def noR : V → V
 | .t us => .t (us.map noV)
 | u => noV u
section
variable {w : World}
theorem alR {r : Rw} {xs : List r.T} {c : Value} {F M : List Nat} {e e' : Bool} (h : EG (ji w e r) w e' r.n xs c F) (hM : ∀ b ∈ F, b ∈ M) : VR (Cx.ext (· ∈ M)) w (.l .no r xs) c :=
 ⟨F, h.loose, hM⟩
theorem jy.no {v : V} {c : Value} {O M H : List Nat} (h : jy w v c O M H) : ∃ M', jy w (noC v) c [] M' [] ∧ ∀ x ∈ M', x ∈ M ∨ x ∈ O := by
 unfold jy at h
 split at h
 ·rename_i r xs
  obtain ⟨h1, _, _⟩ := h
  exact ⟨O, jy.plain (alR h1 (fun _ h => h)) (by simp [noC]) (by simp [noC]) (by simp [noC]), fun x hx => .inr hx⟩
 ·rename_i r xs
  obtain ⟨F, h1, rfl, rfl, _⟩ := h
  refine ⟨F, jy.plain (alR h1 (fun _ h => h)) (by simp [noC]) (by simp [noC]) (by simp [noC]), fun x hx => ?_⟩
  cases F with
  | nil => cases hx
  | cons b F =>
   rcases List.mem_cons.1 hx with rfl | hx
   ·exact .inr (by simp)
   ·exact .inl (by simpa using hx)
 ·rename_i r xs
  obtain ⟨h1, _, _⟩ := h
  exact ⟨O, jy.plain (alR h1 (fun _ h => h)) (by simp [noC]) (by simp [noC]) (by simp [noC]), fun x hx => .inr hx⟩
 ·rename_i n1 n2 n3
  obtain ⟨h1, _, _⟩ := h
  cases v with
  | l o r xs =>
   cases o with
   | no => exact ⟨M, jy.plain h1 (by simp [noC]) (by simp [noC]) (by simp [noC]), fun x hx => .inl hx⟩
   | deep => exact absurd rfl (n1 _ _)
   | top => exact absurd rfl (n2 _ _)
   | own => exact absurd rfl (n3 _ _)
  | _ => exact ⟨M, jy.plain h1 (by simp [noC]) (by simp [noC]) (by simp [noC]), fun x hx => .inl hx⟩
theorem kS.no : ∀ {cs : List V} {vs : List Value} {O M H : List Nat}, kS w cs vs O M H → ∃ M', kS w (cs.map noC) vs [] M' [] ∧ ∀ x ∈ M', x ∈ M ∨ x ∈ O
 | [], _, _, _, _, ⟨h1, h2, h3, h4⟩ => ⟨[], ⟨h1, rfl, rfl, rfl⟩, fun _ h => (nomatch h)⟩
 | c :: cs, _, _, _, _, ⟨v, vs', O1, O2, M1, M2, H1, H2, h1, h2, h3, h4, h5, h6⟩ => by
  obtain ⟨A, a1, a2⟩ := h5.no
  obtain ⟨B, b1, b2⟩ := kS.no h6
  refine ⟨A ++ B, ⟨v, vs', [], [], A, B, [], [], h1, rfl, rfl, rfl, a1, b1⟩, fun x hx => ?_⟩
  rw [h2, h3]
  rcases List.mem_append.1 hx with hx | hx
  ·rcases a2 x hx with h | h
   ·exact .inl (List.mem_append.2 (.inl h))
   ·exact .inr (List.mem_append.2 (.inl h))
  ·rcases b2 x hx with h | h
   ·exact .inl (List.mem_append.2 (.inr h))
   ·exact .inr (List.mem_append.2 (.inr h))
def V.alS : V → Bool
 | .io _ => true
 | _ => false
theorem rW.no {v : V} {c : Value} {O M H : List Nat} (h : rW w v c O M H) (hv : v.alS = false) : ∃ M', rW w (noV v) c [] M' [] ∧ ∀ x ∈ M', x ∈ M ∨ x ∈ O := by
 unfold rW at h
 split at h
 ·cases hv
 ·rename_i cs
  obtain ⟨vs, rfl, h2⟩ := h
  obtain ⟨M', a1, a2⟩ := h2.no
  exact ⟨M', ⟨vs, rfl, a1⟩, a2⟩
 ·rename_i n1 n2
  obtain ⟨M', a1, a2⟩ := h.no
  refine ⟨M', ?_, a2⟩
  cases v with
  | a cs => exact absurd rfl (n2 _)
  | io cs => exact absurd rfl (n1 _)
  | _ => exact a1
theorem jH.no : ∀ {us : List V} {vs : List Value} {O M H : List Nat}, jH w us vs O M H → us.all (fun u => !u.alS) = true → ∃ M', jH w (us.map noV) vs [] M' [] ∧ ∀ x ∈ M', x ∈ M ∨ x ∈ O
 | [], _, _, _, _, ⟨h1, h2, h3, h4⟩, _ => ⟨[], ⟨h1, rfl, rfl, rfl⟩, fun _ h => (nomatch h)⟩
 | c :: cs, _, _, _, _, ⟨v, vs', O1, O2, M1, M2, H1, H2, h1, h2, h3, h4, h5, h6⟩, hi => by
  simp only [List.all_cons, Bool.and_eq_true, Bool.not_eq_true'] at hi
  obtain ⟨A, a1, a2⟩ := h5.no hi.1
  obtain ⟨B, b1, b2⟩ := jH.no h6 hi.2
  refine ⟨A ++ B, ⟨v, vs', [], [], A, B, [], [], h1, rfl, rfl, rfl, a1, b1⟩, fun x hx => ?_⟩
  rw [h2, h3]
  rcases List.mem_append.1 hx with hx | hx
  ·rcases a2 x hx with h | h
   ·exact .inl (List.mem_append.2 (.inl h))
   ·exact .inr (List.mem_append.2 (.inl h))
  ·rcases b2 x hx with h | h
   ·exact .inl (List.mem_append.2 (.inr h))
   ·exact .inr (List.mem_append.2 (.inr h))
def V.alT : V → Bool
 | .t us => us.all (fun u => !u.alS)
 | u => !u.alS
theorem Ik.no {u : V} {c : Value} {O M H : List Nat} (h : Ik w u c O M H) (hu : u.alT = true) : ∃ M', Ik w (noR u) c [] M' [] ∧ ∀ x ∈ M', x ∈ M ∨ x ∈ O := by
 unfold Ik at h
 split at h
 ·obtain ⟨vs, rfl, h2⟩ := h
  obtain ⟨M', a1, a2⟩ := h2.no hu
  exact ⟨M', ⟨vs, rfl, a1⟩, a2⟩
 ·rename_i n1
  cases u with
  | t us => exact absurd rfl (n1 _)
  | io cs => simp [V.alT, V.alS] at hu
  | a cs =>
   obtain ⟨M', a1, a2⟩ := rW.no h rfl
   exact ⟨M', a1, a2⟩
  | l o r xs =>
   obtain ⟨M', a1, a2⟩ := rW.no h rfl
   exact ⟨M', a1, a2⟩
  | _ =>
   obtain ⟨M', a1, a2⟩ := rW.no h rfl
   exact ⟨M', a1, a2⟩
end
theorem jH.aoP {w : World} {us : List V} {vs : List Value} {O M H : List Nat} (h : jH w us vs O M H) : ∀ x ∈ H, x ∈ O := h.hsub
def apV (G : Sm) : Sm := fun ws K => G ws fun q => bif q.1.alT then K (noR q.1, q.2) else none
theorem aT.no {P : Program} {I : Nat → World → Prop} {g : FuncId} {f : Bool} {G : Sm} (h : aT P I g f G) : aT P I g false (apV G) := by
 refine ⟨h.1, fun ws K r hr B0 w0 w N vs O M H hI hb hB hA hnd hO hM hH hN => ?_⟩
 refine Calls.mono (h.2 ws _ r hr B0 w0 w N vs O M H hI hb hB hA hnd hO hM hH hN) (fun e w' he => ?_)
 cases e with
 | returned c =>
  obtain ⟨q, hq, hk⟩ := he
  cases ho : q.1.alT with
  | false => simp only [ho, cond_false] at hq; cases hq
  | true =>
   simp only [ho, cond_true] at hq
   refine ⟨_, hq, ?_⟩
   obtain ⟨⟨O1, M1, H1, O2, M2, H2, e1, e2, e3, e4, e5, e6⟩, k2, k3, k4⟩ := hk
   obtain ⟨M', a1, a2⟩ := e1.no ho
   refine ⟨⟨[], M', [], O2, M2, H2, a1, e2, ?_, fun x hx => e4 x (List.mem_append.2 (.inr (by simpa using hx))), fun x hx => ?_, fun x hx => ?_⟩, k2, k3, k4⟩
   ·exact (List.nodup_append.1 e3).2.1
   ·rcases List.mem_append.1 hx with hx | hx
    ·rcases a2 x hx with hx | hx
     ·obtain ⟨g1, g2, _⟩ := e5 x (List.mem_append.2 (.inl hx))
      exact ⟨g1, g2, fun h => by cases h⟩
     ·obtain ⟨g1, g2⟩ := e4 x (List.mem_append.2 (.inl hx))
      exact ⟨.inr g1, g2, fun h => by cases h⟩
    ·obtain ⟨g1, g2, _⟩ := e5 x (List.mem_append.2 (.inr hx))
     exact ⟨g1, g2, fun h => by cases h⟩
   ·have hx' : x ∈ H2 := by simpa using hx
    obtain ⟨g1, g2⟩ := e6 x (List.mem_append.2 (.inr hx'))
    refine ⟨fun hm => ?_, g2⟩
    rcases List.mem_append.1 hm with hm | hm
    ·rcases a2 x hm with hm | hm
     ·exact g1 (List.mem_append.2 (.inl hm))
     ·exact (List.nodup_append.1 e3).2.2 x hm x (e2.aoP x hx') rfl
    ·exact g1 (List.mem_append.2 (.inr hm))
 | _ => exact he
end Go.Ev
end
section
set_option linter.unusedVariables false
namespace Go.Ev
def Cc.nZ : (c : Cc) → V → Option c.T
 | .sl _, .nl => some []
 | c, v => c.dec v
def Rw.nZ : (r : Rw) → List V → Option r.T
 | .one c, [v] => c.nZ v
 | .cons c r, v :: vs => match c.nZ v with
  | some d => match r.nZ vs with
   | some e => some (d, e)
   | none => none
  | none => none
 | _, _ => none
def Ak.nZ : (k : Ak) → V → Option k.T
 | .a r, .a cs => r.nZ cs
 | .l r, v => (Cc.sl r).nZ v
 | k, v => k.dec v
def sgN : (ks : List Ak) → List V → Option (SgT ks)
 | [], [] => some ()
 | k :: ks, v :: vs => match k.nZ v with
  | some d => match sgN ks vs with
   | some e => some (d, e)
   | none => none
  | none => none
 | _, _ => none
section
variable {w : World}
theorem jy.nlN {r : Rw} {c : Value} {O M H : List Nat} (h : jy w .nl c O M H) : jy w (.l .no r []) c O M H := by
 obtain ⟨h1, h2, h3⟩ := h
 have h1' : c = .slice none 0 0 := h1
 exact ⟨⟨[], .inl ⟨rfl, rfl, none, 0, h1', fun _ => ⟨rfl, rfl⟩⟩, fun _ h => nomatch h⟩, h2, h3⟩
theorem Cc.adt : (c : Cc) → {v : V} → {d : c.T} → c.nZ v = some d → (v = .nl ∧ ∃ r, c.cell .no d = .l .no r []) ∨ v = c.cell .no d
 | .sl r, v, d, h => by
  cases v with
  | nl =>
   have h' : (some [] : Option (List r.T)) = some d := h
   cases h'
   exact .inl ⟨rfl, r, rfl⟩
  | _ => exact .inr (Cc.iL (.sl r) h)
 | .int k, v, d, h => .inr (Cc.iL (.int k) (by cases v <;> simpa [Cc.nZ] using h))
 | .bool, v, d, h => .inr (Cc.iL .bool (by cases v <;> simpa [Cc.nZ] using h))
 | .str, v, d, h => .inr (Cc.iL .str (by cases v <;> simpa [Cc.nZ] using h))
theorem Cc.MB {c : Cc} {v : V} {d : c.T} (h : c.nZ v = some d) {x : Value} {O M H : List Nat} (hc : jy w v x O M H) : jy w (c.cell .no d) x O M H := by
 rcases Cc.adt c h with ⟨rfl, r, e⟩ | e
 ·rw [e]; exact hc.nlN
 ·rw [← e]; exact hc
theorem Rw.MB : (r : Rw) → {cs : List V} → {d : r.T} → r.nZ cs = some d → ∀ {vs : List Value} {O M H : List Nat}, kS w cs vs O M H → kS w (r.cells .no d) vs O M H
 | .one c, cs, d, h, vs, O, M, H, hc => by
  match cs, h, hc with
  | [v], h, ⟨v1, vs', O1, O2, M1, M2, H1, H2, a1, a2, a3, a4, a5, a6⟩ =>
   exact ⟨v1, vs', O1, O2, M1, M2, H1, H2, a1, a2, a3, a4, Cc.MB (c := c) h a5, a6⟩
  | [], h, _ => simp [Rw.nZ] at h
  | _ :: _ :: _, h, _ => simp [Rw.nZ] at h
 | .cons c r, cs, d, h, vs, O, M, H, hc => by
  match cs, h, hc with
  | v :: us, h, ⟨v1, vs', O1, O2, M1, M2, H1, H2, a1, a2, a3, a4, a5, a6⟩ =>
   simp only [Rw.nZ] at h
   split at h
   ·rename_i d1 e1
    split at h
    ·rename_i d2 e2
     cases h
     exact ⟨v1, vs', O1, O2, M1, M2, H1, H2, a1, a2, a3, a4, Cc.MB (c := c) e1 a5, Rw.MB r e2 a6⟩
    ·cases h
   ·cases h
  | [], h, _ => simp [Rw.nZ] at h
theorem acd {v : V} (h : ∀ cs, v ≠ .a cs) (h2 : ∀ cs, v ≠ .io cs) {x : Value} {O M H : List Nat} : rW w v x O M H ↔ jy w v x O M H := by
 cases v with
 | a cs => exact absurd rfl (h cs)
 | io cs => exact absurd rfl (h2 cs)
 | _ => exact Iff.rfl
theorem Ak.MB : (k : Ak) → {v : V} → {d : k.T} → k.nZ v = some d → ∀ {x : Value} {O M H : List Nat}, rW w v x O M H → rW w (k.v d) x O M H
 | .a r, v, d, h, x, O, M, H, ha => by
  cases v with
  | a cs =>
   obtain ⟨vs, h1, h2⟩ := ha
   exact ⟨vs, h1, Rw.MB r h h2⟩
  | _ => simp [Ak.nZ, Ak.dec] at h
 | .l r, v, d, h, x, O, M, H, ha => by
  have h' : (Cc.sl r).nZ v = some d := by cases v <;> simpa [Ak.nZ] using h
  have hv : (∀ cs, v ≠ .a cs) ∧ (∀ cs, v ≠ .io cs) := by
   cases v with
   | a cs => simp [Cc.nZ, Cc.dec] at h'
   | io cs => simp [Cc.nZ, Cc.dec] at h'
   | _ => exact ⟨fun _ h => (nomatch h), fun _ h => (nomatch h)⟩
  exact (acd (v := V.l .no r d) (fun _ h => nomatch h) (fun _ h => nomatch h)).2 (Cc.MB (c := .sl r) h' ((acd hv.1 hv.2).1 ha))
 | .i, v, d, h, x, O, M, H, ha => by
  have h' : Ak.dec .i v = some d := by cases v <;> simpa [Ak.nZ] using h
  rw [Ak.iL .i h'] at ha; exact ha
 | .b, v, d, h, x, O, M, H, ha => by
  have h' : Ak.dec .b v = some d := by cases v <;> simpa [Ak.nZ] using h
  rw [Ak.iL .b h'] at ha; exact ha
 | .sc1 k, v, d, h, x, O, M, H, ha => by
  have h' : Ak.dec (.sc1 k) v = some d := by cases v <;> simpa [Ak.nZ] using h
  rw [Ak.iL (.sc1 k) h'] at ha; exact ha
 | .sh s, v, d, h, x, O, M, H, ha => by
  have h' : Ak.dec (.sh s) v = some d := by cases v <;> simpa [Ak.nZ] using h
  rw [Ak.iL (.sh s) h'] at ha; exact ha
theorem Qg (c : Cc) (d : c.T) : (c.cell .no d).Rh = false := by cases c <;> rfl
theorem WH : (r : Rw) → (d : r.T) → (r.cells .no d).any V.Rh = false
 | .one c, d => by simp [Rw.cells, Qg]
 | .cons c r, d => by simp only [Rw.cells, List.any_cons, Qg, WH r, Bool.or_self]
theorem Cc.MC {c : Cc} {v : V} {d : c.T} (h : c.nZ v = some d) : v.Rh = false := by
 rcases Cc.adt c h with ⟨rfl, _⟩ | e
 ·rfl
 ·rw [e]; exact Qg c d
theorem Rw.MC : (r : Rw) → {cs : List V} → {d : r.T} → r.nZ cs = some d → cs.any V.Rh = false
 | .one c, cs, d, h => by
  match cs, h with
  | [v], h => simp only [List.any_cons, List.any_nil, Bool.or_false]; exact Cc.MC (c := c) h
  | [], h => simp [Rw.nZ] at h
  | _ :: _ :: _, h => simp [Rw.nZ] at h
 | .cons c r, cs, d, h => by
  match cs, h with
  | v :: us, h =>
   simp only [Rw.nZ] at h
   split at h
   ·rename_i d1 e1
    split at h
    ·rename_i d2 e2
     simp only [List.any_cons, Cc.MC (c := c) e1, Rw.MC r e2, Bool.or_self]
    ·cases h
   ·cases h
  | [], h => simp [Rw.nZ] at h
theorem Ak.akc (k : Ak) {v : V} {d : k.T} (h : k.nZ v = some d) : v.back = (k.v d).back := by
 cases k with
 | a r =>
  cases v with
  | a cs =>
   have h' : r.nZ cs = some d := h
   show cs.any V.Rh = (r.cells .no d).any V.Rh
   rw [Rw.MC r h', WH]
  | _ => simp [Ak.nZ, Ak.dec] at h
 | l r =>
  have h' : (Cc.sl r).nZ v = some d := by cases v <;> simpa [Ak.nZ] using h
  rcases Cc.adt (.sl r) h' with ⟨rfl, _⟩ | e
  ·rfl
  ·rw [e]; rfl
 | i =>
  have h' : Ak.dec .i v = some d := by cases v <;> simpa [Ak.nZ] using h
  rw [Ak.iL .i h']
 | b =>
  have h' : Ak.dec .b v = some d := by cases v <;> simpa [Ak.nZ] using h
  rw [Ak.iL .b h']
 | sc1 k =>
  have h' : Ak.dec (.sc1 k) v = some d := by cases v <;> simpa [Ak.nZ] using h
  rw [Ak.iL (.sc1 k) h']
 | sh s =>
  have h' : Ak.dec (.sh s) v = some d := by cases v <;> simpa [Ak.nZ] using h
  rw [Ak.iL (.sh s) h']
end
def ace (ws ws' : List V) : Prop := (∀ (w : World) (vs : List Value) (O M H : List Nat), jH w ws vs O M H → jH w ws' vs O M H) ∧ ∀ (vs : List Value), ptrs ws vs = ptrs ws' vs
theorem ace.rfl' (ws : List V) : ace ws ws := ⟨fun _ _ _ _ _ h => h, fun _ => rfl⟩
theorem alU : (ks : List Ak) → {ws : List V} → {d : SgT ks} → sgN ks ws = some d → ace ws (sgV ks d)
 | [], [], d, h => ace.rfl' _
 | [], _ :: _, d, h => by simp [sgN] at h
 | k :: ks, [], d, h => by simp [sgN] at h
 | k :: ks, v :: ws, d, h => by
  simp only [sgN] at h
  split at h
  ·rename_i d1 e1
   split at h
   ·rename_i d2 e2
    cases h
    have ih := alU ks e2
    refine ⟨fun w vs O M H ⟨x, xs, O1, O2, M1, M2, H1, H2, a1, a2, a3, a4, a5, a6⟩ => ⟨x, xs, O1, O2, M1, M2, H1, H2, a1, a2, a3, a4, Ak.MB k e1 a5, ih.1 w xs O2 M2 H2 a6⟩, fun vs => ?_⟩
    show ptrs (v :: ws) vs = ptrs (k.v d1 :: sgV ks d2) vs
    cases vs with
    | nil => rfl
    | cons x xs => simp only [ptrs, Ak.akc k e1, ih.2 xs]
   ·cases h
  ·cases h
theorem lN {P : Program} {I : Nat → World → Prop} {g : FuncId} {f : Bool} {S G : Sm} (hG : aT P I g f G) (h : ∀ ws K q, S ws K = some q → ∃ ws', ace ws ws' ∧ G ws' K = some q) : aT P I g f S :=
 ⟨hG.1, fun ws K r hr B0 w0 w N vs O M H hI hb hB hA => by
  obtain ⟨ws', hn, h3⟩ := h ws K r hr
  have := hG.2 ws' K r h3 B0 w0 w N vs O M H hI hb hB (hn.1 w vs O M H hA)
  rw [hn.2 vs]
  exact this⟩
def noK (K : aj → Option aj) : aj → Option aj := fun q => bif q.1.alT then K (noR q.1, q.2) else none
def bD (ks : List Ak) (pre : SgT ks → Bool) (f : SgT ks → aj) : Sm := fun vs K => match sgN ks vs with
 | some d => bif pre d then K (f d) else none
 | none => none
theorem aK {ks : List Ak} {pre : SgT ks → Bool} {f : SgT ks → aj} {G : Sm} (h : ∀ d K, pre d = true → G (sgV ks d) K = K (f d)) : ∀ ws K q, bD ks pre f ws K = some q → ∃ ws', ace ws ws' ∧ G ws' K = some q := by
 intro ws K q hr
 unfold bD at hr
 split at hr
 ·rename_i d hd
  cases hp : pre d with
  | false => rw [hp] at hr; cases hr
  | true => rw [hp] at hr; exact ⟨_, alU ks hd, (h d K hp).trans hr⟩
 ·cases hr
end Go.Ev
end
section
set_option linter.unusedVariables false
namespace Go.Ev
open Go.RowKit
def isB (x : Int) : Bool := decide (0 ≤ x) && decide (x ≤ 255)
def aO (xs : List Int) : Bool := Nat.ble xs.length 1048576 && xs.all isB
theorem oP {xs : List Int} (h : aO xs = true) : xs.length ≤ 1048576 := by
 unfold aO at h; rw [Bool.and_eq_true] at h; exact Nat.le_of_ble_eq_true h.1
theorem wL {xs : List Int} (h : aO xs = true) {x : Int} (hx : x ∈ xs) : 0 ≤ x ∧ x ≤ 255 := by
 unfold aO at h; rw [Bool.and_eq_true, List.all_eq_true] at h
 have := h.2 x hx
 simpa [isB] using this
theorem zy {xs : List Int} (h : aO xs = true) (i : Nat) : 0 ≤ xs.getD i 0 ∧ xs.getD i 0 ≤ 255 := by
 rw [List.getD_eq_getElem?_getD]
 rcases Nat.lt_or_ge i xs.length with hi | hi
 ·rw [List.getElem?_eq_getElem hi]; exact wL h (List.getElem_mem hi)
 ·rw [List.getElem?_eq_none hi]; simp
theorem ajk {xs : List Int} (h1 : xs.length ≤ 1048576) (h2 : ∀ x ∈ xs, 0 ≤ x ∧ x ≤ 255) : aO xs = true := by
 unfold aO; rw [Bool.and_eq_true, List.all_eq_true]
 exact ⟨Nat.ble_eq_true_of_le h1, fun x hx => by simpa [isB] using h2 x hx⟩
theorem alV {xs ys : List Int} (h : aO xs = true) (hl : ys.length ≤ xs.length) (hs : ∀ y ∈ ys, y ∈ xs) : aO ys = true :=
 ajk (Nat.le_trans hl (oP h)) (fun y hy => wL h (hs y hy))
theorem oQ {xs : List Int} (h : aO xs = true) (n : Nat) : aO (xs.drop n) = true := alV h (by simp) (fun y hy => List.mem_of_mem_drop hy)
theorem wrap64 {n : Nat} (h : n < 18446744073709551616) : IntKind.u64.wrap (n : Int) = n := by
 have e : IntKind.u64.wrap (n : Int) = (n : Int) % 18446744073709551616 := by
  simp only [IntKind.wrap, IntKind.bits, IntKind.signed]; simp
 rw [e]; omega
theorem OE (k n : Nat) : BitVec.ofInt k (n : Int) = BitVec.ofNat k n := by
 apply BitVec.eq_of_toNat_eq
 simp [BitVec.toNat_ofInt, BitVec.toNat_ofNat]
theorem MF {a b : Nat} (ha : a < 18446744073709551616) (hb : b < 18446744073709551616) : Uj .u64 a b = ((a ||| b : Nat) : Int) := by
 unfold Uj
 have e : (BitVec.ofInt IntKind.u64.bits (a : Int) ||| BitVec.ofInt IntKind.u64.bits (b : Int)).toNat = a ||| b := by
  show (BitVec.ofInt 64 (a : Int) ||| BitVec.ofInt 64 (b : Int)).toNat = _
  rw [OE, OE, BitVec.toNat_or, BitVec.toNat_ofNat, BitVec.toNat_ofNat, Nat.mod_eq_of_lt (by omega), Nat.mod_eq_of_lt (by omega)]
 rw [e]; exact wrap64 (Nat.or_lt_two_pow (n := 64) ha hb)
theorem ah4 {a b : Nat} (ha : a < 18446744073709551616) (hb : b < 18446744073709551616) : band .u64 a b = ((a &&& b : Nat) : Int) := by
 unfold band
 have e : (BitVec.ofInt IntKind.u64.bits (a : Int) &&& BitVec.ofInt IntKind.u64.bits (b : Int)).toNat = a &&& b := by
  show (BitVec.ofInt 64 (a : Int) &&& BitVec.ofInt 64 (b : Int)).toNat = _
  rw [OE, OE, BitVec.toNat_and, BitVec.toNat_ofNat, BitVec.toNat_ofNat, Nat.mod_eq_of_lt (by omega), Nat.mod_eq_of_lt (by omega)]
 rw [e]; exact wrap64 (Nat.and_lt_two_pow (n := 64) a hb)
def M8 : Nat := 9259542123273814144
def am8 : Bool := (List.range 256).all fun b => (List.range 8).all fun i => ((b * 2 ^ (8 * i)) &&& M8 == 0) == decide (b < 128)
theorem alW : am8 = true := by kernel_rfl
theorem WI {b i : Nat} (hb : b < 256) (hi : i < 8) : (b * 2 ^ (8 * i)) &&& M8 = 0 ↔ b < 128 := by
 have h := alW
 unfold am8 at h
 rw [List.all_eq_true] at h
 have h1 := h b (List.mem_range.2 hb)
 rw [List.all_eq_true] at h1
 have h2 := h1 i (List.mem_range.2 hi)
 simp only [beq_iff_eq] at h2
 rw [Bool.eq_iff_iff] at h2
 simpa using h2
theorem or_mask (a b m : Nat) : (a ||| b) &&& m = 0 ↔ a &&& m = 0 ∧ b &&& m = 0 := by
 rw [Nat.and_or_distrib_right, Nat.or_eq_zero_iff]
theorem Y8 {b : Nat} {i : Nat} (hb : b < 256) (hi : i < 8) : OM .u64 (IntKind.wrap .u64 (b : Int)) ((8 * i : Nat) : Int) = ((b * 2 ^ (8 * i) : Nat) : Int) := by
 unfold OM
 rw [wrap64 (by omega)]
 have e : ((b : Int) * 2 ^ (min ((8 * i : Nat) : Int).toNat IntKind.u64.bits)) = ((b * 2 ^ (8 * i) : Nat) : Int) := by
  have : min ((8 * i : Nat) : Int).toNat IntKind.u64.bits = 8 * i := by
   show min _ 64 = _
   rw [Int.toNat_natCast]; omega
  rw [this]; push_cast; rfl
 rw [e]
 refine wrap64 ?_
 have : 2 ^ (8 * i) ≤ 2 ^ 56 := Nat.pow_le_pow_right (by omega) (by omega)
 have h2 : b * 2 ^ (8 * i) ≤ 255 * 2 ^ 56 := Nat.mul_le_mul (by omega) this
 have : (255 * 2 ^ 56 : Nat) < 18446744073709551616 := by decide
 omega
theorem Qh {b i : Nat} (hb : b < 256) (hi : i < 8) : b * 2 ^ (8 * i) < 18446744073709551616 := by
 have : 2 ^ (8 * i) ≤ 2 ^ 56 := Nat.pow_le_pow_right (by omega) (by omega)
 have h2 : b * 2 ^ (8 * i) ≤ 255 * 2 ^ 56 := Nat.mul_le_mul (by omega) this
 have : (255 * 2 ^ 56 : Nat) < 18446744073709551616 := by decide
 omega
def lo3 (b : Int) : Int := if b = 224 then 160 else 128
def hi3 (b : Int) : Int := if b = 237 then 159 else 191
def lo4 (b : Int) : Int := if b = 240 then 144 else 128
def hi4 (b : Int) : Int := if b = 244 then 143 else 191
def aN (xs : List Int) : Nat :=
 if xs.length = 0 then 0
 else if xs.getD 0 0 < 128 then 1
 else if xs.getD 0 0 < 194 then 0
 else if xs.getD 0 0 < 224 then (if 2 ≤ xs.length ∧ 128 ≤ xs.getD 1 0 ∧ xs.getD 1 0 ≤ 191 then 2 else 0)
 else if xs.getD 0 0 < 240 then (if 3 ≤ xs.length ∧ lo3 (xs.getD 0 0) ≤ xs.getD 1 0 ∧ xs.getD 1 0 ≤ hi3 (xs.getD 0 0) ∧ 128 ≤ xs.getD 2 0 ∧ xs.getD 2 0 ≤ 191 then 3 else 0)
 else if xs.getD 0 0 < 245 then (if 4 ≤ xs.length ∧ lo4 (xs.getD 0 0) ≤ xs.getD 1 0 ∧ xs.getD 1 0 ≤ hi4 (xs.getD 0 0) ∧ 128 ≤ xs.getD 2 0 ∧ xs.getD 2 0 ≤ 191 ∧ 128 ≤ xs.getD 3 0 ∧ xs.getD 3 0 ≤ 191 then 4 else 0)
 else 0
theorem mW (xs : List Int) : aN xs ≤ xs.length := by
 unfold aN; repeat' split
 all_goals omega
theorem ah5 (xs : List Int) : aN xs ≤ 4 := by
 unfold aN; repeat' split
 all_goals omega
def valid (xs : List Int) : Bool := if h : aN xs = 0 then xs.isEmpty else valid (xs.drop (aN xs))
termination_by xs.length
decreasing_by
 have := mW xs
 simp; omega
theorem OG : valid [] = true := by unfold valid; rfl
theorem JW {xs : List Int} (h : aN xs = 0) (hl : 0 < xs.length) : valid xs = false := by
 unfold valid; rw [dif_pos h]; cases xs with
 | nil => simp at hl
 | cons _ _ => rfl
theorem yE {xs : List Int} (h : aN xs ≠ 0) : valid xs = valid (xs.drop (aN xs)) := by
 conv => lhs; unfold valid
 rw [dif_neg h]
theorem adu {xs : List Int} (hl : 0 < xs.length) (h : xs.getD 0 0 < 128) : aN xs = 1 := by
 unfold aN; rw [if_neg (by omega), if_pos h]
theorem getD_drop (xs : List Int) (n i : Nat) : (xs.drop n).getD i 0 = xs.getD (n + i) 0 := by
 simp [List.getD_eq_getElem?_getD, List.getElem?_drop]
theorem JX {xs : List Int} : ∀ (n : Nat), n ≤ xs.length → (∀ i, i < n → xs.getD i 0 < 128) → valid (xs.drop n) = valid xs
 | 0, _, _ => rfl
 | n + 1, hl, h => by
  have ih := JX n (by omega) (fun i hi => h i (by omega))
  rw [← ih]
  have e : aN (xs.drop n) = 1 := adu (by simp; omega) (by rw [getD_drop]; exact h _ (by omega))
  rw [yE (xs := xs.drop n) (by rw [e]; omega), e, List.drop_drop]
def fsz (b : Int) : Int := IntKind.wrap .i64 (band .u8 (List.getD gU (Int.toNat b) 0) 7)
def fsh (b : Int) : Int := JQ .u8 (List.getD gU (Int.toNat b) 0) 4
def fac (b : Int) : Int × Int := List.getD jJ (Int.toNat (fsh b)) (0, 0)
def FY (b : Int) : Bool := decide (0 ≤ fsh b) && decide (fsh b < 16) &&
 (if b < 128 then true else if b < 194 ∨ 245 ≤ b then fsz b == 1 else if b < 224 then fsz b == 2 && fac b == (128, 191) else if b < 240 then fsz b == 3 && fac b == (lo3 b, hi3 b) else fsz b == 4 && fac b == (lo4 b, hi4 b))
theorem afI : ((List.range 256).all fun n => FY n) = true := by kernel_rfl
theorem MG {b : Int} (h0 : 0 ≤ b) (h1 : b ≤ 255) : FY b = true := by
 obtain ⟨n, rfl⟩ : ∃ n : Nat, b = n := ⟨b.toNat, by omega⟩
 have h := afI
 rw [List.all_eq_true] at h
 exact h n (List.mem_range.2 (by omega))
theorem alX {b : Int} (h0 : 0 ≤ b) (h1 : b ≤ 255) : 0 ≤ fsh b ∧ fsh b < 16 := by
 have h := MG h0 h1
 unfold FY at h
 simp only [Bool.and_eq_true, decide_eq_true_eq] at h
 exact h.1
theorem amR {b : Int} (h0 : 128 ≤ b) (h1 : b ≤ 255) (h2 : b < 194 ∨ 245 ≤ b) : fsz b = 1 := by
 have h := MG (by omega) h1
 unfold FY at h
 rw [if_neg (by omega), if_pos h2] at h
 simp only [Bool.and_eq_true, beq_iff_eq] at h
 exact h.2
theorem amS {b : Int} (h0 : 194 ≤ b) (h1 : b < 224) : fsz b = 2 ∧ fac b = (128, 191) := by
 have h := MG (b := b) (by omega) (by omega)
 unfold FY at h
 rw [if_neg (by omega), if_neg (by omega), if_pos h1] at h
 simp only [Bool.and_eq_true, beq_iff_eq] at h
 exact h.2
theorem amT {b : Int} (h0 : 224 ≤ b) (h1 : b < 240) : fsz b = 3 ∧ fac b = (lo3 b, hi3 b) := by
 have h := MG (b := b) (by omega) (by omega)
 unfold FY at h
 rw [if_neg (by omega), if_neg (by omega), if_neg (by omega), if_pos h1] at h
 simp only [Bool.and_eq_true, beq_iff_eq] at h
 exact h.2
theorem amU {b : Int} (h0 : 240 ≤ b) (h1 : b < 245) : fsz b = 4 ∧ fac b = (lo4 b, hi4 b) := by
 have h := MG (b := b) (by omega) (by omega)
 unfold FY at h
 rw [if_neg (by omega), if_neg (by omega), if_neg (by omega), if_neg (by omega)] at h
 simp only [Bool.and_eq_true, beq_iff_eq] at h
 exact h.2
theorem ake : gU.length = 256 := by kernel_rfl
theorem ah6 : jJ.length = 16 := by kernel_rfl
def aS (xs : List Int) : Bool := Nat.ble xs.length 400 && valid xs
theorem ajl {n : Int} (h0 : 0 ≤ n) (h1 : n ≤ 255) : IntKind.u8.wrap n = n := by
 have e : IntKind.u8.wrap n = n % 256 := by
  simp only [IntKind.wrap, IntKind.bits, IntKind.signed]; simp
 rw [e]; omega
def wB (r : Int) : List Int :=
 if r < 0 ∨ 1114111 < r ∨ (55296 ≤ r ∧ r ≤ 57343) then []
 else if r < 128 then [r]
 else if r < 2048 then [192 + r / 64, 128 + r % 64]
 else if r < 65536 then [224 + r / 4096, 128 + r / 64 % 64, 128 + r % 64]
 else [240 + r / 262144, 128 + r / 4096 % 64, 128 + r / 64 % 64, 128 + r % 64]
def Y9 (b : Int) : Bool := decide (128 ≤ b) && decide (b ≤ 191)
def ajm (b : Int) : Bool := (band .u8 b 192 != 128) == !Y9 b
theorem ah7 : ((List.range 256).all fun n => ajm n) = true := by kernel_rfl
theorem amV {b : Int} (h0 : 0 ≤ b) (h1 : b ≤ 255) : (band .u8 b 192 != 128) = !Y9 b := by
 obtain ⟨n, rfl⟩ : ∃ n : Nat, b = n := ⟨b.toNat, by omega⟩
 have h := ah7
 rw [List.all_eq_true] at h
 have := h n (List.mem_range.2 (by omega))
 simpa [ajm] using this
def dh (t : List Int) (k : Int) : Bool := k == ((t.length : Nat) : Int) || (decide (0 ≤ k) && decide (k < ((t.length : Nat) : Int)) && !Y9 (t.getD k.toNat 0))
def bounds (xs : List Int) (k : Int) : List Int := if h : aN xs = 0 then [k] else k :: bounds (xs.drop (aN xs)) (k + (aN xs : Nat))
termination_by xs.length
decreasing_by
 have := mW xs
 simp; omega
theorem MH {xs : List Int} (h : aN xs = 0) (k : Int) : bounds xs k = [k] := by unfold bounds; rw [dif_pos h]
theorem MI {xs : List Int} (h : aN xs ≠ 0) (k : Int) : bounds xs k = k :: bounds (xs.drop (aN xs)) (k + (aN xs : Nat)) := by
 conv => lhs; unfold bounds
 rw [dif_neg h]
theorem acf {xs : List Int} (h : aN xs ≠ 0) : Y9 (xs.getD 0 0) = false ∧ ∀ j, 0 < j → j < aN xs → Y9 (xs.getD j 0) = true := by
 have key : (xs.getD 0 0 < 128 ∨ 191 < xs.getD 0 0) ∧ (1 < aN xs → 128 ≤ xs.getD 1 0 ∧ xs.getD 1 0 ≤ 191) ∧ (2 < aN xs → 128 ≤ xs.getD 2 0 ∧ xs.getD 2 0 ≤ 191) ∧ (3 < aN xs → 128 ≤ xs.getD 3 0 ∧ xs.getD 3 0 ≤ 191) := by
  revert h
  unfold aN lo3 hi3 lo4 hi4
  repeat' split
  all_goals (intro h; first | omega | (refine ⟨?_, ?_, ?_, ?_⟩ <;> omega))
 obtain ⟨h0, h1, h2, h3⟩ := key
 refine ⟨?_, fun j hj0 hj => ?_⟩
 ·unfold Y9
  rcases h0 with h0 | h0
  ·rw [decide_eq_false (show ¬ 128 ≤ xs.getD 0 0 by omega)]; rfl
  ·rw [decide_eq_false (show ¬ xs.getD 0 0 ≤ 191 by omega), Bool.and_false]
 ·have h4 := ah5 xs
  have hc : j = 1 ∨ j = 2 ∨ j = 3 := by omega
  unfold Y9
  rcases hc with rfl | rfl | rfl
  ·obtain ⟨a, b⟩ := h1 hj; rw [decide_eq_true a, decide_eq_true b]; rfl
  ·obtain ⟨a, b⟩ := h2 hj; rw [decide_eq_true a, decide_eq_true b]; rfl
  ·obtain ⟨a, b⟩ := h3 hj; rw [decide_eq_true a, decide_eq_true b]; rfl
theorem Za (k : Int) : ∀ (n : Nat) (xs : List Int) (k0 : Int), xs.length ≤ n → valid xs = true → ((bounds xs k0).any (fun c => c == k)) = dh xs (k - k0)
 | n, xs, k0, hn, hv => by
  by_cases h : aN xs = 0
  ·have hx : xs = [] := by
    cases xs with
    | nil => rfl
    | cons a l => rw [JW h (by simp)] at hv; cases hv
   subst hx
   rw [MH h]
   unfold dh
   simp only [List.any_cons, List.any_nil, Bool.or_false, List.length_nil, Int.natCast_zero]
   by_cases e : k0 = k
   ·subst e; simp
   ·have e2 : ¬ k - k0 = 0 := by omega
    have e3 : ¬ (0 ≤ k - k0 ∧ k - k0 < 0) := by omega
    rw [beq_eq_false_iff_ne.2 e, beq_eq_false_iff_ne.2 e2]
    by_cases e4 : 0 ≤ k - k0
    ·rw [decide_eq_false (show ¬ k - k0 < 0 by omega)]; simp
    ·rw [decide_eq_false e4]; simp
  ·have hle := mW xs
   obtain ⟨c0, cj⟩ := acf h
   rw [yE h] at hv
   cases n with
   | zero => omega
   | succ n =>
   rw [MI h, List.any_cons, Za k n (xs.drop (aN xs)) (k0 + (aN xs : Nat)) (by simp; omega) hv]
   unfold dh
   rw [List.length_drop, getD_drop]
   by_cases e : k0 = k
   ·subst e
    rw [Int.sub_self, decide_eq_true (show (0 : Int) ≤ 0 by omega), decide_eq_true (show (0 : Int) < ((xs.length : Nat) : Int) by omega), show (0 : Int).toNat = 0 from rfl, c0]
    simp
   ·rw [beq_eq_false_iff_ne.2 e, Bool.false_or]
    by_cases e1 : k - k0 < 0
    ·rw [decide_eq_false (show ¬ 0 ≤ k - k0 by omega), decide_eq_false (show ¬ 0 ≤ k - (k0 + (aN xs : Nat)) by omega), beq_eq_false_iff_ne.2 (show ¬ k - k0 = ((xs.length : Nat) : Int) by omega), beq_eq_false_iff_ne.2 (show ¬ k - (k0 + (aN xs : Nat)) = ((xs.length - aN xs : Nat) : Int) by omega)]; rfl
    by_cases e2 : k - k0 < (aN xs : Nat)
    ·have hc := cj (k - k0).toNat (by omega) (by omega)
     rw [decide_eq_false (show ¬ 0 ≤ k - (k0 + (aN xs : Nat)) by omega), hc, beq_eq_false_iff_ne.2 (show ¬ k - k0 = ((xs.length : Nat) : Int) by omega), beq_eq_false_iff_ne.2 (show ¬ k - (k0 + (aN xs : Nat)) = ((xs.length - aN xs : Nat) : Int) by omega)]
     simp
    ·have ei : aN xs + (k - (k0 + (aN xs : Nat))).toNat = (k - k0).toNat := by omega
     rw [ei, decide_eq_true (show 0 ≤ k - (k0 + (aN xs : Nat)) by omega), decide_eq_true (show 0 ≤ k - k0 by omega)]
     have e5 : (k - (k0 + (aN xs : Nat)) == ((xs.length - aN xs : Nat) : Int)) = (k - k0 == ((xs.length : Nat) : Int)) := by
      rw [Bool.eq_iff_iff, beq_iff_eq, beq_iff_eq]; omega
     have e6 : decide (k - (k0 + (aN xs : Nat)) < ((xs.length - aN xs : Nat) : Int)) = decide (k - k0 < ((xs.length : Nat) : Int)) := by
      rw [Bool.eq_iff_iff, decide_eq_true_iff, decide_eq_true_iff]; omega
     rw [e5, e6]
 termination_by n => n
def uh (xs : List Int) : List Int := bif aS xs then bounds xs 0 else []
def qL (xs : List Int) (k : Int) : Bool := aS xs && dh xs k
theorem akf (xs : List Int) (k : Int) : (uh xs).any (fun c => c == k) = qL xs k := by
 unfold uh qL
 cases h : aS xs with
 | false => rfl
 | true =>
  unfold aS at h
  rw [Bool.and_eq_true] at h
  have := Za k _ xs 0 (Nat.le_refl _) h.2
  rw [Int.sub_zero] at this
  exact this
theorem akg (xs : List Int) (k : Int) : 0 < (bounds xs k).length := by
 by_cases h : aN xs = 0
 ·rw [MH h]; simp
 ·rw [MI h]; simp
def qm (xs : List Int) : Int :=
 if aN xs = 0 then -1
 else if aN xs = 1 then xs.getD 0 0
 else if aN xs = 2 then 64 * (xs.getD 0 0 - 192) + xs.getD 1 0 - 128
 else if aN xs = 3 then 64 * (64 * (xs.getD 0 0 - 224) + xs.getD 1 0 - 128) + xs.getD 2 0 - 128
 else 64 * (64 * (64 * (xs.getD 0 0 - 240) + xs.getD 1 0 - 128) + xs.getD 2 0 - 128) + xs.getD 3 0 - 128
theorem WJ (xs : List Int) : (oJ xs).toList = xs.map (fun n => UInt8.ofNat n.toNat) := by
 rw [Lib.toList_data]; rfl
theorem anR {a b : Int} (ha : 0 ≤ a ∧ a ≤ 255) (hb : 0 ≤ b ∧ b ≤ 255) (h : UInt8.ofNat a.toNat = UInt8.ofNat b.toNat) : a = b := by
 have h1 := congrArg UInt8.toNat h
 rw [UInt8.toNat_ofNat', UInt8.toNat_ofNat'] at h1
 omega
theorem Zb : ∀ {xs ys : List Int}, (∀ x ∈ xs, 0 ≤ x ∧ x ≤ 255) → (∀ y ∈ ys, 0 ≤ y ∧ y ≤ 255) → xs.map (fun n => UInt8.ofNat n.toNat) = ys.map (fun n => UInt8.ofNat n.toNat) → xs = ys
 | [], [], _, _, _ => rfl
 | [], _ :: _, _, _, h => by simp at h
 | _ :: _, [], _, _, h => by simp at h
 | x :: xs, y :: ys, hx, hy, h => by
  simp only [List.map_cons, List.cons.injEq] at h
  rw [anR (hx x (by simp)) (hy y (by simp)) h.1, Zb (fun a ha => hx a (by simp [ha])) (fun a ha => hy a (by simp [ha])) h.2]
theorem adv {xs ys : List Int} (hx : ∀ x ∈ xs, 0 ≤ x ∧ x ≤ 255) (hy : ∀ y ∈ ys, 0 ≤ y ∧ y ≤ 255) : ((oJ xs).toList == (oJ ys).toList) = decide (xs = ys) := by
 rw [Bool.eq_iff_iff, beq_iff_eq, decide_eq_true_iff, WJ, WJ]
 exact ⟨Zb hx hy, fun h => by rw [h]⟩
theorem akh (r : Int) : ∀ x ∈ wB r, 0 ≤ x ∧ x ≤ 255 := by
 intro x hx
 unfold wB at hx
 split at hx
 ·cases hx
 split at hx
 ·simp at hx; omega
 split at hx
 ·simp at hx; rcases hx with rfl | rfl <;> omega
 split at hx
 ·simp at hx; rcases hx with rfl | rfl | rfl <;> omega
 ·simp at hx; rcases hx with rfl | rfl | rfl | rfl <;> omega
theorem JY {xs : List Int} (h : aN xs = 0) : ((qm xs, ((aN xs : Nat) : Int)) : Int × Int) = (-1, 0) := by
 unfold qm; rw [h]; rfl
theorem alY {xs : List Int} (h : aN xs = 1) : qm xs = xs.getD 0 0 := by
 unfold qm; rw [h, if_neg (by omega), if_pos rfl]
theorem alZ {xs : List Int} (h : aN xs = 2) : qm xs = 64 * (xs.getD 0 0 - 192) + xs.getD 1 0 - 128 := by
 unfold qm; rw [h, if_neg (by omega), if_neg (by omega), if_pos rfl]
theorem al0 {xs : List Int} (h : aN xs = 3) : qm xs = 64 * (64 * (xs.getD 0 0 - 224) + xs.getD 1 0 - 128) + xs.getD 2 0 - 128 := by
 unfold qm; rw [h, if_neg (by omega), if_neg (by omega), if_neg (by omega), if_pos rfl]
theorem al1 {xs : List Int} (h : aN xs = 4) : qm xs = 64 * (64 * (64 * (xs.getD 0 0 - 240) + xs.getD 1 0 - 128) + xs.getD 2 0 - 128) + xs.getD 3 0 - 128 := by
 unfold qm; rw [h, if_neg (by omega), if_neg (by omega), if_neg (by omega), if_neg (by omega)]
theorem apW {b : Int} {t : List Int} (h0 : 0 ≤ b) (h : b < 192) : (if wB b = [b] then (b, (1 : Int)) else (-1, 0)) = (qm (b :: t), ((aN (b :: t) : Nat) : Int)) := by
 have e : aN (b :: t) = if b < 128 then 1 else 0 := by
  unfold aN
  rw [if_neg (by simp)]
  show (if b < 128 then 1 else if b < 194 then 0 else _) = _
  by_cases c : b < 128
  ·rw [if_pos c, if_pos c]
  ·rw [if_neg c, if_neg c, if_pos (by omega)]
 by_cases c : b < 128
 ·rw [if_pos c] at e
  rw [alY e, e, if_pos (by unfold wB; rw [if_neg (by omega), if_pos c])]; rfl
 ·rw [if_neg c] at e
  rw [JY e, if_neg]
  unfold wB
  rw [if_neg (by omega), if_neg c, if_pos (by omega)]
  simp
theorem apX {a b : Int} {t : List Int} (h0 : 192 ≤ a) (h : a < 224) (hb : 0 ≤ b ∧ b ≤ 255) : (if wB (64 * (a - 192) + b - 128) = [a, b] then (64 * (a - 192) + b - 128, (2 : Int)) else (-1, 0)) = (qm (a :: b :: t), ((aN (a :: b :: t) : Nat) : Int)) := by
 have e : aN (a :: b :: t) = if 194 ≤ a ∧ 128 ≤ b ∧ b ≤ 191 then 2 else 0 := by
  unfold aN
  rw [if_neg (by simp)]
  show (if a < 128 then 1 else if a < 194 then 0 else if a < 224 then (if 2 ≤ (a :: b :: t).length ∧ 128 ≤ b ∧ b ≤ 191 then 2 else 0) else _) = _
  rw [if_neg (by omega)]
  by_cases c : a < 194
  ·rw [if_pos c, if_neg (by omega)]
  ·rw [if_neg c, if_pos h]
   by_cases c2 : 128 ≤ b ∧ b ≤ 191
   ·rw [if_pos ⟨by simp, c2⟩, if_pos ⟨by omega, c2⟩]
   ·rw [if_neg (fun h => c2 h.2), if_neg (fun h => c2 h.2)]
 by_cases c : 194 ≤ a ∧ 128 ≤ b ∧ b ≤ 191
 ·rw [if_pos c] at e
  rw [alZ e, e, if_pos]; rfl
  unfold wB
  rw [if_neg (by omega), if_neg (by omega), if_pos (by omega)]
  congr 1
  ·omega
  ·congr 1; omega
 ·rw [if_neg c] at e
  rw [JY e, if_neg]
  intro he
  unfold wB at he
  split at he
  ·cases he
  split at he
  ·simp at he
  split at he
  ·simp only [List.cons.injEq, and_true] at he; omega
  split at he
  ·simp at he
  ·simp at he
theorem apY {a b d : Int} {t : List Int} (h0 : 224 ≤ a) (h : a < 240) (hb : 0 ≤ b ∧ b ≤ 255) (hd : 0 ≤ d ∧ d ≤ 255) : (if wB (64 * (64 * (a - 224) + b - 128) + d - 128) = [a, b, d] then (64 * (64 * (a - 224) + b - 128) + d - 128, (3 : Int)) else (-1, 0)) = (qm (a :: b :: d :: t), ((aN (a :: b :: d :: t) : Nat) : Int)) := by
 have e : aN (a :: b :: d :: t) = if lo3 a ≤ b ∧ b ≤ hi3 a ∧ 128 ≤ d ∧ d ≤ 191 then 3 else 0 := by
  unfold aN
  rw [if_neg (by simp)]
  show (if a < 128 then 1 else if a < 194 then 0 else if a < 224 then _ else if a < 240 then (if 3 ≤ (a :: b :: d :: t).length ∧ lo3 a ≤ b ∧ b ≤ hi3 a ∧ 128 ≤ d ∧ d ≤ 191 then 3 else 0) else _) = _
  rw [if_neg (by omega), if_neg (by omega), if_neg (by omega), if_pos h]
  by_cases c2 : lo3 a ≤ b ∧ b ≤ hi3 a ∧ 128 ≤ d ∧ d ≤ 191
  ·rw [if_pos ⟨by simp, c2⟩, if_pos c2]
  ·rw [if_neg (fun h => c2 h.2), if_neg c2]
 by_cases c : lo3 a ≤ b ∧ b ≤ hi3 a ∧ 128 ≤ d ∧ d ≤ 191
 ·rw [if_pos c] at e
  have hlh : 128 ≤ b ∧ b ≤ 191 ∧ (a = 224 → 160 ≤ b) ∧ (a = 237 → b ≤ 159) := by
   unfold lo3 hi3 at c
   split at c <;> split at c <;> omega
  rw [al0 e, e, if_pos]; rfl
  unfold wB
  rw [if_neg (by omega), if_neg (by omega), if_neg (by omega), if_pos (by omega)]
  congr 1
  ·omega
  ·congr 1
   ·omega
   ·congr 1; omega
 ·rw [if_neg c] at e
  rw [JY e, if_neg]
  intro he
  unfold wB at he
  split at he
  ·cases he
  split at he
  ·simp at he
  split at he
  ·simp at he
  split at he
  ·simp only [List.cons.injEq, and_true] at he
   apply c
   unfold lo3 hi3
   split <;> split <;> omega
  ·simp at he
theorem apZ {a b d f : Int} {t : List Int} (h0 : 240 ≤ a) (h : a ≤ 255) (hb : 0 ≤ b ∧ b ≤ 255) (hd : 0 ≤ d ∧ d ≤ 255) (hf : 0 ≤ f ∧ f ≤ 255) : (if wB (64 * (64 * (64 * (a - 240) + b - 128) + d - 128) + f - 128) = [a, b, d, f] then (64 * (64 * (64 * (a - 240) + b - 128) + d - 128) + f - 128, (4 : Int)) else (-1, 0)) = (qm (a :: b :: d :: f :: t), ((aN (a :: b :: d :: f :: t) : Nat) : Int)) := by
 have e : aN (a :: b :: d :: f :: t) = if a < 245 ∧ lo4 a ≤ b ∧ b ≤ hi4 a ∧ 128 ≤ d ∧ d ≤ 191 ∧ 128 ≤ f ∧ f ≤ 191 then 4 else 0 := by
  unfold aN
  rw [if_neg (by simp)]
  show (if a < 128 then 1 else if a < 194 then 0 else if a < 224 then _ else if a < 240 then _ else if a < 245 then (if 4 ≤ (a :: b :: d :: f :: t).length ∧ lo4 a ≤ b ∧ b ≤ hi4 a ∧ 128 ≤ d ∧ d ≤ 191 ∧ 128 ≤ f ∧ f ≤ 191 then 4 else 0) else 0) = _
  rw [if_neg (by omega), if_neg (by omega), if_neg (by omega), if_neg (by omega)]
  by_cases c1 : a < 245
  ·rw [if_pos c1]
   by_cases c2 : lo4 a ≤ b ∧ b ≤ hi4 a ∧ 128 ≤ d ∧ d ≤ 191 ∧ 128 ≤ f ∧ f ≤ 191
   ·rw [if_pos ⟨by simp, c2⟩, if_pos ⟨c1, c2⟩]
   ·rw [if_neg (fun h => c2 h.2), if_neg (fun h => c2 h.2)]
  ·rw [if_neg c1, if_neg (fun h => c1 h.1)]
 by_cases c : a < 245 ∧ lo4 a ≤ b ∧ b ≤ hi4 a ∧ 128 ≤ d ∧ d ≤ 191 ∧ 128 ≤ f ∧ f ≤ 191
 ·rw [if_pos c] at e
  have hlh : 128 ≤ b ∧ b ≤ 191 ∧ (a = 240 → 144 ≤ b) ∧ (a = 244 → b ≤ 143) := by
   unfold lo4 hi4 at c
   split at c <;> split at c <;> omega
  rw [al1 e, e, if_pos]; rfl
  unfold wB
  rw [if_neg (by omega), if_neg (by omega), if_neg (by omega), if_neg (by omega)]
  congr 1
  ·omega
  ·congr 1
   ·omega
   ·congr 1
    ·omega
    ·congr 1; omega
 ·rw [if_neg c] at e
  rw [JY e, if_neg]
  intro he
  unfold wB at he
  split at he
  ·cases he
  split at he
  ·simp at he
  split at he
  ·simp at he
  split at he
  ·simp at he
  ·simp only [List.cons.injEq, and_true] at he
   apply c
   unfold lo4 hi4
   split <;> split <;> omega
theorem anS {xs : List Int} (h : 240 ≤ xs.getD 0 0) (hl : xs.length < 4) : aN xs = 0 := by
 unfold aN; repeat' split
 all_goals omega
theorem anT {xs : List Int} (h : 224 ≤ xs.getD 0 0) (h2 : xs.getD 0 0 < 240) (hl : xs.length < 3) : aN xs = 0 := by
 unfold aN; repeat' split
 all_goals omega
theorem anU {xs : List Int} (h : 192 ≤ xs.getD 0 0) (h2 : xs.getD 0 0 < 224) (hl : xs.length < 2) : aN xs = 0 := by
 unfold aN; repeat' split
 all_goals omega
def inD (d : List Int) (k : Int) : Bool := decide (0 ≤ k) && decide (k < ((d.length : Nat) : Int))
def aaR (d : List Int) (k : Int) : Int := bif inD d k then ((aN (d.drop k.toNat) : Nat) : Int) else 0
def al2 (d : List Int) (k : Int) : Int := bif inD d k then qm (d.drop k.toNat) else -1
theorem amW {d : List Int} {k : Int} (h0 : 0 ≤ k) (h1 : k < ((d.length : Nat) : Int)) : aaR d k = ((aN (d.drop k.toNat) : Nat) : Int) := by
 unfold aaR inD; rw [decide_eq_true h0, decide_eq_true h1]; rfl
def starts (xs : List Int) (k : Int) : List Int := if h : aN xs = 0 then [] else k :: starts (xs.drop (aN xs)) (k + (aN xs : Nat))
termination_by xs.length
decreasing_by
 have := mW xs
 simp; omega
theorem MJ {xs : List Int} (h : aN xs = 0) (k : Int) : starts xs k = [] := by unfold starts; rw [dif_pos h]
theorem MK {xs : List Int} (h : aN xs ≠ 0) (k : Int) : starts xs k = k :: starts (xs.drop (aN xs)) (k + (aN xs : Nat)) := by
 conv => lhs; unfold starts
 rw [dif_neg h]
theorem ML {xs : List Int} (h : valid xs = true) : xs = [] ∨ aN xs ≠ 0 ∧ valid (xs.drop (aN xs)) = true := by
 by_cases e : aN xs = 0
 ·left
  cases xs with
  | nil => rfl
  | cons a l => rw [JW e (by simp)] at h; cases h
 ·right; exact ⟨e, by rw [← yE e]; exact h⟩
theorem Ip : ∀ (n : Nat) (xs : List Int) (k : Int), xs.length ≤ n → valid xs = true → bounds xs k = starts xs k ++ [k + (xs.length : Nat)]
 | n, xs, k, hn, hv => by
  rcases ML hv with rfl | ⟨h, hv'⟩
  ·rw [MH (by rfl), MJ (by rfl)]; simp
  ·have hle := mW xs
   cases n with
   | zero => omega
   | succ n =>
    rw [MI h, MK h, Ip n _ _ (by simp; omega) hv', List.cons_append, List.length_drop]
    congr 3; omega
 termination_by n => n
theorem Qi : ∀ (n : Nat) (xs : List Int) (k : Int), xs.length ≤ n → (starts xs k).length ≤ xs.length
 | n, xs, k, hn => by
  by_cases h : aN xs = 0
  ·rw [MJ h]; simp
  ·have hle := mW xs
   cases n with
   | zero => omega
   | succ n =>
    rw [MK h]
    have := Qi n (xs.drop (aN xs)) (k + (aN xs : Nat)) (by simp; omega)
    simp at this ⊢; omega
 termination_by n => n
theorem uj {xs : List Int} : aS xs = true ↔ xs.length ≤ 400 ∧ valid xs = true := by
 unfold aS; rw [Bool.and_eq_true]
 exact ⟨fun h => ⟨Nat.le_of_ble_eq_true h.1, h.2⟩, fun h => ⟨Nat.ble_eq_true_of_le h.1, h.2⟩⟩
end Go.Ev
end
section
set_option linter.unusedVariables false
namespace Go.Ev
open Go.RowKit
abbrev E3 : Type := Int × Int × List Int
theorem fA {t : List Int} {k : Int} (h : dh t k = true) : 0 ≤ k ∧ k ≤ ((t.length : Nat) : Int) := by
 unfold dh at h
 rw [Bool.or_eq_true, beq_iff_eq, Bool.and_eq_true, Bool.and_eq_true, decide_eq_true_iff, decide_eq_true_iff] at h
 omega
def iE (t : List Int) (e : E3) : Bool :=
 aS t && dh t e.1 && decide (0 ≤ e.2.1) && decide (e.2.1 ≤ ((t.length : Nat) : Int) - e.1) && dh t (e.1 + e.2.1) && aS e.2.2 && decide (((t.length : Nat) : Int) - e.2.1 + ((e.2.2.length : Nat) : Int) ≤ 400)
def Xe (e : E3) (t : List Int) : List Int := t.take e.1.toNat ++ e.2.2 ++ t.drop (e.1 + e.2.1).toNat
theorem jm {t : List Int} (h : aS t = true) : t.length ≤ 400 := (uj.1 h).1
structure Zc (t : List Int) (e : E3) : Prop where
 tx : aS t = true
 a : dh t e.1 = true
 c0 : 0 ≤ e.2.1
 c1 : e.2.1 ≤ ((t.length : Nat) : Int) - e.1
 b : dh t (e.1 + e.2.1) = true
 p : aS e.2.2 = true
 l : ((t.length : Nat) : Int) - e.2.1 + ((e.2.2.length : Nat) : Int) ≤ 400
theorem yV {t : List Int} {e : E3} : iE t e = true ↔ Zc t e := by
 unfold iE
 simp only [Bool.and_eq_true, decide_eq_true_eq]
 exact ⟨fun ⟨⟨⟨⟨⟨⟨h1, h2⟩, h3⟩, h4⟩, h5⟩, h6⟩, h7⟩ => ⟨h1, h2, h3, h4, h5, h6, h7⟩, fun h => ⟨⟨⟨⟨⟨⟨h.tx, h.a⟩, h.c0⟩, h.c1⟩, h.b⟩, h.p⟩, h.l⟩⟩
theorem adw {t : List Int} {e : E3} (h0 : 0 ≤ e.1) (h1 : 0 ≤ e.2.1) (h2 : e.1 + e.2.1 ≤ ((t.length : Nat) : Int)) : (((Xe e t).length : Nat) : Int) = ((t.length : Nat) : Int) - e.2.1 + ((e.2.2.length : Nat) : Int) := by
 unfold Xe
 simp only [List.length_append, List.length_take, List.length_drop]
 omega
def ny (t : List Int) (e : E3) : List Int := bif iE t e then Xe e t else []
theorem MN (t : List Int) (e : E3) : (ny t e).length ≤ 400 := by
 unfold ny
 cases h : iE t e with
 | false => simp
 | true =>
  have q := yV.1 h
  have r := fA q.a
  have r2 := fA q.b
  have := adw r.1 q.c0 r2.2
  have := q.l
  simp only [cond_true]; omega
theorem al3 {t : List Int} {e : E3} (h1 : aO t = true) (h2 : aO e.2.2 = true) (hl : (Xe e t).length ≤ 1048576) : aO (Xe e t) = true :=
 ajk hl (fun x hx => by
  unfold Xe at hx
  rcases List.mem_append.1 hx with hx | hx
  ·rcases List.mem_append.1 hx with hx | hx
   ·exact wL h1 (List.mem_of_mem_take hx)
   ·exact wL h2 hx
  ·exact wL h1 (List.mem_of_mem_drop hx))
theorem JZ {t : List Int} {e : E3} (h1 : aO t = true) (h2 : aO e.2.2 = true) : aO (ny t e) = true := by
 have hl := MN t e
 unfold ny at hl ⊢
 cases h : iE t e with
 | false => rfl
 | true => rw [h] at hl; exact al3 h1 h2 (by simpa using Nat.le_trans hl (by omega))
def iq : List E3 → List Int → Nat → List Int × Nat
 | [], t, n => (t, n)
 | e :: es, t, n => bif iE t e then iq es (Xe e t) (n + 1) else (t, n)
def bQ (t : List Int) (l : List E3) : List Int × Int := bif aS t then ((iq l t 0).1, (((iq l t 0).2 : Nat) : Int)) else ([], -1)
theorem RX : ∀ (l : List E3) (t : List Int) (n : Nat), t.length ≤ 400 → (iq l t n).1.length ≤ 400
 | [], t, n, h => h
 | e :: l, t, n, h => by
  simp only [iq]
  cases he : iE t e with
  | false => exact h
  | true =>
   have := MN t e
   unfold ny at this
   rw [he] at this
   exact RX l (Xe e t) (n + 1) this
theorem adx (t : List Int) (l : List E3) : (bQ t l).1.length ≤ 400 := by
 unfold bQ
 cases ht : aS t with
 | false => exact Nat.zero_le _
 | true => exact RX l t 0 (jm ht)
end Go.Ev
end
section
set_option linter.unusedVariables false
namespace Go.Ev
open Go.RowKit
def aG (n : Int) : Bool := decide (0 ≤ n) && decide (n ≤ 65535)
theorem ap0 {K : aj → Option aj} (p u v : Bool) : (bif p then K ((.s (.bool u)), []) else K ((.s (.bool v)), [])) = K ((.s (.bool (bif p then u else v))), []) := by cases p <;> rfl
theorem kinds {k : Int} (h1 : 1 ≤ k) (h2 : k ≤ 16) : k = 1 ∨ k = 2 ∨ k = 3 ∨ k = 4 ∨ k = 5 ∨ k = 6 ∨ k = 7 ∨ k = 8 ∨ k = 9 ∨ k = 10 ∨ k = 11 ∨ k = 12 ∨ k = 13 ∨ k = 14 ∨ k = 15 ∨ k = 16 := by omega
def Hw (k : Int) : Int := bif k == 3 || k == 7 || k == 8 || k == 9 then 1 else bif k == 4 || k == 5 || k == 6 || k == 10 || k == 11 || k == 14 then 2 else bif k == 12 || k == 13 then 3 else 0
abbrev P6 : Type := Int × Int × Int × Int × Int × List Int
def jI (k n : Int) : Bool := bif k == 3 || k == 5 then true else bif k == 7 || k == 8 then decide (n > 0) else !decide (n > 0)
def dH (r : P6) : Bool := decide (1 ≤ r.1) && decide (r.1 ≤ 16) && (decide (1 ≤ r.2.1) && decide (r.2.1 ≤ 8)) && (decide (((r.2.2.2.2.2.length : Nat) : Int) ≤ 100) && aS r.2.2.2.2.2) &&
 aG r.2.2.1 && aG r.2.2.2.1 && aG r.2.2.2.2.1 && ((decide (0 < Hw r.1) || r.2.2.1 == 0) && (decide (1 < Hw r.1) || r.2.2.2.1 == 0) && (decide (2 < Hw r.1) || r.2.2.2.2.1 == 0) && jI r.1 ((r.2.2.2.2.2.length : Nat) : Int))
end Go.Ev
end
section
set_option linter.unusedVariables false
namespace Go.Ev
section
variable {α β ρ : Type}
theorem getD_lt {xs : List α} {i : Nat} (z : α) (h : i < xs.length) : xs.getD i z = xs[i] := by
 rw [List.getD_eq_getElem?_getD, List.getElem?_eq_getElem h]; rfl
theorem Jr {R : Nat → Int → ρ} {p : α → Bool} {kt : ρ} {kf : Int → ρ} {xs : List α} {z : α}
  (hs : ∀ m (i : Nat), i < xs.length → R (m + 1) i = bif p (xs.getD i z) then kf i else R m ((i + 1 : Nat) : Int))
  (he : ∀ m, R (m + 1) (xs.length : Nat) = kt) : ∀ (m i : Nat), i ≤ xs.length → xs.length - i < m → R m i = (match (xs.drop i).findIdx? p with
   | some j => kf ((i + j : Nat) : Int)
   | none => kt)
 | 0, i, _, h => absurd h (by omega)
 | m + 1, i, hi, hm => by
  by_cases h : i < xs.length
  ·rw [hs m i h, getD_lt z h, List.drop_eq_getElem_cons h, List.findIdx?_cons]
   cases hp : p xs[i] with
   | true => simp
   | false =>
    rw [cond_false, Jr hs he m (i + 1) (by omega) (by omega)]
    simp only [Bool.false_eq_true, if_false]
    cases (xs.drop (i + 1)).findIdx? p with
    | none => rfl
    | some k => show kf ((i + 1 + k : Nat) : Int) = kf ((i + (k + 1) : Nat) : Int); congr 2; omega
  ·have : i = xs.length := by omega
   subst this
   rw [he m, List.drop_length]; rfl
theorem RY {R : Nat → Int → ρ} {p : α → Bool} {kt kf : ρ} {xs : List α} {z : α}
  (hs : ∀ m (i : Nat), i < xs.length → R (m + 1) i = bif p (xs.getD i z) then R m ((i + 1 : Nat) : Int) else kf)
  (he : ∀ m, R (m + 1) (xs.length : Nat) = kt) : ∀ (m i : Nat), i ≤ xs.length → xs.length - i < m → R m i = bif (xs.drop i).all p then kt else kf
 | 0, i, _, h => absurd h (by omega)
 | m + 1, i, hi, hm => by
  by_cases h : i < xs.length
  ·rw [hs m i h, getD_lt z h, List.drop_eq_getElem_cons h, List.all_cons]
   cases hp : p xs[i] with
   | true => rw [cond_true, RY hs he m (i + 1) (by omega) (by omega)]; rfl
   | false => rfl
  ·have : i = xs.length := by omega
   subst this
   rw [he m, List.drop_length]; rfl
def UQ (l : List Int) (k : Int) : Int := match l.findIdx? (fun c => c == k) with
 | some i => (i : Nat)
 | none => -1
theorem ah8 (l : List Int) (k : Int) : decide (UQ l k ≥ 0) = l.any (fun c => c == k) := by
 unfold UQ
 cases h : l.findIdx? (fun c => c == k) with
 | none =>
  rw [List.findIdx?_eq_none_iff] at h
  rw [show l.any (fun c => c == k) = false from List.any_eq_false.2 (fun x hx => by rw [h x hx]; simp)]; rfl
 | some i =>
  rw [List.findIdx?_eq_some_iff_getElem] at h
  obtain ⟨h1, h2, _⟩ := h
  rw [show l.any (fun c => c == k) = true from List.any_eq_true.2 ⟨l[i], List.getElem_mem h1, h2⟩]
  exact decide_eq_true (show ((i : Nat) : Int) ≥ 0 by omega)
def Dl {α : Type} (p : α → Bool) (l : List α) : Int := match l.findIdx? p with
 | some i => (i : Nat)
 | none => -1
theorem Zd {α : Type} (p : α → Bool) (l : List α) : decide (Dl p l ≥ 0) = l.any p := by
 unfold Dl
 cases h : l.findIdx? p with
 | none =>
  rw [List.findIdx?_eq_none_iff] at h
  rw [show l.any p = false from List.any_eq_false.2 (fun x hx => by rw [h x hx]; simp)]; rfl
 | some i =>
  rw [List.findIdx?_eq_some_iff_getElem] at h
  obtain ⟨h1, h2, _⟩ := h
  rw [show l.any p = true from List.any_eq_true.2 ⟨l[i], List.getElem_mem h1, h2⟩]
  exact decide_eq_true (show ((i : Nat) : Int) ≥ 0 by omega)
end
end Go.Ev
end
section
set_option linter.unusedVariables false
namespace Go.Ev
open Go.RowKit
theorem zA {ρ : Type} {R : Nat → Int → ρ} {p : Nat → Bool} {kt kf : ρ} {n : Nat}
  (hs : ∀ m (i : Nat), i < n → R (m + 1) i = bif p i then R m ((i + 1 : Nat) : Int) else kf)
  (he : ∀ m, R (m + 1) (n : Nat) = kt) : ∀ (m i : Nat), i ≤ n → n - i < m → R m i = bif (List.range' i (n - i)).all p then kt else kf
 | 0, i, _, h => absurd h (by omega)
 | m + 1, i, hi, hm => by
  by_cases h : i < n
  ·rw [hs m i h, show n - i = (n - (i + 1)) + 1 by omega, List.range'_succ, List.all_cons]
   cases hp : p i with
   | true => rw [cond_true, zA hs he m (i + 1) (by omega) (by omega)]; rfl
   | false => rfl
  ·have : i = n := by omega
   subst this
   rw [he m, Nat.sub_self]; rfl
def GN (n : Nat) (p : Nat → Bool) : Bool := (List.range' 0 n).all p
theorem al4 {n : Nat} {p : Nat → Bool} : GN n p = true ↔ ∀ i, i < n → p i = true := by
 unfold GN
 rw [List.all_eq_true]
 constructor
 ·intro h i hi; exact h i (by simpa using hi)
 ·intro h i hi; exact h i (by simpa using hi)
def nC (s : Int) : Bool := decide (1 ≤ s) && decide (s ≤ 8)
def al5 (n : Int) : Bool := decide (1 ≤ n) && decide (n ≤ 1000)
end Go.Ev
end
section
set_option linter.unusedVariables false
namespace Go.Ev
open Go.RowKit
def KU (n : Int) : Bool := decide (0 ≤ n) && decide (n ≤ 400)
def bg (e : E3) : Bool := KU e.1 && KU e.2.1 && decide (((e.2.2.length : Nat) : Int) ≤ 400)
def gX (p : Int) : Bool := decide (0 ≤ p) && decide (p ≤ 800)
theorem acg {n : Int} : KU n = true ↔ 0 ≤ n ∧ n ≤ 400 := by unfold KU; rw [Bool.and_eq_true, decide_eq_true_iff, decide_eq_true_iff]
theorem og {n : Int} : gX n = true ↔ 0 ≤ n ∧ n ≤ 800 := by unfold gX; rw [Bool.and_eq_true, decide_eq_true_iff, decide_eq_true_iff]
theorem qo {e : E3} : bg e = true ↔ (0 ≤ e.1 ∧ e.1 ≤ 400) ∧ (0 ≤ e.2.1 ∧ e.2.1 ≤ 400) ∧ e.2.2.length ≤ 400 := by
 unfold bg
 rw [Bool.and_eq_true, Bool.and_eq_true, acg, acg, decide_eq_true_iff]
 constructor
 ·rintro ⟨⟨h1, h2⟩, h3⟩; exact ⟨h1, h2, by omega⟩
 ·rintro ⟨h1, h2, h3⟩; exact ⟨⟨h1, h2⟩, by omega⟩
def bV (e : E3) (p : Int) (r : Bool) : Int := bif decide (p < e.1) then p else bif (p == e.1) || decide (p < e.1 + e.2.1) then (bif r then e.1 + ((e.2.2.length : Nat) : Int) else e.1) else p - e.2.1 + ((e.2.2.length : Nat) : Int)
theorem Ze (e : E3) (p : Int) (r : Bool) : (p < e.1 ∧ bV e p r = p) ∨ (e.1 ≤ p ∧ (p = e.1 ∨ p < e.1 + e.2.1) ∧ r = true ∧ bV e p r = e.1 + ((e.2.2.length : Nat) : Int)) ∨ (e.1 ≤ p ∧ (p = e.1 ∨ p < e.1 + e.2.1) ∧ r = false ∧ bV e p r = e.1) ∨ (e.1 < p ∧ e.1 + e.2.1 ≤ p ∧ bV e p r = p - e.2.1 + ((e.2.2.length : Nat) : Int)) := by
 unfold bV
 by_cases h1 : p < e.1
 ·rw [decide_eq_true h1]; exact .inl ⟨h1, rfl⟩
 ·rw [decide_eq_false h1]
  by_cases h2 : p = e.1
  ·rw [beq_iff_eq.2 h2]
   cases r with
   | true => exact .inr (.inl ⟨by omega, .inl h2, rfl, rfl⟩)
   | false => exact .inr (.inr (.inl ⟨by omega, .inl h2, rfl, rfl⟩))
  ·rw [beq_false_of_ne h2]
   by_cases h3 : p < e.1 + e.2.1
   ·rw [decide_eq_true h3]
    cases r with
    | true => exact .inr (.inl ⟨by omega, .inr h3, rfl, rfl⟩)
    | false => exact .inr (.inr (.inl ⟨by omega, .inr h3, rfl, rfl⟩))
   ·rw [decide_eq_false h3]; exact .inr (.inr (.inr ⟨by omega, by omega, rfl⟩))
theorem oh {e : E3} {p : Int} (r : Bool) (he : bg e = true) (hp : 0 ≤ p) : 0 ≤ bV e p r ∧ bV e p r ≤ p + 800 := by
 have h := qo.1 he
 rcases Ze e p r with ⟨a, b⟩ | ⟨a, b, c, d⟩ | ⟨a, b, c, d⟩ | ⟨a, b, c⟩ <;> omega
def MO (e : E3) (i j : Int) : Int × Int := (bV e i true, bif i == j then bV e i true else max (bV e i true) (bV e j false))
def jh (a b : E3) : E3 := (bV b a.1 true, (MO b a.1 (a.1 + a.2.1)).2 - bV b a.1 true, a.2.2)
def aki : E3 × Bool := ((0, 0, []), false)
def Az (a b : E3) : E3 × Bool := bif bg a && bg b then (jh a b, true) else aki
def yF : List E3 → E3 → E3 × Bool
 | [], e => (e, true)
 | b :: l, e => bif bg e && bg b then yF l (jh e b) else aki
def wC (e : E3) (l : List E3) : E3 × Bool := bif bg e then yF l e else aki
theorem RZ {a b : E3} (ha : bg a = true) (hb : bg b = true) : 0 ≤ (jh a b).1 ∧ (jh a b).1 ≤ 1200 ∧ 0 ≤ (jh a b).2.1 ∧ (jh a b).2.1 ≤ 1600 ∧ (jh a b).2.2 = a.2.2 := by
 have h := qo.1 ha
 have h1 := oh (p := a.1) true hb (by omega)
 have h2 := oh (p := a.1 + a.2.1) false hb (by omega)
 refine ⟨h1.1, by show bV b a.1 true ≤ 1200; omega, ?_, ?_, rfl⟩
 ·show 0 ≤ (bif a.1 == a.1 + a.2.1 then bV b a.1 true else max (bV b a.1 true) (bV b (a.1 + a.2.1) false)) - bV b a.1 true
  cases (a.1 == a.1 + a.2.1) with
  | true => rw [cond_true]; omega
  | false => rw [cond_false]; omega
 ·show (bif a.1 == a.1 + a.2.1 then bV b a.1 true else max (bV b a.1 true) (bV b (a.1 + a.2.1) false)) - bV b a.1 true ≤ 1600
  cases (a.1 == a.1 + a.2.1) with
  | true => rw [cond_true]; omega
  | false => rw [cond_false]; omega
abbrev ST : Type := List E3 × List E3
def okL (l : List E3) : Bool := decide (((l.length : Nat) : Int) ≤ 6) && l.all bg
def kG (s : ST) : Bool := okL s.1 && okL s.2
theorem ajn {l : List E3} (h : okL l = true) : l.length ≤ 6 := by
 unfold okL at h
 rw [Bool.and_eq_true, decide_eq_true_iff] at h
 omega
end Go.Ev
end
section
set_option linter.unusedVariables false
namespace Go.Ev
open Go.RowKit
abbrev L4 : Type := Int × Int × Int × Int
def oU (l : L4) : Bool := decide (0 ≤ l.1) && decide (l.1 ≤ l.2.1) && decide (l.2.1 ≤ 400) && nC l.2.2.1 && al5 l.2.2.2
def Si (a b : L4) : Bool := bif a.1 != b.1 then decide (a.1 < b.1) else bif a.2.1 != b.2.1 then decide (a.2.1 < b.2.1) else decide (a.2.2.1 < b.2.2.1)
def zf (a b : Int) : Int := bif decide (a < b) then -1 else bif decide (a > b) then 1 else 0
def akj (a b : L4) : Int := bif zf a.1 b.1 != 0 then zf a.1 b.1 else bif zf a.2.1 b.2.1 != 0 then zf a.2.1 b.2.1 else zf a.2.2.1 b.2.2.1
theorem Js (a b : Int) : (a < b ∧ zf a b = -1) ∨ (a = b ∧ zf a b = 0) ∨ (b < a ∧ zf a b = 1) := by
 unfold zf
 by_cases h1 : a < b
 ·rw [decide_eq_true h1]; exact .inl ⟨h1, rfl⟩
 ·rw [decide_eq_false h1]
  by_cases h2 : a > b
  ·rw [decide_eq_true h2]; exact .inr (.inr ⟨h2, rfl⟩)
  ·rw [decide_eq_false h2]; exact .inr (.inl ⟨by omega, rfl⟩)
theorem ajo {a b : Int} (h : a ≠ b) : (a != b) = true := bne_iff_ne.2 h
theorem ajp {a b : Int} (h : a = b) : (a != b) = false := by simp [h]
theorem al6 (a b : L4) : decide (akj a b ≥ 0) = !Si a b := by
 unfold akj Si
 rcases Js a.1 b.1 with ⟨h1, e1⟩ | ⟨h1, e1⟩ | ⟨h1, e1⟩
 ·rw [e1, ajo (show a.1 ≠ b.1 by omega), decide_eq_true (show a.1 < b.1 from h1)]; rfl
 ·rw [e1, ajp h1]
  rcases Js a.2.1 b.2.1 with ⟨h2, e2⟩ | ⟨h2, e2⟩ | ⟨h2, e2⟩
  ·rw [e2, ajo (show a.2.1 ≠ b.2.1 by omega), decide_eq_true (show a.2.1 < b.2.1 from h2)]; rfl
  ·rw [e2, ajp h2]
   rcases Js a.2.2.1 b.2.2.1 with ⟨h3, e3⟩ | ⟨h3, e3⟩ | ⟨h3, e3⟩
   ·rw [e3, decide_eq_true (show a.2.2.1 < b.2.2.1 from h3)]; rfl
   ·rw [e3, decide_eq_false (show ¬ a.2.2.1 < b.2.2.1 by omega)]; rfl
   ·rw [e3, decide_eq_false (show ¬ a.2.2.1 < b.2.2.1 by omega)]; rfl
  ·rw [e2, ajo (show a.2.1 ≠ b.2.1 by omega), decide_eq_false (show ¬ a.2.1 < b.2.1 by omega)]; rfl
 ·rw [e1, ajo (show a.1 ≠ b.1 by omega), decide_eq_false (show ¬ a.1 < b.1 by omega)]; rfl
def fM : L4 := (0, 0, 0, 0)
def zB (l : List L4) (i : Nat) : Bool := oU (l.getD i fM) && (Nat.beq i 0 || Si (l.getD (i - 1) fM) (l.getD i fM))
def oV (l : List L4) : Bool := decide (((l.length : Nat) : Int) ≤ 12) && GN l.length (zB l)
def Iq (n : Int) : Bool := decide (0 ≤ n) && decide (n ≤ 1000)
def fU (t : List Int) (e : E3) : Bool := dh t e.1 && decide (0 ≤ e.2.1) && decide (e.2.1 ≤ ((t.length : Nat) : Int) - e.1) && dh t (e.1 + e.2.1) && aS e.2.2
abbrev C4 : Type := Int × E3
def dN (l : List C4) : List E3 := l.map (fun c => c.2)
def zC (s t : List Int) (l : List C4) : Bool := decide (((l.length : Nat) : Int) ≤ 60) && l.all (fun c => nC c.1) && ((bQ s (dN l)).2 == ((l.length : Nat) : Int)) && decide ((bQ s (dN l)).1 = t)
abbrev M5 : Type := Int × Int × Int × ST
def Dn : M5 := (0, 0, 0, [], [])
def ady (t : List Int) (m : M5) : Bool := nC m.1 && dh t m.2.1 && dh t m.2.2.1 && kG m.2.2.2 && m.2.2.2.1.all (fU t) && m.2.2.2.2.all (fU t)
def rP (t : List Int) (l : List M5) (i : Nat) : Bool := ady t (l.getD i Dn) && (Nat.beq i 0 || decide ((l.getD (i - 1) Dn).1 < (l.getD i Dn).1))
def wM (t : List Int) (l : List M5) : Bool := decide (((l.length : Nat) : Int) ≤ 8) && GN l.length (rP t l)
def Hy (a b : L4) : Bool := decide (max a.1 b.1 < min a.2.1 b.2.1)
def Ee (t : List Int) (c : Int) (l : List L4) (i : Nat) : Bool := decide ((l.getD i fM).2.2.2 > c) && dh t (l.getD i fM).1 && dh t (l.getD i fM).2.1 && GN i (fun k => !(((l.getD k fM).2.2.1 != (l.getD i fM).2.2.1) && Hy (l.getD k fM) (l.getD i fM)))
def ach (t : List Int) (c : Int) (l : List L4) : Bool := oV l && GN l.length (Ee t c l)
abbrev D6 : Type := List Int × List Int × List C4 × Int × List M5 × List L4
def um (d : D6) : Bool := aS d.1 && zC d.1 d.2.1 d.2.2.1 && Iq d.2.2.2.1 && wM d.2.1 d.2.2.2.2.1 && ach d.2.1 d.2.2.2.1 d.2.2.2.2.2
theorem ah9 (a b : L4) : (decide (a.1 < b.2.1) && decide (b.1 < a.2.1) && decide (a.1 < a.2.1) && decide (b.1 < b.2.1)) = Hy a b := by
 unfold Hy
 rw [Bool.eq_iff_iff]
 simp only [Bool.and_eq_true, decide_eq_true_eq]
 omega
def orD (l : List Int) : Int := (l.find? (fun c => c != 0)).getD 0
end Go.Ev
end
section
namespace Go.Ev.Seat
open Go.RowKit
set_option maxRecDepth 100000
set_option linter.unusedVariables false
set_option linter.unusedSimpArgs false
noncomputable abbrev adz : Env := En [] [] [] [] false 0 []
noncomputable def J3 (n : Int) (K : aj → Option aj) : Option aj := (bif (decide (n ≥ (0 : Int))) then K ((.s (.bool (decide (n ≤ (1000 : Int))))), []) else K ((.s (.bool false)), []))
theorem adA (n : Int) (K : aj → Option aj) : dS adz true F.AZ [.s (.int .i64 n)] K = J3 n K := by kernel_rfl
def J4 : Sm := bD [.i] (fun d => true) (fun d => (bl (Iq d.1), []))
theorem adB (n : Int) (K : aj → Option aj) : J3 n K = K (bl (Iq n), []) := by
 unfold J3 Iq
 rw [show decide (n ≥ 0) = decide (0 ≤ n) from rfl]
 cases decide (0 ≤ n) <;> rfl
theorem Zf : aT prog I N.AZ true J4 := lN (aU bn (l := []) (p := []) (ls := []) (lend := []) (focus := false) (fuel := 0) (give := []) (fn := F.AZ) (by kernel_rfl) (by kernel_rfl) (by kernel_rfl) (by kernel_rfl) (cs := []) (by kernel_rfl) aJ) (aK fun d K h => (adA d.1 K).trans (adB d.1 K))
end Go.Ev.Seat
end
section
namespace Go.Ev.Seat
open Go.RowKit
set_option maxRecDepth 100000
set_option linter.unusedVariables false
set_option linter.unusedSimpArgs false
noncomputable abbrev adC : Env := En [] [] [] [] false 0 []
noncomputable def J5 (l : au) (K : aj → Option aj) : Option aj := (bif (decide (l.1 ≥ (0 : Int))) then (bif (decide (l.1 ≤ l.2.1)) then (bif (decide (l.2.1 ≤ (400 : Int))) then (bif (decide (l.2.2.1 ≥ (1 : Int))) then (bif (decide (l.2.2.1 ≤ (8 : Int))) then (bif (decide (l.2.2.2 ≥ (1 : Int))) then K ((.s (.bool (decide (l.2.2.2 ≤ (1000 : Int))))), []) else K ((.s (.bool false)), [])) else K ((.s (.bool false)), [])) else K ((.s (.bool false)), [])) else K ((.s (.bool false)), [])) else K ((.s (.bool false)), [])) else K ((.s (.bool false)), []))
theorem adD (l : au) (K : aj → Option aj) : dS adC true F.A8 [.a (aI.cells .no l)] K = J5 l K := by kernel_rfl
def J6 : Sm := bD [.a aI] (fun d => true) (fun d => (bl (oU d.1), []))
theorem adE (l : au) (K : aj → Option aj) : J5 l K = K (bl (oU l), []) := by
 unfold J5 oU nC al5
 rw [show decide (l.1 ≥ 0) = decide (0 ≤ l.1) from rfl, show decide (l.2.2.1 ≥ 1) = decide (1 ≤ l.2.2.1) from rfl, show decide (l.2.2.2 ≥ 1) = decide (1 ≤ l.2.2.2) from rfl]
 cases decide (0 ≤ l.1) <;> cases decide (l.1 ≤ l.2.1) <;> cases decide (l.2.1 ≤ 400) <;> cases decide (1 ≤ l.2.2.1) <;> cases decide (l.2.2.1 ≤ 8) <;> cases decide (1 ≤ l.2.2.2) <;> rfl
theorem Zg : aT prog I N.A8 true J6 := lN (aU bn (l := []) (p := []) (ls := []) (lend := []) (focus := false) (fuel := 0) (give := []) (fn := F.A8) (by kernel_rfl) (by kernel_rfl) (by kernel_rfl) (by kernel_rfl) (cs := []) (by kernel_rfl) aJ) (aK fun d K h => (adD d.1 K).trans (adE d.1 K))
end Go.Ev.Seat
end
section
namespace Go.Ev.Seat
open Go.RowKit
set_option maxRecDepth 100000
set_option linter.unusedVariables false
set_option linter.unusedSimpArgs false
noncomputable abbrev afJ : Env := En [] [] [] [] false 0 []
noncomputable def MP (a : au) (b : au) (K : aj → Option aj) : Option aj := (bif (a.1 != b.1) then K ((.s (.bool (decide (a.1 < b.1)))), []) else (bif (a.2.1 != b.2.1) then K ((.s (.bool (decide (a.2.1 < b.2.1)))), []) else K ((.s (.bool (decide (a.2.2.1 < b.2.2.1)))), [])))
theorem afK (a : au) (b : au) (K : aj → Option aj) : dS afJ true F.ES [.a (aI.cells .no a), .a (aI.cells .no b)] K = MP a b K := by kernel_rfl
def MQ : Sm := bD [.a aI, .a aI] (fun d => true) (fun d => (bl (Si d.1 d.2.1), []))
theorem afL (a : au) (b : au) (K : aj → Option aj) : MP a b K = K (bl (Si a b), []) := by
 unfold MP Si
 cases (a.1 != b.1) <;> cases (a.2.1 != b.2.1) <;> rfl
theorem aaS : aT prog I N.ES true MQ := lN (aU bn (l := []) (p := []) (ls := []) (lend := []) (focus := false) (fuel := 0) (give := []) (fn := F.ES) (by kernel_rfl) (by kernel_rfl) (by kernel_rfl) (by kernel_rfl) (cs := []) (by kernel_rfl) aJ) (aK fun d K h => (afK d.1 d.2.1 K).trans (afL d.1 d.2.1 K))
end Go.Ev.Seat
end
section
set_option linter.unusedVariables false
namespace Go.Ev.Seat
open Go.RowKit
mutual
def iR : (c : Cc) → c.T → Bool
 | .int .u8, n => isB n
 | .int _, _ => true
 | .bool, _ => true
 | .str, _ => true
 | .sl r, xs => Nat.ble xs.length 1048576 && xs.all (iZ r)
def iZ : (r : Rw) → r.T → Bool
 | .one c, d => iR c d
 | .cons c r, d => iR c d.1 && iZ r d.2
end
mutual
theorem ajq : (c : Cc) → (d : c.T) → c.wf d → c.lim d = true → iR c d = true
 | .int k, n, h, _ => by
  cases k <;> simp only [iR]
  have h' : (Lit.int .u8 n).wf = true := h
  simp only [Lit.wf, Bool.and_eq_true, decide_eq_true_eq] at h'
  have a : IntKind.u8.min = 0 := rfl
  have b : IntKind.u8.max = 255 := rfl
  rw [a, b] at h'
  simp only [isB, Bool.and_eq_true, decide_eq_true_eq]
  exact h'
 | .bool, _, _, _ => rfl
 | .str, _, _, _ => rfl
 | .sl r, xs, h, g => by
  simp only [Cc.lim, Bool.and_eq_true, List.all_eq_true] at g
  simp only [iR, Bool.and_eq_true, List.all_eq_true]
  exact ⟨g.1, fun x hx => Yg r x (h.2 x hx) (g.2 x hx)⟩
theorem Yg : (r : Rw) → (d : r.T) → r.wf d → r.lim d = true → iZ r d = true
 | .one c, d, h, g => ajq c d h g
 | .cons c r, d, h, g => by
  simp only [Rw.lim, Bool.and_eq_true] at g
  simp only [iZ, Bool.and_eq_true]
  exact ⟨ajq c d.1 h.1 g.1, Yg r d.2 h.2 g.2⟩
end
theorem FZ {b : List Int} (h : iR (.sl ah) b = true) : aO b = true := h
theorem dB {c : Cc} {r : Rw} {d : (Rw.cons c r).T} (h : iZ (.cons c r) d = true) : iZ r d.2 = true := ((Bool.and_eq_true _ _).mp h).2
theorem MR {c : Cc} {r : Rw} {d : (Rw.cons c r).T} (h : iZ (.cons c r) d = true) : iR c d.1 = true := ((Bool.and_eq_true _ _).mp h).1
theorem F5 {r : Rw} {l : List r.T} (h : iR (.sl r) l = true) {x : r.T} (hx : x ∈ l) : iZ r x = true := by
 simp only [iR, Bool.and_eq_true, List.all_eq_true] at h
 exact h.2 x hx
theorem iw {r : Rw} {l : List r.T} (h : iR (.sl r) l = true) : l.length ≤ 1048576 := by
 simp only [iR, Bool.and_eq_true] at h
 exact Nat.le_of_ble_eq_true h.1
theorem Jt {r : Rw} {l : List r.T} (h : iR (.sl r) l = true) (hd : iZ r r.dflt = true) (k : Nat) : iZ r (l.getD k r.dflt) = true := by
 rw [List.getD_eq_getElem?_getD]
 rcases Nat.lt_or_ge k l.length with hk | hk
 ·rw [List.getElem?_eq_getElem hk]; exact F5 h (List.getElem_mem hk)
 ·rw [List.getElem?_eq_none hk]; exact hd
theorem MS {e : ak} (h : iZ ay e = true) : aO e.2.2 = true := FZ (dB (dB h))
theorem afM {r : Rw} {l m : List r.T} (h : iR (.sl r) l = true) (hl : m.length ≤ l.length) (hs : ∀ x ∈ m, x ∈ l) : iR (.sl r) m = true := by
 simp only [iR, Bool.and_eq_true, List.all_eq_true] at h ⊢
 exact ⟨Nat.ble_eq_true_of_le (Nat.le_trans hl (Nat.le_of_ble_eq_true h.1)), fun x hx => h.2 x (hs x hx)⟩
theorem Ju {r : Rw} {l : List r.T} (h : iR (.sl r) l = true) (n : Nat) : iR (.sl r) (l.take n) = true := afM h (by simp; omega) (fun _ hx => List.mem_of_mem_take hx)
theorem UR {r : Rw} {l : List r.T} (h : iR (.sl r) l = true) (n : Nat) : iR (.sl r) (l.drop n) = true := afM h (by simp) (fun _ hx => List.mem_of_mem_drop hx)
theorem amX {r : Rw} {l : List r.T} (hl : l.length ≤ 1048576) (hs : ∀ x ∈ l, iZ r x = true) : iR (.sl r) l = true := by
 simp only [iR, Bool.and_eq_true, List.all_eq_true]
 exact ⟨Nat.ble_eq_true_of_le hl, hs⟩
theorem take_snoc {α : Type} {l : List α} {i : Nat} (z : α) (hi : i < l.length) : l.take i ++ [l.getD i z] = l.take (i + 1) := by
 rw [List.take_add_one, List.getElem?_eq_getElem hi, List.getD_eq_getElem?_getD, List.getElem?_eq_getElem hi]; rfl
theorem aia {c : aC} (h : iZ aH c = true) : aO c.2.2.2 = true := FZ (dB (dB (dB h)))
theorem afN {c : aC} (h : iZ aH c = true) : iZ ay c.2 = true := dB h
theorem afO : ∀ (b : List Int), sumW (Rw.one (.int .u8)).w b = 0
 | [] => rfl
 | x :: b => by simp only [sumW, afO b]; rfl
theorem ajr (b : List Int) : (Cc.sl ah).w b = b.length := by
 show b.length + sumW (Rw.one (.int .u8)).w b = _
 rw [afO b]; rfl
theorem OI {b : List Int} (h : b.length ≤ 1048576) : (Cc.sl ah).lim b = true := by
 simp only [Cc.lim, Bool.and_eq_true, List.all_eq_true]
 exact ⟨Nat.ble_eq_true_of_le h, fun _ _ => rfl⟩
end Go.Ev.Seat
end
section
namespace Go.Ev.Seat
open Go.RowKit
set_option maxRecDepth 100000
set_option linter.unusedVariables false
set_option linter.unusedSimpArgs false
def vk (x2 : Bool) : St := { tm := ([.x, .x, (.s (.bool x2))] ++ List.replicate 33 .x), ob := [], nx := 0, io := [] }
def vw : St := { tm := ([] ++ List.replicate 36 .x), ob := [], nx := 0, io := [] }
def sG : Ss := { tm := (.cons (.l .no aI) (.cons (.x) (.cons (.x) (.cons (.int .i64) (Ed 32))))), ob := .nil, nx := 0, io := .nil }
def UU (x0 : List au) (x3 : Int) : sG.T := ((x0, ((), ((), (x3, xd 32)))), (), ())
def oW (x0 : List au) (x3 : Int) : St := { tm := ([(.l .no aI x0), .x, .x, (.s (.int .i64 x3))] ++ List.replicate 32 .x), ob := [], nx := 0, io := [] }
theorem Sj (x0 : List au) (x3 : Int) : sG.mk' (UU x0 x3) = (oW x0 x3) := by kernel_rfl
def UW (d : sG.T) (f : (List au) → Int → Option aj) : Option aj := match d with | ((x0, (_, (_, (x3, _)))), _, _) => f x0 x3
noncomputable def lJ (x0 : List au) (x3 : Int) (pW : (List au) → Int → Option aj) (k0 : Bool → Option aj) (k1 : Option aj) : Option aj := (bif (decide (x3 < (((List.length x0) : Nat) : Int))) then (bif ((decide ((0 : Int) ≤ x3)) && (decide (x3 < (((List.length x0) : Nat) : Int)))) then (bif (!(oU (List.getD x0 (Int.toNat x3) (aI.dflt)))) then (k0 false) else (bif (decide (x3 > (0 : Int))) then (bif ((decide ((0 : Int) ≤ (IntKind.wrap .i64 (x3 - (1 : Int))))) && (decide ((IntKind.wrap .i64 (x3 - (1 : Int))) < (((List.length x0) : Nat) : Int)))) then (bif ((decide ((0 : Int) ≤ x3)) && (decide (x3 < (((List.length x0) : Nat) : Int)))) then (bif (!(Si (List.getD x0 (Int.toNat (IntKind.wrap .i64 (x3 - (1 : Int)))) (aI.dflt)) (List.getD x0 (Int.toNat x3) (aI.dflt)))) then (k0 false) else (pW x0 (IntKind.wrap .i64 (x3 + (1 : Int))))) else none) else none) else (pW x0 (IntKind.wrap .i64 (x3 + (1 : Int)))))) else none) else k1)
noncomputable def oZ : Nat → (List au) → Int → (Bool → Option aj) → (Option aj) → Option aj
 | 0, _, _, _, _ => none
 | m + 1, x0, x3, k0, k1 => lJ x0 x3 (fun x0 x3 => (oZ m x0 x3 k0 k1)) k0 k1
noncomputable def Jv (x0 : List au) (x3 : Int) (k0 : Bool → Option aj) (k1 : Option aj) : Option aj := oZ (List.length x0 + x3.toNat + 2) x0 x3 k0 k1
noncomputable def zD : fG := (fun (σ : St) (K : Ex → St → Option aj) => (match sG.un σ with | some d => UW d (fun x0 x3 => Jv x0 x3 (fun x2 => (K .ret (vk x2))) (K (.ext 0) vw)) | none => none))
noncomputable abbrev qp : Env := En [(N.A8, true, J6), (N.ES, true, MQ)] [(6, takeB [0, 1, 2, 3] (.fork (.one 4 (takeB [5, 6, 7, 8, 9, 10, 11, 12, 13, 14, 15, 16, 17, 18] (.fork (.one 19 (takes [20, 21, 22])))))), [])] [(4, [0,3], [2], zD)] [] false 0 []
theorem Sl (m : Nat) (x0 : List au) (x3 : Int) (K : Ex → St → Option aj) : rounds (run qp (aA F.jO 4)) [0,3] [2] (m + 1) (oW x0 x3) K = lJ x0 x3 (fun x0 x3 => (rounds (run qp (aA F.jO 4)) [0,3] [2] m (oW x0 x3) K)) (fun x2 => (K .ret (vk x2))) (K (.ext 0) vw) := by kernel_rfl
theorem MV (K : Ex → St → Option aj) : ∀ m : Nat, (∀ (x0 : List au) (x3 : Int), rounds (run qp (aA F.jO 4)) [0,3] [2] m (oW x0 x3) K = oZ m x0 x3 (fun x2 => (K .ret (vk x2))) (K (.ext 0) vw))
 | 0 => (fun _ _ => rfl)
 | m + 1 => (fun x0 x3 => (by rw [Sl, show (fun x0 x3 => (rounds (run qp (aA F.jO 4)) [0,3] [2] m (oW x0 x3) K)) = (fun x0 x3 => (oZ m x0 x3 (fun x2 => (K .ret (vk x2))) (K (.ext 0) vw))) from funext fun x0 => funext fun x3 => (MV K m) x0 x3]; rfl))
theorem Qj : dL qp (aA F.jO 4) := by
 refine dG (n := 4) (F := zD) (by kernel_rfl) rfl (li := [0,3]) (lo := [2]) rfl (fun σ K r hr => ?_)
 unfold zD at hr
 split at hr
 ·rename_i d hd
  rw [Ss.fF hd]
  exact ⟨_, ((congrArg (fun z => rounds (run qp (aA F.jO 4)) [0,3] [2] _ z K) (Sj _ _)).trans ((MV K _) _ _)).trans hr⟩
 ·cases hr
noncomputable def J7 (l : List au) (K : aj → Option aj) : Option aj := (bif (decide ((((List.length l) : Nat) : Int) > (12 : Int))) then K ((.s (.bool false)), []) else (Jv l (0 : Int) (fun y0 => K ((.s (.bool y0)), [])) (K ((.s (.bool true)), []))))
theorem adF (l : List au) (K : aj → Option aj) : dS qp true F.jO [.l .no aI l] K = J7 l K := by kernel_rfl
def J8 : Sm := bD [.l aI] (fun d => Nat.ble d.1.length 1048576) (fun d => (bl (oV d.1), []))
theorem adG (l : List au) (h : (Nat.ble l.length 1048576) = true) (K : aj → Option aj) : J7 l K = K (bl (oV l), []) := by
 have hl := Nat.le_of_ble_eq_true h
 unfold J7 oV
 by_cases h6 : ((l.length : Nat) : Int) ≤ 12
 case neg => rw [decide_eq_false h6, decide_eq_true (show ((l.length : Nat) : Int) > 12 by omega)]; rfl
 rw [decide_eq_true h6, decide_eq_false (show ¬ ((l.length : Nat) : Int) > 12 by omega)]
 have q := zA (R := fun m i => oZ m l i (fun y0 => K ((.s (.bool y0)), [])) (K ((.s (.bool true)), []))) (p := zB l) (n := l.length) (kt := K ((.s (.bool true)), [])) (kf := K ((.s (.bool false)), [])) (fun m i hi => by
   show lJ l ((i : Nat) : Int) _ _ _ = _
   unfold lJ zB
   rw [decide_eq_true (show ((i : Nat) : Int) < ((l.length : Nat) : Int) by omega), decide_eq_true (show (0 : Int) ≤ ((i : Nat) : Int) by omega), Int.toNat_natCast, bY (by omega), show l.getD i aI.dflt = l.getD i fM from rfl]
   cases i with
   | zero =>
    rw [decide_eq_false (show ¬ ((0 : Nat) : Int) > 0 by omega)]
    cases oU (l.getD 0 fM) <;> rfl
   | succ i =>
    rw [wrap_in (n := ((i + 1 : Nat) : Int) - 1) (by omega) (by omega), decide_eq_true (show ((i + 1 : Nat) : Int) > 0 by omega), show ((i + 1 : Nat) : Int) - 1 = ((i : Nat) : Int) by omega, decide_eq_true (show (0 : Int) ≤ ((i : Nat) : Int) by omega), decide_eq_true (show ((i : Nat) : Int) < ((l.length : Nat) : Int) by omega), Int.toNat_natCast, show i + 1 - 1 = i from rfl, show l.getD i aI.dflt = l.getD i fM from rfl]
    cases oU (l.getD (i + 1) fM) <;> cases Si (l.getD i fM) (l.getD (i + 1) fM) <;> rfl) (fun m => by
   show lJ l ((l.length : Nat) : Int) _ _ _ = _
   unfold lJ
   rw [decide_eq_false (show ¬ ((l.length : Nat) : Int) < ((l.length : Nat) : Int) by omega)]; rfl) (List.length l + (0 : Int).toNat + 2) 0 (by omega) (by omega)
 refine Eq.trans q ?_
 rw [Nat.sub_zero]
 show (bif GN l.length (zB l) then _ else _) = _
 cases GN l.length (zB l) <;> rfl
theorem Zh : aT prog I N.jO true J8 := lN (aU (bf Zg (bf aaS bn)) (l := [(N.A8, true, J6), (N.ES, true, MQ)]) (p := [(6, takeB [0, 1, 2, 3] (.fork (.one 4 (takeB [5, 6, 7, 8, 9, 10, 11, 12, 13, 14, 15, 16, 17, 18] (.fork (.one 19 (takes [20, 21, 22])))))), [])]) (ls := [(4, [0,3], [2], zD)]) (lend := []) (focus := false) (fuel := 0) (give := []) (fn := F.jO) (by kernel_rfl) (by kernel_rfl) (by kernel_rfl) (by kernel_rfl) (cs := [aA F.jO 4]) (by kernel_rfl) (dw Qj aJ)) (aK fun d K h => (adF d.1 K).trans (adG d.1 h K))
end Go.Ev.Seat
end
section
namespace Go.Ev.Seat
open Go.RowKit
set_option maxRecDepth 100000
set_option linter.unusedVariables false
set_option linter.unusedSimpArgs false
def iM (o0 : List ak) : St := { tm := ([.x, .x, .x, (.w 0)] ++ List.replicate 19 .x), ob := [(0, (.arr true true ay o0))], nx := 1, io := [] }
def iO (o0 : List ak) : St := { tm := ([.x, .x, .x, (.w 0)] ++ List.replicate 19 .x), ob := [(0, (.arr true false ay o0))], nx := 1, io := [] }
def xk : Ss := { tm := (.cons (.x) (.cons (.pb 0 0) (.cons (.x) (.cons (.w 1) (.cons (.int .i64) (Ed 18)))))), ob := (.box (.cons (.l .no ah) (.cons (.l .no ah) (.cons (.l .no aH) (.cons (.int .i64) (.cons (.l .no aF) (.cons (.l .no aI) .nil)))))) (.arr true true ay .nil)), nx := 2, io := .nil }
def Zi (x4 : Int) (b00 : List Int) (b01 : List Int) (b02 : List aC) (aW : Int) (aX : List aB) (aY : List au) (o1 : List ak) : xk.T := (((), ((), ((), ((), (x4, xd 18))))), ((b00, (b01, (b02, (aW, (aX, (aY, ())))))), (o1, ())), ())
def lU (x4 : Int) (b00 : List Int) (b01 : List Int) (b02 : List aC) (aW : Int) (aX : List aB) (aY : List au) (o1 : List ak) : St := { tm := ([.x, (.pb 0 0), .x, (.w 1), (.s (.int .i64 x4))] ++ List.replicate 18 .x), ob := [(0, (.box [(.l .no ah b00), (.l .no ah b01), (.l .no aH b02), (.s (.int .i64 aW)), (.l .no aF aX), (.l .no aI aY)])), (1, (.arr true true ay o1))], nx := 2, io := [] }
theorem Xf (x4 : Int) (b00 : List Int) (b01 : List Int) (b02 : List aC) (aW : Int) (aX : List aB) (aY : List au) (o1 : List ak) : xk.mk' (Zi x4 b00 b01 b02 aW aX aY o1) = (lU x4 b00 b01 b02 aW aX aY o1) := by kernel_rfl
def Zj (d : xk.T) (f : Int → (List Int) → (List Int) → (List aC) → Int → (List aB) → (List au) → (List ak) → Option aj) : Option aj := match d with | ((_, (_, (_, (_, (x4, _))))), ((b00, (b01, (b02, (aW, (aX, (aY, _)))))), (o1, _)), _) => f x4 b00 b01 b02 aW aX aY o1
noncomputable def zF (x4 : Int) (b00 : List Int) (b01 : List Int) (b02 : List aC) (aW : Int) (aX : List aB) (aY : List au) (o1 : List ak) (pW : Int → (List Int) → (List Int) → (List aC) → Int → (List aB) → (List au) → (List ak) → Option aj) (nx1 : Int → (List Int) → (List Int) → (List aC) → Int → (List aB) → (List au) → (List ak) → Option aj) (k0 : (List ak) → Option aj) (k1 : (List ak) → Option aj) : Option aj := (bif (decide (x4 < (((List.length b02) : Nat) : Int))) then (bif ((decide ((0 : Int) ≤ x4)) && (decide (x4 < (((List.length b02) : Nat) : Int)))) then (bif (Nat.ble (((List.length o1) + (List.length ((List.getD b02 (Int.toNat x4) (aH.dflt)).2 :: []))) * 40) 140737488355328) then (nx1 (IntKind.wrap .i64 (x4 + (1 : Int))) b00 b01 b02 aW aX aY (o1 ++ ((List.getD b02 (Int.toNat x4) (aH.dflt)).2 :: []))) else none) else none) else (k0 o1))
def xq : Ss := { tm := (.cons (.x) (.cons (.pb 0 0) (.cons (.x) (.cons (.w 1) (.cons (.int .i64) (Ed 18)))))), ob := (.box (.cons (.l .no ah) (.cons (.l .no ah) (.cons (.l .no aH) (.cons (.int .i64) (.cons (.l .no aF) (.cons (.l .no aI) .nil)))))) (.arr true false ay .nil)), nx := 2, io := .nil }
def Zk (x4 : Int) (b00 : List Int) (b01 : List Int) (b02 : List aC) (aW : Int) (aX : List aB) (aY : List au) (o1 : List ak) : xq.T := (((), ((), ((), ((), (x4, xd 18))))), ((b00, (b01, (b02, (aW, (aX, (aY, ())))))), (o1, ())), ())
def lV (x4 : Int) (b00 : List Int) (b01 : List Int) (b02 : List aC) (aW : Int) (aX : List aB) (aY : List au) (o1 : List ak) : St := { tm := ([.x, (.pb 0 0), .x, (.w 1), (.s (.int .i64 x4))] ++ List.replicate 18 .x), ob := [(0, (.box [(.l .no ah b00), (.l .no ah b01), (.l .no aH b02), (.s (.int .i64 aW)), (.l .no aF aX), (.l .no aI aY)])), (1, (.arr true false ay o1))], nx := 2, io := [] }
theorem Xg (x4 : Int) (b00 : List Int) (b01 : List Int) (b02 : List aC) (aW : Int) (aX : List aB) (aY : List au) (o1 : List ak) : xq.mk' (Zk x4 b00 b01 b02 aW aX aY o1) = (lV x4 b00 b01 b02 aW aX aY o1) := by kernel_rfl
def Zl (d : xq.T) (f : Int → (List Int) → (List Int) → (List aC) → Int → (List aB) → (List au) → (List ak) → Option aj) : Option aj := match d with | ((_, (_, (_, (_, (x4, _))))), ((b00, (b01, (b02, (aW, (aX, (aY, _)))))), (o1, _)), _) => f x4 b00 b01 b02 aW aX aY o1
noncomputable def zG (x4 : Int) (b00 : List Int) (b01 : List Int) (b02 : List aC) (aW : Int) (aX : List aB) (aY : List au) (o1 : List ak) (pW : Int → (List Int) → (List Int) → (List aC) → Int → (List aB) → (List au) → (List ak) → Option aj) (nx1 : Int → (List Int) → (List Int) → (List aC) → Int → (List aB) → (List au) → (List ak) → Option aj) (k0 : (List ak) → Option aj) (k1 : (List ak) → Option aj) : Option aj := (bif (decide (x4 < (((List.length b02) : Nat) : Int))) then (bif ((decide ((0 : Int) ≤ x4)) && (decide (x4 < (((List.length b02) : Nat) : Int)))) then (bif (Nat.ble (((List.length o1) + (List.length ((List.getD b02 (Int.toNat x4) (aH.dflt)).2 :: []))) * 40) 140737488355328) then (nx1 (IntKind.wrap .i64 (x4 + (1 : Int))) b00 b01 b02 aW aX aY (o1 ++ ((List.getD b02 (Int.toNat x4) (aH.dflt)).2 :: []))) else none) else none) else (k1 o1))
mutual
noncomputable def kH : Nat → Int → (List Int) → (List Int) → (List aC) → Int → (List aB) → (List au) → (List ak) → ((List ak) → Option aj) → ((List ak) → Option aj) → Option aj
 | 0, _, _, _, _, _, _, _, _, _, _ => none
 | m + 1, x4, b00, b01, b02, aW, aX, aY, o1, k0, k1 => zF x4 b00 b01 b02 aW aX aY o1 (fun x4 b00 b01 b02 aW aX aY o1 => (kH m x4 b00 b01 b02 aW aX aY o1 k0 k1)) (fun x4 b00 b01 b02 aW aX aY o1 => (kJ m x4 b00 b01 b02 aW aX aY o1 k0 k1)) k0 k1
noncomputable def kJ : Nat → Int → (List Int) → (List Int) → (List aC) → Int → (List aB) → (List au) → (List ak) → ((List ak) → Option aj) → ((List ak) → Option aj) → Option aj
 | 0, _, _, _, _, _, _, _, _, _, _ => none
 | m + 1, x4, b00, b01, b02, aW, aX, aY, o1, k0, k1 => zG x4 b00 b01 b02 aW aX aY o1 (fun x4 b00 b01 b02 aW aX aY o1 => (kH m x4 b00 b01 b02 aW aX aY o1 k0 k1)) (fun x4 b00 b01 b02 aW aX aY o1 => (kJ m x4 b00 b01 b02 aW aX aY o1 k0 k1)) k0 k1
end
noncomputable def MW (x4 : Int) (b00 : List Int) (b01 : List Int) (b02 : List aC) (aW : Int) (aX : List aB) (aY : List au) (o1 : List ak) (k0 : (List ak) → Option aj) (k1 : (List ak) → Option aj) : Option aj := kH (x4.toNat + List.length b00 + List.length b01 + List.length b02 + aW.toNat + List.length aX + List.length aY + List.length o1 + 2) x4 b00 b01 b02 aW aX aY o1 k0 k1
noncomputable def Zm (x4 : Int) (b00 : List Int) (b01 : List Int) (b02 : List aC) (aW : Int) (aX : List aB) (aY : List au) (o1 : List ak) (k0 : (List ak) → Option aj) (k1 : (List ak) → Option aj) : Option aj := kJ (x4.toNat + List.length b00 + List.length b01 + List.length b02 + aW.toNat + List.length aX + List.length aY + List.length o1 + 2) x4 b00 b01 b02 aW aX aY o1 k0 k1
noncomputable def Ef : fG := (fun (σ : St) (K : Ex → St → Option aj) => (match xk.un σ with | some d => Zj d (fun x4 b00 b01 b02 aW aX aY o1 => MW x4 b00 b01 b02 aW aX aY o1 (fun o0 => (K (.ext 0) (iM o0))) (fun o0 => (K (.ext 0) (iO o0)))) | none => (match xq.un σ with | some d => Zl d (fun x4 b00 b01 b02 aW aX aY o1 => Zm x4 b00 b01 b02 aW aX aY o1 (fun o0 => (K (.ext 0) (iM o0))) (fun o0 => (K (.ext 0) (iO o0)))) | none => none)))
noncomputable abbrev iy : Env := En [] [] [(3, [1,3,4], [2,3], Ef)] [] false 0 []
theorem Xh (m : Nat) (x4 : Int) (b00 : List Int) (b01 : List Int) (b02 : List aC) (aW : Int) (aX : List aB) (aY : List au) (o1 : List ak) (K : Ex → St → Option aj) : rounds (run iy (aA F.fK 3)) [1,3,4] [2,3] (m + 1) (lU x4 b00 b01 b02 aW aX aY o1) K = zF x4 b00 b01 b02 aW aX aY o1 (fun x4 b00 b01 b02 aW aX aY o1 => (rounds (run iy (aA F.fK 3)) [1,3,4] [2,3] m (lU x4 b00 b01 b02 aW aX aY o1) K)) (fun x4 b00 b01 b02 aW aX aY o1 => (rounds (run iy (aA F.fK 3)) [1,3,4] [2,3] m (lV x4 b00 b01 b02 aW aX aY o1) K)) (fun o0 => (K (.ext 0) (iM o0))) (fun o0 => (K (.ext 0) (iO o0))) := by kernel_rfl
theorem Xi (m : Nat) (x4 : Int) (b00 : List Int) (b01 : List Int) (b02 : List aC) (aW : Int) (aX : List aB) (aY : List au) (o1 : List ak) (K : Ex → St → Option aj) : rounds (run iy (aA F.fK 3)) [1,3,4] [2,3] (m + 1) (lV x4 b00 b01 b02 aW aX aY o1) K = zG x4 b00 b01 b02 aW aX aY o1 (fun x4 b00 b01 b02 aW aX aY o1 => (rounds (run iy (aA F.fK 3)) [1,3,4] [2,3] m (lU x4 b00 b01 b02 aW aX aY o1) K)) (fun x4 b00 b01 b02 aW aX aY o1 => (rounds (run iy (aA F.fK 3)) [1,3,4] [2,3] m (lV x4 b00 b01 b02 aW aX aY o1) K)) (fun o0 => (K (.ext 0) (iM o0))) (fun o0 => (K (.ext 0) (iO o0))) := by kernel_rfl
theorem vC (K : Ex → St → Option aj) : ∀ m : Nat, (∀ (x4 : Int) (b00 : List Int) (b01 : List Int) (b02 : List aC) (aW : Int) (aX : List aB) (aY : List au) (o1 : List ak), rounds (run iy (aA F.fK 3)) [1,3,4] [2,3] m (lU x4 b00 b01 b02 aW aX aY o1) K = kH m x4 b00 b01 b02 aW aX aY o1 (fun o0 => (K (.ext 0) (iM o0))) (fun o0 => (K (.ext 0) (iO o0)))) ∧ (∀ (x4 : Int) (b00 : List Int) (b01 : List Int) (b02 : List aC) (aW : Int) (aX : List aB) (aY : List au) (o1 : List ak), rounds (run iy (aA F.fK 3)) [1,3,4] [2,3] m (lV x4 b00 b01 b02 aW aX aY o1) K = kJ m x4 b00 b01 b02 aW aX aY o1 (fun o0 => (K (.ext 0) (iM o0))) (fun o0 => (K (.ext 0) (iO o0))))
 | 0 => ⟨(fun _ _ _ _ _ _ _ _ => rfl), (fun _ _ _ _ _ _ _ _ => rfl)⟩
 | m + 1 => ⟨(fun x4 b00 b01 b02 aW aX aY o1 => (by rw [Xh, show (fun x4 b00 b01 b02 aW aX aY o1 => (rounds (run iy (aA F.fK 3)) [1,3,4] [2,3] m (lU x4 b00 b01 b02 aW aX aY o1) K)) = (fun x4 b00 b01 b02 aW aX aY o1 => (kH m x4 b00 b01 b02 aW aX aY o1 (fun o0 => (K (.ext 0) (iM o0))) (fun o0 => (K (.ext 0) (iO o0))))) from funext fun x4 => funext fun b00 => funext fun b01 => funext fun b02 => funext fun aW => funext fun aX => funext fun aY => funext fun o1 => (vC K m).1 x4 b00 b01 b02 aW aX aY o1, show (fun x4 b00 b01 b02 aW aX aY o1 => (rounds (run iy (aA F.fK 3)) [1,3,4] [2,3] m (lV x4 b00 b01 b02 aW aX aY o1) K)) = (fun x4 b00 b01 b02 aW aX aY o1 => (kJ m x4 b00 b01 b02 aW aX aY o1 (fun o0 => (K (.ext 0) (iM o0))) (fun o0 => (K (.ext 0) (iO o0))))) from funext fun x4 => funext fun b00 => funext fun b01 => funext fun b02 => funext fun aW => funext fun aX => funext fun aY => funext fun o1 => (vC K m).2 x4 b00 b01 b02 aW aX aY o1]; rfl)), (fun x4 b00 b01 b02 aW aX aY o1 => (by rw [Xi, show (fun x4 b00 b01 b02 aW aX aY o1 => (rounds (run iy (aA F.fK 3)) [1,3,4] [2,3] m (lU x4 b00 b01 b02 aW aX aY o1) K)) = (fun x4 b00 b01 b02 aW aX aY o1 => (kH m x4 b00 b01 b02 aW aX aY o1 (fun o0 => (K (.ext 0) (iM o0))) (fun o0 => (K (.ext 0) (iO o0))))) from funext fun x4 => funext fun b00 => funext fun b01 => funext fun b02 => funext fun aW => funext fun aX => funext fun aY => funext fun o1 => (vC K m).1 x4 b00 b01 b02 aW aX aY o1, show (fun x4 b00 b01 b02 aW aX aY o1 => (rounds (run iy (aA F.fK 3)) [1,3,4] [2,3] m (lV x4 b00 b01 b02 aW aX aY o1) K)) = (fun x4 b00 b01 b02 aW aX aY o1 => (kJ m x4 b00 b01 b02 aW aX aY o1 (fun o0 => (K (.ext 0) (iM o0))) (fun o0 => (K (.ext 0) (iO o0))))) from funext fun x4 => funext fun b00 => funext fun b01 => funext fun b02 => funext fun aW => funext fun aX => funext fun aY => funext fun o1 => (vC K m).2 x4 b00 b01 b02 aW aX aY o1]; rfl))⟩
theorem UY : dL iy (aA F.fK 3) := by
 refine dG (n := 3) (F := Ef) (by kernel_rfl) rfl (li := [1,3,4]) (lo := [2,3]) rfl (fun σ K r hr => ?_)
 unfold Ef at hr
 split at hr
 ·rename_i d hd
  rw [Ss.fF hd]
  exact ⟨_, ((congrArg (fun z => rounds (run iy (aA F.fK 3)) [1,3,4] [2,3] _ z K) (Xf _ _ _ _ _ _ _ _)).trans ((vC K _).1 _ _ _ _ _ _ _ _)).trans hr⟩
 ·split at hr
  ·rename_i d hd
   rw [Ss.fF hd]
   exact ⟨_, ((congrArg (fun z => rounds (run iy (aA F.fK 3)) [1,3,4] [2,3] _ z K) (Xg _ _ _ _ _ _ _ _)).trans ((vC K _).2 _ _ _ _ _ _ _ _)).trans hr⟩
  ·cases hr
noncomputable def Qk (d : eU) (K : aj → Option aj) : Option aj := (MW (0 : Int) d.1 d.2.1 d.2.2.1 d.2.2.2.1 d.2.2.2.2.1 d.2.2.2.2.2 [] (fun y0 => K ((.l .deep ay y0), [])) (fun y1 => K ((.l .top ay y1), [])))
theorem aib (d : eU) (K : aj → Option aj) : dS iy false F.fK [.a (bT.cells .no d)] K = Qk d K := by kernel_rfl
def yG : Sm := bD [.a bT] (fun d => Nat.ble d.1.2.2.1.length 1048576) (fun d => (.l .no ay (dN d.1.2.2.1), []))
theorem aic (d : eU) (h : (Nat.ble d.2.2.1.length 1048576) = true) (K : aj → Option aj) : Qk d (noK K) = K (.l .no ay (dN d.2.2.1), []) := by
 have hl := Nat.le_of_ble_eq_true h
 obtain ⟨st, tx, lg, ck, mb, ls⟩ := d
 have hl : lg.length ≤ 1048576 := hl
 unfold Qk
 have q : ∀ (k0 k1 : List ak → Option aj) (m i : Nat), i ≤ lg.length → lg.length - i < m → kJ m ((i : Nat) : Int) st tx lg ck mb ls (dN (lg.take i)) k0 k1 = k1 (dN lg) := by
  intro k0 k1 m
  induction m with
  | zero => intro i _ hm; omega
  | succ m ih =>
   intro i hi hm
   show zG ((i : Nat) : Int) st tx lg ck mb ls _ _ _ _ _ = _
   unfold zG
   by_cases hlt : i < lg.length
   ·have ht : dN (lg.take i) ++ [(lg.getD i aH.dflt).2] = dN (lg.take (i + 1)) := by
     rw [← take_snoc aH.dflt hlt]
     unfold dN
     rw [List.map_append]; rfl
    rw [decide_eq_true (show ((i : Nat) : Int) < ((lg.length : Nat) : Int) by omega), decide_eq_true (show (0 : Int) ≤ ((i : Nat) : Int) by omega), Int.toNat_natCast, bY (by omega), Nat.ble_eq_true_of_le (show ((dN (lg.take i)).length + [(lg.getD i aH.dflt).2].length) * 40 ≤ 140737488355328 by unfold dN; simp only [List.length_map, List.length_take, List.length_cons, List.length_nil]; omega), ht]
    exact ih (i + 1) (by omega) (by omega)
   ·obtain rfl : i = lg.length := by omega
    rw [decide_eq_false (show ¬ ((lg.length : Nat) : Int) < ((lg.length : Nat) : Int) by omega), List.take_length]; rfl
 have hq : ∀ (m : Nat) (k0 k1 : List ak → Option aj), kH (m + 1) 0 st tx lg ck mb ls [] k0 k1 = zF 0 st tx lg ck mb ls [] (fun a b c d e f g x => kH m a b c d e f g x k0 k1) (fun a b c d e f g x => kJ m a b c d e f g x k0 k1) k0 k1 := fun _ _ _ => rfl
 refine (hq ((0 : Int).toNat + List.length st + List.length tx + List.length lg + ck.toNat + List.length mb + List.length ls + List.length ([] : List ak) + 1) _ _).trans ?_
 unfold zF
 by_cases hlt : 0 < lg.length
 ·have ht : ([] : List ak) ++ [(lg.getD 0 aH.dflt).2] = dN (lg.take 1) := by
   rw [← take_snoc (i := 0) aH.dflt hlt]; rfl
  rw [decide_eq_true (show (0 : Int) < ((lg.length : Nat) : Int) by omega), show Int.toNat 0 = 0 from rfl, Nat.ble_eq_true_of_le (by simp), ht]
  exact q _ _ _ 1 (by omega) (by omega)
 ·have h0 : lg = [] := List.length_eq_zero_iff.1 (by omega)
  subst h0
  rfl
theorem J9 : aT prog I N.fK false yG := lN (aT.no (aU (fresh := false) bn (l := []) (p := []) (ls := [(3, [1,3,4], [2,3], Ef)]) (lend := []) (focus := false) (fuel := 0) (give := []) (fn := F.fK) (by kernel_rfl) (by kernel_rfl) (by kernel_rfl) (by kernel_rfl) (cs := [aA F.fK 3]) (by kernel_rfl) (dw UY aJ))) (aK fun d K h => (aib d.1 (noK K)).trans (aic d.1 h K))
end Go.Ev.Seat
end
section
namespace Go.Ev.Seat
open Go.RowKit
set_option maxRecDepth 100000
set_option linter.unusedVariables false
set_option linter.unusedSimpArgs false
noncomputable abbrev aaT : Env := En [] [] [] [] false 0 []
noncomputable def Ir (r : Int) (K : aj → Option aj) : Option aj := (bif (decide (r < (0 : Int))) then K ((.l .deep ah ([] : List Int)), []) else (bif (decide (r > (1114111 : Int))) then K ((.l .deep ah ([] : List Int)), []) else (bif (decide (r ≥ (55296 : Int))) then (bif (decide (r ≤ (57343 : Int))) then K ((.l .deep ah ([] : List Int)), []) else (bif (decide (r < (128 : Int))) then K ((.l .deep ah ((IntKind.wrap .u8 r) :: ([] : List Int))), []) else (bif (decide (r < (2048 : Int))) then K ((.l .deep ah ((IntKind.wrap .u8 (IntKind.wrap .i64 ((192 : Int) + (IntKind.wrap .i64 (Int.tdiv r (64 : Int)))))) :: ((IntKind.wrap .u8 (IntKind.wrap .i64 ((128 : Int) + (Int.tmod r (64 : Int))))) :: ([] : List Int)))), []) else (bif (decide (r < (65536 : Int))) then K ((.l .deep ah ((IntKind.wrap .u8 (IntKind.wrap .i64 ((224 : Int) + (IntKind.wrap .i64 (Int.tdiv r (4096 : Int)))))) :: ((IntKind.wrap .u8 (IntKind.wrap .i64 ((128 : Int) + (Int.tmod (IntKind.wrap .i64 (Int.tdiv r (64 : Int))) (64 : Int))))) :: ((IntKind.wrap .u8 (IntKind.wrap .i64 ((128 : Int) + (Int.tmod r (64 : Int))))) :: ([] : List Int))))), []) else K ((.l .deep ah ((IntKind.wrap .u8 (IntKind.wrap .i64 ((240 : Int) + (IntKind.wrap .i64 (Int.tdiv r (262144 : Int)))))) :: ((IntKind.wrap .u8 (IntKind.wrap .i64 ((128 : Int) + (Int.tmod (IntKind.wrap .i64 (Int.tdiv r (4096 : Int))) (64 : Int))))) :: ((IntKind.wrap .u8 (IntKind.wrap .i64 ((128 : Int) + (Int.tmod (IntKind.wrap .i64 (Int.tdiv r (64 : Int))) (64 : Int))))) :: ((IntKind.wrap .u8 (IntKind.wrap .i64 ((128 : Int) + (Int.tmod r (64 : Int))))) :: ([] : List Int)))))), []))))) else (bif (decide (r < (128 : Int))) then K ((.l .deep ah ((IntKind.wrap .u8 r) :: ([] : List Int))), []) else (bif (decide (r < (2048 : Int))) then K ((.l .deep ah ((IntKind.wrap .u8 (IntKind.wrap .i64 ((192 : Int) + (IntKind.wrap .i64 (Int.tdiv r (64 : Int)))))) :: ((IntKind.wrap .u8 (IntKind.wrap .i64 ((128 : Int) + (Int.tmod r (64 : Int))))) :: ([] : List Int)))), []) else (bif (decide (r < (65536 : Int))) then K ((.l .deep ah ((IntKind.wrap .u8 (IntKind.wrap .i64 ((224 : Int) + (IntKind.wrap .i64 (Int.tdiv r (4096 : Int)))))) :: ((IntKind.wrap .u8 (IntKind.wrap .i64 ((128 : Int) + (Int.tmod (IntKind.wrap .i64 (Int.tdiv r (64 : Int))) (64 : Int))))) :: ((IntKind.wrap .u8 (IntKind.wrap .i64 ((128 : Int) + (Int.tmod r (64 : Int))))) :: ([] : List Int))))), []) else K ((.l .deep ah ((IntKind.wrap .u8 (IntKind.wrap .i64 ((240 : Int) + (IntKind.wrap .i64 (Int.tdiv r (262144 : Int)))))) :: ((IntKind.wrap .u8 (IntKind.wrap .i64 ((128 : Int) + (Int.tmod (IntKind.wrap .i64 (Int.tdiv r (4096 : Int))) (64 : Int))))) :: ((IntKind.wrap .u8 (IntKind.wrap .i64 ((128 : Int) + (Int.tmod (IntKind.wrap .i64 (Int.tdiv r (64 : Int))) (64 : Int))))) :: ((IntKind.wrap .u8 (IntKind.wrap .i64 ((128 : Int) + (Int.tmod r (64 : Int))))) :: ([] : List Int)))))), [])))))))
theorem aaU (r : Int) (K : aj → Option aj) : dS aaT true F.yR [.s (.int .i64 r)] K = Ir r K := by kernel_rfl
def Iu : Sm := bD [.i] (fun d => true) (fun d => (.l .deep ah (wB d.1), []))
theorem aaV (r : Int) (K : aj → Option aj) : Ir r K = K (.l .deep ah (wB r), []) := by
  unfold Ir wB
  by_cases h1 : r < 0
  · rw [decide_eq_true h1, if_pos (by omega)]; rfl
  by_cases h2 : r > 1114111
  · rw [decide_eq_false h1, decide_eq_true h2, if_pos (by omega)]; rfl
  rw [decide_eq_false h1, decide_eq_false h2]
  have key : (bif (decide (r < (128 : Int))) then K ((.l .deep ah ((IntKind.wrap .u8 r) :: [])), []) else (bif (decide (r < (2048 : Int))) then
     K ((.l .deep ah ((IntKind.wrap .u8 (IntKind.wrap .i64 ((192 : Int) + (IntKind.wrap .i64 (Int.tdiv r (64 : Int)))))) :: ((IntKind.wrap .u8 (IntKind.wrap .i64 ((128 : Int) + (Int.tmod r (64 : Int))))) :: []))), [])
     else (bif (decide (r < (65536 : Int))) then
      K ((.l .deep ah ((IntKind.wrap .u8 (IntKind.wrap .i64 ((224 : Int) + (IntKind.wrap .i64 (Int.tdiv r (4096 : Int)))))) :: ((IntKind.wrap .u8 (IntKind.wrap .i64 ((128 : Int) + (Int.tmod (IntKind.wrap .i64 (Int.tdiv r (64 : Int))) (64 : Int))))) :: ((IntKind.wrap .u8 (IntKind.wrap .i64 ((128 : Int) + (Int.tmod r (64 : Int))))) :: [])))), [])
      else K ((.l .deep ah ((IntKind.wrap .u8 (IntKind.wrap .i64 ((240 : Int) + (IntKind.wrap .i64 (Int.tdiv r (262144 : Int)))))) :: ((IntKind.wrap .u8 (IntKind.wrap .i64 ((128 : Int) + (Int.tmod (IntKind.wrap .i64 (Int.tdiv r (4096 : Int))) (64 : Int))))) :: ((IntKind.wrap .u8 (IntKind.wrap .i64 ((128 : Int) + (Int.tmod (IntKind.wrap .i64 (Int.tdiv r (64 : Int))) (64 : Int))))) :: ((IntKind.wrap .u8 (IntKind.wrap .i64 ((128 : Int) + (Int.tmod r (64 : Int))))) :: []))))), [])))) = K (.l .deep ah (if r < 128 then [r] else if r < 2048 then [192 + r / 64, 128 + r % 64] else if r < 65536 then [224 + r / 4096, 128 + r / 64 % 64, 128 + r % 64] else [240 + r / 262144, 128 + r / 4096 % 64, 128 + r / 64 % 64, 128 + r % 64]), []) := by
    rw [Int.tdiv_eq_ediv_of_nonneg (by omega), Int.tdiv_eq_ediv_of_nonneg (by omega), Int.tdiv_eq_ediv_of_nonneg (by omega), Int.tmod_eq_emod_of_nonneg (by omega)]
    by_cases c1 : r < 128
    · rw [decide_eq_true c1, if_pos c1, ajl (by omega) (by omega)]; rfl
    rw [decide_eq_false c1, if_neg c1]
    by_cases c2 : r < 2048
    · rw [decide_eq_true c2, if_pos c2]
      simp (disch := omega) only [wrap_in, ajl, cond_true, cond_false]
    rw [decide_eq_false c2, if_neg c2]
    by_cases c3 : r < 65536
    · rw [decide_eq_true c3, if_pos c3]
      simp (disch := omega) only [wrap_in, ajl, Int.tmod_eq_emod_of_nonneg, cond_true, cond_false]
    · rw [decide_eq_false c3, if_neg c3]
      simp (disch := omega) only [wrap_in, ajl, Int.tmod_eq_emod_of_nonneg, cond_true, cond_false]
  by_cases h3 : r ≥ 55296
  · by_cases h4 : r ≤ 57343
    · rw [decide_eq_true h3, decide_eq_true h4, if_pos (by omega)]; rfl
    · rw [decide_eq_true h3, decide_eq_false h4, if_neg (by omega)]; exact key
  · rw [decide_eq_false h3, if_neg (by omega)]; exact key
theorem Xj : aT prog I N.yR true Iu := lN (aU bn (l := []) (p := []) (ls := []) (lend := []) (focus := false) (fuel := 0) (give := []) (fn := F.yR) (by kernel_rfl) (by kernel_rfl) (by kernel_rfl) (by kernel_rfl) (cs := []) (by kernel_rfl) aJ) (aK fun d K h => (aaU d.1 K).trans (aaV d.1 K))
end Go.Ev.Seat
end
