/- MachOk: parts PEvent PMove PDoc Fsl07Clock Fsl07Right Fsl07Less EvFit FsLeasesOk Fsl10Log FsRuneBytes Fsl01Rune FsRuneSize Fsl01Cuts FsTextOk FsRunesTo FsCutOk FsEditOk FsEditDo FsEditsDo Fsl10Session FsSelOk Fsl02Small Fsl05Small Fsl08All FsStackOk Fsl10Fits Fsl10FitAll Fsl07Meet PDocF PUtf2 PMoveF FsDocOk Fsl09Word Fsl09Is, packed by squash.py. -/
import Derived.Test.YthddmiaggpnokaaGreatDoorZMachOk0
import Derived.Test.YthddmiaggpnokaaGreatDoorZMachOk1
import Derived.Test.YthddmiaggpnokaaGreatDoorZMachOk2
import Derived.Test.YthddmiaggpnokaaGreatDoorZMachOk3
set_option linter.unusedVariables false
set_option linter.unusedSimpArgs false
section
set_option linter.unusedVariables false
namespace Go.Ev
open Go.RowKit
theorem Aq {ρ : Type} {R : Nat → Int → ρ} {p : Nat → Bool} {kt kf : ρ} {n : Nat}
  (hs : ∀ m (i : Nat), i < n → R (m + 1) i = bif p i then R m ((i + 1 : Nat) : Int) else kf)
  (he : ∀ m, R (m + 1) (n : Nat) = kt) : ∀ (m i : Nat), i ≤ n → n - i < m → R m i = bif (List.range' i (n - i)).all p then kt else kf
 | 0, i, _, h => absurd h (by omega)
 | m + 1, i, hi, hm => by
  by_cases h : i < n
  ·rw [hs m i h, show n - i = (n - (i + 1)) + 1 by omega, List.range'_succ, List.all_cons]
   cases hp : p i with
   | true => rw [cond_true, Aq hs he m (i + 1) (by omega) (by omega)]; rfl
   | false => rfl
  ·have : i = n := by omega
   subst this
   rw [he m, Nat.sub_self]; rfl
def Ar (n : Nat) (p : Nat → Bool) : Bool := (List.range' 0 n).all p
theorem H7 {n : Nat} {p : Nat → Bool} : Ar n p = true ↔ ∀ i, i < n → p i = true := by
 unfold Ar
 rw [List.all_eq_true]
 constructor
 ·intro h i hi; exact h i (by simpa using hi)
 ·intro h i hi; exact h i (by simpa using hi)
def lV (s : Int) : Bool := decide (1 ≤ s) && decide (s ≤ 8)
def aqH (n : Int) : Bool := decide (1 ≤ n) && decide (n ≤ 1000)
end Go.Ev
end
section
set_option linter.unusedVariables false
namespace Go.Ev
open Go.RowKit
def Nz (n : Int) : Bool := decide (0 ≤ n) && decide (n ≤ 400)
def aZ (e : E3) : Bool := Nz e.1 && Nz e.2.1 && decide (((e.2.2.length : Nat) : Int) ≤ 400)
def gW (p : Int) : Bool := decide (0 ≤ p) && decide (p ≤ 800)
theorem af9 {n : Int} : Nz n = true ↔ 0 ≤ n ∧ n ≤ 400 := by unfold Nz; rw [Bool.and_eq_true, decide_eq_true_iff, decide_eq_true_iff]
theorem nK {n : Int} : gW n = true ↔ 0 ≤ n ∧ n ≤ 800 := by unfold gW; rw [Bool.and_eq_true, decide_eq_true_iff, decide_eq_true_iff]
theorem pW {e : E3} : aZ e = true ↔ (0 ≤ e.1 ∧ e.1 ≤ 400) ∧ (0 ≤ e.2.1 ∧ e.2.1 ≤ 400) ∧ e.2.2.length ≤ 400 := by
 unfold aZ
 rw [Bool.and_eq_true, Bool.and_eq_true, af9, af9, decide_eq_true_iff]
 constructor
 ·rintro ⟨⟨h1, h2⟩, h3⟩; exact ⟨h1, h2, by omega⟩
 ·rintro ⟨h1, h2, h3⟩; exact ⟨⟨h1, h2⟩, by omega⟩
def bZ (e : E3) (p : Int) (r : Bool) : Int := bif decide (p < e.1) then p else bif (p == e.1) || decide (p < e.1 + e.2.1) then (bif r then e.1 + ((e.2.2.length : Nat) : Int) else e.1) else p - e.2.1 + ((e.2.2.length : Nat) : Int)
theorem acU (e : E3) (p : Int) (r : Bool) : (p < e.1 ∧ bZ e p r = p) ∨ (e.1 ≤ p ∧ (p = e.1 ∨ p < e.1 + e.2.1) ∧ r = true ∧ bZ e p r = e.1 + ((e.2.2.length : Nat) : Int)) ∨ (e.1 ≤ p ∧ (p = e.1 ∨ p < e.1 + e.2.1) ∧ r = false ∧ bZ e p r = e.1) ∨ (e.1 < p ∧ e.1 + e.2.1 ≤ p ∧ bZ e p r = p - e.2.1 + ((e.2.2.length : Nat) : Int)) := by
 unfold bZ
 by_cases h1 : p < e.1
 ·rw [decide_eq_true h1]; exact .inl ⟨h1, rfl⟩
 ·rw [decide_eq_false h1]
  by_cases h2 : p = e.1
  ·rw [beq_iff_eq.2 h2]
   cases r with
   | true => exact .inr (.inl ⟨by omega, .inl h2, rfl, rfl⟩)
   | false => exact .inr (.inr (.inl ⟨by omega, .inl h2, rfl, rfl⟩))
  ·rw [beq_false_of_ne h2]
   by_cases h3 : p < e.1 + e.2.1
   ·rw [decide_eq_true h3]
    cases r with
    | true => exact .inr (.inl ⟨by omega, .inr h3, rfl, rfl⟩)
    | false => exact .inr (.inr (.inl ⟨by omega, .inr h3, rfl, rfl⟩))
   ·rw [decide_eq_false h3]; exact .inr (.inr (.inr ⟨by omega, by omega, rfl⟩))
theorem nM {e : E3} {p : Int} (r : Bool) (he : aZ e = true) (hp : 0 ≤ p) : 0 ≤ bZ e p r ∧ bZ e p r ≤ p + 800 := by
 have h := pW.1 he
 rcases acU e p r with ⟨a, b⟩ | ⟨a, b, c, d⟩ | ⟨a, b, c, d⟩ | ⟨a, b, c⟩ <;> omega
def O9 (e : E3) (i j : Int) : Int × Int := (bZ e i true, bif i == j then bZ e i true else max (bZ e i true) (bZ e j false))
def iW (a b : E3) : E3 := (bZ b a.1 true, (O9 b a.1 (a.1 + a.2.1)).2 - bZ b a.1 true, a.2.2)
def aoE : E3 × Bool := ((0, 0, []), false)
def CW (a b : E3) : E3 × Bool := bif aZ a && aZ b then (iW a b, true) else aoE
def zy : List E3 → E3 → E3 × Bool
 | [], e => (e, true)
 | b :: l, e => bif aZ e && aZ b then zy l (iW e b) else aoE
def wZ (e : E3) (l : List E3) : E3 × Bool := bif aZ e then zy l e else aoE
theorem VK {a b : E3} (ha : aZ a = true) (hb : aZ b = true) : 0 ≤ (iW a b).1 ∧ (iW a b).1 ≤ 1200 ∧ 0 ≤ (iW a b).2.1 ∧ (iW a b).2.1 ≤ 1600 ∧ (iW a b).2.2 = a.2.2 := by
 have h := pW.1 ha
 have h1 := nM (p := a.1) true hb (by omega)
 have h2 := nM (p := a.1 + a.2.1) false hb (by omega)
 refine ⟨h1.1, by show bZ b a.1 true ≤ 1200; omega, ?_, ?_, rfl⟩
 ·show 0 ≤ (bif a.1 == a.1 + a.2.1 then bZ b a.1 true else max (bZ b a.1 true) (bZ b (a.1 + a.2.1) false)) - bZ b a.1 true
  cases (a.1 == a.1 + a.2.1) with
  | true => rw [cond_true]; omega
  | false => rw [cond_false]; omega
 ·show (bif a.1 == a.1 + a.2.1 then bZ b a.1 true else max (bZ b a.1 true) (bZ b (a.1 + a.2.1) false)) - bZ b a.1 true ≤ 1600
  cases (a.1 == a.1 + a.2.1) with
  | true => rw [cond_true]; omega
  | false => rw [cond_false]; omega
abbrev ST : Type := List E3 × List E3
def okL (l : List E3) : Bool := decide (((l.length : Nat) : Int) ≤ 6) && l.all aZ
def jH (s : ST) : Bool := okL s.1 && okL s.2
theorem anB {l : List E3} (h : okL l = true) : l.length ≤ 6 := by
 unfold okL at h
 rw [Bool.and_eq_true, decide_eq_true_iff] at h
 omega
end Go.Ev
end
section
set_option linter.unusedVariables false
namespace Go.Ev
open Go.RowKit
abbrev L4 : Type := Int × Int × Int × Int
def oh (l : L4) : Bool := decide (0 ≤ l.1) && decide (l.1 ≤ l.2.1) && decide (l.2.1 ≤ 400) && lV l.2.2.1 && aqH l.2.2.2
def VL (a b : L4) : Bool := bif a.1 != b.1 then decide (a.1 < b.1) else bif a.2.1 != b.2.1 then decide (a.2.1 < b.2.1) else decide (a.2.2.1 < b.2.2.1)
def zY (a b : Int) : Int := bif decide (a < b) then -1 else bif decide (a > b) then 1 else 0
def aoF (a b : L4) : Int := bif zY a.1 b.1 != 0 then zY a.1 b.1 else bif zY a.2.1 b.2.1 != 0 then zY a.2.1 b.2.1 else zY a.2.2.1 b.2.2.1
theorem Lj (a b : Int) : (a < b ∧ zY a b = -1) ∨ (a = b ∧ zY a b = 0) ∨ (b < a ∧ zY a b = 1) := by
 unfold zY
 by_cases h1 : a < b
 ·rw [decide_eq_true h1]; exact .inl ⟨h1, rfl⟩
 ·rw [decide_eq_false h1]
  by_cases h2 : a > b
  ·rw [decide_eq_true h2]; exact .inr (.inr ⟨h2, rfl⟩)
  ·rw [decide_eq_false h2]; exact .inr (.inl ⟨by omega, rfl⟩)
theorem anC {a b : Int} (h : a ≠ b) : (a != b) = true := bne_iff_ne.2 h
theorem anD {a b : Int} (h : a = b) : (a != b) = false := by simp [h]
theorem aqI (a b : L4) : decide (aoF a b ≥ 0) = !VL a b := by
 unfold aoF VL
 rcases Lj a.1 b.1 with ⟨h1, e1⟩ | ⟨h1, e1⟩ | ⟨h1, e1⟩
 ·rw [e1, anC (show a.1 ≠ b.1 by omega), decide_eq_true (show a.1 < b.1 from h1)]; rfl
 ·rw [e1, anD h1]
  rcases Lj a.2.1 b.2.1 with ⟨h2, e2⟩ | ⟨h2, e2⟩ | ⟨h2, e2⟩
  ·rw [e2, anC (show a.2.1 ≠ b.2.1 by omega), decide_eq_true (show a.2.1 < b.2.1 from h2)]; rfl
  ·rw [e2, anD h2]
   rcases Lj a.2.2.1 b.2.2.1 with ⟨h3, e3⟩ | ⟨h3, e3⟩ | ⟨h3, e3⟩
   ·rw [e3, decide_eq_true (show a.2.2.1 < b.2.2.1 from h3)]; rfl
   ·rw [e3, decide_eq_false (show ¬ a.2.2.1 < b.2.2.1 by omega)]; rfl
   ·rw [e3, decide_eq_false (show ¬ a.2.2.1 < b.2.2.1 by omega)]; rfl
  ·rw [e2, anC (show a.2.1 ≠ b.2.1 by omega), decide_eq_false (show ¬ a.2.1 < b.2.1 by omega)]; rfl
 ·rw [e1, anC (show a.1 ≠ b.1 by omega), decide_eq_false (show ¬ a.1 < b.1 by omega)]; rfl
def fA : L4 := (0, 0, 0, 0)
def Au (l : List L4) (i : Nat) : Bool := oh (l.getD i fA) && (Nat.beq i 0 || VL (l.getD (i - 1) fA) (l.getD i fA))
def oq (l : List L4) : Bool := decide (((l.length : Nat) : Int) ≤ 12) && Ar l.length (Au l)
def JU (n : Int) : Bool := decide (0 ≤ n) && decide (n ≤ 1000)
def fE (t : List Int) (e : E3) : Bool := bY t e.1 && decide (0 ≤ e.2.1) && decide (e.2.1 ≤ ((t.length : Nat) : Int) - e.1) && bY t (e.1 + e.2.1) && aT e.2.2
abbrev C4 : Type := Int × E3
def bF (l : List C4) : List E3 := l.map (fun c => c.2)
def xG (s t : List Int) (l : List C4) : Bool := decide (((l.length : Nat) : Int) ≤ 60) && l.all (fun c => lV c.1) && ((aU s (bF l)).2 == ((l.length : Nat) : Int)) && decide ((aU s (bF l)).1 = t)
abbrev M5 : Type := Int × Int × Int × ST
def zQ : M5 := (0, 0, 0, [], [])
def abR (t : List Int) (m : M5) : Bool := lV m.1 && bY t m.2.1 && bY t m.2.2.1 && jH m.2.2.2 && m.2.2.2.1.all (fE t) && m.2.2.2.2.all (fE t)
def ou (t : List Int) (l : List M5) (i : Nat) : Bool := abR t (l.getD i zQ) && (Nat.beq i 0 || decide ((l.getD (i - 1) zQ).1 < (l.getD i zQ).1))
def uH (t : List Int) (l : List M5) : Bool := decide (((l.length : Nat) : Int) ≤ 8) && Ar l.length (ou t l)
def Jp (a b : L4) : Bool := decide (max a.1 b.1 < min a.2.1 b.2.1)
def FM (t : List Int) (c : Int) (l : List L4) (i : Nat) : Bool := decide ((l.getD i fA).2.2.2 > c) && bY t (l.getD i fA).1 && bY t (l.getD i fA).2.1 && Ar i (fun k => !(((l.getD k fA).2.2.1 != (l.getD i fA).2.2.1) && Jp (l.getD k fA) (l.getD i fA)))
def aga (t : List Int) (c : Int) (l : List L4) : Bool := oq l && Ar l.length (FM t c l)
abbrev D6 : Type := List Int × List Int × List C4 × Int × List M5 × List L4
def jk (d : D6) : Bool := aT d.1 && xG d.1 d.2.1 d.2.2.1 && JU d.2.2.2.1 && uH d.2.1 d.2.2.2.2.1 && aga d.2.1 d.2.2.2.1 d.2.2.2.2.2
theorem al8 (a b : L4) : (decide (a.1 < b.2.1) && decide (b.1 < a.2.1) && decide (a.1 < a.2.1) && decide (b.1 < b.2.1)) = Jp a b := by
 unfold Jp
 rw [Bool.eq_iff_iff]
 simp only [Bool.and_eq_true, decide_eq_true_eq]
 omega
def orD (l : List Int) : Int := (l.find? (fun c => c != 0)).getD 0
end Go.Ev
end
section
namespace Go.Ev.Seat
open Go.RowKit
set_option maxRecDepth 100000
set_option linter.unusedVariables false
set_option linter.unusedSimpArgs false
noncomputable abbrev ahg : Env := En [] [] [] [] false 0 []
noncomputable def MN (n : Int) (K : aj → Option aj) : Option aj := (bif (decide (n ≥ (0 : Int))) then K ((.s (.bool (decide (n ≤ (1000 : Int))))), []) else K ((.s (.bool false)), []))
theorem ahh (n : Int) (K : aj → Option aj) : dL ahg true F.GK [.s (.int .i64 n)] K = MN n K := by kernel_rfl
def VN : Sm := bg [.i] (fun d => true) (fun d => (bl (JU d.1), []))
theorem ahi (n : Int) (K : aj → Option aj) : MN n K = K (bl (JU n), []) := by
 unfold MN JU
 rw [show decide (n ≥ 0) = decide (0 ≤ n) from rfl]
 cases decide (0 ≤ n) <;> rfl
theorem acV : aV prog I N.GK true VN := kD (aW bn (l := []) (p := []) (ls := []) (lend := []) (focus := false) (fuel := 0) (give := []) (fn := F.GK) (by kernel_rfl) (by kernel_rfl) (by kernel_rfl) (by kernel_rfl) (cs := []) (by kernel_rfl) aK) (aI fun d K h => (ahh d.1 K).trans (ahi d.1 K))
end Go.Ev.Seat
end
section
namespace Go.Ev.Seat
open Go.RowKit
set_option maxRecDepth 100000
set_option linter.unusedVariables false
set_option linter.unusedSimpArgs false
noncomputable abbrev ahj : Env := En [] [] [] [] false 0 []
noncomputable def MO (l : ak) (K : aj → Option aj) : Option aj := (bif (decide (l.1 ≥ (0 : Int))) then (bif (decide (l.1 ≤ l.2.1)) then (bif (decide (l.2.1 ≤ (400 : Int))) then (bif (decide (l.2.2.1 ≥ (1 : Int))) then (bif (decide (l.2.2.1 ≤ (8 : Int))) then (bif (decide (l.2.2.2 ≥ (1 : Int))) then K ((.s (.bool (decide (l.2.2.2 ≤ (1000 : Int))))), []) else K ((.s (.bool false)), [])) else K ((.s (.bool false)), [])) else K ((.s (.bool false)), [])) else K ((.s (.bool false)), [])) else K ((.s (.bool false)), [])) else K ((.s (.bool false)), []))
theorem ahk (l : ak) (K : aj → Option aj) : dL ahj true F.GV [.a (aH.cells .no l)] K = MO l K := by kernel_rfl
def VO : Sm := bg [.a aH] (fun d => true) (fun d => (bl (oh d.1), []))
theorem ahl (l : ak) (K : aj → Option aj) : MO l K = K (bl (oh l), []) := by
 unfold MO oh lV aqH
 rw [show decide (l.1 ≥ 0) = decide (0 ≤ l.1) from rfl, show decide (l.2.2.1 ≥ 1) = decide (1 ≤ l.2.2.1) from rfl, show decide (l.2.2.2 ≥ 1) = decide (1 ≤ l.2.2.2) from rfl]
 cases decide (0 ≤ l.1) <;> cases decide (l.1 ≤ l.2.1) <;> cases decide (l.2.1 ≤ 400) <;> cases decide (1 ≤ l.2.2.1) <;> cases decide (l.2.2.1 ≤ 8) <;> cases decide (1 ≤ l.2.2.2) <;> rfl
theorem acW : aV prog I N.GV true VO := kD (aW bn (l := []) (p := []) (ls := []) (lend := []) (focus := false) (fuel := 0) (give := []) (fn := F.GV) (by kernel_rfl) (by kernel_rfl) (by kernel_rfl) (by kernel_rfl) (cs := []) (by kernel_rfl) aK) (aI fun d K h => (ahk d.1 K).trans (ahl d.1 K))
end Go.Ev.Seat
end
section
namespace Go.Ev.Seat
open Go.RowKit
set_option maxRecDepth 100000
set_option linter.unusedVariables false
set_option linter.unusedSimpArgs false
noncomputable abbrev ajC : Env := En [] [] [] [] false 0 []
noncomputable def Pg (a : ak) (b : ak) (K : aj → Option aj) : Option aj := (bif (a.1 != b.1) then K ((.s (.bool (decide (a.1 < b.1)))), []) else (bif (a.2.1 != b.2.1) then K ((.s (.bool (decide (a.2.1 < b.2.1)))), []) else K ((.s (.bool (decide (a.2.2.1 < b.2.2.1)))), [])))
theorem ajD (a : ak) (b : ak) (K : aj → Option aj) : dL ajC true F.KJ [.a (aH.cells .no a), .a (aH.cells .no b)] K = Pg a b K := by kernel_rfl
def ZV : Sm := bg [.a aH, .a aH] (fun d => true) (fun d => (bl (VL d.1 d.2.1), []))
theorem ajE (a : ak) (b : ak) (K : aj → Option aj) : Pg a b K = K (bl (VL a b), []) := by
 unfold Pg VL
 cases (a.1 != b.1) <;> cases (a.2.1 != b.2.1) <;> rfl
theorem aeR : aV prog I N.KJ true ZV := kD (aW bn (l := []) (p := []) (ls := []) (lend := []) (focus := false) (fuel := 0) (give := []) (fn := F.KJ) (by kernel_rfl) (by kernel_rfl) (by kernel_rfl) (by kernel_rfl) (cs := []) (by kernel_rfl) aK) (aI fun d K h => (ajD d.1 d.2.1 K).trans (ajE d.1 d.2.1 K))
end Go.Ev.Seat
end
section
set_option linter.unusedVariables false
namespace Go.Ev.Seat
open Go.RowKit
mutual
def fF : (c : Cc) → c.T → Bool
 | .int .u8, n => isB n
 | .int _, _ => true
 | .bool, _ => true
 | .str, _ => true
 | .sl r, xs => Nat.ble xs.length 1048576 && xs.all (cZ r)
def cZ : (r : Rw) → r.T → Bool
 | .one c, d => fF c d
 | .cons c r, d => fF c d.1 && cZ r d.2
end
mutual
theorem anE : (c : Cc) → (d : c.T) → c.wf d → c.lim d = true → fF c d = true
 | .int k, n, h, _ => by
  cases k <;> simp only [fF]
  have h' : (Lit.int .u8 n).wf = true := h
  simp only [Lit.wf, Bool.and_eq_true, decide_eq_true_eq] at h'
  have a : IntKind.u8.min = 0 := rfl
  have b : IntKind.u8.max = 255 := rfl
  rw [a, b] at h'
  simp only [isB, Bool.and_eq_true, decide_eq_true_eq]
  exact h'
 | .bool, _, _, _ => rfl
 | .str, _, _, _ => rfl
 | .sl r, xs, h, g => by
  simp only [Cc.lim, Bool.and_eq_true, List.all_eq_true] at g
  simp only [fF, Bool.and_eq_true, List.all_eq_true]
  exact ⟨g.1, fun x hx => ahm r x (h.2 x hx) (g.2 x hx)⟩
theorem ahm : (r : Rw) → (d : r.T) → r.wf d → r.lim d = true → cZ r d = true
 | .one c, d, h, g => anE c d h g
 | .cons c r, d, h, g => by
  simp only [Rw.lim, Bool.and_eq_true] at g
  simp only [cZ, Bool.and_eq_true]
  exact ⟨anE c d.1 h.1 g.1, ahm r d.2 h.2 g.2⟩
end
theorem Ey {b : List Int} (h : fF (.sl ah) b = true) : aO b = true := h
theorem aX {c : Cc} {r : Rw} {d : (Rw.cons c r).T} (h : cZ (.cons c r) d = true) : cZ r d.2 = true := ((Bool.and_eq_true _ _).mp h).2
theorem kR {c : Cc} {r : Rw} {d : (Rw.cons c r).T} (h : cZ (.cons c r) d = true) : fF c d.1 = true := ((Bool.and_eq_true _ _).mp h).1
theorem H8 {r : Rw} {l : List r.T} (h : fF (.sl r) l = true) {x : r.T} (hx : x ∈ l) : cZ r x = true := by
 simp only [fF, Bool.and_eq_true, List.all_eq_true] at h
 exact h.2 x hx
theorem dN {r : Rw} {l : List r.T} (h : fF (.sl r) l = true) : l.length ≤ 1048576 := by
 simp only [fF, Bool.and_eq_true] at h
 exact Nat.le_of_ble_eq_true h.1
theorem vP {r : Rw} {l : List r.T} (h : fF (.sl r) l = true) (hd : cZ r r.dflt = true) (k : Nat) : cZ r (l.getD k r.dflt) = true := by
 rw [List.getD_eq_getElem?_getD]
 rcases Nat.lt_or_ge k l.length with hk | hk
 ·rw [List.getElem?_eq_getElem hk]; exact H8 h (List.getElem_mem hk)
 ·rw [List.getElem?_eq_none hk]; exact hd
theorem Ph {e : ay} (h : cZ aB e = true) : aO e.2.2 = true := Ey (aX (aX h))
theorem ajF {r : Rw} {l m : List r.T} (h : fF (.sl r) l = true) (hl : m.length ≤ l.length) (hs : ∀ x ∈ m, x ∈ l) : fF (.sl r) m = true := by
 simp only [fF, Bool.and_eq_true, List.all_eq_true] at h ⊢
 exact ⟨Nat.ble_eq_true_of_le (Nat.le_trans hl (Nat.le_of_ble_eq_true h.1)), fun x hx => h.2 x (hs x hx)⟩
theorem vS {r : Rw} {l : List r.T} (h : fF (.sl r) l = true) (n : Nat) : fF (.sl r) (l.take n) = true := ajF h (by simp; omega) (fun _ hx => List.mem_of_mem_take hx)
theorem Ym {r : Rw} {l : List r.T} (h : fF (.sl r) l = true) (n : Nat) : fF (.sl r) (l.drop n) = true := ajF h (by simp) (fun _ hx => List.mem_of_mem_drop hx)
theorem anF {r : Rw} {l : List r.T} (hl : l.length ≤ 1048576) (hs : ∀ x ∈ l, cZ r x = true) : fF (.sl r) l = true := by
 simp only [fF, Bool.and_eq_true, List.all_eq_true]
 exact ⟨Nat.ble_eq_true_of_le hl, hs⟩
theorem take_snoc {α : Type} {l : List α} {i : Nat} (z : α) (hi : i < l.length) : l.take i ++ [l.getD i z] = l.take (i + 1) := by
 rw [List.take_add_one, List.getElem?_eq_getElem hi, List.getD_eq_getElem?_getD, List.getElem?_eq_getElem hi]; rfl
theorem acX {c : aA} (h : cZ aF c = true) : aO c.2.2.2 = true := Ey (aX (aX (aX h)))
theorem ajG {c : aA} (h : cZ aF c = true) : cZ aB c.2 = true := aX h
theorem Q9 {b : List Int} (h : b.length ≤ 1048576) : (Cc.sl ah).lim b = true := by
 simp only [Cc.lim, Bool.and_eq_true, List.all_eq_true]
 exact ⟨Nat.ble_eq_true_of_le h, fun _ _ => rfl⟩
end Go.Ev.Seat
end
section
namespace Go.Ev.Seat
open Go.RowKit
set_option maxRecDepth 100000
set_option linter.unusedVariables false
set_option linter.unusedSimpArgs false
def vU (x2 : Bool) : St := { tm := ([.x, .x, (.s (.bool x2))] ++ List.replicate 33 .x), ob := [], nx := 0, io := [] }
def vV : St := { tm := ([] ++ List.replicate 36 .x), ob := [], nx := 0, io := [] }
def sF : Ss := { tm := (.cons (.l .no aH) (.cons (.x) (.cons (.x) (.cons (.int .i64) (Fj 32))))), ob := .nil, nx := 0, io := .nil }
def Yn (x0 : List ak) (x3 : Int) : sF.T := ((x0, ((), ((), (x3, xd 32)))), (), ())
def oz (x0 : List ak) (x3 : Int) : St := { tm := ([(.l .no aH x0), .x, .x, (.s (.int .i64 x3))] ++ List.replicate 32 .x), ob := [], nx := 0, io := [] }
theorem VP (x0 : List ak) (x3 : Int) : sF.mk' (Yn x0 x3) = (oz x0 x3) := by kernel_rfl
def Yo (d : sF.T) (f : (List ak) → Int → Option aj) : Option aj := match d with | ((x0, (_, (_, (x3, _)))), _, _) => f x0 x3
noncomputable def lu (x0 : List ak) (x3 : Int) (lC : (List ak) → Int → Option aj) (k0 : Bool → Option aj) (k1 : Option aj) : Option aj := (bif (decide (x3 < (((List.length x0) : Nat) : Int))) then (bif ((decide ((0 : Int) ≤ x3)) && (decide (x3 < (((List.length x0) : Nat) : Int)))) then (bif (!(oh (List.getD x0 (Int.toNat x3) (aH.dflt)))) then (k0 false) else (bif (decide (x3 > (0 : Int))) then (bif ((decide ((0 : Int) ≤ (IntKind.wrap .i64 (x3 - (1 : Int))))) && (decide ((IntKind.wrap .i64 (x3 - (1 : Int))) < (((List.length x0) : Nat) : Int)))) then (bif ((decide ((0 : Int) ≤ x3)) && (decide (x3 < (((List.length x0) : Nat) : Int)))) then (bif (!(VL (List.getD x0 (Int.toNat (IntKind.wrap .i64 (x3 - (1 : Int)))) (aH.dflt)) (List.getD x0 (Int.toNat x3) (aH.dflt)))) then (k0 false) else (lC x0 (IntKind.wrap .i64 (x3 + (1 : Int))))) else none) else none) else (lC x0 (IntKind.wrap .i64 (x3 + (1 : Int)))))) else none) else k1)
noncomputable def oC : Nat → (List ak) → Int → (Bool → Option aj) → (Option aj) → Option aj
 | 0, _, _, _, _ => none
 | m + 1, x0, x3, k0, k1 => lu x0 x3 (fun x0 x3 => (oC m x0 x3 k0 k1)) k0 k1
noncomputable def Ll (x0 : List ak) (x3 : Int) (k0 : Bool → Option aj) (k1 : Option aj) : Option aj := oC (List.length x0 + x3.toNat + 2) x0 x3 k0 k1
noncomputable def Aw : dV := (fun (σ : St) (K : Ex → St → Option aj) => (match sF.un σ with | some d => Yo d (fun x0 x3 => Ll x0 x3 (fun x2 => (K .ret (vU x2))) (K (.ext 0) vV)) | none => none))
noncomputable abbrev RI : List (Nat × Plan × List Nat) := [(6, takeB [0, 1, 2, 3] (.fork (.one 4 (takeB [5, 6, 7, 8, 9, 10, 11, 12, 13, 14, 15, 16, 17, 18] (.fork (.one 19 (takes [20, 21, 22])))))), [])]
noncomputable abbrev RJ : List (Nat × Bool × Sm) := [(N.GV, true, VO), (N.KJ, true, ZV)]
noncomputable abbrev MP : Env := En RJ RI [(4, [0,3], [2], Aw)] [] false 0 []
noncomputable abbrev uI := rounds (run MP (aS F.uj 4)) [0,3] [2]
theorem VQ (m : Nat) (x0 : List ak) (x3 : Int) (K : Ex → St → Option aj) : uI (m + 1) (oz x0 x3) K = lu x0 x3 (fun x0 x3 => (uI m (oz x0 x3) K)) (fun x2 => (K .ret (vU x2))) (K (.ext 0) vV) := by kernel_rfl
theorem Pj (K : Ex → St → Option aj) : ∀ m : Nat, (∀ (x0 : List ak) (x3 : Int), uI m (oz x0 x3) K = oC m x0 x3 (fun x2 => (K .ret (vU x2))) (K (.ext 0) vV))
 | 0 => (fun _ _ => rfl)
 | m + 1 => (fun x0 x3 => (by rw [VQ, show (fun x0 x3 => (uI m (oz x0 x3) K)) = (fun x0 x3 => (oC m x0 x3 (fun x2 => (K .ret (vU x2))) (K (.ext 0) vV))) from funext fun x0 => funext fun x3 => (Pj K m) x0 x3]; rfl))
theorem Uc : dJ MP (aS F.uj 4) := by
 refine dh (n := 4) (F := Aw) (by kernel_rfl) rfl (li := [0,3]) (lo := [2]) rfl (fun σ K r hr => ?_)
 unfold Aw at hr
 split at hr
 ·rename_i d hd
  rw [Ss.dY hd]
  exact ⟨_, ((congrArg (fun z => uI _ z K) (VP _ _)).trans ((Pj K _) _ _)).trans hr⟩
 ·cases hr
noncomputable def MQ (l : List ak) (K : aj → Option aj) : Option aj := (bif (decide ((((List.length l) : Nat) : Int) > (12 : Int))) then K ((.s (.bool false)), []) else (Ll l (0 : Int) (fun y0 => K ((.s (.bool y0)), [])) (K ((.s (.bool true)), []))))
theorem ahn (l : List ak) (K : aj → Option aj) : dL MP true F.uj [.l .no aH l] K = MQ l K := by kernel_rfl
def VT : Sm := bg [.l aH] (fun d => Nat.ble d.1.length 1048576) (fun d => (bl (oq d.1), []))
theorem aho (l : List ak) (h : (Nat.ble l.length 1048576) = true) (K : aj → Option aj) : MQ l K = K (bl (oq l), []) := by
 have hl := Nat.le_of_ble_eq_true h
 unfold MQ oq
 by_cases h6 : ((l.length : Nat) : Int) ≤ 12
 case neg => rw [decide_eq_false h6, decide_eq_true (show ((l.length : Nat) : Int) > 12 by omega)]; rfl
 rw [decide_eq_true h6, decide_eq_false (show ¬ ((l.length : Nat) : Int) > 12 by omega)]
 have q := Aq (R := fun m i => oC m l i (fun y0 => K ((.s (.bool y0)), [])) (K ((.s (.bool true)), []))) (p := Au l) (n := l.length) (kt := K ((.s (.bool true)), [])) (kf := K ((.s (.bool false)), [])) (fun m i hi => by
   show lu l ((i : Nat) : Int) _ _ _ = _
   unfold lu Au
   rw [decide_eq_true (show ((i : Nat) : Int) < ((l.length : Nat) : Int) by omega), decide_eq_true (show (0 : Int) ≤ ((i : Nat) : Int) by omega), Int.toNat_natCast, bW (by omega), show l.getD i aH.dflt = l.getD i fA from rfl]
   cases i with
   | zero =>
    rw [decide_eq_false (show ¬ ((0 : Nat) : Int) > 0 by omega)]
    cases oh (l.getD 0 fA) <;> rfl
   | succ i =>
    rw [wrap_in (n := ((i + 1 : Nat) : Int) - 1) (by omega) (by omega), decide_eq_true (show ((i + 1 : Nat) : Int) > 0 by omega), show ((i + 1 : Nat) : Int) - 1 = ((i : Nat) : Int) by omega, decide_eq_true (show (0 : Int) ≤ ((i : Nat) : Int) by omega), decide_eq_true (show ((i : Nat) : Int) < ((l.length : Nat) : Int) by omega), Int.toNat_natCast, show i + 1 - 1 = i from rfl, show l.getD i aH.dflt = l.getD i fA from rfl]
    cases oh (l.getD (i + 1) fA) <;> cases VL (l.getD i fA) (l.getD (i + 1) fA) <;> rfl) (fun m => by
   show lu l ((l.length : Nat) : Int) _ _ _ = _
   unfold lu
   rw [decide_eq_false (show ¬ ((l.length : Nat) : Int) < ((l.length : Nat) : Int) by omega)]; rfl) (List.length l + (0 : Int).toNat + 2) 0 (by omega) (by omega)
 refine Eq.trans q ?_
 rw [Nat.sub_zero]
 show (bif Ar l.length (Au l) then _ else _) = _
 cases Ar l.length (Au l) <;> rfl
theorem acY : aV prog I N.uj true VT := kD (aW (aY acW (aY aeR bn)) (l := RJ) (p := RI) (ls := [(4, [0,3], [2], Aw)]) (lend := []) (focus := false) (fuel := 0) (give := []) (fn := F.uj) (by kernel_rfl) (by kernel_rfl) (by kernel_rfl) (by kernel_rfl) (cs := [aS F.uj 4]) (by kernel_rfl) (dA Uc aK)) (aI fun d K h => (ahn d.1 K).trans (aho d.1 h K))
end Go.Ev.Seat
end
section
namespace Go.Ev.Seat
open Go.RowKit
set_option maxRecDepth 100000
set_option linter.unusedVariables false
set_option linter.unusedSimpArgs false
def iH (o0 : List ay) : St := { tm := ([.x, .x, .x, (.w 0)] ++ List.replicate 19 .x), ob := [(0, (.arr true true aB o0))], nx := 1, io := [] }
def iI (o0 : List ay) : St := { tm := ([.x, .x, .x, (.w 0)] ++ List.replicate 19 .x), ob := [(0, (.arr true false aB o0))], nx := 1, io := [] }
def yw : Ss := { tm := (.cons (.x) (.cons (.pb 0 0) (.cons (.x) (.cons (.w 1) (.cons (.int .i64) (Fj 18)))))), ob := (.box (.cons (.l .no ah) (.cons (.l .no ah) (.cons (.l .no aF) (.cons (.int .i64) (.cons (.l .no aC) (.cons (.l .no aH) .nil)))))) (.arr true true aB .nil)), nx := 2, io := .nil }
def acZ (x4 : Int) (b00 : List Int) (b01 : List Int) (b02 : List aA) (aJ : Int) (aN : List au) (aQ : List ak) (o1 : List ay) : yw.T := (((), ((), ((), ((), (x4, xd 18))))), ((b00, (b01, (b02, (aJ, (aN, (aQ, ())))))), (o1, ())), ())
def lK (x4 : Int) (b00 : List Int) (b01 : List Int) (b02 : List aA) (aJ : Int) (aN : List au) (aQ : List ak) (o1 : List ay) : St := { tm := ([.x, (.pb 0 0), .x, (.w 1), (.s (.int .i64 x4))] ++ List.replicate 18 .x), ob := [(0, (.box [(.l .no ah b00), (.l .no ah b01), (.l .no aF b02), (.s (.int .i64 aJ)), (.l .no aC aN), (.l .no aH aQ)])), (1, (.arr true true aB o1))], nx := 2, io := [] }
theorem aaK (x4 : Int) (b00 : List Int) (b01 : List Int) (b02 : List aA) (aJ : Int) (aN : List au) (aQ : List ak) (o1 : List ay) : yw.mk' (acZ x4 b00 b01 b02 aJ aN aQ o1) = (lK x4 b00 b01 b02 aJ aN aQ o1) := by kernel_rfl
def ac0 (d : yw.T) (f : Int → (List Int) → (List Int) → (List aA) → Int → (List au) → (List ak) → (List ay) → Option aj) : Option aj := match d with | ((_, (_, (_, (_, (x4, _))))), ((b00, (b01, (b02, (aJ, (aN, (aQ, _)))))), (o1, _)), _) => f x4 b00 b01 b02 aJ aN aQ o1
noncomputable def Az (x4 : Int) (b00 : List Int) (b01 : List Int) (b02 : List aA) (aJ : Int) (aN : List au) (aQ : List ak) (o1 : List ay) (lC : Int → (List Int) → (List Int) → (List aA) → Int → (List au) → (List ak) → (List ay) → Option aj) (nx1 : Int → (List Int) → (List Int) → (List aA) → Int → (List au) → (List ak) → (List ay) → Option aj) (k0 : (List ay) → Option aj) (k1 : (List ay) → Option aj) : Option aj := (bif (decide (x4 < (((List.length b02) : Nat) : Int))) then (bif ((decide ((0 : Int) ≤ x4)) && (decide (x4 < (((List.length b02) : Nat) : Int)))) then (bif (Nat.ble (((List.length o1) + (List.length ((List.getD b02 (Int.toNat x4) (aF.dflt)).2 :: []))) * 40) 140737488355328) then (nx1 (IntKind.wrap .i64 (x4 + (1 : Int))) b00 b01 b02 aJ aN aQ (o1 ++ ((List.getD b02 (Int.toNat x4) (aF.dflt)).2 :: []))) else none) else none) else (k0 o1))
def yx : Ss := { tm := (.cons (.x) (.cons (.pb 0 0) (.cons (.x) (.cons (.w 1) (.cons (.int .i64) (Fj 18)))))), ob := (.box (.cons (.l .no ah) (.cons (.l .no ah) (.cons (.l .no aF) (.cons (.int .i64) (.cons (.l .no aC) (.cons (.l .no aH) .nil)))))) (.arr true false aB .nil)), nx := 2, io := .nil }
def ac1 (x4 : Int) (b00 : List Int) (b01 : List Int) (b02 : List aA) (aJ : Int) (aN : List au) (aQ : List ak) (o1 : List ay) : yx.T := (((), ((), ((), ((), (x4, xd 18))))), ((b00, (b01, (b02, (aJ, (aN, (aQ, ())))))), (o1, ())), ())
def lM (x4 : Int) (b00 : List Int) (b01 : List Int) (b02 : List aA) (aJ : Int) (aN : List au) (aQ : List ak) (o1 : List ay) : St := { tm := ([.x, (.pb 0 0), .x, (.w 1), (.s (.int .i64 x4))] ++ List.replicate 18 .x), ob := [(0, (.box [(.l .no ah b00), (.l .no ah b01), (.l .no aF b02), (.s (.int .i64 aJ)), (.l .no aC aN), (.l .no aH aQ)])), (1, (.arr true false aB o1))], nx := 2, io := [] }
theorem aaL (x4 : Int) (b00 : List Int) (b01 : List Int) (b02 : List aA) (aJ : Int) (aN : List au) (aQ : List ak) (o1 : List ay) : yx.mk' (ac1 x4 b00 b01 b02 aJ aN aQ o1) = (lM x4 b00 b01 b02 aJ aN aQ o1) := by kernel_rfl
def ac2 (d : yx.T) (f : Int → (List Int) → (List Int) → (List aA) → Int → (List au) → (List ak) → (List ay) → Option aj) : Option aj := match d with | ((_, (_, (_, (_, (x4, _))))), ((b00, (b01, (b02, (aJ, (aN, (aQ, _)))))), (o1, _)), _) => f x4 b00 b01 b02 aJ aN aQ o1
noncomputable def AA (x4 : Int) (b00 : List Int) (b01 : List Int) (b02 : List aA) (aJ : Int) (aN : List au) (aQ : List ak) (o1 : List ay) (lC : Int → (List Int) → (List Int) → (List aA) → Int → (List au) → (List ak) → (List ay) → Option aj) (nx1 : Int → (List Int) → (List Int) → (List aA) → Int → (List au) → (List ak) → (List ay) → Option aj) (k0 : (List ay) → Option aj) (k1 : (List ay) → Option aj) : Option aj := (bif (decide (x4 < (((List.length b02) : Nat) : Int))) then (bif ((decide ((0 : Int) ≤ x4)) && (decide (x4 < (((List.length b02) : Nat) : Int)))) then (bif (Nat.ble (((List.length o1) + (List.length ((List.getD b02 (Int.toNat x4) (aF.dflt)).2 :: []))) * 40) 140737488355328) then (nx1 (IntKind.wrap .i64 (x4 + (1 : Int))) b00 b01 b02 aJ aN aQ (o1 ++ ((List.getD b02 (Int.toNat x4) (aF.dflt)).2 :: []))) else none) else none) else (k1 o1))
mutual
noncomputable def jX : Nat → Int → (List Int) → (List Int) → (List aA) → Int → (List au) → (List ak) → (List ay) → ((List ay) → Option aj) → ((List ay) → Option aj) → Option aj
 | 0, _, _, _, _, _, _, _, _, _, _ => none
 | m + 1, x4, b00, b01, b02, aJ, aN, aQ, o1, k0, k1 => Az x4 b00 b01 b02 aJ aN aQ o1 (fun x4 b00 b01 b02 aJ aN aQ o1 => (jX m x4 b00 b01 b02 aJ aN aQ o1 k0 k1)) (fun x4 b00 b01 b02 aJ aN aQ o1 => (jY m x4 b00 b01 b02 aJ aN aQ o1 k0 k1)) k0 k1
noncomputable def jY : Nat → Int → (List Int) → (List Int) → (List aA) → Int → (List au) → (List ak) → (List ay) → ((List ay) → Option aj) → ((List ay) → Option aj) → Option aj
 | 0, _, _, _, _, _, _, _, _, _, _ => none
 | m + 1, x4, b00, b01, b02, aJ, aN, aQ, o1, k0, k1 => AA x4 b00 b01 b02 aJ aN aQ o1 (fun x4 b00 b01 b02 aJ aN aQ o1 => (jX m x4 b00 b01 b02 aJ aN aQ o1 k0 k1)) (fun x4 b00 b01 b02 aJ aN aQ o1 => (jY m x4 b00 b01 b02 aJ aN aQ o1 k0 k1)) k0 k1
end
noncomputable def Pm (x4 : Int) (b00 : List Int) (b01 : List Int) (b02 : List aA) (aJ : Int) (aN : List au) (aQ : List ak) (o1 : List ay) (k0 : (List ay) → Option aj) (k1 : (List ay) → Option aj) : Option aj := jX (x4.toNat + List.length b00 + List.length b01 + List.length b02 + aJ.toNat + List.length aN + List.length aQ + List.length o1 + 2) x4 b00 b01 b02 aJ aN aQ o1 k0 k1
noncomputable def ac3 (x4 : Int) (b00 : List Int) (b01 : List Int) (b02 : List aA) (aJ : Int) (aN : List au) (aQ : List ak) (o1 : List ay) (k0 : (List ay) → Option aj) (k1 : (List ay) → Option aj) : Option aj := jY (x4.toNat + List.length b00 + List.length b01 + List.length b02 + aJ.toNat + List.length aN + List.length aQ + List.length o1 + 2) x4 b00 b01 b02 aJ aN aQ o1 k0 k1
noncomputable def FN : dV := (fun (σ : St) (K : Ex → St → Option aj) => (match yw.un σ with | some d => ac0 d (fun x4 b00 b01 b02 aJ aN aQ o1 => Pm x4 b00 b01 b02 aJ aN aQ o1 (fun o0 => (K (.ext 0) (iH o0))) (fun o0 => (K (.ext 0) (iI o0)))) | none => (match yx.un σ with | some d => ac2 d (fun x4 b00 b01 b02 aJ aN aQ o1 => ac3 x4 b00 b01 b02 aJ aN aQ o1 (fun o0 => (K (.ext 0) (iH o0))) (fun o0 => (K (.ext 0) (iI o0)))) | none => none)))
noncomputable abbrev Ud : Env := En [] [] [(3, [1,3,4], [2,3], FN)] [] false 0 []
noncomputable abbrev fP := rounds (run Ud (aS F.qo 3)) [1,3,4] [2,3]
theorem aaM (m : Nat) (x4 : Int) (b00 : List Int) (b01 : List Int) (b02 : List aA) (aJ : Int) (aN : List au) (aQ : List ak) (o1 : List ay) (K : Ex → St → Option aj) : fP (m + 1) (lK x4 b00 b01 b02 aJ aN aQ o1) K = Az x4 b00 b01 b02 aJ aN aQ o1 (fun x4 b00 b01 b02 aJ aN aQ o1 => (fP m (lK x4 b00 b01 b02 aJ aN aQ o1) K)) (fun x4 b00 b01 b02 aJ aN aQ o1 => (fP m (lM x4 b00 b01 b02 aJ aN aQ o1) K)) (fun o0 => (K (.ext 0) (iH o0))) (fun o0 => (K (.ext 0) (iI o0))) := by kernel_rfl
theorem aaN (m : Nat) (x4 : Int) (b00 : List Int) (b01 : List Int) (b02 : List aA) (aJ : Int) (aN : List au) (aQ : List ak) (o1 : List ay) (K : Ex → St → Option aj) : fP (m + 1) (lM x4 b00 b01 b02 aJ aN aQ o1) K = AA x4 b00 b01 b02 aJ aN aQ o1 (fun x4 b00 b01 b02 aJ aN aQ o1 => (fP m (lK x4 b00 b01 b02 aJ aN aQ o1) K)) (fun x4 b00 b01 b02 aJ aN aQ o1 => (fP m (lM x4 b00 b01 b02 aJ aN aQ o1) K)) (fun o0 => (K (.ext 0) (iH o0))) (fun o0 => (K (.ext 0) (iI o0))) := by kernel_rfl
theorem vW (K : Ex → St → Option aj) : ∀ m : Nat, (∀ (x4 : Int) (b00 : List Int) (b01 : List Int) (b02 : List aA) (aJ : Int) (aN : List au) (aQ : List ak) (o1 : List ay), fP m (lK x4 b00 b01 b02 aJ aN aQ o1) K = jX m x4 b00 b01 b02 aJ aN aQ o1 (fun o0 => (K (.ext 0) (iH o0))) (fun o0 => (K (.ext 0) (iI o0)))) ∧ (∀ (x4 : Int) (b00 : List Int) (b01 : List Int) (b02 : List aA) (aJ : Int) (aN : List au) (aQ : List ak) (o1 : List ay), fP m (lM x4 b00 b01 b02 aJ aN aQ o1) K = jY m x4 b00 b01 b02 aJ aN aQ o1 (fun o0 => (K (.ext 0) (iH o0))) (fun o0 => (K (.ext 0) (iI o0))))
 | 0 => ⟨(fun _ _ _ _ _ _ _ _ => rfl), (fun _ _ _ _ _ _ _ _ => rfl)⟩
 | m + 1 => ⟨(fun x4 b00 b01 b02 aJ aN aQ o1 => (by rw [aaM, show (fun x4 b00 b01 b02 aJ aN aQ o1 => (fP m (lK x4 b00 b01 b02 aJ aN aQ o1) K)) = (fun x4 b00 b01 b02 aJ aN aQ o1 => (jX m x4 b00 b01 b02 aJ aN aQ o1 (fun o0 => (K (.ext 0) (iH o0))) (fun o0 => (K (.ext 0) (iI o0))))) from funext fun x4 => funext fun b00 => funext fun b01 => funext fun b02 => funext fun aJ => funext fun aN => funext fun aQ => funext fun o1 => (vW K m).1 x4 b00 b01 b02 aJ aN aQ o1, show (fun x4 b00 b01 b02 aJ aN aQ o1 => (fP m (lM x4 b00 b01 b02 aJ aN aQ o1) K)) = (fun x4 b00 b01 b02 aJ aN aQ o1 => (jY m x4 b00 b01 b02 aJ aN aQ o1 (fun o0 => (K (.ext 0) (iH o0))) (fun o0 => (K (.ext 0) (iI o0))))) from funext fun x4 => funext fun b00 => funext fun b01 => funext fun b02 => funext fun aJ => funext fun aN => funext fun aQ => funext fun o1 => (vW K m).2 x4 b00 b01 b02 aJ aN aQ o1]; rfl)), (fun x4 b00 b01 b02 aJ aN aQ o1 => (by rw [aaN, show (fun x4 b00 b01 b02 aJ aN aQ o1 => (fP m (lK x4 b00 b01 b02 aJ aN aQ o1) K)) = (fun x4 b00 b01 b02 aJ aN aQ o1 => (jX m x4 b00 b01 b02 aJ aN aQ o1 (fun o0 => (K (.ext 0) (iH o0))) (fun o0 => (K (.ext 0) (iI o0))))) from funext fun x4 => funext fun b00 => funext fun b01 => funext fun b02 => funext fun aJ => funext fun aN => funext fun aQ => funext fun o1 => (vW K m).1 x4 b00 b01 b02 aJ aN aQ o1, show (fun x4 b00 b01 b02 aJ aN aQ o1 => (fP m (lM x4 b00 b01 b02 aJ aN aQ o1) K)) = (fun x4 b00 b01 b02 aJ aN aQ o1 => (jY m x4 b00 b01 b02 aJ aN aQ o1 (fun o0 => (K (.ext 0) (iH o0))) (fun o0 => (K (.ext 0) (iI o0))))) from funext fun x4 => funext fun b00 => funext fun b01 => funext fun b02 => funext fun aJ => funext fun aN => funext fun aQ => funext fun o1 => (vW K m).2 x4 b00 b01 b02 aJ aN aQ o1]; rfl))⟩
theorem Yp : dJ Ud (aS F.qo 3) := by
 refine dh (n := 3) (F := FN) (by kernel_rfl) rfl (li := [1,3,4]) (lo := [2,3]) rfl (fun σ K r hr => ?_)
 unfold FN at hr
 split at hr
 ·rename_i d hd
  rw [Ss.dY hd]
  exact ⟨_, ((congrArg (fun z => fP _ z K) (aaK _ _ _ _ _ _ _ _)).trans ((vW K _).1 _ _ _ _ _ _ _ _)).trans hr⟩
 ·split at hr
  ·rename_i d hd
   rw [Ss.dY hd]
   exact ⟨_, ((congrArg (fun z => fP _ z K) (aaL _ _ _ _ _ _ _ _)).trans ((vW K _).2 _ _ _ _ _ _ _ _)).trans hr⟩
  ·cases hr
noncomputable def Ue (d : bT) (K : aj → Option aj) : Option aj := (Pm (0 : Int) d.1 d.2.1 d.2.2.1 d.2.2.2.1 d.2.2.2.2.1 d.2.2.2.2.2 [] (fun y0 => K ((.l .deep aB y0), [])) (fun y1 => K ((.l .top aB y1), [])))
theorem al9 (d : bT) (K : aj → Option aj) : dL Ud false F.qo [.a (bH.cells .no d)] K = Ue d K := by kernel_rfl
def H9 : Sm := bg [.a bH] (fun d => Nat.ble d.1.2.2.1.length 1048576) (fun d => (.l .no aB (bF d.1.2.2.1), []))
theorem ama (d : bT) (h : (Nat.ble d.2.2.1.length 1048576) = true) (K : aj → Option aj) : Ue d (noK K) = K (.l .no aB (bF d.2.2.1), []) := by
 have hl := Nat.le_of_ble_eq_true h
 obtain ⟨st, tx, lg, ck, mb, ls⟩ := d
 have hl : lg.length ≤ 1048576 := hl
 unfold Ue
 have q : ∀ (k0 k1 : List ay → Option aj) (m i : Nat), i ≤ lg.length → lg.length - i < m → jY m ((i : Nat) : Int) st tx lg ck mb ls (bF (lg.take i)) k0 k1 = k1 (bF lg) := by
  intro k0 k1 m
  induction m with
  | zero => intro i _ hm; omega
  | succ m ih =>
   intro i hi hm
   show AA ((i : Nat) : Int) st tx lg ck mb ls _ _ _ _ _ = _
   unfold AA
   by_cases hlt : i < lg.length
   ·have ht : bF (lg.take i) ++ [(lg.getD i aF.dflt).2] = bF (lg.take (i + 1)) := by
     rw [← take_snoc aF.dflt hlt]
     unfold bF
     rw [List.map_append]; rfl
    rw [decide_eq_true (show ((i : Nat) : Int) < ((lg.length : Nat) : Int) by omega), decide_eq_true (show (0 : Int) ≤ ((i : Nat) : Int) by omega), Int.toNat_natCast, bW (by omega), Nat.ble_eq_true_of_le (show ((bF (lg.take i)).length + [(lg.getD i aF.dflt).2].length) * 40 ≤ 140737488355328 by unfold bF; simp only [List.length_map, List.length_take, List.length_cons, List.length_nil]; omega), ht]
    exact ih (i + 1) (by omega) (by omega)
   ·obtain rfl : i = lg.length := by omega
    rw [decide_eq_false (show ¬ ((lg.length : Nat) : Int) < ((lg.length : Nat) : Int) by omega), List.take_length]; rfl
 have hq : ∀ (m : Nat) (k0 k1 : List ay → Option aj), jX (m + 1) 0 st tx lg ck mb ls [] k0 k1 = Az 0 st tx lg ck mb ls [] (fun a b c d e f g x => jX m a b c d e f g x k0 k1) (fun a b c d e f g x => jY m a b c d e f g x k0 k1) k0 k1 := fun _ _ _ => rfl
 refine (hq ((0 : Int).toNat + List.length st + List.length tx + List.length lg + ck.toNat + List.length mb + List.length ls + List.length ([] : List ay) + 1) _ _).trans ?_
 unfold Az
 by_cases hlt : 0 < lg.length
 ·have ht : ([] : List ay) ++ [(lg.getD 0 aF.dflt).2] = bF (lg.take 1) := by
   rw [← take_snoc (i := 0) aF.dflt hlt]; rfl
  rw [decide_eq_true (show (0 : Int) < ((lg.length : Nat) : Int) by omega), show Int.toNat 0 = 0 from rfl, Nat.ble_eq_true_of_le (by simp), ht]
  exact q _ _ _ 1 (by omega) (by omega)
 ·have h0 : lg = [] := List.length_eq_zero_iff.1 (by omega)
  subst h0
  rfl
theorem FP : aV prog I N.qo false H9 := kD (aV.no (aW (fresh := false) bn (l := []) (p := []) (ls := [(3, [1,3,4], [2,3], FN)]) (lend := []) (focus := false) (fuel := 0) (give := []) (fn := F.qo) (by kernel_rfl) (by kernel_rfl) (by kernel_rfl) (by kernel_rfl) (cs := [aS F.qo 3]) (by kernel_rfl) (dA Yp aK))) (aI fun d K h => (al9 d.1 (noK K)).trans (ama d.1 h K))
end Go.Ev.Seat
end
section
namespace Go.Ev.Seat
open Go.RowKit
set_option maxRecDepth 100000
set_option linter.unusedVariables false
set_option linter.unusedSimpArgs false
noncomputable abbrev aeS : Env := En [] [] [] [] false 0 []
noncomputable def JV (r : Int) (K : aj → Option aj) : Option aj := (bif (decide (r < (0 : Int))) then K ((.l .deep ah ([] : List Int)), []) else (bif (decide (r > (1114111 : Int))) then K ((.l .deep ah ([] : List Int)), []) else (bif (decide (r ≥ (55296 : Int))) then (bif (decide (r ≤ (57343 : Int))) then K ((.l .deep ah ([] : List Int)), []) else (bif (decide (r < (128 : Int))) then K ((.l .deep ah ((IntKind.wrap .u8 r) :: ([] : List Int))), []) else (bif (decide (r < (2048 : Int))) then K ((.l .deep ah ((IntKind.wrap .u8 (IntKind.wrap .i64 ((192 : Int) + (IntKind.wrap .i64 (Int.tdiv r (64 : Int)))))) :: ((IntKind.wrap .u8 (IntKind.wrap .i64 ((128 : Int) + (Int.tmod r (64 : Int))))) :: ([] : List Int)))), []) else (bif (decide (r < (65536 : Int))) then K ((.l .deep ah ((IntKind.wrap .u8 (IntKind.wrap .i64 ((224 : Int) + (IntKind.wrap .i64 (Int.tdiv r (4096 : Int)))))) :: ((IntKind.wrap .u8 (IntKind.wrap .i64 ((128 : Int) + (Int.tmod (IntKind.wrap .i64 (Int.tdiv r (64 : Int))) (64 : Int))))) :: ((IntKind.wrap .u8 (IntKind.wrap .i64 ((128 : Int) + (Int.tmod r (64 : Int))))) :: ([] : List Int))))), []) else K ((.l .deep ah ((IntKind.wrap .u8 (IntKind.wrap .i64 ((240 : Int) + (IntKind.wrap .i64 (Int.tdiv r (262144 : Int)))))) :: ((IntKind.wrap .u8 (IntKind.wrap .i64 ((128 : Int) + (Int.tmod (IntKind.wrap .i64 (Int.tdiv r (4096 : Int))) (64 : Int))))) :: ((IntKind.wrap .u8 (IntKind.wrap .i64 ((128 : Int) + (Int.tmod (IntKind.wrap .i64 (Int.tdiv r (64 : Int))) (64 : Int))))) :: ((IntKind.wrap .u8 (IntKind.wrap .i64 ((128 : Int) + (Int.tmod r (64 : Int))))) :: ([] : List Int)))))), []))))) else (bif (decide (r < (128 : Int))) then K ((.l .deep ah ((IntKind.wrap .u8 r) :: ([] : List Int))), []) else (bif (decide (r < (2048 : Int))) then K ((.l .deep ah ((IntKind.wrap .u8 (IntKind.wrap .i64 ((192 : Int) + (IntKind.wrap .i64 (Int.tdiv r (64 : Int)))))) :: ((IntKind.wrap .u8 (IntKind.wrap .i64 ((128 : Int) + (Int.tmod r (64 : Int))))) :: ([] : List Int)))), []) else (bif (decide (r < (65536 : Int))) then K ((.l .deep ah ((IntKind.wrap .u8 (IntKind.wrap .i64 ((224 : Int) + (IntKind.wrap .i64 (Int.tdiv r (4096 : Int)))))) :: ((IntKind.wrap .u8 (IntKind.wrap .i64 ((128 : Int) + (Int.tmod (IntKind.wrap .i64 (Int.tdiv r (64 : Int))) (64 : Int))))) :: ((IntKind.wrap .u8 (IntKind.wrap .i64 ((128 : Int) + (Int.tmod r (64 : Int))))) :: ([] : List Int))))), []) else K ((.l .deep ah ((IntKind.wrap .u8 (IntKind.wrap .i64 ((240 : Int) + (IntKind.wrap .i64 (Int.tdiv r (262144 : Int)))))) :: ((IntKind.wrap .u8 (IntKind.wrap .i64 ((128 : Int) + (Int.tmod (IntKind.wrap .i64 (Int.tdiv r (4096 : Int))) (64 : Int))))) :: ((IntKind.wrap .u8 (IntKind.wrap .i64 ((128 : Int) + (Int.tmod (IntKind.wrap .i64 (Int.tdiv r (64 : Int))) (64 : Int))))) :: ((IntKind.wrap .u8 (IntKind.wrap .i64 ((128 : Int) + (Int.tmod r (64 : Int))))) :: ([] : List Int)))))), [])))))))
theorem aeT (r : Int) (K : aj → Option aj) : dL aeS true F.Es [.s (.int .i64 r)] K = JV r K := by kernel_rfl
def RN : Sm := bg [.i] (fun d => true) (fun d => (.l .deep ah (wY d.1), []))
theorem aeU (r : Int) (K : aj → Option aj) : JV r K = K (.l .deep ah (wY r), []) := by
  unfold JV wY
  by_cases h1 : r < 0
  · rw [decide_eq_true h1, if_pos (by omega)]; rfl
  by_cases h2 : r > 1114111
  · rw [decide_eq_false h1, decide_eq_true h2, if_pos (by omega)]; rfl
  rw [decide_eq_false h1, decide_eq_false h2]
  have key : (bif (decide (r < (128 : Int))) then K ((.l .deep ah ((IntKind.wrap .u8 r) :: [])), []) else (bif (decide (r < (2048 : Int))) then
     K ((.l .deep ah ((IntKind.wrap .u8 (IntKind.wrap .i64 ((192 : Int) + (IntKind.wrap .i64 (Int.tdiv r (64 : Int)))))) :: ((IntKind.wrap .u8 (IntKind.wrap .i64 ((128 : Int) + (Int.tmod r (64 : Int))))) :: []))), [])
     else (bif (decide (r < (65536 : Int))) then
      K ((.l .deep ah ((IntKind.wrap .u8 (IntKind.wrap .i64 ((224 : Int) + (IntKind.wrap .i64 (Int.tdiv r (4096 : Int)))))) :: ((IntKind.wrap .u8 (IntKind.wrap .i64 ((128 : Int) + (Int.tmod (IntKind.wrap .i64 (Int.tdiv r (64 : Int))) (64 : Int))))) :: ((IntKind.wrap .u8 (IntKind.wrap .i64 ((128 : Int) + (Int.tmod r (64 : Int))))) :: [])))), [])
      else K ((.l .deep ah ((IntKind.wrap .u8 (IntKind.wrap .i64 ((240 : Int) + (IntKind.wrap .i64 (Int.tdiv r (262144 : Int)))))) :: ((IntKind.wrap .u8 (IntKind.wrap .i64 ((128 : Int) + (Int.tmod (IntKind.wrap .i64 (Int.tdiv r (4096 : Int))) (64 : Int))))) :: ((IntKind.wrap .u8 (IntKind.wrap .i64 ((128 : Int) + (Int.tmod (IntKind.wrap .i64 (Int.tdiv r (64 : Int))) (64 : Int))))) :: ((IntKind.wrap .u8 (IntKind.wrap .i64 ((128 : Int) + (Int.tmod r (64 : Int))))) :: []))))), [])))) = K (.l .deep ah (if r < 128 then [r] else if r < 2048 then [192 + r / 64, 128 + r % 64] else if r < 65536 then [224 + r / 4096, 128 + r / 64 % 64, 128 + r % 64] else [240 + r / 262144, 128 + r / 4096 % 64, 128 + r / 64 % 64, 128 + r % 64]), []) := by
    rw [Int.tdiv_eq_ediv_of_nonneg (by omega), Int.tdiv_eq_ediv_of_nonneg (by omega), Int.tdiv_eq_ediv_of_nonneg (by omega), Int.tmod_eq_emod_of_nonneg (by omega)]
    by_cases c1 : r < 128
    · rw [decide_eq_true c1, if_pos c1, anz (by omega) (by omega)]; rfl
    rw [decide_eq_false c1, if_neg c1]
    by_cases c2 : r < 2048
    · rw [decide_eq_true c2, if_pos c2]
      simp (disch := omega) only [wrap_in, anz, cond_true, cond_false]
    rw [decide_eq_false c2, if_neg c2]
    by_cases c3 : r < 65536
    · rw [decide_eq_true c3, if_pos c3]
      simp (disch := omega) only [wrap_in, anz, Int.tmod_eq_emod_of_nonneg, cond_true, cond_false]
    · rw [decide_eq_false c3, if_neg c3]
      simp (disch := omega) only [wrap_in, anz, Int.tmod_eq_emod_of_nonneg, cond_true, cond_false]
  by_cases h3 : r ≥ 55296
  · by_cases h4 : r ≤ 57343
    · rw [decide_eq_true h3, decide_eq_true h4, if_pos (by omega)]; rfl
    · rw [decide_eq_true h3, decide_eq_false h4, if_neg (by omega)]; exact key
  · rw [decide_eq_false h3, if_neg (by omega)]; exact key
theorem aaO : aV prog I N.Es true RN := kD (aW bn (l := []) (p := []) (ls := []) (lend := []) (focus := false) (fuel := 0) (give := []) (fn := F.Es) (by kernel_rfl) (by kernel_rfl) (by kernel_rfl) (by kernel_rfl) (cs := []) (by kernel_rfl) aK) (aI fun d K h => (aeT d.1 K).trans (aeU d.1 K))
end Go.Ev.Seat
end
section
namespace Go.Ev.Seat
open Go.RowKit
set_option maxRecDepth 100000
set_option linter.unusedVariables false
set_option linter.unusedSimpArgs false
def vX (x0 : List Int) (x1 : Int) (x7 : Int) (x8 : Int) : St := { tm := ([(.l .no ah x0), (.s (.int .i64 x1)), .x, .x, .x, .x, .x, (.s (.int .i64 x7)), (.s (.int .i64 x8))] ++ List.replicate 65 .x), ob := [], nx := 0, io := [] }
def sG : Ss := { tm := (.cons (.l .no ah) (.cons (.int .i64) (.cons (.x) (.cons (.x) (.cons (.x) (.cons (.x) (.cons (.x) (.cons (.int .i64) (.cons (.int .i64) (.cons (.int .i64) (Fj 64))))))))))), ob := .nil, nx := 0, io := .nil }
def Yq (x0 : List Int) (x1 : Int) (x7 : Int) (x8 : Int) (x9 : Int) : sG.T := ((x0, (x1, ((), ((), ((), ((), ((), (x7, (x8, (x9, xd 64)))))))))), (), ())
def oD (x0 : List Int) (x1 : Int) (x7 : Int) (x8 : Int) (x9 : Int) : St := { tm := ([(.l .no ah x0), (.s (.int .i64 x1)), .x, .x, .x, .x, .x, (.s (.int .i64 x7)), (.s (.int .i64 x8)), (.s (.int .i64 x9))] ++ List.replicate 64 .x), ob := [], nx := 0, io := [] }
theorem VU (x0 : List Int) (x1 : Int) (x7 : Int) (x8 : Int) (x9 : Int) : sG.mk' (Yq x0 x1 x7 x8 x9) = (oD x0 x1 x7 x8 x9) := by kernel_rfl
def Yr (d : sG.T) (f : (List Int) → Int → Int → Int → Int → Option aj) : Option aj := match d with | ((x0, (x1, (_, (_, (_, (_, (_, (x7, (x8, (x9, _)))))))))), _, _) => f x0 x1 x7 x8 x9
noncomputable def lD (x0 : List Int) (x1 : Int) (x7 : Int) (x8 : Int) (x9 : Int) (lC : (List Int) → Int → Int → Int → Int → Option aj) (k0 : (List Int) → Int → Int → Int → Option aj) : Option aj := (bif (decide (x9 < x7)) then (bif ((decide ((0 : Int) ≤ (IntKind.wrap .i64 (x1 + x9)))) && (decide ((IntKind.wrap .i64 (x1 + x9)) < (((List.length x0) : Nat) : Int)))) then (lC x0 x1 x7 (IntKind.wrap .i64 ((IntKind.wrap .i64 ((IntKind.wrap .i64 ((64 : Int) * x8)) + (IntKind.wrap .i64 (List.getD x0 (Int.toNat (IntKind.wrap .i64 (x1 + x9))) (0 : Int))))) - (128 : Int))) (IntKind.wrap .i64 (x9 + (1 : Int)))) else none) else (k0 x0 x1 x7 x8))
noncomputable def jJ : Nat → (List Int) → Int → Int → Int → Int → ((List Int) → Int → Int → Int → Option aj) → Option aj
 | 0, _, _, _, _, _, _ => none
 | m + 1, x0, x1, x7, x8, x9, k0 => lD x0 x1 x7 x8 x9 (fun x0 x1 x7 x8 x9 => (jJ m x0 x1 x7 x8 x9 k0)) k0
noncomputable def gX (x0 : List Int) (x1 : Int) (x7 : Int) (x8 : Int) (x9 : Int) (k0 : (List Int) → Int → Int → Int → Option aj) : Option aj := jJ (List.length x0 + x1.toNat + x7.toNat + x8.toNat + x9.toNat + 2) x0 x1 x7 x8 x9 k0
noncomputable def AB : dV := (fun (σ : St) (K : Ex → St → Option aj) => (match sG.un σ with | some d => Yr d (fun x0 x1 x7 x8 x9 => gX x0 x1 x7 x8 x9 (fun x0 x1 x7 x8 => (K (.ext 1) (vX x0 x1 x7 x8)))) | none => none))
noncomputable abbrev VW : List (Nat × Plan × List Nat) := [(21, takeB [0, 3, 4, 5, 6, 7, 8] (.fork (.more 1 (.fork (.more 2 (.fork (.one 9 (takes [10]))) (.one 9 (.fork (.one 2 (takes [10])))))) (.one 9 (.fork (.one 1 (.fork (.one 2 (takes [10])))))))), [])]
noncomputable abbrev VX : List (Nat × Bool × Sm) := [(N.Es, true, RN)]
noncomputable abbrev Pn : Env := En VX VW [(18, [0,1,7,8,9], [0,1,4,5,7,8], AB)] [] false 0 []
noncomputable abbrev uJ := rounds (run Pn (aS F.zM 18)) [0,1,7,8,9] [0,1,4,5,7,8]
theorem VY (m : Nat) (x0 : List Int) (x1 : Int) (x7 : Int) (x8 : Int) (x9 : Int) (K : Ex → St → Option aj) : uJ (m + 1) (oD x0 x1 x7 x8 x9) K = lD x0 x1 x7 x8 x9 (fun x0 x1 x7 x8 x9 => (uJ m (oD x0 x1 x7 x8 x9) K)) (fun x0 x1 x7 x8 => (K (.ext 1) (vX x0 x1 x7 x8))) := by kernel_rfl
theorem Po (K : Ex → St → Option aj) : ∀ m : Nat, (∀ (x0 : List Int) (x1 : Int) (x7 : Int) (x8 : Int) (x9 : Int), uJ m (oD x0 x1 x7 x8 x9) K = jJ m x0 x1 x7 x8 x9 (fun x0 x1 x7 x8 => (K (.ext 1) (vX x0 x1 x7 x8))))
 | 0 => (fun _ _ _ _ _ => rfl)
 | m + 1 => (fun x0 x1 x7 x8 x9 => (by rw [VY, show (fun x0 x1 x7 x8 x9 => (uJ m (oD x0 x1 x7 x8 x9) K)) = (fun x0 x1 x7 x8 x9 => (jJ m x0 x1 x7 x8 x9 (fun x0 x1 x7 x8 => (K (.ext 1) (vX x0 x1 x7 x8))))) from funext fun x0 => funext fun x1 => funext fun x7 => funext fun x8 => funext fun x9 => (Po K m) x0 x1 x7 x8 x9]; rfl))
theorem Uf : dJ Pn (aS F.zM 18) := by
 refine dh (n := 18) (F := AB) (by kernel_rfl) rfl (li := [0,1,7,8,9]) (lo := [0,1,4,5,7,8]) rfl (fun σ K r hr => ?_)
 unfold AB at hr
 split at hr
 ·rename_i d hd
  rw [Ss.dY hd]
  exact ⟨_, ((congrArg (fun z => uJ _ z K) (VU _ _ _ _ _)).trans ((Po K _) _ _ _ _ _)).trans hr⟩
 ·cases hr
noncomputable def Pq (d : List Int) (k : Int) (K : aj → Option aj) : Option aj := (bif (decide (k < (0 : Int))) then K ((.t [(.s (.int .i64 (-(1 : Int)))), (.s (.int .i64 (0 : Int)))]), []) else (bif (decide (k ≥ (((List.length d) : Nat) : Int))) then K ((.t [(.s (.int .i64 (-(1 : Int)))), (.s (.int .i64 (0 : Int)))]), []) else (bif ((decide ((0 : Int) ≤ k)) && (decide (k < (((List.length d) : Nat) : Int)))) then (bif (decide ((IntKind.wrap .i64 (List.getD d (Int.toNat k) (0 : Int))) ≥ (240 : Int))) then (bif (decide ((4 : Int) > (IntKind.wrap .i64 ((((List.length d) : Nat) : Int) - k)))) then K ((.t [(.s (.int .i64 (-(1 : Int)))), (.s (.int .i64 (0 : Int)))]), []) else (gX d k (4 : Int) (IntKind.wrap .i64 ((IntKind.wrap .i64 (List.getD d (Int.toNat k) (0 : Int))) - (240 : Int))) (1 : Int) (fun y0 y1 y2 y3 => (bif (((decide ((0 : Int) ≤ y1)) && (decide (y1 ≤ (IntKind.wrap .i64 (y1 + y2))))) && (decide ((IntKind.wrap .i64 (y1 + y2)) ≤ (((List.length y0) : Nat) : Int)))) then (meet ((meet ((bif (!((ByteArray.toList (lW (wY y3))) == (ByteArray.toList (lW (List.drop (Int.toNat y1) (List.take (Int.toNat (IntKind.wrap .i64 (y1 + y2))) y0)))))) then K ((.t [(.s (.int .i64 (-(1 : Int)))), (.s (.int .i64 (0 : Int)))]), []) else K ((.t [(.s (.int .i64 y3)), (.s (.int .i64 y2))]), []))) ((bif (!((ByteArray.toList (lW (wY y3))) == (ByteArray.toList (lW (List.drop (Int.toNat y1) (List.take (Int.toNat (IntKind.wrap .i64 (y1 + y2))) y0)))))) then K ((.t [(.s (.int .i64 (-(1 : Int)))), (.s (.int .i64 (0 : Int)))]), []) else K ((.t [(.s (.int .i64 y3)), (.s (.int .i64 y2))]), []))))) ((bif (!((ByteArray.toList (lW (wY y3))) == (ByteArray.toList (lW (List.drop (Int.toNat y1) (List.take (Int.toNat (IntKind.wrap .i64 (y1 + y2))) y0)))))) then K ((.t [(.s (.int .i64 (-(1 : Int)))), (.s (.int .i64 (0 : Int)))]), []) else K ((.t [(.s (.int .i64 y3)), (.s (.int .i64 y2))]), [])))) else none)))) else (bif (decide ((IntKind.wrap .i64 (List.getD d (Int.toNat k) (0 : Int))) ≥ (224 : Int))) then (bif (decide ((3 : Int) > (IntKind.wrap .i64 ((((List.length d) : Nat) : Int) - k)))) then K ((.t [(.s (.int .i64 (-(1 : Int)))), (.s (.int .i64 (0 : Int)))]), []) else (gX d k (3 : Int) (IntKind.wrap .i64 ((IntKind.wrap .i64 (List.getD d (Int.toNat k) (0 : Int))) - (224 : Int))) (1 : Int) (fun y4 y5 y6 y7 => (bif (((decide ((0 : Int) ≤ y5)) && (decide (y5 ≤ (IntKind.wrap .i64 (y5 + y6))))) && (decide ((IntKind.wrap .i64 (y5 + y6)) ≤ (((List.length y4) : Nat) : Int)))) then (meet ((meet ((bif (!((ByteArray.toList (lW (wY y7))) == (ByteArray.toList (lW (List.drop (Int.toNat y5) (List.take (Int.toNat (IntKind.wrap .i64 (y5 + y6))) y4)))))) then K ((.t [(.s (.int .i64 (-(1 : Int)))), (.s (.int .i64 (0 : Int)))]), []) else K ((.t [(.s (.int .i64 y7)), (.s (.int .i64 y6))]), []))) ((bif (!((ByteArray.toList (lW (wY y7))) == (ByteArray.toList (lW (List.drop (Int.toNat y5) (List.take (Int.toNat (IntKind.wrap .i64 (y5 + y6))) y4)))))) then K ((.t [(.s (.int .i64 (-(1 : Int)))), (.s (.int .i64 (0 : Int)))]), []) else K ((.t [(.s (.int .i64 y7)), (.s (.int .i64 y6))]), []))))) ((bif (!((ByteArray.toList (lW (wY y7))) == (ByteArray.toList (lW (List.drop (Int.toNat y5) (List.take (Int.toNat (IntKind.wrap .i64 (y5 + y6))) y4)))))) then K ((.t [(.s (.int .i64 (-(1 : Int)))), (.s (.int .i64 (0 : Int)))]), []) else K ((.t [(.s (.int .i64 y7)), (.s (.int .i64 y6))]), [])))) else none)))) else (bif (decide ((IntKind.wrap .i64 (List.getD d (Int.toNat k) (0 : Int))) ≥ (192 : Int))) then (bif (decide ((2 : Int) > (IntKind.wrap .i64 ((((List.length d) : Nat) : Int) - k)))) then K ((.t [(.s (.int .i64 (-(1 : Int)))), (.s (.int .i64 (0 : Int)))]), []) else (gX d k (2 : Int) (IntKind.wrap .i64 ((IntKind.wrap .i64 (List.getD d (Int.toNat k) (0 : Int))) - (192 : Int))) (1 : Int) (fun y8 y9 y10 y11 => (bif (((decide ((0 : Int) ≤ y9)) && (decide (y9 ≤ (IntKind.wrap .i64 (y9 + y10))))) && (decide ((IntKind.wrap .i64 (y9 + y10)) ≤ (((List.length y8) : Nat) : Int)))) then (meet ((meet ((bif (!((ByteArray.toList (lW (wY y11))) == (ByteArray.toList (lW (List.drop (Int.toNat y9) (List.take (Int.toNat (IntKind.wrap .i64 (y9 + y10))) y8)))))) then K ((.t [(.s (.int .i64 (-(1 : Int)))), (.s (.int .i64 (0 : Int)))]), []) else K ((.t [(.s (.int .i64 y11)), (.s (.int .i64 y10))]), []))) ((bif (!((ByteArray.toList (lW (wY y11))) == (ByteArray.toList (lW (List.drop (Int.toNat y9) (List.take (Int.toNat (IntKind.wrap .i64 (y9 + y10))) y8)))))) then K ((.t [(.s (.int .i64 (-(1 : Int)))), (.s (.int .i64 (0 : Int)))]), []) else K ((.t [(.s (.int .i64 y11)), (.s (.int .i64 y10))]), []))))) ((bif (!((ByteArray.toList (lW (wY y11))) == (ByteArray.toList (lW (List.drop (Int.toNat y9) (List.take (Int.toNat (IntKind.wrap .i64 (y9 + y10))) y8)))))) then K ((.t [(.s (.int .i64 (-(1 : Int)))), (.s (.int .i64 (0 : Int)))]), []) else K ((.t [(.s (.int .i64 y11)), (.s (.int .i64 y10))]), [])))) else none)))) else (bif (decide ((1 : Int) > (IntKind.wrap .i64 ((((List.length d) : Nat) : Int) - k)))) then K ((.t [(.s (.int .i64 (-(1 : Int)))), (.s (.int .i64 (0 : Int)))]), []) else (gX d k (1 : Int) (IntKind.wrap .i64 (List.getD d (Int.toNat k) (0 : Int))) (1 : Int) (fun y12 y13 y14 y15 => (bif (((decide ((0 : Int) ≤ y13)) && (decide (y13 ≤ (IntKind.wrap .i64 (y13 + y14))))) && (decide ((IntKind.wrap .i64 (y13 + y14)) ≤ (((List.length y12) : Nat) : Int)))) then (meet ((meet ((bif (!((ByteArray.toList (lW (wY y15))) == (ByteArray.toList (lW (List.drop (Int.toNat y13) (List.take (Int.toNat (IntKind.wrap .i64 (y13 + y14))) y12)))))) then K ((.t [(.s (.int .i64 (-(1 : Int)))), (.s (.int .i64 (0 : Int)))]), []) else K ((.t [(.s (.int .i64 y15)), (.s (.int .i64 y14))]), []))) ((bif (!((ByteArray.toList (lW (wY y15))) == (ByteArray.toList (lW (List.drop (Int.toNat y13) (List.take (Int.toNat (IntKind.wrap .i64 (y13 + y14))) y12)))))) then K ((.t [(.s (.int .i64 (-(1 : Int)))), (.s (.int .i64 (0 : Int)))]), []) else K ((.t [(.s (.int .i64 y15)), (.s (.int .i64 y14))]), []))))) ((bif (!((ByteArray.toList (lW (wY y15))) == (ByteArray.toList (lW (List.drop (Int.toNat y13) (List.take (Int.toNat (IntKind.wrap .i64 (y13 + y14))) y12)))))) then K ((.t [(.s (.int .i64 (-(1 : Int)))), (.s (.int .i64 (0 : Int)))]), []) else K ((.t [(.s (.int .i64 y15)), (.s (.int .i64 y14))]), [])))) else none))))))) else none)))
theorem ajH (d : List Int) (k : Int) (K : aj → Option aj) : dL Pn true F.zM [.l .no ah d, .s (.int .i64 k)] K = Pq d k K := by kernel_rfl
theorem Gy {m : Nat} {d : List Int} {k n r i : Int} {k0 : List Int → Int → Int → Int → Option aj} (hd : aO d = true) (h0 : 0 ≤ k) (hi : 0 < i) (hn : i < n) (hl : k + i < ((d.length : Nat) : Int)) (hr : -1000000000 ≤ r ∧ r ≤ 1000000000) :
  jJ (m + 1) d k n r i k0 = jJ m d k n (64 * r + d.getD (k + i).toNat 0 - 128) (i + 1) k0 := by
 have hb := Ap hd (k + i).toNat
 have hlen := jW hd
 show lD d k n r i _ k0 = _
 unfold lD
 rw [decide_eq_true hn, wrap_in (n := k + i) (by omega) (by omega), decide_eq_true (show 0 ≤ k + i by omega), decide_eq_true hl, wrap_in (n := d.getD (k + i).toNat 0) (by omega) (by omega), wrap_in (n := 64 * r) (by omega) (by omega), wrap_in (n := 64 * r + d.getD (k + i).toNat 0) (by omega) (by omega), wrap_in (n := 64 * r + d.getD (k + i).toNat 0 - 128) (by omega) (by omega), wrap_in (n := i + 1) (by omega) (by omega)]
 rfl
theorem rune_end {m : Nat} {d : List Int} {k n r i : Int} {k0 : List Int → Int → Int → Int → Option aj} (hn : ¬ i < n) : jJ (m + 1) d k n r i k0 = k0 d k n r := by
 show lD d k n r i _ k0 = _
 unfold lD
 rw [decide_eq_false hn]; rfl
theorem aqL {K : aj → Option aj} {c : Prop} [Decidable c] {r n v s : Int} (h : (if c then (r, n) else (-1, 0)) = (v, s)) :
  (bif !(decide c) then K ((.t [(.s (.int .i64 (-(1 : Int)))), (.s (.int .i64 (0 : Int)))]), []) else K ((.t [(.s (.int .i64 r)), (.s (.int .i64 n))]), [])) = K (.t [sc v, sc s], []) := by
 by_cases hc : c
 ·rw [if_pos hc] at h
  obtain ⟨rfl, rfl⟩ := Prod.mk.inj h
  rw [decide_eq_true hc]; rfl
 ·rw [if_neg hc] at h
  obtain ⟨h1, h2⟩ := Prod.mk.inj h
  rw [decide_eq_false hc, ← h1, ← h2]; rfl
theorem aoH (d : List Int) (k n : Nat) : List.drop k (List.take (k + n) d) = (d.drop k).take n := by
 rw [List.drop_take]; congr 1; omega
theorem ahp {K : aj → Option aj} {d xs : List Int} {k r n v s : Int} (hd : aO d = true) (h0 : 0 ≤ k) (hn0 : 0 ≤ n) (hn : n ≤ 4) (hl : k + n ≤ ((d.length : Nat) : Int)) (hx : (d.drop k.toNat).take n.toNat = xs) (h : (if wY r = xs then (r, n) else (-1, 0)) = (v, s)) :
    (bif (((decide ((0 : Int) ≤ k)) && (decide (k ≤ (IntKind.wrap .i64 (k + n))))) && (decide ((IntKind.wrap .i64 (k + n)) ≤ (((List.length d) : Nat) : Int)))) then
       (meet
        (meet
         (bif (!((ByteArray.toList (lW (wY r))) == (ByteArray.toList (lW (List.drop (Int.toNat k) (List.take (Int.toNat (IntKind.wrap .i64 (k + n))) d)))))) then
          K ((.t [(.s (.int .i64 (-(1 : Int)))), (.s (.int .i64 (0 : Int)))]), [])
          else K ((.t [(.s (.int .i64 r)), (.s (.int .i64 n))]), []))
         (bif (!((ByteArray.toList (lW (wY r))) == (ByteArray.toList (lW (List.drop (Int.toNat k) (List.take (Int.toNat (IntKind.wrap .i64 (k + n))) d)))))) then
          K ((.t [(.s (.int .i64 (-(1 : Int)))), (.s (.int .i64 (0 : Int)))]), [])
          else K ((.t [(.s (.int .i64 r)), (.s (.int .i64 n))]), [])))
        (bif (!((ByteArray.toList (lW (wY r))) == (ByteArray.toList (lW (List.drop (Int.toNat k) (List.take (Int.toNat (IntKind.wrap .i64 (k + n))) d)))))) then
         K ((.t [(.s (.int .i64 (-(1 : Int)))), (.s (.int .i64 (0 : Int)))]), [])
         else K ((.t [(.s (.int .i64 r)), (.s (.int .i64 n))]), [])))
       else none) = K (.t [sc v, sc s], []) := by
  have hlen := jW hd
  rw [wrap_in (n := k + n) (by omega) (by omega), decide_eq_true h0, decide_eq_true (show k ≤ k + n by omega), decide_eq_true hl]
  rw [meet_self, meet_self]
  have e : List.drop (Int.toNat k) (List.take (Int.toNat (k + n)) d) = xs := by
    rw [← hx, show (k + n).toNat = k.toNat + n.toNat by omega]; exact aoH d _ _
  rw [e, VH (aoD r) (fun y hy => by
    rw [← hx] at hy
    exact mW hd (List.mem_of_mem_drop (List.mem_of_mem_take hy)))]
  exact aqL h
theorem zS {xs : List Int} (h : 1 ≤ xs.length) : ∃ a t, xs = a :: t := by
 cases xs with
 | nil => simp at h
 | cons a t => exact ⟨a, t, rfl⟩
def ZW : Sm := bg [.l ah, .i] (fun d => aO d.1) (fun d => (.t [sc (aqF d.1 d.2.1), sc (aeQ d.1 d.2.1)], []))
theorem ajI (d : List Int) (k : Int) (h : (aO d) = true) (K : aj → Option aj) : Pq d k K = K (.t [sc (aqF d k), sc (aeQ d k)], []) := by
 unfold Pq aqF aeQ inD
 have hlen := jW h
 by_cases h1 : k < 0
 ·rw [decide_eq_true h1, decide_eq_false (show ¬ 0 ≤ k by omega)]; rfl
 by_cases h2 : k ≥ ((d.length : Nat) : Int)
 ·rw [decide_eq_false h1, decide_eq_true h2, decide_eq_true (show 0 ≤ k by omega), decide_eq_false (show ¬ k < ((d.length : Nat) : Int) by omega)]; rfl
 have hbk := Ap h k.toNat
 rw [decide_eq_false h1, decide_eq_false h2, decide_eq_true (show 0 ≤ k by omega), decide_eq_true (show k < ((d.length : Nat) : Int) by omega), wrap_in (n := d.getD k.toNat 0) (by omega) (by omega), wrap_in (n := ((d.length : Nat) : Int) - k) (by omega) (by omega)]
 simp only [Bool.and_true, cond_true, cond_false]
 have hg : ∀ i : Nat, (d.drop k.toNat).getD i 0 = d.getD (k + (i : Nat)).toNat 0 := fun i => by
  rw [getD_drop]; congr 1; omega
 have hg0 := hg 0
 rw [show (k + ((0 : Nat) : Int)).toNat = k.toNat by omega] at hg0
 have hdl : (d.drop k.toNat).length = d.length - k.toNat := by simp
 have hbytes := fun i => Ap (og h k.toNat) i
 by_cases c4 : d.getD k.toNat 0 ≥ 240
 ·rw [decide_eq_true c4]
  by_cases s4 : (4 : Int) > ((d.length : Nat) : Int) - k
  ·rw [decide_eq_true s4]
   have e := MJ (as4 (xs := d.drop k.toNat) (by rw [hg0]; exact c4) (by omega))
   obtain ⟨e1, e2⟩ := Prod.mk.inj e
   rw [e1, e2]; rfl
  ·rw [decide_eq_false s4]
   unfold gX
   rw [wrap_in (n := d.getD k.toNat 0 - 240) (by omega) (by omega)]
   obtain ⟨m, hm⟩ : ∃ m, List.length d + k.toNat + (4 : Int).toNat + (d.getD k.toNat 0 - 240).toNat + (1 : Int).toNat + 2 = m + 4 := ⟨List.length d + k.toNat + (4 : Int).toNat + (d.getD k.toNat 0 - 240).toNat + (1 : Int).toNat + 2 - 4, by omega⟩
   have b1 := Ap h (k + 1).toNat
   have b2 := Ap h (k + (1 + 1)).toNat
   rw [hm, Gy h (by omega) (by omega) (by omega) (by omega) (by omega), Gy h (by omega) (by omega) (by omega) (by omega) (by omega), Gy h (by omega) (by omega) (by omega) (by omega) (by omega), rune_end (by omega)]
   refine ahp h (by omega) (by omega) (by omega) (by omega) (xs := [(d.drop k.toNat).getD 0 0, (d.drop k.toNat).getD 1 0, (d.drop k.toNat).getD 2 0, (d.drop k.toNat).getD 3 0]) ?_ ?_
   ·obtain ⟨a, t, e⟩ := zS (xs := d.drop k.toNat) (by omega)
    obtain ⟨b, t2, e2⟩ := zS (xs := t) (by rw [e] at hdl; simp at hdl; omega)
    obtain ⟨c, t3, e3⟩ := zS (xs := t2) (by rw [e, e2] at hdl; simp at hdl; omega)
    obtain ⟨f, t4, e4⟩ := zS (xs := t3) (by rw [e, e2, e3] at hdl; simp at hdl; omega)
    rw [e, e2, e3, e4]; rfl
   ·obtain ⟨a, t, e⟩ := zS (xs := d.drop k.toNat) (by omega)
    obtain ⟨b, t2, e2⟩ := zS (xs := t) (by rw [e] at hdl; simp at hdl; omega)
    obtain ⟨c, t3, e3⟩ := zS (xs := t2) (by rw [e, e2] at hdl; simp at hdl; omega)
    obtain ⟨f, t4, e4⟩ := zS (xs := t3) (by rw [e, e2, e3] at hdl; simp at hdl; omega)
    have g1 := hg 1
    have g2 := hg 2
    have g3 := hg 3
    have q0 := hbytes 0
    have q1 := hbytes 1
    have q2 := hbytes 2
    have q3 := hbytes 3
    rw [e, e2, e3, e4] at hg0 g1 g2 g3 q0 q1 q2 q3 ⊢
    rw [show (k + 1).toNat = (k + ((1 : Nat) : Int)).toNat from rfl, show (k + (1 + 1)).toNat = (k + ((2 : Nat) : Int)).toNat by congr 1, show (k + (1 + 1 + 1)).toNat = (k + ((3 : Nat) : Int)).toNat by congr 1, ← g1, ← g2, ← g3, ← hg0]
    exact avx (by rw [← hg0] at c4; exact c4) q0.2 q1 q2 q3
 rw [decide_eq_false c4]
 by_cases c3 : d.getD k.toNat 0 ≥ 224
 ·rw [decide_eq_true c3]
  by_cases s3 : (3 : Int) > ((d.length : Nat) : Int) - k
  ·rw [decide_eq_true s3]
   have e := MJ (as5 (xs := d.drop k.toNat) (by rw [hg0]; exact c3) (by rw [hg0]; omega) (by omega))
   obtain ⟨e1, e2⟩ := Prod.mk.inj e
   rw [e1, e2]; rfl
  ·rw [decide_eq_false s3]
   unfold gX
   rw [wrap_in (n := d.getD k.toNat 0 - 224) (by omega) (by omega)]
   obtain ⟨m, hm⟩ : ∃ m, List.length d + k.toNat + (3 : Int).toNat + (d.getD k.toNat 0 - 224).toNat + (1 : Int).toNat + 2 = m + 3 := ⟨List.length d + k.toNat + (3 : Int).toNat + (d.getD k.toNat 0 - 224).toNat + (1 : Int).toNat + 2 - 3, by omega⟩
   have b1 := Ap h (k + 1).toNat
   rw [hm]
   simp only [cond_false, cond_true]
   rw [Gy h (by omega) (by omega) (by omega) (by omega) (by omega), Gy h (by omega) (by omega) (by omega) (by omega) (by omega), rune_end (by omega)]
   refine ahp h (by omega) (by omega) (by omega) (by omega) (xs := [(d.drop k.toNat).getD 0 0, (d.drop k.toNat).getD 1 0, (d.drop k.toNat).getD 2 0]) ?_ ?_
   ·obtain ⟨a, t, e⟩ := zS (xs := d.drop k.toNat) (by omega)
    obtain ⟨b, t2, e2⟩ := zS (xs := t) (by rw [e] at hdl; simp at hdl; omega)
    obtain ⟨c, t3, e3⟩ := zS (xs := t2) (by rw [e, e2] at hdl; simp at hdl; omega)
    rw [e, e2, e3]; rfl
   ·obtain ⟨a, t, e⟩ := zS (xs := d.drop k.toNat) (by omega)
    obtain ⟨b, t2, e2⟩ := zS (xs := t) (by rw [e] at hdl; simp at hdl; omega)
    obtain ⟨c, t3, e3⟩ := zS (xs := t2) (by rw [e, e2] at hdl; simp at hdl; omega)
    have g1 := hg 1
    have g2 := hg 2
    have q0 := hbytes 0
    have q1 := hbytes 1
    have q2 := hbytes 2
    rw [e, e2, e3] at hg0 g1 g2 q0 q1 q2 ⊢
    rw [show (k + 1).toNat = (k + ((1 : Nat) : Int)).toNat from rfl, show (k + (1 + 1)).toNat = (k + ((2 : Nat) : Int)).toNat by congr 1, ← g1, ← g2, ← hg0]
    exact avw (by rw [← hg0] at c3; exact c3) (by rw [← hg0] at c4; exact Int.not_le.1 c4) q1 q2
 rw [decide_eq_false c3]
 by_cases c2 : d.getD k.toNat 0 ≥ 192
 ·rw [decide_eq_true c2]
  by_cases s2 : (2 : Int) > ((d.length : Nat) : Int) - k
  ·rw [decide_eq_true s2]
   have e := MJ (as6 (xs := d.drop k.toNat) (by rw [hg0]; exact c2) (by rw [hg0]; omega) (by omega))
   obtain ⟨e1, e2⟩ := Prod.mk.inj e
   rw [e1, e2]; rfl
  ·rw [decide_eq_false s2]
   unfold gX
   rw [wrap_in (n := d.getD k.toNat 0 - 192) (by omega) (by omega)]
   obtain ⟨m, hm⟩ : ∃ m, List.length d + k.toNat + (2 : Int).toNat + (d.getD k.toNat 0 - 192).toNat + (1 : Int).toNat + 2 = m + 2 := ⟨List.length d + k.toNat + (2 : Int).toNat + (d.getD k.toNat 0 - 192).toNat + (1 : Int).toNat + 2 - 2, by omega⟩
   rw [hm]
   simp only [cond_false, cond_true]
   rw [Gy h (by omega) (by omega) (by omega) (by omega) (by omega), rune_end (by omega)]
   refine ahp h (by omega) (by omega) (by omega) (by omega) (xs := [(d.drop k.toNat).getD 0 0, (d.drop k.toNat).getD 1 0]) ?_ ?_
   ·obtain ⟨a, t, e⟩ := zS (xs := d.drop k.toNat) (by omega)
    obtain ⟨b, t2, e2⟩ := zS (xs := t) (by rw [e] at hdl; simp at hdl; omega)
    rw [e, e2]; rfl
   ·obtain ⟨a, t, e⟩ := zS (xs := d.drop k.toNat) (by omega)
    obtain ⟨b, t2, e2⟩ := zS (xs := t) (by rw [e] at hdl; simp at hdl; omega)
    have g1 := hg 1
    have q0 := hbytes 0
    have q1 := hbytes 1
    rw [e, e2] at hg0 g1 q0 q1 ⊢
    rw [show (k + 1).toNat = (k + ((1 : Nat) : Int)).toNat from rfl, ← g1, ← hg0]
    exact avv (by rw [← hg0] at c2; exact c2) (by rw [← hg0] at c3; exact Int.not_le.1 c3) q1
 rw [decide_eq_false c2, decide_eq_false (show ¬ (1 : Int) > ((d.length : Nat) : Int) - k by omega)]
 unfold gX
 obtain ⟨m, hm⟩ : ∃ m, List.length d + k.toNat + (1 : Int).toNat + (d.getD k.toNat 0).toNat + (1 : Int).toNat + 2 = m + 1 := ⟨List.length d + k.toNat + (1 : Int).toNat + (d.getD k.toNat 0).toNat + (1 : Int).toNat + 2 - 1, by omega⟩
 rw [hm]
 simp only [cond_false, cond_true]
 rw [rune_end (by omega)]
 refine ahp h (by omega) (by omega) (by omega) (by omega) (xs := [(d.drop k.toNat).getD 0 0]) ?_ ?_
 ·obtain ⟨a, t, e⟩ := zS (xs := d.drop k.toNat) (by omega)
  rw [e]; rfl
 ·obtain ⟨a, t, e⟩ := zS (xs := d.drop k.toNat) (by omega)
  have q0 := hbytes 0
  rw [e] at hg0 q0 ⊢
  rw [← hg0]
  exact avu q0.1 (by rw [← hg0] at c2; exact Int.not_le.1 c2)
theorem aeV : aV prog I N.zM true ZW := kD (aW (aY aaO bn) (l := VX) (p := VW) (ls := [(18, [0,1,7,8,9], [0,1,4,5,7,8], AB)]) (lend := []) (focus := false) (fuel := 0) (give := []) (fn := F.zM) (by kernel_rfl) (by kernel_rfl) (by kernel_rfl) (by kernel_rfl) (cs := [aS F.zM 18]) (by kernel_rfl) (dA Uf aK)) (aI fun d K h => (ajH d.1 d.2.1 K).trans (ajI d.1 d.2.1 h K))
end Go.Ev.Seat
end
section
namespace Go.Ev.Seat
open Go.RowKit
set_option maxRecDepth 100000
set_option linter.unusedVariables false
set_option linter.unusedSimpArgs false
noncomputable abbrev RP : List (Nat × Bool × Sm) := [(N.zM, true, ZW)]
noncomputable abbrev ahq : Env := En RP [] [] [] false 0 []
noncomputable def MR (d : List Int) (k : Int) (K : aj → Option aj) : Option aj := (bif (aO d) then K ((.s (.int .i64 (aeQ d k))), []) else none)
theorem ahr (d : List Int) (k : Int) (K : aj → Option aj) : dL ahq true F.Hg [.l .no ah d, .s (.int .i64 k)] K = MR d k K := by kernel_rfl
def VZ : Sm := bg [.l ah, .i] (fun d => aO d.1) (fun d => (sc (aeQ d.1 d.2.1), []))
theorem ahs (d : List Int) (k : Int) (h : (aO d) = true) (K : aj → Option aj) : MR d k K = K (sc (aeQ d k), []) := by
 unfold MR; rw [h]; rfl
theorem ac4 : aV prog I N.Hg true VZ := kD (aW (aY aeV bn) (l := RP) (p := []) (ls := []) (lend := []) (focus := false) (fuel := 0) (give := []) (fn := F.Hg) (by kernel_rfl) (by kernel_rfl) (by kernel_rfl) (by kernel_rfl) (cs := []) (by kernel_rfl) aK) (aI fun d K h => (ahr d.1 d.2.1 K).trans (ahs d.1 d.2.1 h K))
end Go.Ev.Seat
end
section
namespace Go.Ev.Seat
open Go.RowKit
set_option maxRecDepth 100000
set_option linter.unusedVariables false
set_option linter.unusedSimpArgs false
def yA (x4 : Int) (o0 : List Int) : St := { tm := ([.x, .x, .nl, (.w 0), (.s (.int .i64 x4))] ++ List.replicate 25 .x), ob := [(0, (.arr true true Hu o0))], nx := 1, io := [] }
def yB (x4 : Int) (o0 : List Int) : St := { tm := ([.x, .x, .x, (.w 0), (.s (.int .i64 x4))] ++ List.replicate 25 .x), ob := [(0, (.arr true true Hu o0))], nx := 1, io := [] }
def vY : Ss := { tm := (.cons (.l .no ah) (.cons (.x) (.cons (.x) (.cons (.w 0) (.cons (.int .i64) (Fj 25)))))), ob := (.arr true true Hu .nil), nx := 1, io := .nil }
def aaP (x0 : List Int) (x4 : Int) (o0 : List Int) : vY.T := ((x0, ((), ((), ((), (x4, xd 25))))), (o0, ()), ())
def qA (x0 : List Int) (x4 : Int) (o0 : List Int) : St := { tm := ([(.l .no ah x0), .x, .x, (.w 0), (.s (.int .i64 x4))] ++ List.replicate 25 .x), ob := [(0, (.arr true true Hu o0))], nx := 1, io := [] }
theorem Yt (x0 : List Int) (x4 : Int) (o0 : List Int) : vY.mk' (aaP x0 x4 o0) = (qA x0 x4 o0) := by kernel_rfl
def aaQ (d : vY.T) (f : (List Int) → Int → (List Int) → Option aj) : Option aj := match d with | ((x0, (_, (_, (_, (x4, _))))), (o0, _), _) => f x0 x4 o0
noncomputable def yC (x0 : List Int) (x4 : Int) (o0 : List Int) (lC : (List Int) → Int → (List Int) → Option aj) (k0 : Int → (List Int) → Option aj) (k1 : Int → (List Int) → Option aj) : Option aj := (bif (decide (x4 < (((List.length x0) : Nat) : Int))) then (bif (aO x0) then (bif ((aeQ x0 x4) == (0 : Int)) then (k0 x4 o0) else (bif (Nat.ble (((List.length o0) + (List.length (x4 :: ([] : List Int)))) * 8) 140737488355328) then (lC x0 (IntKind.wrap .i64 (x4 + (aeQ x0 x4))) (o0 ++ (x4 :: ([] : List Int)))) else none)) else none) else (k1 x4 o0))
noncomputable def qB : Nat → (List Int) → Int → (List Int) → (Int → (List Int) → Option aj) → (Int → (List Int) → Option aj) → Option aj
 | 0, _, _, _, _, _ => none
 | m + 1, x0, x4, o0, k0, k1 => yC x0 x4 o0 (fun x0 x4 o0 => (qB m x0 x4 o0 k0 k1)) k0 k1
noncomputable def EO (x0 : List Int) (x4 : Int) (o0 : List Int) (k0 : Int → (List Int) → Option aj) (k1 : Int → (List Int) → Option aj) : Option aj := qB (List.length x0 + x4.toNat + List.length o0 + 2) x0 x4 o0 k0 k1
noncomputable def DN : dV := (fun (σ : St) (K : Ex → St → Option aj) => (match vY.un σ with | some d => aaQ d (fun x0 x4 o0 => EO x0 x4 o0 (fun x4 o0 => (K .ret (yA x4 o0))) (fun x4 o0 => (K (.ext 0) (yB x4 o0)))) | none => none))
noncomputable abbrev V3 : List (Nat × Bool × Sm) := [(N.Hg, true, VZ)]
noncomputable abbrev Pv : Env := En V3 [] [(5, [0,3,4], [2,3,4], DN)] [] false 0 []
noncomputable abbrev xH := rounds (run Pv (aS F.vK 5)) [0,3,4] [2,3,4]
theorem Yu (m : Nat) (x0 : List Int) (x4 : Int) (o0 : List Int) (K : Ex → St → Option aj) : xH (m + 1) (qA x0 x4 o0) K = yC x0 x4 o0 (fun x0 x4 o0 => (xH m (qA x0 x4 o0) K)) (fun x4 o0 => (K .ret (yA x4 o0))) (fun x4 o0 => (K (.ext 0) (yB x4 o0))) := by kernel_rfl
theorem RQ (K : Ex → St → Option aj) : ∀ m : Nat, (∀ (x0 : List Int) (x4 : Int) (o0 : List Int), xH m (qA x0 x4 o0) K = qB m x0 x4 o0 (fun x4 o0 => (K .ret (yA x4 o0))) (fun x4 o0 => (K (.ext 0) (yB x4 o0))))
 | 0 => (fun _ _ _ => rfl)
 | m + 1 => (fun x0 x4 o0 => (by rw [Yu, show (fun x0 x4 o0 => (xH m (qA x0 x4 o0) K)) = (fun x0 x4 o0 => (qB m x0 x4 o0 (fun x4 o0 => (K .ret (yA x4 o0))) (fun x4 o0 => (K (.ext 0) (yB x4 o0))))) from funext fun x0 => funext fun x4 => funext fun o0 => (RQ K m) x0 x4 o0]; rfl))
theorem V4 : dJ Pv (aS F.vK 5) := by
 refine dh (n := 5) (F := DN) (by kernel_rfl) rfl (li := [0,3,4]) (lo := [2,3,4]) rfl (fun σ K r hr => ?_)
 unfold DN at hr
 split at hr
 ·rename_i d hd
  rw [Ss.dY hd]
  exact ⟨_, ((congrArg (fun z => xH _ z K) (Yt _ _ _)).trans ((RQ K _) _ _ _)).trans hr⟩
 ·cases hr
noncomputable def Px (d : List Int) (K : aj → Option aj) : Option aj := (bif (decide ((((List.length d) : Nat) : Int) > (400 : Int))) then K ((.l .deep Hu ([] : List Int)), []) else (EO d (0 : Int) ([] : List Int) (fun y0 y1 => K ((.l .deep Hu ([] : List Int)), [])) (fun y2 y3 => (bif (Nat.ble (((List.length y3) + (List.length (y2 :: ([] : List Int)))) * 8) 140737488355328) then K ((.l .deep Hu (y3 ++ (y2 :: ([] : List Int)))), []) else none))))
theorem ajJ (d : List Int) (K : aj → Option aj) : dL Pv true F.vK [.l .no ah d] K = Px d K := by kernel_rfl
theorem agb {d : List Int} (hd : aO d = true) (F : Option aj) (k1 : Int → List Int → Option aj) : ∀ (m n : Nat) (o : List Int), n ≤ d.length → d.length - n < m → o.length ≤ n →
  qB m d (n : Int) o (fun _ _ => F) k1 = bif valid (d.drop n) then k1 ((d.length : Nat) : Int) (o ++ starts (d.drop n) (n : Int)) else F
 | 0, n, o, _, h, _ => absurd h (by omega)
 | m + 1, n, o, hn, hm, ho => by
  have hlen := jW hd
  show yC d (n : Int) o _ _ k1 = _
  unfold yC
  by_cases hl : n < d.length
  ·rw [decide_eq_true (show (n : Int) < ((d.length : Nat) : Int) by omega), hd, ar1 (by omega) (by omega), Int.toNat_natCast]
   simp only [cond_true]
   have hle := mG (d.drop n)
   rw [List.length_drop] at hle
   by_cases h0 : aP (d.drop n) = 0
   ·rw [h0, MH h0 (by simp; omega)]; rfl
   ·rw [beq_eq_false_iff_ne.2 (show ¬ ((aP (d.drop n) : Nat) : Int) = 0 by omega), Nat.ble_eq_true_of_le (show (o.length + [(n : Int)].length) * 8 ≤ 140737488355328 by simp; omega), wrap_in (n := (n : Int) + (aP (d.drop n) : Nat)) (by omega) (by omega)]
    have e : (n : Int) + ((aP (d.drop n) : Nat) : Int) = ((n + aP (d.drop n) : Nat) : Int) := by omega
    simp only [cond_false, cond_true]
    rw [e]
    refine (agb hd F k1 m (n + aP (d.drop n)) (o ++ [(n : Int)]) (by omega) (by omega) (by simp; omega)).trans ?_
    rw [zx h0, O6 h0, List.drop_drop, List.append_assoc, List.singleton_append, e]
  ·have : n = d.length := by omega
   subst this
   rw [decide_eq_false (show ¬ ((d.length : Nat) : Int) < ((d.length : Nat) : Int) by omega), List.drop_length, Q8, O5 (by rfl), List.append_nil]; rfl
def Py : Sm := bg [.l ah] (fun d => aO d.1) (fun d => (.l .deep Hu (uG d.1), []))
theorem ajK (d : List Int) (h : (aO d) = true) (K : aj → Option aj) : Px d K = K (.l .deep Hu (uG d), []) := by
 unfold Px uG
 by_cases h4 : ((d.length : Nat) : Int) > 400
 ·rw [decide_eq_true h4, show aT d = false from Bool.eq_false_iff.2 (fun he => by have := (pV.1 he).1; omega)]; rfl
 ·rw [decide_eq_false h4]
  unfold EO
  have := agb h (K (.l .deep Hu [], [])) (fun y2 y3 => (bif (Nat.ble (((List.length y3) + (List.length (y2 :: []))) * 8) 140737488355328) then K ((.l .deep Hu (y3 ++ (y2 :: []))), []) else none)) (List.length d + (0 : Int).toNat + List.length ([] : List Int) + 2) 0 [] (by omega) (by omega) (by simp)
  refine Eq.trans this ?_
  rw [List.drop_zero]
  cases hv : valid d with
  | false => rw [show aT d = false from Bool.eq_false_iff.2 (fun he => by have := (pV.1 he).2; rw [hv] at this; cases this)]; rfl
  | true =>
   rw [pV.2 ⟨by omega, hv⟩]
   have hs := Ub _ d 0 (Nat.le_refl _)
   simp only [cond_true, List.nil_append]
   rw [Nat.ble_eq_true_of_le (by simp; omega), JR _ d 0 (Nat.le_refl _) hv, Int.zero_add]
   rfl
theorem RS : aV prog I N.vK true Py := kD (aW (aY ac4 bn) (l := V3) (p := []) (ls := [(5, [0,3,4], [2,3,4], DN)]) (lend := []) (focus := false) (fuel := 0) (give := []) (fn := F.vK) (by kernel_rfl) (by kernel_rfl) (by kernel_rfl) (by kernel_rfl) (cs := [aS F.vK 5]) (by kernel_rfl) (dA V4 aK)) (aI fun d K h => (ajJ d.1 K).trans (ajK d.1 h K))
end Go.Ev.Seat
end
section
namespace Go.Ev.Seat
open Go.RowKit
set_option maxRecDepth 100000
set_option linter.unusedVariables false
set_option linter.unusedSimpArgs false
noncomputable abbrev ZX : List (Nat × Bool × Sm) := [(N.vK, true, Py)]
noncomputable abbrev amb : Env := En ZX [] [] [] false 0 []
noncomputable def Ug (d : List Int) (K : aj → Option aj) : Option aj := (bif (aO d) then K ((.s (.bool (decide ((((List.length (uG d)) : Nat) : Int) > (0 : Int))))), []) else none)
theorem amc (d : List Int) (K : aj → Option aj) : dL amb true F.Ad [.l .no ah d] K = Ug d K := by kernel_rfl
def Dk : Sm := bg [.l ah] (fun d => aO d.1) (fun d => (bl (aT d.1), []))
theorem amd (d : List Int) (h : (aO d) = true) (K : aj → Option aj) : Ug d K = K (bl (aT d), []) := by
 unfold Ug
 rw [h]
 have e : decide ((((List.length (uG d)) : Nat) : Int) > (0 : Int)) = aT d := by
  unfold uG
  cases aT d with
  | false => rfl
  | true => exact decide_eq_true (show (((bounds d 0).length : Nat) : Int) > 0 by have := aoC d 0; omega)
 rw [e]; rfl
theorem FQ : aV prog I N.Ad true Dk := kD (aW (aY RS bn) (l := ZX) (p := []) (ls := []) (lend := []) (focus := false) (fuel := 0) (give := []) (fn := F.Ad) (by kernel_rfl) (by kernel_rfl) (by kernel_rfl) (by kernel_rfl) (cs := []) (by kernel_rfl) aK) (aI fun d K h => (amc d.1 K).trans (amd d.1 h K))
end Go.Ev.Seat
end
section
namespace Go.Ev.Seat
open Go.RowKit
set_option maxRecDepth 100000
set_option linter.unusedVariables false
set_option linter.unusedSimpArgs false
def yD (x4 : Int) : St := { tm := ([.x, .x, .x, .x, (.s (.int .i64 x4))] ++ List.replicate 17 .x), ob := [], nx := 0, io := [] }
def yE : St := { tm := ([] ++ List.replicate 22 .x), ob := [], nx := 0, io := [] }
def vZ : Ss := { tm := (.cons (.x) (.cons (.int .i64) (.cons (.x) (.cons (.x) (.cons (.x) (.cons (.w 0) (.cons (.int .i64) (Fj 15)))))))), ob := (.arr true true Hu .nil), nx := 1, io := .nil }
def aaR (x1 : Int) (x6 : Int) (o0 : List Int) : vZ.T := (((), (x1, ((), ((), ((), ((), (x6, xd 15))))))), (o0, ()), ())
def qC (x1 : Int) (x6 : Int) (o0 : List Int) : St := { tm := ([.x, (.s (.int .i64 x1)), .x, .x, .x, (.w 0), (.s (.int .i64 x6))] ++ List.replicate 15 .x), ob := [(0, (.arr true true Hu o0))], nx := 1, io := [] }
theorem Yv (x1 : Int) (x6 : Int) (o0 : List Int) : vZ.mk' (aaR x1 x6 o0) = (qC x1 x6 o0) := by kernel_rfl
def aaS (d : vZ.T) (f : Int → Int → (List Int) → Option aj) : Option aj := match d with | ((_, (x1, (_, (_, (_, (_, (x6, _))))))), (o0, _), _) => f x1 x6 o0
noncomputable def mJ (x1 : Int) (x6 : Int) (o0 : List Int) (lC : Int → Int → (List Int) → Option aj) (k0 : Int → Option aj) (k1 : Option aj) : Option aj := (bif (decide (x6 < (((List.length o0) : Nat) : Int))) then (bif ((decide ((0 : Int) ≤ x6)) && (decide (x6 < (((List.length o0) : Nat) : Int)))) then (bif ((List.getD o0 (Int.toNat x6) (0 : Int)) == x1) then (k0 x6) else (lC x1 (IntKind.wrap .i64 (x6 + (1 : Int))) o0)) else none) else k1)
noncomputable def qE : Nat → Int → Int → (List Int) → (Int → Option aj) → (Option aj) → Option aj
 | 0, _, _, _, _, _ => none
 | m + 1, x1, x6, o0, k0, k1 => mJ x1 x6 o0 (fun x1 x6 o0 => (qE m x1 x6 o0 k0 k1)) k0 k1
noncomputable def EP (x1 : Int) (x6 : Int) (o0 : List Int) (k0 : Int → Option aj) (k1 : Option aj) : Option aj := qE (x1.toNat + x6.toNat + List.length o0 + 2) x1 x6 o0 k0 k1
noncomputable def DR : dV := (fun (σ : St) (K : Ex → St → Option aj) => (match vZ.un σ with | some d => aaS d (fun x1 x6 o0 => EP x1 x6 o0 (fun x4 => (K .ret (yD x4))) (K (.ext 0) yE)) | none => none))
noncomputable abbrev V5 : List (Nat × Bool × Sm) := [(N.vK, true, Py)]
noncomputable abbrev Pz : Env := En V5 [] [(3, [1,5,6], [4], DR)] [] false 0 []
noncomputable abbrev xI := rounds (run Pz (aS F.zJ 3)) [1,5,6] [4]
theorem Yw (m : Nat) (x1 : Int) (x6 : Int) (o0 : List Int) (K : Ex → St → Option aj) : xI (m + 1) (qC x1 x6 o0) K = mJ x1 x6 o0 (fun x1 x6 o0 => (xI m (qC x1 x6 o0) K)) (fun x4 => (K .ret (yD x4))) (K (.ext 0) yE) := by kernel_rfl
theorem RU (K : Ex → St → Option aj) : ∀ m : Nat, (∀ (x1 : Int) (x6 : Int) (o0 : List Int), xI m (qC x1 x6 o0) K = qE m x1 x6 o0 (fun x4 => (K .ret (yD x4))) (K (.ext 0) yE))
 | 0 => (fun _ _ _ => rfl)
 | m + 1 => (fun x1 x6 o0 => (by rw [Yw, show (fun x1 x6 o0 => (xI m (qC x1 x6 o0) K)) = (fun x1 x6 o0 => (qE m x1 x6 o0 (fun x4 => (K .ret (yD x4))) (K (.ext 0) yE))) from funext fun x1 => funext fun x6 => funext fun o0 => (RU K m) x1 x6 o0]; rfl))
theorem V6 : dJ Pz (aS F.zJ 3) := by
 refine dh (n := 3) (F := DR) (by kernel_rfl) rfl (li := [1,5,6]) (lo := [4]) rfl (fun σ K r hr => ?_)
 unfold DR at hr
 split at hr
 ·rename_i d hd
  rw [Ss.dY hd]
  exact ⟨_, ((congrArg (fun z => xI _ z K) (Yv _ _ _)).trans ((RU K _) _ _ _)).trans hr⟩
 ·cases hr
noncomputable def PD (d : List Int) (k : Int) (K : aj → Option aj) : Option aj := (bif (aO d) then (EP k (0 : Int) (uG d) (fun y0 => K ((.s (.int .i64 y0)), [])) (K ((.s (.int .i64 (-(1 : Int)))), []))) else none)
theorem ajL (d : List Int) (k : Int) (K : aj → Option aj) : dL Pz true F.zJ [.l .no ah d, .s (.int .i64 k)] K = PD d k K := by kernel_rfl
def ZY : Sm := bg [.l ah, .i] (fun d => aO d.1) (fun d => (sc (Yk (uG d.1) d.2.1), []))
theorem ajM (d : List Int) (k : Int) (h : (aO d) = true) (K : aj → Option aj) : PD d k K = K (sc (Yk (uG d) k), []) := by
 unfold PD EP
 rw [h]
 have hl : (uG d).length ≤ 401 := by
  unfold uG
  cases ht : aT d with
  | false => simp
  | true =>
   have hh := pV.1 ht
   rw [cond_true, JR _ d 0 (Nat.le_refl _) hh.2]
   have := Ub _ d 0 (Nat.le_refl _)
   simp; omega
 have := Lh (R := fun m i => qE m k i (uG d) (fun y0 => K ((.s (.int .i64 y0)), [])) (K ((.s (.int .i64 (-(1 : Int)))), []))) (p := fun c => c == k) (z := 0) (xs := uG d) (kf := fun y0 => K ((.s (.int .i64 y0)), [])) (kt := K ((.s (.int .i64 (-(1 : Int)))), []))
  (fun m i hi => by
   show mJ k i (uG d) _ _ _ = _
   unfold mJ
   rw [decide_eq_true (show ((i : Nat) : Int) < (((uG d).length : Nat) : Int) by omega), decide_eq_true (show (0 : Int) ≤ ((i : Nat) : Int) by omega), bW (by omega), Int.toNat_natCast]
   rfl)
  (fun m => by
   show mJ k _ (uG d) _ _ _ = _
   unfold mJ
   rw [decide_eq_false (show ¬ (((uG d).length : Nat) : Int) < (((uG d).length : Nat) : Int) by omega)]; rfl)
  (k.toNat + (0 : Int).toNat + List.length (uG d) + 2) 0 (by omega) (by omega)
 refine Eq.trans this ?_
 rw [List.drop_zero]
 unfold Yk
 cases (uG d).findIdx? (fun c => c == k) with
 | none => rfl
 | some j => show K (V.s (Value.int .i64 ((0 + j : Nat) : Int)), []) = K (sc ((j : Nat) : Int), []); rw [Nat.zero_add]; rfl
theorem aeW : aV prog I N.zJ true ZY := kD (aW (aY RS bn) (l := V5) (p := []) (ls := [(3, [1,5,6], [4], DR)]) (lend := []) (focus := false) (fuel := 0) (give := []) (fn := F.zJ) (by kernel_rfl) (by kernel_rfl) (by kernel_rfl) (by kernel_rfl) (cs := [aS F.zJ 3]) (by kernel_rfl) (dA V6 aK)) (aI fun d K h => (ajL d.1 d.2.1 K).trans (ajM d.1 d.2.1 h K))
end Go.Ev.Seat
end
section
namespace Go.Ev.Seat
open Go.RowKit
set_option maxRecDepth 100000
set_option linter.unusedVariables false
set_option linter.unusedSimpArgs false
noncomputable abbrev ac5 : List (Nat × Bool × Sm) := [(N.zJ, true, ZY)]
noncomputable abbrev aoI : Env := En ac5 [] [] [] false 0 []
noncomputable def Yx (d : List Int) (k : Int) (K : aj → Option aj) : Option aj := (bif (aO d) then K ((.s (.bool (decide ((Yk (uG d) k) ≥ (0 : Int))))), []) else none)
theorem aoJ (d : List Int) (k : Int) (K : aj → Option aj) : dL aoI true F.Jj [.l .no ah d, .s (.int .i64 k)] K = Yx d k K := by kernel_rfl
def Lm : Sm := bg [.l ah, .i] (fun d => aO d.1) (fun d => (bl (qy d.1 d.2.1), []))
theorem aoK (d : List Int) (k : Int) (h : (aO d) = true) (K : aj → Option aj) : Yx d k K = K (bl (qy d k), []) := by
 unfold Yx
 rw [h, ← aoB, ← al7]; rfl
theorem Jq : aV prog I N.Jj true Lm := kD (aW (aY aeW bn) (l := ac5) (p := []) (ls := []) (lend := []) (focus := false) (fuel := 0) (give := []) (fn := F.Jj) (by kernel_rfl) (by kernel_rfl) (by kernel_rfl) (by kernel_rfl) (cs := []) (by kernel_rfl) aK) (aI fun d K h => (aoJ d.1 d.2.1 K).trans (aoK d.1 d.2.1 h K))
end Go.Ev.Seat
end
section
namespace Go.Ev.Seat
open Go.RowKit
set_option maxRecDepth 100000
set_option linter.unusedVariables false
set_option linter.unusedSimpArgs false
noncomputable abbrev Z4 : List (Nat × Bool × Sm) := [(N.Ad, true, Dk), (N.Jj, true, Lm)]
noncomputable abbrev ame : Env := En Z4 [] [] [] false 0 []
noncomputable def Uh (t : List Int) (e : ay) (K : aj → Option aj) : Option aj := (bif (aO t) then (bif (!(aT t)) then K ((.s (.bool false)), []) else (bif (aO t) then (bif (!(qy t e.1)) then K ((.s (.bool false)), []) else (bif (decide (e.2.1 < (0 : Int))) then K ((.s (.bool false)), []) else (bif (decide (e.2.1 > (IntKind.wrap .i64 ((((List.length t) : Nat) : Int) - e.1)))) then K ((.s (.bool false)), []) else (bif (aO t) then (bif (!(qy t (IntKind.wrap .i64 (e.1 + e.2.1)))) then K ((.s (.bool false)), []) else (bif (aO e.2.2) then (bif (!(aT e.2.2)) then K ((.s (.bool false)), []) else K ((.s (.bool (decide ((IntKind.wrap .i64 ((IntKind.wrap .i64 ((((List.length t) : Nat) : Int) - e.2.1)) + (((List.length e.2.2) : Nat) : Int))) ≤ (400 : Int))))), [])) else none)) else none)))) else none)) else none)
theorem amf (t : List Int) (e : ay) (K : aj → Option aj) : dL ame true F.OC [.l .no ah t, .a (aB.cells .no e)] K = Uh t e K := by kernel_rfl
def ac6 : Sm := bg [.l ah, .a aB] (fun d => aO d.1 && aO d.2.1.2.2) (fun d => (bl (iC d.1 d.2.1), []))
theorem amg (t : List Int) (e : ay) (h : (aO t && aO e.2.2) = true) (K : aj → Option aj) : Uh t e K = K (bl (iC t e), []) := by
 rw [Bool.and_eq_true] at h
 obtain ⟨ht, he⟩ := h
 unfold Uh iC qy
 rw [ht, he]
 cases c1 : aT t with
 | false => rfl
 | true =>
 have hl := ji c1
 cases c2 : bY t e.1 with
 | false => rfl
 | true =>
 have hr := eU c2
 simp only [Bool.true_and, Bool.not_true, cond_true, cond_false]
 by_cases d1 : e.2.1 < 0
 ·rw [decide_eq_true d1, decide_eq_false (show ¬ 0 ≤ e.2.1 by omega)]; rfl
 rw [decide_eq_false d1, decide_eq_true (show 0 ≤ e.2.1 by omega), wrap_in (n := ((t.length : Nat) : Int) - e.1) (by omega) (by omega)]
 by_cases d2 : e.2.1 > ((t.length : Nat) : Int) - e.1
 ·rw [decide_eq_true d2, decide_eq_false (show ¬ e.2.1 ≤ ((t.length : Nat) : Int) - e.1 by omega)]; rfl
 rw [decide_eq_false d2, decide_eq_true (show e.2.1 ≤ ((t.length : Nat) : Int) - e.1 by omega), wrap_in (n := e.1 + e.2.1) (by omega) (by omega)]
 cases c3 : bY t (e.1 + e.2.1) with
 | false => rfl
 | true =>
 cases c4 : aT e.2.2 with
 | false => rfl
 | true =>
 have hl2 := ji c4
 rw [wrap_in (n := ((t.length : Nat) : Int) - e.2.1) (by omega) (by omega), wrap_in (n := ((t.length : Nat) : Int) - e.2.1 + ((List.length e.2.2 : Nat) : Int)) (by omega) (by omega)]
 rfl
theorem aht : aV prog I N.OC true ac6 := kD (aW (aY FQ (aY Jq bn)) (l := Z4) (p := []) (ls := []) (lend := []) (focus := false) (fuel := 0) (give := []) (fn := F.OC) (by kernel_rfl) (by kernel_rfl) (by kernel_rfl) (by kernel_rfl) (cs := []) (by kernel_rfl) aK) (aI fun d K h => (amf d.1 d.2.1 K).trans (amg d.1 d.2.1 h K))
end Go.Ev.Seat
end
section
namespace Go.Ev.Seat
open Go.RowKit
set_option maxRecDepth 100000
set_option linter.unusedVariables false
set_option linter.unusedSimpArgs false
noncomputable abbrev Z5 : List (Nat × Plan × List Nat) := [(3, takeB [1, 2, 3, 4, 6, 7, 9, 10, 11, 12, 13, 14, 15] (.fork (.one 0 (.fork (.one 5 (.fork (.one 8 (.fork (.one 16 (takes [17, 18]))))))))), [])]
noncomputable abbrev Z7 : List (Nat × Bool × Sm) := [(N.OC, true, ac6)]
noncomputable abbrev amh : Env := En Z7 Z5 [] [] false 0 []
noncomputable def Ui (t : List Int) (e : ay) (K : aj → Option aj) : Option aj := (bif ((aO t) && (aO e.2.2)) then (bif (!(iC t e)) then K ((.t [(.l .deep ah ([] : List Int)), (.s (.bool false))]), []) else (bif ((decide ((0 : Int) ≤ e.1)) && (decide (e.1 ≤ (((List.length t) : Nat) : Int)))) then (bif ((decide ((0 : Int) ≤ (IntKind.wrap .i64 (e.1 + e.2.1)))) && (decide ((IntKind.wrap .i64 (e.1 + e.2.1)) ≤ (((List.length t) : Nat) : Int)))) then (bif (Nat.ble (((List.length ([] : List Int)) + (List.length (List.take (Int.toNat e.1) t))) * 1) 140737488355328) then (bif (Nat.ble (((List.length (([] : List Int) ++ (List.take (Int.toNat e.1) t))) + (List.length e.2.2)) * 1) 140737488355328) then (bif (Nat.ble (((List.length ((([] : List Int) ++ (List.take (Int.toNat e.1) t)) ++ e.2.2)) + (List.length (List.drop (Int.toNat (IntKind.wrap .i64 (e.1 + e.2.1))) t))) * 1) 140737488355328) then K ((.t [(.l .deep ah (((([] : List Int) ++ (List.take (Int.toNat e.1) t)) ++ e.2.2) ++ (List.drop (Int.toNat (IntKind.wrap .i64 (e.1 + e.2.1))) t))), (.s (.bool true))]), []) else none) else none) else none) else none) else none)) else none)
theorem ami (t : List Int) (e : ay) (K : aj → Option aj) : dL amh true F.OB [.l .no ah t, .a (aB.cells .no e)] K = Ui t e K := by kernel_rfl
def ac7 : Sm := bg [.l ah, .a aB] (fun d => aO d.1 && aO d.2.1.2.2) (fun d => (.t [.l .deep ah (mX d.1 d.2.1), bl (iC d.1 d.2.1)], []))
theorem amj (t : List Int) (e : ay) (h : (aO t && aO e.2.2) = true) (K : aj → Option aj) : Ui t e K = K (.t [.l .deep ah (mX t e), bl (iC t e)], []) := by
 unfold Ui mX
 rw [h]
 cases hk : iC t e with
 | false => rfl
 | true =>
 have q := zO.1 hk
 have r1 := eU q.a
 have r2 := eU q.b
 have c0 := q.c0
 have l1 := ji q.tx
 have l2 := ji q.p
 rw [wrap_in (n := e.1 + e.2.1) (by omega) (by omega), decide_eq_true r1.1, decide_eq_true r1.2, decide_eq_true r2.1, decide_eq_true r2.2]
 have t1 : (List.take (Int.toNat e.1) t).length ≤ 400 := by simp; omega
 have t2 : (List.drop (Int.toNat (e.1 + e.2.1)) t).length ≤ 400 := by simp; omega
 rw [Nat.ble_eq_true_of_le (by simp only [List.length_nil]; omega), Nat.ble_eq_true_of_le (by simp only [List.length_append, List.length_nil]; omega), Nat.ble_eq_true_of_le (by simp only [List.length_append, List.length_nil]; omega)]
 rfl
theorem ahu : aV prog I N.OB true ac7 := kD (aW (aY aht bn) (l := Z7) (p := Z5) (ls := []) (lend := []) (focus := false) (fuel := 0) (give := []) (fn := F.OB) (by kernel_rfl) (by kernel_rfl) (by kernel_rfl) (by kernel_rfl) (cs := []) (by kernel_rfl) aK) (aI fun d K h => (ami d.1 d.2.1 K).trans (amj d.1 d.2.1 h K))
end Go.Ev.Seat
end
section
namespace Go.Ev.Seat
open Go.RowKit
set_option maxRecDepth 100000
set_option linter.unusedVariables false
set_option linter.unusedSimpArgs false
def yF (x1 : List ay) (x5 : Int) (o0 : List Int) : St := { tm := ([.x, (.l .no aB x1), .x, .x, (.w 0), (.s (.int .i64 x5)), (.w 0)] ++ List.replicate 32 .x), ob := [(0, (.arr true true ah o0))], nx := 1, io := [] }
def yG (x1 : List ay) (o0 : List Int) : St := { tm := ([.x, (.l .no aB x1), .x, .x, .x, .x, (.w 0)] ++ List.replicate 32 .x), ob := [(0, (.arr true true ah o0))], nx := 1, io := [] }
def wo : Ss := { tm := (.cons (.x) (.cons (.l .no aB) (.cons (.x) (.cons (.x) (.cons (.x) (.cons (.x) (.cons (.w 0) (.cons (.int .i64) (Fj 31))))))))), ob := (.arr true true ah .nil), nx := 1, io := .nil }
def aaT (x1 : List ay) (x7 : Int) (o0 : List Int) : wo.T := (((), (x1, ((), ((), ((), ((), ((), (x7, xd 31)))))))), (o0, ()), ())
def qF (x1 : List ay) (x7 : Int) (o0 : List Int) : St := { tm := ([.x, (.l .no aB x1), .x, .x, .x, .x, (.w 0), (.s (.int .i64 x7))] ++ List.replicate 31 .x), ob := [(0, (.arr true true ah o0))], nx := 1, io := [] }
theorem Yy (x1 : List ay) (x7 : Int) (o0 : List Int) : wo.mk' (aaT x1 x7 o0) = (qF x1 x7 o0) := by kernel_rfl
def aaU (d : wo.T) (f : (List ay) → Int → (List Int) → Option aj) : Option aj := match d with | ((_, (x1, (_, (_, (_, (_, (_, (x7, _)))))))), (o0, _), _) => f x1 x7 o0
noncomputable def yH (x1 : List ay) (x7 : Int) (o0 : List Int) (lC : (List ay) → Int → (List Int) → Option aj) (k0 : (List ay) → Int → (List Int) → Option aj) (k1 : (List ay) → (List Int) → Option aj) : Option aj := (bif (decide (x7 < (((List.length x1) : Nat) : Int))) then (bif ((decide ((0 : Int) ≤ x7)) && (decide (x7 < (((List.length x1) : Nat) : Int)))) then (bif ((aO o0) && (aO (List.getD x1 (Int.toNat x7) (aB.dflt)).2.2)) then (bif (!(iC o0 (List.getD x1 (Int.toNat x7) (aB.dflt)))) then (k0 x1 x7 o0) else (lC x1 (IntKind.wrap .i64 (x7 + (1 : Int))) (mX o0 (List.getD x1 (Int.toNat x7) (aB.dflt))))) else none) else none) else (k1 x1 o0))
noncomputable def qG : Nat → (List ay) → Int → (List Int) → ((List ay) → Int → (List Int) → Option aj) → ((List ay) → (List Int) → Option aj) → Option aj
 | 0, _, _, _, _, _ => none
 | m + 1, x1, x7, o0, k0, k1 => yH x1 x7 o0 (fun x1 x7 o0 => (qG m x1 x7 o0 k0 k1)) k0 k1
noncomputable def NC (x1 : List ay) (x7 : Int) (o0 : List Int) (k0 : (List ay) → Int → (List Int) → Option aj) (k1 : (List ay) → (List Int) → Option aj) : Option aj := qG (List.length x1 + x7.toNat + List.length o0 + 2) x1 x7 o0 k0 k1
noncomputable def DT : dV := (fun (σ : St) (K : Ex → St → Option aj) => (match wo.un σ with | some d => aaU d (fun x1 x7 o0 => NC x1 x7 o0 (fun x1 x5 o0 => (K .ret (yF x1 x5 o0))) (fun x1 o0 => (K (.ext 0) (yG x1 o0)))) | none => none))
noncomputable abbrev V7 : List (Nat × Bool × Sm) := [(N.Ad, true, Dk), (N.OB, true, ac7)]
noncomputable abbrev PE : Env := En V7 [] [(5, [1,6,7], [1,4,5,6], DT)] [] false 0 []
noncomputable abbrev xJ := rounds (run PE (aS F.nV 5)) [1,6,7] [1,4,5,6]
theorem Yz (m : Nat) (x1 : List ay) (x7 : Int) (o0 : List Int) (K : Ex → St → Option aj) : xJ (m + 1) (qF x1 x7 o0) K = yH x1 x7 o0 (fun x1 x7 o0 => (xJ m (qF x1 x7 o0) K)) (fun x1 x5 o0 => (K .ret (yF x1 x5 o0))) (fun x1 o0 => (K (.ext 0) (yG x1 o0))) := by kernel_rfl
theorem RV (K : Ex → St → Option aj) : ∀ m : Nat, (∀ (x1 : List ay) (x7 : Int) (o0 : List Int), xJ m (qF x1 x7 o0) K = qG m x1 x7 o0 (fun x1 x5 o0 => (K .ret (yF x1 x5 o0))) (fun x1 o0 => (K (.ext 0) (yG x1 o0))))
 | 0 => (fun _ _ _ => rfl)
 | m + 1 => (fun x1 x7 o0 => (by rw [Yz, show (fun x1 x7 o0 => (xJ m (qF x1 x7 o0) K)) = (fun x1 x7 o0 => (qG m x1 x7 o0 (fun x1 x5 o0 => (K .ret (yF x1 x5 o0))) (fun x1 o0 => (K (.ext 0) (yG x1 o0))))) from funext fun x1 => funext fun x7 => funext fun o0 => (RV K m) x1 x7 o0]; rfl))
theorem V8 : dJ PE (aS F.nV 5) := by
 refine dh (n := 5) (F := DT) (by kernel_rfl) rfl (li := [1,6,7]) (lo := [1,4,5,6]) rfl (fun σ K r hr => ?_)
 unfold DT at hr
 split at hr
 ·rename_i d hd
  rw [Ss.dY hd]
  exact ⟨_, ((congrArg (fun z => xJ _ z K) (Yy _ _ _)).trans ((RV K _) _ _ _)).trans hr⟩
 ·cases hr
noncomputable def PG (t : List Int) (l : List ay) (K : aj → Option aj) : Option aj := (bif (aO t) then (bif (!(aT t)) then K ((.t [(.l .deep ah ([] : List Int)), (.s (.int .i64 (-(1 : Int))))]), []) else (bif (Nat.ble (((List.length ([] : List Int)) + (List.length t)) * 1) 140737488355328) then (NC l (0 : Int) (([] : List Int) ++ t) (fun y0 y1 y2 => K ((.t [(.l .deep ah y2), (.s (.int .i64 y1))]), [])) (fun y3 y4 => K ((.t [(.l .deep ah y4), (.s (.int .i64 (((List.length y3) : Nat) : Int)))]), []))) else none)) else none)
theorem ajN (t : List Int) (l : List ay) (K : aj → Option aj) : dL PE true F.nV [.l .no ah t, .l .no aB l] K = PG t l K := by kernel_rfl
def Jr : Sm := bg [.l ah, .l aB] (fun d => aO d.1 && fF (.sl aB) d.2.1) (fun d => (.t [.l .deep ah (aU d.1 d.2.1).1, .s (.int .i64 (aU d.1 d.2.1).2)], []))
theorem ajO (t : List Int) (l : List ay) (h : (aO t && fF (.sl aB) l) = true) (K : aj → Option aj) : PG t l K = K (.t [.l .deep ah (aU t l).1, .s (.int .i64 (aU t l).2)], []) := by
 have h1 := ((Bool.and_eq_true _ _).mp h).1
 have h2 := ((Bool.and_eq_true _ _).mp h).2
 unfold PG aU
 rw [h1]
 cases ht : aT t with
 | false => rfl
 | true =>
 have lt := ji ht
 have hl := dN h2
 rw [Nat.ble_eq_true_of_le (by simp; omega)]
 have q : ∀ (m i : Nat) (o : List Int), aO o = true → i ≤ l.length → l.length - i < m → qG m l ((i : Nat) : Int) o (fun y0 y1 y2 => K ((.t [(.l .deep ah y2), (.s (.int .i64 y1))]), [])) (fun y3 y4 => K ((.t [(.l .deep ah y4), (.s (.int .i64 (((List.length y3) : Nat) : Int)))]), [])) =
   K ((.t [.l .deep ah (fO (l.drop i) o i).1, .s (.int .i64 (((fO (l.drop i) o i).2 : Nat) : Int))]), []) := by
  intro m
  induction m with
  | zero => intro i o _ _ hm; omega
  | succ m ih =>
   intro i o ho hi hm
   show yH l ((i : Nat) : Int) o _ _ _ = _
   unfold yH
   by_cases hlt : i < l.length
   ·have hg : l.getD i aB.dflt = l[i] := getD_lt _ hlt
    have hf : aO (l[i]).2.2 = true := Ey (aX (aX (H8 h2 (List.getElem_mem hlt))))
    have hd : l.drop i = l[i] :: l.drop (i + 1) := (List.getElem_cons_drop hlt).symm
    rw [decide_eq_true (show ((i : Nat) : Int) < ((l.length : Nat) : Int) by omega), decide_eq_true (show (0 : Int) ≤ ((i : Nat) : Int) by omega), Int.toNat_natCast, bW (by omega), ho, hg, hf, hd]
    cases he : iC o l[i] with
    | false => simp only [fO, he]; rfl
    | true =>
     have e1 : mX o l[i] = ZU l[i] o := by unfold mX; rw [he]; rfl
     have := ih (i + 1) (mX o l[i]) (MK ho hf) (by omega) (by omega)
     rw [e1] at this ⊢
     simp only [fO, he]
     exact this
   ·obtain rfl : i = l.length := by omega
    rw [decide_eq_false (show ¬ ((l.length : Nat) : Int) < ((l.length : Nat) : Int) by omega), List.drop_length]; rfl
 refine Eq.trans (q _ 0 t h1 (by omega) (by omega)) ?_
 rw [List.drop_zero]; rfl
theorem JW : aV prog I N.nV true Jr := kD (aW (aY FQ (aY ahu bn)) (l := V7) (p := []) (ls := [(5, [1,6,7], [1,4,5,6], DT)]) (lend := []) (focus := false) (fuel := 0) (give := []) (fn := F.nV) (by kernel_rfl) (by kernel_rfl) (by kernel_rfl) (by kernel_rfl) (cs := [aS F.nV 5]) (by kernel_rfl) (dA V8 aK)) (aI fun d K h => (ajN d.1 d.2.1 K).trans (ajO d.1 d.2.1 h K))
end Go.Ev.Seat
end
section
namespace Go.Ev.Seat
open Go.RowKit
set_option maxRecDepth 100000
set_option linter.unusedVariables false
set_option linter.unusedSimpArgs false
noncomputable abbrev ac8 : Env := En [] [] [] [] false 0 []
noncomputable def Ia (s : Int) (K : aj → Option aj) : Option aj := (bif (decide (s ≥ (1 : Int))) then K ((.s (.bool (decide (s ≤ (8 : Int))))), []) else K ((.s (.bool false)), []))
theorem ac9 (s : Int) (K : aj → Option aj) : dL ac8 true F.Ac [.s (.int .i64 s)] K = Ia s K := by kernel_rfl
def PI : Sm := bg [.i] (fun d => true) (fun d => (bl (lV d.1), []))
theorem ada (s : Int) (K : aj → Option aj) : Ia s K = K (bl (lV s), []) := by
 unfold Ia lV
 rw [show decide (s ≥ 1) = decide (1 ≤ s) from rfl]
 cases decide (1 ≤ s) <;> rfl
theorem YA : aV prog I N.Ac true PI := kD (aW bn (l := []) (p := []) (ls := []) (lend := []) (focus := false) (fuel := 0) (give := []) (fn := F.Ac) (by kernel_rfl) (by kernel_rfl) (by kernel_rfl) (by kernel_rfl) (cs := []) (by kernel_rfl) aK) (aI fun d K h => (ac9 d.1 K).trans (ada d.1 K))
end Go.Ev.Seat
end
section
namespace Go.Ev.Seat
open Go.RowKit
set_option maxRecDepth 100000
set_option linter.unusedVariables false
set_option linter.unusedSimpArgs false
noncomputable abbrev adb : List (Nat × Bool × Sm) := [(N.Jj, true, Lm)]
noncomputable abbrev aoL : Env := En adb [] [] [] false 0 []
noncomputable def YB (t : List Int) (s : aqa) (K : aj → Option aj) : Option aj := (bif (aO t) then (bif (qy t s.1) then (bif (aO t) then K ((.s (.bool (qy t s.2))), []) else none) else K ((.s (.bool false)), [])) else none)
theorem aoM (t : List Int) (s : aqa) (K : aj → Option aj) : dL aoL true F.Vq [.l .no ah t, .a (Yj.cells .no s)] K = YB t s K := by kernel_rfl
def agc : Sm := bg [.l ah, .a Yj] (fun d => aO d.1) (fun d => (bl (qy d.1 d.2.1.1 && qy d.1 d.2.1.2), []))
theorem aoN (t : List Int) (s : aqa) (h : (aO t) = true) (K : aj → Option aj) : YB t s K = K (bl (qy t s.1 && qy t s.2), []) := by
 unfold YB
 rw [h]
 cases qy t s.1 <;> rfl
theorem ajP : aV prog I N.Vq true agc := kD (aW (aY Jq bn) (l := adb) (p := []) (ls := []) (lend := []) (focus := false) (fuel := 0) (give := []) (fn := F.Vq) (by kernel_rfl) (by kernel_rfl) (by kernel_rfl) (by kernel_rfl) (cs := []) (by kernel_rfl) aK) (aI fun d K h => (aoM d.1 d.2.1 K).trans (aoN d.1 d.2.1 h K))
end Go.Ev.Seat
end
section
namespace Go.Ev.Seat
open Go.RowKit
set_option maxRecDepth 100000
set_option linter.unusedVariables false
set_option linter.unusedSimpArgs false
noncomputable abbrev ahv : Env := En [] [] [] [] false 0 []
noncomputable def MV (n : Int) (K : aj → Option aj) : Option aj := (bif (decide (n ≥ (0 : Int))) then K ((.s (.bool (decide (n ≤ (400 : Int))))), []) else K ((.s (.bool false)), []))
theorem ahw (n : Int) (K : aj → Option aj) : dL ahv true F.Hl [.s (.int .i64 n)] K = MV n K := by kernel_rfl
def V9 : Sm := bg [.i] (fun d => true) (fun d => (bl (Nz d.1), []))
theorem ahx (n : Int) (K : aj → Option aj) : MV n K = K (bl (Nz n), []) := by
 unfold MV Nz
 rw [show decide (n ≥ 0) = decide (0 ≤ n) from rfl]
 cases decide (0 ≤ n) <;> rfl
theorem ade : aV prog I N.Hl true V9 := kD (aW bn (l := []) (p := []) (ls := []) (lend := []) (focus := false) (fuel := 0) (give := []) (fn := F.Hl) (by kernel_rfl) (by kernel_rfl) (by kernel_rfl) (by kernel_rfl) (cs := []) (by kernel_rfl) aK) (aI fun d K h => (ahw d.1 K).trans (ahx d.1 K))
end Go.Ev.Seat
end
section
namespace Go.Ev.Seat
open Go.RowKit
set_option maxRecDepth 100000
set_option linter.unusedVariables false
set_option linter.unusedSimpArgs false
noncomputable abbrev RX : List (Nat × Bool × Sm) := [(N.Hl, true, V9)]
noncomputable abbrev ahy : Env := En RX [] [] [] false 0 []
noncomputable def MW (e : ay) (K : aj → Option aj) : Option aj := (bif (Nz e.1) then (bif (Nz e.2.1) then K ((.s (.bool (decide ((((List.length e.2.2) : Nat) : Int) ≤ (400 : Int))))), []) else K ((.s (.bool false)), [])) else K ((.s (.bool false)), []))
theorem ahz (e : ay) (K : aj → Option aj) : dL ahy true F.um [.a (aB.cells .no e)] K = MW e K := by kernel_rfl
def AL : Sm := bg [.a aB] (fun d => true) (fun d => (bl (aZ d.1), []))
theorem ahA (e : ay) (K : aj → Option aj) : MW e K = K (bl (aZ e), []) := by
 unfold MW aZ
 cases Nz e.1 <;> cases Nz e.2.1 <;> rfl
theorem AO : aV prog I N.um true AL := kD (aW (aY ade bn) (l := RX) (p := []) (ls := []) (lend := []) (focus := false) (fuel := 0) (give := []) (fn := F.um) (by kernel_rfl) (by kernel_rfl) (by kernel_rfl) (by kernel_rfl) (cs := []) (by kernel_rfl) aK) (aI fun d K h => (ahz d.1 K).trans (ahA d.1 K))
end Go.Ev.Seat
end
section
namespace Go.Ev.Seat
open Go.RowKit
set_option maxRecDepth 100000
set_option linter.unusedVariables false
set_option linter.unusedSimpArgs false
def AP (x2 : Bool) : St := { tm := ([.x, .x, (.s (.bool x2))] ++ List.replicate 16 .x), ob := [], nx := 0, io := [] }
def AQ : St := { tm := ([] ++ List.replicate 19 .x), ob := [], nx := 0, io := [] }
def yI : Ss := { tm := (.cons (.l .no aB) (.cons (.x) (.cons (.x) (.cons (.int .i64) (Fj 15))))), ob := .nil, nx := 0, io := .nil }
def adf (x0 : List ay) (x3 : Int) : yI.T := ((x0, ((), ((), (x3, xd 15)))), (), ())
def uK (x0 : List ay) (x3 : Int) : St := { tm := ([(.l .no aB x0), .x, .x, (.s (.int .i64 x3))] ++ List.replicate 15 .x), ob := [], nx := 0, io := [] }
theorem aaV (x0 : List ay) (x3 : Int) : yI.mk' (adf x0 x3) = (uK x0 x3) := by kernel_rfl
def adg (d : yI.T) (f : (List ay) → Int → Option aj) : Option aj := match d with | ((x0, (_, (_, (x3, _)))), _, _) => f x0 x3
noncomputable def oG (x0 : List ay) (x3 : Int) (lC : (List ay) → Int → Option aj) (k0 : Bool → Option aj) (k1 : Option aj) : Option aj := (bif (decide (x3 < (((List.length x0) : Nat) : Int))) then (bif ((decide ((0 : Int) ≤ x3)) && (decide (x3 < (((List.length x0) : Nat) : Int)))) then (bif (!(aZ (List.getD x0 (Int.toNat x3) (aB.dflt)))) then (k0 false) else (lC x0 (IntKind.wrap .i64 (x3 + (1 : Int))))) else none) else k1)
noncomputable def uM : Nat → (List ay) → Int → (Bool → Option aj) → (Option aj) → Option aj
 | 0, _, _, _, _ => none
 | m + 1, x0, x3, k0, k1 => oG x0 x3 (fun x0 x3 => (uM m x0 x3 k0 k1)) k0 k1
noncomputable def PK (x0 : List ay) (x3 : Int) (k0 : Bool → Option aj) (k1 : Option aj) : Option aj := uM (List.length x0 + x3.toNat + 2) x0 x3 k0 k1
noncomputable def FU : dV := (fun (σ : St) (K : Ex → St → Option aj) => (match yI.un σ with | some d => adg d (fun x0 x3 => PK x0 x3 (fun x2 => (K .ret (AP x2))) (K (.ext 0) AQ)) | none => none))
noncomputable abbrev Z8 : List (Nat × Bool × Sm) := [(N.um, true, AL)]
noncomputable abbrev Uj : Env := En Z8 [] [(4, [0,3], [2], FU)] [] false 0 []
noncomputable abbrev AU := rounds (run Uj (aS F.Em 4)) [0,3] [2]
theorem aaW (m : Nat) (x0 : List ay) (x3 : Int) (K : Ex → St → Option aj) : AU (m + 1) (uK x0 x3) K = oG x0 x3 (fun x0 x3 => (AU m (uK x0 x3) K)) (fun x2 => (K .ret (AP x2))) (K (.ext 0) AQ) := by kernel_rfl
theorem Wh (K : Ex → St → Option aj) : ∀ m : Nat, (∀ (x0 : List ay) (x3 : Int), AU m (uK x0 x3) K = uM m x0 x3 (fun x2 => (K .ret (AP x2))) (K (.ext 0) AQ))
 | 0 => (fun _ _ => rfl)
 | m + 1 => (fun x0 x3 => (by rw [aaW, show (fun x0 x3 => (AU m (uK x0 x3) K)) = (fun x0 x3 => (uM m x0 x3 (fun x2 => (K .ret (AP x2))) (K (.ext 0) AQ))) from funext fun x0 => funext fun x3 => (Wh K m) x0 x3]; rfl))
theorem YC : dJ Uj (aS F.Em 4) := by
 refine dh (n := 4) (F := FU) (by kernel_rfl) rfl (li := [0,3]) (lo := [2]) rfl (fun σ K r hr => ?_)
 unfold FU at hr
 split at hr
 ·rename_i d hd
  rw [Ss.dY hd]
  exact ⟨_, ((congrArg (fun z => AU _ z K) (aaV _ _)).trans ((Wh K _) _ _)).trans hr⟩
 ·cases hr
noncomputable def Uk (l : List ay) (K : aj → Option aj) : Option aj := (bif (decide ((((List.length l) : Nat) : Int) > (6 : Int))) then K ((.s (.bool false)), []) else (PK l (0 : Int) (fun y0 => K ((.s (.bool y0)), [])) (K ((.s (.bool true)), []))))
theorem amk (l : List ay) (K : aj → Option aj) : dL Uj true F.Em [.l .no aB l] K = Uk l K := by kernel_rfl
def adh : Sm := bg [.l aB] (fun d => Nat.ble d.1.length 1048576) (fun d => (bl (okL d.1), []))
theorem aml (l : List ay) (h : (Nat.ble l.length 1048576) = true) (K : aj → Option aj) : Uk l K = K (bl (okL l), []) := by
 have hl := Nat.le_of_ble_eq_true h
 unfold Uk okL
 by_cases h6 : ((l.length : Nat) : Int) ≤ 6
 case neg => rw [decide_eq_false h6, decide_eq_true (show ((l.length : Nat) : Int) > 6 by omega)]; rfl
 rw [decide_eq_true h6, decide_eq_false (show ¬ ((l.length : Nat) : Int) > 6 by omega)]
 have q := VJ (R := fun m i => uM m l i (fun y0 => K ((.s (.bool y0)), [])) (K ((.s (.bool true)), []))) (p := aZ) (xs := l) (z := aB.dflt) (kt := K ((.s (.bool true)), [])) (kf := K ((.s (.bool false)), [])) (fun m i hi => by
   show oG l ((i : Nat) : Int) _ _ _ = _
   unfold oG
   rw [decide_eq_true (show ((i : Nat) : Int) < ((l.length : Nat) : Int) by omega), decide_eq_true (show (0 : Int) ≤ ((i : Nat) : Int) by omega), Int.toNat_natCast, bW (by omega)]
   cases aZ (l.getD i aB.dflt) <;> rfl) (fun m => by
   show oG l ((l.length : Nat) : Int) _ _ _ = _
   unfold oG
   rw [decide_eq_false (show ¬ ((l.length : Nat) : Int) < ((l.length : Nat) : Int) by omega)]; rfl) (List.length l + (0 : Int).toNat + 2) 0 (by omega) (by omega)
 refine Eq.trans q ?_
 rw [List.drop_zero]
 cases l.all aZ <;> rfl
theorem ahB : aV prog I N.Em true adh := kD (aW (aY AO bn) (l := Z8) (p := []) (ls := [(4, [0,3], [2], FU)]) (lend := []) (focus := false) (fuel := 0) (give := []) (fn := F.Em) (by kernel_rfl) (by kernel_rfl) (by kernel_rfl) (by kernel_rfl) (cs := [aS F.Em 4]) (by kernel_rfl) (dA YC aK)) (aI fun d K h => (amk d.1 K).trans (aml d.1 h K))
end Go.Ev.Seat
end
section
namespace Go.Ev.Seat
open Go.RowKit
set_option maxRecDepth 100000
set_option linter.unusedVariables false
set_option linter.unusedSimpArgs false
noncomputable abbrev Wi : List (Nat × Bool × Sm) := [(N.Em, true, adh)]
noncomputable abbrev ajQ : Env := En Wi [] [] [] false 0 []
noncomputable def PL (s : FK) (K : aj → Option aj) : Option aj := (bif (Nat.ble (List.length s.1) 1048576) then (bif (okL s.1) then (bif (Nat.ble (List.length s.2) 1048576) then K ((.s (.bool (okL s.2))), []) else none) else K ((.s (.bool false)), [])) else none)
theorem ajR (s : FK) (K : aj → Option aj) : dL ajQ true F.KH [.a (gU.cells .no s)] K = PL s K := by kernel_rfl
def Z9 : Sm := bg [.a gU] (fun d => Nat.ble d.1.1.length 1048576 && Nat.ble d.1.2.length 1048576) (fun d => (bl (jH d.1), []))
theorem ajS (s : FK) (h : (Nat.ble s.1.length 1048576 && Nat.ble s.2.length 1048576) = true) (K : aj → Option aj) : PL s K = K (bl (jH s), []) := by
 obtain ⟨h1, h2⟩ := (Bool.and_eq_true _ _).mp h
 unfold PL jH
 rw [h1, h2]
 cases okL s.1 <;> rfl
theorem aeX : aV prog I N.KH true Z9 := kD (aW (aY ahB bn) (l := Wi) (p := []) (ls := []) (lend := []) (focus := false) (fuel := 0) (give := []) (fn := F.KH) (by kernel_rfl) (by kernel_rfl) (by kernel_rfl) (by kernel_rfl) (cs := []) (by kernel_rfl) aK) (aI fun d K h => (ajR d.1 K).trans (ajS d.1 h K))
end Go.Ev.Seat
end
section
namespace Go.Ev.Seat
open Go.RowKit
set_option maxRecDepth 100000
set_option linter.unusedVariables false
set_option linter.unusedSimpArgs false
noncomputable abbrev Wj : List (Nat × Bool × Sm) := [(N.Jj, true, Lm), (N.Ad, true, Dk)]
noncomputable abbrev ajT : Env := En Wj [] [] [] false 0 []
noncomputable def PN (t : List Int) (e : ay) (K : aj → Option aj) : Option aj := (bif (aO t) then (bif (qy t e.1) then (bif (decide (e.2.1 ≥ (0 : Int))) then (bif (decide (e.2.1 ≤ (IntKind.wrap .i64 ((((List.length t) : Nat) : Int) - e.1)))) then (bif (aO t) then (bif (qy t (IntKind.wrap .i64 (e.1 + e.2.1))) then (bif (aO e.2.2) then K ((.s (.bool (aT e.2.2))), []) else none) else K ((.s (.bool false)), [])) else none) else K ((.s (.bool false)), [])) else K ((.s (.bool false)), [])) else K ((.s (.bool false)), [])) else none)
theorem ajU (t : List Int) (e : ay) (K : aj → Option aj) : dL ajT true F.Gp [.l .no ah t, .a (aB.cells .no e)] K = PN t e K := by kernel_rfl
def PO : Sm := bg [.l ah, .a aB] (fun d => aO d.1 && aO d.2.1.2.2 && aT d.1) (fun d => (bl (fE d.1 d.2.1), []))
theorem ajV (t : List Int) (e : ay) (h : (aO t && aO e.2.2 && aT t) = true) (K : aj → Option aj) : PN t e K = K (bl (fE t e), []) := by
 simp only [Bool.and_eq_true] at h
 obtain ⟨⟨h1, h2⟩, h3⟩ := h
 have hl := ji h3
 unfold PN fE qy
 rw [h1, h2, h3, show decide (e.2.1 ≥ 0) = decide (0 ≤ e.2.1) from rfl]
 cases ha : bY t e.1 with
 | false => rfl
 | true =>
  have r1 := eU ha
  by_cases c0 : 0 ≤ e.2.1
  case neg => rw [decide_eq_false c0]; rfl
  rw [decide_eq_true c0, wrap_in (n := ((t.length : Nat) : Int) - e.1) (by omega) (by omega)]
  by_cases c1 : e.2.1 ≤ ((t.length : Nat) : Int) - e.1
  case neg => rw [decide_eq_false c1]; rfl
  rw [decide_eq_true c1, wrap_in (n := e.1 + e.2.1) (by omega) (by omega)]
  cases bY t (e.1 + e.2.1) <;> rfl
theorem RY : aV prog I N.Gp true PO := kD (aW (aY Jq (aY FQ bn)) (l := Wj) (p := []) (ls := []) (lend := []) (focus := false) (fuel := 0) (give := []) (fn := F.Gp) (by kernel_rfl) (by kernel_rfl) (by kernel_rfl) (by kernel_rfl) (cs := []) (by kernel_rfl) aK) (aI fun d K h => (ajU d.1 d.2.1 K).trans (ajV d.1 d.2.1 h K))
end Go.Ev.Seat
end
section
namespace Go.Ev.Seat
open Go.RowKit
set_option maxRecDepth 100000
set_option linter.unusedVariables false
set_option linter.unusedSimpArgs false
def sH (x4 : Bool) : St := { tm := ([.x, .x, .x, .x, (.s (.bool x4))] ++ List.replicate 14 .x), ob := [], nx := 0, io := [] }
def sJ : St := { tm := ([] ++ List.replicate 19 .x), ob := [], nx := 0, io := [] }
def pX : Ss := { tm := (.cons (.l .no ah) (.cons (.l .no aB) (.cons (.x) (.cons (.x) (.cons (.x) (.cons (.int .i64) (Fj 13))))))), ob := .nil, nx := 0, io := .nil }
def Wn (x0 : List Int) (x1 : List ay) (x5 : Int) : pX.T := ((x0, (x1, ((), ((), ((), (x5, xd 13)))))), (), ())
def mY (x0 : List Int) (x1 : List ay) (x5 : Int) : St := { tm := ([(.l .no ah x0), (.l .no aB x1), .x, .x, .x, (.s (.int .i64 x5))] ++ List.replicate 13 .x), ob := [], nx := 0, io := [] }
theorem Ul (x0 : List Int) (x1 : List ay) (x5 : Int) : pX.mk' (Wn x0 x1 x5) = (mY x0 x1 x5) := by kernel_rfl
def Wp (d : pX.T) (f : (List Int) → (List ay) → Int → Option aj) : Option aj := match d with | ((x0, (x1, (_, (_, (_, (x5, _)))))), _, _) => f x0 x1 x5
noncomputable def kF (x0 : List Int) (x1 : List ay) (x5 : Int) (lC : (List Int) → (List ay) → Int → Option aj) (k0 : Bool → Option aj) (k1 : Option aj) : Option aj := (bif (decide (x5 < (((List.length x1) : Nat) : Int))) then (bif ((decide ((0 : Int) ≤ x5)) && (decide (x5 < (((List.length x1) : Nat) : Int)))) then (bif (((aO x0) && (aO (List.getD x1 (Int.toNat x5) (aB.dflt)).2.2)) && (aT x0)) then (bif (!(fE x0 (List.getD x1 (Int.toNat x5) (aB.dflt)))) then (k0 false) else (lC x0 x1 (IntKind.wrap .i64 (x5 + (1 : Int))))) else none) else none) else k1)
noncomputable def mZ : Nat → (List Int) → (List ay) → Int → (Bool → Option aj) → (Option aj) → Option aj
 | 0, _, _, _, _, _ => none
 | m + 1, x0, x1, x5, k0, k1 => kF x0 x1 x5 (fun x0 x1 x5 => (mZ m x0 x1 x5 k0 k1)) k0 k1
noncomputable def Js (x0 : List Int) (x1 : List ay) (x5 : Int) (k0 : Bool → Option aj) (k1 : Option aj) : Option aj := mZ (List.length x0 + List.length x1 + x5.toNat + 2) x0 x1 x5 k0 k1
noncomputable def yJ : dV := (fun (σ : St) (K : Ex → St → Option aj) => (match pX.un σ with | some d => Wp d (fun x0 x1 x5 => Js x0 x1 x5 (fun x4 => (K .ret (sH x4))) (K (.ext 0) sJ)) | none => none))
noncomputable abbrev PS : List (Nat × Bool × Sm) := [(N.Gp, true, PO)]
noncomputable abbrev JX : Env := En PS [] [(2, [0,1,5], [4], yJ)] [] false 0 []
noncomputable abbrev qH := rounds (run JX (aS F.o9 2)) [0,1,5] [4]
theorem Um (m : Nat) (x0 : List Int) (x1 : List ay) (x5 : Int) (K : Ex → St → Option aj) : qH (m + 1) (mY x0 x1 x5) K = kF x0 x1 x5 (fun x0 x1 x5 => (qH m (mY x0 x1 x5) K)) (fun x4 => (K .ret (sH x4))) (K (.ext 0) sJ) := by kernel_rfl
theorem ND (K : Ex → St → Option aj) : ∀ m : Nat, (∀ (x0 : List Int) (x1 : List ay) (x5 : Int), qH m (mY x0 x1 x5) K = mZ m x0 x1 x5 (fun x4 => (K .ret (sH x4))) (K (.ext 0) sJ))
 | 0 => (fun _ _ _ => rfl)
 | m + 1 => (fun x0 x1 x5 => (by rw [Um, show (fun x0 x1 x5 => (qH m (mY x0 x1 x5) K)) = (fun x0 x1 x5 => (mZ m x0 x1 x5 (fun x4 => (K .ret (sH x4))) (K (.ext 0) sJ))) from funext fun x0 => funext fun x1 => funext fun x5 => (ND K m) x0 x1 x5]; rfl))
theorem Rn : dJ JX (aS F.o9 2) := by
 refine dh (n := 2) (F := yJ) (by kernel_rfl) rfl (li := [0,1,5]) (lo := [4]) rfl (fun σ K r hr => ?_)
 unfold yJ at hr
 split at hr
 ·rename_i d hd
  rw [Ss.dY hd]
  exact ⟨_, ((congrArg (fun z => qH _ z K) (Ul _ _ _)).trans ((ND K _) _ _ _)).trans hr⟩
 ·cases hr
noncomputable def JY (t : List Int) (l : List ay) (K : aj → Option aj) : Option aj := (Js t l (0 : Int) (fun y0 => K ((.s (.bool y0)), [])) (K ((.s (.bool true)), [])))
theorem aeY (t : List Int) (l : List ay) (K : aj → Option aj) : dL JX true F.o9 [.l .no ah t, .l .no aB l] K = JY t l K := by kernel_rfl
def RZ : Sm := bg [.l ah, .l aB] (fun d => aO d.1 && fF (.sl aB) d.2.1 && aT d.1) (fun d => (bl (d.2.1.all (fE d.1)), []))
theorem aeZ (t : List Int) (l : List ay) (h : (aO t && fF (.sl aB) l && aT t) = true) (K : aj → Option aj) : JY t l K = K (bl (l.all (fE t)), []) := by
 simp only [Bool.and_eq_true] at h
 obtain ⟨⟨h1, h2⟩, h3⟩ := h
 have hl := dN h2
 unfold JY
 have q := VJ (R := fun m i => mZ m t l i (fun y0 => K ((.s (.bool y0)), [])) (K ((.s (.bool true)), []))) (p := fE t) (xs := l) (z := aB.dflt) (kt := K ((.s (.bool true)), [])) (kf := K ((.s (.bool false)), [])) (fun m i hi => by
   show kF t l ((i : Nat) : Int) _ _ _ = _
   unfold kF
   have f1 : aO (l.getD i aB.dflt).2.2 = true := Ph (vP h2 rfl i)
   rw [decide_eq_true (show ((i : Nat) : Int) < ((l.length : Nat) : Int) by omega), decide_eq_true (show (0 : Int) ≤ ((i : Nat) : Int) by omega), Int.toNat_natCast, bW (by omega), h1, h3, f1]
   cases fE t (l.getD i aB.dflt) <;> rfl) (fun m => by
   show kF t l ((l.length : Nat) : Int) _ _ _ = _
   unfold kF
   rw [decide_eq_false (show ¬ ((l.length : Nat) : Int) < ((l.length : Nat) : Int) by omega)]; rfl) (List.length t + List.length l + (0 : Int).toNat + 2) 0 (by omega) (by omega)
 refine Eq.trans q ?_
 rw [List.drop_zero]
 cases l.all (fE t) <;> rfl
theorem aaX : aV prog I N.o9 true RZ := kD (aW (aY RY bn) (l := PS) (p := []) (ls := [(2, [0,1,5], [4], yJ)]) (lend := []) (focus := false) (fuel := 0) (give := []) (fn := F.o9) (by kernel_rfl) (by kernel_rfl) (by kernel_rfl) (by kernel_rfl) (cs := [aS F.o9 2]) (by kernel_rfl) (dA Rn aK)) (aI fun d K h => (aeY d.1 d.2.1 K).trans (aeZ d.1 d.2.1 h K))
end Go.Ev.Seat
end
section
namespace Go.Ev.Seat
open Go.RowKit
set_option maxRecDepth 100000
set_option linter.unusedVariables false
set_option linter.unusedSimpArgs false
noncomputable abbrev ajW : Env := En [] [] [] [] false 0 []
noncomputable def PU (a : ak) (b : ak) (K : aj → Option aj) : Option aj := (bif (decide (a.1 < b.2.1)) then (bif (decide (b.1 < a.2.1)) then (bif (decide (a.1 < a.2.1)) then K ((.s (.bool (decide (b.1 < b.2.1)))), []) else K ((.s (.bool false)), [])) else K ((.s (.bool false)), [])) else K ((.s (.bool false)), []))
theorem ajX (a : ak) (b : ak) (K : aj → Option aj) : dL ajW true F.KI [.a (aH.cells .no a), .a (aH.cells .no b)] K = PU a b K := by kernel_rfl
def aac : Sm := bg [.a aH, .a aH] (fun d => true) (fun d => (bl (Jp d.1 d.2.1), []))
theorem ajY (a : ak) (b : ak) (K : aj → Option aj) : PU a b K = K (bl (Jp a b), []) := by
 unfold PU
 rw [← al8]
 cases decide (a.1 < b.2.1) <;> cases decide (b.1 < a.2.1) <;> cases decide (a.1 < a.2.1) <;> rfl
theorem ae0 : aV prog I N.KI true aac := kD (aW bn (l := []) (p := []) (ls := []) (lend := []) (focus := false) (fuel := 0) (give := []) (fn := F.KI) (by kernel_rfl) (by kernel_rfl) (by kernel_rfl) (by kernel_rfl) (cs := []) (by kernel_rfl) aK) (aI fun d K h => (ajX d.1 d.2.1 K).trans (ajY d.1 d.2.1 K))
end Go.Ev.Seat
end
section
set_option linter.unusedVariables false
namespace Go.Ev.Seat
open Go.RowKit
theorem AV {l : List aA} (h : fF (.sl aF) l = true) : fF (.sl aB) (bF l) = true := by
 unfold bF
 refine anF (by rw [List.length_map]; exact dN h) (fun x hx => ?_)
 obtain ⟨c, hc, rfl⟩ := List.mem_map.1 hx
 exact ajG (H8 h hc)
theorem Si : ∀ (l : List ay) (t : List Int) (n : Nat), aO t = true → (∀ e ∈ l, aO e.2.2 = true) → aO (fO l t n).1 = true
 | [], t, n, h, _ => h
 | e :: l, t, n, h, hl => by
  simp only [fO]
  cases he : iC t e with
  | false => exact h
  | true =>
   have e1 : mX t e = ZU e t := by unfold mX; rw [he]; rfl
   rw [cond_true]
   exact Si l _ _ (e1 ▸ MK h (hl e List.mem_cons_self)) (fun x hx => hl x (List.mem_cons_of_mem _ hx))
theorem AX {t : List Int} {l : List ay} (h : aO t = true) (hl : fF (.sl aB) l = true) : aO (aU t l).1 = true := by
 unfold aU
 cases aT t with
 | false => rfl
 | true => exact Si l t 0 h (fun e he => Ph (H8 hl he))
theorem wu {d : bT} (h : cZ bH d = true) : aO d.1 = true ∧ aO d.2.1 = true ∧ fF (.sl aF) d.2.2.1 = true ∧ fF (.sl aC) d.2.2.2.2.1 = true ∧ fF (.sl aH) d.2.2.2.2.2 = true :=
 ⟨Ey (kR h), Ey (kR (aX h)), kR (aX (aX h)), kR (aX (aX (aX (aX h)))), aX (aX (aX (aX (aX h))))⟩
theorem adi {m : au} (h : cZ aC m = true) : fF (.sl aB) m.2.2.2.1 = true ∧ fF (.sl aB) m.2.2.2.2 = true :=
 ⟨kR (aX (aX (aX h))), aX (aX (aX (aX h)))⟩
end Go.Ev.Seat
end
section
set_option linter.unusedVariables false
namespace Go.Ev
open Go.RowKit
theorem adk {xs ys : List Int} (h : aP xs ≠ 0) (hl : aP xs ≤ ys.length) (he : ∀ i, i < aP xs → ys.getD i 0 = xs.getD i 0) : aP ys = aP xs := by
 have e0 := he 0 (by omega)
 have l0 : ¬ ys.length = 0 := by omega
 by_cases n0 : xs.length = 0
 ·exact absurd (by unfold aP; rw [if_pos n0]) h
 by_cases a1 : xs.getD 0 0 < 128
 ·have s1 : aP xs = 1 := by unfold aP; rw [if_neg n0, if_pos a1]
  rw [s1]; unfold aP; rw [if_neg l0, e0, if_pos a1]
 by_cases a2 : xs.getD 0 0 < 194
 ·exact absurd (by unfold aP; rw [if_neg n0, if_neg a1, if_pos a2]) h
 by_cases a3 : xs.getD 0 0 < 224
 ·by_cases b : 2 ≤ xs.length ∧ 128 ≤ xs.getD 1 0 ∧ xs.getD 1 0 ≤ 191
  ·have s1 : aP xs = 2 := by unfold aP; rw [if_neg n0, if_neg a1, if_neg a2, if_pos a3, if_pos b]
   have e1 := he 1 (by omega)
   rw [s1]; unfold aP; rw [if_neg l0, e0, if_neg a1, if_neg a2, if_pos a3, e1, if_pos ⟨by omega, b.2⟩]
  ·exact absurd (by unfold aP; rw [if_neg n0, if_neg a1, if_neg a2, if_pos a3, if_neg b]) h
 by_cases a4 : xs.getD 0 0 < 240
 ·by_cases b : 3 ≤ xs.length ∧ lo3 (xs.getD 0 0) ≤ xs.getD 1 0 ∧ xs.getD 1 0 ≤ hi3 (xs.getD 0 0) ∧ 128 ≤ xs.getD 2 0 ∧ xs.getD 2 0 ≤ 191
  ·have s1 : aP xs = 3 := by unfold aP; rw [if_neg n0, if_neg a1, if_neg a2, if_neg a3, if_pos a4, if_pos b]
   have e1 := he 1 (by omega)
   have e2 := he 2 (by omega)
   rw [s1]; unfold aP; rw [if_neg l0, e0, if_neg a1, if_neg a2, if_neg a3, if_pos a4, e1, e2, if_pos ⟨by omega, b.2⟩]
  ·exact absurd (by unfold aP; rw [if_neg n0, if_neg a1, if_neg a2, if_neg a3, if_pos a4, if_neg b]) h
 by_cases a5 : xs.getD 0 0 < 245
 ·by_cases b : 4 ≤ xs.length ∧ lo4 (xs.getD 0 0) ≤ xs.getD 1 0 ∧ xs.getD 1 0 ≤ hi4 (xs.getD 0 0) ∧ 128 ≤ xs.getD 2 0 ∧ xs.getD 2 0 ≤ 191 ∧ 128 ≤ xs.getD 3 0 ∧ xs.getD 3 0 ≤ 191
  ·have s1 : aP xs = 4 := by unfold aP; rw [if_neg n0, if_neg a1, if_neg a2, if_neg a3, if_neg a4, if_pos a5, if_pos b]
   have e1 := he 1 (by omega)
   have e2 := he 2 (by omega)
   have e3 := he 3 (by omega)
   rw [s1]; unfold aP; rw [if_neg l0, e0, if_neg a1, if_neg a2, if_neg a3, if_neg a4, if_pos a5, e1, e2, e3, if_pos ⟨by omega, b.2⟩]
  ·exact absurd (by unfold aP; rw [if_neg n0, if_neg a1, if_neg a2, if_neg a3, if_neg a4, if_pos a5, if_neg b]) h
 ·exact absurd (by unfold aP; rw [if_neg n0, if_neg a1, if_neg a2, if_neg a3, if_neg a4, if_neg a5]) h
theorem aqM {xs ys : List Int} {i : Nat} (h : i < xs.length) : (xs ++ ys).getD i 0 = xs.getD i 0 := by
 rw [List.getD_eq_getElem?_getD, List.getD_eq_getElem?_getD, List.getElem?_append_left h]
theorem getD_take {xs : List Int} {i n : Nat} (h : i < n) : (xs.take n).getD i 0 = xs.getD i 0 := by
 rw [List.getD_eq_getElem?_getD, List.getD_eq_getElem?_getD, List.getElem?_take, if_pos h]
theorem adl {xs : List Int} (h : aP xs ≠ 0) (ys : List Int) : aP (xs ++ ys) = aP xs := by
 have := mG xs
 exact adk h (by rw [List.length_append]; omega) (fun i hi => aqM (by omega))
theorem ajZ {xs : List Int} (h : aP xs ≠ 0) {n : Nat} (hn : aP xs ≤ n) : aP (xs.take n) = aP xs := by
 have := mG xs
 exact adk h (by rw [List.length_take]; omega) (fun i hi => getD_take (by omega))
theorem agd : ∀ (n : Nat) (xs ys : List Int), xs.length ≤ n → valid xs = true → valid (xs ++ ys) = valid ys
 | n, xs, ys, hn, hv => by
  rcases O7 hv with rfl | ⟨h, h2⟩
  ·rfl
  ·have hle := mG xs
   cases n with
   | zero => omega
   | succ n =>
    rw [zx (xs := xs ++ ys) (by rw [adl h]; exact h), adl h, List.drop_append_of_le_length hle]
    exact agd n (xs.drop (aP xs)) ys (by rw [List.length_drop]; omega) h2
theorem Wq {xs ys : List Int} (h1 : valid xs = true) (h2 : valid ys = true) : valid (xs ++ ys) = true := by
 rw [agd xs.length xs ys (Nat.le_refl _) h1, h2]
theorem YD : ∀ (n : Nat) (xs : List Int) (k : Nat), xs.length ≤ n → valid xs = true → bY xs ((k : Nat) : Int) = true → valid (xs.take k) = true ∧ valid (xs.drop k) = true
 | n, xs, k, hn, hv, hk => by
  by_cases k0 : k = 0
  ·subst k0; exact ⟨Q8, hv⟩
  rcases O7 hv with rfl | ⟨h, h2⟩
  ·simp [Q8]
  have hle := mG xs
  obtain ⟨c0, cj⟩ := af8 h
  have hr := eU hk
  cases n with
  | zero => omega
  | succ n =>
   have hks : aP xs ≤ k := by
    rcases Nat.lt_or_ge k (aP xs) with q | q
    ·have := cj k (by omega) q
     unfold bY at hk
     rw [Bool.or_eq_true, beq_iff_eq, Bool.and_eq_true] at hk
     rcases hk with hk | ⟨_, hk⟩
     ·omega
     ·rw [Int.toNat_natCast, this] at hk; cases hk
    ·exact q
   have hk2 : bY (xs.drop (aP xs)) ((k - aP xs : Nat) : Int) = true := by
    unfold bY at hk ⊢
    rw [List.length_drop, getD_drop]
    rw [Bool.or_eq_true, beq_iff_eq, Bool.and_eq_true, Bool.and_eq_true, decide_eq_true_iff, decide_eq_true_iff] at hk ⊢
    rcases hk with hk | ⟨⟨_, hk1⟩, hk2⟩
    ·left; omega
    ·right
     rw [Int.toNat_natCast] at hk2 ⊢
     rw [show aP xs + (k - aP xs) = k by omega]
     exact ⟨⟨by omega, by omega⟩, hk2⟩
   obtain ⟨i1, i2⟩ := YD n (xs.drop (aP xs)) (k - aP xs) (by rw [List.length_drop]; omega) h2 hk2
   refine ⟨?_, ?_⟩
   ·have ht : aP (xs.take k) = aP xs := ajZ h hks
    rw [zx (xs := xs.take k) (by rw [ht]; exact h), ht, List.drop_take]
    exact i1
   ·rw [List.drop_drop, show aP xs + (k - aP xs) = k by omega] at i2
    exact i2
theorem amm {t : List Int} {e : E3} (h : iC t e = true) : aT (ZU e t) = true := by
 have q := zO.1 h
 have r1 := eU q.a
 have r2 := eU q.b
 have hl := ahe r1.1 q.c0 r2.2
 have hx := q.l
 have hv := (pV.1 q.tx).2
 have hp := (pV.1 q.p).2
 refine pV.2 ⟨by omega, ?_⟩
 have a1 := (YD t.length t e.1.toNat (Nat.le_refl _) hv (by rw [Int.toNat_of_nonneg r1.1]; exact q.a)).1
 have a2 := (YD t.length t (e.1 + e.2.1).toNat (Nat.le_refl _) hv (by rw [Int.toNat_of_nonneg r2.1]; exact q.b)).2
 unfold ZU
 exact Wq (Wq a1 hp) a2
theorem NG : ∀ (l : List E3) (t : List Int) (n : Nat), aT t = true → aT (fO l t n).1 = true
 | [], t, n, h => h
 | e :: l, t, n, h => by
  simp only [fO]
  cases he : iC t e with
  | false => exact h
  | true => exact NG l _ _ (amm he)
theorem Ib {t : List Int} (l : List E3) (h : aT t = true) : aT (aU t l).1 = true := by
 unfold aU
 rw [h]; exact NG l t 0 h
end Go.Ev
end
section
set_option linter.unusedVariables false
namespace Go.Ev.Seat
open Go.RowKit
end Go.Ev.Seat
end
section
namespace Go.Ev.Seat
open Go.RowKit
set_option maxRecDepth 100000
set_option linter.unusedVariables false
set_option linter.unusedSimpArgs false
def DU (x2 : Bool) (b00 : List Int) (b01 : List Int) (b02 : List aA) (aJ : Int) (aN : List au) (aQ : List ak) : St := { tm := ([.x, (.pb 0 0), (.s (.bool x2))] ++ List.replicate 184 .x), ob := [(0, (.box [(.l .no ah b00), (.l .no ah b01), (.l .no aF b02), (.s (.int .i64 aJ)), (.l .no aC aN), (.l .no aH aQ)]))], nx := 1, io := [] }
def DV (b00 : List Int) (b01 : List Int) (b02 : List aA) (aJ : Int) (aN : List au) (aQ : List ak) : St := { tm := ([.x, (.pb 0 0)] ++ List.replicate 185 .x), ob := [(0, (.box [(.l .no ah b00), (.l .no ah b01), (.l .no aF b02), (.s (.int .i64 aJ)), (.l .no aC aN), (.l .no aH aQ)]))], nx := 1, io := [] }
def AY : Ss := { tm := (.cons (.x) (.cons (.pb 0 0) (.cons (.x) (.cons (.x) (.cons (.x) (.cons (.int .i64) (Fj 181))))))), ob := (.box (.cons (.l .no ah) (.cons (.l .no ah) (.cons (.l .no aF) (.cons (.int .i64) (.cons (.l .no aC) (.cons (.l .no aH) .nil)))))) .nil), nx := 1, io := .nil }
def ae1 (x5 : Int) (b00 : List Int) (b01 : List Int) (b02 : List aA) (aJ : Int) (aN : List au) (aQ : List ak) : AY.T := (((), ((), ((), ((), ((), (x5, xd 181)))))), ((b00, (b01, (b02, (aJ, (aN, (aQ, ())))))), ()), ())
def xK (x5 : Int) (b00 : List Int) (b01 : List Int) (b02 : List aA) (aJ : Int) (aN : List au) (aQ : List ak) : St := { tm := ([.x, (.pb 0 0), .x, .x, .x, (.s (.int .i64 x5))] ++ List.replicate 181 .x), ob := [(0, (.box [(.l .no ah b00), (.l .no ah b01), (.l .no aF b02), (.s (.int .i64 aJ)), (.l .no aC aN), (.l .no aH aQ)]))], nx := 1, io := [] }
theorem adn (x5 : Int) (b00 : List Int) (b01 : List Int) (b02 : List aA) (aJ : Int) (aN : List au) (aQ : List ak) : AY.mk' (ae1 x5 b00 b01 b02 aJ aN aQ) = (xK x5 b00 b01 b02 aJ aN aQ) := by kernel_rfl
def ae2 (d : AY.T) (f : Int → (List Int) → (List Int) → (List aA) → Int → (List au) → (List ak) → Option aj) : Option aj := match d with | ((_, (_, (_, (_, (_, (x5, _)))))), ((b00, (b01, (b02, (aJ, (aN, (aQ, _)))))), _), _) => f x5 b00 b01 b02 aJ aN aQ
noncomputable def rO (x5 : Int) (b00 : List Int) (b01 : List Int) (b02 : List aA) (aJ : Int) (aN : List au) (aQ : List ak) (lC : Int → (List Int) → (List Int) → (List aA) → Int → (List au) → (List ak) → Option aj) (k0 : Bool → (List Int) → (List Int) → (List aA) → Int → (List au) → (List ak) → Option aj) (k1 : (List Int) → (List Int) → (List aA) → Int → (List au) → (List ak) → Option aj) : Option aj := (bif (decide (x5 < (((List.length b02) : Nat) : Int))) then (bif ((decide ((0 : Int) ≤ x5)) && (decide (x5 < (((List.length b02) : Nat) : Int)))) then (bif (!(lV (List.getD b02 (Int.toNat x5) (aF.dflt)).1)) then (k0 false b00 b01 b02 aJ aN aQ) else (lC (IntKind.wrap .i64 (x5 + (1 : Int))) b00 b01 b02 aJ aN aQ)) else none) else (k1 b00 b01 b02 aJ aN aQ))
noncomputable def xM : Nat → Int → (List Int) → (List Int) → (List aA) → Int → (List au) → (List ak) → (Bool → (List Int) → (List Int) → (List aA) → Int → (List au) → (List ak) → Option aj) → ((List Int) → (List Int) → (List aA) → Int → (List au) → (List ak) → Option aj) → Option aj
 | 0, _, _, _, _, _, _, _, _, _ => none
 | m + 1, x5, b00, b01, b02, aJ, aN, aQ, k0, k1 => rO x5 b00 b01 b02 aJ aN aQ (fun x5 b00 b01 b02 aJ aN aQ => (xM m x5 b00 b01 b02 aJ aN aQ k0 k1)) k0 k1
noncomputable def JZ (x5 : Int) (b00 : List Int) (b01 : List Int) (b02 : List aA) (aJ : Int) (aN : List au) (aQ : List ak) (k0 : Bool → (List Int) → (List Int) → (List aA) → Int → (List au) → (List ak) → Option aj) (k1 : (List Int) → (List Int) → (List aA) → Int → (List au) → (List ak) → Option aj) : Option aj := xM (x5.toNat + List.length b00 + List.length b01 + List.length b02 + aJ.toNat + List.length aN + List.length aQ + 2) x5 b00 b01 b02 aJ aN aQ k0 k1
noncomputable def Jt : dV := (fun (σ : St) (K : Ex → St → Option aj) => (match AY.un σ with | some d => ae2 d (fun x5 b00 b01 b02 aJ aN aQ => JZ x5 b00 b01 b02 aJ aN aQ (fun x2 b00 b01 b02 aJ aN aQ => (K .ret (DU x2 b00 b01 b02 aJ aN aQ))) (fun b00 b01 b02 aJ aN aQ => (K (.ext 0) (DV b00 b01 b02 aJ aN aQ)))) | none => none))
def AZ (x2 : Bool) (b00 : List Int) (b01 : List Int) (b02 : List aA) (aJ : Int) (aN : List au) (aQ : List ak) : St := { tm := ([.x, (.pb 0 0), (.s (.bool x2))] ++ List.replicate 184 .x), ob := [(0, (.box [(.l .no ah b00), (.l .no ah b01), (.l .no aF b02), (.s (.int .i64 aJ)), (.l .no aC aN), (.l .no aH aQ)]))], nx := 1, io := [] }
def A8 (b00 : List Int) (b01 : List Int) (b02 : List aA) (aJ : Int) (aN : List au) (aQ : List ak) : St := { tm := ([.x, (.pb 0 0)] ++ List.replicate 185 .x), ob := [(0, (.box [(.l .no ah b00), (.l .no ah b01), (.l .no aF b02), (.s (.int .i64 aJ)), (.l .no aC aN), (.l .no aH aQ)]))], nx := 1, io := [] }
def yK : Ss := { tm := (.cons (.x) (.cons (.pb 0 0) (.cons (.x) (.cons (.x) (.cons (.x) (.cons (.x) (.cons (.int .i64) (Fj 180)))))))), ob := (.box (.cons (.l .no ah) (.cons (.l .no ah) (.cons (.l .no aF) (.cons (.int .i64) (.cons (.l .no aC) (.cons (.l .no aH) .nil)))))) .nil), nx := 1, io := .nil }
def ado (x6 : Int) (b00 : List Int) (b01 : List Int) (b02 : List aA) (aJ : Int) (aN : List au) (aQ : List ak) : yK.T := (((), ((), ((), ((), ((), ((), (x6, xd 180))))))), ((b00, (b01, (b02, (aJ, (aN, (aQ, ())))))), ()), ())
def uN (x6 : Int) (b00 : List Int) (b01 : List Int) (b02 : List aA) (aJ : Int) (aN : List au) (aQ : List ak) : St := { tm := ([.x, (.pb 0 0), .x, .x, .x, .x, (.s (.int .i64 x6))] ++ List.replicate 180 .x), ob := [(0, (.box [(.l .no ah b00), (.l .no ah b01), (.l .no aF b02), (.s (.int .i64 aJ)), (.l .no aC aN), (.l .no aH aQ)]))], nx := 1, io := [] }
theorem aaY (x6 : Int) (b00 : List Int) (b01 : List Int) (b02 : List aA) (aJ : Int) (aN : List au) (aQ : List ak) : yK.mk' (ado x6 b00 b01 b02 aJ aN aQ) = (uN x6 b00 b01 b02 aJ aN aQ) := by kernel_rfl
def adp (d : yK.T) (f : Int → (List Int) → (List Int) → (List aA) → Int → (List au) → (List ak) → Option aj) : Option aj := match d with | ((_, (_, (_, (_, (_, (_, (x6, _))))))), ((b00, (b01, (b02, (aJ, (aN, (aQ, _)))))), _), _) => f x6 b00 b01 b02 aJ aN aQ
noncomputable def oH (x6 : Int) (b00 : List Int) (b01 : List Int) (b02 : List aA) (aJ : Int) (aN : List au) (aQ : List ak) (lC : Int → (List Int) → (List Int) → (List aA) → Int → (List au) → (List ak) → Option aj) (k0 : Bool → (List Int) → (List Int) → (List aA) → Int → (List au) → (List ak) → Option aj) (k1 : (List Int) → (List Int) → (List aA) → Int → (List au) → (List ak) → Option aj) : Option aj := (bif (decide (x6 < (((List.length aN) : Nat) : Int))) then (bif ((decide ((0 : Int) ≤ x6)) && (decide (x6 < (((List.length aN) : Nat) : Int)))) then (bif (!(lV (List.getD aN (Int.toNat x6) (aC.dflt)).1)) then (k0 false b00 b01 b02 aJ aN aQ) else (bif (decide (x6 > (0 : Int))) then (bif ((decide ((0 : Int) ≤ (IntKind.wrap .i64 (x6 - (1 : Int))))) && (decide ((IntKind.wrap .i64 (x6 - (1 : Int))) < (((List.length aN) : Nat) : Int)))) then (bif (decide ((List.getD aN (Int.toNat (IntKind.wrap .i64 (x6 - (1 : Int)))) (aC.dflt)).1 ≥ (List.getD aN (Int.toNat x6) (aC.dflt)).1)) then (k0 false b00 b01 b02 aJ aN aQ) else (bif (aO b01) then (bif (!((qy b01 (List.getD aN (Int.toNat x6) (aC.dflt)).2.1) && (qy b01 (List.getD aN (Int.toNat x6) (aC.dflt)).2.2.1))) then (k0 false b00 b01 b02 aJ aN aQ) else (bif ((Nat.ble (List.length (List.getD aN (Int.toNat x6) (aC.dflt)).2.2.2.1) 1048576) && (Nat.ble (List.length (List.getD aN (Int.toNat x6) (aC.dflt)).2.2.2.2) 1048576)) then (bif (!(jH (List.getD aN (Int.toNat x6) (aC.dflt)).2.2.2)) then (k0 false b00 b01 b02 aJ aN aQ) else (bif (((aO b01) && (fF (Cc.sl aB) (List.getD aN (Int.toNat x6) (aC.dflt)).2.2.2.1)) && (aT b01)) then (bif (!(List.all (List.getD aN (Int.toNat x6) (aC.dflt)).2.2.2.1 (fE b01))) then (k0 false b00 b01 b02 aJ aN aQ) else (bif (((aO b01) && (fF (Cc.sl aB) (List.getD aN (Int.toNat x6) (aC.dflt)).2.2.2.2)) && (aT b01)) then (bif (!(List.all (List.getD aN (Int.toNat x6) (aC.dflt)).2.2.2.2 (fE b01))) then (k0 false b00 b01 b02 aJ aN aQ) else (lC (IntKind.wrap .i64 (x6 + (1 : Int))) b00 b01 b02 aJ aN aQ)) else none)) else none)) else none)) else none)) else none) else (bif (aO b01) then (bif (!((qy b01 (List.getD aN (Int.toNat x6) (aC.dflt)).2.1) && (qy b01 (List.getD aN (Int.toNat x6) (aC.dflt)).2.2.1))) then (k0 false b00 b01 b02 aJ aN aQ) else (bif ((Nat.ble (List.length (List.getD aN (Int.toNat x6) (aC.dflt)).2.2.2.1) 1048576) && (Nat.ble (List.length (List.getD aN (Int.toNat x6) (aC.dflt)).2.2.2.2) 1048576)) then (bif (!(jH (List.getD aN (Int.toNat x6) (aC.dflt)).2.2.2)) then (k0 false b00 b01 b02 aJ aN aQ) else (bif (((aO b01) && (fF (Cc.sl aB) (List.getD aN (Int.toNat x6) (aC.dflt)).2.2.2.1)) && (aT b01)) then (bif (!(List.all (List.getD aN (Int.toNat x6) (aC.dflt)).2.2.2.1 (fE b01))) then (k0 false b00 b01 b02 aJ aN aQ) else (bif (((aO b01) && (fF (Cc.sl aB) (List.getD aN (Int.toNat x6) (aC.dflt)).2.2.2.2)) && (aT b01)) then (bif (!(List.all (List.getD aN (Int.toNat x6) (aC.dflt)).2.2.2.2 (fE b01))) then (k0 false b00 b01 b02 aJ aN aQ) else (lC (IntKind.wrap .i64 (x6 + (1 : Int))) b00 b01 b02 aJ aN aQ)) else none)) else none)) else none)) else none))) else none) else (k1 b00 b01 b02 aJ aN aQ))
noncomputable def uO : Nat → Int → (List Int) → (List Int) → (List aA) → Int → (List au) → (List ak) → (Bool → (List Int) → (List Int) → (List aA) → Int → (List au) → (List ak) → Option aj) → ((List Int) → (List Int) → (List aA) → Int → (List au) → (List ak) → Option aj) → Option aj
 | 0, _, _, _, _, _, _, _, _, _ => none
 | m + 1, x6, b00, b01, b02, aJ, aN, aQ, k0, k1 => oH x6 b00 b01 b02 aJ aN aQ (fun x6 b00 b01 b02 aJ aN aQ => (uO m x6 b00 b01 b02 aJ aN aQ k0 k1)) k0 k1
noncomputable def Ic (x6 : Int) (b00 : List Int) (b01 : List Int) (b02 : List aA) (aJ : Int) (aN : List au) (aQ : List ak) (k0 : Bool → (List Int) → (List Int) → (List aA) → Int → (List au) → (List ak) → Option aj) (k1 : (List Int) → (List Int) → (List aA) → Int → (List au) → (List ak) → Option aj) : Option aj := uO (x6.toNat + List.length b00 + List.length b01 + List.length b02 + aJ.toNat + List.length aN + List.length aQ + 2) x6 b00 b01 b02 aJ aN aQ k0 k1
noncomputable def FV : dV := (fun (σ : St) (K : Ex → St → Option aj) => (match yK.un σ with | some d => adp d (fun x6 b00 b01 b02 aJ aN aQ => Ic x6 b00 b01 b02 aJ aN aQ (fun x2 b00 b01 b02 aJ aN aQ => (K .ret (AZ x2 b00 b01 b02 aJ aN aQ))) (fun b00 b01 b02 aJ aN aQ => (K (.ext 2) (A8 b00 b01 b02 aJ aN aQ)))) | none => none))
def Ba (x2 : Bool) (x8 : Int) (b00 : List Int) (b01 : List Int) (b02 : List aA) (aJ : Int) (aN : List au) (aQ : List ak) : St := { tm := ([.x, (.pb 0 0), (.s (.bool x2)), .x, .x, .x, .x, .x, (.s (.int .i64 x8))] ++ List.replicate 178 .x), ob := [(0, (.box [(.l .no ah b00), (.l .no ah b01), (.l .no aF b02), (.s (.int .i64 aJ)), (.l .no aC aN), (.l .no aH aQ)]))], nx := 1, io := [] }
def Bc (x8 : Int) (b00 : List Int) (b01 : List Int) (b02 : List aA) (aJ : Int) (aN : List au) (aQ : List ak) : St := { tm := ([.x, (.pb 0 0), .x, .x, .x, .x, .x, .x, (.s (.int .i64 x8))] ++ List.replicate 178 .x), ob := [(0, (.box [(.l .no ah b00), (.l .no ah b01), (.l .no aF b02), (.s (.int .i64 aJ)), (.l .no aC aN), (.l .no aH aQ)]))], nx := 1, io := [] }
def yL : Ss := { tm := (.cons (.x) (.cons (.pb 0 0) (.cons (.x) (.cons (.x) (.cons (.x) (.cons (.x) (.cons (.x) (.cons (.x) (.cons (.int .i64) (.cons (.pb 1 0) (.cons (.int .i64) (Fj 176)))))))))))), ob := (.box (.cons (.l .no ah) (.cons (.l .no ah) (.cons (.l .no aF) (.cons (.int .i64) (.cons (.l .no aC) (.cons (.l .no aH) .nil)))))) (.box (.cons (.int .i64) (.cons (.int .i64) (.cons (.int .i64) (.cons (.int .i64) .nil)))) .nil)), nx := 2, io := .nil }
def adq (x8 : Int) (x10 : Int) (b00 : List Int) (b01 : List Int) (b02 : List aA) (aJ : Int) (aN : List au) (aQ : List ak) (b10 : Int) (b11 : Int) (b12 : Int) (b13 : Int) : yL.T := (((), ((), ((), ((), ((), ((), ((), ((), (x8, ((), (x10, xd 176))))))))))), ((b00, (b01, (b02, (aJ, (aN, (aQ, ())))))), ((b10, (b11, (b12, (b13, ())))), ())), ())
def uP (x8 : Int) (x10 : Int) (b00 : List Int) (b01 : List Int) (b02 : List aA) (aJ : Int) (aN : List au) (aQ : List ak) (b10 : Int) (b11 : Int) (b12 : Int) (b13 : Int) : St := { tm := ([.x, (.pb 0 0), .x, .x, .x, .x, .x, .x, (.s (.int .i64 x8)), (.pb 1 0), (.s (.int .i64 x10))] ++ List.replicate 176 .x), ob := [(0, (.box [(.l .no ah b00), (.l .no ah b01), (.l .no aF b02), (.s (.int .i64 aJ)), (.l .no aC aN), (.l .no aH aQ)])), (1, (.box [(.s (.int .i64 b10)), (.s (.int .i64 b11)), (.s (.int .i64 b12)), (.s (.int .i64 b13))]))], nx := 2, io := [] }
theorem aaZ (x8 : Int) (x10 : Int) (b00 : List Int) (b01 : List Int) (b02 : List aA) (aJ : Int) (aN : List au) (aQ : List ak) (b10 : Int) (b11 : Int) (b12 : Int) (b13 : Int) : yL.mk' (adq x8 x10 b00 b01 b02 aJ aN aQ b10 b11 b12 b13) = (uP x8 x10 b00 b01 b02 aJ aN aQ b10 b11 b12 b13) := by kernel_rfl
def adr (d : yL.T) (f : Int → Int → (List Int) → (List Int) → (List aA) → Int → (List au) → (List ak) → Int → Int → Int → Int → Option aj) : Option aj := match d with | ((_, (_, (_, (_, (_, (_, (_, (_, (x8, (_, (x10, _))))))))))), ((b00, (b01, (b02, (aJ, (aN, (aQ, _)))))), ((b10, (b11, (b12, (b13, _)))), _)), _) => f x8 x10 b00 b01 b02 aJ aN aQ b10 b11 b12 b13
noncomputable def oI (x8 : Int) (x10 : Int) (b00 : List Int) (b01 : List Int) (b02 : List aA) (aJ : Int) (aN : List au) (aQ : List ak) (b10 : Int) (b11 : Int) (b12 : Int) (b13 : Int) (lC : Int → Int → (List Int) → (List Int) → (List aA) → Int → (List au) → (List ak) → Int → Int → Int → Int → Option aj) (k0 : Bool → Int → (List Int) → (List Int) → (List aA) → Int → (List au) → (List ak) → Option aj) (k1 : Int → (List Int) → (List Int) → (List aA) → Int → (List au) → (List ak) → Option aj) : Option aj := (bif (decide (x10 < x8)) then (bif ((decide ((0 : Int) ≤ x10)) && (decide (x10 < (((List.length aQ) : Nat) : Int)))) then (bif ((List.getD aQ (Int.toNat x10) (aH.dflt)).2.2.1 != b12) then (bif ((decide ((0 : Int) ≤ x10)) && (decide (x10 < (((List.length aQ) : Nat) : Int)))) then (bif (Jp (List.getD aQ (Int.toNat x10) (aH.dflt)) (b10, (b11, (b12, b13)))) then (k0 false x8 b00 b01 b02 aJ aN aQ) else (lC x8 (IntKind.wrap .i64 (x10 + (1 : Int))) b00 b01 b02 aJ aN aQ b10 b11 b12 b13)) else none) else (lC x8 (IntKind.wrap .i64 (x10 + (1 : Int))) b00 b01 b02 aJ aN aQ b10 b11 b12 b13)) else none) else (k1 x8 b00 b01 b02 aJ aN aQ))
noncomputable def uQ : Nat → Int → Int → (List Int) → (List Int) → (List aA) → Int → (List au) → (List ak) → Int → Int → Int → Int → (Bool → Int → (List Int) → (List Int) → (List aA) → Int → (List au) → (List ak) → Option aj) → (Int → (List Int) → (List Int) → (List aA) → Int → (List au) → (List ak) → Option aj) → Option aj
 | 0, _, _, _, _, _, _, _, _, _, _, _, _, _, _ => none
 | m + 1, x8, x10, b00, b01, b02, aJ, aN, aQ, b10, b11, b12, b13, k0, k1 => oI x8 x10 b00 b01 b02 aJ aN aQ b10 b11 b12 b13 (fun x8 x10 b00 b01 b02 aJ aN aQ b10 b11 b12 b13 => (uQ m x8 x10 b00 b01 b02 aJ aN aQ b10 b11 b12 b13 k0 k1)) k0 k1
noncomputable def Ie (x8 : Int) (x10 : Int) (b00 : List Int) (b01 : List Int) (b02 : List aA) (aJ : Int) (aN : List au) (aQ : List ak) (b10 : Int) (b11 : Int) (b12 : Int) (b13 : Int) (k0 : Bool → Int → (List Int) → (List Int) → (List aA) → Int → (List au) → (List ak) → Option aj) (k1 : Int → (List Int) → (List Int) → (List aA) → Int → (List au) → (List ak) → Option aj) : Option aj := uQ (x8.toNat + x10.toNat + List.length b00 + List.length b01 + List.length b02 + aJ.toNat + List.length aN + List.length aQ + b10.toNat + b11.toNat + b12.toNat + b13.toNat + 2) x8 x10 b00 b01 b02 aJ aN aQ b10 b11 b12 b13 k0 k1
noncomputable def FW : dV := (fun (σ : St) (K : Ex → St → Option aj) => (match yL.un σ with | some d => adr d (fun x8 x10 b00 b01 b02 aJ aN aQ b10 b11 b12 b13 => Ie x8 x10 b00 b01 b02 aJ aN aQ b10 b11 b12 b13 (fun x2 x8 b00 b01 b02 aJ aN aQ => (K .ret (Ba x2 x8 b00 b01 b02 aJ aN aQ))) (fun x8 b00 b01 b02 aJ aN aQ => (K (.ext 6) (Bc x8 b00 b01 b02 aJ aN aQ)))) | none => none))
def Bd (x2 : Bool) : St := { tm := ([.x, .x, (.s (.bool x2))] ++ List.replicate 184 .x), ob := [], nx := 0, io := [] }
def Bf : St := { tm := ([] ++ List.replicate 187 .x), ob := [], nx := 0, io := [] }
def yM : Ss := { tm := (.cons (.x) (.cons (.pb 0 0) (.cons (.x) (.cons (.x) (.cons (.x) (.cons (.x) (.cons (.x) (.cons (.x) (.cons (.int .i64) (Fj 178)))))))))), ob := (.box (.cons (.l .no ah) (.cons (.l .no ah) (.cons (.l .no aF) (.cons (.int .i64) (.cons (.l .no aC) (.cons (.l .no aH) .nil)))))) .nil), nx := 1, io := .nil }
def ads (x8 : Int) (b00 : List Int) (b01 : List Int) (b02 : List aA) (aJ : Int) (aN : List au) (aQ : List ak) : yM.T := (((), ((), ((), ((), ((), ((), ((), ((), (x8, xd 178))))))))), ((b00, (b01, (b02, (aJ, (aN, (aQ, ())))))), ()), ())
def uS (x8 : Int) (b00 : List Int) (b01 : List Int) (b02 : List aA) (aJ : Int) (aN : List au) (aQ : List ak) : St := { tm := ([.x, (.pb 0 0), .x, .x, .x, .x, .x, .x, (.s (.int .i64 x8))] ++ List.replicate 178 .x), ob := [(0, (.box [(.l .no ah b00), (.l .no ah b01), (.l .no aF b02), (.s (.int .i64 aJ)), (.l .no aC aN), (.l .no aH aQ)]))], nx := 1, io := [] }
theorem aa0 (x8 : Int) (b00 : List Int) (b01 : List Int) (b02 : List aA) (aJ : Int) (aN : List au) (aQ : List ak) : yM.mk' (ads x8 b00 b01 b02 aJ aN aQ) = (uS x8 b00 b01 b02 aJ aN aQ) := by kernel_rfl
def adt (d : yM.T) (f : Int → (List Int) → (List Int) → (List aA) → Int → (List au) → (List ak) → Option aj) : Option aj := match d with | ((_, (_, (_, (_, (_, (_, (_, (_, (x8, _))))))))), ((b00, (b01, (b02, (aJ, (aN, (aQ, _)))))), _), _) => f x8 b00 b01 b02 aJ aN aQ
noncomputable def oJ (x8 : Int) (b00 : List Int) (b01 : List Int) (b02 : List aA) (aJ : Int) (aN : List au) (aQ : List ak) (lC : Int → (List Int) → (List Int) → (List aA) → Int → (List au) → (List ak) → Option aj) (k0 : Bool → Option aj) (k1 : Option aj) : Option aj := (bif (decide (x8 < (((List.length aQ) : Nat) : Int))) then (bif ((decide ((0 : Int) ≤ x8)) && (decide (x8 < (((List.length aQ) : Nat) : Int)))) then (bif (decide ((List.getD aQ (Int.toNat x8) (aH.dflt)).2.2.2 ≤ aJ)) then (k0 false) else (bif (aO b01) then (bif (!(qy b01 (List.getD aQ (Int.toNat x8) (aH.dflt)).1)) then (k0 false) else (bif (aO b01) then (bif (!(qy b01 (List.getD aQ (Int.toNat x8) (aH.dflt)).2.1)) then (k0 false) else (Ie x8 (0 : Int) b00 b01 b02 aJ aN aQ (List.getD aQ (Int.toNat x8) (aH.dflt)).1 (List.getD aQ (Int.toNat x8) (aH.dflt)).2.1 (List.getD aQ (Int.toNat x8) (aH.dflt)).2.2.1 (List.getD aQ (Int.toNat x8) (aH.dflt)).2.2.2 (fun y0 y1 y2 y3 y4 y5 y6 y7 => (k0 y0)) (fun y8 y9 y10 y11 y12 y13 y14 => (lC (IntKind.wrap .i64 (y8 + (1 : Int))) y9 y10 y11 y12 y13 y14)))) else none)) else none)) else none) else k1)
noncomputable def uT : Nat → Int → (List Int) → (List Int) → (List aA) → Int → (List au) → (List ak) → (Bool → Option aj) → (Option aj) → Option aj
 | 0, _, _, _, _, _, _, _, _, _ => none
 | m + 1, x8, b00, b01, b02, aJ, aN, aQ, k0, k1 => oJ x8 b00 b01 b02 aJ aN aQ (fun x8 b00 b01 b02 aJ aN aQ => (uT m x8 b00 b01 b02 aJ aN aQ k0 k1)) k0 k1
noncomputable def Ig (x8 : Int) (b00 : List Int) (b01 : List Int) (b02 : List aA) (aJ : Int) (aN : List au) (aQ : List ak) (k0 : Bool → Option aj) (k1 : Option aj) : Option aj := uT (x8.toNat + List.length b00 + List.length b01 + List.length b02 + aJ.toNat + List.length aN + List.length aQ + 2) x8 b00 b01 b02 aJ aN aQ k0 k1
noncomputable def FX : dV := (fun (σ : St) (K : Ex → St → Option aj) => (match yM.un σ with | some d => adt d (fun x8 b00 b01 b02 aJ aN aQ => Ig x8 b00 b01 b02 aJ aN aQ (fun x2 => (K .ret (Bd x2))) (K (.ext 4) Bf)) | none => none))
noncomputable abbrev adu : List (Nat × Plan × List Nat) := [(3, takeB [0, 1, 2] (.fork (.one 3 (.fork (.one 4 (takes [5, 6, 7, 8, 9]))))), []), (15, takeB [0, 1] (.fork (.one 2 (takeB [3, 4, 5, 6, 7, 8, 9, 10, 11, 12, 13, 14, 15, 16, 17, 18, 19, 20, 21, 22, 23, 24] (.fork (.one 25 (takeB [26, 27, 28, 29, 30] (.fork (.one 31 (takes [32, 33]))))))))), []), (28, takeB [0, 1, 2, 3, 4, 5, 6, 7, 8, 9, 10, 11, 12, 13, 14, 15] (.fork (.one 16 (takes [17]))), [])]
noncomputable abbrev adv : List (Nat × Bool × Sm) := [(N.GK, true, VN), (N.uj, true, VT), (N.qo, false, H9), (N.nV, true, Jr), (N.Ac, true, PI), (N.Vq, true, agc), (N.KH, true, Z9), (N.o9, true, RZ), (N.Jj, true, Lm), (N.KI, true, aac)]
noncomputable abbrev wz : Env := En adv adu [(7, [1,5], [1,2], Jt), (12, [1,6], [1,2], FV), (26, [1,8,9,10], [1,2,8], FW), (20, [1,8], [2], FX)] [] false 0 []
noncomputable abbrev Ez := rounds (run wz (aS F.lU 7)) [1,5] [1,2]
theorem adw (m : Nat) (x5 : Int) (b00 : List Int) (b01 : List Int) (b02 : List aA) (aJ : Int) (aN : List au) (aQ : List ak) (K : Ex → St → Option aj) : Ez (m + 1) (xK x5 b00 b01 b02 aJ aN aQ) K = rO x5 b00 b01 b02 aJ aN aQ (fun x5 b00 b01 b02 aJ aN aQ => (Ez m (xK x5 b00 b01 b02 aJ aN aQ) K)) (fun x2 b00 b01 b02 aJ aN aQ => (K .ret (DU x2 b00 b01 b02 aJ aN aQ))) (fun b00 b01 b02 aJ aN aQ => (K (.ext 0) (DV b00 b01 b02 aJ aN aQ))) := by kernel_rfl
theorem aad (K : Ex → St → Option aj) : ∀ m : Nat, (∀ (x5 : Int) (b00 : List Int) (b01 : List Int) (b02 : List aA) (aJ : Int) (aN : List au) (aQ : List ak), Ez m (xK x5 b00 b01 b02 aJ aN aQ) K = xM m x5 b00 b01 b02 aJ aN aQ (fun x2 b00 b01 b02 aJ aN aQ => (K .ret (DU x2 b00 b01 b02 aJ aN aQ))) (fun b00 b01 b02 aJ aN aQ => (K (.ext 0) (DV b00 b01 b02 aJ aN aQ))))
 | 0 => (fun _ _ _ _ _ _ _ => rfl)
 | m + 1 => (fun x5 b00 b01 b02 aJ aN aQ => (by rw [adw, show (fun x5 b00 b01 b02 aJ aN aQ => (Ez m (xK x5 b00 b01 b02 aJ aN aQ) K)) = (fun x5 b00 b01 b02 aJ aN aQ => (xM m x5 b00 b01 b02 aJ aN aQ (fun x2 b00 b01 b02 aJ aN aQ => (K .ret (DU x2 b00 b01 b02 aJ aN aQ))) (fun b00 b01 b02 aJ aN aQ => (K (.ext 0) (DV b00 b01 b02 aJ aN aQ))))) from funext fun x5 => funext fun b00 => funext fun b01 => funext fun b02 => funext fun aJ => funext fun aN => funext fun aQ => (aad K m) x5 b00 b01 b02 aJ aN aQ]; rfl))
theorem aa1 : dJ wz (aS F.lU 7) := by
 refine dh (n := 7) (F := Jt) (by kernel_rfl) rfl (li := [1,5]) (lo := [1,2]) rfl (fun σ K r hr => ?_)
 unfold Jt at hr
 split at hr
 ·rename_i d hd
  rw [Ss.dY hd]
  exact ⟨_, ((congrArg (fun z => Ez _ z K) (adn _ _ _ _ _ _ _)).trans ((aad K _) _ _ _ _ _ _ _)).trans hr⟩
 ·cases hr
noncomputable abbrev Bg := rounds (run wz (aS F.lU 12)) [1,6] [1,2]
theorem aa2 (m : Nat) (x6 : Int) (b00 : List Int) (b01 : List Int) (b02 : List aA) (aJ : Int) (aN : List au) (aQ : List ak) (K : Ex → St → Option aj) : Bg (m + 1) (uN x6 b00 b01 b02 aJ aN aQ) K = oH x6 b00 b01 b02 aJ aN aQ (fun x6 b00 b01 b02 aJ aN aQ => (Bg m (uN x6 b00 b01 b02 aJ aN aQ) K)) (fun x2 b00 b01 b02 aJ aN aQ => (K .ret (AZ x2 b00 b01 b02 aJ aN aQ))) (fun b00 b01 b02 aJ aN aQ => (K (.ext 2) (A8 b00 b01 b02 aJ aN aQ))) := by kernel_rfl
theorem Ws (K : Ex → St → Option aj) : ∀ m : Nat, (∀ (x6 : Int) (b00 : List Int) (b01 : List Int) (b02 : List aA) (aJ : Int) (aN : List au) (aQ : List ak), Bg m (uN x6 b00 b01 b02 aJ aN aQ) K = uO m x6 b00 b01 b02 aJ aN aQ (fun x2 b00 b01 b02 aJ aN aQ => (K .ret (AZ x2 b00 b01 b02 aJ aN aQ))) (fun b00 b01 b02 aJ aN aQ => (K (.ext 2) (A8 b00 b01 b02 aJ aN aQ))))
 | 0 => (fun _ _ _ _ _ _ _ => rfl)
 | m + 1 => (fun x6 b00 b01 b02 aJ aN aQ => (by rw [aa2, show (fun x6 b00 b01 b02 aJ aN aQ => (Bg m (uN x6 b00 b01 b02 aJ aN aQ) K)) = (fun x6 b00 b01 b02 aJ aN aQ => (uO m x6 b00 b01 b02 aJ aN aQ (fun x2 b00 b01 b02 aJ aN aQ => (K .ret (AZ x2 b00 b01 b02 aJ aN aQ))) (fun b00 b01 b02 aJ aN aQ => (K (.ext 2) (A8 b00 b01 b02 aJ aN aQ))))) from funext fun x6 => funext fun b00 => funext fun b01 => funext fun b02 => funext fun aJ => funext fun aN => funext fun aQ => (Ws K m) x6 b00 b01 b02 aJ aN aQ]; rfl))
theorem YE : dJ wz (aS F.lU 12) := by
 refine dh (n := 12) (F := FV) (by kernel_rfl) rfl (li := [1,6]) (lo := [1,2]) rfl (fun σ K r hr => ?_)
 unfold FV at hr
 split at hr
 ·rename_i d hd
  rw [Ss.dY hd]
  exact ⟨_, ((congrArg (fun z => Bg _ z K) (aaY _ _ _ _ _ _ _)).trans ((Ws K _) _ _ _ _ _ _ _)).trans hr⟩
 ·cases hr
noncomputable abbrev Bh := rounds (run wz (aS F.lU 26)) [1,8,9,10] [1,2,8]
theorem aa3 (m : Nat) (x8 : Int) (x10 : Int) (b00 : List Int) (b01 : List Int) (b02 : List aA) (aJ : Int) (aN : List au) (aQ : List ak) (b10 : Int) (b11 : Int) (b12 : Int) (b13 : Int) (K : Ex → St → Option aj) : Bh (m + 1) (uP x8 x10 b00 b01 b02 aJ aN aQ b10 b11 b12 b13) K = oI x8 x10 b00 b01 b02 aJ aN aQ b10 b11 b12 b13 (fun x8 x10 b00 b01 b02 aJ aN aQ b10 b11 b12 b13 => (Bh m (uP x8 x10 b00 b01 b02 aJ aN aQ b10 b11 b12 b13) K)) (fun x2 x8 b00 b01 b02 aJ aN aQ => (K .ret (Ba x2 x8 b00 b01 b02 aJ aN aQ))) (fun x8 b00 b01 b02 aJ aN aQ => (K (.ext 6) (Bc x8 b00 b01 b02 aJ aN aQ))) := by kernel_rfl
theorem Wu (K : Ex → St → Option aj) : ∀ m : Nat, (∀ (x8 : Int) (x10 : Int) (b00 : List Int) (b01 : List Int) (b02 : List aA) (aJ : Int) (aN : List au) (aQ : List ak) (b10 : Int) (b11 : Int) (b12 : Int) (b13 : Int), Bh m (uP x8 x10 b00 b01 b02 aJ aN aQ b10 b11 b12 b13) K = uQ m x8 x10 b00 b01 b02 aJ aN aQ b10 b11 b12 b13 (fun x2 x8 b00 b01 b02 aJ aN aQ => (K .ret (Ba x2 x8 b00 b01 b02 aJ aN aQ))) (fun x8 b00 b01 b02 aJ aN aQ => (K (.ext 6) (Bc x8 b00 b01 b02 aJ aN aQ))))
 | 0 => (fun _ _ _ _ _ _ _ _ _ _ _ _ => rfl)
 | m + 1 => (fun x8 x10 b00 b01 b02 aJ aN aQ b10 b11 b12 b13 => (by rw [aa3, show (fun x8 x10 b00 b01 b02 aJ aN aQ b10 b11 b12 b13 => (Bh m (uP x8 x10 b00 b01 b02 aJ aN aQ b10 b11 b12 b13) K)) = (fun x8 x10 b00 b01 b02 aJ aN aQ b10 b11 b12 b13 => (uQ m x8 x10 b00 b01 b02 aJ aN aQ b10 b11 b12 b13 (fun x2 x8 b00 b01 b02 aJ aN aQ => (K .ret (Ba x2 x8 b00 b01 b02 aJ aN aQ))) (fun x8 b00 b01 b02 aJ aN aQ => (K (.ext 6) (Bc x8 b00 b01 b02 aJ aN aQ))))) from funext fun x8 => funext fun x10 => funext fun b00 => funext fun b01 => funext fun b02 => funext fun aJ => funext fun aN => funext fun aQ => funext fun b10 => funext fun b11 => funext fun b12 => funext fun b13 => (Wu K m) x8 x10 b00 b01 b02 aJ aN aQ b10 b11 b12 b13]; rfl))
theorem YF : dJ wz (aS F.lU 26) := by
 refine dh (n := 26) (F := FW) (by kernel_rfl) rfl (li := [1,8,9,10]) (lo := [1,2,8]) rfl (fun σ K r hr => ?_)
 unfold FW at hr
 split at hr
 ·rename_i d hd
  rw [Ss.dY hd]
  exact ⟨_, ((congrArg (fun z => Bh _ z K) (aaZ _ _ _ _ _ _ _ _ _ _ _ _)).trans ((Wu K _) _ _ _ _ _ _ _ _ _ _ _ _)).trans hr⟩
 ·cases hr
noncomputable abbrev Bj := rounds (run wz (aS F.lU 20)) [1,8] [2]
theorem aa4 (m : Nat) (x8 : Int) (b00 : List Int) (b01 : List Int) (b02 : List aA) (aJ : Int) (aN : List au) (aQ : List ak) (K : Ex → St → Option aj) : Bj (m + 1) (uS x8 b00 b01 b02 aJ aN aQ) K = oJ x8 b00 b01 b02 aJ aN aQ (fun x8 b00 b01 b02 aJ aN aQ => (Bj m (uS x8 b00 b01 b02 aJ aN aQ) K)) (fun x2 => (K .ret (Bd x2))) (K (.ext 4) Bf) := by kernel_rfl
theorem Wv (K : Ex → St → Option aj) : ∀ m : Nat, (∀ (x8 : Int) (b00 : List Int) (b01 : List Int) (b02 : List aA) (aJ : Int) (aN : List au) (aQ : List ak), Bj m (uS x8 b00 b01 b02 aJ aN aQ) K = uT m x8 b00 b01 b02 aJ aN aQ (fun x2 => (K .ret (Bd x2))) (K (.ext 4) Bf))
 | 0 => (fun _ _ _ _ _ _ _ => rfl)
 | m + 1 => (fun x8 b00 b01 b02 aJ aN aQ => (by rw [aa4, show (fun x8 b00 b01 b02 aJ aN aQ => (Bj m (uS x8 b00 b01 b02 aJ aN aQ) K)) = (fun x8 b00 b01 b02 aJ aN aQ => (uT m x8 b00 b01 b02 aJ aN aQ (fun x2 => (K .ret (Bd x2))) (K (.ext 4) Bf))) from funext fun x8 => funext fun b00 => funext fun b01 => funext fun b02 => funext fun aJ => funext fun aN => funext fun aQ => (Wv K m) x8 b00 b01 b02 aJ aN aQ]; rfl))
theorem YG : dJ wz (aS F.lU 20) := by
 refine dh (n := 20) (F := FX) (by kernel_rfl) rfl (li := [1,8]) (lo := [2]) rfl (fun σ K r hr => ?_)
 unfold FX at hr
 split at hr
 ·rename_i d hd
  rw [Ss.dY hd]
  exact ⟨_, ((congrArg (fun z => Bj _ z K) (aa0 _ _ _ _ _ _ _)).trans ((Wv K _) _ _ _ _ _ _ _)).trans hr⟩
 ·cases hr
noncomputable def YH (d : bT) (K : aj → Option aj) : Option aj := (bif (decide ((((List.length d.2.2.1) : Nat) : Int) > (60 : Int))) then K ((.s (.bool false)), []) else (bif (!(JU d.2.2.2.1)) then K ((.s (.bool false)), []) else (bif (decide ((((List.length d.2.2.2.2.1) : Nat) : Int) > (8 : Int))) then K ((.s (.bool false)), []) else (bif (Nat.ble (List.length d.2.2.2.2.2) 1048576) then (bif (!(oq d.2.2.2.2.2)) then K ((.s (.bool false)), []) else (bif (Nat.ble (List.length d.2.2.1) 1048576) then (bif ((aO d.1) && (fF (Cc.sl aB) (bF d.2.2.1))) then (bif ((aU d.1 (bF d.2.2.1)).2 != (((List.length d.2.2.1) : Nat) : Int)) then K ((.s (.bool false)), []) else (bif (!((ByteArray.toList (lW (aU d.1 (bF d.2.2.1)).1)) == (ByteArray.toList (lW d.2.1)))) then K ((.s (.bool false)), []) else (JZ (0 : Int) d.1 d.2.1 d.2.2.1 d.2.2.2.1 d.2.2.2.2.1 d.2.2.2.2.2 (fun y15 y16 y17 y18 y19 y20 y21 => K ((.s (.bool y15)), [])) (fun y22 y23 y24 y25 y26 y27 => (Ic (0 : Int) y22 y23 y24 y25 y26 y27 (fun y28 y29 y30 y31 y32 y33 y34 => K ((.s (.bool y28)), [])) (fun y35 y36 y37 y38 y39 y40 => (Ig (0 : Int) y35 y36 y37 y38 y39 y40 (fun y41 => K ((.s (.bool y41)), [])) (K ((.s (.bool true)), []))))))))) else none) else none)) else none))))
theorem aoO (d : bT) (K : aj → Option aj) : dL wz true F.lU [.a (bH.cells .no d)] K = YH d K := by kernel_rfl
def YI : Sm := bg [.a bH] (fun d => cZ bH d.1) (fun d => (bl (jk d.1), []))
theorem aoP (d : bT) (h : (cZ bH d) = true) (K : aj → Option aj) : YH d K = K (bl (jk d), []) := by
 obtain ⟨st, tx, lg, ck, mb, ls⟩ := d
 obtain ⟨h1, h2, h3, h4, h5⟩ := wu h
 have h1 : aO st = true := h1
 have h2 : aO tx = true := h2
 have h3 : fF (.sl aF) lg = true := h3
 have h4 : fF (.sl aC) mb = true := h4
 have h5 : fF (.sl aH) ls = true := h5
 have n3 := dN h3
 have n4 := dN h4
 have n5 := dN h5
 have ar2 := AV h3
 have hT : ((aU st (bF lg)).2 == ((lg.length : Nat) : Int)) = true → aT st = true := fun q => by
  cases ht : aT st with
  | true => rfl
  | false =>
   have : (aU st (bF lg)).2 = -1 := by unfold aU; rw [ht]; rfl
   rw [this, beq_iff_eq] at q; omega
 have q7 : ∀ (k0 : Bool → (List Int) → (List Int) → (List aA) → Int → (List au) → (List ak) → Option aj) (k1 : (List Int) → (List Int) → (List aA) → Int → (List au) → (List ak) → Option aj), JZ 0 st tx lg ck mb ls k0 k1 = bif lg.all (fun c => lV c.1) then k1 st tx lg ck mb ls else k0 false st tx lg ck mb ls := by
  intro k0 k1
  refine Eq.trans (VJ (R := fun m i => xM m i st tx lg ck mb ls k0 k1) (p := fun c : aA => lV c.1) (xs := lg) (z := aF.dflt) (kt := k1 st tx lg ck mb ls) (kf := k0 false st tx lg ck mb ls) (fun m i hi => by
   show rO ((i : Nat) : Int) st tx lg ck mb ls _ _ _ = _
   unfold rO
   rw [decide_eq_true (show ((i : Nat) : Int) < ((lg.length : Nat) : Int) by omega), decide_eq_true (show (0 : Int) ≤ ((i : Nat) : Int) by omega), Int.toNat_natCast, bW (by omega)]
   cases lV (lg.getD i aF.dflt).1 <;> rfl) (fun m => by
   show rO ((lg.length : Nat) : Int) st tx lg ck mb ls _ _ _ = _
   unfold rO
   rw [decide_eq_false (show ¬ ((lg.length : Nat) : Int) < ((lg.length : Nat) : Int) by omega)]; rfl) _ 0 (by omega) (by omega)) ?_
  rw [List.drop_zero]
 have q12 : aT tx = true → ∀ (k0 : Bool → (List Int) → (List Int) → (List aA) → Int → (List au) → (List ak) → Option aj) (k1 : (List Int) → (List Int) → (List aA) → Int → (List au) → (List ak) → Option aj), Ic 0 st tx lg ck mb ls k0 k1 = bif Ar mb.length (ou tx mb) then k1 st tx lg ck mb ls else k0 false st tx lg ck mb ls := by
  intro hx k0 k1
  refine Eq.trans (Aq (R := fun m i => uO m i st tx lg ck mb ls k0 k1) (p := ou tx mb) (n := mb.length) (kt := k1 st tx lg ck mb ls) (kf := k0 false st tx lg ck mb ls) (fun m i hi => by
   show oH ((i : Nat) : Int) st tx lg ck mb ls _ _ _ = _
   unfold oH ou abR qy
   have hf := adi (m := mb.getD i zQ) (vP h4 rfl i)
   rw [decide_eq_true (show ((i : Nat) : Int) < ((mb.length : Nat) : Int) by omega), decide_eq_true (show (0 : Int) ≤ ((i : Nat) : Int) by omega), Int.toNat_natCast, bW (by omega), show mb.getD i aC.dflt = mb.getD i zQ from rfl, h2, hx]
   generalize mb.getD i zQ = x at *
   have n1 := dN hf.1
   have n2 := dN hf.2
   rw [hf.1, hf.2, Nat.ble_eq_true_of_le n1, Nat.ble_eq_true_of_le n2]
   cases i with
   | zero =>
    rw [decide_eq_false (show ¬ ((0 : Nat) : Int) > 0 by omega)]
    cases lV x.1
    ·rfl
    cases bY tx x.2.1
    ·rfl
    cases bY tx x.2.2.1
    ·rfl
    cases jH x.2.2.2
    ·rfl
    cases List.all x.2.2.2.1 (fE tx) <;> cases List.all x.2.2.2.2 (fE tx) <;> rfl
   | succ i =>
    rw [wrap_in (n := ((i + 1 : Nat) : Int) - 1) (by omega) (by omega), decide_eq_true (show ((i + 1 : Nat) : Int) > 0 by omega), show ((i + 1 : Nat) : Int) - 1 = ((i : Nat) : Int) by omega, decide_eq_true (show (0 : Int) ≤ ((i : Nat) : Int) by omega), decide_eq_true (show ((i : Nat) : Int) < ((mb.length : Nat) : Int) by omega), Int.toNat_natCast, show i + 1 - 1 = i from rfl, show mb.getD i aC.dflt = mb.getD i zQ from rfl]
    cases lV x.1
    ·rfl
    by_cases a3 : (mb.getD i zQ).1 < x.1
    ·rw [decide_eq_true a3, decide_eq_false (show ¬ (mb.getD i zQ).1 ≥ x.1 from Int.not_le.2 a3)]
     cases bY tx x.2.1
     ·rfl
     cases bY tx x.2.2.1
     ·rfl
     cases jH x.2.2.2
     ·rfl
     cases List.all x.2.2.2.1 (fE tx) <;> cases List.all x.2.2.2.2 (fE tx) <;> rfl
    ·rw [decide_eq_false a3, decide_eq_true (show (mb.getD i zQ).1 ≥ x.1 from Int.not_lt.1 a3), show Nat.beq (i + 1) 0 = false from rfl, Bool.or_self, Bool.and_false]; rfl) (fun m => by
   show oH ((mb.length : Nat) : Int) st tx lg ck mb ls _ _ _ = _
   unfold oH
   rw [decide_eq_false (show ¬ ((mb.length : Nat) : Int) < ((mb.length : Nat) : Int) by omega)]; rfl) _ 0 (by omega) (by omega)) ?_
  rw [Nat.sub_zero]; rfl
 have q26 : ∀ (i : Nat) (hi : i < ls.length) (y : ak) (k0 : Bool → Int → (List Int) → (List Int) → (List aA) → Int → (List au) → (List ak) → Option aj) (k1 : Int → (List Int) → (List Int) → (List aA) → Int → (List au) → (List ak) → Option aj), Ie ((i : Nat) : Int) 0 st tx lg ck mb ls y.1 y.2.1 y.2.2.1 y.2.2.2 k0 k1 =
   bif Ar i (fun k => !(((ls.getD k fA).2.2.1 != y.2.2.1) && Jp (ls.getD k fA) y)) then k1 ((i : Nat) : Int) st tx lg ck mb ls else k0 false ((i : Nat) : Int) st tx lg ck mb ls := by
  intro i hi y k0 k1
  refine Eq.trans (Aq (R := fun m j => uQ m ((i : Nat) : Int) j st tx lg ck mb ls y.1 y.2.1 y.2.2.1 y.2.2.2 k0 k1) (p := fun k => !(((ls.getD k fA).2.2.1 != y.2.2.1) && Jp (ls.getD k fA) y)) (n := i) (kt := k1 ((i : Nat) : Int) st tx lg ck mb ls) (kf := k0 false ((i : Nat) : Int) st tx lg ck mb ls) (fun m j hj => by
   show oI ((i : Nat) : Int) ((j : Nat) : Int) st tx lg ck mb ls y.1 y.2.1 y.2.2.1 y.2.2.2 _ _ _ = _
   unfold oI
   rw [decide_eq_true (show ((j : Nat) : Int) < ((i : Nat) : Int) by omega), decide_eq_true (show (0 : Int) ≤ ((j : Nat) : Int) by omega), decide_eq_true (show ((j : Nat) : Int) < ((ls.length : Nat) : Int) by omega), Int.toNat_natCast, bW (by omega), show ls.getD j aH.dflt = ls.getD j fA from rfl, show (y.1, (y.2.1, (y.2.2.1, y.2.2.2))) = y from rfl]
   cases ((ls.getD j fA).2.2.1 != y.2.2.1) <;> cases Jp (ls.getD j fA) y <;> rfl) (fun m => by
   show oI ((i : Nat) : Int) ((i : Nat) : Int) st tx lg ck mb ls y.1 y.2.1 y.2.2.1 y.2.2.2 _ _ _ = _
   unfold oI
   rw [decide_eq_false (show ¬ ((i : Nat) : Int) < ((i : Nat) : Int) by omega)]; rfl) _ 0 (by omega) (by omega)) ?_
  rw [Nat.sub_zero]; rfl
 have q20 : aT tx = true → ∀ (k0 : Bool → Option aj) (k1 : Option aj), Ig 0 st tx lg ck mb ls k0 k1 = bif Ar ls.length (FM tx ck ls) then k1 else k0 false := by
  intro hx k0 k1
  refine Eq.trans (Aq (R := fun m i => uT m i st tx lg ck mb ls k0 k1) (p := FM tx ck ls) (n := ls.length) (kt := k1) (kf := k0 false) (fun m i hi => by
   show oJ ((i : Nat) : Int) st tx lg ck mb ls _ _ _ = _
   unfold oJ FM qy
   rw [decide_eq_true (show ((i : Nat) : Int) < ((ls.length : Nat) : Int) by omega), decide_eq_true (show (0 : Int) ≤ ((i : Nat) : Int) by omega), Int.toNat_natCast, show ls.getD i aH.dflt = ls.getD i fA from rfl, h2, hx, q26 i hi, bW (by omega)]
   by_cases hc : (ls.getD i fA).2.2.2 > ck
   ·rw [decide_eq_true hc, decide_eq_false (show ¬ (ls.getD i fA).2.2.2 ≤ ck by omega)]
    cases bY tx (ls.getD i fA).1
    ·rfl
    cases bY tx (ls.getD i fA).2.1
    ·rfl
    cases Ar i (fun k => !(((ls.getD k fA).2.2.1 != (ls.getD i fA).2.2.1) && Jp (ls.getD k fA) (ls.getD i fA))) <;> rfl
   ·rw [decide_eq_false hc, decide_eq_true (show (ls.getD i fA).2.2.2 ≤ ck by omega)]; rfl) (fun m => by
   show oJ ((ls.length : Nat) : Int) st tx lg ck mb ls _ _ _ = _
   unfold oJ
   rw [decide_eq_false (show ¬ ((ls.length : Nat) : Int) < ((ls.length : Nat) : Int) by omega)]; rfl) _ 0 (by omega) (by omega)) ?_
  rw [Nat.sub_zero]; rfl
 unfold YH jk xG uH aga
 dsimp only
 rw [Nat.ble_eq_true_of_le n3, Nat.ble_eq_true_of_le n5, h1, ar2, VH (fun x hx => mW (AX h1 ar2) hx) (fun x hx => mW h2 hx)]
 by_cases c1 : ((lg.length : Nat) : Int) ≤ 60
 case neg => rw [decide_eq_false c1, decide_eq_true (show ((lg.length : Nat) : Int) > 60 by omega), Bool.false_and, Bool.false_and, Bool.false_and, Bool.and_false]; rfl
 rw [decide_eq_true c1, decide_eq_false (show ¬ ((lg.length : Nat) : Int) > 60 by omega)]
 have fin : ∀ b : Bool, b = false → K (.s (.bool false), []) = K (bl b, []) := fun b h => by rw [h]; rfl
 cases JU ck
 ·exact fin _ (by simp)
 by_cases c2 : ((mb.length : Nat) : Int) ≤ 8
 case neg => rw [decide_eq_false c2, decide_eq_true (show ((mb.length : Nat) : Int) > 8 by omega)]; exact fin _ (by simp)
 rw [decide_eq_true c2, decide_eq_false (show ¬ ((mb.length : Nat) : Int) > 8 by omega)]
 cases oq ls
 ·exact fin _ (by simp)
 cases hN : ((aU st (bF lg)).2 == ((lg.length : Nat) : Int)) with
 | false =>
  rw [show ((aU st (bF lg)).2 != ((lg.length : Nat) : Int)) = true by unfold bne; rw [hN]; rfl]
  exact fin _ (by simp)
 | true =>
  rw [show ((aU st (bF lg)).2 != ((lg.length : Nat) : Int)) = false by unfold bne; rw [hN]; rfl]
  have ht := hT hN
  by_cases hX : (aU st (bF lg)).1 = tx
  case neg => rw [decide_eq_false hX]; exact fin _ (by simp)
  have hx : aT tx = true := hX ▸ Ib (bF lg) ht
  rw [decide_eq_true hX, ht]
  simp only [Bool.not_true, Bool.not_false, cond_true, cond_false, Bool.and_true, Bool.true_and]
  rw [q7]
  cases lg.all (fun c => lV c.1)
  ·rfl
  rw [cond_true, q12 hx]
  cases Ar mb.length (ou tx mb)
  ·rfl
  rw [cond_true, q20 hx]
  cases Ar ls.length (FM tx ck ls) <;> rfl
theorem aae : aV prog I N.lU true YI := kD (aW (aY acV (aY acY (aY FP (aY JW (aY YA (aY ajP (aY aeX (aY aaX (aY Jq (aY ae0 bn)))))))))) (l := adv) (p := adu) (ls := [(7, [1,5], [1,2], Jt), (12, [1,6], [1,2], FV), (26, [1,8,9,10], [1,2,8], FW), (20, [1,8], [2], FX)]) (lend := []) (focus := false) (fuel := 0) (give := []) (fn := F.lU) (by kernel_rfl) (by kernel_rfl) (by kernel_rfl) (by kernel_rfl) (cs := [aS F.lU 7, aS F.lU 12, aS F.lU 20, aS F.lU 26]) (by kernel_rfl) (dA aa1 (dA YE (dA YG (dA YF aK))))) (aI fun d K h => (aoO d.1 K).trans (aoP d.1 h K))
end Go.Ev.Seat
end
section
namespace Go.Ev.Seat
open Go.RowKit
set_option maxRecDepth 100000
set_option linter.unusedVariables false
set_option linter.unusedSimpArgs false
noncomputable abbrev aj1 : Env := En [] [] [] [] false 0 []
noncomputable def PV (n : Int) (K : aj → Option aj) : Option aj := (bif (decide (n ≥ (0 : Int))) then K ((.s (.bool (decide (n ≤ (65535 : Int))))), []) else K ((.s (.bool false)), []))
theorem aj2 (n : Int) (K : aj → Option aj) : dL aj1 true F.Gn [.s (.int .i64 n)] K = PV n K := by kernel_rfl
def PW : Sm := bg [.i] (fun d => true) (fun d => (bl (aG d.1), []))
theorem aj3 (n : Int) (K : aj → Option aj) : PV n K = K (bl (aG n), []) := by
 unfold PV aG
 by_cases h : n ≥ 0
 ·rw [decide_eq_true h]; rfl
 ·rw [decide_eq_false h]; rfl
theorem ae3 : aV prog I N.Gn true PW := kD (aW bn (l := []) (p := []) (ls := []) (lend := []) (focus := false) (fuel := 0) (give := []) (fn := F.Gn) (by kernel_rfl) (by kernel_rfl) (by kernel_rfl) (by kernel_rfl) (cs := []) (by kernel_rfl) aK) (aI fun d K h => (aj2 d.1 K).trans (aj3 d.1 K))
end Go.Ev.Seat
end
section
namespace Go.Ev.Seat
open Go.RowKit
set_option maxRecDepth 100000
set_option linter.unusedVariables false
set_option linter.unusedSimpArgs false
def DW (x4 : Bool) : St := { tm := ([.x, .x, .x, .x, (.s (.bool x4))] ++ List.replicate 13 .x), ob := [], nx := 0, io := [] }
def DX : St := { tm := ([] ++ List.replicate 18 .x), ob := [], nx := 0, io := [] }
def Bl : Ss := { tm := (.cons (.int .i64) (.cons (.l .no Hu) (.cons (.x) (.cons (.x) (.cons (.x) (.cons (.int .i64) (Fj 12))))))), ob := .nil, nx := 0, io := .nil }
def ae4 (x0 : Int) (x1 : List Int) (x5 : Int) : Bl.T := ((x0, (x1, ((), ((), ((), (x5, xd 12)))))), (), ())
def xO (x0 : Int) (x1 : List Int) (x5 : Int) : St := { tm := ([(.s (.int .i64 x0)), (.l .no Hu x1), .x, .x, .x, (.s (.int .i64 x5))] ++ List.replicate 12 .x), ob := [], nx := 0, io := [] }
theorem adx (x0 : Int) (x1 : List Int) (x5 : Int) : Bl.mk' (ae4 x0 x1 x5) = (xO x0 x1 x5) := by kernel_rfl
def ae5 (d : Bl.T) (f : Int → (List Int) → Int → Option aj) : Option aj := match d with | ((x0, (x1, (_, (_, (_, (x5, _)))))), _, _) => f x0 x1 x5
noncomputable def rP (x0 : Int) (x1 : List Int) (x5 : Int) (lC : Int → (List Int) → Int → Option aj) (k0 : Bool → Option aj) (k1 : Option aj) : Option aj := (bif (decide (x5 < (((List.length x1) : Nat) : Int))) then (bif ((decide ((0 : Int) ≤ x5)) && (decide (x5 < (((List.length x1) : Nat) : Int)))) then (bif ((List.getD x1 (Int.toNat x5) (0 : Int)) == x0) then (k0 true) else (lC x0 x1 (IntKind.wrap .i64 (x5 + (1 : Int))))) else none) else k1)
noncomputable def xP : Nat → Int → (List Int) → Int → (Bool → Option aj) → (Option aj) → Option aj
 | 0, _, _, _, _, _ => none
 | m + 1, x0, x1, x5, k0, k1 => rP x0 x1 x5 (fun x0 x1 x5 => (xP m x0 x1 x5 k0 k1)) k0 k1
noncomputable def DY (x0 : Int) (x1 : List Int) (x5 : Int) (k0 : Bool → Option aj) (k1 : Option aj) : Option aj := xP (x0.toNat + List.length x1 + x5.toNat + 2) x0 x1 x5 k0 k1
noncomputable def Ju : dV := (fun (σ : St) (K : Ex → St → Option aj) => (match Bl.un σ with | some d => ae5 d (fun x0 x1 x5 => DY x0 x1 x5 (fun x4 => (K .ret (DW x4))) (K (.ext 0) DX)) | none => none))
noncomputable abbrev YJ : Env := En [] [] [(2, [0,1,5], [4], Ju)] [] false 0 []
noncomputable abbrev EC := rounds (run YJ (aS F.DK 2)) [0,1,5] [4]
theorem ady (m : Nat) (x0 : Int) (x1 : List Int) (x5 : Int) (K : Ex → St → Option aj) : EC (m + 1) (xO x0 x1 x5) K = rP x0 x1 x5 (fun x0 x1 x5 => (EC m (xO x0 x1 x5) K)) (fun x4 => (K .ret (DW x4))) (K (.ext 0) DX) := by kernel_rfl
theorem aaf (K : Ex → St → Option aj) : ∀ m : Nat, (∀ (x0 : Int) (x1 : List Int) (x5 : Int), EC m (xO x0 x1 x5) K = xP m x0 x1 x5 (fun x4 => (K .ret (DW x4))) (K (.ext 0) DX))
 | 0 => (fun _ _ _ => rfl)
 | m + 1 => (fun x0 x1 x5 => (by rw [ady, show (fun x0 x1 x5 => (EC m (xO x0 x1 x5) K)) = (fun x0 x1 x5 => (xP m x0 x1 x5 (fun x4 => (K .ret (DW x4))) (K (.ext 0) DX))) from funext fun x0 => funext fun x1 => funext fun x5 => (aaf K m) x0 x1 x5]; rfl))
theorem aa5 : dJ YJ (aS F.DK 2) := by
 refine dh (n := 2) (F := Ju) (by kernel_rfl) rfl (li := [0,1,5]) (lo := [4]) rfl (fun σ K r hr => ?_)
 unfold Ju at hr
 split at hr
 ·rename_i d hd
  rw [Ss.dY hd]
  exact ⟨_, ((congrArg (fun z => EC _ z K) (adx _ _ _)).trans ((aaf K _) _ _ _)).trans hr⟩
 ·cases hr
noncomputable def YK (k : Int) (l : List Int) (K : aj → Option aj) : Option aj := (DY k l (0 : Int) (fun y0 => K ((.s (.bool y0)), [])) (K ((.s (.bool false)), [])))
theorem aoQ (k : Int) (l : List Int) (K : aj → Option aj) : dL YJ true F.DK [.s (.int .i64 k), .l .no Hu l] K = YK k l K := by kernel_rfl
def Rf : Sm := bg [.i, .l Hu] (fun d => Nat.ble d.2.1.length 1048576) (fun d => (bl (d.2.1.any fun c => c == d.1), []))
theorem aoR (k : Int) (l : List Int) (h : (Nat.ble l.length 1048576) = true) (K : aj → Option aj) : YK k l K = K (bl (l.any fun c => c == k), []) := by
 have hl := Nat.le_of_ble_eq_true h
 unfold YK
 show DY k l 0 _ _ = _
 unfold DY
 have q := VJ (R := fun m i => xP m k l i (fun y0 => K ((.s (.bool y0)), [])) (K ((.s (.bool false)), []))) (p := fun c => !(c == k)) (xs := l) (z := (0 : Int)) (kt := K ((.s (.bool false)), [])) (kf := K ((.s (.bool true)), []))
  (fun m i hi => by
   show rP k l i _ _ _ = _
   unfold rP
   rw [decide_eq_true (show ((i : Nat) : Int) < ((l.length : Nat) : Int) by omega), decide_eq_true (show (0 : Int) ≤ ((i : Nat) : Int) by omega), bW (by omega), Int.toNat_natCast]
   cases l.getD i 0 == k <;> rfl)
  (fun m => by
   show rP k l _ _ _ _ = _
   unfold rP
   rw [decide_eq_false (show ¬ ((l.length : Nat) : Int) < ((l.length : Nat) : Int) by omega)]; rfl)
  (k.toNat + List.length l + (0 : Int).toNat + 2) 0 (by omega) (by omega)
 refine Eq.trans (show _ = _ from q) ?_
 rw [List.drop_zero]
 have e : (l.all fun c => !(c == k)) = !(l.any fun c => c == k) := by rw [List.not_any_eq_all_not]
 rw [e]
 cases l.any fun c => c == k <;> rfl
theorem aag : aV prog I N.DK true Rf := kD (aW bn (l := []) (p := []) (ls := [(2, [0,1,5], [4], Ju)]) (lend := []) (focus := false) (fuel := 0) (give := []) (fn := F.DK) (by kernel_rfl) (by kernel_rfl) (by kernel_rfl) (by kernel_rfl) (cs := [aS F.DK 2]) (by kernel_rfl) (dA aa5 aK)) (aI fun d K h => (aoQ d.1 d.2.1 K).trans (aoR d.1 d.2.1 h K))
end Go.Ev.Seat
end
