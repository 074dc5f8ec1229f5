/- MachOk: parts FsReqOk PBs PDoc2 PPlan PMach Fsl11Edit Fsl11Empty FsReqEdits PMach2 EvCut Fsl08Edit Fsl08Copy Fsl10Stack Fsl10Copy Fsl11Old Fsl10Version Fsl10Member FsDocAt FsDocSince Fsl06Place FsPosMove FsSpanMove FsEditMove FsEditMoves, packed by squash.py. -/
import Derived.Shelf.RegionOpenPlain
import Derived.WalkKit
import Derived.Deep.RegionWith
import Derived.Lib.Walk
import Derived.Laws.Rows
import Derived.LoopN
import Derived.Test.YthddmiaggpnokaaGreatDoorZMachOk0
import Derived.Test.YthddmiaggpnokaaGreatDoorZMachOk1
import Derived.Test.YthddmiaggpnokaaGreatDoorZMachOk2
import Derived.Test.YthddmiaggpnokaaGreatDoorZMachOk3
import Derived.Test.YthddmiaggpnokaaGreatDoorZMachOk4
set_option linter.unusedVariables false
set_option linter.unusedSimpArgs false
section
namespace Go.Ev.Seat
open Go.RowKit
set_option maxRecDepth 100000
set_option linter.unusedVariables false
set_option linter.unusedSimpArgs false
noncomputable abbrev cO : Env := En [(N.Gn, true, PW), (N.Ad, true, Dk), (N.DK, true, Rf)] [] [] [] false 0 []
noncomputable abbrev adz : Env := En [] [] [] [] false 0 []
theorem aah : aV prog I N.dw true (dL cO true F.dw) := aW (aY ae3 (aY FQ (aY aag bn))) (l := [(N.Gn, true, PW), (N.Ad, true, Dk), (N.DK, true, Rf)]) (p := []) (ls := []) (lend := []) (focus := false) (fuel := 0) (give := []) (fn := F.dw) (by kernel_rfl) (by kernel_rfl) (by kernel_rfl) (by kernel_rfl) (cs := []) (by kernel_rfl) aK
theorem aai : aV prog I N.dw true (dL adz true F.dw) := aW bn (l := []) (p := []) (ls := []) (lend := []) (focus := false) (fuel := 0) (give := []) (fn := F.dw) (by kernel_rfl) (by kernel_rfl) (by kernel_rfl) (by kernel_rfl) (cs := []) (by kernel_rfl) aK
theorem adA (r : uD) (K : aj → Option aj) : dL adz true F.dw [.a (gV.cells .no r)] K =
  (bif (decide (r.1 < 1)) then K ((.s (.bool false)), []) else (bif (decide (r.1 > 16)) then K ((.s (.bool false)), []) else
   (bif (decide (r.2.1 < 1)) then K ((.s (.bool false)), []) else (bif (decide (r.2.1 > 8)) then K ((.s (.bool false)), []) else none)))) := by kernel_rfl
theorem aj6 (s a b d : Int) (t : List Int) (K : aj → Option aj) : dL cO true F.dw [.a (gV.cells .no (1, s, a, b, d, t))] K =
 (bif (decide (s < 1)) then K ((.s (.bool false)), []) else (bif (decide (s > 8)) then K ((.s (.bool false)), []) else (bif (!(aG a)) then K ((.s (.bool false)), []) else (bif (!(aG b)) then K ((.s (.bool false)), []) else (bif (!(aG d)) then K ((.s (.bool false)), []) else (bif aO t then (bif (!(aT t)) then K ((.s (.bool false)), []) else (bif (decide (((List.length t : Nat) : Int) > 100)) then K ((.s (.bool false)), []) else (bif (a != (0 : Int)) then K ((.s (.bool false)), []) else (bif (b != (0 : Int)) then K ((.s (.bool false)), []) else (bif (d != (0 : Int)) then K ((.s (.bool false)), []) else (bif (decide (((List.length t : Nat) : Int) > 0)) then K ((.s (.bool false)), []) else K ((.s (.bool true)), []))))))) else none)))))) := by kernel_rfl
theorem aj7 (s a b d : Int) (t : List Int) (h : aO t = true) (K : aj → Option aj) : dL cO true F.dw [.a (gV.cells .no (1, s, a, b, d, t))] K = K (bl (dB (1, s, a, b, d, t)), []) := by
 refine (aj6 s a b d t K).trans ?_
 unfold dB
 simp only [bne, h]
 by_cases h3 : s < 1
 ·rw [decide_eq_true h3, decide_eq_false (show ¬ 1 ≤ s by omega)]; rfl
 by_cases h4 : s > 8
 ·rw [decide_eq_false h3, decide_eq_true h4, decide_eq_true (show 1 ≤ s by omega), decide_eq_false (show ¬ s ≤ 8 by omega)]; rfl
 rw [decide_eq_false h3, decide_eq_false h4, decide_eq_true (show 1 ≤ s by omega), decide_eq_true (show s ≤ 8 by omega)]
 by_cases h5 : ((t.length : Nat) : Int) > 100
 ·rw [decide_eq_true h5, decide_eq_false (show ¬ ((t.length : Nat) : Int) ≤ 100 by omega)]
  cases aG a <;> cases aG b <;> cases aG d <;> cases aT t <;> rfl
 rw [decide_eq_false h5, decide_eq_true (show ((t.length : Nat) : Int) ≤ 100 by omega)]
 unfold jG
 generalize decide (((t.length : Nat) : Int) > 0) = n
 generalize (a == 0) = x
 generalize (b == 0) = y
 generalize (d == 0) = z
 generalize aT t = p
 cases aG a <;> cases aG b <;> cases aG d <;> cases p <;> first | rfl | (cases x <;> cases y <;> cases z <;> cases n <;> rfl)
theorem aj8 (s a b d : Int) (t : List Int) (K : aj → Option aj) : dL cO true F.dw [.a (gV.cells .no (2, s, a, b, d, t))] K =
 (bif (decide (s < 1)) then K ((.s (.bool false)), []) else (bif (decide (s > 8)) then K ((.s (.bool false)), []) else (bif (!(aG a)) then K ((.s (.bool false)), []) else (bif (!(aG b)) then K ((.s (.bool false)), []) else (bif (!(aG d)) then K ((.s (.bool false)), []) else (bif aO t then (bif (!(aT t)) then K ((.s (.bool false)), []) else (bif (decide (((List.length t : Nat) : Int) > 100)) then K ((.s (.bool false)), []) else (bif (a != (0 : Int)) then K ((.s (.bool false)), []) else (bif (b != (0 : Int)) then K ((.s (.bool false)), []) else (bif (d != (0 : Int)) then K ((.s (.bool false)), []) else (bif (decide (((List.length t : Nat) : Int) > 0)) then K ((.s (.bool false)), []) else K ((.s (.bool true)), []))))))) else none)))))) := by kernel_rfl
theorem aj9 (s a b d : Int) (t : List Int) (h : aO t = true) (K : aj → Option aj) : dL cO true F.dw [.a (gV.cells .no (2, s, a, b, d, t))] K = K (bl (dB (2, s, a, b, d, t)), []) := by
 refine (aj8 s a b d t K).trans ?_
 unfold dB
 simp only [bne, h]
 by_cases h3 : s < 1
 ·rw [decide_eq_true h3, decide_eq_false (show ¬ 1 ≤ s by omega)]; rfl
 by_cases h4 : s > 8
 ·rw [decide_eq_false h3, decide_eq_true h4, decide_eq_true (show 1 ≤ s by omega), decide_eq_false (show ¬ s ≤ 8 by omega)]; rfl
 rw [decide_eq_false h3, decide_eq_false h4, decide_eq_true (show 1 ≤ s by omega), decide_eq_true (show s ≤ 8 by omega)]
 by_cases h5 : ((t.length : Nat) : Int) > 100
 ·rw [decide_eq_true h5, decide_eq_false (show ¬ ((t.length : Nat) : Int) ≤ 100 by omega)]
  cases aG a <;> cases aG b <;> cases aG d <;> cases aT t <;> rfl
 rw [decide_eq_false h5, decide_eq_true (show ((t.length : Nat) : Int) ≤ 100 by omega)]
 unfold jG
 generalize decide (((t.length : Nat) : Int) > 0) = n
 generalize (a == 0) = x
 generalize (b == 0) = y
 generalize (d == 0) = z
 generalize aT t = p
 cases aG a <;> cases aG b <;> cases aG d <;> cases p <;> first | rfl | (cases x <;> cases y <;> cases z <;> cases n <;> rfl)
theorem akb (s a b d : Int) (t : List Int) (K : aj → Option aj) : dL cO true F.dw [.a (gV.cells .no (3, s, a, b, d, t))] K =
 (bif (decide (s < 1)) then K ((.s (.bool false)), []) else (bif (decide (s > 8)) then K ((.s (.bool false)), []) else (bif (!(aG a)) then K ((.s (.bool false)), []) else (bif (!(aG b)) then K ((.s (.bool false)), []) else (bif (!(aG d)) then K ((.s (.bool false)), []) else (bif aO t then (bif (!(aT t)) then K ((.s (.bool false)), []) else (bif (decide (((List.length t : Nat) : Int) > 100)) then K ((.s (.bool false)), []) else (bif (b != (0 : Int)) then K ((.s (.bool false)), []) else (bif (d != (0 : Int)) then K ((.s (.bool false)), []) else K ((.s (.bool true)), []))))) else none)))))) := by kernel_rfl
theorem akc (s a b d : Int) (t : List Int) (h : aO t = true) (K : aj → Option aj) : dL cO true F.dw [.a (gV.cells .no (3, s, a, b, d, t))] K = K (bl (dB (3, s, a, b, d, t)), []) := by
 refine (akb s a b d t K).trans ?_
 unfold dB
 simp only [bne, h]
 by_cases h3 : s < 1
 ·rw [decide_eq_true h3, decide_eq_false (show ¬ 1 ≤ s by omega)]; rfl
 by_cases h4 : s > 8
 ·rw [decide_eq_false h3, decide_eq_true h4, decide_eq_true (show 1 ≤ s by omega), decide_eq_false (show ¬ s ≤ 8 by omega)]; rfl
 rw [decide_eq_false h3, decide_eq_false h4, decide_eq_true (show 1 ≤ s by omega), decide_eq_true (show s ≤ 8 by omega)]
 by_cases h5 : ((t.length : Nat) : Int) > 100
 ·rw [decide_eq_true h5, decide_eq_false (show ¬ ((t.length : Nat) : Int) ≤ 100 by omega)]
  cases aG a <;> cases aG b <;> cases aG d <;> cases aT t <;> rfl
 rw [decide_eq_false h5, decide_eq_true (show ((t.length : Nat) : Int) ≤ 100 by omega)]
 unfold jG
 generalize decide (((t.length : Nat) : Int) > 0) = n
 generalize (a == 0) = x
 generalize (b == 0) = y
 generalize (d == 0) = z
 generalize aT t = p
 cases aG a <;> cases aG b <;> cases aG d <;> cases p <;> first | rfl | (cases x <;> cases y <;> cases z <;> cases n <;> rfl)
theorem akd (s a b d : Int) (t : List Int) (K : aj → Option aj) : dL cO true F.dw [.a (gV.cells .no (4, s, a, b, d, t))] K =
 (bif (decide (s < 1)) then K ((.s (.bool false)), []) else (bif (decide (s > 8)) then K ((.s (.bool false)), []) else (bif (!(aG a)) then K ((.s (.bool false)), []) else (bif (!(aG b)) then K ((.s (.bool false)), []) else (bif (!(aG d)) then K ((.s (.bool false)), []) else (bif aO t then (bif (!(aT t)) then K ((.s (.bool false)), []) else (bif (decide (((List.length t : Nat) : Int) > 100)) then K ((.s (.bool false)), []) else (bif (d != (0 : Int)) then K ((.s (.bool false)), []) else (bif (decide (((List.length t : Nat) : Int) > 0)) then K ((.s (.bool false)), []) else K ((.s (.bool true)), []))))) else none)))))) := by kernel_rfl
theorem ake (s a b d : Int) (t : List Int) (h : aO t = true) (K : aj → Option aj) : dL cO true F.dw [.a (gV.cells .no (4, s, a, b, d, t))] K = K (bl (dB (4, s, a, b, d, t)), []) := by
 refine (akd s a b d t K).trans ?_
 unfold dB
 simp only [bne, h]
 by_cases h3 : s < 1
 ·rw [decide_eq_true h3, decide_eq_false (show ¬ 1 ≤ s by omega)]; rfl
 by_cases h4 : s > 8
 ·rw [decide_eq_false h3, decide_eq_true h4, decide_eq_true (show 1 ≤ s by omega), decide_eq_false (show ¬ s ≤ 8 by omega)]; rfl
 rw [decide_eq_false h3, decide_eq_false h4, decide_eq_true (show 1 ≤ s by omega), decide_eq_true (show s ≤ 8 by omega)]
 by_cases h5 : ((t.length : Nat) : Int) > 100
 ·rw [decide_eq_true h5, decide_eq_false (show ¬ ((t.length : Nat) : Int) ≤ 100 by omega)]
  cases aG a <;> cases aG b <;> cases aG d <;> cases aT t <;> rfl
 rw [decide_eq_false h5, decide_eq_true (show ((t.length : Nat) : Int) ≤ 100 by omega)]
 unfold jG
 generalize decide (((t.length : Nat) : Int) > 0) = n
 generalize (a == 0) = x
 generalize (b == 0) = y
 generalize (d == 0) = z
 generalize aT t = p
 cases aG a <;> cases aG b <;> cases aG d <;> cases p <;> first | rfl | (cases x <;> cases y <;> cases z <;> cases n <;> rfl)
theorem akf (s a b d : Int) (t : List Int) (K : aj → Option aj) : dL cO true F.dw [.a (gV.cells .no (5, s, a, b, d, t))] K =
 (bif (decide (s < 1)) then K ((.s (.bool false)), []) else (bif (decide (s > 8)) then K ((.s (.bool false)), []) else (bif (!(aG a)) then K ((.s (.bool false)), []) else (bif (!(aG b)) then K ((.s (.bool false)), []) else (bif (!(aG d)) then K ((.s (.bool false)), []) else (bif aO t then (bif (!(aT t)) then K ((.s (.bool false)), []) else (bif (decide (((List.length t : Nat) : Int) > 100)) then K ((.s (.bool false)), []) else (bif (d != (0 : Int)) then K ((.s (.bool false)), []) else K ((.s (.bool true)), [])))) else none)))))) := by kernel_rfl
theorem akg (s a b d : Int) (t : List Int) (h : aO t = true) (K : aj → Option aj) : dL cO true F.dw [.a (gV.cells .no (5, s, a, b, d, t))] K = K (bl (dB (5, s, a, b, d, t)), []) := by
 refine (akf s a b d t K).trans ?_
 unfold dB
 simp only [bne, h]
 by_cases h3 : s < 1
 ·rw [decide_eq_true h3, decide_eq_false (show ¬ 1 ≤ s by omega)]; rfl
 by_cases h4 : s > 8
 ·rw [decide_eq_false h3, decide_eq_true h4, decide_eq_true (show 1 ≤ s by omega), decide_eq_false (show ¬ s ≤ 8 by omega)]; rfl
 rw [decide_eq_false h3, decide_eq_false h4, decide_eq_true (show 1 ≤ s by omega), decide_eq_true (show s ≤ 8 by omega)]
 by_cases h5 : ((t.length : Nat) : Int) > 100
 ·rw [decide_eq_true h5, decide_eq_false (show ¬ ((t.length : Nat) : Int) ≤ 100 by omega)]
  cases aG a <;> cases aG b <;> cases aG d <;> cases aT t <;> rfl
 rw [decide_eq_false h5, decide_eq_true (show ((t.length : Nat) : Int) ≤ 100 by omega)]
 unfold jG
 generalize decide (((t.length : Nat) : Int) > 0) = n
 generalize (a == 0) = x
 generalize (b == 0) = y
 generalize (d == 0) = z
 generalize aT t = p
 cases aG a <;> cases aG b <;> cases aG d <;> cases p <;> first | rfl | (cases x <;> cases y <;> cases z <;> cases n <;> rfl)
theorem akh (s a b d : Int) (t : List Int) (K : aj → Option aj) : dL cO true F.dw [.a (gV.cells .no (6, s, a, b, d, t))] K =
 (bif (decide (s < 1)) then K ((.s (.bool false)), []) else (bif (decide (s > 8)) then K ((.s (.bool false)), []) else (bif (!(aG a)) then K ((.s (.bool false)), []) else (bif (!(aG b)) then K ((.s (.bool false)), []) else (bif (!(aG d)) then K ((.s (.bool false)), []) else (bif aO t then (bif (!(aT t)) then K ((.s (.bool false)), []) else (bif (decide (((List.length t : Nat) : Int) > 100)) then K ((.s (.bool false)), []) else (bif (d != (0 : Int)) then K ((.s (.bool false)), []) else (bif (decide (((List.length t : Nat) : Int) > 0)) then K ((.s (.bool false)), []) else K ((.s (.bool true)), []))))) else none)))))) := by kernel_rfl
theorem aki (s a b d : Int) (t : List Int) (h : aO t = true) (K : aj → Option aj) : dL cO true F.dw [.a (gV.cells .no (6, s, a, b, d, t))] K = K (bl (dB (6, s, a, b, d, t)), []) := by
 refine (akh s a b d t K).trans ?_
 unfold dB
 simp only [bne, h]
 by_cases h3 : s < 1
 ·rw [decide_eq_true h3, decide_eq_false (show ¬ 1 ≤ s by omega)]; rfl
 by_cases h4 : s > 8
 ·rw [decide_eq_false h3, decide_eq_true h4, decide_eq_true (show 1 ≤ s by omega), decide_eq_false (show ¬ s ≤ 8 by omega)]; rfl
 rw [decide_eq_false h3, decide_eq_false h4, decide_eq_true (show 1 ≤ s by omega), decide_eq_true (show s ≤ 8 by omega)]
 by_cases h5 : ((t.length : Nat) : Int) > 100
 ·rw [decide_eq_true h5, decide_eq_false (show ¬ ((t.length : Nat) : Int) ≤ 100 by omega)]
  cases aG a <;> cases aG b <;> cases aG d <;> cases aT t <;> rfl
 rw [decide_eq_false h5, decide_eq_true (show ((t.length : Nat) : Int) ≤ 100 by omega)]
 unfold jG
 generalize decide (((t.length : Nat) : Int) > 0) = n
 generalize (a == 0) = x
 generalize (b == 0) = y
 generalize (d == 0) = z
 generalize aT t = p
 cases aG a <;> cases aG b <;> cases aG d <;> cases p <;> first | rfl | (cases x <;> cases y <;> cases z <;> cases n <;> rfl)
theorem akj (s a b d : Int) (t : List Int) (K : aj → Option aj) : dL cO true F.dw [.a (gV.cells .no (7, s, a, b, d, t))] K =
 (bif (decide (s < 1)) then K ((.s (.bool false)), []) else (bif (decide (s > 8)) then K ((.s (.bool false)), []) else (bif (!(aG a)) then K ((.s (.bool false)), []) else (bif (!(aG b)) then K ((.s (.bool false)), []) else (bif (!(aG d)) then K ((.s (.bool false)), []) else (bif aO t then (bif (!(aT t)) then K ((.s (.bool false)), []) else (bif (decide (((List.length t : Nat) : Int) > 100)) then K ((.s (.bool false)), []) else (bif (b != (0 : Int)) then K ((.s (.bool false)), []) else (bif (d != (0 : Int)) then K ((.s (.bool false)), []) else K ((.s (.bool (decide (((List.length t : Nat) : Int) > 0)))), []))))) else none)))))) := by kernel_rfl
theorem akk (s a b d : Int) (t : List Int) (h : aO t = true) (K : aj → Option aj) : dL cO true F.dw [.a (gV.cells .no (7, s, a, b, d, t))] K = K (bl (dB (7, s, a, b, d, t)), []) := by
 refine (akj s a b d t K).trans ?_
 unfold dB
 simp only [bne, h]
 by_cases h3 : s < 1
 ·rw [decide_eq_true h3, decide_eq_false (show ¬ 1 ≤ s by omega)]; rfl
 by_cases h4 : s > 8
 ·rw [decide_eq_false h3, decide_eq_true h4, decide_eq_true (show 1 ≤ s by omega), decide_eq_false (show ¬ s ≤ 8 by omega)]; rfl
 rw [decide_eq_false h3, decide_eq_false h4, decide_eq_true (show 1 ≤ s by omega), decide_eq_true (show s ≤ 8 by omega)]
 by_cases h5 : ((t.length : Nat) : Int) > 100
 ·rw [decide_eq_true h5, decide_eq_false (show ¬ ((t.length : Nat) : Int) ≤ 100 by omega)]
  cases aG a <;> cases aG b <;> cases aG d <;> cases aT t <;> rfl
 rw [decide_eq_false h5, decide_eq_true (show ((t.length : Nat) : Int) ≤ 100 by omega)]
 unfold jG
 generalize decide (((t.length : Nat) : Int) > 0) = n
 generalize (a == 0) = x
 generalize (b == 0) = y
 generalize (d == 0) = z
 generalize aT t = p
 cases aG a <;> cases aG b <;> cases aG d <;> cases p <;> first | rfl | (cases x <;> cases y <;> cases z <;> cases n <;> rfl)
theorem akl (s a b d : Int) (t : List Int) (K : aj → Option aj) : dL cO true F.dw [.a (gV.cells .no (8, s, a, b, d, t))] K =
 (bif (decide (s < 1)) then K ((.s (.bool false)), []) else (bif (decide (s > 8)) then K ((.s (.bool false)), []) else (bif (!(aG a)) then K ((.s (.bool false)), []) else (bif (!(aG b)) then K ((.s (.bool false)), []) else (bif (!(aG d)) then K ((.s (.bool false)), []) else (bif aO t then (bif (!(aT t)) then K ((.s (.bool false)), []) else (bif (decide (((List.length t : Nat) : Int) > 100)) then K ((.s (.bool false)), []) else (bif (b != (0 : Int)) then K ((.s (.bool false)), []) else (bif (d != (0 : Int)) then K ((.s (.bool false)), []) else K ((.s (.bool (decide (((List.length t : Nat) : Int) > 0)))), []))))) else none)))))) := by kernel_rfl
theorem akm (s a b d : Int) (t : List Int) (h : aO t = true) (K : aj → Option aj) : dL cO true F.dw [.a (gV.cells .no (8, s, a, b, d, t))] K = K (bl (dB (8, s, a, b, d, t)), []) := by
 refine (akl s a b d t K).trans ?_
 unfold dB
 simp only [bne, h]
 by_cases h3 : s < 1
 ·rw [decide_eq_true h3, decide_eq_false (show ¬ 1 ≤ s by omega)]; rfl
 by_cases h4 : s > 8
 ·rw [decide_eq_false h3, decide_eq_true h4, decide_eq_true (show 1 ≤ s by omega), decide_eq_false (show ¬ s ≤ 8 by omega)]; rfl
 rw [decide_eq_false h3, decide_eq_false h4, decide_eq_true (show 1 ≤ s by omega), decide_eq_true (show s ≤ 8 by omega)]
 by_cases h5 : ((t.length : Nat) : Int) > 100
 ·rw [decide_eq_true h5, decide_eq_false (show ¬ ((t.length : Nat) : Int) ≤ 100 by omega)]
  cases aG a <;> cases aG b <;> cases aG d <;> cases aT t <;> rfl
 rw [decide_eq_false h5, decide_eq_true (show ((t.length : Nat) : Int) ≤ 100 by omega)]
 unfold jG
 generalize decide (((t.length : Nat) : Int) > 0) = n
 generalize (a == 0) = x
 generalize (b == 0) = y
 generalize (d == 0) = z
 generalize aT t = p
 cases aG a <;> cases aG b <;> cases aG d <;> cases p <;> first | rfl | (cases x <;> cases y <;> cases z <;> cases n <;> rfl)
theorem akn (s a b d : Int) (t : List Int) (K : aj → Option aj) : dL cO true F.dw [.a (gV.cells .no (9, s, a, b, d, t))] K =
 (bif (decide (s < 1)) then K ((.s (.bool false)), []) else (bif (decide (s > 8)) then K ((.s (.bool false)), []) else (bif (!(aG a)) then K ((.s (.bool false)), []) else (bif (!(aG b)) then K ((.s (.bool false)), []) else (bif (!(aG d)) then K ((.s (.bool false)), []) else (bif aO t then (bif (!(aT t)) then K ((.s (.bool false)), []) else (bif (decide (((List.length t : Nat) : Int) > 100)) then K ((.s (.bool false)), []) else (bif (b != (0 : Int)) then K ((.s (.bool false)), []) else (bif (d != (0 : Int)) then K ((.s (.bool false)), []) else (bif (decide (((List.length t : Nat) : Int) > 0)) then K ((.s (.bool false)), []) else K ((.s (.bool true)), [])))))) else none)))))) := by kernel_rfl
theorem ako (s a b d : Int) (t : List Int) (h : aO t = true) (K : aj → Option aj) : dL cO true F.dw [.a (gV.cells .no (9, s, a, b, d, t))] K = K (bl (dB (9, s, a, b, d, t)), []) := by
 refine (akn s a b d t K).trans ?_
 unfold dB
 simp only [bne, h]
 by_cases h3 : s < 1
 ·rw [decide_eq_true h3, decide_eq_false (show ¬ 1 ≤ s by omega)]; rfl
 by_cases h4 : s > 8
 ·rw [decide_eq_false h3, decide_eq_true h4, decide_eq_true (show 1 ≤ s by omega), decide_eq_false (show ¬ s ≤ 8 by omega)]; rfl
 rw [decide_eq_false h3, decide_eq_false h4, decide_eq_true (show 1 ≤ s by omega), decide_eq_true (show s ≤ 8 by omega)]
 by_cases h5 : ((t.length : Nat) : Int) > 100
 ·rw [decide_eq_true h5, decide_eq_false (show ¬ ((t.length : Nat) : Int) ≤ 100 by omega)]
  cases aG a <;> cases aG b <;> cases aG d <;> cases aT t <;> rfl
 rw [decide_eq_false h5, decide_eq_true (show ((t.length : Nat) : Int) ≤ 100 by omega)]
 unfold jG
 generalize decide (((t.length : Nat) : Int) > 0) = n
 generalize (a == 0) = x
 generalize (b == 0) = y
 generalize (d == 0) = z
 generalize aT t = p
 cases aG a <;> cases aG b <;> cases aG d <;> cases p <;> first | rfl | (cases x <;> cases y <;> cases z <;> cases n <;> rfl)
theorem ahC (s a b d : Int) (t : List Int) (K : aj → Option aj) : dL cO true F.dw [.a (gV.cells .no (10, s, a, b, d, t))] K =
 (bif (decide (s < 1)) then K ((.s (.bool false)), []) else (bif (decide (s > 8)) then K ((.s (.bool false)), []) else (bif (!(aG a)) then K ((.s (.bool false)), []) else (bif (!(aG b)) then K ((.s (.bool false)), []) else (bif (!(aG d)) then K ((.s (.bool false)), []) else (bif aO t then (bif (!(aT t)) then K ((.s (.bool false)), []) else (bif (decide (((List.length t : Nat) : Int) > 100)) then K ((.s (.bool false)), []) else (bif (d != (0 : Int)) then K ((.s (.bool false)), []) else (bif (decide (((List.length t : Nat) : Int) > 0)) then K ((.s (.bool false)), []) else K ((.s (.bool true)), []))))) else none)))))) := by kernel_rfl
theorem ahD (s a b d : Int) (t : List Int) (h : aO t = true) (K : aj → Option aj) : dL cO true F.dw [.a (gV.cells .no (10, s, a, b, d, t))] K = K (bl (dB (10, s, a, b, d, t)), []) := by
 refine (ahC s a b d t K).trans ?_
 unfold dB
 simp only [bne, h]
 by_cases h3 : s < 1
 ·rw [decide_eq_true h3, decide_eq_false (show ¬ 1 ≤ s by omega)]; rfl
 by_cases h4 : s > 8
 ·rw [decide_eq_false h3, decide_eq_true h4, decide_eq_true (show 1 ≤ s by omega), decide_eq_false (show ¬ s ≤ 8 by omega)]; rfl
 rw [decide_eq_false h3, decide_eq_false h4, decide_eq_true (show 1 ≤ s by omega), decide_eq_true (show s ≤ 8 by omega)]
 by_cases h5 : ((t.length : Nat) : Int) > 100
 ·rw [decide_eq_true h5, decide_eq_false (show ¬ ((t.length : Nat) : Int) ≤ 100 by omega)]
  cases aG a <;> cases aG b <;> cases aG d <;> cases aT t <;> rfl
 rw [decide_eq_false h5, decide_eq_true (show ((t.length : Nat) : Int) ≤ 100 by omega)]
 unfold jG
 generalize decide (((t.length : Nat) : Int) > 0) = n
 generalize (a == 0) = x
 generalize (b == 0) = y
 generalize (d == 0) = z
 generalize aT t = p
 cases aG a <;> cases aG b <;> cases aG d <;> cases p <;> first | rfl | (cases x <;> cases y <;> cases z <;> cases n <;> rfl)
theorem ahE (s a b d : Int) (t : List Int) (K : aj → Option aj) : dL cO true F.dw [.a (gV.cells .no (11, s, a, b, d, t))] K =
 (bif (decide (s < 1)) then K ((.s (.bool false)), []) else (bif (decide (s > 8)) then K ((.s (.bool false)), []) else (bif (!(aG a)) then K ((.s (.bool false)), []) else (bif (!(aG b)) then K ((.s (.bool false)), []) else (bif (!(aG d)) then K ((.s (.bool false)), []) else (bif aO t then (bif (!(aT t)) then K ((.s (.bool false)), []) else (bif (decide (((List.length t : Nat) : Int) > 100)) then K ((.s (.bool false)), []) else (bif (d != (0 : Int)) then K ((.s (.bool false)), []) else (bif (decide (((List.length t : Nat) : Int) > 0)) then K ((.s (.bool false)), []) else K ((.s (.bool true)), []))))) else none)))))) := by kernel_rfl
theorem ahF (s a b d : Int) (t : List Int) (h : aO t = true) (K : aj → Option aj) : dL cO true F.dw [.a (gV.cells .no (11, s, a, b, d, t))] K = K (bl (dB (11, s, a, b, d, t)), []) := by
 refine (ahE s a b d t K).trans ?_
 unfold dB
 simp only [bne, h]
 by_cases h3 : s < 1
 ·rw [decide_eq_true h3, decide_eq_false (show ¬ 1 ≤ s by omega)]; rfl
 by_cases h4 : s > 8
 ·rw [decide_eq_false h3, decide_eq_true h4, decide_eq_true (show 1 ≤ s by omega), decide_eq_false (show ¬ s ≤ 8 by omega)]; rfl
 rw [decide_eq_false h3, decide_eq_false h4, decide_eq_true (show 1 ≤ s by omega), decide_eq_true (show s ≤ 8 by omega)]
 by_cases h5 : ((t.length : Nat) : Int) > 100
 ·rw [decide_eq_true h5, decide_eq_false (show ¬ ((t.length : Nat) : Int) ≤ 100 by omega)]
  cases aG a <;> cases aG b <;> cases aG d <;> cases aT t <;> rfl
 rw [decide_eq_false h5, decide_eq_true (show ((t.length : Nat) : Int) ≤ 100 by omega)]
 unfold jG
 generalize decide (((t.length : Nat) : Int) > 0) = n
 generalize (a == 0) = x
 generalize (b == 0) = y
 generalize (d == 0) = z
 generalize aT t = p
 cases aG a <;> cases aG b <;> cases aG d <;> cases p <;> first | rfl | (cases x <;> cases y <;> cases z <;> cases n <;> rfl)
theorem ahG (s a b d : Int) (t : List Int) (K : aj → Option aj) : dL cO true F.dw [.a (gV.cells .no (12, s, a, b, d, t))] K =
 (bif (decide (s < 1)) then K ((.s (.bool false)), []) else (bif (decide (s > 8)) then K ((.s (.bool false)), []) else (bif (!(aG a)) then K ((.s (.bool false)), []) else (bif (!(aG b)) then K ((.s (.bool false)), []) else (bif (!(aG d)) then K ((.s (.bool false)), []) else (bif aO t then (bif (!(aT t)) then K ((.s (.bool false)), []) else (bif (decide (((List.length t : Nat) : Int) > 100)) then K ((.s (.bool false)), []) else (bif (decide (((List.length t : Nat) : Int) > 0)) then K ((.s (.bool false)), []) else K ((.s (.bool true)), [])))) else none)))))) := by kernel_rfl
theorem ahH (s a b d : Int) (t : List Int) (h : aO t = true) (K : aj → Option aj) : dL cO true F.dw [.a (gV.cells .no (12, s, a, b, d, t))] K = K (bl (dB (12, s, a, b, d, t)), []) := by
 refine (ahG s a b d t K).trans ?_
 unfold dB
 simp only [bne, h]
 by_cases h3 : s < 1
 ·rw [decide_eq_true h3, decide_eq_false (show ¬ 1 ≤ s by omega)]; rfl
 by_cases h4 : s > 8
 ·rw [decide_eq_false h3, decide_eq_true h4, decide_eq_true (show 1 ≤ s by omega), decide_eq_false (show ¬ s ≤ 8 by omega)]; rfl
 rw [decide_eq_false h3, decide_eq_false h4, decide_eq_true (show 1 ≤ s by omega), decide_eq_true (show s ≤ 8 by omega)]
 by_cases h5 : ((t.length : Nat) : Int) > 100
 ·rw [decide_eq_true h5, decide_eq_false (show ¬ ((t.length : Nat) : Int) ≤ 100 by omega)]
  cases aG a <;> cases aG b <;> cases aG d <;> cases aT t <;> rfl
 rw [decide_eq_false h5, decide_eq_true (show ((t.length : Nat) : Int) ≤ 100 by omega)]
 unfold jG
 generalize decide (((t.length : Nat) : Int) > 0) = n
 generalize (a == 0) = x
 generalize (b == 0) = y
 generalize (d == 0) = z
 generalize aT t = p
 cases aG a <;> cases aG b <;> cases aG d <;> cases p <;> first | rfl | (cases x <;> cases y <;> cases z <;> cases n <;> rfl)
theorem ahI (s a b d : Int) (t : List Int) (K : aj → Option aj) : dL cO true F.dw [.a (gV.cells .no (13, s, a, b, d, t))] K =
 (bif (decide (s < 1)) then K ((.s (.bool false)), []) else (bif (decide (s > 8)) then K ((.s (.bool false)), []) else (bif (!(aG a)) then K ((.s (.bool false)), []) else (bif (!(aG b)) then K ((.s (.bool false)), []) else (bif (!(aG d)) then K ((.s (.bool false)), []) else (bif aO t then (bif (!(aT t)) then K ((.s (.bool false)), []) else (bif (decide (((List.length t : Nat) : Int) > 100)) then K ((.s (.bool false)), []) else (bif (decide (((List.length t : Nat) : Int) > 0)) then K ((.s (.bool false)), []) else K ((.s (.bool true)), [])))) else none)))))) := by kernel_rfl
theorem ahJ (s a b d : Int) (t : List Int) (h : aO t = true) (K : aj → Option aj) : dL cO true F.dw [.a (gV.cells .no (13, s, a, b, d, t))] K = K (bl (dB (13, s, a, b, d, t)), []) := by
 refine (ahI s a b d t K).trans ?_
 unfold dB
 simp only [bne, h]
 by_cases h3 : s < 1
 ·rw [decide_eq_true h3, decide_eq_false (show ¬ 1 ≤ s by omega)]; rfl
 by_cases h4 : s > 8
 ·rw [decide_eq_false h3, decide_eq_true h4, decide_eq_true (show 1 ≤ s by omega), decide_eq_false (show ¬ s ≤ 8 by omega)]; rfl
 rw [decide_eq_false h3, decide_eq_false h4, decide_eq_true (show 1 ≤ s by omega), decide_eq_true (show s ≤ 8 by omega)]
 by_cases h5 : ((t.length : Nat) : Int) > 100
 ·rw [decide_eq_true h5, decide_eq_false (show ¬ ((t.length : Nat) : Int) ≤ 100 by omega)]
  cases aG a <;> cases aG b <;> cases aG d <;> cases aT t <;> rfl
 rw [decide_eq_false h5, decide_eq_true (show ((t.length : Nat) : Int) ≤ 100 by omega)]
 unfold jG
 generalize decide (((t.length : Nat) : Int) > 0) = n
 generalize (a == 0) = x
 generalize (b == 0) = y
 generalize (d == 0) = z
 generalize aT t = p
 cases aG a <;> cases aG b <;> cases aG d <;> cases p <;> first | rfl | (cases x <;> cases y <;> cases z <;> cases n <;> rfl)
theorem ahK (s a b d : Int) (t : List Int) (K : aj → Option aj) : dL cO true F.dw [.a (gV.cells .no (14, s, a, b, d, t))] K =
 (bif (decide (s < 1)) then K ((.s (.bool false)), []) else (bif (decide (s > 8)) then K ((.s (.bool false)), []) else (bif (!(aG a)) then K ((.s (.bool false)), []) else (bif (!(aG b)) then K ((.s (.bool false)), []) else (bif (!(aG d)) then K ((.s (.bool false)), []) else (bif aO t then (bif (!(aT t)) then K ((.s (.bool false)), []) else (bif (decide (((List.length t : Nat) : Int) > 100)) then K ((.s (.bool false)), []) else (bif (d != (0 : Int)) then K ((.s (.bool false)), []) else (bif (decide (((List.length t : Nat) : Int) > 0)) then K ((.s (.bool false)), []) else K ((.s (.bool true)), []))))) else none)))))) := by kernel_rfl
theorem ahL (s a b d : Int) (t : List Int) (h : aO t = true) (K : aj → Option aj) : dL cO true F.dw [.a (gV.cells .no (14, s, a, b, d, t))] K = K (bl (dB (14, s, a, b, d, t)), []) := by
 refine (ahK s a b d t K).trans ?_
 unfold dB
 simp only [bne, h]
 by_cases h3 : s < 1
 ·rw [decide_eq_true h3, decide_eq_false (show ¬ 1 ≤ s by omega)]; rfl
 by_cases h4 : s > 8
 ·rw [decide_eq_false h3, decide_eq_true h4, decide_eq_true (show 1 ≤ s by omega), decide_eq_false (show ¬ s ≤ 8 by omega)]; rfl
 rw [decide_eq_false h3, decide_eq_false h4, decide_eq_true (show 1 ≤ s by omega), decide_eq_true (show s ≤ 8 by omega)]
 by_cases h5 : ((t.length : Nat) : Int) > 100
 ·rw [decide_eq_true h5, decide_eq_false (show ¬ ((t.length : Nat) : Int) ≤ 100 by omega)]
  cases aG a <;> cases aG b <;> cases aG d <;> cases aT t <;> rfl
 rw [decide_eq_false h5, decide_eq_true (show ((t.length : Nat) : Int) ≤ 100 by omega)]
 unfold jG
 generalize decide (((t.length : Nat) : Int) > 0) = n
 generalize (a == 0) = x
 generalize (b == 0) = y
 generalize (d == 0) = z
 generalize aT t = p
 cases aG a <;> cases aG b <;> cases aG d <;> cases p <;> first | rfl | (cases x <;> cases y <;> cases z <;> cases n <;> rfl)
theorem ahM (s a b d : Int) (t : List Int) (K : aj → Option aj) : dL cO true F.dw [.a (gV.cells .no (15, s, a, b, d, t))] K =
 (bif (decide (s < 1)) then K ((.s (.bool false)), []) else (bif (decide (s > 8)) then K ((.s (.bool false)), []) else (bif (!(aG a)) then K ((.s (.bool false)), []) else (bif (!(aG b)) then K ((.s (.bool false)), []) else (bif (!(aG d)) then K ((.s (.bool false)), []) else (bif aO t then (bif (!(aT t)) then K ((.s (.bool false)), []) else (bif (decide (((List.length t : Nat) : Int) > 100)) then K ((.s (.bool false)), []) else (bif (a != (0 : Int)) then K ((.s (.bool false)), []) else (bif (b != (0 : Int)) then K ((.s (.bool false)), []) else (bif (d != (0 : Int)) then K ((.s (.bool false)), []) else (bif (decide (((List.length t : Nat) : Int) > 0)) then K ((.s (.bool false)), []) else K ((.s (.bool true)), []))))))) else none)))))) := by kernel_rfl
theorem ahN (s a b d : Int) (t : List Int) (h : aO t = true) (K : aj → Option aj) : dL cO true F.dw [.a (gV.cells .no (15, s, a, b, d, t))] K = K (bl (dB (15, s, a, b, d, t)), []) := by
 refine (ahM s a b d t K).trans ?_
 unfold dB
 simp only [bne, h]
 by_cases h3 : s < 1
 ·rw [decide_eq_true h3, decide_eq_false (show ¬ 1 ≤ s by omega)]; rfl
 by_cases h4 : s > 8
 ·rw [decide_eq_false h3, decide_eq_true h4, decide_eq_true (show 1 ≤ s by omega), decide_eq_false (show ¬ s ≤ 8 by omega)]; rfl
 rw [decide_eq_false h3, decide_eq_false h4, decide_eq_true (show 1 ≤ s by omega), decide_eq_true (show s ≤ 8 by omega)]
 by_cases h5 : ((t.length : Nat) : Int) > 100
 ·rw [decide_eq_true h5, decide_eq_false (show ¬ ((t.length : Nat) : Int) ≤ 100 by omega)]
  cases aG a <;> cases aG b <;> cases aG d <;> cases aT t <;> rfl
 rw [decide_eq_false h5, decide_eq_true (show ((t.length : Nat) : Int) ≤ 100 by omega)]
 unfold jG
 generalize decide (((t.length : Nat) : Int) > 0) = n
 generalize (a == 0) = x
 generalize (b == 0) = y
 generalize (d == 0) = z
 generalize aT t = p
 cases aG a <;> cases aG b <;> cases aG d <;> cases p <;> first | rfl | (cases x <;> cases y <;> cases z <;> cases n <;> rfl)
theorem ahO (s a b d : Int) (t : List Int) (K : aj → Option aj) : dL cO true F.dw [.a (gV.cells .no (16, s, a, b, d, t))] K =
 (bif (decide (s < 1)) then K ((.s (.bool false)), []) else (bif (decide (s > 8)) then K ((.s (.bool false)), []) else (bif (!(aG a)) then K ((.s (.bool false)), []) else (bif (!(aG b)) then K ((.s (.bool false)), []) else (bif (!(aG d)) then K ((.s (.bool false)), []) else (bif aO t then (bif (!(aT t)) then K ((.s (.bool false)), []) else (bif (decide (((List.length t : Nat) : Int) > 100)) then K ((.s (.bool false)), []) else (bif (a != (0 : Int)) then K ((.s (.bool false)), []) else (bif (b != (0 : Int)) then K ((.s (.bool false)), []) else (bif (d != (0 : Int)) then K ((.s (.bool false)), []) else (bif (decide (((List.length t : Nat) : Int) > 0)) then K ((.s (.bool false)), []) else K ((.s (.bool true)), []))))))) else none)))))) := by kernel_rfl
theorem ahP (s a b d : Int) (t : List Int) (h : aO t = true) (K : aj → Option aj) : dL cO true F.dw [.a (gV.cells .no (16, s, a, b, d, t))] K = K (bl (dB (16, s, a, b, d, t)), []) := by
 refine (ahO s a b d t K).trans ?_
 unfold dB
 simp only [bne, h]
 by_cases h3 : s < 1
 ·rw [decide_eq_true h3, decide_eq_false (show ¬ 1 ≤ s by omega)]; rfl
 by_cases h4 : s > 8
 ·rw [decide_eq_false h3, decide_eq_true h4, decide_eq_true (show 1 ≤ s by omega), decide_eq_false (show ¬ s ≤ 8 by omega)]; rfl
 rw [decide_eq_false h3, decide_eq_false h4, decide_eq_true (show 1 ≤ s by omega), decide_eq_true (show s ≤ 8 by omega)]
 by_cases h5 : ((t.length : Nat) : Int) > 100
 ·rw [decide_eq_true h5, decide_eq_false (show ¬ ((t.length : Nat) : Int) ≤ 100 by omega)]
  cases aG a <;> cases aG b <;> cases aG d <;> cases aT t <;> rfl
 rw [decide_eq_false h5, decide_eq_true (show ((t.length : Nat) : Int) ≤ 100 by omega)]
 unfold jG
 generalize decide (((t.length : Nat) : Int) > 0) = n
 generalize (a == 0) = x
 generalize (b == 0) = y
 generalize (d == 0) = z
 generalize aT t = p
 cases aG a <;> cases aG b <;> cases aG d <;> cases p <;> first | rfl | (cases x <;> cases y <;> cases z <;> cases n <;> rfl)
theorem aoS (r : uD) (h : aO r.2.2.2.2.2 = true) (K : aj → Option aj) : ∃ G', aV prog I N.dw true G' ∧ G' [.a (gV.cells .no r)] K = K (bl (dB r), []) := by
 obtain ⟨k, s, a, b, d, t⟩ := r
 by_cases h1 : k < 1
 ·refine ⟨_, aai, (adA (k, s, a, b, d, t) K).trans ?_⟩
  unfold dB
  rw [decide_eq_true h1, decide_eq_false (show ¬ 1 ≤ k by omega)]; rfl
 by_cases h2 : k > 16
 ·refine ⟨_, aai, (adA (k, s, a, b, d, t) K).trans ?_⟩
  unfold dB
  rw [decide_eq_false h1, decide_eq_true h2, decide_eq_true (show 1 ≤ k by omega), decide_eq_false (show ¬ k ≤ 16 by omega)]; rfl
 refine ⟨_, aah, ?_⟩
 rcases kinds (k := k) (by omega) (by omega) with rfl | rfl | rfl | rfl | rfl | rfl | rfl | rfl | rfl | rfl | rfl | rfl | rfl | rfl | rfl | rfl
 ·exact aj7 s a b d t h K
 ·exact aj9 s a b d t h K
 ·exact akc s a b d t h K
 ·exact ake s a b d t h K
 ·exact akg s a b d t h K
 ·exact aki s a b d t h K
 ·exact akk s a b d t h K
 ·exact akm s a b d t h K
 ·exact ako s a b d t h K
 ·exact ahD s a b d t h K
 ·exact ahF s a b d t h K
 ·exact ahH s a b d t h K
 ·exact ahJ s a b d t h K
 ·exact ahL s a b d t h K
 ·exact ahN s a b d t h K
 ·exact ahP s a b d t h K
def Rh : Sm := arU [.a gV] (fun d => aO d.1.2.2.2.2.2) (fun d => bl (dB d.1))
theorem aaj : aV prog I N.dw true Rh := aV.weak (fun ws K q hr => by
 unfold Rh arU at hr
 split at hr
 ·rename_i dd hd
  have hw := al2 _ hd
  replace hr : (bif aO dd.1.2.2.2.2.2 then K (bl (dB dd.1), []) else none) = some q := hr
  cases hp : aO dd.1.2.2.2.2.2 with
  | false => rw [hp] at hr; cases hr
  | true =>
  rw [hp] at hr
  obtain ⟨G', g1, g2⟩ := aoS dd.1 hp K
  exact ⟨G', g1, by rw [hw]; exact g2.trans hr⟩
 ·cases hr) aah.1
end Go.Ev.Seat
end
section
set_option linter.unusedVariables false
namespace Go.Ev
section
variable {α ρ : Type}
def zA (p : α → Bool) (l : List α) : Nat := (l.takeWhile p).length
def monoB (p : α → Bool) (l : List α) : Bool := (l.dropWhile p).all (fun x => !p x)
theorem anG (p : α → Bool) : ∀ l : List α, zA p l ≤ l.length
 | [] => Nat.le_refl _
 | x :: l => by
  unfold zA
  rw [List.takeWhile_cons]
  cases p x with
  | false => simp
  | true => have := anG p l; unfold zA at this; simpa using this
theorem ahQ (p : α → Bool) (z : α) : ∀ (l : List α) (k : Nat), k < zA p l → p (l.getD k z) = true
 | [], k, h => by simp [zA] at h
 | x :: l, k, h => by
  unfold zA at h
  rw [List.takeWhile_cons] at h
  cases hp : p x with
  | false => rw [hp] at h; simp at h
  | true =>
   rw [hp] at h
   cases k with
   | zero => exact hp
   | succ k => exact ahQ p z l k (by unfold zA; simpa using h)
theorem adB (p : α → Bool) (z : α) : ∀ (l : List α) (k : Nat), monoB p l = true → zA p l ≤ k → k < l.length → p (l.getD k z) = false
 | [], k, _, _, h => by simp at h
 | x :: l, k, hm, hc, h => by
  unfold zA at hc
  unfold monoB at hm
  rw [List.takeWhile_cons] at hc
  rw [List.dropWhile_cons] at hm
  cases hp : p x with
  | false =>
   rw [hp] at hm
   simp only [Bool.false_eq_true, if_false, List.all_eq_true] at hm
   have := hm ((x :: l).getD k z) (by rw [getD_lt z h]; exact List.getElem_mem h)
   simpa using this
  | true =>
   rw [hp] at hm hc
   cases k with
   | zero => simp at hc
   | succ k => exact adB p z l k (by unfold monoB; simpa using hm) (by unfold zA; simpa using hc) (by simpa using h)
theorem ahR {R : Nat → Int → Int → ρ} {p : α → Bool} {kt : Int → ρ} {l : List α} {z : α}
  (hs : ∀ m (i j : Nat), i < j → j ≤ l.length → R (m + 1) i j = bif p (l.getD ((i + j) / 2) z) then R m (((i + j) / 2 + 1 : Nat) : Int) j else R m i ((((i + j) / 2) : Nat) : Int))
  (he : ∀ m (i : Nat), i ≤ l.length → R (m + 1) i i = kt i) (hm : monoB p l = true) :
  ∀ (m i j : Nat), i ≤ zA p l → zA p l ≤ j → j ≤ l.length → j - i < m → R m i j = kt (zA p l : Nat)
 | 0, i, j, _, _, _, h => absurd h (by omega)
 | m + 1, i, j, h1, h2, h3, h4 => by
  by_cases h : i < j
  ·rw [hs m i j h h3]
   by_cases hc : (i + j) / 2 < zA p l
   ·rw [ahQ p z l _ hc, cond_true]
    exact ahR hs he hm m _ _ (by omega) h2 h3 (by omega)
   ·rw [adB p z l _ hm (by omega) (by omega), cond_false]
    exact ahR hs he hm m _ _ h1 (by omega) (by omega) (by omega)
  ·obtain rfl : i = j := by omega
   rw [he m i h3]
   congr 1; omega
end
def J3 {α : Type} (p q : α → Bool) (z : α) (l : List α) : Bool := Nat.blt (zA p l) l.length && q (l.getD (zA p l) z)
theorem ar4 {i j : Nat} (h : i + j ≤ 4611686018427387904) : IntKind.wrap .i64 (MF .u64 (IntKind.wrap .u64 (IntKind.wrap .i64 (((i : Nat) : Int) + ((j : Nat) : Int)))) 1) = (((i + j) / 2 : Nat) : Int) := by
 have e : IntKind.u64.wrap (((i + j : Nat) : Int)) = ((i + j : Nat) : Int) := by
  have : IntKind.u64.wrap (((i + j : Nat) : Int)) = ((i + j : Nat) : Int) % 18446744073709551616 := by
   simp only [IntKind.wrap, IntKind.bits, IntKind.signed]; simp
  rw [this]; omega
 rw [wrap_in (n := ((i : Nat) : Int) + ((j : Nat) : Int)) (by omega) (by omega), ← Int.natCast_add, e]
 have e2 : MF .u64 (((i + j : Nat) : Int)) 1 = (((i + j) / 2 : Nat) : Int) := by
  unfold MF
  show Int.fdiv (((i + j : Nat) : Int)) 2 = _
  rw [Int.fdiv_eq_ediv_of_nonneg _ (by omega)]; omega
 rw [e2, wrap_in (by omega) (by omega)]
def upB {α : Type} (f : α → Int) (l : List α) : Prop := ∀ i j : Nat, (h : i < j) → (hj : j < l.length) → f (l[i]'(by omega)) < f l[j]
theorem Sj {α : Type} {p : α → Bool} : ∀ {l : List α}, (∀ i j : Nat, (h : i < j) → (hj : j < l.length) → p l[j] = true → p (l[i]'(by omega)) = true) → monoB p l = true
 | [], _ => rfl
 | x :: l, h => by
  unfold monoB
  rw [List.dropWhile_cons]
  cases hp : p x with
  | false =>
   simp only [Bool.false_eq_true, if_false, List.all_eq_true]
   intro y hy
   obtain ⟨k, hk, rfl⟩ := List.mem_iff_getElem.1 hy
   cases hy2 : p (x :: l)[k] with
   | false => rfl
   | true =>
    cases k with
    | zero => rw [show (x :: l)[0] = x from rfl] at hy2; rw [hp] at hy2; cases hy2
    | succ k => have := h 0 (k + 1) (by omega) hk hy2; rw [show (x :: l)[0] = x from rfl, hp] at this; cases this
  | true =>
   simp only [if_true]
   exact Sj (l := l) (fun i j hij hj hpj => h (i + 1) (j + 1) (by omega) (by simp; omega) hpj)
end Go.Ev
end
section
set_option linter.unusedVariables false
namespace Go.Ev.Seat
open Go.RowKit
def iQ (d : bT) (v : Int) : Bool := jk d && decide (0 ≤ v) && decide (v ≤ ((d.2.2.1.length : Nat) : Int))
theorem FY {d : bT} {v : Int} : iQ d v = true ↔ jk d = true ∧ 0 ≤ v ∧ v ≤ ((d.2.2.1.length : Nat) : Int) := by
 unfold iQ; simp only [Bool.and_eq_true, decide_eq_true_eq]
 exact ⟨fun ⟨⟨a, b⟩, c⟩ => ⟨a, b, c⟩, fun ⟨a, b, c⟩ => ⟨⟨a, b⟩, c⟩⟩
def zB (d : bT) (v : Int) : List Int := bif iQ d v then (aU d.1 (bF (d.2.2.1.take v.toNat))).1 else []
def kG (d : bT) (v : Int) : List ay := bif iQ d v then bF (d.2.2.1.drop v.toNat) else []
theorem amo {t : List Int} {l : List au} (h : uH t l = true) : ∀ i j : Nat, (hij : i < j) → (hj : j < l.length) → (l[i]'(by omega)).1 < l[j].1 := by
 unfold uH at h
 rw [Bool.and_eq_true] at h
 have hall := H7.1 h.2
 intro i j hij
 induction j with
 | zero => omega
 | succ j ih =>
  intro hj
  have h1 := hall (j + 1) hj
  unfold ou at h1
  rw [Bool.and_eq_true, Bool.or_eq_true, decide_eq_true_iff, getD_lt _ hj, show j + 1 - 1 = j from rfl, getD_lt _ (show j < l.length by omega)] at h1
  have h2 : l[j].1 < l[j + 1].1 := by
   rcases h1.2 with h | h
   ·cases h
   ·exact h
  rcases Nat.lt_or_ge i j with hlt | hge
  ·have := ih hlt (by omega); omega
  ·obtain rfl : i = j := by omega
   exact h2
theorem anH (a b : Int) : decide (zY a b < 0) = decide (a < b) := by
 rcases Lj a b with ⟨h, e⟩ | ⟨h, e⟩ | ⟨h, e⟩ <;> rw [e, Bool.eq_iff_iff, decide_eq_true_iff, decide_eq_true_iff] <;> omega
theorem aqN (a b : Int) : (zY a b == 0) = (a == b) := by
 rcases Lj a b with ⟨h, e⟩ | ⟨h, e⟩ | ⟨h, e⟩ <;> rw [e, Bool.eq_iff_iff, beq_iff_eq, beq_iff_eq] <;> omega
theorem anI {α : Type} {f : α → Int} {l : List α} (h : ∀ i j : Nat, (hij : i < j) → (hj : j < l.length) → f (l[i]'(by omega)) < f l[j]) (s : Int) : monoB (fun x => decide (zY (f x) s < 0)) l = true := by
 refine Sj (fun i j hij hj hp => ?_)
 simp only [anH, decide_eq_true_iff] at hp ⊢
 have := h i j hij hj
 omega
theorem aqO {α : Type} {f : α → Int} {l : List α} (z : α) (h : ∀ i j : Nat, (hij : i < j) → (hj : j < l.length) → f (l[i]'(by omega)) < f l[j]) (s : Int) :
  zW (fun x => f x == s) l = bif J3 (fun x => decide (zY (f x) s < 0)) (fun x => zY (f x) s == 0) z l then ((zA (fun x => decide (zY (f x) s < 0)) l : Nat) : Int) else -1 := by
 have hm := anI h s
 have hin := fun k hk => ahQ (fun x => decide (zY (f x) s < 0)) z l k hk
 have hout := fun k h1 h2 => adB (fun x => decide (zY (f x) s < 0)) z l k hm h1 h2
 unfold J3
 generalize zA (fun x => decide (zY (f x) s < 0)) l = c at *
 simp only [anH, aqN] at hin hout ⊢
 by_cases hf : c < l.length ∧ f (l.getD c z) = s
 ·obtain ⟨h1, h2⟩ := hf
  rw [show Nat.blt c l.length = true from Nat.ble_eq_true_of_le h1, show (f (l.getD c z) == s) = true from beq_iff_eq.2 h2]
  rw [getD_lt z h1] at h2
  have e : l.findIdx? (fun x => f x == s) = some c := by
   rw [List.findIdx?_eq_some_iff_getElem]
   refine ⟨h1, beq_iff_eq.2 h2, fun j hj => ?_⟩
   have := hin j hj
   rw [getD_lt z (by omega), decide_eq_true_iff] at this
   rw [Bool.not_eq_true, beq_eq_false_iff_ne]
   omega
  unfold zW; rw [e]; rfl
 ·have e0 : (Nat.blt c l.length && (f (l.getD c z) == s)) = false := by
   rw [Bool.eq_false_iff]
   intro q
   rw [Bool.and_eq_true, beq_iff_eq] at q
   exact hf ⟨Nat.le_of_ble_eq_true q.1, q.2⟩
  rw [e0]
  have e : l.findIdx? (fun x => f x == s) = none := by
   rw [List.findIdx?_eq_none_iff]
   intro x hx
   obtain ⟨k, hk, rfl⟩ := List.mem_iff_getElem.1 hx
   rw [beq_eq_false_iff_ne]
   intro hs
   rcases Nat.lt_trichotomy k c with hlt | rfl | hgt
   ·have := hin k hlt
    rw [getD_lt z hk, decide_eq_true_iff] at this
    omega
   ·exact hf ⟨hk, by rw [getD_lt z hk]; exact hs⟩
   ·have := hout c (Nat.le_refl _) (by omega)
    rw [getD_lt z (by omega), decide_eq_false_iff_not] at this
    have := h c k hgt hk
    omega
  unfold zW; rw [e]; rfl
end Go.Ev.Seat
end
section
set_option linter.unusedVariables false
namespace Go.Ev
open Go.RowKit
def fG (k : Int) : Bool := decide ((3 : Int) ≤ k) && decide (k ≤ (5 : Int))
theorem ae6 (k : Int) : List.any ((3 : Int) :: ((4 : Int) :: ((5 : Int) :: ([] : List Int)))) (fun c => (c == k)) = fG k := by
 unfold fG
 simp only [List.any_cons, List.any_nil, Bool.or_false]
 rw [Bool.eq_iff_iff]
 simp only [Bool.or_eq_true, beq_iff_eq, Bool.and_eq_true, decide_eq_true_eq]
 omega
def lY (r : P6) : E3 := (r.2.2.1, bif r.1 != 3 then IntKind.wrap .i64 (r.2.2.2.1 - r.2.2.1) else 0, r.2.2.2.2.2)
def InT (t : List Int) (e : E3) : Prop := 0 ≤ e.1 ∧ 0 ≤ e.2.1 ∧ e.1 + e.2.1 ≤ ((t.length : Nat) : Int) ∧ e.2.2.length ≤ 400
theorem InT.small {t : List Int} {e : E3} (h : InT t e) (ht : t.length ≤ 400) : aZ e = true := by
 obtain ⟨h1, h2, h3, h4⟩ := h
 exact pW.2 ⟨⟨h1, by omega⟩, ⟨h2, by omega⟩, h4⟩
theorem acR.inT {t : List Int} {b : E3} (h : acR t b) : InT t b := by
 have h1 := eU h.a
 have h2 := eU h.b
 exact ⟨h1.1, h.c0, h2.2, ji h.p⟩
theorem anJ {b : E3} {n m p : Int} {r : Bool} (h1 : 0 ≤ b.1) (h2 : 0 ≤ b.2.1) (h3 : b.1 + b.2.1 ≤ n) (hm : m = n - b.2.1 + ((b.2.2.length : Nat) : Int)) (hp : 0 ≤ p) (hn : p ≤ n) : 0 ≤ bZ b p r ∧ bZ b p r ≤ m := by
 rcases acU b p r with ⟨q, w⟩ | ⟨q, w, _, v⟩ | ⟨q, w, _, v⟩ | ⟨q, w, v⟩ <;> omega
theorem InT.moved {t : List Int} {e b : E3} (h : InT t e) (hb : acR t b) : InT (ZU b t) (iW e b) := by
 obtain ⟨h1, h2, h3, h4⟩ := h
 obtain ⟨b1, b2, b3, b4⟩ := hb.inT
 have hl := ahe b1 b2 b3
 have p1 := anJ (p := e.1) (r := true) b1 b2 b3 hl h1 (by omega)
 have p2 := anJ (p := e.1 + e.2.1) (r := false) b1 b2 b3 hl (by omega) h3
 have e2 : (iW e b).2.1 = (bif e.1 == e.1 + e.2.1 then bZ b e.1 true else max (bZ b e.1 true) (bZ b (e.1 + e.2.1) false)) - bZ b e.1 true := rfl
 refine ⟨p1.1, ?_, ?_, h4⟩
 ·rw [e2]
  cases (e.1 == e.1 + e.2.1) with
  | true => rw [cond_true]; omega
  | false => rw [cond_false]; omega
 ·rw [e2]
  show bZ b e.1 true + _ ≤ _
  cases (e.1 == e.1 + e.2.1) with
  | true => rw [cond_true]; omega
  | false => rw [cond_false]; omega
theorem amq {t : List Int} {b : E3} (h : acR t b) : (ZU b t).length ≤ 400 := by
 have := O8 t b
 unfold mX at this
 rw [zO.2 h] at this
 exact this
def kU : List E3 → List Int → Bool
 | [], _ => true
 | b :: l, t => iC t b && kU l (ZU b t)
theorem adC : ∀ (l : List E3) (t : List Int) (n : Nat), (fO l t n).2 = n + l.length → kU l t = true
 | [], _, _, _ => rfl
 | b :: l, t, n, h => by
  simp only [fO] at h
  simp only [kU]
  cases hb : iC t b with
  | false => rw [hb] at h; simp at h
  | true =>
   rw [hb] at h
   exact adC l (ZU b t) (n + 1) (by rw [cond_true] at h; rw [h]; simp; omega)
theorem Sl : ∀ (l : List E3) (t : List Int) (n : Nat), kU l t = true → ∀ l2, kU (l ++ l2) t = kU l2 (fO l t n).1
 | [], _, _, _, _ => rfl
 | b :: l, t, n, h, l2 => by
  simp only [kU, Bool.and_eq_true] at h
  simp only [List.cons_append, kU, fO, h.1, cond_true, Bool.true_and]
  exact Sl l (ZU b t) (n + 1) h.2 l2
theorem Jv : ∀ (l l2 : List E3) (t : List Int), kU (l ++ l2) t = true → kU l t = true
 | [], _, _, _ => rfl
 | b :: l, l2, t, h => by
  simp only [List.cons_append, kU, Bool.and_eq_true] at h ⊢
  exact ⟨h.1, Jv l l2 _ h.2⟩
theorem aak : ∀ (l : List E3) (t : List Int) (e : E3), t.length ≤ 400 → InT t e → kU l t = true → zy l e = (l.foldl iW e, true) ∧ (∀ k, k ≤ l.length → aZ ((l.take k).foldl iW e) = true) ∧ ∀ b ∈ l, aZ b = true
 | [], t, e, ht, he, _ => ⟨rfl, fun k _ => by rw [List.take_nil]; exact he.small ht, fun b hb => by cases hb⟩
 | b :: l, t, e, ht, he, hd => by
  simp only [kU, Bool.and_eq_true] at hd
  have hb := zO.1 hd.1
  obtain ⟨h1, h2, h3⟩ := aak l (ZU b t) (iW e b) (amq hb) (he.moved hb) hd.2
  refine ⟨?_, fun k hk => ?_, fun c hc => ?_⟩
  ·simp only [zy, he.small ht, hb.inT.small ht, Bool.and_self, cond_true, List.foldl_cons]
   exact h1
  ·cases k with
   | zero => exact he.small ht
   | succ k => exact h2 k (by simp at hk; omega)
  ·rcases List.mem_cons.1 hc with rfl | hc
   ·exact hb.inT.small ht
   ·exact h3 c hc
end Go.Ev
namespace Go.Ev.Seat
open Go.RowKit
def uU (d : bT) (r : uD) (v : Int) : ay × Int :=
 bif !(decide (zW (fun m : au => m.1 == r.2.1) d.2.2.2.2.1 ≥ 0)) then ((0, 0, []), 2)
 else bif !(fE (aU d.1 (bF (d.2.2.1.take v.toNat))).1 (lY r)) then ((0, 0, []), 5)
 else ((wZ (lY r) (bF (d.2.2.1.drop v.toNat))).1, 0)
def jv (d : bT) (r : uD) (v : Int) : ay × Int := bif !(iQ d v && dB r && fG r.1) then ((0, 0, []), 1) else uU d r v
def upB (l : List au) : Bool := Ar l.length (fun i => Nat.beq i 0 || decide ((l.getD (i - 1) aC.dflt).1 < (l.getD i aC.dflt).1))
theorem as7 {l : List au} (h : upB l = true) : ∀ i j : Nat, (hij : i < j) → (hj : j < l.length) → (l[i]'(by omega)).1 < l[j].1 := by
 have hall := H7.1 h
 intro i j hij
 induction j with
 | zero => omega
 | succ j ih =>
  intro hj
  have h1 := hall (j + 1) hj
  rw [Bool.or_eq_true, decide_eq_true_iff, getD_lt _ hj, show j + 1 - 1 = j from rfl, getD_lt _ (show j < l.length by omega)] at h1
  have h2 : l[j].1 < l[j + 1].1 := by
   rcases h1 with h | h
   ·cases h
   ·exact h
  rcases Nat.lt_or_ge i j with hlt | hge
  ·have := ih hlt (by omega); omega
  ·obtain rfl : i = j := by omega
   exact h2
theorem akp {t : List Int} {l : List au} (h : uH t l = true) : upB l = true := by
 have hu := amo h
 refine H7.2 (fun i hi => ?_)
 cases i with
 | zero => rfl
 | succ i =>
  rw [Bool.or_eq_true, decide_eq_true_iff, getD_lt _ hi, show i + 1 - 1 = i from rfl, getD_lt _ (show i < l.length by omega)]
  exact .inr (hu i (i + 1) (by omega) hi)
def jc (d : bT) : Bool := aT d.1 && kU (bF d.2.2.1) d.1 && upB d.2.2.2.2.1
theorem amr {d : bT} {k : Nat} (ht : aT d.1 = true) (ha : kU (bF d.2.2.1) d.1 = true) : kU (bF (d.2.2.1.drop k)) (aU d.1 (bF (d.2.2.1.take k))).1 = true := by
 unfold aU
 rw [ht, cond_true]
 have hs : bF d.2.2.1 = bF (d.2.2.1.take k) ++ bF (d.2.2.1.drop k) := by
  unfold bF
  rw [← List.map_append, List.take_append_drop]
 rw [hs] at ha
 have hb := Jv _ _ _ ha
 rw [Sl _ _ 0 hb] at ha
 exact ha
theorem akq {d : bT} (h1 : jk d = true) : aT d.1 = true ∧ kU (bF d.2.2.1) d.1 = true := by
 have hc : xG d.1 d.2.1 d.2.2.1 = true ∧ aT d.1 = true := by
  unfold jk at h1
  simp only [Bool.and_eq_true] at h1
  exact ⟨h1.1.1.1.2, h1.1.1.1.1⟩
 obtain ⟨hc, ht⟩ := hc
 refine ⟨ht, ?_⟩
 unfold xG at hc
 simp only [Bool.and_eq_true, beq_iff_eq] at hc
 have hn := hc.1.2
 unfold aU at hn
 rw [ht, cond_true] at hn
 refine adC _ _ 0 ?_
 have : (bF d.2.2.1).length = d.2.2.1.length := by unfold bF; rw [List.length_map]
 have hn : (((fO (bF d.2.2.1) d.1 0).2 : Nat) : Int) = ((d.2.2.1.length : Nat) : Int) := hn
 omega
theorem ams {d : bT} (h1 : jk d = true) : jc d = true := by
 have h2 := akq h1
 unfold jc
 rw [h2.1, h2.2]
 unfold jk at h1
 simp only [Bool.and_eq_true] at h1
 rw [akp h1.1.2]; rfl
theorem aqP {t : List Int} {e : E3} (h : fE t e = true) : InT t e := by
 unfold fE at h
 simp only [Bool.and_eq_true, decide_eq_true_eq] at h
 obtain ⟨⟨⟨⟨h1, h2⟩, h3⟩, h4⟩, h5⟩ := h
 have r1 := eU h1
 exact ⟨r1.1, h2, by omega, ji h5⟩
end Go.Ev.Seat
end
section
set_option linter.unusedVariables false
namespace Go.Ev.Seat
open Go.RowKit
def iL (a b : ay) : Bool := decide (a = b)
theorem Sr (a b : ay) : iL a b = ((a.1 == b.1) && ((a.2.1 == b.2.1) && decide (a.2.2 = b.2.2))) := by
 unfold iL
 obtain ⟨a1, a2, a3⟩ := a
 obtain ⟨b1, b2, b3⟩ := b
 rw [Bool.eq_iff_iff]
 simp only [decide_eq_true_eq, Bool.and_eq_true, beq_iff_eq, Prod.mk.injEq]
def jZ (o : iP) : uD := (o.1, o.2.1, o.2.2.1, o.2.2.2.1, o.2.2.2.2.1, o.2.2.2.2.2.1)
def gY (o : iP) : Int := o.2.2.2.2.2.2.1
def bP (o : iP) : Int := o.2.2.2.2.2.2.2.1
def bJ (o : iP) : Int := o.2.2.2.2.2.2.2.2.1
def jR (o : iP) : Int := o.2.2.2.2.2.2.2.2.2.1
def uV (o : iP) : ay := o.2.2.2.2.2.2.2.2.2.2
def Bo (o : iP) : Bool := (gY o == 0) && (bP o == 0) && (bJ o == 0) && (jR o == 0) && iL (uV o) (0, 0, [])
def sK (m : uF) : bT := (m.1, m.2.1, m.2.2.1, m.2.2.2.1, m.2.2.2.2.1, m.2.2.2.2.2.1)
def opsOf (m : uF) : List iP := m.2.2.2.2.2.2
def Bq (d : bT) (v : Int) : bT := (d.1, d.2.1, d.2.2.1.take v.toNat, d.2.2.2)
def Bv (d : bT) (o : iP) : Bool := dB (jZ o) && (Bo o || (fG o.1 && (decide (1 ≤ gY o) && decide (gY o ≤ 2)) && (decide (0 ≤ bP o) && decide (bP o ≤ bJ o)) && (decide (0 ≤ bJ o) && decide (bJ o ≤ ((d.2.2.1.length : Nat) : Int))) && (decide (0 ≤ jR o) && decide (jR o ≤ 7)) &&
 ((uU (Bq d (bJ o)) (jZ o) (bP o)).2 == 0) && iL (uU (Bq d (bJ o)) (jZ o) (bP o)).1 (uV o)))
def Lp (d : bT) (l : List iP) (i : Nat) : Bool := Bv d (l.getD i bf.dflt) && (Nat.beq i 0 || decide ((l.getD (i - 1) bf.dflt).2.1 < (l.getD i bf.dflt).2.1))
def wB (m : uF) : Bool := jk (sK m) && Ar (opsOf m).length (Lp (sK m) (opsOf m))
theorem adD {P : List Int → Prop} (h0 : P []) : ∀ (l : List E3) (e : E3), P e.2.2 → P (zy l e).1.2.2
 | [], e, h => h
 | b :: l, e, h => by
  simp only [zy]
  cases (aZ e && aZ b) with
  | false => exact h0
  | true => exact adD h0 l (iW e b) h
theorem agf {d : bT} {r : uD} {v : Int} (h : aO r.2.2.2.2.2 = true) : aO (uU d r v).1.2.2 = true := by
 unfold uU
 cases (!(decide (zW (fun m : au => m.1 == r.2.1) d.2.2.2.2.1 ≥ 0))) with
 | true => rfl
 | false =>
 cases (!(fE (aU d.1 (bF (d.2.2.1.take v.toNat))).1 (lY r))) with
 | true => rfl
 | false =>
 show aO (wZ (lY r) (bF (d.2.2.1.drop v.toNat))).1.2.2 = true
 unfold wZ
 cases aZ (lY r) with
 | false => rfl
 | true => exact adD (P := fun x => aO x = true) rfl (bF (d.2.2.1.drop v.toNat)) (lY r) h
theorem ar5 {d : bT} {v : Int} (h : cZ bH d = true) : cZ bH (Bq d v) = true := by
 obtain ⟨st, tx, lg, rest⟩ := d
 have h1 : fF (.sl ah) st = true := kR h
 have h2 : fF (.sl ah) tx = true := kR (aX h)
 have h3 : fF (.sl aF) lg = true := kR (aX (aX h))
 have h4 := aX (aX (aX h))
 exact (Bool.and_eq_true _ _).mpr ⟨h1, (Bool.and_eq_true _ _).mpr ⟨h2, (Bool.and_eq_true _ _).mpr ⟨vS h3 _, h4⟩⟩⟩
theorem amu {d : bT} {v : Int} (h : jc d = true) : jc (Bq d v) = true := by
 unfold jc at h ⊢
 simp only [Bool.and_eq_true] at h ⊢
 obtain ⟨⟨h1, h2⟩, h3⟩ := h
 refine ⟨⟨h1, ?_⟩, h3⟩
 have hs : bF d.2.2.1 = bF (d.2.2.1.take v.toNat) ++ bF (d.2.2.1.drop v.toNat) := by
  unfold bF
  rw [← List.map_append, List.take_append_drop]
 rw [hs] at h2
 exact Jv _ _ _ h2
theorem ahS {o : iP} (h : cZ bf o = true) : aO (jZ o).2.2.2.2.2 = true := Ey (kR (aX (aX (aX (aX (aX h))))))
theorem aqQ {o : iP} (h : cZ bf o = true) : aO (uV o).2.2 = true := Ey (aX (aX (aX (aX (aX (aX (aX (aX (aX (aX (aX (aX h))))))))))))
end Go.Ev.Seat
end
section
namespace Go.Ev.Seat
open Go.RowKit
set_option maxRecDepth 100000
set_option linter.unusedVariables false
set_option linter.unusedSimpArgs false
noncomputable abbrev akr : Env := En [] [] [] [] false 0 []
noncomputable def PX (a : ay) (b : ay) (K : aj → Option aj) : Option aj := (bif (a.1 == b.1) then (bif (a.2.1 == b.2.1) then K ((.s (.bool ((ByteArray.toList (lW a.2.2)) == (ByteArray.toList (lW b.2.2))))), []) else K ((.s (.bool false)), [])) else K ((.s (.bool false)), []))
theorem aks (a : ay) (b : ay) (K : aj → Option aj) : dL akr true F.Gm [.a (aB.cells .no a), .a (aB.cells .no b)] K = PX a b K := by kernel_rfl
def PY : Sm := bg [.a aB, .a aB] (fun d => aO d.1.2.2 && aO d.2.1.2.2) (fun d => (bl (iL d.1 d.2.1), []))
theorem akt (a : ay) (b : ay) (h : (aO a.2.2 && aO b.2.2) = true) (K : aj → Option aj) : PX a b K = K (bl (iL a b), []) := by
 obtain ⟨h1, h2⟩ := (Bool.and_eq_true _ _).mp h
 unfold PX
 rw [Sr, VH (fun x hx => mW h1 hx) (fun x hx => mW h2 hx)]
 cases (a.1 == b.1) <;> cases (a.2.1 == b.2.1) <;> rfl
theorem Sv : aV prog I N.Gm true PY := kD (aW bn (l := []) (p := []) (ls := []) (lend := []) (focus := false) (fuel := 0) (give := []) (fn := F.Gm) (by kernel_rfl) (by kernel_rfl) (by kernel_rfl) (by kernel_rfl) (cs := []) (by kernel_rfl) aK) (aI fun d K h => (aks d.1 d.2.1 K).trans (akt d.1 d.2.1 h K))
end Go.Ev.Seat
end
section
namespace Go.Ev.Seat
open Go.RowKit
set_option maxRecDepth 100000
set_option linter.unusedVariables false
set_option linter.unusedSimpArgs false
noncomputable abbrev Sz : List (Nat × Bool × Sm) := [(N.Gm, true, PY)]
noncomputable abbrev ahT : Env := En Sz [] [] [] false 0 []
noncomputable def MX (o : iP) (K : aj → Option aj) : Option aj := (bif (o.2.2.2.2.2.2.1 == (0 : Int)) then (bif (o.2.2.2.2.2.2.2.1 == (0 : Int)) then (bif (o.2.2.2.2.2.2.2.2.1 == (0 : Int)) then (bif (o.2.2.2.2.2.2.2.2.2.1 == (0 : Int)) then (bif ((aO o.2.2.2.2.2.2.2.2.2.2.2.2) && (aO ([] : List Int))) then K ((.s (.bool (iL o.2.2.2.2.2.2.2.2.2.2 ((0 : Int), ((0 : Int), ([] : List Int)))))), []) else none) else K ((.s (.bool false)), [])) else K ((.s (.bool false)), [])) else K ((.s (.bool false)), [])) else K ((.s (.bool false)), []))
theorem ahU (o : iP) (K : aj → Option aj) : dL ahT true F.Gz [.a (bf.cells .no o)] K = MX o K := by kernel_rfl
def Wx : Sm := bg [.a bf] (fun d => aO (uV d.1).2.2) (fun d => (bl (Bo d.1), []))
theorem ahV (o : iP) (h : (aO (uV o).2.2) = true) (K : aj → Option aj) : MX o K = K (bl (Bo o), []) := by
 have h : aO o.2.2.2.2.2.2.2.2.2.2.2.2 = true := h
 unfold MX
 rw [h]
 show _ = K (bl ((o.2.2.2.2.2.2.1 == 0) && (o.2.2.2.2.2.2.2.1 == 0) && (o.2.2.2.2.2.2.2.2.1 == 0) && (o.2.2.2.2.2.2.2.2.2.1 == 0) && iL o.2.2.2.2.2.2.2.2.2.2 (0, 0, [])), [])
 cases (o.2.2.2.2.2.2.1 == (0 : Int))
 ·rfl
 cases (o.2.2.2.2.2.2.2.1 == (0 : Int))
 ·rfl
 cases (o.2.2.2.2.2.2.2.2.1 == (0 : Int))
 ·rfl
 cases (o.2.2.2.2.2.2.2.2.2.1 == (0 : Int))
 ·rfl
 rfl
theorem adE : aV prog I N.Gz true Wx := kD (aW (aY Sv bn) (l := Sz) (p := []) (ls := []) (lend := []) (focus := false) (fuel := 0) (give := []) (fn := F.Gz) (by kernel_rfl) (by kernel_rfl) (by kernel_rfl) (by kernel_rfl) (cs := []) (by kernel_rfl) aK) (aI fun d K h => (ahU d.1 K).trans (ahV d.1 h K))
end Go.Ev.Seat
end
section
namespace Go.Ev.Seat
open Go.RowKit
set_option maxRecDepth 100000
set_option linter.unusedVariables false
set_option linter.unusedSimpArgs false
noncomputable abbrev SA : List (Nat × Bool × Sm) := [(N.DK, true, Rf)]
noncomputable abbrev ahW : Env := En SA [] [] [] false 0 []
noncomputable def MZ (r : uD) (K : aj → Option aj) : Option aj := K ((.s (.bool (List.any ((3 : Int) :: ((4 : Int) :: ((5 : Int) :: ([] : List Int)))) (fun c => (c == r.1))))), [])
theorem ahX (r : uD) (K : aj → Option aj) : dL ahW true F.Dc [.a (gV.cells .no r)] K = MZ r K := by kernel_rfl
def Na : Sm := bg [.a gV] (fun d => true) (fun d => (bl (fG d.1.1), []))
theorem ahY (r : uD) (K : aj → Option aj) : MZ r K = K (bl (fG r.1), []) := by
 unfold MZ
 rw [ae6]
 rfl
theorem PZ : aV prog I N.Dc true Na := kD (aW (aY aag bn) (l := SA) (p := []) (ls := []) (lend := []) (focus := false) (fuel := 0) (give := []) (fn := F.Dc) (by kernel_rfl) (by kernel_rfl) (by kernel_rfl) (by kernel_rfl) (cs := []) (by kernel_rfl) aK) (aI fun d K h => (ahX d.1 K).trans (ahY d.1 K))
end Go.Ev.Seat
end
section
set_option linter.unusedVariables false
namespace Go.Ev.Seat
open Go.RowKit
theorem aoT {xs : List Int} (hv : valid xs = true) : bY xs 0 = true := by
 have h := Ua 0 xs.length xs 0 (Nat.le_refl _) hv
 rw [Int.sub_zero] at h
 rw [← h]
 unfold bounds
 split <;> simp
def xg (m : au) : au := (m.1, 0, 0, [], [])
def FZ (d : bT) (v : Int) : bT := (d.1, (aU d.1 (bF (d.2.2.1.take v.toNat))).1, d.2.2.1.take v.toNat, d.2.2.2.1, d.2.2.2.2.1.map xg, [])
theorem Wy : ∀ (l : List E3) (t : List Int) (n : Nat), kU l t = true → (fO l t n).2 = n + l.length
 | [], t, n, _ => rfl
 | b :: l, t, n, h => by
  simp only [kU, Bool.and_eq_true] at h
  simp only [fO]
  rw [h.1, cond_true, Wy l (ZU b t) (n + 1) h.2, List.length_cons]
  omega
theorem ar6 {d : bT} {v : Int} (h : jk d = true) : jk (FZ d v) = true := by
 obtain ⟨ht, ha⟩ := akq h
 have h0 := h
 unfold jk at h
 simp only [Bool.and_eq_true] at h
 obtain ⟨⟨⟨⟨h1, h2⟩, h3⟩, h4⟩, h5⟩ := h
 have hT : aT (aU d.1 (bF (d.2.2.1.take v.toNat))).1 = true := Ib _ ht
 have hz : bY (aU d.1 (bF (d.2.2.1.take v.toNat))).1 0 = true := aoT (pV.1 hT).2
 have hs : bF d.2.2.1 = bF (d.2.2.1.take v.toNat) ++ bF (d.2.2.1.drop v.toNat) := by
  unfold bF
  rw [← List.map_append, List.take_append_drop]
 rw [hs] at ha
 have hb := Jv _ _ _ ha
 unfold jk FZ
 simp only [Bool.and_eq_true]
 refine ⟨⟨⟨⟨h1, ?_⟩, h3⟩, ?_⟩, ?_⟩
 ·unfold xG at h2 ⊢
  simp only [Bool.and_eq_true, decide_eq_true_eq, beq_iff_eq] at h2 ⊢
  obtain ⟨⟨⟨g1, g2⟩, g3⟩, g4⟩ := h2
  refine ⟨⟨⟨?_, ?_⟩, ?_⟩, trivial⟩
  ·rw [List.length_take]; omega
  ·rw [List.all_eq_true] at g2 ⊢
   exact fun x hx => g2 x (List.mem_of_mem_take hx)
  ·unfold aU
   rw [ht, cond_true, Wy _ _ 0 hb]
   unfold bF
   rw [List.length_map, Nat.zero_add]
 ·unfold uH at h4 ⊢
  rw [Bool.and_eq_true] at h4 ⊢
  refine ⟨by rw [List.length_map]; exact h4.1, ?_⟩
  have hall := H7.1 h4.2
  refine H7.2 (fun i hi => ?_)
  rw [List.length_map] at hi
  have hg : ∀ j, j < d.2.2.2.2.1.length → (d.2.2.2.2.1.map xg).getD j zQ = xg (d.2.2.2.2.1.getD j zQ) := fun j hj => by
   rw [getD_lt _ (by rw [List.length_map]; exact hj), getD_lt _ hj, List.getElem_map]
  have hi' := hall i hi
  unfold ou at hi' ⊢
  rw [hg i hi]
  rw [Bool.and_eq_true] at hi' ⊢
  refine ⟨?_, ?_⟩
  ·have hm := hi'.1
   unfold abR at hm ⊢
   simp only [Bool.and_eq_true] at hm
   have hse := hm.1.1.1.1.1
   show (lV (d.2.2.2.2.1.getD i zQ).1 && bY _ 0 && bY _ 0 && jH ([], []) && true && true) = true
   rw [hse, hz]; rfl
  ·cases i with
   | zero => rfl
   | succ i =>
    rw [show i + 1 - 1 = i from rfl] at hi' ⊢
    rw [hg i (by omega)]
    exact hi'.2
 ·rfl
theorem aoU (d : bT) (r : uD) (v f : Int) : uU (FZ d v) r f = uU (Bq d v) r f := by
 have hi : zW (fun m : au => m.1 == r.2.1) (d.2.2.2.2.1.map xg) = zW (fun m : au => m.1 == r.2.1) d.2.2.2.2.1 := by
  unfold zW
  rw [List.findIdx?_map]
  rfl
 unfold uU
 show (bif !(decide (zW (fun m : au => m.1 == r.2.1) (d.2.2.2.2.1.map xg) ≥ 0)) then _ else _) = _
 rw [hi]
 rfl
def ahZ (d : bT) (o : iP) : Bool := bif !(dB (jZ o)) then false else bif Bo o then true else
 bif !(fG o.1) then false else bif decide (gY o < 1) then false else bif decide (gY o > 2) then false else bif decide (bP o < 0) then false else bif decide (bP o > bJ o) then false else
 bif decide (bJ o > ((d.2.2.1.length : Nat) : Int)) then false else bif decide (jR o < 0) then false else bif decide (jR o ≥ 8) then false else
 bif (jv (FZ d (bJ o)) (jZ o) (bP o)).2 != 0 then false else iL (jv (FZ d (bJ o)) (jZ o) (bP o)).1 (uV o)
theorem aoV {d : bT} {o : iP} (hd : jk d = true) : ahZ d o = Bv d o := by
 unfold ahZ Bv
 cases hr : dB (jZ o) with
 | false => rfl
 | true =>
 cases hf : Bo o with
 | true => rfl
 | false =>
 cases he : fG o.1 with
 | false => rfl
 | true =>
 by_cases h1 : 1 ≤ gY o ∧ gY o ≤ 2
 case neg =>
  rw [show (decide (1 ≤ gY o) && decide (gY o ≤ 2)) = false by rw [Bool.eq_false_iff]; intro h; simp only [Bool.and_eq_true, decide_eq_true_eq] at h; exact h1 h]
  by_cases h2 : gY o < 1
  ·rw [decide_eq_true h2]; rfl
  ·rw [decide_eq_false h2, decide_eq_true (show gY o > 2 by omega)]; rfl
 by_cases h2 : 0 ≤ bP o ∧ bP o ≤ bJ o
 case neg =>
  rw [decide_eq_false (show ¬ gY o < 1 by omega), decide_eq_false (show ¬ gY o > 2 by omega), decide_eq_true h1.1, decide_eq_true h1.2]
  rw [show (decide (0 ≤ bP o) && decide (bP o ≤ bJ o)) = false by rw [Bool.eq_false_iff]; intro h; simp only [Bool.and_eq_true, decide_eq_true_eq] at h; exact h2 h]
  by_cases h3 : bP o < 0
  ·rw [decide_eq_true h3]; rfl
  ·rw [decide_eq_false h3, decide_eq_true (show bP o > bJ o by omega)]; rfl
 by_cases h3 : bJ o ≤ ((d.2.2.1.length : Nat) : Int)
 case neg =>
  rw [decide_eq_false (show ¬ gY o < 1 by omega), decide_eq_false (show ¬ gY o > 2 by omega), decide_eq_true h1.1, decide_eq_true h1.2, decide_eq_true h2.1, decide_eq_true h2.2, decide_eq_false (show ¬ bP o < 0 by omega), decide_eq_false (show ¬ bP o > bJ o by omega),
   decide_eq_true (show bJ o > ((d.2.2.1.length : Nat) : Int) by omega), decide_eq_false h3, decide_eq_true (show 0 ≤ bJ o by omega)]
  rfl
 by_cases h4 : 0 ≤ jR o ∧ jR o ≤ 7
 case neg =>
  rw [decide_eq_false (show ¬ gY o < 1 by omega), decide_eq_false (show ¬ gY o > 2 by omega), decide_eq_true h1.1, decide_eq_true h1.2, decide_eq_true h2.1, decide_eq_true h2.2, decide_eq_false (show ¬ bP o < 0 by omega), decide_eq_false (show ¬ bP o > bJ o by omega),
   decide_eq_false (show ¬ bJ o > ((d.2.2.1.length : Nat) : Int) by omega), decide_eq_true h3, decide_eq_true (show 0 ≤ bJ o by omega)]
  rw [show (decide (0 ≤ jR o) && decide (jR o ≤ 7)) = false by rw [Bool.eq_false_iff]; intro h; simp only [Bool.and_eq_true, decide_eq_true_eq] at h; exact h4 h]
  by_cases h5 : jR o < 0
  ·rw [decide_eq_true h5]; rfl
  ·rw [decide_eq_false h5, decide_eq_true (show jR o ≥ 8 by omega)]; rfl
 have hv : iQ (FZ d (bJ o)) (bP o) = true := FY.2 ⟨ar6 hd, h2.1, by
  show bP o ≤ (((d.2.2.1.take (bJ o).toNat).length : Nat) : Int)
  rw [List.length_take]; omega⟩
 have hp : jv (FZ d (bJ o)) (jZ o) (bP o) = uU (Bq d (bJ o)) (jZ o) (bP o) := by
  unfold jv
  rw [hv, hr, show fG (jZ o).1 = true from he]
  exact aoU d (jZ o) (bJ o) (bP o)
 rw [hp, decide_eq_false (show ¬ gY o < 1 by omega), decide_eq_false (show ¬ gY o > 2 by omega), decide_eq_true h1.1, decide_eq_true h1.2, decide_eq_true h2.1, decide_eq_true h2.2, decide_eq_false (show ¬ bP o < 0 by omega), decide_eq_false (show ¬ bP o > bJ o by omega),
  decide_eq_false (show ¬ bJ o > ((d.2.2.1.length : Nat) : Int) by omega), decide_eq_true h3, decide_eq_true (show 0 ≤ bJ o by omega), decide_eq_false (show ¬ jR o < 0 by omega), decide_eq_false (show ¬ jR o ≥ 8 by omega), decide_eq_true h4.1, decide_eq_true h4.2]
 unfold bne
 cases ((uU (Bq d (bJ o)) (jZ o) (bP o)).2 == 0) <;> rfl
theorem agh {d : bT} {o : iP} (h : Bv d o = true) : 1 ≤ o.2.1 ∧ o.2.1 ≤ 8 := by
 unfold Bv at h
 rw [Bool.and_eq_true] at h
 have h := h.1
 unfold dB at h
 simp only [Bool.and_eq_true, decide_eq_true_eq] at h
 exact h.1.1.1.1.1.2
theorem as8 {d : bT} {l : List iP} (h : Ar l.length (Lp d l) = true) : ∀ i j : Nat, (hij : i < j) → (hj : j < l.length) → (l[i]'(by omega)).2.1 < l[j].2.1 := by
 have hall := H7.1 h
 intro i j hij
 induction j with
 | zero => omega
 | succ j ih =>
  intro hj
  have h1 := hall (j + 1) hj
  unfold Lp at h1
  rw [Bool.and_eq_true, Bool.or_eq_true, decide_eq_true_iff, getD_lt _ hj, show j + 1 - 1 = j from rfl, getD_lt _ (show j < l.length by omega)] at h1
  have h2 : l[j].2.1 < l[j + 1].2.1 := by
   rcases h1.2 with h | h
   ·cases h
   ·exact h
  rcases Nat.lt_or_ge i j with hlt | hge
  ·have := ih hlt (by omega); omega
  ·obtain rfl : i = j := by omega
   exact h2
theorem aoW {d : bT} {l : List iP} (h : Ar l.length (Lp d l) = true) : l.length ≤ 8 := by
 have hall := H7.1 h
 have hup := as8 h
 have key : ∀ i : Nat, (hi : i < l.length) → ((i : Nat) : Int) + 1 ≤ l[i].2.1 := by
  intro i
  induction i with
  | zero =>
   intro hi
   have h1 := hall 0 hi
   unfold Lp at h1
   rw [Bool.and_eq_true, getD_lt _ hi] at h1
   have := (agh h1.1).1
   omega
  | succ i ih =>
   intro hi
   have h1 := ih (by omega)
   have h2 := hup i (i + 1) (by omega) hi
   omega
 by_cases h0 : l.length = 0
 ·omega
 ·have hl : l.length - 1 < l.length := by omega
  have h1 := key (l.length - 1) hl
  have h2 := hall (l.length - 1) hl
  unfold Lp at h2
  rw [Bool.and_eq_true, getD_lt _ hl] at h2
  have := (agh h2.1).2
  omega
end Go.Ev.Seat
end
section
set_option linter.unusedVariables false
namespace Go.Ev
open Go.RowKit
mutual
def amv : Plan → Plan
 | .done => .done
 | .take i p => .take i (amv p)
 | .fork f => .fork (as9 f)
def as9 : Forks → Forks
 | .one i p => .one i (amv p)
 | .more i p _ => .one i (amv p)
end
def anK : List (Nat × Bool) → Nat → Bool
 | [], _ => true
 | (j, c) :: l, i => bif Nat.beq i j then c else anK l i
def aoX : List (Nat × Bool) → Prop
 | [] => True
 | (_, c) :: l => c = true ∧ aoX l
theorem auh : aoX [] := trivial
theorem aqR {i : Nat} {c : Bool} {l : List (Nat × Bool)} (h : c = true) (hl : aoX l) : aoX ((i, c) :: l) := ⟨h, hl⟩
theorem agi : ∀ {l : List (Nat × Bool)}, aoX l → ∀ i, anK l i = true
 | [], _, _ => rfl
 | (j, c) :: l, h, i => by
  simp only [anK]
  cases Nat.beq i j with
  | true => exact h.1
  | false => exact agi h.2 i
mutual
noncomputable def ctP (c : Nat → Bool) : Plan → Option aj → Option aj
 | .done, x => x
 | .take _ p, x => ctP c p x
 | .fork f, x => ctF c f x
noncomputable def ctF (c : Nat → Bool) : Forks → Option aj → Option aj
 | .one i p, x => bif c i then ctP c p x else none
 | .more i p f, x => meet (bif c i then ctP c p x else none) (ctF c f x)
end
mutual
theorem ah0 {c : Nat → Bool} (h : ∀ i, c i = true) : (p : Plan) → ∀ x, ctP c p x = x
 | .done, _ => by simp only [ctP]
 | .take _ p, x => by simp only [ctP]; exact ah0 h p x
 | .fork f, x => by simp only [ctP]; exact aqS h f x
theorem aqS {c : Nat → Bool} (h : ∀ i, c i = true) : (f : Forks) → ∀ x, ctF c f x = x
 | .one i p, x => by simp only [ctF]; rw [h i, cond_true]; exact ah0 h p x
 | .more i p f, x => by simp only [ctF]; rw [h i, cond_true, ah0 h p, aqS h f, meet_self]
end
end Go.Ev
end
section
namespace Go.Ev.Seat
open Go.RowKit
set_option maxRecDepth 100000
set_option linter.unusedVariables false
set_option linter.unusedSimpArgs false
noncomputable abbrev WA : List (Nat × Plan × List Nat) := [(1, takeB [0, 1, 2, 3, 5, 6] (.fork (.one 4 (.fork (.one 7 (takeB [8] (.fork (.one 9 (.done)))))))), [])]
noncomputable abbrev aku : Env := En [] WA [] [] false 0 []
noncomputable def P7 (e : ay) (K : aj → Option aj) : Option aj := (bif (Nat.ble (((List.length ([] : List Int)) + (List.length e.2.2)) * 1) 140737488355328) then K ((.a [(.s (.int .i64 e.1)), (.s (.int .i64 e.2.1)), (.l .deep ah (([] : List Int) ++ e.2.2))]), []) else none)
theorem akv (e : ay) (K : aj → Option aj) : dL aku true F.Gq [.a (aB.cells .no e)] K = P7 e K := by kernel_rfl
def P8 : Sm := bg [.a aB] (fun d => Nat.ble d.1.2.2.length 1048576) (fun d => (.a (aB.cells .deep d.1), []))
theorem akw (e : ay) (h : (Nat.ble e.2.2.length 1048576) = true) (K : aj → Option aj) : P7 e K = K (.a (aB.cells .deep e), []) := by
 have hl := Nat.le_of_ble_eq_true h
 unfold P7
 first | rw [Nat.ble_eq_true_of_le (by simp; omega)] | rw [Q9 hl]
 rfl
theorem SB : aV prog I N.Gq true P8 := kD (aW bn (l := []) (p := WA) (ls := []) (lend := []) (focus := false) (fuel := 0) (give := []) (fn := F.Gq) (by kernel_rfl) (by kernel_rfl) (by kernel_rfl) (by kernel_rfl) (cs := []) (by kernel_rfl) aK) (aI fun d K h => (akv d.1 K).trans (akw d.1 h K))
end Go.Ev.Seat
end
section
namespace Go.Ev.Seat
open Go.RowKit
set_option maxRecDepth 100000
set_option linter.unusedVariables false
set_option linter.unusedSimpArgs false
def yN (o0 : List ay) : St := { tm := ([.x, .x, .x, (.w 0)] ++ List.replicate 17 .x), ob := [(0, (.arr true true aB o0))], nx := 1, io := [] }
def wC : Ss := { tm := (.cons (.l .no aB) (.cons (.x) (.cons (.x) (.cons (.w 0) (.cons (.int .i64) (Fj 16)))))), ob := (.arr true true aB .nil), nx := 1, io := .nil }
def aa6 (x0 : List ay) (x4 : Int) (o0 : List ay) : wC.T := ((x0, ((), ((), ((), (x4, xd 16))))), (o0, ()), ())
def qI (x0 : List ay) (x4 : Int) (o0 : List ay) : St := { tm := ([(.l .no aB x0), .x, .x, (.w 0), (.s (.int .i64 x4))] ++ List.replicate 16 .x), ob := [(0, (.arr true true aB o0))], nx := 1, io := [] }
theorem YL (x0 : List ay) (x4 : Int) (o0 : List ay) : wC.mk' (aa6 x0 x4 o0) = (qI x0 x4 o0) := by kernel_rfl
def aa7 (d : wC.T) (f : (List ay) → Int → (List ay) → Option aj) : Option aj := match d with | ((x0, (_, (_, (_, (x4, _))))), (o0, _), _) => f x0 x4 o0
noncomputable def yO (x0 : List ay) (x4 : Int) (o0 : List ay) (lC : (List ay) → Int → (List ay) → Option aj) (k0 : (List ay) → Option aj) : Option aj := (bif (decide (x4 < (((List.length x0) : Nat) : Int))) then (bif ((decide ((0 : Int) ≤ x4)) && (decide (x4 < (((List.length x0) : Nat) : Int)))) then (bif (Nat.ble (List.length (List.getD x0 (Int.toNat x4) (aB.dflt)).2.2) 1048576) then (bif (Nat.ble (((List.length o0) + (List.length ((List.getD x0 (Int.toNat x4) (aB.dflt)) :: []))) * 40) 140737488355328) then (lC x0 (IntKind.wrap .i64 (x4 + (1 : Int))) (o0 ++ ((List.getD x0 (Int.toNat x4) (aB.dflt)) :: []))) else none) else none) else none) else (k0 o0))
noncomputable def qJ : Nat → (List ay) → Int → (List ay) → ((List ay) → Option aj) → Option aj
 | 0, _, _, _, _ => none
 | m + 1, x0, x4, o0, k0 => yO x0 x4 o0 (fun x0 x4 o0 => (qJ m x0 x4 o0 k0)) k0
noncomputable def NH (x0 : List ay) (x4 : Int) (o0 : List ay) (k0 : (List ay) → Option aj) : Option aj := qJ (List.length x0 + x4.toNat + List.length o0 + 2) x0 x4 o0 k0
noncomputable def DZ : dV := (fun (σ : St) (K : Ex → St → Option aj) => (match wC.un σ with | some d => aa7 d (fun x0 x4 o0 => NH x0 x4 o0 (fun o0 => (K (.ext 0) (yN o0)))) | none => none))
noncomputable abbrev WB : List (Nat × Bool × Sm) := [(N.Gq, true, P8)]
noncomputable abbrev P9 : Env := En WB [] [(3, [0,3,4], [2,3], DZ)] [] false 0 []
noncomputable abbrev xQ := rounds (run P9 (aS F.vM 3)) [0,3,4] [2,3]
theorem YM (m : Nat) (x0 : List ay) (x4 : Int) (o0 : List ay) (K : Ex → St → Option aj) : xQ (m + 1) (qI x0 x4 o0) K = yO x0 x4 o0 (fun x0 x4 o0 => (xQ m (qI x0 x4 o0) K)) (fun o0 => (K (.ext 0) (yN o0))) := by kernel_rfl
theorem SC (K : Ex → St → Option aj) : ∀ m : Nat, (∀ (x0 : List ay) (x4 : Int) (o0 : List ay), xQ m (qI x0 x4 o0) K = qJ m x0 x4 o0 (fun o0 => (K (.ext 0) (yN o0))))
 | 0 => (fun _ _ _ => rfl)
 | m + 1 => (fun x0 x4 o0 => (by rw [YM, show (fun x0 x4 o0 => (xQ m (qI x0 x4 o0) K)) = (fun x0 x4 o0 => (qJ m x0 x4 o0 (fun o0 => (K (.ext 0) (yN o0))))) from funext fun x0 => funext fun x4 => funext fun o0 => (SC K m) x0 x4 o0]; rfl))
theorem WC : dJ P9 (aS F.vM 3) := by
 refine dh (n := 3) (F := DZ) (by kernel_rfl) rfl (li := [0,3,4]) (lo := [2,3]) rfl (fun σ K r hr => ?_)
 unfold DZ at hr
 split at hr
 ·rename_i d hd
  rw [Ss.dY hd]
  exact ⟨_, ((congrArg (fun z => xQ _ z K) (YL _ _ _)).trans ((SC K _) _ _ _)).trans hr⟩
 ·cases hr
noncomputable def Qa (l : List ay) (K : aj → Option aj) : Option aj := (NH l (0 : Int) [] (fun y0 => K ((.l .deep aB y0), [])))
theorem akx (l : List ay) (K : aj → Option aj) : dL P9 true F.vM [.l .no aB l] K = Qa l K := by kernel_rfl
def Qb : Sm := bg [.l aB] (fun d => fF (.sl aB) d.1) (fun d => (.l .deep aB d.1, []))
theorem aky (l : List ay) (h : (fF (.sl aB) l) = true) (K : aj → Option aj) : Qa l K = K (.l .deep aB l, []) := by
 have hl := dN h
 unfold Qa
 have q : ∀ (m i : Nat), i ≤ l.length → l.length - i < m → qJ m l ((i : Nat) : Int) (l.take i) (fun y0 => K ((.l .deep aB y0), [])) = K ((.l .deep aB l), []) := by
  intro m
  induction m with
  | zero => intro i _ hm; omega
  | succ m ih =>
   intro i hi hm
   show yO l ((i : Nat) : Int) (l.take i) _ _ = _
   unfold yO
   by_cases hlt : i < l.length
   ·have hx : cZ aB (l.getD i aB.dflt) = true := vP h rfl i
    have hx2 : (fun x : ay => Nat.ble (List.length x.2.2) 1048576) (l.getD i aB.dflt) = true := (fun (x : ay) (hx : cZ aB x = true) => Nat.ble_eq_true_of_le (jW (Ph hx))) _ hx
    have ht := take_snoc aB.dflt hlt
    dsimp only at hx2
    rw [decide_eq_true (show ((i : Nat) : Int) < ((l.length : Nat) : Int) by omega), decide_eq_true (show (0 : Int) ≤ ((i : Nat) : Int) by omega), Int.toNat_natCast, bW (by omega), hx2, Nat.ble_eq_true_of_le (show ((l.take i).length + [l.getD i aB.dflt].length) * 40 ≤ 140737488355328 by simp only [List.length_take, List.length_cons, List.length_nil]; omega), ht]
    exact ih (i + 1) (by omega) (by omega)
   ·obtain rfl : i = l.length := by omega
    rw [decide_eq_false (show ¬ ((l.length : Nat) : Int) < ((l.length : Nat) : Int) by omega), List.take_length]; rfl
 exact q _ 0 (by omega) (by omega)
theorem SE : aV prog I N.vM true Qb := kD (aW (aY SB bn) (l := WB) (p := []) (ls := [(3, [0,3,4], [2,3], DZ)]) (lend := []) (focus := false) (fuel := 0) (give := []) (fn := F.vM) (by kernel_rfl) (by kernel_rfl) (by kernel_rfl) (by kernel_rfl) (cs := [aS F.vM 3]) (by kernel_rfl) (dA WC aK)) (aI fun d K h => (akx d.1 K).trans (aky d.1 h K))
end Go.Ev.Seat
end
section
namespace Go.Ev.Seat
open Go.RowKit
set_option maxRecDepth 100000
set_option linter.unusedVariables false
set_option linter.unusedSimpArgs false
noncomputable abbrev SG : List (Nat × Plan × List Nat) := [(1, takeB [0, 1, 3, 4] (.fork (.one 2 (.fork (.one 5 (takeB [6] (.fork (.one 7 (.done)))))))), [])]
noncomputable abbrev SH : List (Nat × Bool × Sm) := [(N.vM, true, Qb)]
noncomputable abbrev ah1 : Env := En SH SG [] [] false 0 []
noncomputable def Nb (s : FK) (K : aj → Option aj) : Option aj := (bif (fF (Cc.sl aB) s.1) then (bif (fF (Cc.sl aB) s.2) then K ((.a [(.l .deep aB s.1), (.l .deep aB s.2)]), []) else none) else none)
theorem ah2 (s : FK) (K : aj → Option aj) : dL ah1 true F.GY [.a (gU.cells .no s)] K = Nb s K := by kernel_rfl
def WE : Sm := bg [.a gU] (fun d => cZ gU d.1) (fun d => (.a (gU.cells .deep d.1), []))
theorem ah3 (s : FK) (h : (cZ gU s) = true) (K : aj → Option aj) : Nb s K = K (.a (gU.cells .deep s), []) := by
 unfold Nb
 rw [kR h, show fF (Cc.sl aB) s.2 = true from aX h]; rfl
theorem adF : aV prog I N.GY true WE := kD (aW (aY SE bn) (l := SH) (p := SG) (ls := []) (lend := []) (focus := false) (fuel := 0) (give := []) (fn := F.GY) (by kernel_rfl) (by kernel_rfl) (by kernel_rfl) (by kernel_rfl) (cs := []) (by kernel_rfl) aK) (aI fun d K h => (ah2 d.1 K).trans (ah3 d.1 h K))
end Go.Ev.Seat
end
section
namespace Go.Ev.Seat
open Go.RowKit
set_option maxRecDepth 100000
set_option linter.unusedVariables false
set_option linter.unusedSimpArgs false
def yP (b00 : List Int) (b01 : List Int) (b02 : List aA) (aJ : Int) (aN : List au) (aQ : List ak) (b13 : Int) (o8 : Int) (o3 : List Int) (o4 : List Int) (o5 : List aA) (o6 : List au) (o7 : List ak) : St := { tm := ([.x, (.pb 0 0), (.pb 1 0), (.pb 2 0)] ++ List.replicate 70 .x), ob := [(0, (.box [(.l .no ah b00), (.l .no ah b01), (.l .no aF b02), (.s (.int .i64 aJ)), (.l .no aC aN), (.l .no aH aQ)])), (1, (.box [.nl, .nl, .nl, (.s (.int .i64 b13)), .nl, .nl])), (2, (.box [(.w 3), (.w 4), (.w 5), (.s (.int .i64 o8)), (.w 6), (.w 7)])), (3, (.arr true true ah o3)), (4, (.arr true true ah o4)), (5, (.arr true true aF o5)), (6, (.arr true true aC o6)), (7, (.arr true true aH o7))], nx := 8, io := [] }
def wE : Ss := { tm := (.cons (.x) (.cons (.pb 0 0) (.cons (.pb 1 0) (.cons (.pb 2 0) (.cons (.int .i64) (Fj 69)))))), ob := (.box (.cons (.l .no ah) (.cons (.l .no ah) (.cons (.l .no aF) (.cons (.int .i64) (.cons (.l .no aC) (.cons (.l .no aH) .nil)))))) (.box (.cons (.nl) (.cons (.nl) (.cons (.nl) (.cons (.int .i64) (.cons (.nl) (.cons (.nl) .nil)))))) (.box (.cons (.w 3) (.cons (.w 4) (.cons (.w 5) (.cons (.int .i64) (.cons (.w 6) (.cons (.w 7) .nil)))))) (.arr true true ah (.arr true true ah (.arr true true aF (.arr true true aC (.arr true true aH .nil)))))))), nx := 8, io := .nil }
def aa8 (x4 : Int) (b00 : List Int) (b01 : List Int) (b02 : List aA) (aJ : Int) (aN : List au) (aQ : List ak) (b13 : Int) (o8 : Int) (o3 : List Int) (o4 : List Int) (o5 : List aA) (o6 : List au) (o7 : List ak) : wE.T := (((), ((), ((), ((), (x4, xd 69))))), ((b00, (b01, (b02, (aJ, (aN, (aQ, ())))))), (((), ((), ((), (b13, ((), ((), ())))))), (((), ((), ((), (o8, ((), ((), ())))))), (o3, (o4, (o5, (o6, (o7, ())))))))), ())
def qK (x4 : Int) (b00 : List Int) (b01 : List Int) (b02 : List aA) (aJ : Int) (aN : List au) (aQ : List ak) (b13 : Int) (o8 : Int) (o3 : List Int) (o4 : List Int) (o5 : List aA) (o6 : List au) (o7 : List ak) : St := { tm := ([.x, (.pb 0 0), (.pb 1 0), (.pb 2 0), (.s (.int .i64 x4))] ++ List.replicate 69 .x), ob := [(0, (.box [(.l .no ah b00), (.l .no ah b01), (.l .no aF b02), (.s (.int .i64 aJ)), (.l .no aC aN), (.l .no aH aQ)])), (1, (.box [.nl, .nl, .nl, (.s (.int .i64 b13)), .nl, .nl])), (2, (.box [(.w 3), (.w 4), (.w 5), (.s (.int .i64 o8)), (.w 6), (.w 7)])), (3, (.arr true true ah o3)), (4, (.arr true true ah o4)), (5, (.arr true true aF o5)), (6, (.arr true true aC o6)), (7, (.arr true true aH o7))], nx := 8, io := [] }
theorem YN (x4 : Int) (b00 : List Int) (b01 : List Int) (b02 : List aA) (aJ : Int) (aN : List au) (aQ : List ak) (b13 : Int) (o8 : Int) (o3 : List Int) (o4 : List Int) (o5 : List aA) (o6 : List au) (o7 : List ak) : wE.mk' (aa8 x4 b00 b01 b02 aJ aN aQ b13 o8 o3 o4 o5 o6 o7) = (qK x4 b00 b01 b02 aJ aN aQ b13 o8 o3 o4 o5 o6 o7) := by kernel_rfl
def aa9 (d : wE.T) (f : Int → (List Int) → (List Int) → (List aA) → Int → (List au) → (List ak) → Int → Int → (List Int) → (List Int) → (List aA) → (List au) → (List ak) → Option aj) : Option aj := match d with | ((_, (_, (_, (_, (x4, _))))), ((b00, (b01, (b02, (aJ, (aN, (aQ, _)))))), ((_, (_, (_, (b13, (_, (_, _)))))), ((_, (_, (_, (o8, (_, (_, _)))))), (o3, (o4, (o5, (o6, (o7, _)))))))), _) => f x4 b00 b01 b02 aJ aN aQ b13 o8 o3 o4 o5 o6 o7
noncomputable def mM (x4 : Int) (b00 : List Int) (b01 : List Int) (b02 : List aA) (aJ : Int) (aN : List au) (aQ : List ak) (b13 : Int) (o8 : Int) (o3 : List Int) (o4 : List Int) (o5 : List aA) (o6 : List au) (o7 : List ak) (lC : Int → (List Int) → (List Int) → (List aA) → Int → (List au) → (List ak) → Int → Int → (List Int) → (List Int) → (List aA) → (List au) → (List ak) → Option aj) (k0 : (List Int) → (List Int) → (List aA) → Int → (List au) → (List ak) → Int → Int → (List Int) → (List Int) → (List aA) → (List au) → (List ak) → Option aj) : Option aj := (bif (decide (x4 < (((List.length b02) : Nat) : Int))) then (bif ((decide ((0 : Int) ≤ x4)) && (decide (x4 < (((List.length b02) : Nat) : Int)))) then (bif ((decide ((0 : Int) ≤ x4)) && (decide (x4 < (((List.length b02) : Nat) : Int)))) then (bif (Nat.ble (List.length (List.getD b02 (Int.toNat x4) (aF.dflt)).2.2.2) 1048576) then (bif (Nat.ble (((List.length o5) + (List.length ((List.getD b02 (Int.toNat x4) (aF.dflt)) :: []))) * 48) 140737488355328) then (lC (IntKind.wrap .i64 (x4 + (1 : Int))) b00 b01 b02 aJ aN aQ b13 o8 o3 o4 (o5 ++ ((List.getD b02 (Int.toNat x4) (aF.dflt)) :: [])) o6 o7) else none) else none) else none) else none) else (k0 b00 b01 b02 aJ aN aQ b13 o8 o3 o4 o5 o6 o7))
noncomputable def qL : Nat → Int → (List Int) → (List Int) → (List aA) → Int → (List au) → (List ak) → Int → Int → (List Int) → (List Int) → (List aA) → (List au) → (List ak) → ((List Int) → (List Int) → (List aA) → Int → (List au) → (List ak) → Int → Int → (List Int) → (List Int) → (List aA) → (List au) → (List ak) → Option aj) → Option aj
 | 0, _, _, _, _, _, _, _, _, _, _, _, _, _, _, _ => none
 | m + 1, x4, b00, b01, b02, aJ, aN, aQ, b13, o8, o3, o4, o5, o6, o7, k0 => mM x4 b00 b01 b02 aJ aN aQ b13 o8 o3 o4 o5 o6 o7 (fun x4 b00 b01 b02 aJ aN aQ b13 o8 o3 o4 o5 o6 o7 => (qL m x4 b00 b01 b02 aJ aN aQ b13 o8 o3 o4 o5 o6 o7 k0)) k0
noncomputable def ER (x4 : Int) (b00 : List Int) (b01 : List Int) (b02 : List aA) (aJ : Int) (aN : List au) (aQ : List ak) (b13 : Int) (o8 : Int) (o3 : List Int) (o4 : List Int) (o5 : List aA) (o6 : List au) (o7 : List ak) (k0 : (List Int) → (List Int) → (List aA) → Int → (List au) → (List ak) → Int → Int → (List Int) → (List Int) → (List aA) → (List au) → (List ak) → Option aj) : Option aj := qL (x4.toNat + List.length b00 + List.length b01 + List.length b02 + aJ.toNat + List.length aN + List.length aQ + b13.toNat + o8.toNat + List.length o3 + List.length o4 + List.length o5 + List.length o6 + List.length o7 + 2) x4 b00 b01 b02 aJ aN aQ b13 o8 o3 o4 o5 o6 o7 k0
noncomputable def D7 : dV := (fun (σ : St) (K : Ex → St → Option aj) => (match wE.un σ with | some d => aa9 d (fun x4 b00 b01 b02 aJ aN aQ b13 o8 o3 o4 o5 o6 o7 => ER x4 b00 b01 b02 aJ aN aQ b13 o8 o3 o4 o5 o6 o7 (fun b00 b01 b02 aJ aN aQ b13 o8 o3 o4 o5 o6 o7 => (K (.ext 0) (yP b00 b01 b02 aJ aN aQ b13 o8 o3 o4 o5 o6 o7)))) | none => none))
def yQ (aJ : Int) (b13 : Int) (o2 : List Int) (o3 : List Int) (o4 : List aA) (o5 : List au) (o6 : List ak) : St := { tm := ([.x, .x, (.pb 0 0), (.pb 1 0)] ++ List.replicate 70 .x), ob := [(0, (.box [.nl, .nl, .nl, (.s (.int .i64 aJ)), .nl, .nl])), (1, (.box [(.w 2), (.w 3), (.w 4), (.s (.int .i64 b13)), (.w 5), (.w 6)])), (2, (.arr true true ah o2)), (3, (.arr true true ah o3)), (4, (.arr true true aF o4)), (5, (.arr true true aC o5)), (6, (.arr true true aH o6))], nx := 7, io := [] }
def wF : Ss := { tm := (.cons (.x) (.cons (.pb 0 0) (.cons (.pb 1 0) (.cons (.pb 2 0) (.cons (.x) (.cons (.int .i64) (Fj 68))))))), ob := (.box (.cons (.l .no ah) (.cons (.l .no ah) (.cons (.l .no aF) (.cons (.int .i64) (.cons (.l .no aC) (.cons (.l .no aH) .nil)))))) (.box (.cons (.nl) (.cons (.nl) (.cons (.nl) (.cons (.int .i64) (.cons (.nl) (.cons (.nl) .nil)))))) (.box (.cons (.w 3) (.cons (.w 4) (.cons (.w 5) (.cons (.int .i64) (.cons (.w 6) (.cons (.w 7) .nil)))))) (.arr true true ah (.arr true true ah (.arr true true aF (.arr true true aC (.arr true true aH .nil)))))))), nx := 8, io := .nil }
def abb (x5 : Int) (b00 : List Int) (b01 : List Int) (b02 : List aA) (aJ : Int) (aN : List au) (aQ : List ak) (b13 : Int) (o8 : Int) (o3 : List Int) (o4 : List Int) (o5 : List aA) (o6 : List au) (o7 : List ak) : wF.T := (((), ((), ((), ((), ((), (x5, xd 68)))))), ((b00, (b01, (b02, (aJ, (aN, (aQ, ())))))), (((), ((), ((), (b13, ((), ((), ())))))), (((), ((), ((), (o8, ((), ((), ())))))), (o3, (o4, (o5, (o6, (o7, ())))))))), ())
def qM (x5 : Int) (b00 : List Int) (b01 : List Int) (b02 : List aA) (aJ : Int) (aN : List au) (aQ : List ak) (b13 : Int) (o8 : Int) (o3 : List Int) (o4 : List Int) (o5 : List aA) (o6 : List au) (o7 : List ak) : St := { tm := ([.x, (.pb 0 0), (.pb 1 0), (.pb 2 0), .x, (.s (.int .i64 x5))] ++ List.replicate 68 .x), ob := [(0, (.box [(.l .no ah b00), (.l .no ah b01), (.l .no aF b02), (.s (.int .i64 aJ)), (.l .no aC aN), (.l .no aH aQ)])), (1, (.box [.nl, .nl, .nl, (.s (.int .i64 b13)), .nl, .nl])), (2, (.box [(.w 3), (.w 4), (.w 5), (.s (.int .i64 o8)), (.w 6), (.w 7)])), (3, (.arr true true ah o3)), (4, (.arr true true ah o4)), (5, (.arr true true aF o5)), (6, (.arr true true aC o6)), (7, (.arr true true aH o7))], nx := 8, io := [] }
theorem YO (x5 : Int) (b00 : List Int) (b01 : List Int) (b02 : List aA) (aJ : Int) (aN : List au) (aQ : List ak) (b13 : Int) (o8 : Int) (o3 : List Int) (o4 : List Int) (o5 : List aA) (o6 : List au) (o7 : List ak) : wF.mk' (abb x5 b00 b01 b02 aJ aN aQ b13 o8 o3 o4 o5 o6 o7) = (qM x5 b00 b01 b02 aJ aN aQ b13 o8 o3 o4 o5 o6 o7) := by kernel_rfl
def abd (d : wF.T) (f : Int → (List Int) → (List Int) → (List aA) → Int → (List au) → (List ak) → Int → Int → (List Int) → (List Int) → (List aA) → (List au) → (List ak) → Option aj) : Option aj := match d with | ((_, (_, (_, (_, (_, (x5, _)))))), ((b00, (b01, (b02, (aJ, (aN, (aQ, _)))))), ((_, (_, (_, (b13, (_, (_, _)))))), ((_, (_, (_, (o8, (_, (_, _)))))), (o3, (o4, (o5, (o6, (o7, _)))))))), _) => f x5 b00 b01 b02 aJ aN aQ b13 o8 o3 o4 o5 o6 o7
noncomputable def mO (x5 : Int) (b00 : List Int) (b01 : List Int) (b02 : List aA) (aJ : Int) (aN : List au) (aQ : List ak) (b13 : Int) (o8 : Int) (o3 : List Int) (o4 : List Int) (o5 : List aA) (o6 : List au) (o7 : List ak) (lC : Int → (List Int) → (List Int) → (List aA) → Int → (List au) → (List ak) → Int → Int → (List Int) → (List Int) → (List aA) → (List au) → (List ak) → Option aj) (k0 : Int → Int → (List Int) → (List Int) → (List aA) → (List au) → (List ak) → Option aj) : Option aj := (bif (decide (x5 < (((List.length aN) : Nat) : Int))) then (bif ((decide ((0 : Int) ≤ x5)) && (decide (x5 < (((List.length aN) : Nat) : Int)))) then (bif (cZ gU (List.getD aN (Int.toNat x5) (aC.dflt)).2.2.2) then (bif (Nat.ble (((List.length o6) + (List.length ((List.getD aN (Int.toNat x5) (aC.dflt)) :: []))) * 72) 140737488355328) then (lC (IntKind.wrap .i64 (x5 + (1 : Int))) b00 b01 b02 aJ aN aQ b13 o8 o3 o4 o5 (o6 ++ ((List.getD aN (Int.toNat x5) (aC.dflt)) :: [])) o7) else none) else none) else none) else (k0 b13 o8 o3 o4 o5 o6 o7))
noncomputable def qN : Nat → Int → (List Int) → (List Int) → (List aA) → Int → (List au) → (List ak) → Int → Int → (List Int) → (List Int) → (List aA) → (List au) → (List ak) → (Int → Int → (List Int) → (List Int) → (List aA) → (List au) → (List ak) → Option aj) → Option aj
 | 0, _, _, _, _, _, _, _, _, _, _, _, _, _, _, _ => none
 | m + 1, x5, b00, b01, b02, aJ, aN, aQ, b13, o8, o3, o4, o5, o6, o7, k0 => mO x5 b00 b01 b02 aJ aN aQ b13 o8 o3 o4 o5 o6 o7 (fun x5 b00 b01 b02 aJ aN aQ b13 o8 o3 o4 o5 o6 o7 => (qN m x5 b00 b01 b02 aJ aN aQ b13 o8 o3 o4 o5 o6 o7 k0)) k0
noncomputable def ES (x5 : Int) (b00 : List Int) (b01 : List Int) (b02 : List aA) (aJ : Int) (aN : List au) (aQ : List ak) (b13 : Int) (o8 : Int) (o3 : List Int) (o4 : List Int) (o5 : List aA) (o6 : List au) (o7 : List ak) (k0 : Int → Int → (List Int) → (List Int) → (List aA) → (List au) → (List ak) → Option aj) : Option aj := qN (x5.toNat + List.length b00 + List.length b01 + List.length b02 + aJ.toNat + List.length aN + List.length aQ + b13.toNat + o8.toNat + List.length o3 + List.length o4 + List.length o5 + List.length o6 + List.length o7 + 2) x5 b00 b01 b02 aJ aN aQ b13 o8 o3 o4 o5 o6 o7 k0
noncomputable def D8 : dV := (fun (σ : St) (K : Ex → St → Option aj) => (match wF.un σ with | some d => abd d (fun x5 b00 b01 b02 aJ aN aQ b13 o8 o3 o4 o5 o6 o7 => ES x5 b00 b01 b02 aJ aN aQ b13 o8 o3 o4 o5 o6 o7 (fun aJ b13 o2 o3 o4 o5 o6 => (K (.ext 2) (yQ aJ b13 o2 o3 o4 o5 o6)))) | none => none))
noncomputable abbrev Nc : List (Nat × Plan × List Nat) := [(1, takeB [1, 2, 5, 6, 8, 9, 11, 12] (.fork (.more 0 (.fork (.more 3 (.fork (.more 4 (.fork (.more 7 (.fork (.more 10 (.fork (.more 13 (takeB [14] (.fork (.one 15 (.fork (.one 16 (.done)))))) (.one 15 (.fork (.one 13 (takeB [14] (.fork (.one 16 (.done))))))))) (.one 15 (.fork (.one 10 (.fork (.one 13 (takeB [14] (.fork (.one 16 (.done))))))))))) (.more 10 (.fork (.more 7 (.fork (.more 13 (takeB [14] (.fork (.one 15 (.fork (.one 16 (.done)))))) (.one 15 (.fork (.one 13 (takeB [14] (.fork (.one 16 (.done))))))))) (.one 15 (.fork (.one 7 (.fork (.one 13 (takeB [14] (.fork (.one 16 (.done))))))))))) (.one 15 (.fork (.more 7 (.fork (.one 10 (.fork (.one 13 (takeB [14] (.fork (.one 16 (.done)))))))) (.one 10 (.fork (.one 7 (.fork (.one 13 (takeB [14] (.fork (.one 16 (.done))))))))))))))) (.more 10 (.fork (.more 4 (.fork (.more 7 (.fork (.more 13 (takeB [14] (.fork (.one 15 (.fork (.one 16 (.done)))))) (.one 15 (.fork (.one 13 (takeB [14] (.fork (.one 16 (.done))))))))) (.one 15 (.fork (.one 7 (.fork (.one 13 (takeB [14] (.fork (.one 16 (.done))))))))))) (.one 15 (.fork (.one 4 (.fork (.one 7 (.fork (.one 13 (takeB [14] (.fork (.one 16 (.done))))))))))))) (.one 15 (.fork (.more 4 (.fork (.more 7 (.fork (.one 10 (.fork (.one 13 (takeB [14] (.fork (.one 16 (.done)))))))) (.one 10 (.fork (.one 7 (.fork (.one 13 (takeB [14] (.fork (.one 16 (.done))))))))))) (.one 10 (.fork (.one 4 (.fork (.one 7 (.fork (.one 13 (takeB [14] (.fork (.one 16 (.done))))))))))))))))) (.more 4 (.fork (.more 3 (.fork (.more 7 (.fork (.more 10 (.fork (.more 13 (takeB [14] (.fork (.one 15 (.fork (.one 16 (.done)))))) (.one 15 (.fork (.one 13 (takeB [14] (.fork (.one 16 (.done))))))))) (.one 15 (.fork (.one 10 (.fork (.one 13 (takeB [14] (.fork (.one 16 (.done))))))))))) (.more 10 (.fork (.more 7 (.fork (.more 13 (takeB [14] (.fork (.one 15 (.fork (.one 16 (.done)))))) (.one 15 (.fork (.one 13 (takeB [14] (.fork (.one 16 (.done))))))))) (.one 15 (.fork (.one 7 (.fork (.one 13 (takeB [14] (.fork (.one 16 (.done))))))))))) (.one 15 (.fork (.more 7 (.fork (.one 10 (.fork (.one 13 (takeB [14] (.fork (.one 16 (.done)))))))) (.one 10 (.fork (.one 7 (.fork (.one 13 (takeB [14] (.fork (.one 16 (.done))))))))))))))) (.more 10 (.fork (.more 3 (.fork (.more 7 (.fork (.more 13 (takeB [14] (.fork (.one 15 (.fork (.one 16 (.done)))))) (.one 15 (.fork (.one 13 (takeB [14] (.fork (.one 16 (.done))))))))) (.one 15 (.fork (.one 7 (.fork (.one 13 (takeB [14] (.fork (.one 16 (.done))))))))))) (.one 15 (.fork (.one 3 (.fork (.one 7 (.fork (.one 13 (takeB [14] (.fork (.one 16 (.done))))))))))))) (.one 15 (.fork (.more 3 (.fork (.more 7 (.fork (.one 10 (.fork (.one 13 (takeB [14] (.fork (.one 16 (.done)))))))) (.one 10 (.fork (.one 7 (.fork (.one 13 (takeB [14] (.fork (.one 16 (.done))))))))))) (.one 10 (.fork (.one 3 (.fork (.one 7 (.fork (.one 13 (takeB [14] (.fork (.one 16 (.done))))))))))))))))) (.more 10 (.fork (.more 3 (.fork (.more 4 (.fork (.more 7 (.fork (.more 13 (takeB [14] (.fork (.one 15 (.fork (.one 16 (.done)))))) (.one 15 (.fork (.one 13 (takeB [14] (.fork (.one 16 (.done))))))))) (.one 15 (.fork (.one 7 (.fork (.one 13 (takeB [14] (.fork (.one 16 (.done))))))))))) (.one 15 (.fork (.one 4 (.fork (.one 7 (.fork (.one 13 (takeB [14] (.fork (.one 16 (.done))))))))))))) (.more 4 (.fork (.more 3 (.fork (.more 7 (.fork (.more 13 (takeB [14] (.fork (.one 15 (.fork (.one 16 (.done)))))) (.one 15 (.fork (.one 13 (takeB [14] (.fork (.one 16 (.done))))))))) (.one 15 (.fork (.one 7 (.fork (.one 13 (takeB [14] (.fork (.one 16 (.done))))))))))) (.one 15 (.fork (.one 3 (.fork (.one 7 (.fork (.one 13 (takeB [14] (.fork (.one 16 (.done))))))))))))) (.one 15 (.fork (.more 3 (.fork (.one 4 (.fork (.one 7 (.fork (.one 13 (takeB [14] (.fork (.one 16 (.done)))))))))) (.one 4 (.fork (.one 3 (.fork (.one 7 (.fork (.one 13 (takeB [14] (.fork (.one 16 (.done))))))))))))))))) (.one 15 (.fork (.more 3 (.fork (.more 4 (.fork (.more 7 (.fork (.one 10 (.fork (.one 13 (takeB [14] (.fork (.one 16 (.done)))))))) (.one 10 (.fork (.one 7 (.fork (.one 13 (takeB [14] (.fork (.one 16 (.done))))))))))) (.one 10 (.fork (.one 4 (.fork (.one 7 (.fork (.one 13 (takeB [14] (.fork (.one 16 (.done))))))))))))) (.more 4 (.fork (.more 3 (.fork (.more 7 (.fork (.one 10 (.fork (.one 13 (takeB [14] (.fork (.one 16 (.done)))))))) (.one 10 (.fork (.one 7 (.fork (.one 13 (takeB [14] (.fork (.one 16 (.done))))))))))) (.one 10 (.fork (.one 3 (.fork (.one 7 (.fork (.one 13 (takeB [14] (.fork (.one 16 (.done))))))))))))) (.one 10 (.fork (.more 3 (.fork (.one 4 (.fork (.one 7 (.fork (.one 13 (takeB [14] (.fork (.one 16 (.done)))))))))) (.one 4 (.fork (.one 3 (.fork (.one 7 (.fork (.one 13 (takeB [14] (.fork (.one 16 (.done)))))))))))))))))))))) (.more 4 (.fork (.more 0 (.fork (.more 3 (.fork (.more 7 (.fork (.more 10 (.fork (.more 13 (takeB [14] (.fork (.one 15 (.fork (.one 16 (.done)))))) (.one 15 (.fork (.one 13 (takeB [14] (.fork (.one 16 (.done))))))))) (.one 15 (.fork (.one 10 (.fork (.one 13 (takeB [14] (.fork (.one 16 (.done))))))))))) (.more 10 (.fork (.more 7 (.fork (.more 13 (takeB [14] (.fork (.one 15 (.fork (.one 16 (.done)))))) (.one 15 (.fork (.one 13 (takeB [14] (.fork (.one 16 (.done))))))))) (.one 15 (.fork (.one 7 (.fork (.one 13 (takeB [14] (.fork (.one 16 (.done))))))))))) (.one 15 (.fork (.more 7 (.fork (.one 10 (.fork (.one 13 (takeB [14] (.fork (.one 16 (.done)))))))) (.one 10 (.fork (.one 7 (.fork (.one 13 (takeB [14] (.fork (.one 16 (.done))))))))))))))) (.more 10 (.fork (.more 3 (.fork (.more 7 (.fork (.more 13 (takeB [14] (.fork (.one 15 (.fork (.one 16 (.done)))))) (.one 15 (.fork (.one 13 (takeB [14] (.fork (.one 16 (.done))))))))) (.one 15 (.fork (.one 7 (.fork (.one 13 (takeB [14] (.fork (.one 16 (.done))))))))))) (.one 15 (.fork (.one 3 (.fork (.one 7 (.fork (.one 13 (takeB [14] (.fork (.one 16 (.done))))))))))))) (.one 15 (.fork (.more 3 (.fork (.more 7 (.fork (.one 10 (.fork (.one 13 (takeB [14] (.fork (.one 16 (.done)))))))) (.one 10 (.fork (.one 7 (.fork (.one 13 (takeB [14] (.fork (.one 16 (.done))))))))))) (.one 10 (.fork (.one 3 (.fork (.one 7 (.fork (.one 13 (takeB [14] (.fork (.one 16 (.done))))))))))))))))) (.more 10 (.fork (.more 0 (.fork (.more 3 (.fork (.more 7 (.fork (.more 13 (takeB [14] (.fork (.one 15 (.fork (.one 16 (.done)))))) (.one 15 (.fork (.one 13 (takeB [14] (.fork (.one 16 (.done))))))))) (.one 15 (.fork (.one 7 (.fork (.one 13 (takeB [14] (.fork (.one 16 (.done))))))))))) (.one 15 (.fork (.one 3 (.fork (.one 7 (.fork (.one 13 (takeB [14] (.fork (.one 16 (.done))))))))))))) (.one 15 (.fork (.one 0 (.fork (.one 3 (.fork (.one 7 (.fork (.one 13 (takeB [14] (.fork (.one 16 (.done))))))))))))))) (.one 15 (.fork (.more 0 (.fork (.more 3 (.fork (.more 7 (.fork (.one 10 (.fork (.one 13 (takeB [14] (.fork (.one 16 (.done)))))))) (.one 10 (.fork (.one 7 (.fork (.one 13 (takeB [14] (.fork (.one 16 (.done))))))))))) (.one 10 (.fork (.one 3 (.fork (.one 7 (.fork (.one 13 (takeB [14] (.fork (.one 16 (.done))))))))))))) (.one 10 (.fork (.one 0 (.fork (.one 3 (.fork (.one 7 (.fork (.one 13 (takeB [14] (.fork (.one 16 (.done))))))))))))))))))) (.more 10 (.fork (.more 0 (.fork (.more 3 (.fork (.more 4 (.fork (.more 7 (.fork (.more 13 (takeB [14] (.fork (.one 15 (.fork (.one 16 (.done)))))) (.one 15 (.fork (.one 13 (takeB [14] (.fork (.one 16 (.done))))))))) (.one 15 (.fork (.one 7 (.fork (.one 13 (takeB [14] (.fork (.one 16 (.done))))))))))) (.one 15 (.fork (.one 4 (.fork (.one 7 (.fork (.one 13 (takeB [14] (.fork (.one 16 (.done))))))))))))) (.more 4 (.fork (.more 3 (.fork (.more 7 (.fork (.more 13 (takeB [14] (.fork (.one 15 (.fork (.one 16 (.done)))))) (.one 15 (.fork (.one 13 (takeB [14] (.fork (.one 16 (.done))))))))) (.one 15 (.fork (.one 7 (.fork (.one 13 (takeB [14] (.fork (.one 16 (.done))))))))))) (.one 15 (.fork (.one 3 (.fork (.one 7 (.fork (.one 13 (takeB [14] (.fork (.one 16 (.done))))))))))))) (.one 15 (.fork (.more 3 (.fork (.one 4 (.fork (.one 7 (.fork (.one 13 (takeB [14] (.fork (.one 16 (.done)))))))))) (.one 4 (.fork (.one 3 (.fork (.one 7 (.fork (.one 13 (takeB [14] (.fork (.one 16 (.done))))))))))))))))) (.more 4 (.fork (.more 0 (.fork (.more 3 (.fork (.more 7 (.fork (.more 13 (takeB [14] (.fork (.one 15 (.fork (.one 16 (.done)))))) (.one 15 (.fork (.one 13 (takeB [14] (.fork (.one 16 (.done))))))))) (.one 15 (.fork (.one 7 (.fork (.one 13 (takeB [14] (.fork (.one 16 (.done))))))))))) (.one 15 (.fork (.one 3 (.fork (.one 7 (.fork (.one 13 (takeB [14] (.fork (.one 16 (.done))))))))))))) (.one 15 (.fork (.one 0 (.fork (.one 3 (.fork (.one 7 (.fork (.one 13 (takeB [14] (.fork (.one 16 (.done))))))))))))))) (.one 15 (.fork (.more 0 (.fork (.more 3 (.fork (.one 4 (.fork (.one 7 (.fork (.one 13 (takeB [14] (.fork (.one 16 (.done)))))))))) (.one 4 (.fork (.one 3 (.fork (.one 7 (.fork (.one 13 (takeB [14] (.fork (.one 16 (.done))))))))))))) (.one 4 (.fork (.one 0 (.fork (.one 3 (.fork (.one 7 (.fork (.one 13 (takeB [14] (.fork (.one 16 (.done))))))))))))))))))) (.one 15 (.fork (.more 0 (.fork (.more 3 (.fork (.more 4 (.fork (.more 7 (.fork (.one 10 (.fork (.one 13 (takeB [14] (.fork (.one 16 (.done)))))))) (.one 10 (.fork (.one 7 (.fork (.one 13 (takeB [14] (.fork (.one 16 (.done))))))))))) (.one 10 (.fork (.one 4 (.fork (.one 7 (.fork (.one 13 (takeB [14] (.fork (.one 16 (.done))))))))))))) (.more 4 (.fork (.more 3 (.fork (.more 7 (.fork (.one 10 (.fork (.one 13 (takeB [14] (.fork (.one 16 (.done)))))))) (.one 10 (.fork (.one 7 (.fork (.one 13 (takeB [14] (.fork (.one 16 (.done))))))))))) (.one 10 (.fork (.one 3 (.fork (.one 7 (.fork (.one 13 (takeB [14] (.fork (.one 16 (.done))))))))))))) (.one 10 (.fork (.more 3 (.fork (.one 4 (.fork (.one 7 (.fork (.one 13 (takeB [14] (.fork (.one 16 (.done)))))))))) (.one 4 (.fork (.one 3 (.fork (.one 7 (.fork (.one 13 (takeB [14] (.fork (.one 16 (.done))))))))))))))))) (.more 4 (.fork (.more 0 (.fork (.more 3 (.fork (.more 7 (.fork (.one 10 (.fork (.one 13 (takeB [14] (.fork (.one 16 (.done)))))))) (.one 10 (.fork (.one 7 (.fork (.one 13 (takeB [14] (.fork (.one 16 (.done))))))))))) (.one 10 (.fork (.one 3 (.fork (.one 7 (.fork (.one 13 (takeB [14] (.fork (.one 16 (.done))))))))))))) (.one 10 (.fork (.one 0 (.fork (.one 3 (.fork (.one 7 (.fork (.one 13 (takeB [14] (.fork (.one 16 (.done))))))))))))))) (.one 10 (.fork (.more 0 (.fork (.more 3 (.fork (.one 4 (.fork (.one 7 (.fork (.one 13 (takeB [14] (.fork (.one 16 (.done)))))))))) (.one 4 (.fork (.one 3 (.fork (.one 7 (.fork (.one 13 (takeB [14] (.fork (.one 16 (.done))))))))))))) (.one 4 (.fork (.one 0 (.fork (.one 3 (.fork (.one 7 (.fork (.one 13 (takeB [14] (.fork (.one 16 (.done)))))))))))))))))))))))), []), (5, takeB [0, 1, 2, 3, 4, 5, 6, 7, 8, 9, 10, 11, 12, 13] (.fork (.one 14 (takeB [15] (.fork (.one 16 (.fork (.one 17 (takeB [18] (.fork (.one 19 (.done))))))))))), [100003]), (10, takeB [0, 1, 2, 3, 4, 5, 6, 7] (.fork (.one 8 (takeB [9] (.fork (.one 10 (.fork (.one 11 (takeB [12] (.fork (.one 13 (.done))))))))))), [100003])]
noncomputable abbrev WG : List (Nat × Bool × Sm) := [(N.Gq, true, P8), (N.GY, true, WE)]
noncomputable abbrev zT : Env := En WG Nc [(3, [1,2,3,4], [1,2,3], D7), (7, [1,2,3,5], [2,3], D8)] [] false 0 [] [(3, [(3, 2, aF), (3, 4, aC)])]
noncomputable abbrev xR := rounds (run zT (aS F.mF 3)) [1,2,3,4] [1,2,3]
theorem YP (m : Nat) (x4 : Int) (b00 : List Int) (b01 : List Int) (b02 : List aA) (aJ : Int) (aN : List au) (aQ : List ak) (b13 : Int) (o8 : Int) (o3 : List Int) (o4 : List Int) (o5 : List aA) (o6 : List au) (o7 : List ak) (K : Ex → St → Option aj) : xR (m + 1) (qK x4 b00 b01 b02 aJ aN aQ b13 o8 o3 o4 o5 o6 o7) K = mM x4 b00 b01 b02 aJ aN aQ b13 o8 o3 o4 o5 o6 o7 (fun x4 b00 b01 b02 aJ aN aQ b13 o8 o3 o4 o5 o6 o7 => (xR m (qK x4 b00 b01 b02 aJ aN aQ b13 o8 o3 o4 o5 o6 o7) K)) (fun b00 b01 b02 aJ aN aQ b13 o8 o3 o4 o5 o6 o7 => (K (.ext 0) (yP b00 b01 b02 aJ aN aQ b13 o8 o3 o4 o5 o6 o7))) := by kernel_rfl
theorem SI (K : Ex → St → Option aj) : ∀ m : Nat, (∀ (x4 : Int) (b00 : List Int) (b01 : List Int) (b02 : List aA) (aJ : Int) (aN : List au) (aQ : List ak) (b13 : Int) (o8 : Int) (o3 : List Int) (o4 : List Int) (o5 : List aA) (o6 : List au) (o7 : List ak), xR m (qK x4 b00 b01 b02 aJ aN aQ b13 o8 o3 o4 o5 o6 o7) K = qL m x4 b00 b01 b02 aJ aN aQ b13 o8 o3 o4 o5 o6 o7 (fun b00 b01 b02 aJ aN aQ b13 o8 o3 o4 o5 o6 o7 => (K (.ext 0) (yP b00 b01 b02 aJ aN aQ b13 o8 o3 o4 o5 o6 o7))))
 | 0 => (fun _ _ _ _ _ _ _ _ _ _ _ _ _ _ => rfl)
 | m + 1 => (fun x4 b00 b01 b02 aJ aN aQ b13 o8 o3 o4 o5 o6 o7 => (by rw [YP, show (fun x4 b00 b01 b02 aJ aN aQ b13 o8 o3 o4 o5 o6 o7 => (xR m (qK x4 b00 b01 b02 aJ aN aQ b13 o8 o3 o4 o5 o6 o7) K)) = (fun x4 b00 b01 b02 aJ aN aQ b13 o8 o3 o4 o5 o6 o7 => (qL m x4 b00 b01 b02 aJ aN aQ b13 o8 o3 o4 o5 o6 o7 (fun b00 b01 b02 aJ aN aQ b13 o8 o3 o4 o5 o6 o7 => (K (.ext 0) (yP b00 b01 b02 aJ aN aQ b13 o8 o3 o4 o5 o6 o7))))) from funext fun x4 => funext fun b00 => funext fun b01 => funext fun b02 => funext fun aJ => funext fun aN => funext fun aQ => funext fun b13 => funext fun o8 => funext fun o3 => funext fun o4 => funext fun o5 => funext fun o6 => funext fun o7 => (SI K m) x4 b00 b01 b02 aJ aN aQ b13 o8 o3 o4 o5 o6 o7]; rfl))
theorem WH : dJ zT (aS F.mF 3) := by
 refine dh (n := 3) (F := D7) (by kernel_rfl) rfl (li := [1,2,3,4]) (lo := [1,2,3]) rfl (fun σ K r hr => ?_)
 unfold D7 at hr
 split at hr
 ·rename_i d hd
  rw [Ss.dY hd]
  exact ⟨_, ((congrArg (fun z => xR _ z K) (YN _ _ _ _ _ _ _ _ _ _ _ _ _ _)).trans ((SI K _) _ _ _ _ _ _ _ _ _ _ _ _ _ _)).trans hr⟩
 ·cases hr
noncomputable abbrev xU := rounds (run zT (aS F.mF 7)) [1,2,3,5] [2,3]
theorem YQ (m : Nat) (x5 : Int) (b00 : List Int) (b01 : List Int) (b02 : List aA) (aJ : Int) (aN : List au) (aQ : List ak) (b13 : Int) (o8 : Int) (o3 : List Int) (o4 : List Int) (o5 : List aA) (o6 : List au) (o7 : List ak) (K : Ex → St → Option aj) : xU (m + 1) (qM x5 b00 b01 b02 aJ aN aQ b13 o8 o3 o4 o5 o6 o7) K = mO x5 b00 b01 b02 aJ aN aQ b13 o8 o3 o4 o5 o6 o7 (fun x5 b00 b01 b02 aJ aN aQ b13 o8 o3 o4 o5 o6 o7 => (xU m (qM x5 b00 b01 b02 aJ aN aQ b13 o8 o3 o4 o5 o6 o7) K)) (fun aJ b13 o2 o3 o4 o5 o6 => (K (.ext 2) (yQ aJ b13 o2 o3 o4 o5 o6))) := by kernel_rfl
theorem SK (K : Ex → St → Option aj) : ∀ m : Nat, (∀ (x5 : Int) (b00 : List Int) (b01 : List Int) (b02 : List aA) (aJ : Int) (aN : List au) (aQ : List ak) (b13 : Int) (o8 : Int) (o3 : List Int) (o4 : List Int) (o5 : List aA) (o6 : List au) (o7 : List ak), xU m (qM x5 b00 b01 b02 aJ aN aQ b13 o8 o3 o4 o5 o6 o7) K = qN m x5 b00 b01 b02 aJ aN aQ b13 o8 o3 o4 o5 o6 o7 (fun aJ b13 o2 o3 o4 o5 o6 => (K (.ext 2) (yQ aJ b13 o2 o3 o4 o5 o6))))
 | 0 => (fun _ _ _ _ _ _ _ _ _ _ _ _ _ _ => rfl)
 | m + 1 => (fun x5 b00 b01 b02 aJ aN aQ b13 o8 o3 o4 o5 o6 o7 => (by rw [YQ, show (fun x5 b00 b01 b02 aJ aN aQ b13 o8 o3 o4 o5 o6 o7 => (xU m (qM x5 b00 b01 b02 aJ aN aQ b13 o8 o3 o4 o5 o6 o7) K)) = (fun x5 b00 b01 b02 aJ aN aQ b13 o8 o3 o4 o5 o6 o7 => (qN m x5 b00 b01 b02 aJ aN aQ b13 o8 o3 o4 o5 o6 o7 (fun aJ b13 o2 o3 o4 o5 o6 => (K (.ext 2) (yQ aJ b13 o2 o3 o4 o5 o6))))) from funext fun x5 => funext fun b00 => funext fun b01 => funext fun b02 => funext fun aJ => funext fun aN => funext fun aQ => funext fun b13 => funext fun o8 => funext fun o3 => funext fun o4 => funext fun o5 => funext fun o6 => funext fun o7 => (SK K m) x5 b00 b01 b02 aJ aN aQ b13 o8 o3 o4 o5 o6 o7]; rfl))
theorem WI : dJ zT (aS F.mF 7) := by
 refine dh (n := 7) (F := D8) (by kernel_rfl) rfl (li := [1,2,3,5]) (lo := [2,3]) rfl (fun σ K r hr => ?_)
 unfold D8 at hr
 split at hr
 ·rename_i d hd
  rw [Ss.dY hd]
  exact ⟨_, ((congrArg (fun z => xU _ z K) (YO _ _ _ _ _ _ _ _ _ _ _ _ _ _)).trans ((SK K _) _ _ _ _ _ _ _ _ _ _ _ _ _ _)).trans hr⟩
 ·cases hr
noncomputable def Jw (d : bT) (K : aj → Option aj) : Option aj := (ER (0 : Int) d.1 d.2.1 d.2.2.1 d.2.2.2.1 d.2.2.2.2.1 d.2.2.2.2.2 (0 : Int) d.2.2.2.1 (([] : List Int) ++ d.1) (([] : List Int) ++ d.2.1) [] [] ([] ++ d.2.2.2.2.2) (fun y0 y1 y2 y3 y4 y5 y6 y7 y8 y9 y10 y11 y12 => (ES (0 : Int) y0 y1 y2 y3 y4 y5 y6 y7 y8 y9 y10 y11 y12 (fun y13 y14 y15 y16 y17 y18 y19 => K ((.a [(.l .deep ah y15), (.l .deep ah y16), (.l .deep aF y17), (.s (.int .i64 y14)), (.l .deep aC y18), (.l .deep aH y19)]), [])))))
theorem ah4 (d : bT) (h : (cZ bH d) = true) : aoX [(3, (Nat.ble (((List.length ([] : List Int)) + (List.length d.1)) * 1) 140737488355328)), (7, (Nat.ble (((List.length ([] : List Int)) + (List.length d.2.1)) * 1) 140737488355328)), (13, (Nat.ble (((List.length ([] : List Int)) + (List.length d.2.2.2.2.2)) * 32) 140737488355328))] := by
 obtain ⟨h1, h2, h3, h4, h5⟩ := wu h
 have n1 := jW h1
 have n2 := jW h2
 have n5 : d.2.2.2.2.2.length ≤ 1048576 := dN h5
 refine aqR (Nat.ble_eq_true_of_le ?_) (aqR (Nat.ble_eq_true_of_le ?_) (aqR (Nat.ble_eq_true_of_le ?_) auh)) <;> (simp only [List.length_nil]; omega)
theorem ah5 (d : bT) (K : aj → Option aj) : dL zT true F.mF [.a (bH.cells .no d)] K = ctP (anK [(3, (Nat.ble (((List.length ([] : List Int)) + (List.length d.1)) * 1) 140737488355328)), (7, (Nat.ble (((List.length ([] : List Int)) + (List.length d.2.1)) * 1) 140737488355328)), (13, (Nat.ble (((List.length ([] : List Int)) + (List.length d.2.2.2.2.2)) * 32) 140737488355328))]) (((agP Nc 1).getD (.done, [])).1) (Jw d K) := by kernel_rfl
theorem akz (d : bT) (K : aj → Option aj) (h : (cZ bH d) = true) : dL zT true F.mF [.a (bH.cells .no d)] K = Jw d K := (ah5 d K).trans (ah0 (agi (ah4 d h)) _ _)
def aal : Sm := bg [.a bH] (fun d => cZ bH d.1) (fun d => (.a (bH.cells .deep d.1), []))
theorem akA (d : bT) (h : (cZ bH d) = true) (K : aj → Option aj) : Jw d K = K (.a (bH.cells .deep d), []) := by
 obtain ⟨h1, h2, h3, h4, h5⟩ := wu h
 obtain ⟨st, tx, lg, ck, mb, ls⟩ := d
 have n3 : lg.length ≤ 1048576 := dN h3
 have n4 : mb.length ≤ 1048576 := dN h4
 have n5 : ls.length ≤ 1048576 := dN h5
 have n1 := jW h1
 have n2 := jW h2
 dsimp only at n1 n2
 have q3 : ∀ (p q : Int) (o3 o4 : List Int) (o6 : List au) (o7 : List ak) (k0 : (List Int) → (List Int) → (List aA) → Int → (List au) → (List ak) → Int → Int → (List Int) → (List Int) → (List aA) → (List au) → (List ak) → Option aj), ER 0 st tx lg ck mb ls p q o3 o4 [] o6 o7 k0 = k0 st tx lg ck mb ls p q o3 o4 lg o6 o7 := fun p q o3 o4 o6 o7 k0 =>
  acS (R := fun m i o => qL m i st tx lg ck mb ls p q o3 o4 o o6 o7 k0) aF.dflt (fun m i hi => by
   show mM ((i : Nat) : Int) st tx lg ck mb ls p q o3 o4 (lg.take i) o6 o7 _ _ = _
   unfold mM
   have hx : aO (lg.getD i aF.dflt).2.2.2 = true := acX (vP h3 rfl i)
   rw [decide_eq_true (show ((i : Nat) : Int) < ((lg.length : Nat) : Int) by omega), decide_eq_true (show (0 : Int) ≤ ((i : Nat) : Int) by omega), Int.toNat_natCast, bW (by omega), Nat.ble_eq_true_of_le (jW hx), Nat.ble_eq_true_of_le (by simp only [List.length_take, List.length_cons, List.length_nil]; omega)]
   rfl) (fun m => by
   show mM ((lg.length : Nat) : Int) st tx lg ck mb ls p q o3 o4 lg o6 o7 _ _ = _
   unfold mM
   rw [decide_eq_false (show ¬ ((lg.length : Nat) : Int) < ((lg.length : Nat) : Int) by omega)]; rfl) _ 0 (by omega) (by omega)
 have q7 : ∀ (p q : Int) (o3 o4 : List Int) (o5 : List aA) (o7 : List ak) (k0 : Int → Int → (List Int) → (List Int) → (List aA) → (List au) → (List ak) → Option aj), ES 0 st tx lg ck mb ls p q o3 o4 o5 [] o7 k0 = k0 p q o3 o4 o5 mb o7 := fun p q o3 o4 o5 o7 k0 =>
  acS (R := fun m i o => qN m i st tx lg ck mb ls p q o3 o4 o5 o o7 k0) aC.dflt (fun m i hi => by
   show mO ((i : Nat) : Int) st tx lg ck mb ls p q o3 o4 o5 (mb.take i) o7 _ _ = _
   unfold mO
   have hx : cZ aC (mb.getD i aC.dflt) = true := vP h4 rfl i
   rw [decide_eq_true (show ((i : Nat) : Int) < ((mb.length : Nat) : Int) by omega), decide_eq_true (show (0 : Int) ≤ ((i : Nat) : Int) by omega), Int.toNat_natCast, bW (by omega), show cZ gU (mb.getD i aC.dflt).2.2.2 = true from aX (aX (aX hx)), Nat.ble_eq_true_of_le (by simp only [List.length_take, List.length_cons, List.length_nil]; omega)]
   rfl) (fun m => by
   show mO ((mb.length : Nat) : Int) st tx lg ck mb ls p q o3 o4 o5 mb o7 _ _ = _
   unfold mO
   rw [decide_eq_false (show ¬ ((mb.length : Nat) : Int) < ((mb.length : Nat) : Int) by omega)]; rfl) _ 0 (by omega) (by omega)
 unfold Jw
 dsimp only
 rw [q3, q7]
 rfl
theorem ae7 : aV prog I N.mF true aal := kD (aW (aY SB (aY adF bn)) (l := WG) (p := Nc) (ls := [(3, [1,2,3,4], [1,2,3], D7), (7, [1,2,3,5], [2,3], D8)]) (lend := []) (focus := false) (fuel := 0) (give := []) (Rj := [(3, [(3, 2, aF), (3, 4, aC)])]) (fn := F.mF) (by kernel_rfl) (by kernel_rfl) (by kernel_rfl) (by kernel_rfl) (cs := [aS F.mF 3, aS F.mF 7]) (by kernel_rfl) (dA WH (dA WI aK))) (aI fun d K h => (akz d.1 K h).trans (akA d.1 h K))
end Go.Ev.Seat
end
section
set_option linter.unusedVariables false
set_option linter.unusedSimpArgs false
namespace Go.Ev
open Go.RowKit
theorem aV.use {P : Program} {I : Nat → World → Prop} {g : FuncId} {fresh : Bool} {G : Sm} (h : aV P I g fresh G) {B0 : Nat} {w0 w : World} (hI : I B0 w0) (hbel : Below B0 w0 w) (hB : B0 ≤ w.heap.size) {ws : List V} {v : aj} (hG : ∀ K, G ws K = K v)
  {vs : List Value} {M : List Nat} (ha : jr w ws vs [] M []) (hM : ∀ x ∈ M, x < w.heap.size) : Calls P g ⟨vs⟩ w fun e w' => ∃ c, e = .returned c ∧ Back B0 w0 w (fun x => x < w.heap.size) [] (ptrs ws vs) fresh v c w' := by
 refine Calls.mono (h.2 ws some v (hG some) B0 w0 w (fun x => x < w.heap.size) vs [] M [] hI hbel hB ha List.nodup_nil (fun _ h => (nomatch h)) hM (fun _ h => (nomatch h)) (fun _ h => h)) ?_
 intro e w' he
 cases e with
 | returned c =>
  obtain ⟨q, hq, hb⟩ := he
  cases hq
  exact ⟨c, rfl, hb⟩
 | panicked _ => exact he.elim
 | outgrown => exact he.elim
theorem aqT.stay {w w' : World} : ∀ (c : Cc) (d : c.T) {v : Value} {O M H : List Nat}, jd w (c.cell .no d) v O M H → (∀ x ∈ M, w'.heap[x]? = w.heap[x]?) → jd w' (c.cell .no d) v O M H
 | .int _, _, _, _, _, _, h, _ => h
 | .bool, _, _, _, _, _, h, _ => h
 | .str, _, _, _, _, _, h, _ => h
 | .sl r, d, v, O, M, H, ⟨h1, h2, h3⟩, hw => by
  have hle : (Cx.ext (· ∈ M)).Le w (Cx.ext (· ∈ M)) w' := ⟨fun _ _ _ h => h, fun _ h => h, fun _ h => h, fun b hb => hw b hb, fun _ _ _ h => h⟩
  exact ⟨VR.le hle _ h1, h2, h3⟩
theorem SL {w w' : World} : ∀ (r : Rw) (d : r.T) {vs : List Value} {O M H : List Nat}, iq w (r.cells .no d) vs O M H → (∀ x ∈ M, w'.heap[x]? = w.heap[x]?) → iq w' (r.cells .no d) vs O M H
 | .one c, d, vs, O, M, H, ⟨v, vs', O1, O2, M1, M2, H1, H2, h1, h2, h3, h4, h5, h6⟩, hw => ⟨v, vs', O1, O2, M1, M2, H1, H2, h1, h2, h3, h4, aqT.stay c d h5 (fun x hx => hw x (by rw [h3]; simp [hx])), h6⟩
 | .cons c r, d, vs, O, M, H, ⟨v, vs', O1, O2, M1, M2, H1, H2, h1, h2, h3, h4, h5, h6⟩, hw => ⟨v, vs', O1, O2, M1, M2, H1, H2, h1, h2, h3, h4, aqT.stay c d.1 h5 (fun x hx => hw x (by rw [h3]; simp [hx])), SL r d.2 h6 (fun x hx => hw x (by rw [h3]; simp [hx]))⟩
theorem rY.look {w w' : World} {r : Rw} {xs : List r.T} {v : Value} {F : List Nat} (h : rY (gK w false r) w false r.n xs v F) (hw : ∀ b ∈ F, w'.heap[b]? = w.heap[b]?) : VR (Cx.ext (· ∈ F)) w' (.l .no r xs) v :=
 ⟨F, (L8.imp (e := false) (fun h => by cases h) (.sl r) (show L8 w false (.sl r) xs v F from h) hw), fun _ hb => hb⟩
theorem rY.form {δ : Type} {R : δ → List Value → List Nat → Prop} {w : World} {e : Bool} {n : Nat} {xs : List δ} {v : Value} {F : List Nat} (h : rY R w e n xs v F) : ∃ a m c, v = .slice a m c ∧ m = xs.length := by
 rcases h with ⟨h1, _, ad, cap, h, _⟩ | ⟨b, o, cap, F', h, _⟩
 ·exact ⟨ad, 0, cap, h, by rw [h1]; rfl⟩
 ·exact ⟨_, _, cap, h, rfl⟩
end Go.Ev
namespace Go.Ev.Seat
open Go.RowKit Go.Lib Go.Proofs Go.Shelf
theorem aoY {w : World} {g : Nat} {x0 x1 x2 x3 x4 x5 : Value} {t : TypeId} (h : w.heap[g]? = some (.cells #[x0, x1, x2, x3, x4, x5] t (0, 0))) (y0 y1 y2 y3 y4 y5 : Value) :
  (((((w.setCell ⟨g, 0, none⟩ y0).setCell ⟨g, 1, none⟩ y1).setCell ⟨g, 2, none⟩ y2).setCell ⟨g, 3, none⟩ y3).setCell ⟨g, 4, none⟩ y4).setCell ⟨g, 5, none⟩ y5 = w.setRow g #[y0, y1, y2, y3, y4, y5] := by
 rw [setCell_eq_setRow w g 0 _ t (0, 0) y0 h]
 rw [setCell_eq_setRow _ g 1 _ t (0, 0) y1 (setRow_heap w g _ _ t (0, 0) h), setRow_setRow]
 rw [setCell_eq_setRow _ g 2 _ t (0, 0) y2 (setRow_heap w g _ _ t (0, 0) h), setRow_setRow]
 rw [setCell_eq_setRow _ g 3 _ t (0, 0) y3 (setRow_heap w g _ _ t (0, 0) h), setRow_setRow]
 rw [setCell_eq_setRow _ g 4 _ t (0, 0) y4 (setRow_heap w g _ _ t (0, 0) h), setRow_setRow]
 rw [setCell_eq_setRow _ g 5 _ t (0, 0) y5 (setRow_heap w g _ _ t (0, 0) h), setRow_setRow]
 rfl
theorem aoZ {w : World} {g o : Nat} {cur : Array Value} {t : TypeId} (h : w.heap[g]? = some (.cells cur t (0, 0))) (y0 y1 y2 y3 y4 : Value) :
  ((((w.setCell ⟨g, o, none⟩ y0).setCell ⟨g, o + 1, none⟩ y1).setCell ⟨g, o + 2, none⟩ y2).setCell ⟨g, o + 3, none⟩ y3).setCell ⟨g, o + 4, none⟩ y4 =
   w.setRow g (((((cur.setIfInBounds o y0).setIfInBounds (o + 1) y1).setIfInBounds (o + 2) y2).setIfInBounds (o + 3) y3).setIfInBounds (o + 4) y4) := by
 rw [setCell_eq_setRow w g o _ t (0, 0) y0 h]
 rw [setCell_eq_setRow _ g (o + 1) _ t (0, 0) y1 (setRow_heap w g _ _ t (0, 0) h), setRow_setRow]
 rw [setCell_eq_setRow _ g (o + 2) _ t (0, 0) y2 (setRow_heap w g _ _ t (0, 0) h), setRow_setRow]
 rw [setCell_eq_setRow _ g (o + 3) _ t (0, 0) y3 (setRow_heap w g _ _ t (0, 0) h), setRow_setRow]
 rw [setCell_eq_setRow _ g (o + 4) _ t (0, 0) y4 (setRow_heap w g _ _ t (0, 0) h), setRow_setRow]
set_option maxHeartbeats 4000000 in
set_option maxRecDepth 100000 in
theorem aqU {w : World} (x0 x1 x2 x3 x4 x7 x8 x9 x10 x11 x12 x13 x14 x15 x16 x17 x18 x19 x20 x21 x22 x23 x24 x25 jA x27 x28 x29 x30 x31 x32 x33 x34 jw kH iZ x38 x39 x40 x41 ED : Value) (ob mb mo n c i : Nat) (s0 : Int) (z0 z1 z2 z3 z5 y1 y2 y3 y4 : Value)
    (cur : Array Value) (ty : TypeId) (hi : i < n) (hn : n ≤ 1048576)
    (hob : w.heap[ob]? = some (.cells #[z0, z1, z2, z3, .slice (some ⟨mb, mo, none⟩) n c, z5] 37 (0, 0)))
    (hcur : w.heap[mb]? = some (.cells cur ty (0, 0))) (g0 : cur[mo + i * 5]? = some (.int .i64 s0)) (g1 : cur[mo + i * 5 + 1]? = some y1) (g2 : cur[mo + i * 5 + 2]? = some y2) (g3 : cur[mo + i * 5 + 3]? = some y3) (g4 : cur[mo + i * 5 + 4]? = some y4)
    (Q : Exit → Act → World → Prop)
    (hQ : ∀ (y24 y25 y26 y27 y28 y29 y30 y31 y32 y33 y34 y35 y36 y37 y38 y39 y40 y41 : Value),
      Q .normal { tmps := #[x0, x1, x2, x3, x4, .pointer (some ⟨ob, 0, none⟩), .int .i64 ((i + 1 : Nat) : Int), x7, x8, x9, x10, x11, x12, x13, x14, x15, x16, x17, x18, x19, x20, x21, x22, x23, y24, y25, y26, y27, y28, y29, y30, y31, y32, y33, y34, y35, y36, y37, y38, y39, y40, y41, ED], defers := [] }
        (w.setRow mb (((((cur.setIfInBounds (mo + i * 5) (.int .i64 s0)).setIfInBounds (mo + i * 5 + 1) (.int .i64 0)).setIfInBounds (mo + i * 5 + 2) (.int .i64 0)).setIfInBounds (mo + i * 5 + 3) (.slice none 0 0)).setIfInBounds (mo + i * 5 + 4) (.slice none 0 0))).drew) :
   Code.wp prog (aS Tryz.f29 6) Q { tmps := #[x0, x1, x2, x3, x4, .pointer (some ⟨ob, 0, none⟩), .int .i64 i, x7, x8, x9, x10, x11, x12, x13, x14, x15, x16, x17, x18, x19, x20, x21, x22, x23, x24, x25, jA, x27, x28, x29, x30, x31, x32, x33, x34, jw, kH, iZ, x38, x39, x40, x41, ED], defers := [] } w := by
  have mixed := Go.Ev.Seat.mixed
  have b4 : w.cell? ⟨ob, 4, none⟩ = some (.slice (some ⟨mb, mo, none⟩) n c) := by simp [World.cell?, hob]
  have h0 : w.cell? ⟨mb, mo + i * 5, none⟩ = some (.int .i64 s0) := by
    simp [World.cell?, hcur, g0]
  have h1 : w.cell? ⟨mb, mo + i * 5 + 1, none⟩ = some y1 := by
    simp [World.cell?, hcur, g1]
  have h2 : w.cell? ⟨mb, mo + i * 5 + 2, none⟩ = some y2 := by
    simp [World.cell?, hcur, g2]
  have h3 : w.cell? ⟨mb, mo + i * 5 + 3, none⟩ = some y3 := by
    simp [World.cell?, hcur, g3]
  have h4 : w.cell? ⟨mb, mo + i * 5 + 4, none⟩ = some y4 := by
    simp [World.cell?, hcur, g4]
  have f : ∀ j, w.frozen? ⟨mb, j, none⟩ = false := fun j => by
    simp [World.frozen?, hcur]
  have f0 := f (mo + i * 5)
  have f1 := f (mo + i * 5 + 1)
  have f2 := f (mo + i * 5 + 2)
  have f3 := f (mo + i * 5 + 3)
  have f4 := f (mo + i * 5 + 4)
  have hlt : (i : Int) < (n : Int) := by omega
  have hw1 : RowKit.wrap64 ((i : Int) + 1) = ((i + 1 : Nat) : Int) := by unfold RowKit.wrap64; omega
  conv => arg 2; whnf
  go_wp2_with fail
  go_region
  all_goals go_wp2
  rw [aoZ hcur, show (i : Int) + 1 = ((i + 1 : Nat) : Int) by omega]
  exact hQ _ _ _ _ _ _ _ _ _ _ _ _ _ _ _ _ _ _
set_option maxHeartbeats 4000000 in
set_option maxRecDepth 100000 in
theorem akB {w : World} (x0 x1 x2 x3 x4 x7 x8 x9 x10 x11 x12 x13 x14 x15 x16 x17 x18 x19 x20 x21 x22 x23 x24 x25 jA x27 x28 x29 x30 x31 x32 x33 x34 jw kH iZ x38 x39 x40 x41 ED : Value) (ob n c : Nat) (ma : Option Addr) (z0 z1 z2 z3 z5 : Value)
    (hob : w.heap[ob]? = some (.cells #[z0, z1, z2, z3, .slice ma n c, z5] 37 (0, 0)))
    (Q : Exit → Act → World → Prop)
    (hQ : ∀ (y24 y25 y26 y27 y28 : Value), Q (.exit 0) { tmps := #[x0, x1, x2, x3, x4, .pointer (some ⟨ob, 0, none⟩), .int .i64 n, x7, x8, x9, x10, x11, x12, x13, x14, x15, x16, x17, x18, x19, x20, x21, x22, x23, y24, y25, y26, y27, y28, x29, x30, x31, x32, x33, x34, jw, kH, iZ, x38, x39, x40, x41, ED], defers := [] } w) :
   Code.wp prog (aS Tryz.f29 6) Q { tmps := #[x0, x1, x2, x3, x4, .pointer (some ⟨ob, 0, none⟩), .int .i64 n, x7, x8, x9, x10, x11, x12, x13, x14, x15, x16, x17, x18, x19, x20, x21, x22, x23, x24, x25, jA, x27, x28, x29, x30, x31, x32, x33, x34, jw, kH, iZ, x38, x39, x40, x41, ED], defers := [] } w := by
  have b4 : w.cell? ⟨ob, 4, none⟩ = some (.slice ma n c) := by simp [World.cell?, hob]
  have hlt : ¬ (n : Int) < (n : Int) := by omega
  conv => arg 2; whnf
  go_wp2
  exact hQ _ _ _ _ _
structure aqV (B0 : Nat) (w0 ws w : World) (mb mo : Nat) (ty : TypeId) (sz : Nat) (xs : List au) (i : Nat) : Prop where
 cells : ∃ cur : Array Value, w.heap[mb]? = some (.cells cur ty (0, 0)) ∧ cur.size = sz ∧ (∀ j, (h : j < xs.length) → cur[mo + j * 5]? = some (.int .i64 xs[j].1)) ∧
  ∀ j, j < i → cur[mo + j * 5 + 1]? = some (.int .i64 0) ∧ cur[mo + j * 5 + 2]? = some (.int .i64 0) ∧ cur[mo + j * 5 + 3]? = some (.slice none 0 0) ∧ cur[mo + j * 5 + 4]? = some (.slice none 0 0)
 oth : ∀ x, x ≠ mb → w.heap[x]? = ws.heap[x]?
 below : Below B0 w0 w
 sz : w.heap.size = ws.heap.size
theorem aqW {B0 : Nat} {w0 ws : World} (x0 x1 x2 x3 x4 x7 x8 x9 x10 x11 x12 x13 x14 x15 x16 x17 x18 x19 x20 x21 x22 x23 x24 x25 jA x27 x28 x29 x30 x31 x32 x33 x34 jw kH iZ x38 x39 x40 x41 ED : Value) (ob mb mo c sz : Nat) (ty : TypeId) (z0 z1 z2 z3 z5 : Value) (xs : List au)
    (hn : xs.length ≤ 1048576) (hob : ws.heap[ob]? = some (.cells #[z0, z1, z2, z3, .slice (some ⟨mb, mo, none⟩) xs.length c, z5] 37 (0, 0))) (hne : ob ≠ mb) (hfit : mo + xs.length * 5 ≤ sz) (hmB : B0 ≤ mb)
    (h0 : aqV B0 w0 ws ws mb mo ty sz xs 0) (Q : Exit → Act → World → Prop)
    (hQ : ∀ (y24 y25 y26 y27 y28 y29 y30 y31 y32 y33 y34 y35 y36 y37 y38 y39 y40 y41 : Value) (w : World), aqV B0 w0 ws w mb mo ty sz xs xs.length →
      Q (.exit 0) { tmps := #[x0, x1, x2, x3, x4, .pointer (some ⟨ob, 0, none⟩), .int .i64 xs.length, x7, x8, x9, x10, x11, x12, x13, x14, x15, x16, x17, x18, x19, x20, x21, x22, x23, y24, y25, y26, y27, y28, y29, y30, y31, y32, y33, y34, y35, y36, y37, y38, y39, y40, y41, ED], defers := [] } w) :
   Code.wp prog (.loop (aS Tryz.f29 6)) Q { tmps := #[x0, x1, x2, x3, x4, .pointer (some ⟨ob, 0, none⟩), .int .i64 0, x7, x8, x9, x10, x11, x12, x13, x14, x15, x16, x17, x18, x19, x20, x21, x22, x23, x24, x25, jA, x27, x28, x29, x30, x31, x32, x33, x34, jw, kH, iZ, x38, x39, x40, x41, ED], defers := [] } ws := by
  refine wp_loop (fun a w => ∃ i : Nat, i ≤ xs.length ∧ aqV B0 w0 ws w mb mo ty sz xs i ∧ ∃ (y24 y25 y26 y27 y28 y29 y30 y31 y32 y33 y34 y35 y36 y37 y38 y39 y40 y41 : Value),
      a = { tmps := #[x0, x1, x2, x3, x4, .pointer (some ⟨ob, 0, none⟩), .int .i64 i, x7, x8, x9, x10, x11, x12, x13, x14, x15, x16, x17, x18, x19, x20, x21, x22, x23, y24, y25, y26, y27, y28, y29, y30, y31, y32, y33, y34, y35, y36, y37, y38, y39, y40, y41, ED], defers := [] })
    (fun (a : Act) _ => match (a.tmps[6]? : Option Value) with | some (Value.int _ k) => ((xs.length : Int) - k).toNat | _ => 0) ⟨0, Nat.zero_le _, h0, x24, x25, jA, x27, x28, x29, x30, x31, x32, x33, x34, jw, kH, iZ, x38, x39, x40, x41, rfl⟩ ?_
  rintro a w ⟨i, hi, hf, y24, y25, y26, y27, y28, y29, y30, y31, y32, y33, y34, y35, y36, y37, y38, y39, y40, y41, rfl⟩
  have auj : w.heap[ob]? = some (.cells #[z0, z1, z2, z3, .slice (some ⟨mb, mo, none⟩) xs.length c, z5] 37 (0, 0)) := (hf.oth ob hne).trans hob
  by_cases hlt : i < xs.length
  · obtain ⟨cur, hcur, hcs, hc0, hc1⟩ := hf.cells
    have ge : ∀ k, k < sz → cur[k]? = some (cur[k]!) := fun k hk => by
      rw [Array.getElem?_eq_getElem (by omega), getElem!_pos cur k (by omega)]
    have h5 : i * 5 + 5 ≤ xs.length * 5 := by omega
    refine aqU x0 x1 x2 x3 x4 x7 x8 x9 x10 x11 x12 x13 x14 x15 x16 x17 x18 x19 x20 x21 x22 x23 y24 y25 y26 y27 y28 y29 y30 y31 y32 y33 y34 y35 y36 y37 y38 y39 y40 y41 ED ob mb mo xs.length c i xs[i].1 z0 z1 z2 z3 z5 _ _ _ _ cur ty hlt hn auj hcur (hc0 i hlt) (ge _ (by omega)) (ge _ (by omega)) (ge _ (by omega)) (ge _ (by omega)) _ ?_
    intro u24 u25 u26 u27 u28 u29 u30 u31 u32 u33 u34 u35 u36 u37 u38 u39 u40 u41
    have hset := setRow_heap w mb cur (((((cur.setIfInBounds (mo + i * 5) (.int .i64 xs[i].1)).setIfInBounds (mo + i * 5 + 1) (.int .i64 0)).setIfInBounds (mo + i * 5 + 2) (.int .i64 0)).setIfInBounds (mo + i * 5 + 3) (.slice none 0 0)).setIfInBounds (mo + i * 5 + 4) (.slice none 0 0)) ty (0, 0) hcur
    refine ⟨⟨i + 1, hlt, ⟨⟨_, hset, by simp only [Array.size_setIfInBounds]; exact hcs, fun j hj => ?_, fun j hj => ?_⟩, fun x hx => ?_, (Below.setRow' hf.below hmB _).drew, ?_⟩, u24, u25, u26, u27, u28, u29, u30, u31, u32, u33, u34, u35, u36, u37, u38, u39, u40, u41, rfl⟩, ?_⟩
    · by_cases hji : j = i
      · subst hji
        rw [Array.getElem?_setIfInBounds, if_neg (by omega), Array.getElem?_setIfInBounds, if_neg (by omega), Array.getElem?_setIfInBounds, if_neg (by omega), Array.getElem?_setIfInBounds, if_neg (by omega), Array.getElem?_setIfInBounds, if_pos rfl, if_pos (by omega)]
      · rw [Array.getElem?_setIfInBounds, if_neg (by omega), Array.getElem?_setIfInBounds, if_neg (by omega), Array.getElem?_setIfInBounds, if_neg (by omega), Array.getElem?_setIfInBounds, if_neg (by omega), Array.getElem?_setIfInBounds, if_neg (by omega)]
        exact hc0 j hj
    · by_cases hji : j = i
      · subst hji
        refine ⟨?_, ?_, ?_, ?_⟩
        · rw [Array.getElem?_setIfInBounds, if_neg (by omega), Array.getElem?_setIfInBounds, if_neg (by omega), Array.getElem?_setIfInBounds, if_neg (by omega), Array.getElem?_setIfInBounds, if_pos rfl, if_pos (by simp only [Array.size_setIfInBounds]; omega)]
        · rw [Array.getElem?_setIfInBounds, if_neg (by omega), Array.getElem?_setIfInBounds, if_neg (by omega), Array.getElem?_setIfInBounds, if_pos rfl, if_pos (by simp only [Array.size_setIfInBounds]; omega)]
        · rw [Array.getElem?_setIfInBounds, if_neg (by omega), Array.getElem?_setIfInBounds, if_pos rfl, if_pos (by simp only [Array.size_setIfInBounds]; omega)]
        · rw [Array.getElem?_setIfInBounds, if_pos rfl, if_pos (by simp only [Array.size_setIfInBounds]; omega)]
      · obtain ⟨k1, k2, k3, k4⟩ := hc1 j (by omega)
        refine ⟨?_, ?_, ?_, ?_⟩ <;> rw [Array.getElem?_setIfInBounds, if_neg (by omega), Array.getElem?_setIfInBounds, if_neg (by omega), Array.getElem?_setIfInBounds, if_neg (by omega), Array.getElem?_setIfInBounds, if_neg (by omega), Array.getElem?_setIfInBounds, if_neg (by omega)] <;> assumption
    · show (w.setRow mb _).heap[x]? = _
      rw [setRow_other _ _ x _ hx]; exact hf.oth x hx
    · show (w.heap.modify _ _).size = _
      rw [Array.size_modify]; exact hf.sz
    · show ((xs.length : Int) - ((i + 1 : Nat) : Int)).toNat < ((xs.length : Int) - ((i : Nat) : Int)).toNat
      omega
  · obtain rfl : i = xs.length := by omega
    exact akB x0 x1 x2 x3 x4 x7 x8 x9 x10 x11 x12 x13 x14 x15 x16 x17 x18 x19 x20 x21 x22 x23 y24 y25 y26 y27 y28 y29 y30 y31 y32 y33 y34 y35 y36 y37 y38 y39 y40 y41 ED ob xs.length c _ z0 z1 z2 z3 z5 auj _ (fun u24 u25 u26 u27 u28 => hQ u24 u25 u26 u27 u28 y29 y30 y31 y32 y33 y34 y35 y36 y37 y38 y39 y40 y41 w hf)
theorem akC {w : World} {mb : Nat} : ∀ (xs : List au) (o : Nat), (∀ j, (h : j < xs.length) → w.cell? ⟨mb, o + j * 5, none⟩ = some (.int .i64 xs[j].1) ∧ w.cell? ⟨mb, o + j * 5 + 1, none⟩ = some (.int .i64 0) ∧ w.cell? ⟨mb, o + j * 5 + 2, none⟩ = some (.int .i64 0) ∧ w.cell? ⟨mb, o + j * 5 + 3, none⟩ = some (.slice none 0 0) ∧ w.cell? ⟨mb, o + j * 5 + 4, none⟩ = some (.slice none 0 0)) →
  gJ (gK w true aC) w 5 mb (xs.map xg) o []
 | [], o, _ => rfl
 | x :: xs, o, h => by
  have h0 := h 0 (by simp)
  have hnil : L8 w true (.sl aB) [] (.slice none 0 0) [] := .inl ⟨rfl, rfl, none, 0, rfl, fun _ => ⟨rfl, rfl⟩⟩
  refine ⟨[.int .i64 x.1, .int .i64 0, .int .i64 0, .slice none 0 0, .slice none 0 0], [], [], rfl, rfl, fun j v hj => ?_, ?_, akC xs (o + 5) (fun j hj => ?_)⟩
  ·simp only [Nat.zero_mul, Nat.add_zero] at h0
   match j, hj with
   | 0, hj => cases hj; exact h0.1
   | 1, hj => cases hj; exact h0.2.1
   | 2, hj => cases hj; exact h0.2.2.1
   | 3, hj => cases hj; exact h0.2.2.2.1
   | 4, hj => cases hj; exact h0.2.2.2.2
   | j + 5, hj => simp at hj
  ·exact ⟨_, _, [], [], rfl, rfl, ⟨rfl, rfl⟩, _, _, [], [], rfl, rfl, ⟨rfl, rfl⟩, _, _, [], [], rfl, rfl, ⟨rfl, rfl⟩, _, _, [], [], rfl, rfl, hnil, _, rfl, hnil⟩
  ·have := h (j + 1) (by simpa using hj)
   rw [show o + (j + 1) * 5 = o + 5 + j * 5 by omega] at this
   exact this
theorem ar7 {B0 : Nat} {w0 ws : World} (hbel : Below B0 w0 ws) (x0 x1 x2 x3 x4 x7 x8 x9 x10 x11 x12 x13 x14 x15 x16 x17 x18 x19 x20 x21 x22 x23 x24 x25 jA x27 x28 x29 x30 x31 x32 x33 x34 jw kH iZ x38 x39 x40 x41 ED : Value) (ob : Nat) (z0 z1 z2 z3 z5 : Value) (xs : List au) (q : Option Addr) (m c : Nat) (F : List Nat)
    (hn : xs.length ≤ 1048576) (hs : rY (gK ws false aC) ws false 5 xs (.slice q m c) F) (hFB : ∀ x ∈ F, B0 ≤ x) (hob : ws.heap[ob]? = some (.cells #[z0, z1, z2, z3, .slice q m c, z5] 37 (0, 0))) (hne : ob ∉ F) (Q : Exit → Act → World → Prop)
    (hQ : ∀ (y24 y25 y26 y27 y28 y29 y30 y31 y32 y33 y34 y35 y36 y37 y38 y39 y40 y41 : Value) (w : World) (F' : List Nat), VR (Cx.ext (· ∈ F')) w (.l .no aC (xs.map xg)) (.slice q m c) → (∀ x ∈ F', x ∈ F) → (∀ x, F.head? ≠ some x → w.heap[x]? = ws.heap[x]?) → Below B0 w0 w → w.heap.size = ws.heap.size →
      Q (.exit 0) { tmps := #[x0, x1, x2, x3, x4, .pointer (some ⟨ob, 0, none⟩), .int .i64 m, x7, x8, x9, x10, x11, x12, x13, x14, x15, x16, x17, x18, x19, x20, x21, x22, x23, y24, y25, y26, y27, y28, y29, y30, y31, y32, y33, y34, y35, y36, y37, y38, y39, y40, y41, ED], defers := [] } w) :
   Code.wp prog (.loop (aS Tryz.f29 6)) Q { tmps := #[x0, x1, x2, x3, x4, .pointer (some ⟨ob, 0, none⟩), .int .i64 0, x7, x8, x9, x10, x11, x12, x13, x14, x15, x16, x17, x18, x19, x20, x21, x22, x23, x24, x25, jA, x27, x28, x29, x30, x31, x32, x33, x34, jw, kH, iZ, x38, x39, x40, x41, ED], defers := [] } ws := by
  rcases hs with ⟨h1, h2, ad, cap, h3, h4⟩ | ⟨mb, mo, cap, F', h1, h2, h3, h4, h5, h6⟩
  · cases h3
    subst h1
    refine wp_loop_once (akB x0 x1 x2 x3 x4 x7 x8 x9 x10 x11 x12 x13 x14 x15 x16 x17 x18 x19 x20 x21 x22 x23 x24 x25 jA x27 x28 x29 x30 x31 x32 x33 x34 jw kH iZ x38 x39 x40 x41 ED ob 0 _ _ z0 z1 z2 z3 z5 hob _ (fun u24 u25 u26 u27 u28 => ?_))
    exact hQ u24 u25 u26 u27 u28 x29 x30 x31 x32 x33 x34 jw kH iZ x38 x39 x40 x41 ws [] ⟨[], .inl ⟨rfl, rfl, _, _, rfl, (fun h => by cases h)⟩, fun _ h => (nomatch h)⟩ (fun _ h => (nomatch h)) (fun _ _ => rfl) hbel rfl
  · cases h1
    subst h3
    obtain ⟨cur, ty, hcur, hfit⟩ := h5 rfl
    have hcap := Nat.mul_le_mul_right 5 h2
    refine aqW x0 x1 x2 x3 x4 x7 x8 x9 x10 x11 x12 x13 x14 x15 x16 x17 x18 x19 x20 x21 x22 x23 x24 x25 jA x27 x28 x29 x30 x31 x32 x33 x34 jw kH iZ x38 x39 x40 x41 ED ob mb mo c cur.size ty z0 z1 z2 z3 z5 xs hn hob (fun h => hne (by simp [h])) (by omega) (hFB mb (by simp))
      ⟨⟨cur, hcur, rfl, fun j hj => ?_, fun j hj => absurd hj (by omega)⟩, fun _ _ => rfl, hbel, rfl⟩ Q ?_
    · obtain ⟨vs, F1, _, _, g2, g3⟩ := gJ.get h6 (List.getElem?_eq_getElem hj)
      obtain ⟨v1, vs1, A1, A2, e1, _, e3, _⟩ := g3
      obtain ⟨e3, _⟩ := e3
      have := g2 0 v1 (by rw [e1]; rfl)
      simp only [World.cell?, hcur] at this
      rw [e3] at this
      simpa using this
    · intro y24 y25 y26 y27 y28 y29 y30 y31 y32 y33 y34 y35 y36 y37 y38 y39 y40 y41 w hO
      obtain ⟨awq, g1, g2, g3, g4⟩ := hO.cells
      refine hQ y24 y25 y26 y27 y28 y29 y30 y31 y32 y33 y34 y35 y36 y37 y38 y39 y40 y41 w [mb] ⟨[mb], .inr ⟨mb, mo, c, [], by rw [List.length_map], by rw [List.length_map]; exact h2, rfl, by rw [hO.sz]; exact h4, (fun h => by cases h), ?_⟩, fun _ h => h⟩ (fun x hx => by simp at hx; simp [hx]) (fun x hx => hO.oth x (fun e => hx (by rw [e]; rfl))) hO.below hO.sz
      refine akC xs mo (fun j hj => ?_)
      have a := g3 j hj
      obtain ⟨b1, b2, b3, b4⟩ := g4 j hj
      simp only [World.cell?, g1]
      exact ⟨by simpa using a, by simpa using b1, by simpa using b2, by simpa using b3, by simpa using b4⟩
theorem aqX {B0 : Nat} {w0 W : World} (hI : I B0 w0) (hb : Below B0 w0 W) (hB : B0 ≤ W.heap.size) (d : bT) (hl : d.2.2.1.length ≤ 1048576) {vs : List Value} {M : List Nat} (ha : iq W (bH.cells .no d) vs [] M []) (hM : ∀ x ∈ M, x < W.heap.size) :
  Calls prog N.qo #[.agg ⟨vs⟩] W fun e w' => ∃ (la : Option Addr) (ln lc : Nat) (ML : List Nat), e = .returned (.slice la ln lc) ∧ VR (Cx.ext (· ∈ ML)) w' (.l .no aB (bF d.2.2.1)) (.slice la ln lc) ∧ (∀ x ∈ ML, x < w'.heap.size) ∧ Below B0 w0 w' ∧ W.heap.size ≤ w'.heap.size ∧ ∀ x, x < W.heap.size → w'.heap[x]? = W.heap[x]? := by
 have hG : ∀ K, H9 [.a (bH.cells .no d)] K = K (.l .no aB (bF d.2.2.1), []) := fun K => by
  show (bif Nat.ble d.2.2.1.length 1048576 then K _ else none) = _
  rw [Nat.ble_eq_true_of_le hl]; rfl
 refine Calls.mono (FP.use hI hb hB hG (vs := [.agg ⟨vs⟩]) (M := M) ⟨_, _, [], [], M, [], [], [], rfl, rfl, (List.append_nil _).symm, rfl, ⟨_, rfl, ha⟩, rfl, rfl, rfl, rfl⟩ hM) ?_
 rintro e w' ⟨cv, rfl, hBk⟩
 obtain ⟨O1, M1, H1, O2, M2, H2, hret, _, _, _, hmem, _⟩ := hBk.ex
 obtain ⟨hv, _, _⟩ := hret
 obtain ⟨la, ln, lc, rfl, _⟩ : ∃ a m c, cv = .slice a m c ∧ True := by
  obtain ⟨F, hF, _⟩ := hv
  obtain ⟨a, m, c, h, _⟩ := rY.form hF
  exact ⟨a, m, c, h, trivial⟩
 exact ⟨la, ln, lc, M1, rfl, hv, fun x hx => (hmem x (by simp [hx])).2.1, hBk.below, hBk.sz, fun x hx => hBk.fr x hx (.inl (fun h => nomatch h))⟩
theorem ar8 {B0 : Nat} {w0 W : World} (hI : I B0 w0) (hb : Below B0 w0 W) (hB : B0 ≤ W.heap.size) (t : List Int) (l : List ay) (hf : aO t = true) (hl : fF (.sl aB) l = true) {v1 v2 : Value} {M1 M2 : List Nat} (h1 : VR (Cx.ext (· ∈ M1)) W (.l .no ah t) v1) (h2 : VR (Cx.ext (· ∈ M2)) W (.l .no aB l) v2) (hM1 : ∀ x ∈ M1, x < W.heap.size) (hM2 : ∀ x ∈ M2, x < W.heap.size) :
  Calls prog N.nV #[v1, v2] W fun e w' => ∃ (ta : Option Addr) (tn tc : Nat) (k : Int) (FT : List Nat), e = .returned (.tuple #[.slice ta tn tc, .int .i64 k]) ∧ rY (gK w' false ah) w' false 1 (aU t l).1 (.slice ta tn tc) FT ∧ (∀ x ∈ FT, W.heap.size ≤ x ∧ x < w'.heap.size) ∧ Below B0 w0 w' ∧ W.heap.size ≤ w'.heap.size ∧ ∀ x, x < W.heap.size → w'.heap[x]? = W.heap[x]? := by
 have hG : ∀ K, Jr [.l .no ah t, .l .no aB l] K = K (.t [.l .deep ah (aU t l).1, .s (.int .i64 (aU t l).2)], []) := fun K => by
  show (bif aO t && fF (.sl aB) l then K _ else none) = _
  rw [hf, hl]; rfl
 refine Calls.mono (JW.use hI hb hB hG (vs := [v1, v2]) (M := M1 ++ (M2 ++ [])) ⟨_, _, [], [], M1, M2 ++ [], [], [], rfl, rfl, rfl, rfl, ⟨h1, rfl, rfl⟩, _, _, [], [], M2, [], [], [], rfl, rfl, rfl, rfl, ⟨h2, rfl, rfl⟩, rfl, rfl, rfl, rfl⟩ (fun x hx => by
  rcases List.mem_append.1 hx with h | h
  ·exact hM1 x h
  ·exact hM2 x (by simpa using h))) ?_
 rintro e w' ⟨cv, rfl, hBk⟩
 obtain ⟨O1, N1, H1, O2, N2, H2, hret, hio, _, hmem, _⟩ := hBk.ex
 obtain ⟨_, rfl, _, _⟩ := hio
 obtain ⟨rs, rfl, hrs⟩ := hret
 obtain ⟨r1, rs1, D1, D1', E1, E1', G1, G1', rfl, rfl, rfl, rfl, ⟨k1, _, _⟩, hrs⟩ := hrs
 obtain ⟨r2, rs2, D2, D2', E2, E2', G2, G2', rfl, rfl, rfl, rfl, ⟨k2, rfl, _⟩, hrs⟩ := hrs
 obtain ⟨rfl, rfl, _, _⟩ := hrs
 obtain ⟨ta, tn, tc, rfl, _⟩ := rY.form k1
 have e2 : r2 = .int .i64 (aU t l).2 := k2.1
 subst e2
 refine ⟨ta, tn, tc, _, D1, rfl, k1, fun x hx => ⟨?_, (hmem x (by simp [hx])).2⟩, hBk.below, hBk.sz, fun x hx => hBk.fr x hx (.inl (fun h => nomatch h))⟩
 rcases (hmem x (by simp [hx])).1 with h | h
 ·cases h
 ·exact h
theorem ao0 {B0 : Nat} {w0 W : World} (hI : I B0 w0) (hb : Below B0 w0 W) (hB : B0 ≤ W.heap.size) (d : bT) (hf : cZ bH d = true) {vs : List Value} {M : List Nat} (ha : iq W (bH.cells .no d) vs [] M []) (hM : ∀ x ∈ M, x < W.heap.size) :
  Calls prog N.mF #[.agg ⟨vs⟩] W fun e w' => ∃ (q1 : Option Addr) (m1 d1 : Nat) (q2 : Option Addr) (m2 d2 : Nat) (q3 : Option Addr) (m3 d3 : Nat) (q5 : Option Addr) (m5 d5 : Nat) (q6 : Option Addr) (m6 d6 : Nat) (F1 F2 F3 F5 F6 : List Nat), e = .returned (.agg #[.slice q1 m1 d1, .slice q2 m2 d2, .slice q3 m3 d3, .int .i64 d.2.2.2.1, .slice q5 m5 d5, .slice q6 m6 d6]) ∧
   rY (gK w' false ah) w' false 1 d.1 (.slice q1 m1 d1) F1 ∧ rY (gK w' false ah) w' false 1 d.2.1 (.slice q2 m2 d2) F2 ∧ rY (gK w' false aF) w' false aF.n d.2.2.1 (.slice q3 m3 d3) F3 ∧ rY (gK w' false aC) w' false 5 d.2.2.2.2.1 (.slice q5 m5 d5) F5 ∧ rY (gK w' false aH) w' false aH.n d.2.2.2.2.2 (.slice q6 m6 d6) F6 ∧
   (F1 ++ (F2 ++ (F3 ++ (F5 ++ F6)))).Nodup ∧ (∀ x ∈ F1 ++ (F2 ++ (F3 ++ (F5 ++ F6))), W.heap.size ≤ x ∧ x < w'.heap.size) ∧ Below B0 w0 w' ∧ W.heap.size ≤ w'.heap.size ∧ ∀ x, x < W.heap.size → w'.heap[x]? = W.heap[x]? := by
 have hG : ∀ K, aal [.a (bH.cells .no d)] K = K (.a (bH.cells .deep d), []) := fun K => by
  show (bif cZ bH d then K _ else none) = _
  rw [hf]; rfl
 refine Calls.mono (ae7.use hI hb hB hG (vs := [.agg ⟨vs⟩]) (M := M) ⟨_, _, [], [], M, [], [], [], rfl, rfl, (List.append_nil _).symm, rfl, ⟨_, rfl, ha⟩, rfl, rfl, rfl, rfl⟩ hM) ?_
 rintro e w' ⟨cv, rfl, hBk⟩
 obtain ⟨O1, N1, H1, O2, N2, H2, hret, hio, hnd, hmem, _⟩ := hBk.ex
 obtain ⟨_, rfl, _, _⟩ := hio
 obtain ⟨rs, rfl, hrs⟩ := hret
 obtain ⟨r1, rs1, D1, D1', E1, E1', G1, G1', rfl, rfl, rfl, rfl, ⟨k1, _, _⟩, hrs⟩ := hrs
 obtain ⟨r2, rs2, D2, D2', E2, E2', G2, G2', rfl, rfl, rfl, rfl, ⟨k2, _, _⟩, hrs⟩ := hrs
 obtain ⟨r3, rs3, D3, D3', E3, E3', G3, G3', rfl, rfl, rfl, rfl, ⟨k3, _, _⟩, hrs⟩ := hrs
 obtain ⟨r4, rs4, D4, D4', E4, E4', G4, G4', rfl, rfl, rfl, rfl, ⟨k4, rfl, _⟩, hrs⟩ := hrs
 obtain ⟨r5, rs5, D5, D5', E5, E5', G5, G5', rfl, rfl, rfl, rfl, ⟨k5, _, _⟩, hrs⟩ := hrs
 obtain ⟨r6, rs6, D6, D6', E6, E6', G6, G6', rfl, rfl, rfl, rfl, ⟨k6, _, _⟩, hrs⟩ := hrs
 obtain ⟨rfl, rfl, _, _⟩ := hrs
 have e4 : r4 = .int .i64 d.2.2.2.1 := k4.1
 subst e4
 obtain ⟨q1, m1, d1, rfl, _⟩ := rY.form k1
 obtain ⟨q2, m2, d2, rfl, _⟩ := rY.form k2
 obtain ⟨q3, m3, d3, rfl, _⟩ := rY.form k3
 obtain ⟨q5, m5, d5, rfl, _⟩ := rY.form k5
 obtain ⟨q6, m6, d6, rfl, _⟩ := rY.form k6
 simp only [List.append_nil, List.nil_append] at hnd hmem
 refine ⟨q1, m1, d1, q2, m2, d2, q3, m3, d3, q5, m5, d5, q6, m6, d6, D1, D2, D3, D5, D6, rfl, k1, k2, k3, k5, k6, hnd, fun x hx => ⟨?_, (hmem x hx).2⟩, hBk.below, hBk.sz, fun x hx => hBk.fr x hx (.inl (fun h => nomatch h))⟩
 rcases (hmem x hx).1 with h | h
 ·cases h
 ·exact h
set_option maxHeartbeats 8000000 in
set_option maxRecDepth 100000 in
theorem aqY {B0 : Nat} {w0 w : World} (hI : I B0 w0) (hbel : Below B0 w0 w) (hB : B0 ≤ w.heap.size) (d : bT) (v : Int) (hf : cZ bH d = true) (hv0 : 0 ≤ v) (hv1 : v ≤ ((d.2.2.1.length : Nat) : Int)) (p1 p2 p3 p5 p6 : Option Addr) (n1 n2 n3 n5 n6 c1 c2 c3 c5 c6 : Nat) (M : List Nat)
    (ha : iq w (bH.cells .no d) [.slice p1 n1 c1, .slice p2 n2 c2, .slice p3 n3 c3, .int .i64 d.2.2.2.1, .slice p5 n5 c5, .slice p6 n6 c6] [] M []) (hM : ∀ x ∈ M, x < w.heap.size) :
    Calls prog N.OA #[.agg #[.slice p1 n1 c1, .slice p2 n2 c2, .slice p3 n3 c3, .int .i64 d.2.2.2.1, .slice p5 n5 c5, .slice p6 n6 c6], .int .i64 v] w fun e w' => ∃ (vs : List Value) (M' : List Nat), e = .returned (.agg ⟨vs⟩) ∧ iq w' (bH.cells .no (FZ d v)) vs [] M' [] ∧ (∀ x ∈ M', w.heap.size ≤ x ∧ x < w'.heap.size) ∧ Below B0 w0 w' ∧ w.heap.size ≤ w'.heap.size ∧ ∀ x, x < w.heap.size → w'.heap[x]? = w.heap[x]? := by
  have mixed := Go.Ev.Seat.mixed
  obtain ⟨f1, f2, f3, f4, f5⟩ := wu hf
  have hst : ∃ M1 : List Nat, VR (Cx.ext (· ∈ M1)) w (.l .no ah d.1) (.slice p1 n1 c1) ∧ ∀ x ∈ M1, x < w.heap.size := by
    obtain ⟨v1, vs1, O1, O2, M1, M2, H1, H2, e1, e2, e3, e4, g, _⟩ := ha
    injection e1 with e1 e1'
    subst e1
    exact ⟨M1, g.1, fun x hx => hM x (by rw [e3]; simp [hx])⟩
  obtain ⟨MS, hst, hMS⟩ := hst
  have hk0 := ao0 hI ((hbel.alloc hB (.cells #[.slice p1 n1 c1, .slice p2 n2 c2, .slice p3 n3 c3, .int .i64 d.2.2.2.1, .slice p5 n5 c5, .slice p6 n6 c6] 37)).alloc (by rw [dZ]; omega) (.cells #[.slice none 0 0, .slice none 0 0, .slice none 0 0, .int .i64 0, .slice none 0 0, .slice none 0 0] 37))
    (by rw [dZ, dZ]; omega) d hf (SL bH d ha (fun x hx => by have := hM x hx; rw [alloc_old _ _ _ (by rw [dZ]; omega), alloc_old _ _ _ this])) (fun x hx => by have := hM x hx; rw [dZ, dZ]; omega)
  go_enter Tryz.func29, Tryz.ntmps29
  go_wp2_with (
    go_at_call 72
    refine hk0.mono ?_
    rintro e w' ⟨q1, m1, d1, q2, m2, d2, q3, m3, d3, q5, m5, d5, q6, m6, d6, F1, F2, F3, F5, F6, rfl, k1, k2, k3, k5, k6, hnd, hmem, hbw, hsz, hold⟩
    simp only [dZ] at hsz hmem hold
    have hd3 : m3 ≤ d3 := by
      rcases k3 with ⟨h1, _, ad, cap, h, _⟩ | ⟨b, o, cap, F', h, h2, _⟩
      · cases h; omega
      · cases h; exact h2
    obtain rfl : m3 = d.2.2.1.length := by
      obtain ⟨_, _, _, h1, h2⟩ := rY.form k3
      cases h1; exact h2
    have hvd : v ≤ (d3 : Int) := by omega)
  have hF : ∀ {F : List Nat}, (∀ x ∈ F, x ∈ F1 ++ (F2 ++ (F3 ++ (F5 ++ F6)))) → ∀ x ∈ F, w.heap.size + 1 + 1 ≤ x ∧ x < w'.heap.size := fun h x hx => hmem x (h x hx)
  have i1 : ∀ x ∈ F1, x ∈ F1 ++ (F2 ++ (F3 ++ (F5 ++ F6))) := fun x hx => by simp [hx]
  have i2 : ∀ x ∈ F2, x ∈ F1 ++ (F2 ++ (F3 ++ (F5 ++ F6))) := fun x hx => by simp [hx]
  have i3 : ∀ x ∈ F3, x ∈ F1 ++ (F2 ++ (F3 ++ (F5 ++ F6))) := fun x hx => by simp [hx]
  have i5 : ∀ x ∈ F5, x ∈ F1 ++ (F2 ++ (F3 ++ (F5 ++ F6))) := fun x hx => by simp [hx]
  have i6 : ∀ x ∈ F6, x ∈ F1 ++ (F2 ++ (F3 ++ (F5 ++ F6))) := fun x hx => by simp [hx]
  have hs0 : w'.heap[w.heap.size]? = some (.cells #[.slice p1 n1 c1, .slice p2 n2 c2, .slice p3 n3 c3, .int .i64 d.2.2.2.1, .slice p5 n5 c5, .slice p6 n6 c6] 37 (0, 0)) := by
    rw [hold _ (by omega), alloc_old _ _ _ (by rw [dZ]; omega)]
    exact CZ _ _
  have hs1 : w'.heap[w.heap.size + 1]? = some (.cells #[.slice none 0 0, .slice none 0 0, .slice none 0 0, .int .i64 0, .slice none 0 0, .slice none 0 0] 37 (0, 0)) := by
    rw [hold _ (by omega)]
    have := CZ (w.alloc (.cells #[.slice p1 n1 c1, .slice p2 n2 c2, .slice p3 n3 c3, .int .i64 d.2.2.2.1, .slice p5 n5 c5, .slice p6 n6 c6] 37)) (.cells #[.slice none 0 0, .slice none 0 0, .slice none 0 0, .int .i64 0, .slice none 0 0, .slice none 0 0] 37)
    rw [dZ] at this
    exact this
  have hold' : ∀ x, x < w.heap.size → w'.heap[x]? = w.heap[x]? := fun x hx => by
    rw [hold x (by omega), alloc_old _ _ _ (by rw [dZ]; omega), alloc_old _ _ _ hx]
  clear hk0 hold
  obtain ⟨F3', k3', ar9⟩ : ∃ F3' : List Nat, rY (gK w' true aF) w' true aF.n (d.2.2.1.take v.toNat) (.slice q3 v.toNat d3) F3' ∧ ∀ x ∈ F3', x ∈ F3 := by
    obtain ⟨_, _, F', g1, g2⟩ := rY.part (k3.imp (e' := true) (fun h => by cases h) (fun _ _ => rfl) (fun x vs F' hk hR => gK.imp (e' := true) (fun h => by cases h) aF hR (fun _ _ => rfl))) (lo := 0) (hi := v.toNat) (Nat.zero_le _) (by omega)
    refine ⟨F', ?_, g1⟩
    simp only [Nat.zero_mul, Nat.sub_zero, List.drop_zero] at g2
    have e0 : (if d3 = 0 then q3 else Option.map (fun x => x.add 0) q3) = q3 := by
      split
      · rfl
      · cases q3 with
        | none => rfl
        | some a =>
          show some (a.add 0) = some a
          unfold Addr.add
          split <;> simp_all
    rw [e0] at g2
    exact g2
  have hlen : ((d.2.2.1.take v.toNat).length : Nat) ≤ 1048576 := by have := dN f3; rw [List.length_take]; omega
  have ar2 : ∀ W, Below B0 w0 W → W.heap.size = w'.heap.size + 1 → (∀ x, x < w'.heap.size → W.heap[x]? = w'.heap[x]?) → Calls prog N.qo #[.agg #[.slice q1 m1 d1, .slice q2 m2 d2, .slice q3 v.toNat d3, .int .i64 d.2.2.2.1, .slice q5 m5 d5, .slice q6 m6 d6]] W fun e w'' => ∃ (la : Option Addr) (ln lc : Nat) (ML : List Nat), e = .returned (.slice la ln lc) ∧ VR (Cx.ext (· ∈ ML)) w'' (.l .no aB (bF (d.2.2.1.take v.toNat))) (.slice la ln lc) ∧ (∀ x ∈ ML, x < w''.heap.size) ∧ Below B0 w0 w'' ∧ W.heap.size ≤ w''.heap.size ∧ ∀ x, x < W.heap.size → w''.heap[x]? = W.heap[x]? := by
    intro W hb hz hW
    have c1 := k1.look (w' := W) (fun b hb => hW b (hF i1 b hb).2)
    have c2 := k2.look (w' := W) (fun b hb => hW b (hF i2 b hb).2)
    have c5 := rY.look (r := aC) (w' := W) k5 (fun b hb => hW b (hF i5 b hb).2)
    have c6 := rY.look (r := aH) (w' := W) k6 (fun b hb => hW b (hF i6 b hb).2)
    have c3 : VR (Cx.ext (· ∈ F3')) W (.l .no aF (d.2.2.1.take v.toNat)) (.slice q3 v.toNat d3) := ⟨F3', L8.imp (e := true) (fun h => h) (.sl aF) (show L8 w' true (.sl aF) _ _ _ from k3') (fun b hb => hW b (hF i3 b (ar9 b hb)).2), fun _ hb => hb⟩
    have hcs : iq W (bH.cells .no (d.1, d.2.1, d.2.2.1.take v.toNat, d.2.2.2)) [.slice q1 m1 d1, .slice q2 m2 d2, .slice q3 v.toNat d3, .int .i64 d.2.2.2.1, .slice q5 m5 d5, .slice q6 m6 d6] [] (F1 ++ (F2 ++ (F3' ++ ([] ++ (F5 ++ (F6 ++ [])))))) [] :=
      ⟨_, _, [], [], F1, _, [], [], rfl, rfl, rfl, rfl, ⟨c1, rfl, rfl⟩, _, _, [], [], F2, _, [], [], rfl, rfl, rfl, rfl, ⟨c2, rfl, rfl⟩, _, _, [], [], F3', _, [], [], rfl, rfl, rfl, rfl, ⟨c3, rfl, rfl⟩, _, _, [], [], [], _, [], [], rfl, rfl, rfl, rfl, ⟨⟨rfl, rfl⟩, rfl, rfl⟩, _, _, [], [], F5, _, [], [], rfl, rfl, rfl, rfl, ⟨c5, rfl, rfl⟩, _, _, [], [], F6, [], [], [], rfl, rfl, rfl, rfl, ⟨c6, rfl, rfl⟩, rfl, rfl, rfl, rfl⟩
    refine aqX hI hb (by omega) (d.1, d.2.1, d.2.2.1.take v.toNat, d.2.2.2) hlen hcs (fun x hx => ?_)
    have : x ∈ F1 ++ (F2 ++ (F3 ++ (F5 ++ F6))) := by
      simp only [List.append_nil, List.nil_append, List.mem_append] at hx ⊢
      rcases hx with h | h | h | h | h
      · exact .inl h
      · exact .inr (.inl h)
      · exact .inr (.inr (.inl (ar9 x h)))
      · exact .inr (.inr (.inr (.inl h)))
      · exact .inr (.inr (.inr (.inr h)))
    have := (hmem x this).2
    omega
  have hdo : ∀ W (la : Option Addr) (ln lc : Nat) (ML : List Nat), Below B0 w0 W → w'.heap.size + 1 ≤ W.heap.size → (∀ x, x < w'.heap.size → W.heap[x]? = w'.heap[x]?) → VR (Cx.ext (· ∈ ML)) W (.l .no aB (bF (d.2.2.1.take v.toNat))) (.slice la ln lc) → (∀ x ∈ ML, x < W.heap.size) →
      Calls prog N.nV #[.slice p1 n1 c1, .slice la ln lc] W fun e w' => ∃ (ta : Option Addr) (tn tc : Nat) (k : Int) (FT : List Nat), e = .returned (.tuple #[.slice ta tn tc, .int .i64 k]) ∧ rY (gK w' false ah) w' false 1 (aU d.1 (bF (d.2.2.1.take v.toNat))).1 (.slice ta tn tc) FT ∧ (∀ x ∈ FT, W.heap.size ≤ x ∧ x < w'.heap.size) ∧ Below B0 w0 w' ∧ W.heap.size ≤ w'.heap.size ∧ ∀ x, x < W.heap.size → w'.heap[x]? = W.heap[x]? := by
    intro W la ln lc ML hb hz hW hv hML
    have hle : (Cx.ext (· ∈ MS)).Le w (Cx.ext (· ∈ MS)) W := ⟨fun _ _ _ h => h, fun _ h => h, fun _ h => h, fun b hb => (hW b (by have := hMS b hb; omega)).trans (hold' b (hMS b hb)), fun _ _ _ h => h⟩
    exact ar8 hI hb (by omega) d.1 (bF (d.2.2.1.take v.toNat)) f1 (AV (vS f3 _)) (VR.le hle _ hst) hv (fun x hx => by have := hMS x hx; omega) hML
  have hV : (w'.alloc (.cells #[.slice q1 m1 d1, .slice q2 m2 d2, .slice q3 v.toNat d3, .int .i64 d.2.2.2.1, .slice q5 m5 d5, .slice q6 m6 d6] 37)).heap[w'.heap.size]? = some (.cells #[.slice q1 m1 d1, .slice q2 m2 d2, .slice q3 v.toNat d3, .int .i64 d.2.2.2.1, .slice q5 m5 d5, .slice q6 m6 d6] 37 (0, 0)) := CZ _ _
  have hVo : ∀ x, x < w'.heap.size → (w'.alloc (.cells #[.slice q1 m1 d1, .slice q2 m2 d2, .slice q3 v.toNat d3, .int .i64 d.2.2.2.1, .slice q5 m5 d5, .slice q6 m6 d6] 37)).heap[x]? = w'.heap[x]? := fun x hx => alloc_old _ _ _ hx
  have hVb : Below B0 w0 (w'.alloc (.cells #[.slice q1 m1 d1, .slice q2 m2 d2, .slice q3 v.toNat d3, .int .i64 d.2.2.2.1, .slice q5 m5 d5, .slice q6 m6 d6] 37)) := hbw.alloc (by omega) _
  have hVs : (w'.alloc (.cells #[.slice q1 m1 d1, .slice q2 m2 d2, .slice q3 v.toNat d3, .int .i64 d.2.2.2.1, .slice q5 m5 d5, .slice q6 m6 d6] 37)).heap.size = w'.heap.size + 1 := dZ _ _
  have z0 : (w'.alloc (.cells #[.slice q1 m1 d1, .slice q2 m2 d2, .slice q3 v.toNat d3, .int .i64 d.2.2.2.1, .slice q5 m5 d5, .slice q6 m6 d6] 37)).cell? ⟨w.heap.size, 0, none⟩ = some (.slice p1 n1 c1) := by
    simp only [World.cell?, hVo _ (show w.heap.size < w'.heap.size by omega), hs0]; rfl
  go_region_with (first
    | (go_at_call 56
       refine Calls.mono (ar2 _ ?_ ?_ ?_) ?_
       · first | exact hVb | exact hVb.drew | exact hVb.drew.drew
       · exact hVs
       · exact hVo
       rintro e w2 ⟨la, ln, lc, ML, rfl, l1, l2, l3, l4, l5⟩
       have l6 : ∀ x, x < w'.heap.size → w2.heap[x]? = w'.heap[x]? := fun x hx => (l5 x (Nat.lt_of_lt_of_le (Nat.lt_succ_of_lt hx) (Nat.le_of_eq hVs.symm))).trans (hVo x hx)
       have l7 : w'.heap.size + 1 ≤ w2.heap.size := Nat.le_trans (Nat.le_of_eq hVs.symm) l4
       have l8 : w2.heap[w'.heap.size]? = some (.cells #[.slice q1 m1 d1, .slice q2 m2 d2, .slice q3 v.toNat d3, .int .i64 d.2.2.2.1, .slice q5 m5 d5, .slice q6 m6 d6] 37 (0, 0)) := (l5 _ (Nat.lt_of_lt_of_le (Nat.lt_succ_self _) (Nat.le_of_eq hVs.symm))).trans hV
       have z2 : w2.cell? ⟨w.heap.size, 0, none⟩ = some (.slice p1 n1 c1) := by
         simp only [World.cell?, l6 _ (show w.heap.size < w'.heap.size by omega), hs0]; rfl)
    | (go_at_call 55
       refine Calls.mono (hdo _ la ln lc ML ?_ ?_ ?_ ?_ ?_) ?_
       · first | exact l3 | exact l3.drew | exact l3.drew.drew
       · exact l7
       · exact l6
       · exact l1
       · exact l2
       rintro e w3 ⟨ta, tn, tc, k, FT, rfl, t1, t2, t3, t4, t5⟩
       have t6 : ∀ x, x < w'.heap.size → w3.heap[x]? = w'.heap[x]? := fun x hx => (t5 x (Nat.lt_of_lt_of_le (Nat.lt_succ_of_lt hx) l7)).trans (l6 x hx)
       have t8 : w3.heap[w'.heap.size]? = some (.cells #[.slice q1 m1 d1, .slice q2 m2 d2, .slice q3 v.toNat d3, .int .i64 d.2.2.2.1, .slice q5 m5 d5, .slice q6 m6 d6] 37 (0, 0)) := (t5 _ (Nat.lt_of_lt_of_le (Nat.lt_succ_self _) l7)).trans l8
       have e1 : w3.cell? ⟨w'.heap.size, 1, none⟩ = some (.slice q2 m2 d2) := by simp [World.cell?, t8]
       have e1f : w3.frozen? ⟨w'.heap.size, 1, none⟩ = false := by simp [World.frozen?, t8]))
  all_goals (
    rw [show w3.setCell ⟨w'.heap.size, 1, none⟩ (.slice ta tn tc) = w3.setRow w'.heap.size #[.slice q1 m1 d1, .slice ta tn tc, .slice q3 v.toNat d3, .int .i64 d.2.2.2.1, .slice q5 m5 d5, .slice q6 m6 d6] by
      rw [setCell_eq_setRow _ _ _ _ _ _ _ t8]; rfl]
    obtain ⟨W4, hW4⟩ : ∃ W4, W4 = w3.setRow w'.heap.size #[.slice q1 m1 d1, .slice ta tn tc, .slice q3 v.toNat d3, .int .i64 d.2.2.2.1, .slice q5 m5 d5, .slice q6 m6 d6] := ⟨_, rfl⟩
    have u0 : W4.heap[w'.heap.size]? = some (.cells #[.slice q1 m1 d1, .slice ta tn tc, .slice q3 v.toNat d3, .int .i64 d.2.2.2.1, .slice q5 m5 d5, .slice q6 m6 d6] 37 (0, 0)) := by rw [hW4]; exact setRow_heap w3 _ _ _ 37 (0, 0) t8
    have uo : ∀ x, x ≠ w'.heap.size → W4.heap[x]? = w3.heap[x]? := fun x hx => by rw [hW4]; exact setRow_other w3 _ x _ hx
    have ub : Below B0 w0 W4 := by rw [hW4]; exact Below.setRow' t3 (by omega) _
    have us : W4.heap.size = w3.heap.size := by
      rw [hW4]; show (w3.heap.modify _ _).size = _
      rw [Array.size_modify]
    rw [← hW4]
    clear hW4
    have u5 : W4.cell? ⟨w'.heap.size, 5, none⟩ = some (.slice q6 m6 d6) := by simp [World.cell?, u0]
    have u5f : W4.frozen? ⟨w'.heap.size, 5, none⟩ = false := by simp [World.frozen?, u0]
    go_wp2_with fail
    rw [show W4.setCell ⟨w'.heap.size, 5, none⟩ (.slice none 0 0) = W4.setRow w'.heap.size #[.slice q1 m1 d1, .slice ta tn tc, .slice q3 v.toNat d3, .int .i64 d.2.2.2.1, .slice q5 m5 d5, .slice none 0 0] by
      rw [setCell_eq_setRow _ _ _ _ _ _ _ u0]; rfl]
    obtain ⟨W5, hW5⟩ : ∃ W5, W5 = W4.setRow w'.heap.size #[.slice q1 m1 d1, .slice ta tn tc, .slice q3 v.toNat d3, .int .i64 d.2.2.2.1, .slice q5 m5 d5, .slice none 0 0] := ⟨_, rfl⟩
    have y0 : W5.heap[w'.heap.size]? = some (.cells #[.slice q1 m1 d1, .slice ta tn tc, .slice q3 v.toNat d3, .int .i64 d.2.2.2.1, .slice q5 m5 d5, .slice none 0 0] 37 (0, 0)) := by rw [hW5]; exact setRow_heap W4 _ _ _ 37 (0, 0) u0
    have yo : ∀ x, x ≠ w'.heap.size → W5.heap[x]? = w3.heap[x]? := fun x hx => by rw [hW5, setRow_other W4 _ x _ hx]; exact uo x hx
    have yb : Below B0 w0 W5 := by rw [hW5]; exact Below.setRow' ub (by omega) _
    have ys : W5.heap.size = w3.heap.size := by
      rw [hW5]; show (W4.heap.modify _ _).size = _
      rw [Array.size_modify]; exact us
    rw [← hW5]
    clear hW5
    have hdisj := hnd
    have hF5 : ∀ x ∈ F5, x ∉ F1 ∧ x ∉ F3 := fun x hx => by
      have n1 := List.nodup_append.1 hnd
      have n2 := List.nodup_append.1 n1.2.1
      have n3 := List.nodup_append.1 n2.2.1
      exact ⟨fun h => n1.2.2 x h x (by simp [hx]) rfl, fun h => n3.2.2 x h x (by simp [hx]) rfl⟩
    have y3 : ∀ x, x < w'.heap.size → W5.heap[x]? = w'.heap[x]? := fun x hx => (yo x (by omega)).trans (t6 x hx)
    have s5 : rY (gK W5 false aC) W5 false 5 d.2.2.2.2.1 (.slice q5 m5 d5) F5 := k5.imp (fun h => h) (fun b hb => y3 b (hF i5 b hb).2) (fun x vs F' hk hR => gK.imp (fun h => h) aC hR (fun b hb => y3 b (hF i5 b (hk b hb)).2))
    have hn5 : d.2.2.2.2.1.length ≤ 1048576 := dN f4
    refine ar7 yb _ _ _ _ _ _ _ _ _ _ _ _ _ _ _ _ _ _ _ _ _ _ _ _ _ _ _ _ _ _ _ _ _ _ _ _ _ _ _ _ _ w'.heap.size _ _ _ _ _ d.2.2.2.2.1 q5 m5 d5 F5 hn5 s5 (fun x hx => by have := hF i5 x hx; omega) y0 (fun h => by have := hF i5 _ h; omega) _ ?_
    intro y24 y25 y26 y27 y28 y29 y30 y31 y32 y33 y34 y35 y36 y37 y38 y39 y40 y41 W6 F6' r1 r2 r3 r4 r5
    have hh5 : ∀ {x : Nat}, F5.head? = some x → x ∈ F5 := fun h => List.mem_of_mem_head? h
    have g0 : W6.heap[w'.heap.size]? = some (.cells #[.slice q1 m1 d1, .slice ta tn tc, .slice q3 v.toNat d3, .int .i64 d.2.2.2.1, .slice q5 m5 d5, .slice none 0 0] 37 (0, 0)) := (r3 _ (fun h => by have := hF i5 _ (hh5 h); omega)).trans y0
    have g1 : W6.heap[w.heap.size + 1]? = some (.cells #[.slice none 0 0, .slice none 0 0, .slice none 0 0, .int .i64 0, .slice none 0 0, .slice none 0 0] 37 (0, 0)) := (r3 _ (fun h => by have := hF i5 _ (hh5 h); omega)).trans ((y3 _ (by omega)).trans hs1)
    have a0 : W6.cell? ⟨w'.heap.size, 0, none⟩ = some (.slice q1 m1 d1) := by simp [World.cell?, g0]
    have a1 : W6.cell? ⟨w'.heap.size, 1, none⟩ = some (.slice ta tn tc) := by simp [World.cell?, g0]
    have a2 : W6.cell? ⟨w'.heap.size, 2, none⟩ = some (.slice q3 v.toNat d3) := by simp [World.cell?, g0]
    have a3 : W6.cell? ⟨w'.heap.size, 3, none⟩ = some (.int .i64 d.2.2.2.1) := by simp [World.cell?, g0]
    have a4 : W6.cell? ⟨w'.heap.size, 4, none⟩ = some (.slice q5 m5 d5) := by simp [World.cell?, g0]
    have a5 : W6.cell? ⟨w'.heap.size, 5, none⟩ = some (.slice none 0 0) := by simp [World.cell?, g0]
    have o0 : W6.cell? ⟨w.heap.size + 1, 0, none⟩ = some (.slice none 0 0) := by simp [World.cell?, g1]
    have o1 : W6.cell? ⟨w.heap.size + 1, 1, none⟩ = some (.slice none 0 0) := by simp [World.cell?, g1]
    have o2 : W6.cell? ⟨w.heap.size + 1, 2, none⟩ = some (.slice none 0 0) := by simp [World.cell?, g1]
    have o3 : W6.cell? ⟨w.heap.size + 1, 3, none⟩ = some (.int .i64 0) := by simp [World.cell?, g1]
    have o4 : W6.cell? ⟨w.heap.size + 1, 4, none⟩ = some (.slice none 0 0) := by simp [World.cell?, g1]
    have o5 : W6.cell? ⟨w.heap.size + 1, 5, none⟩ = some (.slice none 0 0) := by simp [World.cell?, g1]
    have of0 : W6.frozen? ⟨w.heap.size + 1, 0, none⟩ = false := by simp [World.frozen?, g1]
    have of1 : W6.frozen? ⟨w.heap.size + 1, 1, none⟩ = false := by simp [World.frozen?, g1]
    have of2 : W6.frozen? ⟨w.heap.size + 1, 2, none⟩ = false := by simp [World.frozen?, g1]
    have of3 : W6.frozen? ⟨w.heap.size + 1, 3, none⟩ = false := by simp [World.frozen?, g1]
    have of4 : W6.frozen? ⟨w.heap.size + 1, 4, none⟩ = false := by simp [World.frozen?, g1]
    have of5 : W6.frozen? ⟨w.heap.size + 1, 5, none⟩ = false := by simp [World.frozen?, g1]
    go_wp2_with fail
    rw [aoY g1]
    have g2 := setRow_heap W6 _ _ #[.slice q1 m1 d1, .slice ta tn tc, .slice q3 v.toNat d3, .int .i64 d.2.2.2.1, .slice q5 m5 d5, .slice none 0 0] 37 (0, 0) g1
    obtain ⟨W7, hW7⟩ : ∃ W7, W7 = W6.setRow (w.heap.size + 1) #[.slice q1 m1 d1, .slice ta tn tc, .slice q3 v.toNat d3, .int .i64 d.2.2.2.1, .slice q5 m5 d5, .slice none 0 0] := ⟨_, rfl⟩
    have j1 : ∀ x, x ≠ w.heap.size + 1 → W7.heap[x]? = W6.heap[x]? := fun x hx => by rw [hW7]; exact setRow_other W6 _ x _ hx
    have j2 : Below B0 w0 W7 := by rw [hW7]; exact Below.setRow' r4 (by omega) _
    have j3 : W7.heap.size = w3.heap.size := by
      rw [hW7]; show (W6.heap.modify _ _).size = _
      rw [Array.size_modify, r5]; exact ys
    rw [← hW7] at g2 ⊢
    clear hW7
    have n1 : ∀ b ∈ F1, W7.heap[b]? = w'.heap[b]? := fun b hb => by
      have := hF i1 b hb
      rw [j1 b (by omega), r3 b (fun h => (hF5 b (hh5 h)).1 hb), y3 b (by omega)]
    have n3 : ∀ b ∈ F3, W7.heap[b]? = w'.heap[b]? := fun b hb => by
      have := hF i3 b hb
      rw [j1 b (by omega), r3 b (fun h => (hF5 b (hh5 h)).2 hb), y3 b (by omega)]
    have nT : ∀ b ∈ FT, W7.heap[b]? = w3.heap[b]? := fun b hb => by
      have := t2 b hb
      rw [j1 b (by omega), r3 b (fun h => by have := hF i5 b (hh5 h); omega), yo b (by omega)]
    have v1 := k1.look (w' := W7) n1
    have vT := t1.look (w' := W7) nT
    have v3 : VR (Cx.ext (· ∈ F3')) W7 (.l .no aF (d.2.2.1.take v.toNat)) (.slice q3 v.toNat d3) := ⟨F3', L8.imp (e := true) (fun h => h) (.sl aF) (show L8 w' true (.sl aF) _ _ _ from k3') (fun b hb => n3 b (ar9 b hb)), fun _ hb => hb⟩
    have v5 : VR (Cx.ext (· ∈ F6')) W7 (.l .no aC (d.2.2.2.2.1.map xg)) (.slice q5 m5 d5) := by
      have hle : (Cx.ext (· ∈ F6')).Le W6 (Cx.ext (· ∈ F6')) W7 := ⟨fun _ _ _ h => h, fun _ h => h, fun _ h => h, fun b hb => j1 b (by have := hF i5 b (r2 b hb); omega), fun _ _ _ h => h⟩
      exact VR.le hle _ r1
    have v6 : VR (Cx.ext (· ∈ ([] : List Nat))) W7 (.l .no aH []) (.slice none 0 0) := ⟨[], .inl ⟨rfl, rfl, none, 0, rfl, fun _ => ⟨rfl, rfl⟩⟩, fun _ h => (nomatch h)⟩
    refine bodyPost_ret (results_cell_row rfl _ _ (w.heap.size + 1) 37 _ (0, 0) _ rfl g2 Tryz.underlying37 rfl (by kernel_rfl)) rfl ⟨_, F1 ++ (FT ++ (F3' ++ ([] ++ (F6' ++ ([] ++ []))))), rfl,
      ⟨_, _, [], [], F1, _, [], [], rfl, rfl, rfl, rfl, ⟨v1, rfl, rfl⟩, _, _, [], [], FT, _, [], [], rfl, rfl, rfl, rfl, ⟨vT, rfl, rfl⟩, _, _, [], [], F3', _, [], [], rfl, rfl, rfl, rfl, ⟨v3, rfl, rfl⟩, _, _, [], [], [], _, [], [], rfl, rfl, rfl, rfl, ⟨⟨rfl, rfl⟩, rfl, rfl⟩, _, _, [], [], F6', _, [], [], rfl, rfl, rfl, rfl, ⟨v5, rfl, rfl⟩, _, _, [], [], [], [], [], [], rfl, rfl, rfl, rfl, ⟨v6, rfl, rfl⟩, rfl, rfl, rfl, rfl⟩,
      fun x hx => ?_, j2, by omega, fun x hx => ?_⟩
    · simp only [List.append_nil, List.nil_append, List.mem_append] at hx
      rcases hx with h | h | h | h
      · have := hF i1 x h; omega
      · have := t2 x h; omega
      · have := hF i3 x (ar9 x h); omega
      · have := hF i5 x (r2 x h); omega
    · rw [j1 x (by omega), r3 x (fun h => by have := hF i5 x (hh5 h); omega), y3 x (by omega), hold' x hx])
def asj : Sm := arU [.a bH, .i] (fun d => cZ bH d.1 && decide (0 ≤ d.2.1) && decide (d.2.1 ≤ ((d.1.2.2.1.length : Nat) : Int))) (fun d => .a (bH.cells .no (FZ d.1 d.2.1)))
theorem ata : aV prog I N.OA false asj := by
 refine ⟨Tryz.call29, fun ws K q hq B0 w0 w N vs O M H hI hbel hB hargs hnd hO hM hH hN => ?_⟩
 unfold asj arU at hq
 split at hq
 case h_2 => cases hq
 rename_i dd hdd
 have hws := al2 _ hdd
 obtain ⟨d, v, ⟨⟩⟩ := dd
 change (bif cZ bH d && decide (0 ≤ v) && decide (v ≤ ((d.2.2.1.length : Nat) : Int)) then K (.a (bH.cells .no (FZ d v)), []) else none) = some q at hq
 cases hp : (cZ bH d && decide (0 ≤ v) && decide (v ≤ ((d.2.2.1.length : Nat) : Int))) with
 | false => rw [hp] at hq; cases hq
 | true =>
 rw [hp] at hq
 have hq' : K (.a (bH.cells .no (FZ d v)), []) = some q := hq
 subst hws
 simp only [Bool.and_eq_true, decide_eq_true_eq] at hp
 obtain ⟨⟨hfit, hv0⟩, hv1⟩ := hp
 obtain ⟨v1, vs1, O1, O1', M1, M1', H1, H1', rfl, rfl, rfl, rfl, a1, b1⟩ := hargs
 obtain ⟨v2, vs2, O2, O2', M2, M2', H2, H2', rfl, rfl, rfl, rfl, a2, b2⟩ := b1
 obtain ⟨rfl, rfl, rfl, rfl⟩ := b2
 have z2 : v2 = .int .i64 v := a2.1.1
 subst z2
 obtain ⟨us, rfl, c1⟩ := a1
 obtain ⟨u1, us1, P1, P1', Q1, Q1', R1, R1', rfl, rfl, rfl, rfl, ⟨g1, rfl, rfl⟩, c2⟩ := c1
 obtain ⟨u2, us2, P2, P2', Q2, Q2', R2, R2', rfl, rfl, rfl, rfl, ⟨g2, rfl, rfl⟩, c3⟩ := c2
 obtain ⟨u3, us3, P3, P3', Q3, Q3', R3, R3', rfl, rfl, rfl, rfl, ⟨g3, rfl, rfl⟩, c4⟩ := c3
 obtain ⟨u4, us4, P4, P4', Q4, Q4', R4, R4', rfl, rfl, rfl, rfl, ⟨g4, rfl, rfl⟩, c5⟩ := c4
 obtain ⟨u5, us5, P5, P5', Q5, Q5', R5, R5', rfl, rfl, rfl, rfl, ⟨g5, rfl, rfl⟩, c6⟩ := c5
 obtain ⟨u6, us6, P6, P6', Q6, Q6', R6, R6', rfl, rfl, rfl, rfl, ⟨g6, rfl, rfl⟩, c7⟩ := c6
 obtain ⟨rfl, rfl, rfl, rfl⟩ := c7
 have z4 : u4 = .int .i64 d.2.2.2.1 := g4.1
 subst z4
 have slc : ∀ {r : Rw} {xs : List r.T} {v : Value} {M : List Nat}, VR (Cx.ext (· ∈ M)) w (.l .no r xs) v → ∃ a n c, v = .slice a n c := fun h => by
  obtain ⟨F, hF, _⟩ := h
  obtain ⟨a, m, c, h, _⟩ := rY.form hF
  exact ⟨a, m, c, h⟩
 obtain ⟨p1, n1, y1, rfl⟩ := slc g1
 obtain ⟨p2, n2, y2, rfl⟩ := slc g2
 obtain ⟨p3, n3, y3, rfl⟩ := slc g3
 obtain ⟨p5, n5, y5, rfl⟩ := slc g5
 obtain ⟨p6, n6, y6, rfl⟩ := slc g6
 have hcs : iq w (bH.cells .no d) [.slice p1 n1 y1, .slice p2 n2 y2, .slice p3 n3 y3, .int .i64 d.2.2.2.1, .slice p5 n5 y5, .slice p6 n6 y6] [] (Q1 ++ (Q2 ++ (Q3 ++ (Q4 ++ (Q5 ++ (Q6 ++ [])))))) [] :=
  ⟨_, _, [], [], Q1, _, [], [], rfl, rfl, rfl, rfl, ⟨g1, rfl, rfl⟩, _, _, [], [], Q2, _, [], [], rfl, rfl, rfl, rfl, ⟨g2, rfl, rfl⟩, _, _, [], [], Q3, _, [], [], rfl, rfl, rfl, rfl, ⟨g3, rfl, rfl⟩, _, _, [], [], Q4, _, [], [], rfl, rfl, rfl, rfl, ⟨g4, rfl, rfl⟩, _, _, [], [], Q5, _, [], [], rfl, rfl, rfl, rfl, ⟨g5, rfl, rfl⟩, _, _, [], [], Q6, [], [], [], rfl, rfl, rfl, rfl, ⟨g6, rfl, rfl⟩, rfl, rfl, rfl, rfl⟩
 have hmain := aqY hI hbel hB d v hfit hv0 hv1 p1 p2 p3 p5 p6 n1 n2 n3 n5 n6 y1 y2 y3 y5 y6 _ hcs (fun x hx => hN x (hM x (List.mem_append.2 (.inl hx))))
 refine Calls.mono hmain ?_
 rintro e w' ⟨vs, M', rfl, k1, k2, k3, k4, k5⟩
 refine ⟨_, hq', ?_⟩
 refine ⟨⟨[], M', [], [], [], [], ⟨vs, rfl, k1⟩, ⟨rfl, rfl, rfl, rfl⟩, by simp, fun x hx => (by simp at hx), fun x hx => ?_, fun x hx => (by simp at hx)⟩, k3, k4, fun x hx _ => k5 x hx⟩
 have hx' : x ∈ M' := by simpa using hx
 exact ⟨.inr (.inr (k2 x hx').1), (k2 x hx').2, fun h => by cases h⟩
def adG : Sm := bg [.a bH, .i] (fun d => cZ bH d.1 && decide (0 ≤ d.2.1) && decide (d.2.1 ≤ ((d.1.2.2.1.length : Nat) : Int))) (fun d => (.a (bH.cells .no (FZ d.1 d.2.1)), []))
theorem ah6 : aV prog I N.OA false adG := kD ata (aI fun d K h => by
 show (bif cZ bH d.1 && decide (0 ≤ d.2.1) && decide (d.2.1 ≤ ((d.1.2.2.1.length : Nat) : Int)) then K (.a (bH.cells .no (FZ d.1 d.2.1)), []) else none) = _
 rw [h]; rfl)
end Go.Ev.Seat
end
section
namespace Go.Ev.Seat
open Go.RowKit
set_option maxRecDepth 100000
set_option linter.unusedVariables false
set_option linter.unusedSimpArgs false
noncomputable abbrev NI : List (Nat × Bool × Sm) := [(N.lU, true, YI)]
noncomputable abbrev adH : Env := En NI [] [] [] false 0 []
noncomputable def Ih (d : bT) (v : Int) (K : aj → Option aj) : Option aj := (bif (cZ bH d) then (bif (jk d) then (bif (decide (v ≥ (0 : Int))) then K ((.s (.bool (decide (v ≤ (((List.length d.2.2.1) : Nat) : Int))))), []) else K ((.s (.bool false)), [])) else K ((.s (.bool false)), [])) else none)
theorem adI (d : bT) (v : Int) (K : aj → Option aj) : dL adH true F.pO [.a (bH.cells .no d), .s (.int .i64 v)] K = Ih d v K := by kernel_rfl
def Bz : Sm := bg [.a bH, .i] (fun d => cZ bH d.1) (fun d => (bl (iQ d.1 d.2.1), []))
theorem adJ (d : bT) (v : Int) (h : (cZ bH d) = true) (K : aj → Option aj) : Ih d v K = K (bl (iQ d v), []) := by
 unfold Ih iQ
 rw [h]
 cases jk d
 ·rfl
 cases hv : decide (0 ≤ v) <;> rfl
theorem Dl : aV prog I N.pO true Bz := kD (aW (aY aae bn) (l := NI) (p := []) (ls := []) (lend := []) (focus := false) (fuel := 0) (give := []) (fn := F.pO) (by kernel_rfl) (by kernel_rfl) (by kernel_rfl) (by kernel_rfl) (cs := []) (by kernel_rfl) aK) (aI fun d K h => (adI d.1 d.2.1 K).trans (adJ d.1 d.2.1 h K))
end Go.Ev.Seat
end
section
namespace Go.Ev.Seat
open Go.RowKit
set_option maxRecDepth 100000
set_option linter.unusedVariables false
set_option linter.unusedSimpArgs false
def sN (x4 : Int) : St := { tm := ([.x, .x, .x, .x, (.s (.int .i64 x4))] ++ List.replicate 17 .x), ob := [], nx := 0, io := [] }
def sO : St := { tm := ([] ++ List.replicate 22 .x), ob := [], nx := 0, io := [] }
def pY : Ss := { tm := (.cons (.x) (.cons (.int .i64) (.cons (.pb 0 0) (.cons (.x) (.cons (.x) (.cons (.int .i64) (Fj 16))))))), ob := (.box (.cons (.l .no ah) (.cons (.l .no ah) (.cons (.l .no aF) (.cons (.int .i64) (.cons (.l .no aC) (.cons (.l .no aH) .nil)))))) .nil), nx := 1, io := .nil }
def WJ (x1 : Int) (x5 : Int) (b00 : List Int) (b01 : List Int) (b02 : List aA) (aJ : Int) (aN : List au) (aQ : List ak) : pY.T := (((), (x1, ((), ((), ((), (x5, xd 16)))))), ((b00, (b01, (b02, (aJ, (aN, (aQ, ())))))), ()), ())
def ng (x1 : Int) (x5 : Int) (b00 : List Int) (b01 : List Int) (b02 : List aA) (aJ : Int) (aN : List au) (aQ : List ak) : St := { tm := ([.x, (.s (.int .i64 x1)), (.pb 0 0), .x, .x, (.s (.int .i64 x5))] ++ List.replicate 16 .x), ob := [(0, (.box [(.l .no ah b00), (.l .no ah b01), (.l .no aF b02), (.s (.int .i64 aJ)), (.l .no aC aN), (.l .no aH aQ)]))], nx := 1, io := [] }
theorem Un (x1 : Int) (x5 : Int) (b00 : List Int) (b01 : List Int) (b02 : List aA) (aJ : Int) (aN : List au) (aQ : List ak) : pY.mk' (WJ x1 x5 b00 b01 b02 aJ aN aQ) = (ng x1 x5 b00 b01 b02 aJ aN aQ) := by kernel_rfl
def WL (d : pY.T) (f : Int → Int → (List Int) → (List Int) → (List aA) → Int → (List au) → (List ak) → Option aj) : Option aj := match d with | ((_, (x1, (_, (_, (_, (x5, _)))))), ((b00, (b01, (b02, (aJ, (aN, (aQ, _)))))), _), _) => f x1 x5 b00 b01 b02 aJ aN aQ
noncomputable def kJ (x1 : Int) (x5 : Int) (b00 : List Int) (b01 : List Int) (b02 : List aA) (aJ : Int) (aN : List au) (aQ : List ak) (lC : Int → Int → (List Int) → (List Int) → (List aA) → Int → (List au) → (List ak) → Option aj) (k0 : Int → Option aj) (k1 : Option aj) : Option aj := (bif (decide (x5 < (((List.length aN) : Nat) : Int))) then (bif ((decide ((0 : Int) ≤ x5)) && (decide (x5 < (((List.length aN) : Nat) : Int)))) then (bif ((List.getD aN (Int.toNat x5) (aC.dflt)).1 == x1) then (k0 x5) else (lC x1 (IntKind.wrap .i64 (x5 + (1 : Int))) b00 b01 b02 aJ aN aQ)) else none) else k1)
noncomputable def ni : Nat → Int → Int → (List Int) → (List Int) → (List aA) → Int → (List au) → (List ak) → (Int → Option aj) → (Option aj) → Option aj
 | 0, _, _, _, _, _, _, _, _, _, _ => none
 | m + 1, x1, x5, b00, b01, b02, aJ, aN, aQ, k0, k1 => kJ x1 x5 b00 b01 b02 aJ aN aQ (fun x1 x5 b00 b01 b02 aJ aN aQ => (ni m x1 x5 b00 b01 b02 aJ aN aQ k0 k1)) k0 k1
noncomputable def Jy (x1 : Int) (x5 : Int) (b00 : List Int) (b01 : List Int) (b02 : List aA) (aJ : Int) (aN : List au) (aQ : List ak) (k0 : Int → Option aj) (k1 : Option aj) : Option aj := ni (x1.toNat + x5.toNat + List.length b00 + List.length b01 + List.length b02 + aJ.toNat + List.length aN + List.length aQ + 2) x1 x5 b00 b01 b02 aJ aN aQ k0 k1
noncomputable def yR : dV := (fun (σ : St) (K : Ex → St → Option aj) => (match pY.un σ with | some d => WL d (fun x1 x5 b00 b01 b02 aJ aN aQ => Jy x1 x5 b00 b01 b02 aJ aN aQ (fun x4 => (K .ret (sN x4))) (K (.ext 0) sO)) | none => none))
noncomputable abbrev J4 : Env := En [] [] [(2, [1,2,5], [4], yR)] [] false 0 []
noncomputable abbrev qO := rounds (run J4 (aS F.pq 2)) [1,2,5] [4]
theorem Uo (m : Nat) (x1 : Int) (x5 : Int) (b00 : List Int) (b01 : List Int) (b02 : List aA) (aJ : Int) (aN : List au) (aQ : List ak) (K : Ex → St → Option aj) : qO (m + 1) (ng x1 x5 b00 b01 b02 aJ aN aQ) K = kJ x1 x5 b00 b01 b02 aJ aN aQ (fun x1 x5 b00 b01 b02 aJ aN aQ => (qO m (ng x1 x5 b00 b01 b02 aJ aN aQ) K)) (fun x4 => (K .ret (sN x4))) (K (.ext 0) sO) := by kernel_rfl
theorem NJ (K : Ex → St → Option aj) : ∀ m : Nat, (∀ (x1 : Int) (x5 : Int) (b00 : List Int) (b01 : List Int) (b02 : List aA) (aJ : Int) (aN : List au) (aQ : List ak), qO m (ng x1 x5 b00 b01 b02 aJ aN aQ) K = ni m x1 x5 b00 b01 b02 aJ aN aQ (fun x4 => (K .ret (sN x4))) (K (.ext 0) sO))
 | 0 => (fun _ _ _ _ _ _ _ _ => rfl)
 | m + 1 => (fun x1 x5 b00 b01 b02 aJ aN aQ => (by rw [Uo, show (fun x1 x5 b00 b01 b02 aJ aN aQ => (qO m (ng x1 x5 b00 b01 b02 aJ aN aQ) K)) = (fun x1 x5 b00 b01 b02 aJ aN aQ => (ni m x1 x5 b00 b01 b02 aJ aN aQ (fun x4 => (K .ret (sN x4))) (K (.ext 0) sO))) from funext fun x1 => funext fun x5 => funext fun b00 => funext fun b01 => funext fun b02 => funext fun aJ => funext fun aN => funext fun aQ => (NJ K m) x1 x5 b00 b01 b02 aJ aN aQ]; rfl))
theorem Ro : dJ J4 (aS F.pq 2) := by
 refine dh (n := 2) (F := yR) (by kernel_rfl) rfl (li := [1,2,5]) (lo := [4]) rfl (fun σ K r hr => ?_)
 unfold yR at hr
 split at hr
 ·rename_i d hd
  rw [Ss.dY hd]
  exact ⟨_, ((congrArg (fun z => qO _ z K) (Un _ _ _ _ _ _ _ _)).trans ((NJ K _) _ _ _ _ _ _ _ _)).trans hr⟩
 ·cases hr
noncomputable def J5 (d : bT) (s : Int) (K : aj → Option aj) : Option aj := (Jy s (0 : Int) d.1 d.2.1 d.2.2.1 d.2.2.2.1 d.2.2.2.2.1 d.2.2.2.2.2 (fun y0 => K ((.s (.int .i64 y0)), [])) (K ((.s (.int .i64 (-(1 : Int)))), [])))
theorem ae8 (d : bT) (s : Int) (K : aj → Option aj) : dL J4 true F.pq [.a (bH.cells .no d), .s (.int .i64 s)] K = J5 d s K := by kernel_rfl
def SN : Sm := bg [.a bH, .i] (fun d => Nat.ble d.1.2.2.2.2.1.length 1048576) (fun d => (.s (.int .i64 (zW (fun m => m.1 == d.2.1) d.1.2.2.2.2.1)), []))
theorem ae9 (d : bT) (s : Int) (h : (Nat.ble d.2.2.2.2.1.length 1048576) = true) (K : aj → Option aj) : J5 d s K = K (.s (.int .i64 (zW (fun m => m.1 == s) d.2.2.2.2.1)), []) := by
 have hl := Nat.le_of_ble_eq_true h
 obtain ⟨st, tx, lg, ck, mb, ls⟩ := d
 have hl : mb.length ≤ 1048576 := hl
 unfold J5
 refine Eq.trans (Lh (R := fun m i => ni m s i st tx lg ck mb ls (fun y0 => K ((.s (.int .i64 y0)), [])) (K ((.s (.int .i64 (-(1 : Int)))), []))) (p := fun x => x.1 == s) (xs := mb) (z := aC.dflt) (kf := fun y0 => K ((.s (.int .i64 y0)), [])) (kt := K ((.s (.int .i64 (-(1 : Int)))), [])) (fun m i hi => by
  show kJ s ((i : Nat) : Int) st tx lg ck mb ls _ _ _ = _
  unfold kJ
  rw [decide_eq_true (show ((i : Nat) : Int) < ((mb.length : Nat) : Int) by omega), decide_eq_true (show (0 : Int) ≤ ((i : Nat) : Int) by omega), Int.toNat_natCast, bW (by omega)]
  rfl) (fun m => by
  show kJ s ((mb.length : Nat) : Int) st tx lg ck mb ls _ _ _ = _
  unfold kJ
  rw [decide_eq_false (show ¬ ((mb.length : Nat) : Int) < ((mb.length : Nat) : Int) by omega)]; rfl) _ 0 (by omega) (by dsimp only; omega)) ?_
 rw [List.drop_zero]
 unfold zW
 show _ = K (.s (.int .i64 (match mb.findIdx? (fun x => x.1 == s) with | some i => ((i : Nat) : Int) | none => -1)), [])
 cases mb.findIdx? (fun x => x.1 == s) with
 | none => rfl
 | some j => show K (.s (.int .i64 ((0 + j : Nat) : Int)), []) = _; rw [Nat.zero_add]
theorem abe : aV prog I N.pq true SN := kD (aW bn (l := []) (p := []) (ls := [(2, [1,2,5], [4], yR)]) (lend := []) (focus := false) (fuel := 0) (give := []) (fn := F.pq) (by kernel_rfl) (by kernel_rfl) (by kernel_rfl) (by kernel_rfl) (cs := [aS F.pq 2]) (by kernel_rfl) (dA Ro aK)) (aI fun d K h => (ae8 d.1 d.2.1 K).trans (ae9 d.1 d.2.1 h K))
end Go.Ev.Seat
end
section
namespace Go.Ev.Seat
open Go.RowKit
set_option maxRecDepth 100000
set_option linter.unusedVariables false
set_option linter.unusedSimpArgs false
noncomputable abbrev adK : List (Nat × Plan × List Nat) := [(3, takeB [0, 1, 2, 4] (.fork (.one 3 (takeB [5] (.fork (.one 6 (takes [7, 8, 9, 10, 11])))))), [])]
noncomputable abbrev adL : List (Nat × Bool × Sm) := [(N.pO, true, Bz), (N.qo, false, H9), (N.nV, true, Jr)]
noncomputable abbrev ao1 : Env := En adL adK [] [] false 0 []
noncomputable def YR (d : bT) (v : Int) (K : aj → Option aj) : Option aj := (bif (cZ bH d) then (bif (!(iQ d v)) then K ((.t [(.l .deep ah ([] : List Int)), (.s (.bool false))]), []) else (bif (Nat.ble (List.length d.2.2.1) 1048576) then (bif ((decide ((0 : Int) ≤ v)) && (decide (v ≤ (((List.length (bF d.2.2.1)) : Nat) : Int)))) then (bif ((aO d.1) && (fF (Cc.sl aB) (List.take (Int.toNat v) (bF d.2.2.1)))) then K ((.t [(.l .deep ah (aU d.1 (List.take (Int.toNat v) (bF d.2.2.1))).1), (.s (.bool true))]), []) else none) else none) else none)) else none)
theorem ao2 (d : bT) (v : Int) (K : aj → Option aj) : dL ao1 true F.Vr [.a (bH.cells .no d), .s (.int .i64 v)] K = YR d v K := by kernel_rfl
def agj : Sm := bg [.a bH, .i] (fun d => cZ bH d.1) (fun d => (.t [.l .deep ah (zB d.1 d.2.1), .s (.bool (iQ d.1 d.2.1))], []))
theorem ao3 (d : bT) (v : Int) (h : (cZ bH d) = true) (K : aj → Option aj) : YR d v K = K (.t [.l .deep ah (zB d v), .s (.bool (iQ d v))], []) := by
 obtain ⟨h1, h2, h3, h4, h5⟩ := wu h
 unfold YR zB
 rw [h]
 cases hv : iQ d v with
 | false => rfl
 | true =>
  obtain ⟨q1, q2, q3⟩ := FY.1 hv
  rw [Nat.ble_eq_true_of_le (dN h3), show ((bF d.2.2.1).length : Nat) = d.2.2.1.length by unfold bF; rw [List.length_map], decide_eq_true q2, decide_eq_true q3, h1, show List.take v.toNat (bF d.2.2.1) = bF (d.2.2.1.take v.toNat) by unfold bF; rw [List.map_take], AV (vS h3 _)]
  rfl
theorem akD : aV prog I N.Vr true agj := kD (aW (aY Dl (aY FP (aY JW bn))) (l := adL) (p := adK) (ls := []) (lend := []) (focus := false) (fuel := 0) (give := []) (fn := F.Vr) (by kernel_rfl) (by kernel_rfl) (by kernel_rfl) (by kernel_rfl) (cs := []) (by kernel_rfl) aK) (aI fun d K h => (ao2 d.1 d.2.1 K).trans (ao3 d.1 d.2.1 h K))
end Go.Ev.Seat
end
section
namespace Go.Ev.Seat
open Go.RowKit
set_option maxRecDepth 100000
set_option linter.unusedVariables false
set_option linter.unusedSimpArgs false
noncomputable abbrev SQ : List (Nat × Bool × Sm) := [(N.pO, true, Bz), (N.qo, false, H9), (N.vM, true, Qb)]
noncomputable abbrev ah7 : Env := En SQ [] [] [] false 0 []
noncomputable def Nh (d : bT) (v : Int) (K : aj → Option aj) : Option aj := (bif (cZ bH d) then (bif (!(iQ d v)) then K ((.t [(.l .deep aB []), (.s (.bool false))]), []) else (bif (Nat.ble (List.length d.2.2.1) 1048576) then (bif ((decide ((0 : Int) ≤ v)) && (decide (v ≤ (((List.length (bF d.2.2.1)) : Nat) : Int)))) then (bif (fF (Cc.sl aB) (List.drop (Int.toNat v) (bF d.2.2.1))) then K ((.t [(.l .deep aB (List.drop (Int.toNat v) (bF d.2.2.1))), (.s (.bool true))]), []) else none) else none) else none)) else none)
theorem ah8 (d : bT) (v : Int) (K : aj → Option aj) : dL ah7 true F.GL [.a (bH.cells .no d), .s (.int .i64 v)] K = Nh d v K := by kernel_rfl
def WM : Sm := bg [.a bH, .i] (fun d => cZ bH d.1) (fun d => (.t [.l .deep aB (kG d.1 d.2.1), .s (.bool (iQ d.1 d.2.1))], []))
theorem ah9 (d : bT) (v : Int) (h : (cZ bH d) = true) (K : aj → Option aj) : Nh d v K = K (.t [.l .deep aB (kG d v), .s (.bool (iQ d v))], []) := by
 obtain ⟨h1, h2, h3, h4, h5⟩ := wu h
 unfold Nh kG
 rw [h]
 cases hv : iQ d v with
 | false => rfl
 | true =>
  obtain ⟨q1, q2, q3⟩ := FY.1 hv
  rw [Nat.ble_eq_true_of_le (dN h3), show ((bF d.2.2.1).length : Nat) = d.2.2.1.length by unfold bF; rw [List.length_map], decide_eq_true q2, decide_eq_true q3, show List.drop v.toNat (bF d.2.2.1) = bF (d.2.2.1.drop v.toNat) by unfold bF; rw [List.map_drop], AV (Ym h3 _)]
  rfl
theorem adM : aV prog I N.GL true WM := kD (aW (aY Dl (aY FP (aY SE bn))) (l := SQ) (p := []) (ls := []) (lend := []) (focus := false) (fuel := 0) (give := []) (fn := F.GL) (by kernel_rfl) (by kernel_rfl) (by kernel_rfl) (by kernel_rfl) (cs := []) (by kernel_rfl) aK) (aI fun d K h => (ah8 d.1 d.2.1 K).trans (ah9 d.1 d.2.1 h K))
end Go.Ev.Seat
end
section
namespace Go.Ev.Seat
open Go.RowKit
set_option maxRecDepth 100000
set_option linter.unusedVariables false
set_option linter.unusedSimpArgs false
noncomputable abbrev aia : Env := En [] [] [] [] false 0 []
noncomputable def Nj (p : Int) (K : aj → Option aj) : Option aj := (bif (decide (p ≥ (0 : Int))) then K ((.s (.bool (decide (p ≤ (800 : Int))))), []) else K ((.s (.bool false)), []))
theorem aib (p : Int) (K : aj → Option aj) : dL aia true F.Hq [.s (.int .i64 p)] K = Nj p K := by kernel_rfl
def WO : Sm := bg [.i] (fun d => true) (fun d => (bl (gW d.1), []))
theorem aic (p : Int) (K : aj → Option aj) : Nj p K = K (bl (gW p), []) := by
 unfold Nj gW
 rw [show decide (p ≥ 0) = decide (0 ≤ p) from rfl]
 cases decide (0 ≤ p) <;> rfl
theorem adN : aV prog I N.Hq true WO := kD (aW bn (l := []) (p := []) (ls := []) (lend := []) (focus := false) (fuel := 0) (give := []) (fn := F.Hq) (by kernel_rfl) (by kernel_rfl) (by kernel_rfl) (by kernel_rfl) (cs := []) (by kernel_rfl) aK) (aI fun d K h => (aib d.1 K).trans (aic d.1 K))
end Go.Ev.Seat
end
section
namespace Go.Ev.Seat
open Go.RowKit
set_option maxRecDepth 100000
set_option linter.unusedVariables false
set_option linter.unusedSimpArgs false
noncomputable abbrev WQ : List (Nat × Bool × Sm) := [(N.Hq, true, WO), (N.um, true, AL)]
noncomputable abbrev akE : Env := En WQ [] [] [] false 0 []
noncomputable def Qc (p : Int) (r : Bool) (e : ay) (K : aj → Option aj) : Option aj := (bif (!(gW p)) then K ((.s (.int .i64 (-(1 : Int)))), []) else (bif (!(aZ e)) then K ((.s (.int .i64 (-(1 : Int)))), []) else (bif (decide (p < e.1)) then K ((.s (.int .i64 p)), []) else (bif (p == e.1) then (bif r then K ((.s (.int .i64 (IntKind.wrap .i64 (e.1 + (((List.length e.2.2) : Nat) : Int))))), []) else K ((.s (.int .i64 e.1)), [])) else (bif (decide (p < (IntKind.wrap .i64 (e.1 + e.2.1)))) then (bif r then K ((.s (.int .i64 (IntKind.wrap .i64 (e.1 + (((List.length e.2.2) : Nat) : Int))))), []) else K ((.s (.int .i64 e.1)), [])) else K ((.s (.int .i64 (IntKind.wrap .i64 ((IntKind.wrap .i64 (p - e.2.1)) + (((List.length e.2.2) : Nat) : Int))))), []))))))
theorem akF (p : Int) (r : Bool) (e : ay) (K : aj → Option aj) : dL akE true F.KU [.s (.int .i64 p), .s (.bool r), .a (aB.cells .no e)] K = Qc p r e K := by kernel_rfl
def aam : Sm := bg [.i, .b, .a aB] (fun d => true) (fun d => (.s (.int .i64 (bif gW d.1 && aZ d.2.2.1 then bZ d.2.2.1 d.1 d.2.1 else -1)), []))
theorem akG (p : Int) (r : Bool) (e : ay) (K : aj → Option aj) : Qc p r e K = K (.s (.int .i64 (bif gW p && aZ e then bZ e p r else -1)), []) := by
 unfold Qc
 cases hp : gW p with
 | false => rfl
 | true =>
 cases HS : aZ e with
 | false => rfl
 | true =>
 have hp' := nK.1 hp
 have q := pW.1 HS
 rw [wrap_in (n := e.1 + ((e.2.2.length : Nat) : Int)) (by omega) (by omega), wrap_in (n := e.1 + e.2.1) (by omega) (by omega), wrap_in (n := p - e.2.1) (by omega) (by omega), wrap_in (n := p - e.2.1 + ((e.2.2.length : Nat) : Int)) (by omega) (by omega)]
 unfold bZ
 cases decide (p < e.1)
 ·cases (p == e.1)
  ·cases decide (p < e.1 + e.2.1)
   ·rfl
   ·cases r <;> rfl
  ·cases r <;> rfl
 ·rfl
theorem afa : aV prog I N.KU true aam := kD (aW (aY adN (aY AO bn)) (l := WQ) (p := []) (ls := []) (lend := []) (focus := false) (fuel := 0) (give := []) (fn := F.KU) (by kernel_rfl) (by kernel_rfl) (by kernel_rfl) (by kernel_rfl) (cs := []) (by kernel_rfl) aK) (aI fun d K h => (akF d.1 d.2.1 d.2.2.1 K).trans (akG d.1 d.2.1 d.2.2.1 K))
end Go.Ev.Seat
end
section
namespace Go.Ev.Seat
open Go.RowKit
set_option maxRecDepth 100000
set_option linter.unusedVariables false
set_option linter.unusedSimpArgs false
noncomputable abbrev SS : List (Nat × Bool × Sm) := [(N.KU, true, aam)]
noncomputable abbrev aie : Env := En SS [] [] [] false 0 []
noncomputable def Nk (i : Int) (j : Int) (e : ay) (K : aj → Option aj) : Option aj := (bif (decide ((bif ((gW i) && (aZ e)) then (bZ e i true) else (-(1 : Int))) < (0 : Int))) then K ((.t [(.s (.int .i64 (-(1 : Int)))), (.s (.int .i64 (-(1 : Int))))]), []) else (bif (decide ((bif ((gW j) && (aZ e)) then (bZ e j false) else (-(1 : Int))) < (0 : Int))) then K ((.t [(.s (.int .i64 (-(1 : Int)))), (.s (.int .i64 (-(1 : Int))))]), []) else (bif (decide (j < i)) then K ((.t [(.s (.int .i64 (-(1 : Int)))), (.s (.int .i64 (-(1 : Int))))]), []) else (bif (i == j) then K ((.t [(.s (.int .i64 (bif ((gW i) && (aZ e)) then (bZ e i true) else (-(1 : Int))))), (.s (.int .i64 (bif ((gW i) && (aZ e)) then (bZ e i true) else (-(1 : Int)))))]), []) else K ((.t [(.s (.int .i64 (bif ((gW i) && (aZ e)) then (bZ e i true) else (-(1 : Int))))), (.s (.int .i64 (if (bif ((gW j) && (aZ e)) then (bZ e j false) else (-(1 : Int))) > (bif ((gW i) && (aZ e)) then (bZ e i true) else (-(1 : Int))) then (bif ((gW j) && (aZ e)) then (bZ e j false) else (-(1 : Int))) else (bif ((gW i) && (aZ e)) then (bZ e i true) else (-(1 : Int))))))]), [])))))
theorem aif (i : Int) (j : Int) (e : ay) (K : aj → Option aj) : dL aie true F.Ho [.s (.int .i64 i), .s (.int .i64 j), .a (aB.cells .no e)] K = Nk i j e K := by kernel_rfl
def WR : Sm := bg [.i, .i, .a aB] (fun d => gW d.1 && gW d.2.1 && aZ d.2.2.1 && decide (d.1 ≤ d.2.1)) (fun d => (.t [.s (.int .i64 (O9 d.2.2.1 d.1 d.2.1).1), .s (.int .i64 (O9 d.2.2.1 d.1 d.2.1).2)], []))
theorem aii (i : Int) (j : Int) (e : ay) (h : (gW i && gW j && aZ e && decide (i ≤ j)) = true) (K : aj → Option aj) : Nk i j e K = K (.t [.s (.int .i64 (O9 e i j).1), .s (.int .i64 (O9 e i j).2)], []) := by
 simp only [Bool.and_eq_true, decide_eq_true_eq] at h
 obtain ⟨⟨⟨hi, hj⟩, he⟩, hij⟩ := h
 have hi' := nK.1 hi
 have hj' := nK.1 hj
 have p1 := nM (p := i) true he (by omega)
 have p2 := nM (p := j) false he (by omega)
 unfold Nk O9
 rw [hi, hj, he]
 simp only [Bool.and_self, cond_true]
 rw [decide_eq_false (show ¬ bZ e i true < 0 by omega), decide_eq_false (show ¬ bZ e j false < 0 by omega), decide_eq_false (show ¬ j < i by omega)]
 cases (i == j)
 ·show K (.t [_, .s (.int .i64 (if bZ e j false > bZ e i true then bZ e j false else bZ e i true))], []) = K (.t [_, .s (.int .i64 (max (bZ e i true) (bZ e j false)))], [])
  rw [show (if bZ e j false > bZ e i true then bZ e j false else bZ e i true) = max (bZ e i true) (bZ e j false) by split <;> omega]
 ·rfl
theorem adO : aV prog I N.Ho true WR := kD (aW (aY afa bn) (l := SS) (p := []) (ls := []) (lend := []) (focus := false) (fuel := 0) (give := []) (fn := F.Ho) (by kernel_rfl) (by kernel_rfl) (by kernel_rfl) (by kernel_rfl) (cs := []) (by kernel_rfl) aK) (aI fun d K h => (aif d.1 d.2.1 d.2.2.1 K).trans (aii d.1 d.2.1 d.2.2.1 h K))
end Go.Ev.Seat
end
section
namespace Go.Ev.Seat
open Go.RowKit
set_option maxRecDepth 100000
set_option linter.unusedVariables false
set_option linter.unusedSimpArgs false
noncomputable abbrev SV : List (Nat × Bool × Sm) := [(N.um, true, AL), (N.Ho, true, WR)]
noncomputable abbrev aij : Env := En SV [] [] [] false 0 []
noncomputable def Nl (e : ay) (b : ay) (K : aj → Option aj) : Option aj := (bif (!(aZ e)) then K ((.t [(.a [(.s (.int .i64 (0 : Int))), (.s (.int .i64 (0 : Int))), (.l .deep ah ([] : List Int))]), (.s (.bool false))]), []) else (bif (!(aZ b)) then K ((.t [(.a [(.s (.int .i64 (0 : Int))), (.s (.int .i64 (0 : Int))), (.l .deep ah ([] : List Int))]), (.s (.bool false))]), []) else (bif ((((gW e.1) && (gW (IntKind.wrap .i64 (e.1 + e.2.1)))) && (aZ b)) && (decide (e.1 ≤ (IntKind.wrap .i64 (e.1 + e.2.1))))) then (bif (Nat.ble (((List.length ([] : List Int)) + (List.length e.2.2)) * 1) 140737488355328) then K ((.t [(.a [(.s (.int .i64 (bZ b e.1 true))), (.s (.int .i64 (IntKind.wrap .i64 ((bif (e.1 == (IntKind.wrap .i64 (e.1 + e.2.1))) then (bZ b e.1 true) else (Max.max (bZ b e.1 true) (bZ b (IntKind.wrap .i64 (e.1 + e.2.1)) false))) - (bZ b e.1 true))))), (.l .deep ah (([] : List Int) ++ e.2.2))]), (.s (.bool true))]), []) else none) else none)))
theorem aik (e : ay) (b : ay) (K : aj → Option aj) : dL aij true F.GX [.a (aB.cells .no e), .a (aB.cells .no b)] K = Nl e b K := by kernel_rfl
def WS : Sm := bg [.a aB, .a aB] (fun d => Nat.ble d.1.2.2.length 1048576) (fun d => (.t [.a (aB.cells .deep (CW d.1 d.2.1).1), bl (CW d.1 d.2.1).2], []))
theorem ail (e : ay) (b : ay) (h : (Nat.ble e.2.2.length 1048576) = true) (K : aj → Option aj) : Nl e b K = K (.t [.a (aB.cells .deep (CW e b).1), bl (CW e b).2], []) := by
 have hl := Nat.le_of_ble_eq_true h
 unfold Nl CW
 cases ha : aZ e with
 | false => rfl
 | true =>
 cases hb : aZ b with
 | false => rfl
 | true =>
 have ha' := pW.1 ha
 have hb' := pW.1 hb
 have p1 := nM (p := e.1) true hb (by omega)
 have p2 := nM (p := e.1 + e.2.1) false hb (by omega)
 have hr := VK ha hb
 have e3 : (iW e b).2.1 = (bif (e.1 == e.1 + e.2.1) then bZ b e.1 true else max (bZ b e.1 true) (bZ b (e.1 + e.2.1) false)) - bZ b e.1 true := rfl
 rw [e3] at hr
 rw [Nat.ble_eq_true_of_le (by simp; omega), wrap_in (n := e.1 + e.2.1) (by omega) (by omega), nK.2 (show 0 ≤ e.1 ∧ e.1 ≤ 800 by omega), nK.2 (show 0 ≤ e.1 + e.2.1 ∧ e.1 + e.2.1 ≤ 800 by omega), decide_eq_true (show e.1 ≤ e.1 + e.2.1 by omega), wrap_in (n := (bif (e.1 == e.1 + e.2.1) then bZ b e.1 true else max (bZ b e.1 true) (bZ b (e.1 + e.2.1) false)) - bZ b e.1 true) (by omega) (by omega)]
 rfl
theorem adP : aV prog I N.GX true WS := kD (aW (aY AO (aY adO bn)) (l := SV) (p := []) (ls := []) (lend := []) (focus := false) (fuel := 0) (give := []) (fn := F.GX) (by kernel_rfl) (by kernel_rfl) (by kernel_rfl) (by kernel_rfl) (cs := []) (by kernel_rfl) aK) (aI fun d K h => (aik d.1 d.2.1 K).trans (ail d.1 d.2.1 h K))
end Go.Ev.Seat
end
section
namespace Go.Ev.Seat
open Go.RowKit
set_option maxRecDepth 100000
set_option linter.unusedVariables false
set_option linter.unusedSimpArgs false
def sQ (x5 : Bool) (b00 : Int) (b01 : Int) (b10 : Int) (b11 : Int) (o2 : List Int) : St := { tm := ([.x, .x, .x, .x, (.pb 0 0), (.s (.bool x5)), (.pb 1 0)] ++ List.replicate 36 .x), ob := [(0, (.box [(.s (.int .i64 b00)), (.s (.int .i64 b01)), .nl])), (1, (.box [(.s (.int .i64 b10)), (.s (.int .i64 b11)), (.w 2)])), (2, (.arr true true ah o2))], nx := 3, io := [] }
def sS (b00 : Int) (b01 : Int) (b10 : Int) (b11 : Int) (o2 : List Int) : St := { tm := ([.x, .x, .x, .x, (.pb 0 0), .x, (.pb 1 0)] ++ List.replicate 36 .x), ob := [(0, (.box [(.s (.int .i64 b00)), (.s (.int .i64 b01)), .nl])), (1, (.box [(.s (.int .i64 b10)), (.s (.int .i64 b11)), (.w 2)])), (2, (.arr true true ah o2))], nx := 3, io := [] }
def qc : Ss := { tm := (.cons (.x) (.cons (.l .no aB) (.cons (.x) (.cons (.x) (.cons (.pb 0 0) (.cons (.x) (.cons (.pb 1 0) (.cons (.int .i64) (Fj 35))))))))), ob := (.box (.cons (.int .i64) (.cons (.int .i64) (.cons (.nl) .nil))) (.box (.cons (.int .i64) (.cons (.int .i64) (.cons (.w 2) .nil))) (.arr true true ah .nil))), nx := 3, io := .nil }
def WT (x1 : List ay) (x7 : Int) (b00 : Int) (b01 : Int) (b10 : Int) (b11 : Int) (o2 : List Int) : qc.T := (((), (x1, ((), ((), ((), ((), ((), (x7, xd 35)))))))), ((b00, (b01, ((), ()))), ((b10, (b11, ((), ()))), (o2, ()))), ())
def ny (x1 : List ay) (x7 : Int) (b00 : Int) (b01 : Int) (b10 : Int) (b11 : Int) (o2 : List Int) : St := { tm := ([.x, (.l .no aB x1), .x, .x, (.pb 0 0), .x, (.pb 1 0), (.s (.int .i64 x7))] ++ List.replicate 35 .x), ob := [(0, (.box [(.s (.int .i64 b00)), (.s (.int .i64 b01)), .nl])), (1, (.box [(.s (.int .i64 b10)), (.s (.int .i64 b11)), (.w 2)])), (2, (.arr true true ah o2))], nx := 3, io := [] }
theorem Ur (x1 : List ay) (x7 : Int) (b00 : Int) (b01 : Int) (b10 : Int) (b11 : Int) (o2 : List Int) : qc.mk' (WT x1 x7 b00 b01 b10 b11 o2) = (ny x1 x7 b00 b01 b10 b11 o2) := by kernel_rfl
def WU (d : qc.T) (f : (List ay) → Int → Int → Int → Int → Int → (List Int) → Option aj) : Option aj := match d with | ((_, (x1, (_, (_, (_, (_, (_, (x7, _)))))))), ((b00, (b01, (_, _))), ((b10, (b11, (_, _))), (o2, _))), _) => f x1 x7 b00 b01 b10 b11 o2
noncomputable def sU (x1 : List ay) (x7 : Int) (b00 : Int) (b01 : Int) (b10 : Int) (b11 : Int) (o2 : List Int) (lC : (List ay) → Int → Int → Int → Int → Int → (List Int) → Option aj) (k0 : Bool → Int → Int → Int → Int → (List Int) → Option aj) (k1 : Int → Int → Int → Int → (List Int) → Option aj) : Option aj := (bif (decide (x7 < (((List.length x1) : Nat) : Int))) then (bif ((decide ((0 : Int) ≤ x7)) && (decide (x7 < (((List.length x1) : Nat) : Int)))) then (meet ((bif (Nat.ble (List.length o2) 1048576) then (bif (!(CW (b10, (b11, o2)) (List.getD x1 (Int.toNat x7) (aB.dflt))).2) then (k0 false (0 : Int) (0 : Int) b10 b11 o2) else (lC x1 (IntKind.wrap .i64 (x7 + (1 : Int))) b00 b01 (CW (b10, (b11, o2)) (List.getD x1 (Int.toNat x7) (aB.dflt))).1.1 (CW (b10, (b11, o2)) (List.getD x1 (Int.toNat x7) (aB.dflt))).1.2.1 (CW (b10, (b11, o2)) (List.getD x1 (Int.toNat x7) (aB.dflt))).1.2.2)) else none)) ((bif (Nat.ble (List.length o2) 1048576) then (bif (!(CW (b10, (b11, o2)) (List.getD x1 (Int.toNat x7) (aB.dflt))).2) then (k0 false (0 : Int) (0 : Int) b10 b11 o2) else (lC x1 (IntKind.wrap .i64 (x7 + (1 : Int))) b00 b01 (CW (b10, (b11, o2)) (List.getD x1 (Int.toNat x7) (aB.dflt))).1.1 (CW (b10, (b11, o2)) (List.getD x1 (Int.toNat x7) (aB.dflt))).1.2.1 (CW (b10, (b11, o2)) (List.getD x1 (Int.toNat x7) (aB.dflt))).1.2.2)) else none))) else none) else (k1 b00 b01 b10 b11 o2))
noncomputable def jl : Nat → (List ay) → Int → Int → Int → Int → Int → (List Int) → (Bool → Int → Int → Int → Int → (List Int) → Option aj) → (Int → Int → Int → Int → (List Int) → Option aj) → Option aj
 | 0, _, _, _, _, _, _, _, _, _ => none
 | m + 1, x1, x7, b00, b01, b10, b11, o2, k0, k1 => sU x1 x7 b00 b01 b10 b11 o2 (fun x1 x7 b00 b01 b10 b11 o2 => (jl m x1 x7 b00 b01 b10 b11 o2 k0 k1)) k0 k1
noncomputable def nC (x1 : List ay) (x7 : Int) (b00 : Int) (b01 : Int) (b10 : Int) (b11 : Int) (o2 : List Int) (k0 : Bool → Int → Int → Int → Int → (List Int) → Option aj) (k1 : Int → Int → Int → Int → (List Int) → Option aj) : Option aj := jl (List.length x1 + x7.toNat + b00.toNat + b01.toNat + b10.toNat + b11.toNat + List.length o2 + 2) x1 x7 b00 b01 b10 b11 o2 k0 k1
noncomputable def yS : dV := (fun (σ : St) (K : Ex → St → Option aj) => (match qc.un σ with | some d => WU d (fun x1 x7 b00 b01 b10 b11 o2 => nC x1 x7 b00 b01 b10 b11 o2 (fun x5 b00 b01 b10 b11 o2 => (K .ret (sQ x5 b00 b01 b10 b11 o2))) (fun b00 b01 b10 b11 o2 => (K (.ext 0) (sS b00 b01 b10 b11 o2)))) | none => none))
noncomputable abbrev Qd : List (Nat × Plan × List Nat) := [(3, takeB [0, 1, 2, 3, 5, 6] (.fork (.more 4 (.fork (.more 7 (takeB [8] (.fork (.one 9 (.fork (.one 10 (.done)))))) (.one 9 (.fork (.one 7 (takeB [8] (.fork (.one 10 (.done))))))))) (.one 9 (.fork (.one 4 (.fork (.one 7 (takeB [8] (.fork (.one 10 (.done))))))))))), []), (7, takeB [0, 1, 2, 3, 4] (.fork (.more 5 (takeB [6, 7, 8] (.fork (.one 9 (.fork (.one 10 (takes [11])))))) (.one 9 (.fork (.one 5 (takeB [6, 7, 8] (.fork (.one 10 (takes [11]))))))))), [])]
noncomputable abbrev Qe : List (Nat × Bool × Sm) := [(N.um, true, AL), (N.GX, true, WS)]
noncomputable abbrev J6 : Env := En Qe Qd [(5, [1,4,6,7], [4,5,6], yS)] [] false 0 []
noncomputable abbrev qP := rounds (run J6 (aS F.pz 5)) [1,4,6,7] [4,5,6]
theorem Us (m : Nat) (x1 : List ay) (x7 : Int) (b00 : Int) (b01 : Int) (b10 : Int) (b11 : Int) (o2 : List Int) (K : Ex → St → Option aj) : qP (m + 1) (ny x1 x7 b00 b01 b10 b11 o2) K = sU x1 x7 b00 b01 b10 b11 o2 (fun x1 x7 b00 b01 b10 b11 o2 => (qP m (ny x1 x7 b00 b01 b10 b11 o2) K)) (fun x5 b00 b01 b10 b11 o2 => (K .ret (sQ x5 b00 b01 b10 b11 o2))) (fun b00 b01 b10 b11 o2 => (K (.ext 0) (sS b00 b01 b10 b11 o2))) := by kernel_rfl
theorem NK (K : Ex → St → Option aj) : ∀ m : Nat, (∀ (x1 : List ay) (x7 : Int) (b00 : Int) (b01 : Int) (b10 : Int) (b11 : Int) (o2 : List Int), qP m (ny x1 x7 b00 b01 b10 b11 o2) K = jl m x1 x7 b00 b01 b10 b11 o2 (fun x5 b00 b01 b10 b11 o2 => (K .ret (sQ x5 b00 b01 b10 b11 o2))) (fun b00 b01 b10 b11 o2 => (K (.ext 0) (sS b00 b01 b10 b11 o2))))
 | 0 => (fun _ _ _ _ _ _ _ => rfl)
 | m + 1 => (fun x1 x7 b00 b01 b10 b11 o2 => (by rw [Us, show (fun x1 x7 b00 b01 b10 b11 o2 => (qP m (ny x1 x7 b00 b01 b10 b11 o2) K)) = (fun x1 x7 b00 b01 b10 b11 o2 => (jl m x1 x7 b00 b01 b10 b11 o2 (fun x5 b00 b01 b10 b11 o2 => (K .ret (sQ x5 b00 b01 b10 b11 o2))) (fun b00 b01 b10 b11 o2 => (K (.ext 0) (sS b00 b01 b10 b11 o2))))) from funext fun x1 => funext fun x7 => funext fun b00 => funext fun b01 => funext fun b10 => funext fun b11 => funext fun o2 => (NK K m) x1 x7 b00 b01 b10 b11 o2]; rfl))
theorem Rq : dJ J6 (aS F.pz 5) := by
 refine dh (n := 5) (F := yS) (by kernel_rfl) rfl (li := [1,4,6,7]) (lo := [4,5,6]) rfl (fun σ K r hr => ?_)
 unfold yS at hr
 split at hr
 ·rename_i d hd
  rw [Ss.dY hd]
  exact ⟨_, ((congrArg (fun z => qP _ z K) (Ur _ _ _ _ _ _ _)).trans ((NK K _) _ _ _ _ _ _ _)).trans hr⟩
 ·cases hr
noncomputable def J7 (e : ay) (l : List ay) (K : aj → Option aj) : Option aj := (bif (!(aZ e)) then K ((.t [(.a [(.s (.int .i64 (0 : Int))), (.s (.int .i64 (0 : Int))), (.l .deep ah ([] : List Int))]), (.s (.bool false))]), []) else (meet ((meet ((bif (Nat.ble (((List.length ([] : List Int)) + (List.length e.2.2)) * 1) 140737488355328) then (nC l (0 : Int) (0 : Int) (0 : Int) e.1 e.2.1 (([] : List Int) ++ e.2.2) (fun y0 y1 y2 y3 y4 y5 => K ((.t [(.a [(.s (.int .i64 y1)), (.s (.int .i64 y2)), (.l .deep ah ([] : List Int))]), (.s (.bool y0))]), [])) (fun y6 y7 y8 y9 y10 => K ((.t [(.a [(.s (.int .i64 y8)), (.s (.int .i64 y9)), (.l .deep ah y10)]), (.s (.bool true))]), []))) else none)) ((bif (Nat.ble (((List.length ([] : List Int)) + (List.length e.2.2)) * 1) 140737488355328) then (nC l (0 : Int) (0 : Int) (0 : Int) e.1 e.2.1 (([] : List Int) ++ e.2.2) (fun y11 y12 y13 y14 y15 y16 => K ((.t [(.a [(.s (.int .i64 y12)), (.s (.int .i64 y13)), (.l .deep ah ([] : List Int))]), (.s (.bool y11))]), [])) (fun y17 y18 y19 y20 y21 => K ((.t [(.a [(.s (.int .i64 y19)), (.s (.int .i64 y20)), (.l .deep ah y21)]), (.s (.bool true))]), []))) else none)))) ((bif (Nat.ble (((List.length ([] : List Int)) + (List.length e.2.2)) * 1) 140737488355328) then (nC l (0 : Int) (0 : Int) (0 : Int) e.1 e.2.1 (([] : List Int) ++ e.2.2) (fun y22 y23 y24 y25 y26 y27 => K ((.t [(.a [(.s (.int .i64 y23)), (.s (.int .i64 y24)), (.l .deep ah ([] : List Int))]), (.s (.bool y22))]), [])) (fun y28 y29 y30 y31 y32 => K ((.t [(.a [(.s (.int .i64 y30)), (.s (.int .i64 y31)), (.l .deep ah y32)]), (.s (.bool true))]), []))) else none))))
theorem afb (e : ay) (l : List ay) (K : aj → Option aj) : dL J6 true F.pz [.a (aB.cells .no e), .l .no aB l] K = J7 e l K := by kernel_rfl
theorem akH {l : List ay} {X : Option aj} {k0 : Bool → Int → Int → Int → Int → (List Int) → Option aj} {k1 : Int → Int → Int → Int → (List Int) → Option aj} (hX : ∀ a b c, k0 false 0 0 a b c = X) (hl : l.length ≤ 1048576) : ∀ (m i : Nat) (e : ay), i ≤ l.length → l.length - i < m → e.2.2.length ≤ 1048576 →
  jl m l (i : Int) 0 0 e.1 e.2.1 e.2.2 k0 k1 = bif (zy (l.drop i) e).2 then k1 0 0 (zy (l.drop i) e).1.1 (zy (l.drop i) e).1.2.1 (zy (l.drop i) e).1.2.2 else X
 | 0, i, e, _, h, _ => absurd h (by omega)
 | m + 1, i, e, h1, h2, h3 => by
  show sU l (i : Int) 0 0 e.1 e.2.1 e.2.2 _ _ _ = _
  unfold sU
  by_cases h : i < l.length
  ·rw [decide_eq_true (show ((i : Nat) : Int) < ((l.length : Nat) : Int) by omega), decide_eq_true (show (0 : Int) ≤ ((i : Nat) : Int) by omega), Int.toNat_natCast, bW (by omega), getD_lt _ h, meet_self, Nat.ble_eq_true_of_le h3, List.drop_eq_getElem_cons h]
   simp only [zy]
   show (bif !(CW e l[i]).2 then k0 false 0 0 e.1 e.2.1 e.2.2 else jl m l ((i + 1 : Nat) : Int) 0 0 (CW e l[i]).1.1 (CW e l[i]).1.2.1 (CW e l[i]).1.2.2 k0 k1) = _
   unfold CW
   cases hs : (aZ e && aZ l[i]) with
   | false => exact hX _ _ _
   | true => exact akH hX hl m (i + 1) (iW e l[i]) (by omega) (by omega) h3
  ·obtain rfl : i = l.length := by omega
   rw [decide_eq_false (show ¬ ((l.length : Nat) : Int) < ((l.length : Nat) : Int) by omega), List.drop_length]; rfl
def S9 : Sm := bg [.a aB, .l aB] (fun d => fF (.sl aB) d.2.1 && Nat.ble d.1.2.2.length 1048576) (fun d => (.t [.a (aB.cells .deep (wZ d.1 d.2.1).1), bl (wZ d.1 d.2.1).2], []))
theorem afc (e : ay) (l : List ay) (h : (fF (.sl aB) l && Nat.ble e.2.2.length 1048576) = true) (K : aj → Option aj) : J7 e l K = K (.t [.a (aB.cells .deep (wZ e l).1), bl (wZ e l).2], []) := by
 obtain ⟨h1, h2⟩ := (Bool.and_eq_true _ _).mp h
 have hl := dN h1
 have hp := Nat.le_of_ble_eq_true h2
 unfold J7 wZ
 cases hs : aZ e with
 | false => rfl
 | true =>
  have e0 : ∀ k0 k1, nC l 0 0 0 e.1 e.2.1 ([] ++ e.2.2) k0 k1 = jl (List.length l + (0 : Int).toNat + (0 : Int).toNat + (0 : Int).toNat + e.1.toNat + e.2.1.toNat + List.length ([] ++ e.2.2) + 2) l ((0 : Nat) : Int) 0 0 e.1 e.2.1 e.2.2 k0 k1 := fun _ _ => rfl
  simp only [meet_self, e0]
  rw [Nat.ble_eq_true_of_le (by simp only [List.length_nil]; omega), akH (X := K (.t [.a (aB.cells .deep aoE.1), bl aoE.2], [])) (fun _ _ _ => rfl) hl _ 0 e (by omega) (by omega) hp, List.drop_zero]
  simp only [Bool.not_true, cond_true, cond_false]
  have hb : ∀ (l : List ay) (e : ay), (zy l e).2 = false → zy l e = aoE := by
   intro l
   induction l with
   | nil => intro e h; cases h
   | cons b l ih =>
    intro e h
    simp only [zy] at h ⊢
    cases hs : (aZ e && aZ b) with
    | false => rfl
    | true => rw [hs] at h; exact ih _ h
  cases hm : (zy l e).2 with
  | false => rw [hb l e hm]; rfl
  | true => rfl
theorem abf : aV prog I N.pz true S9 := kD (aW (aY AO (aY adP bn)) (l := Qe) (p := Qd) (ls := [(5, [1,4,6,7], [4,5,6], yS)]) (lend := []) (focus := false) (fuel := 0) (give := []) (fn := F.pz) (by kernel_rfl) (by kernel_rfl) (by kernel_rfl) (by kernel_rfl) (cs := [aS F.pz 5]) (by kernel_rfl) (dA Rq aK)) (aI fun d K h => (afb d.1 d.2.1 K).trans (afc d.1 d.2.1 h K))
end Go.Ev.Seat
end
