/- ReqBack: parts FsReqOk FsReplyOk FlbytesOf FireadWord FslicesClonebytesbyte FireqParse FiReqParse FlsameReq PReqBack FiReplyRead FlsameReply FlFnReqBack EvLReqBack EvKind EvOne EvTab, packed by squash.py. -/
import GoSem.ClaimWide
import Derived.Lib.LaidTab
import GoSem.PinnedTables
import Derived.Test.YtinmmaccoenphaaDoorZReqBack0
import Derived.Test.YtinmmaccoenphaaDoorZReqBack1
import Derived.Test.YtinmmaccoenphaaDoorZReqBack2
import Derived.Test.YtinmmaccoenphaaDoorZReqBack3
import Derived.Test.YtinmmaccoenphaaDoorZReqBack4
set_option linter.unusedVariables false
set_option linter.unusedSimpArgs false
section
/- s_ReqOk: its contract. -/
namespace Go.Ev.Seat
open Go.RowKit
set_option maxRecDepth 100000
set_option linter.unusedVariables false
set_option linter.unusedSimpArgs false
noncomputable abbrev E_s_ReqOk : Env := En [(N.s_l09Word, true, S_s_l09Word), (N.s_TextOk, true, S_s_TextOk), (N.s_l09Is, true, S_s_l09Is)] [] [] [] false 0 []
noncomputable abbrev E1_s_ReqOk : Env := En [] [] [] [] false 0 []
theorem ok0_s_ReqOk : OkFn prog I N.s_ReqOk true (evF E_s_ReqOk true F.s_ReqOk) := ok_fn (memc okS_s_l09Word (memc okS_s_TextOk (memc okS_s_l09Is mem0))) (l := [(N.s_l09Word, true, S_s_l09Word), (N.s_TextOk, true, S_s_TextOk), (N.s_l09Is, true, S_s_l09Is)]) (p := []) (ls := []) (lend := []) (focus := false) (fuel := 0) (give := []) (fn := F.s_ReqOk) (by kernel_rfl) (by kernel_rfl) (by kernel_rfl) (by kernel_rfl) (cs := []) (by kernel_rfl) loops0
theorem ok1_s_ReqOk : OkFn prog I N.s_ReqOk true (evF E1_s_ReqOk true F.s_ReqOk) := ok_fn mem0 (l := []) (p := []) (ls := []) (lend := []) (focus := false) (fuel := 0) (give := []) (fn := F.s_ReqOk) (by kernel_rfl) (by kernel_rfl) (by kernel_rfl) (by kernel_rfl) (cs := []) (by kernel_rfl) loops0
theorem e1_s_ReqOk (r : T_Req) (K : Ret → Option Ret) : evF E1_s_ReqOk true F.s_ReqOk [.a (reqR.cells .no r)] K =
  (bif (decide (r.1 < 1)) then K ((.s (.bool false)), []) else (bif (decide (r.1 > 16)) then K ((.s (.bool false)), []) else
   (bif (decide (r.2.1 < 1)) then K ((.s (.bool false)), []) else (bif (decide (r.2.1 > 8)) then K ((.s (.bool false)), []) else none)))) := by kernel_rfl
theorem e_s_ReqOk_1 (s a b d : Int) (t : List Int) (K : Ret → Option Ret) : evF E_s_ReqOk true F.s_ReqOk [.a (reqR.cells .no (1, s, a, b, d, t))] K =
  (bif (decide (s < 1)) then K ((.s (.bool false)), []) else (bif (decide (s > 8)) then K ((.s (.bool false)), []) else (bif (!(isWordD a)) then K ((.s (.bool false)), []) else (bif (!(isWordD b)) then K ((.s (.bool false)), []) else (bif (!(isWordD d)) then K ((.s (.bool false)), []) else (bif fitB t then (bif (!(textOk t)) then K ((.s (.bool false)), []) else (bif (decide (((List.length t : Nat) : Int) > 100)) then K ((.s (.bool false)), []) else (bif (a != (0 : Int)) then K ((.s (.bool false)), []) else (bif (b != (0 : Int)) then K ((.s (.bool false)), []) else (bif (d != (0 : Int)) then K ((.s (.bool false)), []) else (bif (decide (((List.length t : Nat) : Int) > 0)) then K ((.s (.bool false)), []) else K ((.s (.bool true)), []))))))) else none)))))) := by kernel_rfl
theorem v_s_ReqOk_1 (s a b d : Int) (t : List Int) (h : fitB t = true) (K : Ret → Option Ret) : evF E_s_ReqOk true F.s_ReqOk [.a (reqR.cells .no (1, s, a, b, d, t))] K = K (bl (reqOkD (1, s, a, b, d, t)), []) := by
  refine (e_s_ReqOk_1 s a b d t K).trans ?_
  unfold reqOkD
  simp only [bne, h]
  by_cases h3 : s < 1
  · rw [decide_eq_true h3, decide_eq_false (show ¬ 1 ≤ s by omega)]; rfl
  by_cases h4 : s > 8
  · rw [decide_eq_false h3, decide_eq_true h4, decide_eq_true (show 1 ≤ s by omega), decide_eq_false (show ¬ s ≤ 8 by omega)]; rfl
  rw [decide_eq_false h3, decide_eq_false h4, decide_eq_true (show 1 ≤ s by omega), decide_eq_true (show s ≤ 8 by omega)]
  by_cases h5 : ((t.length : Nat) : Int) > 100
  · rw [decide_eq_true h5, decide_eq_false (show ¬ ((t.length : Nat) : Int) ≤ 100 by omega)]
    cases isWordD a <;> cases isWordD b <;> cases isWordD d <;> cases textOk t <;> rfl
  rw [decide_eq_false h5, decide_eq_true (show ((t.length : Nat) : Int) ≤ 100 by omega)]
  unfold reqKindD
  generalize decide (((t.length : Nat) : Int) > 0) = n
  generalize (a == 0) = x
  generalize (b == 0) = y
  generalize (d == 0) = z
  generalize textOk t = p
  cases isWordD a <;> cases isWordD b <;> cases isWordD d <;> cases p <;> first | rfl | (cases x <;> cases y <;> cases z <;> cases n <;> rfl)
theorem e_s_ReqOk_2 (s a b d : Int) (t : List Int) (K : Ret → Option Ret) : evF E_s_ReqOk true F.s_ReqOk [.a (reqR.cells .no (2, s, a, b, d, t))] K =
  (bif (decide (s < 1)) then K ((.s (.bool false)), []) else (bif (decide (s > 8)) then K ((.s (.bool false)), []) else (bif (!(isWordD a)) then K ((.s (.bool false)), []) else (bif (!(isWordD b)) then K ((.s (.bool false)), []) else (bif (!(isWordD d)) then K ((.s (.bool false)), []) else (bif fitB t then (bif (!(textOk t)) then K ((.s (.bool false)), []) else (bif (decide (((List.length t : Nat) : Int) > 100)) then K ((.s (.bool false)), []) else (bif (a != (0 : Int)) then K ((.s (.bool false)), []) else (bif (b != (0 : Int)) then K ((.s (.bool false)), []) else (bif (d != (0 : Int)) then K ((.s (.bool false)), []) else (bif (decide (((List.length t : Nat) : Int) > 0)) then K ((.s (.bool false)), []) else K ((.s (.bool true)), []))))))) else none)))))) := by kernel_rfl
theorem v_s_ReqOk_2 (s a b d : Int) (t : List Int) (h : fitB t = true) (K : Ret → Option Ret) : evF E_s_ReqOk true F.s_ReqOk [.a (reqR.cells .no (2, s, a, b, d, t))] K = K (bl (reqOkD (2, s, a, b, d, t)), []) := by
  refine (e_s_ReqOk_2 s a b d t K).trans ?_
  unfold reqOkD
  simp only [bne, h]
  by_cases h3 : s < 1
  · rw [decide_eq_true h3, decide_eq_false (show ¬ 1 ≤ s by omega)]; rfl
  by_cases h4 : s > 8
  · rw [decide_eq_false h3, decide_eq_true h4, decide_eq_true (show 1 ≤ s by omega), decide_eq_false (show ¬ s ≤ 8 by omega)]; rfl
  rw [decide_eq_false h3, decide_eq_false h4, decide_eq_true (show 1 ≤ s by omega), decide_eq_true (show s ≤ 8 by omega)]
  by_cases h5 : ((t.length : Nat) : Int) > 100
  · rw [decide_eq_true h5, decide_eq_false (show ¬ ((t.length : Nat) : Int) ≤ 100 by omega)]
    cases isWordD a <;> cases isWordD b <;> cases isWordD d <;> cases textOk t <;> rfl
  rw [decide_eq_false h5, decide_eq_true (show ((t.length : Nat) : Int) ≤ 100 by omega)]
  unfold reqKindD
  generalize decide (((t.length : Nat) : Int) > 0) = n
  generalize (a == 0) = x
  generalize (b == 0) = y
  generalize (d == 0) = z
  generalize textOk t = p
  cases isWordD a <;> cases isWordD b <;> cases isWordD d <;> cases p <;> first | rfl | (cases x <;> cases y <;> cases z <;> cases n <;> rfl)
theorem e_s_ReqOk_3 (s a b d : Int) (t : List Int) (K : Ret → Option Ret) : evF E_s_ReqOk true F.s_ReqOk [.a (reqR.cells .no (3, s, a, b, d, t))] K =
  (bif (decide (s < 1)) then K ((.s (.bool false)), []) else (bif (decide (s > 8)) then K ((.s (.bool false)), []) else (bif (!(isWordD a)) then K ((.s (.bool false)), []) else (bif (!(isWordD b)) then K ((.s (.bool false)), []) else (bif (!(isWordD d)) then K ((.s (.bool false)), []) else (bif fitB t then (bif (!(textOk t)) then K ((.s (.bool false)), []) else (bif (decide (((List.length t : Nat) : Int) > 100)) then K ((.s (.bool false)), []) else (bif (b != (0 : Int)) then K ((.s (.bool false)), []) else (bif (d != (0 : Int)) then K ((.s (.bool false)), []) else K ((.s (.bool true)), []))))) else none)))))) := by kernel_rfl
theorem v_s_ReqOk_3 (s a b d : Int) (t : List Int) (h : fitB t = true) (K : Ret → Option Ret) : evF E_s_ReqOk true F.s_ReqOk [.a (reqR.cells .no (3, s, a, b, d, t))] K = K (bl (reqOkD (3, s, a, b, d, t)), []) := by
  refine (e_s_ReqOk_3 s a b d t K).trans ?_
  unfold reqOkD
  simp only [bne, h]
  by_cases h3 : s < 1
  · rw [decide_eq_true h3, decide_eq_false (show ¬ 1 ≤ s by omega)]; rfl
  by_cases h4 : s > 8
  · rw [decide_eq_false h3, decide_eq_true h4, decide_eq_true (show 1 ≤ s by omega), decide_eq_false (show ¬ s ≤ 8 by omega)]; rfl
  rw [decide_eq_false h3, decide_eq_false h4, decide_eq_true (show 1 ≤ s by omega), decide_eq_true (show s ≤ 8 by omega)]
  by_cases h5 : ((t.length : Nat) : Int) > 100
  · rw [decide_eq_true h5, decide_eq_false (show ¬ ((t.length : Nat) : Int) ≤ 100 by omega)]
    cases isWordD a <;> cases isWordD b <;> cases isWordD d <;> cases textOk t <;> rfl
  rw [decide_eq_false h5, decide_eq_true (show ((t.length : Nat) : Int) ≤ 100 by omega)]
  unfold reqKindD
  generalize decide (((t.length : Nat) : Int) > 0) = n
  generalize (a == 0) = x
  generalize (b == 0) = y
  generalize (d == 0) = z
  generalize textOk t = p
  cases isWordD a <;> cases isWordD b <;> cases isWordD d <;> cases p <;> first | rfl | (cases x <;> cases y <;> cases z <;> cases n <;> rfl)
theorem e_s_ReqOk_4 (s a b d : Int) (t : List Int) (K : Ret → Option Ret) : evF E_s_ReqOk true F.s_ReqOk [.a (reqR.cells .no (4, s, a, b, d, t))] K =
  (bif (decide (s < 1)) then K ((.s (.bool false)), []) else (bif (decide (s > 8)) then K ((.s (.bool false)), []) else (bif (!(isWordD a)) then K ((.s (.bool false)), []) else (bif (!(isWordD b)) then K ((.s (.bool false)), []) else (bif (!(isWordD d)) then K ((.s (.bool false)), []) else (bif fitB t then (bif (!(textOk t)) then K ((.s (.bool false)), []) else (bif (decide (((List.length t : Nat) : Int) > 100)) then K ((.s (.bool false)), []) else (bif (d != (0 : Int)) then K ((.s (.bool false)), []) else (bif (decide (((List.length t : Nat) : Int) > 0)) then K ((.s (.bool false)), []) else K ((.s (.bool true)), []))))) else none)))))) := by kernel_rfl
theorem v_s_ReqOk_4 (s a b d : Int) (t : List Int) (h : fitB t = true) (K : Ret → Option Ret) : evF E_s_ReqOk true F.s_ReqOk [.a (reqR.cells .no (4, s, a, b, d, t))] K = K (bl (reqOkD (4, s, a, b, d, t)), []) := by
  refine (e_s_ReqOk_4 s a b d t K).trans ?_
  unfold reqOkD
  simp only [bne, h]
  by_cases h3 : s < 1
  · rw [decide_eq_true h3, decide_eq_false (show ¬ 1 ≤ s by omega)]; rfl
  by_cases h4 : s > 8
  · rw [decide_eq_false h3, decide_eq_true h4, decide_eq_true (show 1 ≤ s by omega), decide_eq_false (show ¬ s ≤ 8 by omega)]; rfl
  rw [decide_eq_false h3, decide_eq_false h4, decide_eq_true (show 1 ≤ s by omega), decide_eq_true (show s ≤ 8 by omega)]
  by_cases h5 : ((t.length : Nat) : Int) > 100
  · rw [decide_eq_true h5, decide_eq_false (show ¬ ((t.length : Nat) : Int) ≤ 100 by omega)]
    cases isWordD a <;> cases isWordD b <;> cases isWordD d <;> cases textOk t <;> rfl
  rw [decide_eq_false h5, decide_eq_true (show ((t.length : Nat) : Int) ≤ 100 by omega)]
  unfold reqKindD
  generalize decide (((t.length : Nat) : Int) > 0) = n
  generalize (a == 0) = x
  generalize (b == 0) = y
  generalize (d == 0) = z
  generalize textOk t = p
  cases isWordD a <;> cases isWordD b <;> cases isWordD d <;> cases p <;> first | rfl | (cases x <;> cases y <;> cases z <;> cases n <;> rfl)
theorem e_s_ReqOk_5 (s a b d : Int) (t : List Int) (K : Ret → Option Ret) : evF E_s_ReqOk true F.s_ReqOk [.a (reqR.cells .no (5, s, a, b, d, t))] K =
  (bif (decide (s < 1)) then K ((.s (.bool false)), []) else (bif (decide (s > 8)) then K ((.s (.bool false)), []) else (bif (!(isWordD a)) then K ((.s (.bool false)), []) else (bif (!(isWordD b)) then K ((.s (.bool false)), []) else (bif (!(isWordD d)) then K ((.s (.bool false)), []) else (bif fitB t then (bif (!(textOk t)) then K ((.s (.bool false)), []) else (bif (decide (((List.length t : Nat) : Int) > 100)) then K ((.s (.bool false)), []) else (bif (d != (0 : Int)) then K ((.s (.bool false)), []) else K ((.s (.bool true)), [])))) else none)))))) := by kernel_rfl
theorem v_s_ReqOk_5 (s a b d : Int) (t : List Int) (h : fitB t = true) (K : Ret → Option Ret) : evF E_s_ReqOk true F.s_ReqOk [.a (reqR.cells .no (5, s, a, b, d, t))] K = K (bl (reqOkD (5, s, a, b, d, t)), []) := by
  refine (e_s_ReqOk_5 s a b d t K).trans ?_
  unfold reqOkD
  simp only [bne, h]
  by_cases h3 : s < 1
  · rw [decide_eq_true h3, decide_eq_false (show ¬ 1 ≤ s by omega)]; rfl
  by_cases h4 : s > 8
  · rw [decide_eq_false h3, decide_eq_true h4, decide_eq_true (show 1 ≤ s by omega), decide_eq_false (show ¬ s ≤ 8 by omega)]; rfl
  rw [decide_eq_false h3, decide_eq_false h4, decide_eq_true (show 1 ≤ s by omega), decide_eq_true (show s ≤ 8 by omega)]
  by_cases h5 : ((t.length : Nat) : Int) > 100
  · rw [decide_eq_true h5, decide_eq_false (show ¬ ((t.length : Nat) : Int) ≤ 100 by omega)]
    cases isWordD a <;> cases isWordD b <;> cases isWordD d <;> cases textOk t <;> rfl
  rw [decide_eq_false h5, decide_eq_true (show ((t.length : Nat) : Int) ≤ 100 by omega)]
  unfold reqKindD
  generalize decide (((t.length : Nat) : Int) > 0) = n
  generalize (a == 0) = x
  generalize (b == 0) = y
  generalize (d == 0) = z
  generalize textOk t = p
  cases isWordD a <;> cases isWordD b <;> cases isWordD d <;> cases p <;> first | rfl | (cases x <;> cases y <;> cases z <;> cases n <;> rfl)
theorem e_s_ReqOk_6 (s a b d : Int) (t : List Int) (K : Ret → Option Ret) : evF E_s_ReqOk true F.s_ReqOk [.a (reqR.cells .no (6, s, a, b, d, t))] K =
  (bif (decide (s < 1)) then K ((.s (.bool false)), []) else (bif (decide (s > 8)) then K ((.s (.bool false)), []) else (bif (!(isWordD a)) then K ((.s (.bool false)), []) else (bif (!(isWordD b)) then K ((.s (.bool false)), []) else (bif (!(isWordD d)) then K ((.s (.bool false)), []) else (bif fitB t then (bif (!(textOk t)) then K ((.s (.bool false)), []) else (bif (decide (((List.length t : Nat) : Int) > 100)) then K ((.s (.bool false)), []) else (bif (d != (0 : Int)) then K ((.s (.bool false)), []) else (bif (decide (((List.length t : Nat) : Int) > 0)) then K ((.s (.bool false)), []) else K ((.s (.bool true)), []))))) else none)))))) := by kernel_rfl
theorem v_s_ReqOk_6 (s a b d : Int) (t : List Int) (h : fitB t = true) (K : Ret → Option Ret) : evF E_s_ReqOk true F.s_ReqOk [.a (reqR.cells .no (6, s, a, b, d, t))] K = K (bl (reqOkD (6, s, a, b, d, t)), []) := by
  refine (e_s_ReqOk_6 s a b d t K).trans ?_
  unfold reqOkD
  simp only [bne, h]
  by_cases h3 : s < 1
  · rw [decide_eq_true h3, decide_eq_false (show ¬ 1 ≤ s by omega)]; rfl
  by_cases h4 : s > 8
  · rw [decide_eq_false h3, decide_eq_true h4, decide_eq_true (show 1 ≤ s by omega), decide_eq_false (show ¬ s ≤ 8 by omega)]; rfl
  rw [decide_eq_false h3, decide_eq_false h4, decide_eq_true (show 1 ≤ s by omega), decide_eq_true (show s ≤ 8 by omega)]
  by_cases h5 : ((t.length : Nat) : Int) > 100
  · rw [decide_eq_true h5, decide_eq_false (show ¬ ((t.length : Nat) : Int) ≤ 100 by omega)]
    cases isWordD a <;> cases isWordD b <;> cases isWordD d <;> cases textOk t <;> rfl
  rw [decide_eq_false h5, decide_eq_true (show ((t.length : Nat) : Int) ≤ 100 by omega)]
  unfold reqKindD
  generalize decide (((t.length : Nat) : Int) > 0) = n
  generalize (a == 0) = x
  generalize (b == 0) = y
  generalize (d == 0) = z
  generalize textOk t = p
  cases isWordD a <;> cases isWordD b <;> cases isWordD d <;> cases p <;> first | rfl | (cases x <;> cases y <;> cases z <;> cases n <;> rfl)
theorem e_s_ReqOk_7 (s a b d : Int) (t : List Int) (K : Ret → Option Ret) : evF E_s_ReqOk true F.s_ReqOk [.a (reqR.cells .no (7, s, a, b, d, t))] K =
  (bif (decide (s < 1)) then K ((.s (.bool false)), []) else (bif (decide (s > 8)) then K ((.s (.bool false)), []) else (bif (!(isWordD a)) then K ((.s (.bool false)), []) else (bif (!(isWordD b)) then K ((.s (.bool false)), []) else (bif (!(isWordD d)) then K ((.s (.bool false)), []) else (bif fitB t then (bif (!(textOk t)) then K ((.s (.bool false)), []) else (bif (decide (((List.length t : Nat) : Int) > 100)) then K ((.s (.bool false)), []) else (bif (b != (0 : Int)) then K ((.s (.bool false)), []) else (bif (d != (0 : Int)) then K ((.s (.bool false)), []) else K ((.s (.bool (decide (((List.length t : Nat) : Int) > 0)))), []))))) else none)))))) := by kernel_rfl
theorem v_s_ReqOk_7 (s a b d : Int) (t : List Int) (h : fitB t = true) (K : Ret → Option Ret) : evF E_s_ReqOk true F.s_ReqOk [.a (reqR.cells .no (7, s, a, b, d, t))] K = K (bl (reqOkD (7, s, a, b, d, t)), []) := by
  refine (e_s_ReqOk_7 s a b d t K).trans ?_
  unfold reqOkD
  simp only [bne, h]
  by_cases h3 : s < 1
  · rw [decide_eq_true h3, decide_eq_false (show ¬ 1 ≤ s by omega)]; rfl
  by_cases h4 : s > 8
  · rw [decide_eq_false h3, decide_eq_true h4, decide_eq_true (show 1 ≤ s by omega), decide_eq_false (show ¬ s ≤ 8 by omega)]; rfl
  rw [decide_eq_false h3, decide_eq_false h4, decide_eq_true (show 1 ≤ s by omega), decide_eq_true (show s ≤ 8 by omega)]
  by_cases h5 : ((t.length : Nat) : Int) > 100
  · rw [decide_eq_true h5, decide_eq_false (show ¬ ((t.length : Nat) : Int) ≤ 100 by omega)]
    cases isWordD a <;> cases isWordD b <;> cases isWordD d <;> cases textOk t <;> rfl
  rw [decide_eq_false h5, decide_eq_true (show ((t.length : Nat) : Int) ≤ 100 by omega)]
  unfold reqKindD
  generalize decide (((t.length : Nat) : Int) > 0) = n
  generalize (a == 0) = x
  generalize (b == 0) = y
  generalize (d == 0) = z
  generalize textOk t = p
  cases isWordD a <;> cases isWordD b <;> cases isWordD d <;> cases p <;> first | rfl | (cases x <;> cases y <;> cases z <;> cases n <;> rfl)
theorem e_s_ReqOk_8 (s a b d : Int) (t : List Int) (K : Ret → Option Ret) : evF E_s_ReqOk true F.s_ReqOk [.a (reqR.cells .no (8, s, a, b, d, t))] K =
  (bif (decide (s < 1)) then K ((.s (.bool false)), []) else (bif (decide (s > 8)) then K ((.s (.bool false)), []) else (bif (!(isWordD a)) then K ((.s (.bool false)), []) else (bif (!(isWordD b)) then K ((.s (.bool false)), []) else (bif (!(isWordD d)) then K ((.s (.bool false)), []) else (bif fitB t then (bif (!(textOk t)) then K ((.s (.bool false)), []) else (bif (decide (((List.length t : Nat) : Int) > 100)) then K ((.s (.bool false)), []) else (bif (b != (0 : Int)) then K ((.s (.bool false)), []) else (bif (d != (0 : Int)) then K ((.s (.bool false)), []) else K ((.s (.bool (decide (((List.length t : Nat) : Int) > 0)))), []))))) else none)))))) := by kernel_rfl
theorem v_s_ReqOk_8 (s a b d : Int) (t : List Int) (h : fitB t = true) (K : Ret → Option Ret) : evF E_s_ReqOk true F.s_ReqOk [.a (reqR.cells .no (8, s, a, b, d, t))] K = K (bl (reqOkD (8, s, a, b, d, t)), []) := by
  refine (e_s_ReqOk_8 s a b d t K).trans ?_
  unfold reqOkD
  simp only [bne, h]
  by_cases h3 : s < 1
  · rw [decide_eq_true h3, decide_eq_false (show ¬ 1 ≤ s by omega)]; rfl
  by_cases h4 : s > 8
  · rw [decide_eq_false h3, decide_eq_true h4, decide_eq_true (show 1 ≤ s by omega), decide_eq_false (show ¬ s ≤ 8 by omega)]; rfl
  rw [decide_eq_false h3, decide_eq_false h4, decide_eq_true (show 1 ≤ s by omega), decide_eq_true (show s ≤ 8 by omega)]
  by_cases h5 : ((t.length : Nat) : Int) > 100
  · rw [decide_eq_true h5, decide_eq_false (show ¬ ((t.length : Nat) : Int) ≤ 100 by omega)]
    cases isWordD a <;> cases isWordD b <;> cases isWordD d <;> cases textOk t <;> rfl
  rw [decide_eq_false h5, decide_eq_true (show ((t.length : Nat) : Int) ≤ 100 by omega)]
  unfold reqKindD
  generalize decide (((t.length : Nat) : Int) > 0) = n
  generalize (a == 0) = x
  generalize (b == 0) = y
  generalize (d == 0) = z
  generalize textOk t = p
  cases isWordD a <;> cases isWordD b <;> cases isWordD d <;> cases p <;> first | rfl | (cases x <;> cases y <;> cases z <;> cases n <;> rfl)
theorem e_s_ReqOk_9 (s a b d : Int) (t : List Int) (K : Ret → Option Ret) : evF E_s_ReqOk true F.s_ReqOk [.a (reqR.cells .no (9, s, a, b, d, t))] K =
  (bif (decide (s < 1)) then K ((.s (.bool false)), []) else (bif (decide (s > 8)) then K ((.s (.bool false)), []) else (bif (!(isWordD a)) then K ((.s (.bool false)), []) else (bif (!(isWordD b)) then K ((.s (.bool false)), []) else (bif (!(isWordD d)) then K ((.s (.bool false)), []) else (bif fitB t then (bif (!(textOk t)) then K ((.s (.bool false)), []) else (bif (decide (((List.length t : Nat) : Int) > 100)) then K ((.s (.bool false)), []) else (bif (b != (0 : Int)) then K ((.s (.bool false)), []) else (bif (d != (0 : Int)) then K ((.s (.bool false)), []) else (bif (decide (((List.length t : Nat) : Int) > 0)) then K ((.s (.bool false)), []) else K ((.s (.bool true)), [])))))) else none)))))) := by kernel_rfl
theorem v_s_ReqOk_9 (s a b d : Int) (t : List Int) (h : fitB t = true) (K : Ret → Option Ret) : evF E_s_ReqOk true F.s_ReqOk [.a (reqR.cells .no (9, s, a, b, d, t))] K = K (bl (reqOkD (9, s, a, b, d, t)), []) := by
  refine (e_s_ReqOk_9 s a b d t K).trans ?_
  unfold reqOkD
  simp only [bne, h]
  by_cases h3 : s < 1
  · rw [decide_eq_true h3, decide_eq_false (show ¬ 1 ≤ s by omega)]; rfl
  by_cases h4 : s > 8
  · rw [decide_eq_false h3, decide_eq_true h4, decide_eq_true (show 1 ≤ s by omega), decide_eq_false (show ¬ s ≤ 8 by omega)]; rfl
  rw [decide_eq_false h3, decide_eq_false h4, decide_eq_true (show 1 ≤ s by omega), decide_eq_true (show s ≤ 8 by omega)]
  by_cases h5 : ((t.length : Nat) : Int) > 100
  · rw [decide_eq_true h5, decide_eq_false (show ¬ ((t.length : Nat) : Int) ≤ 100 by omega)]
    cases isWordD a <;> cases isWordD b <;> cases isWordD d <;> cases textOk t <;> rfl
  rw [decide_eq_false h5, decide_eq_true (show ((t.length : Nat) : Int) ≤ 100 by omega)]
  unfold reqKindD
  generalize decide (((t.length : Nat) : Int) > 0) = n
  generalize (a == 0) = x
  generalize (b == 0) = y
  generalize (d == 0) = z
  generalize textOk t = p
  cases isWordD a <;> cases isWordD b <;> cases isWordD d <;> cases p <;> first | rfl | (cases x <;> cases y <;> cases z <;> cases n <;> rfl)
theorem e_s_ReqOk_10 (s a b d : Int) (t : List Int) (K : Ret → Option Ret) : evF E_s_ReqOk true F.s_ReqOk [.a (reqR.cells .no (10, s, a, b, d, t))] K =
  (bif (decide (s < 1)) then K ((.s (.bool false)), []) else (bif (decide (s > 8)) then K ((.s (.bool false)), []) else (bif (!(isWordD a)) then K ((.s (.bool false)), []) else (bif (!(isWordD b)) then K ((.s (.bool false)), []) else (bif (!(isWordD d)) then K ((.s (.bool false)), []) else (bif fitB t then (bif (!(textOk t)) then K ((.s (.bool false)), []) else (bif (decide (((List.length t : Nat) : Int) > 100)) then K ((.s (.bool false)), []) else (bif (d != (0 : Int)) then K ((.s (.bool false)), []) else (bif (decide (((List.length t : Nat) : Int) > 0)) then K ((.s (.bool false)), []) else K ((.s (.bool true)), []))))) else none)))))) := by kernel_rfl
theorem v_s_ReqOk_10 (s a b d : Int) (t : List Int) (h : fitB t = true) (K : Ret → Option Ret) : evF E_s_ReqOk true F.s_ReqOk [.a (reqR.cells .no (10, s, a, b, d, t))] K = K (bl (reqOkD (10, s, a, b, d, t)), []) := by
  refine (e_s_ReqOk_10 s a b d t K).trans ?_
  unfold reqOkD
  simp only [bne, h]
  by_cases h3 : s < 1
  · rw [decide_eq_true h3, decide_eq_false (show ¬ 1 ≤ s by omega)]; rfl
  by_cases h4 : s > 8
  · rw [decide_eq_false h3, decide_eq_true h4, decide_eq_true (show 1 ≤ s by omega), decide_eq_false (show ¬ s ≤ 8 by omega)]; rfl
  rw [decide_eq_false h3, decide_eq_false h4, decide_eq_true (show 1 ≤ s by omega), decide_eq_true (show s ≤ 8 by omega)]
  by_cases h5 : ((t.length : Nat) : Int) > 100
  · rw [decide_eq_true h5, decide_eq_false (show ¬ ((t.length : Nat) : Int) ≤ 100 by omega)]
    cases isWordD a <;> cases isWordD b <;> cases isWordD d <;> cases textOk t <;> rfl
  rw [decide_eq_false h5, decide_eq_true (show ((t.length : Nat) : Int) ≤ 100 by omega)]
  unfold reqKindD
  generalize decide (((t.length : Nat) : Int) > 0) = n
  generalize (a == 0) = x
  generalize (b == 0) = y
  generalize (d == 0) = z
  generalize textOk t = p
  cases isWordD a <;> cases isWordD b <;> cases isWordD d <;> cases p <;> first | rfl | (cases x <;> cases y <;> cases z <;> cases n <;> rfl)
theorem e_s_ReqOk_11 (s a b d : Int) (t : List Int) (K : Ret → Option Ret) : evF E_s_ReqOk true F.s_ReqOk [.a (reqR.cells .no (11, s, a, b, d, t))] K =
  (bif (decide (s < 1)) then K ((.s (.bool false)), []) else (bif (decide (s > 8)) then K ((.s (.bool false)), []) else (bif (!(isWordD a)) then K ((.s (.bool false)), []) else (bif (!(isWordD b)) then K ((.s (.bool false)), []) else (bif (!(isWordD d)) then K ((.s (.bool false)), []) else (bif fitB t then (bif (!(textOk t)) then K ((.s (.bool false)), []) else (bif (decide (((List.length t : Nat) : Int) > 100)) then K ((.s (.bool false)), []) else (bif (d != (0 : Int)) then K ((.s (.bool false)), []) else (bif (decide (((List.length t : Nat) : Int) > 0)) then K ((.s (.bool false)), []) else K ((.s (.bool true)), []))))) else none)))))) := by kernel_rfl
theorem v_s_ReqOk_11 (s a b d : Int) (t : List Int) (h : fitB t = true) (K : Ret → Option Ret) : evF E_s_ReqOk true F.s_ReqOk [.a (reqR.cells .no (11, s, a, b, d, t))] K = K (bl (reqOkD (11, s, a, b, d, t)), []) := by
  refine (e_s_ReqOk_11 s a b d t K).trans ?_
  unfold reqOkD
  simp only [bne, h]
  by_cases h3 : s < 1
  · rw [decide_eq_true h3, decide_eq_false (show ¬ 1 ≤ s by omega)]; rfl
  by_cases h4 : s > 8
  · rw [decide_eq_false h3, decide_eq_true h4, decide_eq_true (show 1 ≤ s by omega), decide_eq_false (show ¬ s ≤ 8 by omega)]; rfl
  rw [decide_eq_false h3, decide_eq_false h4, decide_eq_true (show 1 ≤ s by omega), decide_eq_true (show s ≤ 8 by omega)]
  by_cases h5 : ((t.length : Nat) : Int) > 100
  · rw [decide_eq_true h5, decide_eq_false (show ¬ ((t.length : Nat) : Int) ≤ 100 by omega)]
    cases isWordD a <;> cases isWordD b <;> cases isWordD d <;> cases textOk t <;> rfl
  rw [decide_eq_false h5, decide_eq_true (show ((t.length : Nat) : Int) ≤ 100 by omega)]
  unfold reqKindD
  generalize decide (((t.length : Nat) : Int) > 0) = n
  generalize (a == 0) = x
  generalize (b == 0) = y
  generalize (d == 0) = z
  generalize textOk t = p
  cases isWordD a <;> cases isWordD b <;> cases isWordD d <;> cases p <;> first | rfl | (cases x <;> cases y <;> cases z <;> cases n <;> rfl)
theorem e_s_ReqOk_12 (s a b d : Int) (t : List Int) (K : Ret → Option Ret) : evF E_s_ReqOk true F.s_ReqOk [.a (reqR.cells .no (12, s, a, b, d, t))] K =
  (bif (decide (s < 1)) then K ((.s (.bool false)), []) else (bif (decide (s > 8)) then K ((.s (.bool false)), []) else (bif (!(isWordD a)) then K ((.s (.bool false)), []) else (bif (!(isWordD b)) then K ((.s (.bool false)), []) else (bif (!(isWordD d)) then K ((.s (.bool false)), []) else (bif fitB t then (bif (!(textOk t)) then K ((.s (.bool false)), []) else (bif (decide (((List.length t : Nat) : Int) > 100)) then K ((.s (.bool false)), []) else (bif (decide (((List.length t : Nat) : Int) > 0)) then K ((.s (.bool false)), []) else K ((.s (.bool true)), [])))) else none)))))) := by kernel_rfl
theorem v_s_ReqOk_12 (s a b d : Int) (t : List Int) (h : fitB t = true) (K : Ret → Option Ret) : evF E_s_ReqOk true F.s_ReqOk [.a (reqR.cells .no (12, s, a, b, d, t))] K = K (bl (reqOkD (12, s, a, b, d, t)), []) := by
  refine (e_s_ReqOk_12 s a b d t K).trans ?_
  unfold reqOkD
  simp only [bne, h]
  by_cases h3 : s < 1
  · rw [decide_eq_true h3, decide_eq_false (show ¬ 1 ≤ s by omega)]; rfl
  by_cases h4 : s > 8
  · rw [decide_eq_false h3, decide_eq_true h4, decide_eq_true (show 1 ≤ s by omega), decide_eq_false (show ¬ s ≤ 8 by omega)]; rfl
  rw [decide_eq_false h3, decide_eq_false h4, decide_eq_true (show 1 ≤ s by omega), decide_eq_true (show s ≤ 8 by omega)]
  by_cases h5 : ((t.length : Nat) : Int) > 100
  · rw [decide_eq_true h5, decide_eq_false (show ¬ ((t.length : Nat) : Int) ≤ 100 by omega)]
    cases isWordD a <;> cases isWordD b <;> cases isWordD d <;> cases textOk t <;> rfl
  rw [decide_eq_false h5, decide_eq_true (show ((t.length : Nat) : Int) ≤ 100 by omega)]
  unfold reqKindD
  generalize decide (((t.length : Nat) : Int) > 0) = n
  generalize (a == 0) = x
  generalize (b == 0) = y
  generalize (d == 0) = z
  generalize textOk t = p
  cases isWordD a <;> cases isWordD b <;> cases isWordD d <;> cases p <;> first | rfl | (cases x <;> cases y <;> cases z <;> cases n <;> rfl)
theorem e_s_ReqOk_13 (s a b d : Int) (t : List Int) (K : Ret → Option Ret) : evF E_s_ReqOk true F.s_ReqOk [.a (reqR.cells .no (13, s, a, b, d, t))] K =
  (bif (decide (s < 1)) then K ((.s (.bool false)), []) else (bif (decide (s > 8)) then K ((.s (.bool false)), []) else (bif (!(isWordD a)) then K ((.s (.bool false)), []) else (bif (!(isWordD b)) then K ((.s (.bool false)), []) else (bif (!(isWordD d)) then K ((.s (.bool false)), []) else (bif fitB t then (bif (!(textOk t)) then K ((.s (.bool false)), []) else (bif (decide (((List.length t : Nat) : Int) > 100)) then K ((.s (.bool false)), []) else (bif (decide (((List.length t : Nat) : Int) > 0)) then K ((.s (.bool false)), []) else K ((.s (.bool true)), [])))) else none)))))) := by kernel_rfl
theorem v_s_ReqOk_13 (s a b d : Int) (t : List Int) (h : fitB t = true) (K : Ret → Option Ret) : evF E_s_ReqOk true F.s_ReqOk [.a (reqR.cells .no (13, s, a, b, d, t))] K = K (bl (reqOkD (13, s, a, b, d, t)), []) := by
  refine (e_s_ReqOk_13 s a b d t K).trans ?_
  unfold reqOkD
  simp only [bne, h]
  by_cases h3 : s < 1
  · rw [decide_eq_true h3, decide_eq_false (show ¬ 1 ≤ s by omega)]; rfl
  by_cases h4 : s > 8
  · rw [decide_eq_false h3, decide_eq_true h4, decide_eq_true (show 1 ≤ s by omega), decide_eq_false (show ¬ s ≤ 8 by omega)]; rfl
  rw [decide_eq_false h3, decide_eq_false h4, decide_eq_true (show 1 ≤ s by omega), decide_eq_true (show s ≤ 8 by omega)]
  by_cases h5 : ((t.length : Nat) : Int) > 100
  · rw [decide_eq_true h5, decide_eq_false (show ¬ ((t.length : Nat) : Int) ≤ 100 by omega)]
    cases isWordD a <;> cases isWordD b <;> cases isWordD d <;> cases textOk t <;> rfl
  rw [decide_eq_false h5, decide_eq_true (show ((t.length : Nat) : Int) ≤ 100 by omega)]
  unfold reqKindD
  generalize decide (((t.length : Nat) : Int) > 0) = n
  generalize (a == 0) = x
  generalize (b == 0) = y
  generalize (d == 0) = z
  generalize textOk t = p
  cases isWordD a <;> cases isWordD b <;> cases isWordD d <;> cases p <;> first | rfl | (cases x <;> cases y <;> cases z <;> cases n <;> rfl)
theorem e_s_ReqOk_14 (s a b d : Int) (t : List Int) (K : Ret → Option Ret) : evF E_s_ReqOk true F.s_ReqOk [.a (reqR.cells .no (14, s, a, b, d, t))] K =
  (bif (decide (s < 1)) then K ((.s (.bool false)), []) else (bif (decide (s > 8)) then K ((.s (.bool false)), []) else (bif (!(isWordD a)) then K ((.s (.bool false)), []) else (bif (!(isWordD b)) then K ((.s (.bool false)), []) else (bif (!(isWordD d)) then K ((.s (.bool false)), []) else (bif fitB t then (bif (!(textOk t)) then K ((.s (.bool false)), []) else (bif (decide (((List.length t : Nat) : Int) > 100)) then K ((.s (.bool false)), []) else (bif (d != (0 : Int)) then K ((.s (.bool false)), []) else (bif (decide (((List.length t : Nat) : Int) > 0)) then K ((.s (.bool false)), []) else K ((.s (.bool true)), []))))) else none)))))) := by kernel_rfl
theorem v_s_ReqOk_14 (s a b d : Int) (t : List Int) (h : fitB t = true) (K : Ret → Option Ret) : evF E_s_ReqOk true F.s_ReqOk [.a (reqR.cells .no (14, s, a, b, d, t))] K = K (bl (reqOkD (14, s, a, b, d, t)), []) := by
  refine (e_s_ReqOk_14 s a b d t K).trans ?_
  unfold reqOkD
  simp only [bne, h]
  by_cases h3 : s < 1
  · rw [decide_eq_true h3, decide_eq_false (show ¬ 1 ≤ s by omega)]; rfl
  by_cases h4 : s > 8
  · rw [decide_eq_false h3, decide_eq_true h4, decide_eq_true (show 1 ≤ s by omega), decide_eq_false (show ¬ s ≤ 8 by omega)]; rfl
  rw [decide_eq_false h3, decide_eq_false h4, decide_eq_true (show 1 ≤ s by omega), decide_eq_true (show s ≤ 8 by omega)]
  by_cases h5 : ((t.length : Nat) : Int) > 100
  · rw [decide_eq_true h5, decide_eq_false (show ¬ ((t.length : Nat) : Int) ≤ 100 by omega)]
    cases isWordD a <;> cases isWordD b <;> cases isWordD d <;> cases textOk t <;> rfl
  rw [decide_eq_false h5, decide_eq_true (show ((t.length : Nat) : Int) ≤ 100 by omega)]
  unfold reqKindD
  generalize decide (((t.length : Nat) : Int) > 0) = n
  generalize (a == 0) = x
  generalize (b == 0) = y
  generalize (d == 0) = z
  generalize textOk t = p
  cases isWordD a <;> cases isWordD b <;> cases isWordD d <;> cases p <;> first | rfl | (cases x <;> cases y <;> cases z <;> cases n <;> rfl)
theorem e_s_ReqOk_15 (s a b d : Int) (t : List Int) (K : Ret → Option Ret) : evF E_s_ReqOk true F.s_ReqOk [.a (reqR.cells .no (15, s, a, b, d, t))] K =
  (bif (decide (s < 1)) then K ((.s (.bool false)), []) else (bif (decide (s > 8)) then K ((.s (.bool false)), []) else (bif (!(isWordD a)) then K ((.s (.bool false)), []) else (bif (!(isWordD b)) then K ((.s (.bool false)), []) else (bif (!(isWordD d)) then K ((.s (.bool false)), []) else (bif fitB t then (bif (!(textOk t)) then K ((.s (.bool false)), []) else (bif (decide (((List.length t : Nat) : Int) > 100)) then K ((.s (.bool false)), []) else (bif (a != (0 : Int)) then K ((.s (.bool false)), []) else (bif (b != (0 : Int)) then K ((.s (.bool false)), []) else (bif (d != (0 : Int)) then K ((.s (.bool false)), []) else (bif (decide (((List.length t : Nat) : Int) > 0)) then K ((.s (.bool false)), []) else K ((.s (.bool true)), []))))))) else none)))))) := by kernel_rfl
theorem v_s_ReqOk_15 (s a b d : Int) (t : List Int) (h : fitB t = true) (K : Ret → Option Ret) : evF E_s_ReqOk true F.s_ReqOk [.a (reqR.cells .no (15, s, a, b, d, t))] K = K (bl (reqOkD (15, s, a, b, d, t)), []) := by
  refine (e_s_ReqOk_15 s a b d t K).trans ?_
  unfold reqOkD
  simp only [bne, h]
  by_cases h3 : s < 1
  · rw [decide_eq_true h3, decide_eq_false (show ¬ 1 ≤ s by omega)]; rfl
  by_cases h4 : s > 8
  · rw [decide_eq_false h3, decide_eq_true h4, decide_eq_true (show 1 ≤ s by omega), decide_eq_false (show ¬ s ≤ 8 by omega)]; rfl
  rw [decide_eq_false h3, decide_eq_false h4, decide_eq_true (show 1 ≤ s by omega), decide_eq_true (show s ≤ 8 by omega)]
  by_cases h5 : ((t.length : Nat) : Int) > 100
  · rw [decide_eq_true h5, decide_eq_false (show ¬ ((t.length : Nat) : Int) ≤ 100 by omega)]
    cases isWordD a <;> cases isWordD b <;> cases isWordD d <;> cases textOk t <;> rfl
  rw [decide_eq_false h5, decide_eq_true (show ((t.length : Nat) : Int) ≤ 100 by omega)]
  unfold reqKindD
  generalize decide (((t.length : Nat) : Int) > 0) = n
  generalize (a == 0) = x
  generalize (b == 0) = y
  generalize (d == 0) = z
  generalize textOk t = p
  cases isWordD a <;> cases isWordD b <;> cases isWordD d <;> cases p <;> first | rfl | (cases x <;> cases y <;> cases z <;> cases n <;> rfl)
theorem e_s_ReqOk_16 (s a b d : Int) (t : List Int) (K : Ret → Option Ret) : evF E_s_ReqOk true F.s_ReqOk [.a (reqR.cells .no (16, s, a, b, d, t))] K =
  (bif (decide (s < 1)) then K ((.s (.bool false)), []) else (bif (decide (s > 8)) then K ((.s (.bool false)), []) else (bif (!(isWordD a)) then K ((.s (.bool false)), []) else (bif (!(isWordD b)) then K ((.s (.bool false)), []) else (bif (!(isWordD d)) then K ((.s (.bool false)), []) else (bif fitB t then (bif (!(textOk t)) then K ((.s (.bool false)), []) else (bif (decide (((List.length t : Nat) : Int) > 100)) then K ((.s (.bool false)), []) else (bif (a != (0 : Int)) then K ((.s (.bool false)), []) else (bif (b != (0 : Int)) then K ((.s (.bool false)), []) else (bif (d != (0 : Int)) then K ((.s (.bool false)), []) else (bif (decide (((List.length t : Nat) : Int) > 0)) then K ((.s (.bool false)), []) else K ((.s (.bool true)), []))))))) else none)))))) := by kernel_rfl
theorem v_s_ReqOk_16 (s a b d : Int) (t : List Int) (h : fitB t = true) (K : Ret → Option Ret) : evF E_s_ReqOk true F.s_ReqOk [.a (reqR.cells .no (16, s, a, b, d, t))] K = K (bl (reqOkD (16, s, a, b, d, t)), []) := by
  refine (e_s_ReqOk_16 s a b d t K).trans ?_
  unfold reqOkD
  simp only [bne, h]
  by_cases h3 : s < 1
  · rw [decide_eq_true h3, decide_eq_false (show ¬ 1 ≤ s by omega)]; rfl
  by_cases h4 : s > 8
  · rw [decide_eq_false h3, decide_eq_true h4, decide_eq_true (show 1 ≤ s by omega), decide_eq_false (show ¬ s ≤ 8 by omega)]; rfl
  rw [decide_eq_false h3, decide_eq_false h4, decide_eq_true (show 1 ≤ s by omega), decide_eq_true (show s ≤ 8 by omega)]
  by_cases h5 : ((t.length : Nat) : Int) > 100
  · rw [decide_eq_true h5, decide_eq_false (show ¬ ((t.length : Nat) : Int) ≤ 100 by omega)]
    cases isWordD a <;> cases isWordD b <;> cases isWordD d <;> cases textOk t <;> rfl
  rw [decide_eq_false h5, decide_eq_true (show ((t.length : Nat) : Int) ≤ 100 by omega)]
  unfold reqKindD
  generalize decide (((t.length : Nat) : Int) > 0) = n
  generalize (a == 0) = x
  generalize (b == 0) = y
  generalize (d == 0) = z
  generalize textOk t = p
  cases isWordD a <;> cases isWordD b <;> cases isWordD d <;> cases p <;> first | rfl | (cases x <;> cases y <;> cases z <;> cases n <;> rfl)
theorem v_s_ReqOk (r : T_Req) (h : fitB r.2.2.2.2.2 = true) (K : Ret → Option Ret) : ∃ G', OkFn prog I N.s_ReqOk true G' ∧ G' [.a (reqR.cells .no r)] K = K (bl (reqOkD r), []) := by
  obtain ⟨k, s, a, b, d, t⟩ := r
  by_cases h1 : k < 1
  · refine ⟨_, ok1_s_ReqOk, (e1_s_ReqOk (k, s, a, b, d, t) K).trans ?_⟩
    unfold reqOkD
    rw [decide_eq_true h1, decide_eq_false (show ¬ 1 ≤ k by omega)]; rfl
  by_cases h2 : k > 16
  · refine ⟨_, ok1_s_ReqOk, (e1_s_ReqOk (k, s, a, b, d, t) K).trans ?_⟩
    unfold reqOkD
    rw [decide_eq_false h1, decide_eq_true h2, decide_eq_true (show 1 ≤ k by omega), decide_eq_false (show ¬ k ≤ 16 by omega)]; rfl
  refine ⟨_, ok0_s_ReqOk, ?_⟩
  rcases kinds (k := k) (by omega) (by omega) with rfl | rfl | rfl | rfl | rfl | rfl | rfl | rfl | rfl | rfl | rfl | rfl | rfl | rfl | rfl | rfl
  · exact v_s_ReqOk_1 s a b d t h K
  · exact v_s_ReqOk_2 s a b d t h K
  · exact v_s_ReqOk_3 s a b d t h K
  · exact v_s_ReqOk_4 s a b d t h K
  · exact v_s_ReqOk_5 s a b d t h K
  · exact v_s_ReqOk_6 s a b d t h K
  · exact v_s_ReqOk_7 s a b d t h K
  · exact v_s_ReqOk_8 s a b d t h K
  · exact v_s_ReqOk_9 s a b d t h K
  · exact v_s_ReqOk_10 s a b d t h K
  · exact v_s_ReqOk_11 s a b d t h K
  · exact v_s_ReqOk_12 s a b d t h K
  · exact v_s_ReqOk_13 s a b d t h K
  · exact v_s_ReqOk_14 s a b d t h K
  · exact v_s_ReqOk_15 s a b d t h K
  · exact v_s_ReqOk_16 s a b d t h K
def S_s_ReqOk : Sm := S_fn [.a reqR] (fun d => fitB d.1.2.2.2.2.2) (fun d => bl (reqOkD d.1))
theorem okS_s_ReqOk : OkFn prog I N.s_ReqOk true S_s_ReqOk := OkFn.weak (fun ws K q hr => by
  unfold S_s_ReqOk S_fn at hr
  split at hr
  · rename_i dd hd
    have hw := sgD_ok _ hd
    replace hr : (bif fitB dd.1.2.2.2.2.2 then K (bl (reqOkD dd.1), []) else none) = some q := hr
    cases hp : fitB dd.1.2.2.2.2.2 with
    | false => rw [hp] at hr; cases hr
    | true =>
    rw [hp] at hr
    obtain ⟨G', g1, g2⟩ := v_s_ReqOk dd.1 hp K
    exact ⟨G', g1, by rw [hw]; exact g2.trans hr⟩
  · cases hr) ok0_s_ReqOk.1
end Go.Ev.Seat
end
section
/- s_ReplyOk: its contract. -/
namespace Go.Ev.Seat
open Go.RowKit
set_option maxRecDepth 100000
set_option linter.unusedVariables false
set_option linter.unusedSimpArgs false
noncomputable abbrev ls_s_ReplyOk : List (Nat × Bool × Sm) := [(N.s_l09Word, true, S_s_l09Word), (N.s_TextOk, true, S_s_TextOk)]
noncomputable abbrev E_s_ReplyOk : Env := En ls_s_ReplyOk [] [] [] false 0 []
noncomputable def T_s_ReplyOk (r : T_Reply) (K : Ret → Option Ret) : Option Ret := (bif (decide (r.1 < (0 : Int))) then K ((.s (.bool false)), []) else (bif (decide (r.1 > (10 : Int))) then K ((.s (.bool false)), []) else (bif (!(isWordD r.2.1)) then K ((.s (.bool false)), []) else (bif (!(isWordD r.2.2.1)) then K ((.s (.bool false)), []) else (bif (fitB r.2.2.2) then (bif (!(textOk r.2.2.2)) then K ((.s (.bool false)), []) else (bif (r.1 == (0 : Int)) then K ((.s (.bool true)), []) else (bif (r.2.1 == (0 : Int)) then (bif (r.2.2.1 == (0 : Int)) then K ((.s (.bool ((((List.length r.2.2.2) : Nat) : Int) == (0 : Int)))), []) else K ((.s (.bool false)), [])) else K ((.s (.bool false)), [])))) else none)))))
theorem e_s_ReplyOk (r : T_Reply) (K : Ret → Option Ret) : evF E_s_ReplyOk true F.s_ReplyOk [.a (replyR.cells .no r)] K = T_s_ReplyOk r K := by kernel_rfl
def S_s_ReplyOk : Sm := S_fnR [.a replyR] (fun d => fitB d.1.2.2.2) (fun d => (bl (replyOkD d.1), []))
theorem v_s_ReplyOk (r : T_Reply) (h : (fitB r.2.2.2) = true) (K : Ret → Option Ret) : T_s_ReplyOk r K = K (bl (replyOkD r), []) := by
  unfold T_s_ReplyOk replyOkD
  rw [h]
  by_cases h1 : r.1 < 0
  · rw [decide_eq_true h1, decide_eq_false (show ¬ 0 ≤ r.1 by omega)]; rfl
  by_cases h2 : r.1 > 10
  · rw [decide_eq_false h1, decide_eq_true h2, decide_eq_true (show 0 ≤ r.1 by omega), decide_eq_false (show ¬ r.1 ≤ 10 by omega)]; rfl
  rw [decide_eq_false h1, decide_eq_false h2, decide_eq_true (show 0 ≤ r.1 by omega), decide_eq_true (show r.1 ≤ 10 by omega)]
  cases isWordD r.2.1 <;> cases isWordD r.2.2.1 <;> cases textOk r.2.2.2 <;> cases (r.1 == 0) <;> cases (r.2.1 == 0) <;> cases (r.2.2.1 == 0) <;> rfl
theorem okS_s_ReplyOk : OkFn prog I N.s_ReplyOk true S_s_ReplyOk := okN (ok_fn (memc okS_s_l09Word (memc okS_s_TextOk mem0)) (l := ls_s_ReplyOk) (p := []) (ls := []) (lend := []) (focus := false) (fuel := 0) (give := []) (fn := F.s_ReplyOk) (by kernel_rfl) (by kernel_rfl) (by kernel_rfl) (by kernel_rfl) (cs := []) (by kernel_rfl) loops0) (S_fnR_of fun d K h => (e_s_ReplyOk d.1 K).trans (v_s_ReplyOk d.1 h K))
end Go.Ev.Seat
end
section
/- l_bytesOf: its contract. -/
namespace Go.Ev.Seat
open Go.RowKit
set_option maxRecDepth 100000
set_option linter.unusedVariables false
set_option linter.unusedSimpArgs false
noncomputable abbrev E_l_bytesOf : Env := En [] [] [] [] false 0 []
noncomputable def T_l_bytesOf (d : List Int) (K : Ret → Option Ret) : Option Ret := (bif (Nat.ble (((List.length ([] : List Int)) + (List.length d)) * 1) 140737488355328) then K ((.l .deep bytesR (([] : List Int) ++ d)), []) else none)
theorem e_l_bytesOf (d : List Int) (K : Ret → Option Ret) : evF E_l_bytesOf true F.l_bytesOf [.l .no bytesR d] K = T_l_bytesOf d K := by kernel_rfl
def S_l_bytesOf : Sm := S_fnR [.l bytesR] (fun d => fitB d.1) (fun d => (.l .deep bytesR d.1, []))
theorem v_l_bytesOf (d : List Int) (h : (fitB d) = true) (K : Ret → Option Ret) : T_l_bytesOf d K = K (.l .deep bytesR d, []) := by
  have hl := fitB_len h
  unfold T_l_bytesOf
  rw [Nat.ble_eq_true_of_le (by rw [List.length_nil]; omega)]; rfl
theorem okS_l_bytesOf : OkFn prog I N.l_bytesOf true S_l_bytesOf := okN (ok_fn mem0 (l := []) (p := []) (ls := []) (lend := []) (focus := false) (fuel := 0) (give := []) (fn := F.l_bytesOf) (by kernel_rfl) (by kernel_rfl) (by kernel_rfl) (by kernel_rfl) (cs := []) (by kernel_rfl) loops0) (S_fnR_of fun d K h => (e_l_bytesOf d.1 K).trans (v_l_bytesOf d.1 h K))
end Go.Ev.Seat
end
section
/- i_readWord: its contract. -/
namespace Go.Ev.Seat
open Go.RowKit
set_option maxRecDepth 100000
set_option linter.unusedVariables false
set_option linter.unusedSimpArgs false
noncomputable abbrev pl_i_readWord : List (Nat × Plan × List Nat) := [(1, takes [0, 1, 2, 3, 4, 5, 6, 7, 8, 9, 10], [])]
noncomputable abbrev E_i_readWord : Env := En [] pl_i_readWord [] [] false 0 []
noncomputable def T_i_readWord (d : List Int) (K : Ret → Option Ret) : Option Ret := (bif (decide ((0 : Int) < (((List.length d) : Nat) : Int))) then (bif (decide ((1 : Int) < (((List.length d) : Nat) : Int))) then K ((.s (.int .i64 (bor .i64 (shlI .i64 (IntKind.wrap .i64 (List.getD d 0 (0 : Int))) (8 : Int)) (IntKind.wrap .i64 (List.getD d 1 (0 : Int)))))), []) else none) else none)
theorem e_i_readWord (d : List Int) (K : Ret → Option Ret) : evF E_i_readWord true F.i_readWord [.l .no bytesR d] K = T_i_readWord d K := by kernel_rfl
def S_i_readWord : Sm := S_fnR [.l bytesR] (fun d => fitB d.1 && decide (1 < ((d.1.length : Nat) : Int))) (fun d => (.s (.int .i64 (atD d.1 0)), []))
theorem v_i_readWord (d : List Int) (h : (fitB d && decide (1 < ((d.length : Nat) : Int))) = true) (K : Ret → Option Ret) : T_i_readWord d K = K (.s (.int .i64 (atD d 0)), []) := by
  simp only [Bool.and_eq_true, decide_eq_true_eq] at h
  obtain ⟨h1, h2⟩ := h
  have hl := fitB_len h1
  have a := fitB_getD h1 0
  have b := fitB_getD h1 1
  unfold T_i_readWord
  rw [decide_eq_true h2, decide_eq_true (show 0 < ((d.length : Nat) : Int) by omega), wrap_in (n := d.getD 0 0) (by omega) (by omega), wrap_in (n := d.getD 1 0) (by omega) (by omega)]
  have e : bor .i64 (shlI .i64 (d.getD 0 0) 8) (d.getD 1 0) = atD d 0 := by
    have q := bor_word (a := (d.getD 0 0).toNat) (b := (d.getD 1 0).toNat) (by omega) (by omega)
    rw [Int.toNat_of_nonneg a.1, Int.toNat_of_nonneg b.1] at q
    rw [q]
    show _ = 256 * d.getD 0 0 + d.getD 1 0
    omega
  rw [e]; rfl
theorem okS_i_readWord : OkFn prog I N.i_readWord true S_i_readWord := okN (ok_fn mem0 (l := []) (p := pl_i_readWord) (ls := []) (lend := []) (focus := false) (fuel := 0) (give := []) (fn := F.i_readWord) (by kernel_rfl) (by kernel_rfl) (by kernel_rfl) (by kernel_rfl) (cs := []) (by kernel_rfl) loops0) (S_fnR_of fun d K h => (e_i_readWord d.1 K).trans (v_i_readWord d.1 h K))
end Go.Ev.Seat
end
section
/- slices_Clone_bytes_byte: its contract. -/
namespace Go.Ev.Seat
open Go.RowKit
set_option maxRecDepth 100000
set_option linter.unusedVariables false
set_option linter.unusedSimpArgs false
noncomputable abbrev E_slices_Clone_bytes_byte : Env := En [] [] [] [] false 0 []
noncomputable def T_slices_Clone_bytes_byte (l : List Int) (K : Ret → Option Ret) : Option Ret := (bif (Nat.beq (List.length l) 0) then (meet (K ((.l .deep bytesR ([] : List Int)), [])) ((bif (Nat.ble (((List.length ([] : List Int)) + (List.length l)) * 1) 140737488355328) then K ((.l .deep bytesR (([] : List Int) ++ l)), []) else none))) else (bif (Nat.ble (((List.length ([] : List Int)) + (List.length l)) * 1) 140737488355328) then K ((.l .deep bytesR (([] : List Int) ++ l)), []) else none))
theorem e_slices_Clone_bytes_byte (l : List Int) (K : Ret → Option Ret) : evF E_slices_Clone_bytes_byte true F.slices_Clone_bytes_byte [.l .no bytesR l] K = T_slices_Clone_bytes_byte l K := by kernel_rfl
def S_slices_Clone_bytes_byte : Sm := S_fnR [.l bytesR] (fun d => Cc.lim (Cc.sl bytesR) d.1) (fun d => (.l .deep bytesR d.1, []))
theorem v_slices_Clone_bytes_byte (l : List Int) (h : (Cc.lim (Cc.sl bytesR) l) = true) (K : Ret → Option Ret) : T_slices_Clone_bytes_byte l K = K (.l .deep bytesR l, []) := by
  have h1 : l.length ≤ 1048576 := by
    simp only [Cc.lim, Bool.and_eq_true] at h
    exact Nat.le_of_ble_eq_true h.1
  unfold T_slices_Clone_bytes_byte
  rw [Nat.ble_eq_true_of_le (by simp; omega)]
  cases l with
  | nil => exact meet_self _
  | cons x xs => rfl
theorem okS_slices_Clone_bytes_byte : OkFn prog I N.slices_Clone_bytes_byte true S_slices_Clone_bytes_byte := okN (ok_fn mem0 (l := []) (p := []) (ls := []) (lend := []) (focus := false) (fuel := 0) (give := []) (fn := F.slices_Clone_bytes_byte) (by kernel_rfl) (by kernel_rfl) (by kernel_rfl) (by kernel_rfl) (cs := []) (by kernel_rfl) loops0) (S_fnR_of fun d K h => (e_slices_Clone_bytes_byte d.1 K).trans (v_slices_Clone_bytes_byte d.1 h K))
end Go.Ev.Seat
end
section
/- i_reqParse: its contract. -/
namespace Go.Ev.Seat
open Go.RowKit
set_option maxRecDepth 100000
set_option linter.unusedVariables false
set_option linter.unusedSimpArgs false
noncomputable abbrev pl_i_reqParse : List (Nat × Plan × List Nat) := [(3, takeB [0, 1, 2, 3, 4, 5, 6, 7, 8, 9, 11, 12, 14, 15, 17, 18] (.fork (.more 10 (.fork (.more 13 (.fork (.more 16 (.fork (.more 19 (takeB [20] (.fork (.one 21 (.fork (.one 22 (.done)))))) (.one 21 (.fork (.one 19 (takeB [20] (.fork (.one 22 (.done))))))))) (.one 21 (.fork (.one 16 (.fork (.one 19 (takeB [20] (.fork (.one 22 (.done))))))))))) (.one 21 (.fork (.one 13 (.fork (.one 16 (.fork (.one 19 (takeB [20] (.fork (.one 22 (.done))))))))))))) (.one 21 (.fork (.one 10 (.fork (.one 13 (.fork (.one 16 (.fork (.one 19 (takeB [20] (.fork (.one 22 (.done))))))))))))))), [])]
noncomputable abbrev ls_i_reqParse : List (Nat × Bool × Sm) := [(N.i_readWord, true, S_i_readWord), (N.slices_Clone_bytes_byte, true, S_slices_Clone_bytes_byte), (N.i_isReq, true, S_i_isReq)]
noncomputable abbrev E_i_reqParse : Env := En ls_i_reqParse pl_i_reqParse [] [] false 0 []
noncomputable def T_i_reqParse (d : List Int) (K : Ret → Option Ret) : Option Ret := (bif (decide ((((List.length d) : Nat) : Int) < (9 : Int))) then K ((.t [(.a [(.s (.int .i64 (0 : Int))), (.s (.int .i64 (0 : Int))), (.s (.int .i64 (0 : Int))), (.s (.int .i64 (0 : Int))), (.s (.int .i64 (0 : Int))), (.l .deep bytesR ([] : List Int))]), (.s (.bool false))]), []) else (bif (decide ((8 : Int) < (((List.length d) : Nat) : Int))) then (bif ((((List.length d) : Nat) : Int) != (IntKind.wrap .i64 ((9 : Int) + (IntKind.wrap .i64 (List.getD d 8 (0 : Int)))))) then K ((.t [(.a [(.s (.int .i64 (0 : Int))), (.s (.int .i64 (0 : Int))), (.s (.int .i64 (0 : Int))), (.s (.int .i64 (0 : Int))), (.s (.int .i64 (0 : Int))), (.l .deep bytesR ([] : List Int))]), (.s (.bool false))]), []) else (bif (decide ((0 : Int) < (((List.length d) : Nat) : Int))) then (bif (decide ((1 : Int) < (((List.length d) : Nat) : Int))) then (bif (decide ((2 : Int) ≤ (((List.length d) : Nat) : Int))) then (bif (decide ((4 : Int) ≤ (((List.length d) : Nat) : Int))) then (bif (decide ((6 : Int) ≤ (((List.length d) : Nat) : Int))) then (bif (decide ((9 : Int) ≤ (((List.length d) : Nat) : Int))) then (meet ((bif ((fitB (List.drop 2 d)) && (decide ((1 : Int) < (((List.length (List.drop 2 d)) : Nat) : Int)))) then (meet ((bif ((fitB (List.drop 4 d)) && (decide ((1 : Int) < (((List.length (List.drop 4 d)) : Nat) : Int)))) then (meet ((bif ((fitB (List.drop 6 d)) && (decide ((1 : Int) < (((List.length (List.drop 6 d)) : Nat) : Int)))) then (meet ((bif (Cc.lim (Cc.sl bytesR) (List.drop 9 d)) then (bif (fitB (List.drop 9 d)) then (bif (!(reqOkD ((IntKind.wrap .i64 (List.getD d 0 (0 : Int))), ((IntKind.wrap .i64 (List.getD d 1 (0 : Int))), ((atD (List.drop 2 d) (0 : Int)), ((atD (List.drop 4 d) (0 : Int)), ((atD (List.drop 6 d) (0 : Int)), (List.drop 9 d)))))))) then K ((.t [(.a [(.s (.int .i64 (0 : Int))), (.s (.int .i64 (0 : Int))), (.s (.int .i64 (0 : Int))), (.s (.int .i64 (0 : Int))), (.s (.int .i64 (0 : Int))), (.l .deep bytesR ([] : List Int))]), (.s (.bool false))]), []) else K ((.t [(.a [(.s (.int .i64 (IntKind.wrap .i64 (List.getD d 0 (0 : Int))))), (.s (.int .i64 (IntKind.wrap .i64 (List.getD d 1 (0 : Int))))), (.s (.int .i64 (atD (List.drop 2 d) (0 : Int)))), (.s (.int .i64 (atD (List.drop 4 d) (0 : Int)))), (.s (.int .i64 (atD (List.drop 6 d) (0 : Int)))), (.l .deep bytesR (List.drop 9 d))]), (.s (.bool true))]), [])) else none) else none)) ((bif (Cc.lim (Cc.sl bytesR) (List.drop 9 d)) then (bif (fitB (List.drop 9 d)) then (bif (!(reqOkD ((IntKind.wrap .i64 (List.getD d 0 (0 : Int))), ((IntKind.wrap .i64 (List.getD d 1 (0 : Int))), ((atD (List.drop 2 d) (0 : Int)), ((atD (List.drop 4 d) (0 : Int)), ((atD (List.drop 6 d) (0 : Int)), (List.drop 9 d)))))))) then K ((.t [(.a [(.s (.int .i64 (0 : Int))), (.s (.int .i64 (0 : Int))), (.s (.int .i64 (0 : Int))), (.s (.int .i64 (0 : Int))), (.s (.int .i64 (0 : Int))), (.l .deep bytesR ([] : List Int))]), (.s (.bool false))]), []) else K ((.t [(.a [(.s (.int .i64 (IntKind.wrap .i64 (List.getD d 0 (0 : Int))))), (.s (.int .i64 (IntKind.wrap .i64 (List.getD d 1 (0 : Int))))), (.s (.int .i64 (atD (List.drop 2 d) (0 : Int)))), (.s (.int .i64 (atD (List.drop 4 d) (0 : Int)))), (.s (.int .i64 (atD (List.drop 6 d) (0 : Int)))), (.l .deep bytesR (List.drop 9 d))]), (.s (.bool true))]), [])) else none) else none))) else none)) ((bif ((fitB (List.drop 6 d)) && (decide ((1 : Int) < (((List.length (List.drop 6 d)) : Nat) : Int)))) then (bif (Cc.lim (Cc.sl bytesR) (List.drop 9 d)) then (bif (fitB (List.drop 9 d)) then (bif (!(reqOkD ((IntKind.wrap .i64 (List.getD d 0 (0 : Int))), ((IntKind.wrap .i64 (List.getD d 1 (0 : Int))), ((atD (List.drop 2 d) (0 : Int)), ((atD (List.drop 4 d) (0 : Int)), ((atD (List.drop 6 d) (0 : Int)), (List.drop 9 d)))))))) then K ((.t [(.a [(.s (.int .i64 (0 : Int))), (.s (.int .i64 (0 : Int))), (.s (.int .i64 (0 : Int))), (.s (.int .i64 (0 : Int))), (.s (.int .i64 (0 : Int))), (.l .deep bytesR ([] : List Int))]), (.s (.bool false))]), []) else K ((.t [(.a [(.s (.int .i64 (IntKind.wrap .i64 (List.getD d 0 (0 : Int))))), (.s (.int .i64 (IntKind.wrap .i64 (List.getD d 1 (0 : Int))))), (.s (.int .i64 (atD (List.drop 2 d) (0 : Int)))), (.s (.int .i64 (atD (List.drop 4 d) (0 : Int)))), (.s (.int .i64 (atD (List.drop 6 d) (0 : Int)))), (.l .deep bytesR (List.drop 9 d))]), (.s (.bool true))]), [])) else none) else none) else none))) else none)) ((bif ((fitB (List.drop 4 d)) && (decide ((1 : Int) < (((List.length (List.drop 4 d)) : Nat) : Int)))) then (bif ((fitB (List.drop 6 d)) && (decide ((1 : Int) < (((List.length (List.drop 6 d)) : Nat) : Int)))) then (bif (Cc.lim (Cc.sl bytesR) (List.drop 9 d)) then (bif (fitB (List.drop 9 d)) then (bif (!(reqOkD ((IntKind.wrap .i64 (List.getD d 0 (0 : Int))), ((IntKind.wrap .i64 (List.getD d 1 (0 : Int))), ((atD (List.drop 2 d) (0 : Int)), ((atD (List.drop 4 d) (0 : Int)), ((atD (List.drop 6 d) (0 : Int)), (List.drop 9 d)))))))) then K ((.t [(.a [(.s (.int .i64 (0 : Int))), (.s (.int .i64 (0 : Int))), (.s (.int .i64 (0 : Int))), (.s (.int .i64 (0 : Int))), (.s (.int .i64 (0 : Int))), (.l .deep bytesR ([] : List Int))]), (.s (.bool false))]), []) else K ((.t [(.a [(.s (.int .i64 (IntKind.wrap .i64 (List.getD d 0 (0 : Int))))), (.s (.int .i64 (IntKind.wrap .i64 (List.getD d 1 (0 : Int))))), (.s (.int .i64 (atD (List.drop 2 d) (0 : Int)))), (.s (.int .i64 (atD (List.drop 4 d) (0 : Int)))), (.s (.int .i64 (atD (List.drop 6 d) (0 : Int)))), (.l .deep bytesR (List.drop 9 d))]), (.s (.bool true))]), [])) else none) else none) else none) else none))) else none)) ((bif ((fitB (List.drop 2 d)) && (decide ((1 : Int) < (((List.length (List.drop 2 d)) : Nat) : Int)))) then (bif ((fitB (List.drop 4 d)) && (decide ((1 : Int) < (((List.length (List.drop 4 d)) : Nat) : Int)))) then (bif ((fitB (List.drop 6 d)) && (decide ((1 : Int) < (((List.length (List.drop 6 d)) : Nat) : Int)))) then (bif (Cc.lim (Cc.sl bytesR) (List.drop 9 d)) then (bif (fitB (List.drop 9 d)) then (bif (!(reqOkD ((IntKind.wrap .i64 (List.getD d 0 (0 : Int))), ((IntKind.wrap .i64 (List.getD d 1 (0 : Int))), ((atD (List.drop 2 d) (0 : Int)), ((atD (List.drop 4 d) (0 : Int)), ((atD (List.drop 6 d) (0 : Int)), (List.drop 9 d)))))))) then K ((.t [(.a [(.s (.int .i64 (0 : Int))), (.s (.int .i64 (0 : Int))), (.s (.int .i64 (0 : Int))), (.s (.int .i64 (0 : Int))), (.s (.int .i64 (0 : Int))), (.l .deep bytesR ([] : List Int))]), (.s (.bool false))]), []) else K ((.t [(.a [(.s (.int .i64 (IntKind.wrap .i64 (List.getD d 0 (0 : Int))))), (.s (.int .i64 (IntKind.wrap .i64 (List.getD d 1 (0 : Int))))), (.s (.int .i64 (atD (List.drop 2 d) (0 : Int)))), (.s (.int .i64 (atD (List.drop 4 d) (0 : Int)))), (.s (.int .i64 (atD (List.drop 6 d) (0 : Int)))), (.l .deep bytesR (List.drop 9 d))]), (.s (.bool true))]), [])) else none) else none) else none) else none) else none))) else none) else none) else none) else none) else none) else none)) else none))
theorem e_i_reqParse (d : List Int) (K : Ret → Option Ret) : evF E_i_reqParse true F.i_reqParse [.l .no bytesR d] K = T_i_reqParse d K := by kernel_rfl
def S_i_reqParse : Sm := S_fnR [.l bytesR] (fun d => fitB d.1) (fun d => (.t [.a (reqR.cells .deep (reqParseD d.1).1), bl (reqParseD d.1).2], []))
theorem v_i_reqParse (d : List Int) (h : (fitB d) = true) (K : Ret → Option Ret) : T_i_reqParse d K = K (.t [.a (reqR.cells .deep (reqParseD d).1), bl (reqParseD d).2], []) := by
  have hl := fitB_len h
  unfold T_i_reqParse reqParseD
  by_cases h9 : ((d.length : Nat) : Int) < 9
  · rw [decide_eq_true h9]; rfl
  have b0 := fitB_getD h 0
  have b1 := fitB_getD h 1
  have b8 := fitB_getD h 8
  have e9 : ∀ {p : Prop} [Decidable p], p → decide p = true := fun hp => decide_eq_true hp
  rw [decide_eq_false h9, wrap_in (n := d.getD 8 0) (by omega) (by omega), wrap_in (n := 9 + d.getD 8 0) (by omega) (by omega)]
  simp (disch := omega) only [decide_eq_true (show (8 : Int) < ((d.length : Nat) : Int) by omega), decide_eq_true (show (0 : Int) < ((d.length : Nat) : Int) by omega), decide_eq_true (show (1 : Int) < ((d.length : Nat) : Int) by omega), decide_eq_true (show (2 : Int) ≤ ((d.length : Nat) : Int) by omega), decide_eq_true (show (4 : Int) ≤ ((d.length : Nat) : Int) by omega), decide_eq_true (show (6 : Int) ≤ ((d.length : Nat) : Int) by omega), decide_eq_true (show (9 : Int) ≤ ((d.length : Nat) : Int) by omega), fitB_drop h, bytes_lim (fitB_len (fitB_drop h 9)), cond_true, Bool.true_and,
    decide_eq_true (show (1 : Int) < (((d.drop 2).length : Nat) : Int) by simp only [List.length_drop]; omega), decide_eq_true (show (1 : Int) < (((d.drop 4).length : Nat) : Int) by simp only [List.length_drop]; omega), decide_eq_true (show (1 : Int) < (((d.drop 6).length : Nat) : Int) by simp only [List.length_drop]; omega), meet_self,
    wrap_in (n := d.getD 0 0) (by omega) (by omega), wrap_in (n := d.getD 1 0) (by omega) (by omega)]
  have e2 : (d.getD 0 0, d.getD 1 0, atD (d.drop 2) 0, atD (d.drop 4) 0, atD (d.drop 6) 0, d.drop 9) = reqOf d := by
    unfold reqOf atD
    simp only [getD_drop]; rfl
  have e3 : (((d.length : Nat) : Int) != 9 + d.getD 8 0) = !decide (((d.length : Nat) : Int) = 9 + d.getD 8 0) := rfl
  rw [e3]
  have e4 : ∀ K' : V → Option Ret, True := fun _ => trivial
  rw [show atD (d.drop 2) 0 = atD d 2 from congrArg (fun r : P6 => r.2.2.1) e2, show atD (d.drop 4) 0 = atD d 4 from congrArg (fun r : P6 => r.2.2.2.1) e2, show atD (d.drop 6) 0 = atD d 6 from congrArg (fun r : P6 => r.2.2.2.2.1) e2]
  show (bif !decide _ then _ else bif !(reqOkD (reqOf d)) then _ else _) = _
  cases decide (((d.length : Nat) : Int) = 9 + d.getD 8 0) <;> cases reqOkD (reqOf d) <;> rfl
theorem okS_i_reqParse : OkFn prog I N.i_reqParse true S_i_reqParse := okN (ok_fn (memc okS_i_readWord (memc okS_slices_Clone_bytes_byte (memc okS_i_isReq mem0))) (l := ls_i_reqParse) (p := pl_i_reqParse) (ls := []) (lend := []) (focus := false) (fuel := 0) (give := []) (fn := F.i_reqParse) (by kernel_rfl) (by kernel_rfl) (by kernel_rfl) (by kernel_rfl) (cs := []) (by kernel_rfl) loops0) (S_fnR_of fun d K h => (e_i_reqParse d.1 K).trans (v_i_reqParse d.1 h K))
end Go.Ev.Seat
end
section
/- i_ReqParse: its contract. -/
namespace Go.Ev.Seat
open Go.RowKit
set_option maxRecDepth 100000
set_option linter.unusedVariables false
set_option linter.unusedSimpArgs false
noncomputable abbrev ls_i_ReqParse : List (Nat × Bool × Sm) := [(N.i_reqParse, true, S_i_reqParse)]
noncomputable abbrev E_i_ReqParse : Env := En ls_i_ReqParse [] [] [] false 0 []
noncomputable def T_i_ReqParse (d : List Int) (K : Ret → Option Ret) : Option Ret := (bif (fitB d) then K ((.t [(.a [(.s (.int .i64 (reqParseD d).1.1)), (.s (.int .i64 (reqParseD d).1.2.1)), (.s (.int .i64 (reqParseD d).1.2.2.1)), (.s (.int .i64 (reqParseD d).1.2.2.2.1)), (.s (.int .i64 (reqParseD d).1.2.2.2.2.1)), (.l .deep bytesR (reqParseD d).1.2.2.2.2.2)]), (.s (.bool (reqParseD d).2))]), []) else none)
theorem e_i_ReqParse (d : List Int) (K : Ret → Option Ret) : evF E_i_ReqParse true F.i_ReqParse [.l .no bytesR d] K = T_i_ReqParse d K := by kernel_rfl
def S_i_ReqParse : Sm := S_fnR [.l bytesR] (fun d => fitB d.1) (fun d => (.t [.a (reqR.cells .deep (reqParseD d.1).1), bl (reqParseD d.1).2], []))
theorem v_i_ReqParse (d : List Int) (h : (fitB d) = true) (K : Ret → Option Ret) : T_i_ReqParse d K = K (.t [.a (reqR.cells .deep (reqParseD d).1), bl (reqParseD d).2], []) := by
  unfold T_i_ReqParse
  rw [h]; rfl
theorem okS_i_ReqParse : OkFn prog I N.i_ReqParse true S_i_ReqParse := okN (ok_fn (memc okS_i_reqParse mem0) (l := ls_i_ReqParse) (p := []) (ls := []) (lend := []) (focus := false) (fuel := 0) (give := []) (fn := F.i_ReqParse) (by kernel_rfl) (by kernel_rfl) (by kernel_rfl) (by kernel_rfl) (cs := []) (by kernel_rfl) loops0) (S_fnR_of fun d K h => (e_i_ReqParse d.1 K).trans (v_i_ReqParse d.1 h K))
end Go.Ev.Seat
end
section
/- l_sameReq: its contract. -/
namespace Go.Ev.Seat
open Go.RowKit
set_option maxRecDepth 100000
set_option linter.unusedVariables false
set_option linter.unusedSimpArgs false
noncomputable abbrev E_l_sameReq : Env := En [] [] [] [] false 0 []
noncomputable def T_l_sameReq (a : T_Req) (b : T_Req) (K : Ret → Option Ret) : Option Ret := (bif (a.1 == b.1) then (bif (a.2.1 == b.2.1) then (bif (a.2.2.1 == b.2.2.1) then (bif (a.2.2.2.1 == b.2.2.2.1) then (bif (a.2.2.2.2.1 == b.2.2.2.2.1) then K ((.s (.bool ((ByteArray.toList (bstr a.2.2.2.2.2)) == (ByteArray.toList (bstr b.2.2.2.2.2))))), []) else K ((.s (.bool false)), [])) else K ((.s (.bool false)), [])) else K ((.s (.bool false)), [])) else K ((.s (.bool false)), [])) else K ((.s (.bool false)), []))
theorem e_l_sameReq (a : T_Req) (b : T_Req) (K : Ret → Option Ret) : evF E_l_sameReq true F.l_sameReq [.a (reqR.cells .no a), .a (reqR.cells .no b)] K = T_l_sameReq a b K := by kernel_rfl
def S_l_sameReq : Sm := S_fnR [.a reqR, .a reqR] (fun d => fitB d.1.2.2.2.2.2 && fitB d.2.1.2.2.2.2.2) (fun d => (bl (reqEqD d.1 d.2.1), []))
theorem v_l_sameReq (a : T_Req) (b : T_Req) (h : (fitB a.2.2.2.2.2 && fitB b.2.2.2.2.2) = true) (K : Ret → Option Ret) : T_l_sameReq a b K = K (bl (reqEqD a b), []) := by
  obtain ⟨h1, h2⟩ := (Bool.and_eq_true _ _).mp h
  unfold T_l_sameReq reqEqD
  rw [bstr_eq (fun x hx => fitB_mem h1 hx) (fun x hx => fitB_mem h2 hx)]
  cases (a.1 == b.1) <;> cases (a.2.1 == b.2.1) <;> cases (a.2.2.1 == b.2.2.1) <;> cases (a.2.2.2.1 == b.2.2.2.1) <;> cases (a.2.2.2.2.1 == b.2.2.2.2.1) <;> rfl
theorem okS_l_sameReq : OkFn prog I N.l_sameReq true S_l_sameReq := okN (ok_fn mem0 (l := []) (p := []) (ls := []) (lend := []) (focus := false) (fuel := 0) (give := []) (fn := F.l_sameReq) (by kernel_rfl) (by kernel_rfl) (by kernel_rfl) (by kernel_rfl) (cs := []) (by kernel_rfl) loops0) (S_fnR_of fun d K h => (e_l_sameReq d.1 d.2.1 K).trans (v_l_sameReq d.1 d.2.1 h K))
end Go.Ev.Seat
end
section
/- Requests and replies, written and read back. -/
set_option linter.unusedVariables false
set_option linter.unusedSimpArgs false
namespace Go.Ev
open Go.RowKit
/-- The reply that lies in the bytes. -/
def replyOf (d : List Int) : P4 := (d.getD 0 0, atD d 1, atD d 3, d.drop 7)
def replyReadD (d : List Int) : P4 × Bool := bif decide (((d.length : Nat) : Int) < 7) then ((0, 0, 0, []), false) else
  bif replyOkD (replyOf d) && decide (((d.length : Nat) : Int) = 7 + atD d 5) then (replyOf d, true) else ((0, 0, 0, []), false)
def replyEqD (r o : P4) : Bool := (r.1 == o.1) && (r.2.1 == o.2.1) && (r.2.2.1 == o.2.2.1) && decide (r.2.2.2 = o.2.2.2)
theorem replyEqD_self (r : P4) : replyEqD r r = true := by simp [replyEqD]
theorem reqEqD_self (r : P6) : reqEqD r r = true := by simp [reqEqD]
theorem word_back {n : Int} : 256 * (n / 256) + n % 256 = n := by omega
theorem req_back {r : P6} (hk : reqOkD r = true) : reqParseD (reqBytesD r) = (r, true) := by
  obtain ⟨k, s, a, b, c, t⟩ := r
  have e : reqBytesD (k, s, a, b, c, t) = k :: s :: (a / 256) :: (a % 256) :: (b / 256) :: (b % 256) :: (c / 256) :: (c % 256) :: ((t.length : Nat) : Int) :: t := by
    unfold reqBytesD; rw [hk]; rfl
  have e2 : reqOf (k :: s :: (a / 256) :: (a % 256) :: (b / 256) :: (b % 256) :: (c / 256) :: (c % 256) :: ((t.length : Nat) : Int) :: t) = (k, s, a, b, c, t) := by
    show (k, s, 256 * (a / 256) + a % 256, 256 * (b / 256) + b % 256, 256 * (c / 256) + c % 256, t) = _
    rw [word_back, word_back, word_back]
  rw [e]
  unfold reqParseD
  have e4 : (k :: s :: (a / 256) :: (a % 256) :: (b / 256) :: (b % 256) :: (c / 256) :: (c % 256) :: ((t.length : Nat) : Int) :: t).getD 8 0 = ((t.length : Nat) : Int) := rfl
  rw [e2, e4, hk, decide_eq_false (by simp only [List.length_cons]; omega), decide_eq_true (by simp only [List.length_cons]; omega)]
  rfl
theorem reply_back {r : P4} (hk : replyOkD r = true) : replyReadD (replyBytesD r) = (r, true) := by
  obtain ⟨k, a, b, t⟩ := r
  have e : replyBytesD (k, a, b, t) = k :: (a / 256) :: (a % 256) :: (b / 256) :: (b % 256) :: (((t.length : Nat) : Int) / 256) :: (((t.length : Nat) : Int) % 256) :: t := by
    unfold replyBytesD; rw [hk]; rfl
  have e2 : replyOf (k :: (a / 256) :: (a % 256) :: (b / 256) :: (b % 256) :: (((t.length : Nat) : Int) / 256) :: (((t.length : Nat) : Int) % 256) :: t) = (k, a, b, t) := by
    show (k, 256 * (a / 256) + a % 256, 256 * (b / 256) + b % 256, t) = _
    rw [word_back, word_back]
  have e3 : atD (k :: (a / 256) :: (a % 256) :: (b / 256) :: (b % 256) :: (((t.length : Nat) : Int) / 256) :: (((t.length : Nat) : Int) % 256) :: t) 5 = ((t.length : Nat) : Int) := by
    show 256 * (((t.length : Nat) : Int) / 256) + ((t.length : Nat) : Int) % 256 = _
    exact word_back
  rw [e]
  unfold replyReadD
  rw [e2, e3, hk, decide_eq_false (by simp only [List.length_cons]; omega), decide_eq_true (by simp only [List.length_cons]; omega)]
  rfl
theorem req_none {r : P6} (hk : reqOkD r = false) : reqBytesD r = [] := by unfold reqBytesD; rw [hk]; rfl
theorem reply_none {r : P4} (hk : replyOkD r = false) : replyBytesD r = [] := by unfold replyBytesD; rw [hk]; rfl
theorem req_pos {r : P6} : decide ((((reqBytesD r).length : Nat) : Int) > 0) = reqOkD r := by
  cases hk : reqOkD r with
  | false => rw [req_none hk]; rfl
  | true => unfold reqBytesD; rw [hk]; exact decide_eq_true (by simp only [cond_true, reqBytesL, List.length_append, List.length_cons]; omega)
theorem reply_pos {r : P4} : decide ((((replyBytesD r).length : Nat) : Int) > 0) = replyOkD r := by
  cases hk : replyOkD r with
  | false => rw [reply_none hk]; rfl
  | true => unfold replyBytesD; rw [hk]; exact decide_eq_true (by simp only [cond_true, List.length_append, List.length_cons]; omega)
theorem fit_reqBytesD {r : P6} (h : fitB r.2.2.2.2.2 = true) : fitB (reqBytesD r) = true := by
  cases hk : reqOkD r with
  | false => rw [req_none hk]; rfl
  | true =>
    refine fitB_of (by have := reqBytesD_len r; omega) ?_
    unfold reqBytesD; rw [hk]
    exact fitB_reqBytesL h hk
theorem fit_replyBytesD {r : P4} (h : fitB r.2.2.2 = true) : fitB (replyBytesD r) = true := by
  cases hk : replyOkD r with
  | false => rw [reply_none hk]; rfl
  | true =>
    refine fitB_of (by have := replyBytesD_len r; omega) ?_
    unfold replyBytesD; rw [hk]
    unfold replyOkD at hk
    simp only [Bool.and_eq_true, decide_eq_true_eq] at hk
    obtain ⟨⟨⟨⟨⟨a0, a1⟩, q1⟩, q2⟩, q3⟩, _⟩ := hk
    have l1 := (textOk_iff.1 q3).1
    intro x hx
    simp only [cond_true, List.mem_append, List.mem_cons, List.not_mem_nil, or_false] at hx
    rcases hx with (((rfl | hx) | hx) | hx) | hx
    · omega
    · exact wordD_fit q1 x hx
    · exact wordD_fit q2 x hx
    · exact wordD_fit (isWordD_iff.2 (by omega)) x hx
    · exact fitB_mem h hx
end Go.Ev
end
section
/- i_ReplyRead: its contract. -/
namespace Go.Ev.Seat
open Go.RowKit
set_option maxRecDepth 100000
set_option linter.unusedVariables false
set_option linter.unusedSimpArgs false
noncomputable abbrev pl_i_ReplyRead : List (Nat × Plan × List Nat) := [(3, takeB [0, 1, 2, 3, 4, 5, 7, 8, 10, 11] (.fork (.more 6 (.fork (.more 9 (.fork (.more 12 (takeB [13] (.fork (.one 14 (.fork (.one 15 (.done)))))) (.one 14 (.fork (.one 12 (takeB [13] (.fork (.one 15 (.done))))))))) (.one 14 (.fork (.one 9 (.fork (.one 12 (takeB [13] (.fork (.one 15 (.done))))))))))) (.one 14 (.fork (.one 6 (.fork (.one 9 (.fork (.one 12 (takeB [13] (.fork (.one 15 (.done))))))))))))), [])]
noncomputable abbrev ls_i_ReplyRead : List (Nat × Bool × Sm) := [(N.i_readWord, true, S_i_readWord), (N.slices_Clone_bytes_byte, true, S_slices_Clone_bytes_byte), (N.i_isReply, true, S_i_isReply)]
noncomputable abbrev E_i_ReplyRead : Env := En ls_i_ReplyRead pl_i_ReplyRead [] [] false 0 []
noncomputable def T_i_ReplyRead (d : List Int) (K : Ret → Option Ret) : Option Ret := (bif (decide ((((List.length d) : Nat) : Int) < (7 : Int))) then K ((.t [(.a [(.s (.int .i64 (0 : Int))), (.s (.int .i64 (0 : Int))), (.s (.int .i64 (0 : Int))), (.l .deep bytesR ([] : List Int))]), (.s (.bool false))]), []) else (bif (decide ((5 : Int) ≤ (((List.length d) : Nat) : Int))) then (bif ((fitB (List.drop 5 d)) && (decide ((1 : Int) < (((List.length (List.drop 5 d)) : Nat) : Int)))) then (bif ((((List.length d) : Nat) : Int) != (IntKind.wrap .i64 ((7 : Int) + (atD (List.drop 5 d) (0 : Int))))) then K ((.t [(.a [(.s (.int .i64 (0 : Int))), (.s (.int .i64 (0 : Int))), (.s (.int .i64 (0 : Int))), (.l .deep bytesR ([] : List Int))]), (.s (.bool false))]), []) else (bif (decide ((0 : Int) < (((List.length d) : Nat) : Int))) then (bif (decide ((1 : Int) ≤ (((List.length d) : Nat) : Int))) then (bif (decide ((3 : Int) ≤ (((List.length d) : Nat) : Int))) then (bif (decide ((7 : Int) ≤ (((List.length d) : Nat) : Int))) then (meet ((bif ((fitB (List.drop 1 d)) && (decide ((1 : Int) < (((List.length (List.drop 1 d)) : Nat) : Int)))) then (meet ((bif ((fitB (List.drop 3 d)) && (decide ((1 : Int) < (((List.length (List.drop 3 d)) : Nat) : Int)))) then (meet ((bif (Cc.lim (Cc.sl bytesR) (List.drop 7 d)) then (bif (fitB (List.drop 7 d)) then (bif (!(replyOkD ((IntKind.wrap .i64 (List.getD d 0 (0 : Int))), ((atD (List.drop 1 d) (0 : Int)), ((atD (List.drop 3 d) (0 : Int)), (List.drop 7 d)))))) then K ((.t [(.a [(.s (.int .i64 (0 : Int))), (.s (.int .i64 (0 : Int))), (.s (.int .i64 (0 : Int))), (.l .deep bytesR ([] : List Int))]), (.s (.bool false))]), []) else K ((.t [(.a [(.s (.int .i64 (IntKind.wrap .i64 (List.getD d 0 (0 : Int))))), (.s (.int .i64 (atD (List.drop 1 d) (0 : Int)))), (.s (.int .i64 (atD (List.drop 3 d) (0 : Int)))), (.l .deep bytesR (List.drop 7 d))]), (.s (.bool true))]), [])) else none) else none)) ((bif (Cc.lim (Cc.sl bytesR) (List.drop 7 d)) then (bif (fitB (List.drop 7 d)) then (bif (!(replyOkD ((IntKind.wrap .i64 (List.getD d 0 (0 : Int))), ((atD (List.drop 1 d) (0 : Int)), ((atD (List.drop 3 d) (0 : Int)), (List.drop 7 d)))))) then K ((.t [(.a [(.s (.int .i64 (0 : Int))), (.s (.int .i64 (0 : Int))), (.s (.int .i64 (0 : Int))), (.l .deep bytesR ([] : List Int))]), (.s (.bool false))]), []) else K ((.t [(.a [(.s (.int .i64 (IntKind.wrap .i64 (List.getD d 0 (0 : Int))))), (.s (.int .i64 (atD (List.drop 1 d) (0 : Int)))), (.s (.int .i64 (atD (List.drop 3 d) (0 : Int)))), (.l .deep bytesR (List.drop 7 d))]), (.s (.bool true))]), [])) else none) else none))) else none)) ((bif ((fitB (List.drop 3 d)) && (decide ((1 : Int) < (((List.length (List.drop 3 d)) : Nat) : Int)))) then (bif (Cc.lim (Cc.sl bytesR) (List.drop 7 d)) then (bif (fitB (List.drop 7 d)) then (bif (!(replyOkD ((IntKind.wrap .i64 (List.getD d 0 (0 : Int))), ((atD (List.drop 1 d) (0 : Int)), ((atD (List.drop 3 d) (0 : Int)), (List.drop 7 d)))))) then K ((.t [(.a [(.s (.int .i64 (0 : Int))), (.s (.int .i64 (0 : Int))), (.s (.int .i64 (0 : Int))), (.l .deep bytesR ([] : List Int))]), (.s (.bool false))]), []) else K ((.t [(.a [(.s (.int .i64 (IntKind.wrap .i64 (List.getD d 0 (0 : Int))))), (.s (.int .i64 (atD (List.drop 1 d) (0 : Int)))), (.s (.int .i64 (atD (List.drop 3 d) (0 : Int)))), (.l .deep bytesR (List.drop 7 d))]), (.s (.bool true))]), [])) else none) else none) else none))) else none)) ((bif ((fitB (List.drop 1 d)) && (decide ((1 : Int) < (((List.length (List.drop 1 d)) : Nat) : Int)))) then (bif ((fitB (List.drop 3 d)) && (decide ((1 : Int) < (((List.length (List.drop 3 d)) : Nat) : Int)))) then (bif (Cc.lim (Cc.sl bytesR) (List.drop 7 d)) then (bif (fitB (List.drop 7 d)) then (bif (!(replyOkD ((IntKind.wrap .i64 (List.getD d 0 (0 : Int))), ((atD (List.drop 1 d) (0 : Int)), ((atD (List.drop 3 d) (0 : Int)), (List.drop 7 d)))))) then K ((.t [(.a [(.s (.int .i64 (0 : Int))), (.s (.int .i64 (0 : Int))), (.s (.int .i64 (0 : Int))), (.l .deep bytesR ([] : List Int))]), (.s (.bool false))]), []) else K ((.t [(.a [(.s (.int .i64 (IntKind.wrap .i64 (List.getD d 0 (0 : Int))))), (.s (.int .i64 (atD (List.drop 1 d) (0 : Int)))), (.s (.int .i64 (atD (List.drop 3 d) (0 : Int)))), (.l .deep bytesR (List.drop 7 d))]), (.s (.bool true))]), [])) else none) else none) else none) else none))) else none) else none) else none) else none)) else none) else none))
theorem e_i_ReplyRead (d : List Int) (K : Ret → Option Ret) : evF E_i_ReplyRead true F.i_ReplyRead [.l .no bytesR d] K = T_i_ReplyRead d K := by kernel_rfl
def S_i_ReplyRead : Sm := S_fnR [.l bytesR] (fun d => fitB d.1) (fun d => (.t [.a (replyR.cells .deep (replyReadD d.1).1), bl (replyReadD d.1).2], []))
theorem v_i_ReplyRead (d : List Int) (h : (fitB d) = true) (K : Ret → Option Ret) : T_i_ReplyRead d K = K (.t [.a (replyR.cells .deep (replyReadD d).1), bl (replyReadD d).2], []) := by
  have hl := fitB_len h
  unfold T_i_ReplyRead replyReadD
  by_cases h9 : ((d.length : Nat) : Int) < 7
  · rw [decide_eq_true h9]; rfl
  have b0 := fitB_getD h 0
  have b5 := fitB_getD h 5
  have b6 := fitB_getD h 6
  have e5 : atD (d.drop 5) 0 = atD d 5 := by unfold atD; simp only [getD_drop]; rfl
  have r5 : 0 ≤ atD d 5 ∧ atD d 5 ≤ 65535 := by
    have : atD d 5 = 256 * d.getD 5 0 + d.getD 6 0 := rfl
    omega
  rw [e5, decide_eq_false h9, wrap_in (n := 7 + atD d 5) (by omega) (by omega)]
  simp (disch := omega) only [decide_eq_true (show (0 : Int) < ((d.length : Nat) : Int) by omega), decide_eq_true (show (1 : Int) ≤ ((d.length : Nat) : Int) by omega), decide_eq_true (show (3 : Int) ≤ ((d.length : Nat) : Int) by omega), decide_eq_true (show (5 : Int) ≤ ((d.length : Nat) : Int) by omega), decide_eq_true (show (7 : Int) ≤ ((d.length : Nat) : Int) by omega), fitB_drop h, bytes_lim (fitB_len (fitB_drop h 7)), cond_true, Bool.true_and,
    decide_eq_true (show (1 : Int) < (((d.drop 1).length : Nat) : Int) by simp only [List.length_drop]; omega), decide_eq_true (show (1 : Int) < (((d.drop 3).length : Nat) : Int) by simp only [List.length_drop]; omega), decide_eq_true (show (1 : Int) < (((d.drop 5).length : Nat) : Int) by simp only [List.length_drop]; omega), meet_self,
    wrap_in (n := d.getD 0 0) (by omega) (by omega)]
  have e2 : (d.getD 0 0, atD (d.drop 1) 0, atD (d.drop 3) 0, d.drop 7) = replyOf d := by
    unfold replyOf atD
    simp only [getD_drop]; rfl
  have e3 : (((d.length : Nat) : Int) != 7 + atD d 5) = !decide (((d.length : Nat) : Int) = 7 + atD d 5) := rfl
  rw [e3]
  rw [show atD (d.drop 1) 0 = atD d 1 from congrArg (fun r : P4 => r.2.1) e2, show atD (d.drop 3) 0 = atD d 3 from congrArg (fun r : P4 => r.2.2.1) e2]
  show (bif !decide _ then _ else bif !(replyOkD (replyOf d)) then _ else _) = _
  cases decide (((d.length : Nat) : Int) = 7 + atD d 5) <;> cases replyOkD (replyOf d) <;> rfl
theorem okS_i_ReplyRead : OkFn prog I N.i_ReplyRead true S_i_ReplyRead := okN (ok_fn (memc okS_i_readWord (memc okS_slices_Clone_bytes_byte (memc okS_i_isReply mem0))) (l := ls_i_ReplyRead) (p := pl_i_ReplyRead) (ls := []) (lend := []) (focus := false) (fuel := 0) (give := []) (fn := F.i_ReplyRead) (by kernel_rfl) (by kernel_rfl) (by kernel_rfl) (by kernel_rfl) (cs := []) (by kernel_rfl) loops0) (S_fnR_of fun d K h => (e_i_ReplyRead d.1 K).trans (v_i_ReplyRead d.1 h K))
end Go.Ev.Seat
end
section
/- l_sameReply: its contract. -/
namespace Go.Ev.Seat
open Go.RowKit
set_option maxRecDepth 100000
set_option linter.unusedVariables false
set_option linter.unusedSimpArgs false
noncomputable abbrev E_l_sameReply : Env := En [] [] [] [] false 0 []
noncomputable def T_l_sameReply (a : T_Reply) (b : T_Reply) (K : Ret → Option Ret) : Option Ret := (bif (a.1 == b.1) then (bif (a.2.1 == b.2.1) then (bif (a.2.2.1 == b.2.2.1) then K ((.s (.bool ((ByteArray.toList (bstr a.2.2.2)) == (ByteArray.toList (bstr b.2.2.2))))), []) else K ((.s (.bool false)), [])) else K ((.s (.bool false)), [])) else K ((.s (.bool false)), []))
theorem e_l_sameReply (a : T_Reply) (b : T_Reply) (K : Ret → Option Ret) : evF E_l_sameReply true F.l_sameReply [.a (replyR.cells .no a), .a (replyR.cells .no b)] K = T_l_sameReply a b K := by kernel_rfl
def S_l_sameReply : Sm := S_fnR [.a replyR, .a replyR] (fun d => fitB d.1.2.2.2 && fitB d.2.1.2.2.2) (fun d => (bl (replyEqD d.1 d.2.1), []))
theorem v_l_sameReply (a : T_Reply) (b : T_Reply) (h : (fitB a.2.2.2 && fitB b.2.2.2) = true) (K : Ret → Option Ret) : T_l_sameReply a b K = K (bl (replyEqD a b), []) := by
  obtain ⟨h1, h2⟩ := (Bool.and_eq_true _ _).mp h
  unfold T_l_sameReply replyEqD
  rw [bstr_eq (fun x hx => fitB_mem h1 hx) (fun x hx => fitB_mem h2 hx)]
  cases (a.1 == b.1) <;> cases (a.2.1 == b.2.1) <;> cases (a.2.2.1 == b.2.2.1) <;> rfl
theorem okS_l_sameReply : OkFn prog I N.l_sameReply true S_l_sameReply := okN (ok_fn mem0 (l := []) (p := []) (ls := []) (lend := []) (focus := false) (fuel := 0) (give := []) (fn := F.l_sameReply) (by kernel_rfl) (by kernel_rfl) (by kernel_rfl) (by kernel_rfl) (cs := []) (by kernel_rfl) loops0) (S_fnR_of fun d K h => (e_l_sameReply d.1 d.2.1 K).trans (v_l_sameReply d.1 d.2.1 h K))
end Go.Ev.Seat
end
section
/- l_FnReqBack: its contract. -/
namespace Go.Ev.Seat
open Go.RowKit
set_option maxRecDepth 100000
set_option linter.unusedVariables false
set_option linter.unusedSimpArgs false
noncomputable abbrev ls_l_FnReqBack : List (Nat × Bool × Sm) := [(N.l_big, true, S_l_big), (N.s_DrawReqBytes, false, (SB_s_DrawReqBytes B_s_DrawReqBytes)), (N.i_ReqBytes, true, S_i_ReqBytes), (N.s_DrawReplyBytes, false, (SB_s_DrawReplyBytes B_s_DrawReplyBytes)), (N.i_ReplyBytes, true, S_i_ReplyBytes), (N.s_ReqOk, true, S_s_ReqOk), (N.s_ReplyOk, true, S_s_ReplyOk), (N.l_bytesOf, true, S_l_bytesOf), (N.i_ReqParse, true, S_i_ReqParse), (N.l_sameReq, true, S_l_sameReq), (N.i_ReplyRead, true, S_i_ReplyRead), (N.l_sameReply, true, S_l_sameReply)]
noncomputable abbrev E_l_FnReqBack : Env := En ls_l_FnReqBack [] [] [] false 0 []
noncomputable def T_l_FnReqBack (code : List Int) (K : Ret → Option Ret) : Option Ret := (bif (decide ((((List.length code) : Nat) : Int) > (1048576 : Int))) then K ((.s (.bool true)), []) else (B_s_DrawReqBytes code (fun y0 y1 y2 y3 y4 y5 => (bif (fitB y5) then (B_s_DrawReplyBytes code (fun y6 y7 y8 y9 => (bif (fitB y9) then (bif (fitB y5) then (bif (!((decide ((((List.length (reqBytesD (y0, (y1, (y2, (y3, (y4, y5))))))) : Nat) : Int) > (0 : Int))) == (reqOkD (y0, (y1, (y2, (y3, (y4, y5)))))))) then K ((.s (.bool false)), []) else (bif (fitB y9) then (bif (!((decide ((((List.length (replyBytesD (y6, (y7, (y8, y9))))) : Nat) : Int) > (0 : Int))) == (replyOkD (y6, (y7, (y8, y9)))))) then K ((.s (.bool false)), []) else (bif (decide ((((List.length (reqBytesD (y0, (y1, (y2, (y3, (y4, y5))))))) : Nat) : Int) > (0 : Int))) then (bif (fitB (reqBytesD (y0, (y1, (y2, (y3, (y4, y5))))))) then (bif (fitB (reqBytesD (y0, (y1, (y2, (y3, (y4, y5))))))) then (bif (!(reqParseD (reqBytesD (y0, (y1, (y2, (y3, (y4, y5))))))).2) then K ((.s (.bool false)), []) else (bif ((fitB (reqParseD (reqBytesD (y0, (y1, (y2, (y3, (y4, y5))))))).1.2.2.2.2.2) && (fitB y5)) then (bif (!(reqEqD (reqParseD (reqBytesD (y0, (y1, (y2, (y3, (y4, y5))))))).1 (y0, (y1, (y2, (y3, (y4, y5))))))) then K ((.s (.bool false)), []) else (bif (decide ((((List.length (replyBytesD (y6, (y7, (y8, y9))))) : Nat) : Int) > (0 : Int))) then (bif (fitB (replyBytesD (y6, (y7, (y8, y9))))) then (bif (fitB (replyBytesD (y6, (y7, (y8, y9))))) then (bif (!(replyReadD (replyBytesD (y6, (y7, (y8, y9))))).2) then K ((.s (.bool false)), []) else (bif ((fitB (replyReadD (replyBytesD (y6, (y7, (y8, y9))))).1.2.2.2) && (fitB y9)) then (bif (!(replyEqD (replyReadD (replyBytesD (y6, (y7, (y8, y9))))).1 (y6, (y7, (y8, y9))))) then K ((.s (.bool false)), []) else K ((.s (.bool true)), [])) else none)) else none) else none) else K ((.s (.bool true)), []))) else none)) else none) else none) else (bif (decide ((((List.length (replyBytesD (y6, (y7, (y8, y9))))) : Nat) : Int) > (0 : Int))) then (bif (fitB (replyBytesD (y6, (y7, (y8, y9))))) then (bif (fitB (replyBytesD (y6, (y7, (y8, y9))))) then (bif (!(replyReadD (replyBytesD (y6, (y7, (y8, y9))))).2) then K ((.s (.bool false)), []) else (bif ((fitB (replyReadD (replyBytesD (y6, (y7, (y8, y9))))).1.2.2.2) && (fitB y9)) then (bif (!(replyEqD (replyReadD (replyBytesD (y6, (y7, (y8, y9))))).1 (y6, (y7, (y8, y9))))) then K ((.s (.bool false)), []) else K ((.s (.bool true)), [])) else none)) else none) else none) else K ((.s (.bool true)), [])))) else none)) else none) else none))) else none))))
theorem e_l_FnReqBack (code : List Int) (K : Ret → Option Ret) : evF E_l_FnReqBack true F.l_FnReqBack [.l .no bytesR code] K = T_l_FnReqBack code K := by kernel_rfl
def S_l_FnReqBack : Sm := S_fnR [.l bytesR] (fun d => d.1.all isB) (fun d => (bl true, []))
theorem v_l_FnReqBack (code : List Int) (h : (code.all isB) = true) (K : Ret → Option Ret) : T_l_FnReqBack code K = K (bl true, []) := by
  unfold T_l_FnReqBack
  by_cases hc : ((code.length : Nat) : Int) > 1048576
  · rw [decide_eq_true hc]; rfl
  have hf : fitB code = true := by unfold fitB; rw [Bool.and_eq_true]; exact ⟨Nat.ble_eq_true_of_le (by omega), h⟩
  rw [decide_eq_false hc]
  obtain ⟨y0, y1, y2, y3, y4, t, ht, hk⟩ := b_s_DrawReqBytes code hf
  rw [cond_false, hk]
  obtain ⟨z0, z1, z2, u, hu, hk2⟩ := b_s_DrawReplyBytes code hf
  rw [hk2]
  have hr := fit_reqBytesD (r := (y0, (y1, (y2, (y3, (y4, t)))))) ht
  have hp := fit_replyBytesD (r := (z0, (z1, (z2, u)))) hu
  rw [req_pos, reply_pos]
  cases h1 : reqOkD (y0, (y1, (y2, (y3, (y4, t))))) <;> cases h2 : replyOkD (z0, (z1, (z2, u)))
  · simp only [ht, hu, cond_true, cond_false, beq_self_eq_true, Bool.not_true]
    rfl
  · simp only [ht, hu, hp, reply_back h2, replyEqD_self, Bool.and_self, cond_true, cond_false, beq_self_eq_true, Bool.not_true]
    rfl
  · simp only [ht, hu, hr, req_back h1, reqEqD_self, Bool.and_self, cond_true, cond_false, beq_self_eq_true, Bool.not_true]
    rfl
  · simp only [ht, hu, hr, hp, req_back h1, reqEqD_self, reply_back h2, replyEqD_self, Bool.and_self, cond_true, cond_false, beq_self_eq_true, Bool.not_true]
    rfl
theorem okS_l_FnReqBack : OkFn prog I N.l_FnReqBack true S_l_FnReqBack := okN (ok_fn (memc okS_l_big (memc okS_s_DrawReqBytes (memc okS_i_ReqBytes (memc okS_s_DrawReplyBytes (memc okS_i_ReplyBytes (memc okS_s_ReqOk (memc okS_s_ReplyOk (memc okS_l_bytesOf (memc okS_i_ReqParse (memc okS_l_sameReq (memc okS_i_ReplyRead (memc okS_l_sameReply mem0)))))))))))) (l := ls_l_FnReqBack) (p := []) (ls := []) (lend := []) (focus := false) (fuel := 0) (give := []) (fn := F.l_FnReqBack) (by kernel_rfl) (by kernel_rfl) (by kernel_rfl) (by kernel_rfl) (cs := []) (by kernel_rfl) loops0) (S_fnR_of fun d K h => (e_l_FnReqBack d.1 K).trans (v_l_FnReqBack d.1 h K))
end Go.Ev.Seat
end
section
/- The law FnReqBack: it answers true. Printed by lawrand.py. -/
namespace Go.Ev.Seat
open Go.RowKit
set_option linter.unusedVariables false
theorem ok_ReqBack (T : MText) : OkFn prog I N.l_FnReqBack true S_l_FnReqBack := okS_l_FnReqBack
theorem law_ReqBack (T : MText) (code : List Int) (K : Ret → Option Ret) (hwf : (Cc.sl bytesR).wf code) : S_l_FnReqBack [.l .no bytesR code] K = K (bl true, []) := by
  have hb : code.all isB = true := List.all_eq_true.2 (fun x hx => fitR_of bytesR x (hwf.2 x hx) rfl)
  show (bif code.all isB then K (bl true, []) else none) = _
  rw [hb]; rfl
end Go.Ev.Seat
end
section
/- Kinds of types that come in, checked by reckoning. -/
set_option linter.unusedVariables false
namespace Go.Ev
open Go.RowKit
mutual
def ccN (P : Program) : Nat → Cc → TypeId → Bool
  | 0, _, _ => false
  | n + 1, c, t => match c, P.underlying t with
    | .int k, some (.int k') => decide (k' = k)
    | .bool, some .bool => true
    | .str, some .string => true
    | .sl r, some (.slice e) => Nat.beq (P.cellsOf e) r.n && (match layN P n r.list e with
      | some [] => true
      | _ => false)
    | _, _ => false
/-- The cells of a type, taken off a list: what is left. -/
def layN (P : Program) : Nat → List Cc → TypeId → Option (List Cc)
  | 0, _, _ => none
  | n + 1, cs, t => match cs with
    | [] => none
    | c :: rest => bif ccN P n c t then some rest else match P.underlying t with
      | some (.struct fs) => fsN P n (c :: rest) 0 fs.toList
      | _ => none
def fsN (P : Program) : Nat → List Cc → Nat → List Field → Option (List Cc)
  | 0, _, _, _ => none
  | n + 1, cs, i, fs => match fs with
    | [] => some cs
    | f :: rest => bif Nat.beq f.offset i then (match layN P n cs f.type with
      | some cs' => bif Nat.beq (P.cellsOf f.type + cs'.length) cs.length then fsN P n cs' (i + P.cellsOf f.type) rest else none
      | none => none) else none
end
theorem kinds_ok {P : Program} : ∀ (n : Nat), (∀ c t, ccN P n c t = true → CcOk P c t) ∧ (∀ cs t rest, layN P n cs t = some rest → ∃ pre, cs = pre ++ rest ∧ LayOk P pre t) ∧ ∀ cs i fs rest, fsN P n cs i fs = some rest → ∃ pre, cs = pre ++ rest ∧ LayFs P pre i fs
  | 0 => ⟨fun _ _ h => by simp [ccN] at h, fun _ _ _ h => by simp [layN] at h, fun _ _ _ _ h => by simp [fsN] at h⟩
  | n + 1 => by
    obtain ⟨h1, h2, h3⟩ := kinds_ok (P := P) n
    refine ⟨fun c t h => ?_, fun cs t rest h => ?_, fun cs i fs rest h => ?_⟩
    · simp only [ccN] at h
      split at h
      · rename_i k k' hu
        have := of_decide_eq_true h
        subst this
        exact .int hu
      · rename_i hu; exact .bool hu
      · rename_i hu; exact .str hu
      · rename_i r e hu
        simp only [Bool.and_eq_true] at h
        obtain ⟨g1, g2⟩ := h
        split at g2
        · rename_i hl
          obtain ⟨pre, e1, e2⟩ := h2 _ _ _ hl
          rw [List.append_nil] at e1
          exact .sl hu (Nat.eq_of_beq_eq_true g1) (e1 ▸ e2)
        · cases g2
      · cases h
    · simp only [layN] at h
      split at h
      · cases h
      · rename_i c rest'
        cases hc : ccN P n c t with
        | true =>
          rw [hc] at h
          cases h
          exact ⟨[c], rfl, .one (h1 _ _ hc)⟩
        | false =>
          rw [hc] at h
          simp only [cond_false] at h
          split at h
          · rename_i fs hu
            obtain ⟨pre, e1, e2⟩ := h3 _ _ _ _ h
            exact ⟨pre, e1, .st hu e2⟩
          · cases h
    · simp only [fsN] at h
      split at h
      · cases h
        exact ⟨[], rfl, .nil⟩
      · rename_i f rest'
        cases ho : Nat.beq f.offset i with
        | false => rw [ho] at h; cases h
        | true =>
          rw [ho] at h
          simp only [cond_true] at h
          split at h
          · rename_i cs' hl
            obtain ⟨pre, e1, e2⟩ := h2 _ _ _ hl
            cases hb : Nat.beq (P.cellsOf f.type + cs'.length) cs.length with
            | false => rw [hb] at h; cases h
            | true =>
              rw [hb] at h
              simp only [cond_true] at h
              have hlen := Nat.eq_of_beq_eq_true hb
              have hp : P.cellsOf f.type = pre.length := by rw [e1, List.length_append] at hlen; omega
              obtain ⟨pre2, e3, e4⟩ := h3 _ _ _ _ h
              rw [hp] at e4
              refine ⟨pre ++ pre2, by rw [e1, e3, List.append_assoc], .cons (Nat.eq_of_beq_eq_true ho) hp e2 e4⟩
          · cases h
def ccB (P : Program) (c : Cc) (t : TypeId) : Bool := ccN P 100 c t
theorem ccB_ok {P : Program} (c : Cc) {t : TypeId} (h : ccB P c t = true) : CcOk P c t := (kinds_ok 100).1 c t h
end Go.Ev
end
section
/- An argument of one cell. -/
set_option linter.unusedVariables false
namespace Go.Ev
theorem cells_one {P : Program} {W : World} {r : Reach} {base : Nat} {c : Cc} {t : TypeId} {v : Value} (h : CcOk P c t) (ok : Value.okWide P W r base t v) : v.cells.toList = [v] := by
  cases v with
  | agg cs =>
    exfalso
    unfold Value.okWide at ok
    cases h with
    | int h => rw [h] at ok; simp [Cell.okWide, Cell.ok, h] at ok
    | bool h => rw [h] at ok; simp [Cell.okWide, Cell.ok, h] at ok
    | str h => rw [h] at ok; simp [Cell.okWide, Cell.ok, h] at ok
    | sl h _ _ => rw [h] at ok; simp [Cell.okWide, Cell.ok, h] at ok
  | _ => rfl
end Go.Ev
end
section
/- What a row's list gives of the tables of unicode/utf8. -/
set_option linter.unusedVariables false
namespace Go.Ev
open Go
variable {H : Type} {enc : TypeId × Value → H} {P : Program} {w : World} {base : Nat} {sp : Nat → Bool} {held : Bool}

/-- An array's cells, element by element. -/
theorem trod_arr {fuel : Nat} {t e : TypeId} {n m : Nat} {cs : List Value} {ds : List (DataW H)} {p : List MemPlace}
    (ht : P.underlying t = some (.array n e)) (hce : P.cellsOf e = m) (hct : P.cellsOf t = n * m)
    (h : DataW.trod enc P w base sp held fuel t cs = some (.agg ds, p)) :
    cs.length = n * m ∧ ds.length = n ∧ ∀ (i : Nat) (d : DataW H), ds[i]? = some d → ∃ f q, DataW.trod enc P w base sp held f e ((cs.drop (i * m)).take m) = some (d, q) := by
  cases fuel with
  | zero => simp [DataW.trod] at h
  | succ fuel =>
    simp only [DataW.trod, ht, hce, hct] at h
    split at h
    · rename_i hl
      obtain ⟨xs, hm, hx⟩ := Option.map_eq_some_iff.1 h
      have hxs : xs.map (·.1) = ds := by
        have := congrArg Prod.fst hx
        simpa using this
      have hxl : xs.length = n := by simpa using Lib.mapM_length hm
      refine ⟨by simpa using hl, by rw [← hxs]; simp [hxl], fun i d hd => ?_⟩
      rw [← hxs] at hd
      rw [List.getElem?_map, Option.map_eq_some_iff] at hd
      obtain ⟨b, hb, rfl⟩ := hd
      have hi : i < n := by
        have := (List.getElem?_eq_some_iff.1 hb).1
        omega
      obtain ⟨b', hb', hf⟩ := Lib.mapM_at hm i i (by simp [hi])
      obtain rfl := Option.some.inj (hb.symm.trans hb')
      exact ⟨fuel, b.2, hf⟩
    · cases h
theorem trod_u8 {fuel : Nat} {t : TypeId} {k : IntKind} {cs : List Value} {z : Int} {p : List MemPlace} (ht : P.underlying t = some (.int k))
    (h : DataW.trod enc P w base sp held fuel t cs = some (.lit (.int k z), p)) : cs = [.int k z] := by
  cases fuel with
  | zero => simp [DataW.trod] at h
  | succ fuel =>
    obtain ⟨z', hc, h2, _⟩ := DataW.trod_int ht h
    cases h2
    exact hc
/-- A struct of two small cells. -/
theorem trod_two {fuel : Nat} {t : TypeId} {fs : Array Field} {f g : Field} {k : IntKind} {cs : List Value} {x y : Int} {p : List MemPlace}
    (ht : P.underlying t = some (.struct fs)) (hfs : fs.toList = [f, g]) (hc : P.cellsOf t = 2) (hf0 : f.offset = 0) (hg0 : g.offset = 1) (hf : P.underlying f.type = some (.int k)) (hg : P.underlying g.type = some (.int k))
    (hcf : P.cellsOf f.type = 1) (hcg : P.cellsOf g.type = 1)
    (h : DataW.trod enc P w base sp held fuel t cs = some (.agg [.lit (.int k x), .lit (.int k y)], p)) : cs = [.int k x, .int k y] := by
  cases fuel with
  | zero => simp [DataW.trod] at h
  | succ fuel =>
    simp only [DataW.trod, ht, hfs, hc, hf0, hg0, hcf, hcg] at h
    split at h
    · rename_i hl
      obtain ⟨xs, hm, hx⟩ := Option.map_eq_some_iff.1 h
      have hxs : xs.map (·.1) = [.lit (.int k x), .lit (.int k y)] := by
        have := congrArg Prod.fst hx
        simpa using this
      obtain ⟨b0, hb0, h0⟩ := Lib.mapM_at hm 0 f rfl
      obtain ⟨b1, hb1, h1⟩ := Lib.mapM_at hm 1 g rfl
      have e0 : b0.1 = .lit (.int k x) := by
        have := congrArg (·[0]?) hxs
        simpa [hb0] using this
      have e1 : b1.1 = .lit (.int k y) := by
        have := congrArg (·[1]?) hxs
        simpa [hb1] using this
      obtain ⟨d0, q0⟩ := b0
      obtain ⟨d1, q1⟩ := b1
      simp only at e0 e1
      subst e0 e1
      rw [hf0, hcf] at h0
      rw [hg0, hcg] at h1
      have a0 := trod_u8 hf h0
      have a1 := trod_u8 hg h1
      match cs, hl, a0, a1 with
      | [u, v], _, a0, a1 =>
        simp at a0 a1
        rw [a0, a1]
      | [], hl, _, _ => simp at hl
      | [_], hl, _, _ => simp at hl
      | _ :: _ :: _ :: _, hl, _, _ => simp at hl
    · cases h
theorem laid_at {laid : List (String × DataW Unit)} {W : World} {ps : List MemPlace} (h : DataW.LaidVars P W laid ps) {i : Nat} {name : String} {d : DataW Unit} (hi : laid[i]? = some (name, d)) {g : Nat} {t : TypeId}
    (hg : P.globalNamed name = some g) (hty : (P.globals[g]?).map (·.type) = some t) : ∃ cs fuel p, W.var? P name = some cs ∧ DataW.trod (fun _ => ()) P W 0 (fun _ => true) false fuel t cs.toList = some (d, p) := by
  induction laid generalizing ps i with
  | nil => simp at hi
  | cons x rest ih =>
    obtain ⟨n, d'⟩ := x
    obtain ⟨g', t', cs, fuel, p, q, hg', ht', hvar, hd, hr, _⟩ := h
    cases i with
    | zero =>
      simp only [List.getElem?_cons_zero, Option.some.injEq, Prod.mk.injEq] at hi
      obtain ⟨rfl, rfl⟩ := hi
      obtain rfl := Option.some.inj (hg.symm.trans hg')
      obtain rfl := Option.some.inj (hty.symm.trans ht')
      exact ⟨cs, fuel, p, hvar, hd⟩
    | succ i => exact ih hr (by simpa using hi)
theorem var_lt {W : World} {name : String} {g : Nat} {cs : Array Value} (hg : P.globalNamed name = some g) (h : W.var? P name = some cs) : g < W.heap.size := by
  unfold World.var? at h
  rw [hg] at h
  simp only [Option.bind_some] at h
  split at h
  · rename_i hh
    exact (Array.getElem?_eq_some_iff.1 hh).1
  · cases h
/-- THE TWO TABLES, off the list of a row. -/
theorem globI_utf {W : World} {d0 d1 : DataW Unit} (hm : laidMet P [("unicode/utf8.acceptRanges", d1), ("unicode/utf8.first", d0)] W)
    (hd0 : d0 = .agg (utfFirst.map fun z => .lit (.int .u8 z))) (hd1 : d1 = .agg (utfAccept.map fun z => .agg [.lit (.int .u8 z.1), .lit (.int .u8 z.2)]))
    {t0 t1 e0 e1 : TypeId} (hg0 : P.globalNamed "unicode/utf8.first" = some 0) (hg1 : P.globalNamed "unicode/utf8.acceptRanges" = some 1)
    (hy0 : (P.globals[0]?).map (·.type) = some t0) (hy1 : (P.globals[1]?).map (·.type) = some t1)
    (ht0 : P.underlying t0 = some (.array 256 e0)) (ht1 : P.underlying t1 = some (.array 16 e1)) (he0 : P.underlying e0 = some (.int .u8))
    {fs : Array Field} {f g : Field} (he1 : P.underlying e1 = some (.struct fs)) (hfs : fs.toList = [f, g]) (hf0 : f.offset = 0) (hgo : g.offset = 1) (hf : P.underlying f.type = some (.int .u8)) (hg : P.underlying g.type = some (.int .u8))
    (hcf : P.cellsOf f.type = 1) (hcg : P.cellsOf g.type = 1) (hc0 : P.cellsOf t0 = 256) (hc1 : P.cellsOf t1 = 32) (hce0 : P.cellsOf e0 = 1) (hce1 : P.cellsOf e1 = 2) : GlobI utfGlob W.heap.size W := by
  obtain ⟨ps, hL, _⟩ := hm
  obtain ⟨cs1, fu1, p1, hv1, hr1⟩ := laid_at hL (i := 0) rfl hg1 hy1
  obtain ⟨cs0, fu0, p0, hv0, hr0⟩ := laid_at hL (i := 1) rfl hg0 hy0
  subst hd0 hd1
  obtain ⟨l0, n0, r0⟩ := trod_arr (n := 256) (m := 1) ht0 hce0 hc0 hr0
  obtain ⟨l1, n1, r1⟩ := trod_arr (n := 16) (m := 2) ht1 hce1 hc1 hr1
  intro gg r xs hgg
  unfold utfGlob at hgg
  by_cases h0 : gg = 0
  · subst h0
    simp only [Nat.beq, cond_true, Option.some.injEq, Sigma.mk.injEq] at hgg
    obtain ⟨rfl, hxs⟩ := hgg
    cases hxs
    refine ⟨var_lt hg0 hv0, fun i d hd => ?_⟩
    obtain ⟨f', q, hq⟩ := r0 i _ (by rw [List.getElem?_map, hd]; rfl)
    have hcs := trod_u8 he0 hq
    refine ⟨[.int .u8 d], rfl, fun j v hj => ?_, fun C w => ⟨.int .u8 d, [], rfl, ⟨rfl, rfl⟩, rfl⟩⟩
    match j, hj with
    | 0, hj =>
      cases hj
      rw [World.var?_cell hg0 hv0]
      have := congrArg (·[0]?) hcs
      simpa [Rw.n, List.getElem?_take, List.getElem?_drop] using this
    | j + 1, hj => simp at hj
  · by_cases h1 : gg = 1
    · subst h1
      simp only [Nat.beq, cond_true, cond_false, Option.some.injEq, Sigma.mk.injEq] at hgg
      obtain ⟨rfl, hxs⟩ := hgg
      cases hxs
      refine ⟨var_lt hg1 hv1, fun i d hd => ?_⟩
      obtain ⟨f', q, hq⟩ := r1 i _ (by rw [List.getElem?_map, hd]; rfl)
      have hcs := trod_two he1 hfs hce1 hf0 hgo hf hg hcf hcg hq
      refine ⟨[.int .u8 d.1, .int .u8 d.2], rfl, fun j v hj => ?_, fun C w => ⟨.int .u8 d.1, [.int .u8 d.2], rfl, ⟨rfl, rfl⟩, ⟨.int .u8 d.2, [], rfl, ⟨rfl, rfl⟩, rfl⟩⟩⟩
      match j, hj with
      | 0, hj =>
        cases hj
        rw [World.var?_cell hg1 hv1]
        have := congrArg (·[0]?) hcs
        simpa [Rw.n, List.getElem?_take, List.getElem?_drop] using this
      | 1, hj =>
        cases hj
        rw [World.var?_cell hg1 hv1]
        have := congrArg (·[1]?) hcs
        simpa [Rw.n, List.getElem?_take, List.getElem?_drop] using this
      | j + 2, hj => simp at hj
    · exfalso
      match gg, h0, h1 with
      | 0, h0, _ => exact h0 rfl
      | 1, _, h1 => exact h1 rfl
      | n + 2, _, _ => simp [Nat.beq] at hgg
def u8B (P : Program) (t : TypeId) : Bool := match P.underlying t with
  | some (.int .u8) => P.cellsOf t == 1
  | _ => false
theorem u8B_ok {t : TypeId} (h : u8B P t = true) : P.underlying t = some (.int .u8) ∧ P.cellsOf t = 1 := by
  unfold u8B at h
  split at h
  · rename_i e; exact ⟨e, by simpa using h⟩
  · cases h
def twoB (P : Program) (t : TypeId) : Bool := match P.underlying t with
  | some (.struct fs) => match fs.toList with
    | [f, g] => f.offset == 0 && g.offset == 1 && u8B P f.type && u8B P g.type && P.cellsOf t == 2
    | _ => false
  | _ => false
/-- The two tables' types, looked at. -/
def tabB (P : Program) (t0 t1 e0 e1 : TypeId) : Bool :=
  P.globalNamed "unicode/utf8.first" == some 0 && P.globalNamed "unicode/utf8.acceptRanges" == some 1 && (P.globals[0]?).map (·.type) == some t0 && (P.globals[1]?).map (·.type) == some t1 &&
  P.cellsOf t0 == 256 && P.cellsOf t1 == 32 && u8B P e0 && twoB P e1
theorem globI_utfB {W : World} {d0 d1 : DataW Unit} (hm : laidMet P [("unicode/utf8.acceptRanges", d1), ("unicode/utf8.first", d0)] W)
    (hd0 : d0 = .agg (utfFirst.map fun z => .lit (.int .u8 z))) (hd1 : d1 = .agg (utfAccept.map fun z => .agg [.lit (.int .u8 z.1), .lit (.int .u8 z.2)]))
    (t0 t1 e0 e1 : TypeId) (hB : tabB P t0 t1 e0 e1 = true) (ht0 : P.underlying t0 = some (.array 256 e0)) (ht1 : P.underlying t1 = some (.array 16 e1)) : GlobI utfGlob W.heap.size W := by
  unfold tabB at hB
  simp only [Bool.and_eq_true, beq_iff_eq] at hB
  obtain ⟨⟨⟨⟨⟨⟨⟨a1, a2⟩, a3⟩, a4⟩, a5⟩, a6⟩, a7⟩, a8⟩ := hB
  unfold twoB at a8
  split at a8
  · rename_i fs hfs
    split at a8
    · rename_i f g hfg
      simp only [Bool.and_eq_true, beq_iff_eq] at a8
      obtain ⟨⟨⟨⟨b1, b2⟩, b3⟩, b4⟩, b5⟩ := a8
      obtain ⟨c1, c2⟩ := u8B_ok b3
      obtain ⟨c3, c4⟩ := u8B_ok b4
      obtain ⟨c5, c6⟩ := u8B_ok a7
      exact globI_utf hm hd0 hd1 a1 a2 a3 a4 ht0 ht1 c5 hfs hfg b1 b2 c1 c3 c2 c4 a5 a6 c6 b5
    · cases a8
  · cases a8
def lay (xs : List Value) : Obj → Obj
  | .cells _ t frozen => .cells xs.toArray t frozen
  | o => o
/-- What the tables' initialisers lay. -/
def layUtf (h : Array Obj) : Array Obj := (h.modify 0 (lay (utfFirst.map fun z => .int .u8 z))).modify 1 (lay (utfAccept.flatMap fun z => [.int .u8 z.1, .int .u8 z.2]))
end Go.Ev
end
