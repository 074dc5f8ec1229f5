/- ReqParse: parts FsReqOk Fsl09Two FsReqBytes EvFit FsReqParse FireadWord EvGrow EvConc Fiin FiisSession Futf8wordbytes Futf8Valid FiisText FiisPut FiisWord, packed by squash.py. -/
import Derived.Shelf.Spec.SlicesGrow
import Derived.Laws.AppendOwn
import Derived.Test.YtiinphgjeafpnaaDoorZReqParse0
import Derived.Test.YtiinphgjeafpnaaDoorZReqParse1
import Derived.Test.YtiinphgjeafpnaaDoorZReqParse2
import Derived.Test.YtiinphgjeafpnaaDoorZReqParse3
set_option linter.unusedVariables false
set_option linter.unusedSimpArgs false
section
/- s_ReqOk: its contract. -/
namespace Go.Ev.Seat
open Go.RowKit
set_option maxRecDepth 100000
set_option linter.unusedVariables false
set_option linter.unusedSimpArgs false
noncomputable abbrev E_s_ReqOk : Env := En [(N.s_l09Word, true, S_s_l09Word), (N.s_TextOk, true, S_s_TextOk), (N.s_l09Is, true, S_s_l09Is)] [] [] [] false 0 []
noncomputable abbrev E1_s_ReqOk : Env := En [] [] [] [] false 0 []
theorem ok0_s_ReqOk : OkFn prog I N.s_ReqOk true (evF E_s_ReqOk true F.s_ReqOk) := ok_fn (memc okS_s_l09Word (memc okS_s_TextOk (memc okS_s_l09Is mem0))) (l := [(N.s_l09Word, true, S_s_l09Word), (N.s_TextOk, true, S_s_TextOk), (N.s_l09Is, true, S_s_l09Is)]) (p := []) (ls := []) (lend := []) (focus := false) (fuel := 0) (give := []) (fn := F.s_ReqOk) (by kernel_rfl) (by kernel_rfl) (by kernel_rfl) (by kernel_rfl) (cs := []) (by kernel_rfl) loops0
theorem ok1_s_ReqOk : OkFn prog I N.s_ReqOk true (evF E1_s_ReqOk true F.s_ReqOk) := ok_fn mem0 (l := []) (p := []) (ls := []) (lend := []) (focus := false) (fuel := 0) (give := []) (fn := F.s_ReqOk) (by kernel_rfl) (by kernel_rfl) (by kernel_rfl) (by kernel_rfl) (cs := []) (by kernel_rfl) loops0
theorem e1_s_ReqOk (r : T_Req) (K : Ret → Option Ret) : evF E1_s_ReqOk true F.s_ReqOk [.a (reqR.cells .no r)] K =
  (bif (decide (r.1 < 1)) then K ((.s (.bool false)), []) else (bif (decide (r.1 > 16)) then K ((.s (.bool false)), []) else
   (bif (decide (r.2.1 < 1)) then K ((.s (.bool false)), []) else (bif (decide (r.2.1 > 8)) then K ((.s (.bool false)), []) else none)))) := by kernel_rfl
theorem e_s_ReqOk_1 (s a b d : Int) (t : List Int) (K : Ret → Option Ret) : evF E_s_ReqOk true F.s_ReqOk [.a (reqR.cells .no (1, s, a, b, d, t))] K =
  (bif (decide (s < 1)) then K ((.s (.bool false)), []) else (bif (decide (s > 8)) then K ((.s (.bool false)), []) else (bif (!(isWordD a)) then K ((.s (.bool false)), []) else (bif (!(isWordD b)) then K ((.s (.bool false)), []) else (bif (!(isWordD d)) then K ((.s (.bool false)), []) else (bif fitB t then (bif (!(textOk t)) then K ((.s (.bool false)), []) else (bif (decide (((List.length t : Nat) : Int) > 100)) then K ((.s (.bool false)), []) else (bif (a != (0 : Int)) then K ((.s (.bool false)), []) else (bif (b != (0 : Int)) then K ((.s (.bool false)), []) else (bif (d != (0 : Int)) then K ((.s (.bool false)), []) else (bif (decide (((List.length t : Nat) : Int) > 0)) then K ((.s (.bool false)), []) else K ((.s (.bool true)), []))))))) else none)))))) := by kernel_rfl
theorem v_s_ReqOk_1 (s a b d : Int) (t : List Int) (h : fitB t = true) (K : Ret → Option Ret) : evF E_s_ReqOk true F.s_ReqOk [.a (reqR.cells .no (1, s, a, b, d, t))] K = K (bl (reqOkD (1, s, a, b, d, t)), []) := by
  refine (e_s_ReqOk_1 s a b d t K).trans ?_
  unfold reqOkD
  simp only [bne, h]
  by_cases h3 : s < 1
  · rw [decide_eq_true h3, decide_eq_false (show ¬ 1 ≤ s by omega)]; rfl
  by_cases h4 : s > 8
  · rw [decide_eq_false h3, decide_eq_true h4, decide_eq_true (show 1 ≤ s by omega), decide_eq_false (show ¬ s ≤ 8 by omega)]; rfl
  rw [decide_eq_false h3, decide_eq_false h4, decide_eq_true (show 1 ≤ s by omega), decide_eq_true (show s ≤ 8 by omega)]
  by_cases h5 : ((t.length : Nat) : Int) > 100
  · rw [decide_eq_true h5, decide_eq_false (show ¬ ((t.length : Nat) : Int) ≤ 100 by omega)]
    cases isWordD a <;> cases isWordD b <;> cases isWordD d <;> cases textOk t <;> rfl
  rw [decide_eq_false h5, decide_eq_true (show ((t.length : Nat) : Int) ≤ 100 by omega)]
  unfold reqKindD
  generalize decide (((t.length : Nat) : Int) > 0) = n
  generalize (a == 0) = x
  generalize (b == 0) = y
  generalize (d == 0) = z
  generalize textOk t = p
  cases isWordD a <;> cases isWordD b <;> cases isWordD d <;> cases p <;> first | rfl | (cases x <;> cases y <;> cases z <;> cases n <;> rfl)
theorem e_s_ReqOk_2 (s a b d : Int) (t : List Int) (K : Ret → Option Ret) : evF E_s_ReqOk true F.s_ReqOk [.a (reqR.cells .no (2, s, a, b, d, t))] K =
  (bif (decide (s < 1)) then K ((.s (.bool false)), []) else (bif (decide (s > 8)) then K ((.s (.bool false)), []) else (bif (!(isWordD a)) then K ((.s (.bool false)), []) else (bif (!(isWordD b)) then K ((.s (.bool false)), []) else (bif (!(isWordD d)) then K ((.s (.bool false)), []) else (bif fitB t then (bif (!(textOk t)) then K ((.s (.bool false)), []) else (bif (decide (((List.length t : Nat) : Int) > 100)) then K ((.s (.bool false)), []) else (bif (a != (0 : Int)) then K ((.s (.bool false)), []) else (bif (b != (0 : Int)) then K ((.s (.bool false)), []) else (bif (d != (0 : Int)) then K ((.s (.bool false)), []) else (bif (decide (((List.length t : Nat) : Int) > 0)) then K ((.s (.bool false)), []) else K ((.s (.bool true)), []))))))) else none)))))) := by kernel_rfl
theorem v_s_ReqOk_2 (s a b d : Int) (t : List Int) (h : fitB t = true) (K : Ret → Option Ret) : evF E_s_ReqOk true F.s_ReqOk [.a (reqR.cells .no (2, s, a, b, d, t))] K = K (bl (reqOkD (2, s, a, b, d, t)), []) := by
  refine (e_s_ReqOk_2 s a b d t K).trans ?_
  unfold reqOkD
  simp only [bne, h]
  by_cases h3 : s < 1
  · rw [decide_eq_true h3, decide_eq_false (show ¬ 1 ≤ s by omega)]; rfl
  by_cases h4 : s > 8
  · rw [decide_eq_false h3, decide_eq_true h4, decide_eq_true (show 1 ≤ s by omega), decide_eq_false (show ¬ s ≤ 8 by omega)]; rfl
  rw [decide_eq_false h3, decide_eq_false h4, decide_eq_true (show 1 ≤ s by omega), decide_eq_true (show s ≤ 8 by omega)]
  by_cases h5 : ((t.length : Nat) : Int) > 100
  · rw [decide_eq_true h5, decide_eq_false (show ¬ ((t.length : Nat) : Int) ≤ 100 by omega)]
    cases isWordD a <;> cases isWordD b <;> cases isWordD d <;> cases textOk t <;> rfl
  rw [decide_eq_false h5, decide_eq_true (show ((t.length : Nat) : Int) ≤ 100 by omega)]
  unfold reqKindD
  generalize decide (((t.length : Nat) : Int) > 0) = n
  generalize (a == 0) = x
  generalize (b == 0) = y
  generalize (d == 0) = z
  generalize textOk t = p
  cases isWordD a <;> cases isWordD b <;> cases isWordD d <;> cases p <;> first | rfl | (cases x <;> cases y <;> cases z <;> cases n <;> rfl)
theorem e_s_ReqOk_3 (s a b d : Int) (t : List Int) (K : Ret → Option Ret) : evF E_s_ReqOk true F.s_ReqOk [.a (reqR.cells .no (3, s, a, b, d, t))] K =
  (bif (decide (s < 1)) then K ((.s (.bool false)), []) else (bif (decide (s > 8)) then K ((.s (.bool false)), []) else (bif (!(isWordD a)) then K ((.s (.bool false)), []) else (bif (!(isWordD b)) then K ((.s (.bool false)), []) else (bif (!(isWordD d)) then K ((.s (.bool false)), []) else (bif fitB t then (bif (!(textOk t)) then K ((.s (.bool false)), []) else (bif (decide (((List.length t : Nat) : Int) > 100)) then K ((.s (.bool false)), []) else (bif (b != (0 : Int)) then K ((.s (.bool false)), []) else (bif (d != (0 : Int)) then K ((.s (.bool false)), []) else K ((.s (.bool true)), []))))) else none)))))) := by kernel_rfl
theorem v_s_ReqOk_3 (s a b d : Int) (t : List Int) (h : fitB t = true) (K : Ret → Option Ret) : evF E_s_ReqOk true F.s_ReqOk [.a (reqR.cells .no (3, s, a, b, d, t))] K = K (bl (reqOkD (3, s, a, b, d, t)), []) := by
  refine (e_s_ReqOk_3 s a b d t K).trans ?_
  unfold reqOkD
  simp only [bne, h]
  by_cases h3 : s < 1
  · rw [decide_eq_true h3, decide_eq_false (show ¬ 1 ≤ s by omega)]; rfl
  by_cases h4 : s > 8
  · rw [decide_eq_false h3, decide_eq_true h4, decide_eq_true (show 1 ≤ s by omega), decide_eq_false (show ¬ s ≤ 8 by omega)]; rfl
  rw [decide_eq_false h3, decide_eq_false h4, decide_eq_true (show 1 ≤ s by omega), decide_eq_true (show s ≤ 8 by omega)]
  by_cases h5 : ((t.length : Nat) : Int) > 100
  · rw [decide_eq_true h5, decide_eq_false (show ¬ ((t.length : Nat) : Int) ≤ 100 by omega)]
    cases isWordD a <;> cases isWordD b <;> cases isWordD d <;> cases textOk t <;> rfl
  rw [decide_eq_false h5, decide_eq_true (show ((t.length : Nat) : Int) ≤ 100 by omega)]
  unfold reqKindD
  generalize decide (((t.length : Nat) : Int) > 0) = n
  generalize (a == 0) = x
  generalize (b == 0) = y
  generalize (d == 0) = z
  generalize textOk t = p
  cases isWordD a <;> cases isWordD b <;> cases isWordD d <;> cases p <;> first | rfl | (cases x <;> cases y <;> cases z <;> cases n <;> rfl)
theorem e_s_ReqOk_4 (s a b d : Int) (t : List Int) (K : Ret → Option Ret) : evF E_s_ReqOk true F.s_ReqOk [.a (reqR.cells .no (4, s, a, b, d, t))] K =
  (bif (decide (s < 1)) then K ((.s (.bool false)), []) else (bif (decide (s > 8)) then K ((.s (.bool false)), []) else (bif (!(isWordD a)) then K ((.s (.bool false)), []) else (bif (!(isWordD b)) then K ((.s (.bool false)), []) else (bif (!(isWordD d)) then K ((.s (.bool false)), []) else (bif fitB t then (bif (!(textOk t)) then K ((.s (.bool false)), []) else (bif (decide (((List.length t : Nat) : Int) > 100)) then K ((.s (.bool false)), []) else (bif (d != (0 : Int)) then K ((.s (.bool false)), []) else (bif (decide (((List.length t : Nat) : Int) > 0)) then K ((.s (.bool false)), []) else K ((.s (.bool true)), []))))) else none)))))) := by kernel_rfl
theorem v_s_ReqOk_4 (s a b d : Int) (t : List Int) (h : fitB t = true) (K : Ret → Option Ret) : evF E_s_ReqOk true F.s_ReqOk [.a (reqR.cells .no (4, s, a, b, d, t))] K = K (bl (reqOkD (4, s, a, b, d, t)), []) := by
  refine (e_s_ReqOk_4 s a b d t K).trans ?_
  unfold reqOkD
  simp only [bne, h]
  by_cases h3 : s < 1
  · rw [decide_eq_true h3, decide_eq_false (show ¬ 1 ≤ s by omega)]; rfl
  by_cases h4 : s > 8
  · rw [decide_eq_false h3, decide_eq_true h4, decide_eq_true (show 1 ≤ s by omega), decide_eq_false (show ¬ s ≤ 8 by omega)]; rfl
  rw [decide_eq_false h3, decide_eq_false h4, decide_eq_true (show 1 ≤ s by omega), decide_eq_true (show s ≤ 8 by omega)]
  by_cases h5 : ((t.length : Nat) : Int) > 100
  · rw [decide_eq_true h5, decide_eq_false (show ¬ ((t.length : Nat) : Int) ≤ 100 by omega)]
    cases isWordD a <;> cases isWordD b <;> cases isWordD d <;> cases textOk t <;> rfl
  rw [decide_eq_false h5, decide_eq_true (show ((t.length : Nat) : Int) ≤ 100 by omega)]
  unfold reqKindD
  generalize decide (((t.length : Nat) : Int) > 0) = n
  generalize (a == 0) = x
  generalize (b == 0) = y
  generalize (d == 0) = z
  generalize textOk t = p
  cases isWordD a <;> cases isWordD b <;> cases isWordD d <;> cases p <;> first | rfl | (cases x <;> cases y <;> cases z <;> cases n <;> rfl)
theorem e_s_ReqOk_5 (s a b d : Int) (t : List Int) (K : Ret → Option Ret) : evF E_s_ReqOk true F.s_ReqOk [.a (reqR.cells .no (5, s, a, b, d, t))] K =
  (bif (decide (s < 1)) then K ((.s (.bool false)), []) else (bif (decide (s > 8)) then K ((.s (.bool false)), []) else (bif (!(isWordD a)) then K ((.s (.bool false)), []) else (bif (!(isWordD b)) then K ((.s (.bool false)), []) else (bif (!(isWordD d)) then K ((.s (.bool false)), []) else (bif fitB t then (bif (!(textOk t)) then K ((.s (.bool false)), []) else (bif (decide (((List.length t : Nat) : Int) > 100)) then K ((.s (.bool false)), []) else (bif (d != (0 : Int)) then K ((.s (.bool false)), []) else K ((.s (.bool true)), [])))) else none)))))) := by kernel_rfl
theorem v_s_ReqOk_5 (s a b d : Int) (t : List Int) (h : fitB t = true) (K : Ret → Option Ret) : evF E_s_ReqOk true F.s_ReqOk [.a (reqR.cells .no (5, s, a, b, d, t))] K = K (bl (reqOkD (5, s, a, b, d, t)), []) := by
  refine (e_s_ReqOk_5 s a b d t K).trans ?_
  unfold reqOkD
  simp only [bne, h]
  by_cases h3 : s < 1
  · rw [decide_eq_true h3, decide_eq_false (show ¬ 1 ≤ s by omega)]; rfl
  by_cases h4 : s > 8
  · rw [decide_eq_false h3, decide_eq_true h4, decide_eq_true (show 1 ≤ s by omega), decide_eq_false (show ¬ s ≤ 8 by omega)]; rfl
  rw [decide_eq_false h3, decide_eq_false h4, decide_eq_true (show 1 ≤ s by omega), decide_eq_true (show s ≤ 8 by omega)]
  by_cases h5 : ((t.length : Nat) : Int) > 100
  · rw [decide_eq_true h5, decide_eq_false (show ¬ ((t.length : Nat) : Int) ≤ 100 by omega)]
    cases isWordD a <;> cases isWordD b <;> cases isWordD d <;> cases textOk t <;> rfl
  rw [decide_eq_false h5, decide_eq_true (show ((t.length : Nat) : Int) ≤ 100 by omega)]
  unfold reqKindD
  generalize decide (((t.length : Nat) : Int) > 0) = n
  generalize (a == 0) = x
  generalize (b == 0) = y
  generalize (d == 0) = z
  generalize textOk t = p
  cases isWordD a <;> cases isWordD b <;> cases isWordD d <;> cases p <;> first | rfl | (cases x <;> cases y <;> cases z <;> cases n <;> rfl)
theorem e_s_ReqOk_6 (s a b d : Int) (t : List Int) (K : Ret → Option Ret) : evF E_s_ReqOk true F.s_ReqOk [.a (reqR.cells .no (6, s, a, b, d, t))] K =
  (bif (decide (s < 1)) then K ((.s (.bool false)), []) else (bif (decide (s > 8)) then K ((.s (.bool false)), []) else (bif (!(isWordD a)) then K ((.s (.bool false)), []) else (bif (!(isWordD b)) then K ((.s (.bool false)), []) else (bif (!(isWordD d)) then K ((.s (.bool false)), []) else (bif fitB t then (bif (!(textOk t)) then K ((.s (.bool false)), []) else (bif (decide (((List.length t : Nat) : Int) > 100)) then K ((.s (.bool false)), []) else (bif (d != (0 : Int)) then K ((.s (.bool false)), []) else (bif (decide (((List.length t : Nat) : Int) > 0)) then K ((.s (.bool false)), []) else K ((.s (.bool true)), []))))) else none)))))) := by kernel_rfl
theorem v_s_ReqOk_6 (s a b d : Int) (t : List Int) (h : fitB t = true) (K : Ret → Option Ret) : evF E_s_ReqOk true F.s_ReqOk [.a (reqR.cells .no (6, s, a, b, d, t))] K = K (bl (reqOkD (6, s, a, b, d, t)), []) := by
  refine (e_s_ReqOk_6 s a b d t K).trans ?_
  unfold reqOkD
  simp only [bne, h]
  by_cases h3 : s < 1
  · rw [decide_eq_true h3, decide_eq_false (show ¬ 1 ≤ s by omega)]; rfl
  by_cases h4 : s > 8
  · rw [decide_eq_false h3, decide_eq_true h4, decide_eq_true (show 1 ≤ s by omega), decide_eq_false (show ¬ s ≤ 8 by omega)]; rfl
  rw [decide_eq_false h3, decide_eq_false h4, decide_eq_true (show 1 ≤ s by omega), decide_eq_true (show s ≤ 8 by omega)]
  by_cases h5 : ((t.length : Nat) : Int) > 100
  · rw [decide_eq_true h5, decide_eq_false (show ¬ ((t.length : Nat) : Int) ≤ 100 by omega)]
    cases isWordD a <;> cases isWordD b <;> cases isWordD d <;> cases textOk t <;> rfl
  rw [decide_eq_false h5, decide_eq_true (show ((t.length : Nat) : Int) ≤ 100 by omega)]
  unfold reqKindD
  generalize decide (((t.length : Nat) : Int) > 0) = n
  generalize (a == 0) = x
  generalize (b == 0) = y
  generalize (d == 0) = z
  generalize textOk t = p
  cases isWordD a <;> cases isWordD b <;> cases isWordD d <;> cases p <;> first | rfl | (cases x <;> cases y <;> cases z <;> cases n <;> rfl)
theorem e_s_ReqOk_7 (s a b d : Int) (t : List Int) (K : Ret → Option Ret) : evF E_s_ReqOk true F.s_ReqOk [.a (reqR.cells .no (7, s, a, b, d, t))] K =
  (bif (decide (s < 1)) then K ((.s (.bool false)), []) else (bif (decide (s > 8)) then K ((.s (.bool false)), []) else (bif (!(isWordD a)) then K ((.s (.bool false)), []) else (bif (!(isWordD b)) then K ((.s (.bool false)), []) else (bif (!(isWordD d)) then K ((.s (.bool false)), []) else (bif fitB t then (bif (!(textOk t)) then K ((.s (.bool false)), []) else (bif (decide (((List.length t : Nat) : Int) > 100)) then K ((.s (.bool false)), []) else (bif (b != (0 : Int)) then K ((.s (.bool false)), []) else (bif (d != (0 : Int)) then K ((.s (.bool false)), []) else K ((.s (.bool (decide (((List.length t : Nat) : Int) > 0)))), []))))) else none)))))) := by kernel_rfl
theorem v_s_ReqOk_7 (s a b d : Int) (t : List Int) (h : fitB t = true) (K : Ret → Option Ret) : evF E_s_ReqOk true F.s_ReqOk [.a (reqR.cells .no (7, s, a, b, d, t))] K = K (bl (reqOkD (7, s, a, b, d, t)), []) := by
  refine (e_s_ReqOk_7 s a b d t K).trans ?_
  unfold reqOkD
  simp only [bne, h]
  by_cases h3 : s < 1
  · rw [decide_eq_true h3, decide_eq_false (show ¬ 1 ≤ s by omega)]; rfl
  by_cases h4 : s > 8
  · rw [decide_eq_false h3, decide_eq_true h4, decide_eq_true (show 1 ≤ s by omega), decide_eq_false (show ¬ s ≤ 8 by omega)]; rfl
  rw [decide_eq_false h3, decide_eq_false h4, decide_eq_true (show 1 ≤ s by omega), decide_eq_true (show s ≤ 8 by omega)]
  by_cases h5 : ((t.length : Nat) : Int) > 100
  · rw [decide_eq_true h5, decide_eq_false (show ¬ ((t.length : Nat) : Int) ≤ 100 by omega)]
    cases isWordD a <;> cases isWordD b <;> cases isWordD d <;> cases textOk t <;> rfl
  rw [decide_eq_false h5, decide_eq_true (show ((t.length : Nat) : Int) ≤ 100 by omega)]
  unfold reqKindD
  generalize decide (((t.length : Nat) : Int) > 0) = n
  generalize (a == 0) = x
  generalize (b == 0) = y
  generalize (d == 0) = z
  generalize textOk t = p
  cases isWordD a <;> cases isWordD b <;> cases isWordD d <;> cases p <;> first | rfl | (cases x <;> cases y <;> cases z <;> cases n <;> rfl)
theorem e_s_ReqOk_8 (s a b d : Int) (t : List Int) (K : Ret → Option Ret) : evF E_s_ReqOk true F.s_ReqOk [.a (reqR.cells .no (8, s, a, b, d, t))] K =
  (bif (decide (s < 1)) then K ((.s (.bool false)), []) else (bif (decide (s > 8)) then K ((.s (.bool false)), []) else (bif (!(isWordD a)) then K ((.s (.bool false)), []) else (bif (!(isWordD b)) then K ((.s (.bool false)), []) else (bif (!(isWordD d)) then K ((.s (.bool false)), []) else (bif fitB t then (bif (!(textOk t)) then K ((.s (.bool false)), []) else (bif (decide (((List.length t : Nat) : Int) > 100)) then K ((.s (.bool false)), []) else (bif (b != (0 : Int)) then K ((.s (.bool false)), []) else (bif (d != (0 : Int)) then K ((.s (.bool false)), []) else K ((.s (.bool (decide (((List.length t : Nat) : Int) > 0)))), []))))) else none)))))) := by kernel_rfl
theorem v_s_ReqOk_8 (s a b d : Int) (t : List Int) (h : fitB t = true) (K : Ret → Option Ret) : evF E_s_ReqOk true F.s_ReqOk [.a (reqR.cells .no (8, s, a, b, d, t))] K = K (bl (reqOkD (8, s, a, b, d, t)), []) := by
  refine (e_s_ReqOk_8 s a b d t K).trans ?_
  unfold reqOkD
  simp only [bne, h]
  by_cases h3 : s < 1
  · rw [decide_eq_true h3, decide_eq_false (show ¬ 1 ≤ s by omega)]; rfl
  by_cases h4 : s > 8
  · rw [decide_eq_false h3, decide_eq_true h4, decide_eq_true (show 1 ≤ s by omega), decide_eq_false (show ¬ s ≤ 8 by omega)]; rfl
  rw [decide_eq_false h3, decide_eq_false h4, decide_eq_true (show 1 ≤ s by omega), decide_eq_true (show s ≤ 8 by omega)]
  by_cases h5 : ((t.length : Nat) : Int) > 100
  · rw [decide_eq_true h5, decide_eq_false (show ¬ ((t.length : Nat) : Int) ≤ 100 by omega)]
    cases isWordD a <;> cases isWordD b <;> cases isWordD d <;> cases textOk t <;> rfl
  rw [decide_eq_false h5, decide_eq_true (show ((t.length : Nat) : Int) ≤ 100 by omega)]
  unfold reqKindD
  generalize decide (((t.length : Nat) : Int) > 0) = n
  generalize (a == 0) = x
  generalize (b == 0) = y
  generalize (d == 0) = z
  generalize textOk t = p
  cases isWordD a <;> cases isWordD b <;> cases isWordD d <;> cases p <;> first | rfl | (cases x <;> cases y <;> cases z <;> cases n <;> rfl)
theorem e_s_ReqOk_9 (s a b d : Int) (t : List Int) (K : Ret → Option Ret) : evF E_s_ReqOk true F.s_ReqOk [.a (reqR.cells .no (9, s, a, b, d, t))] K =
  (bif (decide (s < 1)) then K ((.s (.bool false)), []) else (bif (decide (s > 8)) then K ((.s (.bool false)), []) else (bif (!(isWordD a)) then K ((.s (.bool false)), []) else (bif (!(isWordD b)) then K ((.s (.bool false)), []) else (bif (!(isWordD d)) then K ((.s (.bool false)), []) else (bif fitB t then (bif (!(textOk t)) then K ((.s (.bool false)), []) else (bif (decide (((List.length t : Nat) : Int) > 100)) then K ((.s (.bool false)), []) else (bif (b != (0 : Int)) then K ((.s (.bool false)), []) else (bif (d != (0 : Int)) then K ((.s (.bool false)), []) else (bif (decide (((List.length t : Nat) : Int) > 0)) then K ((.s (.bool false)), []) else K ((.s (.bool true)), [])))))) else none)))))) := by kernel_rfl
theorem v_s_ReqOk_9 (s a b d : Int) (t : List Int) (h : fitB t = true) (K : Ret → Option Ret) : evF E_s_ReqOk true F.s_ReqOk [.a (reqR.cells .no (9, s, a, b, d, t))] K = K (bl (reqOkD (9, s, a, b, d, t)), []) := by
  refine (e_s_ReqOk_9 s a b d t K).trans ?_
  unfold reqOkD
  simp only [bne, h]
  by_cases h3 : s < 1
  · rw [decide_eq_true h3, decide_eq_false (show ¬ 1 ≤ s by omega)]; rfl
  by_cases h4 : s > 8
  · rw [decide_eq_false h3, decide_eq_true h4, decide_eq_true (show 1 ≤ s by omega), decide_eq_false (show ¬ s ≤ 8 by omega)]; rfl
  rw [decide_eq_false h3, decide_eq_false h4, decide_eq_true (show 1 ≤ s by omega), decide_eq_true (show s ≤ 8 by omega)]
  by_cases h5 : ((t.length : Nat) : Int) > 100
  · rw [decide_eq_true h5, decide_eq_false (show ¬ ((t.length : Nat) : Int) ≤ 100 by omega)]
    cases isWordD a <;> cases isWordD b <;> cases isWordD d <;> cases textOk t <;> rfl
  rw [decide_eq_false h5, decide_eq_true (show ((t.length : Nat) : Int) ≤ 100 by omega)]
  unfold reqKindD
  generalize decide (((t.length : Nat) : Int) > 0) = n
  generalize (a == 0) = x
  generalize (b == 0) = y
  generalize (d == 0) = z
  generalize textOk t = p
  cases isWordD a <;> cases isWordD b <;> cases isWordD d <;> cases p <;> first | rfl | (cases x <;> cases y <;> cases z <;> cases n <;> rfl)
theorem e_s_ReqOk_10 (s a b d : Int) (t : List Int) (K : Ret → Option Ret) : evF E_s_ReqOk true F.s_ReqOk [.a (reqR.cells .no (10, s, a, b, d, t))] K =
  (bif (decide (s < 1)) then K ((.s (.bool false)), []) else (bif (decide (s > 8)) then K ((.s (.bool false)), []) else (bif (!(isWordD a)) then K ((.s (.bool false)), []) else (bif (!(isWordD b)) then K ((.s (.bool false)), []) else (bif (!(isWordD d)) then K ((.s (.bool false)), []) else (bif fitB t then (bif (!(textOk t)) then K ((.s (.bool false)), []) else (bif (decide (((List.length t : Nat) : Int) > 100)) then K ((.s (.bool false)), []) else (bif (d != (0 : Int)) then K ((.s (.bool false)), []) else (bif (decide (((List.length t : Nat) : Int) > 0)) then K ((.s (.bool false)), []) else K ((.s (.bool true)), []))))) else none)))))) := by kernel_rfl
theorem v_s_ReqOk_10 (s a b d : Int) (t : List Int) (h : fitB t = true) (K : Ret → Option Ret) : evF E_s_ReqOk true F.s_ReqOk [.a (reqR.cells .no (10, s, a, b, d, t))] K = K (bl (reqOkD (10, s, a, b, d, t)), []) := by
  refine (e_s_ReqOk_10 s a b d t K).trans ?_
  unfold reqOkD
  simp only [bne, h]
  by_cases h3 : s < 1
  · rw [decide_eq_true h3, decide_eq_false (show ¬ 1 ≤ s by omega)]; rfl
  by_cases h4 : s > 8
  · rw [decide_eq_false h3, decide_eq_true h4, decide_eq_true (show 1 ≤ s by omega), decide_eq_false (show ¬ s ≤ 8 by omega)]; rfl
  rw [decide_eq_false h3, decide_eq_false h4, decide_eq_true (show 1 ≤ s by omega), decide_eq_true (show s ≤ 8 by omega)]
  by_cases h5 : ((t.length : Nat) : Int) > 100
  · rw [decide_eq_true h5, decide_eq_false (show ¬ ((t.length : Nat) : Int) ≤ 100 by omega)]
    cases isWordD a <;> cases isWordD b <;> cases isWordD d <;> cases textOk t <;> rfl
  rw [decide_eq_false h5, decide_eq_true (show ((t.length : Nat) : Int) ≤ 100 by omega)]
  unfold reqKindD
  generalize decide (((t.length : Nat) : Int) > 0) = n
  generalize (a == 0) = x
  generalize (b == 0) = y
  generalize (d == 0) = z
  generalize textOk t = p
  cases isWordD a <;> cases isWordD b <;> cases isWordD d <;> cases p <;> first | rfl | (cases x <;> cases y <;> cases z <;> cases n <;> rfl)
theorem e_s_ReqOk_11 (s a b d : Int) (t : List Int) (K : Ret → Option Ret) : evF E_s_ReqOk true F.s_ReqOk [.a (reqR.cells .no (11, s, a, b, d, t))] K =
  (bif (decide (s < 1)) then K ((.s (.bool false)), []) else (bif (decide (s > 8)) then K ((.s (.bool false)), []) else (bif (!(isWordD a)) then K ((.s (.bool false)), []) else (bif (!(isWordD b)) then K ((.s (.bool false)), []) else (bif (!(isWordD d)) then K ((.s (.bool false)), []) else (bif fitB t then (bif (!(textOk t)) then K ((.s (.bool false)), []) else (bif (decide (((List.length t : Nat) : Int) > 100)) then K ((.s (.bool false)), []) else (bif (d != (0 : Int)) then K ((.s (.bool false)), []) else (bif (decide (((List.length t : Nat) : Int) > 0)) then K ((.s (.bool false)), []) else K ((.s (.bool true)), []))))) else none)))))) := by kernel_rfl
theorem v_s_ReqOk_11 (s a b d : Int) (t : List Int) (h : fitB t = true) (K : Ret → Option Ret) : evF E_s_ReqOk true F.s_ReqOk [.a (reqR.cells .no (11, s, a, b, d, t))] K = K (bl (reqOkD (11, s, a, b, d, t)), []) := by
  refine (e_s_ReqOk_11 s a b d t K).trans ?_
  unfold reqOkD
  simp only [bne, h]
  by_cases h3 : s < 1
  · rw [decide_eq_true h3, decide_eq_false (show ¬ 1 ≤ s by omega)]; rfl
  by_cases h4 : s > 8
  · rw [decide_eq_false h3, decide_eq_true h4, decide_eq_true (show 1 ≤ s by omega), decide_eq_false (show ¬ s ≤ 8 by omega)]; rfl
  rw [decide_eq_false h3, decide_eq_false h4, decide_eq_true (show 1 ≤ s by omega), decide_eq_true (show s ≤ 8 by omega)]
  by_cases h5 : ((t.length : Nat) : Int) > 100
  · rw [decide_eq_true h5, decide_eq_false (show ¬ ((t.length : Nat) : Int) ≤ 100 by omega)]
    cases isWordD a <;> cases isWordD b <;> cases isWordD d <;> cases textOk t <;> rfl
  rw [decide_eq_false h5, decide_eq_true (show ((t.length : Nat) : Int) ≤ 100 by omega)]
  unfold reqKindD
  generalize decide (((t.length : Nat) : Int) > 0) = n
  generalize (a == 0) = x
  generalize (b == 0) = y
  generalize (d == 0) = z
  generalize textOk t = p
  cases isWordD a <;> cases isWordD b <;> cases isWordD d <;> cases p <;> first | rfl | (cases x <;> cases y <;> cases z <;> cases n <;> rfl)
theorem e_s_ReqOk_12 (s a b d : Int) (t : List Int) (K : Ret → Option Ret) : evF E_s_ReqOk true F.s_ReqOk [.a (reqR.cells .no (12, s, a, b, d, t))] K =
  (bif (decide (s < 1)) then K ((.s (.bool false)), []) else (bif (decide (s > 8)) then K ((.s (.bool false)), []) else (bif (!(isWordD a)) then K ((.s (.bool false)), []) else (bif (!(isWordD b)) then K ((.s (.bool false)), []) else (bif (!(isWordD d)) then K ((.s (.bool false)), []) else (bif fitB t then (bif (!(textOk t)) then K ((.s (.bool false)), []) else (bif (decide (((List.length t : Nat) : Int) > 100)) then K ((.s (.bool false)), []) else (bif (decide (((List.length t : Nat) : Int) > 0)) then K ((.s (.bool false)), []) else K ((.s (.bool true)), [])))) else none)))))) := by kernel_rfl
theorem v_s_ReqOk_12 (s a b d : Int) (t : List Int) (h : fitB t = true) (K : Ret → Option Ret) : evF E_s_ReqOk true F.s_ReqOk [.a (reqR.cells .no (12, s, a, b, d, t))] K = K (bl (reqOkD (12, s, a, b, d, t)), []) := by
  refine (e_s_ReqOk_12 s a b d t K).trans ?_
  unfold reqOkD
  simp only [bne, h]
  by_cases h3 : s < 1
  · rw [decide_eq_true h3, decide_eq_false (show ¬ 1 ≤ s by omega)]; rfl
  by_cases h4 : s > 8
  · rw [decide_eq_false h3, decide_eq_true h4, decide_eq_true (show 1 ≤ s by omega), decide_eq_false (show ¬ s ≤ 8 by omega)]; rfl
  rw [decide_eq_false h3, decide_eq_false h4, decide_eq_true (show 1 ≤ s by omega), decide_eq_true (show s ≤ 8 by omega)]
  by_cases h5 : ((t.length : Nat) : Int) > 100
  · rw [decide_eq_true h5, decide_eq_false (show ¬ ((t.length : Nat) : Int) ≤ 100 by omega)]
    cases isWordD a <;> cases isWordD b <;> cases isWordD d <;> cases textOk t <;> rfl
  rw [decide_eq_false h5, decide_eq_true (show ((t.length : Nat) : Int) ≤ 100 by omega)]
  unfold reqKindD
  generalize decide (((t.length : Nat) : Int) > 0) = n
  generalize (a == 0) = x
  generalize (b == 0) = y
  generalize (d == 0) = z
  generalize textOk t = p
  cases isWordD a <;> cases isWordD b <;> cases isWordD d <;> cases p <;> first | rfl | (cases x <;> cases y <;> cases z <;> cases n <;> rfl)
theorem e_s_ReqOk_13 (s a b d : Int) (t : List Int) (K : Ret → Option Ret) : evF E_s_ReqOk true F.s_ReqOk [.a (reqR.cells .no (13, s, a, b, d, t))] K =
  (bif (decide (s < 1)) then K ((.s (.bool false)), []) else (bif (decide (s > 8)) then K ((.s (.bool false)), []) else (bif (!(isWordD a)) then K ((.s (.bool false)), []) else (bif (!(isWordD b)) then K ((.s (.bool false)), []) else (bif (!(isWordD d)) then K ((.s (.bool false)), []) else (bif fitB t then (bif (!(textOk t)) then K ((.s (.bool false)), []) else (bif (decide (((List.length t : Nat) : Int) > 100)) then K ((.s (.bool false)), []) else (bif (decide (((List.length t : Nat) : Int) > 0)) then K ((.s (.bool false)), []) else K ((.s (.bool true)), [])))) else none)))))) := by kernel_rfl
theorem v_s_ReqOk_13 (s a b d : Int) (t : List Int) (h : fitB t = true) (K : Ret → Option Ret) : evF E_s_ReqOk true F.s_ReqOk [.a (reqR.cells .no (13, s, a, b, d, t))] K = K (bl (reqOkD (13, s, a, b, d, t)), []) := by
  refine (e_s_ReqOk_13 s a b d t K).trans ?_
  unfold reqOkD
  simp only [bne, h]
  by_cases h3 : s < 1
  · rw [decide_eq_true h3, decide_eq_false (show ¬ 1 ≤ s by omega)]; rfl
  by_cases h4 : s > 8
  · rw [decide_eq_false h3, decide_eq_true h4, decide_eq_true (show 1 ≤ s by omega), decide_eq_false (show ¬ s ≤ 8 by omega)]; rfl
  rw [decide_eq_false h3, decide_eq_false h4, decide_eq_true (show 1 ≤ s by omega), decide_eq_true (show s ≤ 8 by omega)]
  by_cases h5 : ((t.length : Nat) : Int) > 100
  · rw [decide_eq_true h5, decide_eq_false (show ¬ ((t.length : Nat) : Int) ≤ 100 by omega)]
    cases isWordD a <;> cases isWordD b <;> cases isWordD d <;> cases textOk t <;> rfl
  rw [decide_eq_false h5, decide_eq_true (show ((t.length : Nat) : Int) ≤ 100 by omega)]
  unfold reqKindD
  generalize decide (((t.length : Nat) : Int) > 0) = n
  generalize (a == 0) = x
  generalize (b == 0) = y
  generalize (d == 0) = z
  generalize textOk t = p
  cases isWordD a <;> cases isWordD b <;> cases isWordD d <;> cases p <;> first | rfl | (cases x <;> cases y <;> cases z <;> cases n <;> rfl)
theorem e_s_ReqOk_14 (s a b d : Int) (t : List Int) (K : Ret → Option Ret) : evF E_s_ReqOk true F.s_ReqOk [.a (reqR.cells .no (14, s, a, b, d, t))] K =
  (bif (decide (s < 1)) then K ((.s (.bool false)), []) else (bif (decide (s > 8)) then K ((.s (.bool false)), []) else (bif (!(isWordD a)) then K ((.s (.bool false)), []) else (bif (!(isWordD b)) then K ((.s (.bool false)), []) else (bif (!(isWordD d)) then K ((.s (.bool false)), []) else (bif fitB t then (bif (!(textOk t)) then K ((.s (.bool false)), []) else (bif (decide (((List.length t : Nat) : Int) > 100)) then K ((.s (.bool false)), []) else (bif (d != (0 : Int)) then K ((.s (.bool false)), []) else (bif (decide (((List.length t : Nat) : Int) > 0)) then K ((.s (.bool false)), []) else K ((.s (.bool true)), []))))) else none)))))) := by kernel_rfl
theorem v_s_ReqOk_14 (s a b d : Int) (t : List Int) (h : fitB t = true) (K : Ret → Option Ret) : evF E_s_ReqOk true F.s_ReqOk [.a (reqR.cells .no (14, s, a, b, d, t))] K = K (bl (reqOkD (14, s, a, b, d, t)), []) := by
  refine (e_s_ReqOk_14 s a b d t K).trans ?_
  unfold reqOkD
  simp only [bne, h]
  by_cases h3 : s < 1
  · rw [decide_eq_true h3, decide_eq_false (show ¬ 1 ≤ s by omega)]; rfl
  by_cases h4 : s > 8
  · rw [decide_eq_false h3, decide_eq_true h4, decide_eq_true (show 1 ≤ s by omega), decide_eq_false (show ¬ s ≤ 8 by omega)]; rfl
  rw [decide_eq_false h3, decide_eq_false h4, decide_eq_true (show 1 ≤ s by omega), decide_eq_true (show s ≤ 8 by omega)]
  by_cases h5 : ((t.length : Nat) : Int) > 100
  · rw [decide_eq_true h5, decide_eq_false (show ¬ ((t.length : Nat) : Int) ≤ 100 by omega)]
    cases isWordD a <;> cases isWordD b <;> cases isWordD d <;> cases textOk t <;> rfl
  rw [decide_eq_false h5, decide_eq_true (show ((t.length : Nat) : Int) ≤ 100 by omega)]
  unfold reqKindD
  generalize decide (((t.length : Nat) : Int) > 0) = n
  generalize (a == 0) = x
  generalize (b == 0) = y
  generalize (d == 0) = z
  generalize textOk t = p
  cases isWordD a <;> cases isWordD b <;> cases isWordD d <;> cases p <;> first | rfl | (cases x <;> cases y <;> cases z <;> cases n <;> rfl)
theorem e_s_ReqOk_15 (s a b d : Int) (t : List Int) (K : Ret → Option Ret) : evF E_s_ReqOk true F.s_ReqOk [.a (reqR.cells .no (15, s, a, b, d, t))] K =
  (bif (decide (s < 1)) then K ((.s (.bool false)), []) else (bif (decide (s > 8)) then K ((.s (.bool false)), []) else (bif (!(isWordD a)) then K ((.s (.bool false)), []) else (bif (!(isWordD b)) then K ((.s (.bool false)), []) else (bif (!(isWordD d)) then K ((.s (.bool false)), []) else (bif fitB t then (bif (!(textOk t)) then K ((.s (.bool false)), []) else (bif (decide (((List.length t : Nat) : Int) > 100)) then K ((.s (.bool false)), []) else (bif (a != (0 : Int)) then K ((.s (.bool false)), []) else (bif (b != (0 : Int)) then K ((.s (.bool false)), []) else (bif (d != (0 : Int)) then K ((.s (.bool false)), []) else (bif (decide (((List.length t : Nat) : Int) > 0)) then K ((.s (.bool false)), []) else K ((.s (.bool true)), []))))))) else none)))))) := by kernel_rfl
theorem v_s_ReqOk_15 (s a b d : Int) (t : List Int) (h : fitB t = true) (K : Ret → Option Ret) : evF E_s_ReqOk true F.s_ReqOk [.a (reqR.cells .no (15, s, a, b, d, t))] K = K (bl (reqOkD (15, s, a, b, d, t)), []) := by
  refine (e_s_ReqOk_15 s a b d t K).trans ?_
  unfold reqOkD
  simp only [bne, h]
  by_cases h3 : s < 1
  · rw [decide_eq_true h3, decide_eq_false (show ¬ 1 ≤ s by omega)]; rfl
  by_cases h4 : s > 8
  · rw [decide_eq_false h3, decide_eq_true h4, decide_eq_true (show 1 ≤ s by omega), decide_eq_false (show ¬ s ≤ 8 by omega)]; rfl
  rw [decide_eq_false h3, decide_eq_false h4, decide_eq_true (show 1 ≤ s by omega), decide_eq_true (show s ≤ 8 by omega)]
  by_cases h5 : ((t.length : Nat) : Int) > 100
  · rw [decide_eq_true h5, decide_eq_false (show ¬ ((t.length : Nat) : Int) ≤ 100 by omega)]
    cases isWordD a <;> cases isWordD b <;> cases isWordD d <;> cases textOk t <;> rfl
  rw [decide_eq_false h5, decide_eq_true (show ((t.length : Nat) : Int) ≤ 100 by omega)]
  unfold reqKindD
  generalize decide (((t.length : Nat) : Int) > 0) = n
  generalize (a == 0) = x
  generalize (b == 0) = y
  generalize (d == 0) = z
  generalize textOk t = p
  cases isWordD a <;> cases isWordD b <;> cases isWordD d <;> cases p <;> first | rfl | (cases x <;> cases y <;> cases z <;> cases n <;> rfl)
theorem e_s_ReqOk_16 (s a b d : Int) (t : List Int) (K : Ret → Option Ret) : evF E_s_ReqOk true F.s_ReqOk [.a (reqR.cells .no (16, s, a, b, d, t))] K =
  (bif (decide (s < 1)) then K ((.s (.bool false)), []) else (bif (decide (s > 8)) then K ((.s (.bool false)), []) else (bif (!(isWordD a)) then K ((.s (.bool false)), []) else (bif (!(isWordD b)) then K ((.s (.bool false)), []) else (bif (!(isWordD d)) then K ((.s (.bool false)), []) else (bif fitB t then (bif (!(textOk t)) then K ((.s (.bool false)), []) else (bif (decide (((List.length t : Nat) : Int) > 100)) then K ((.s (.bool false)), []) else (bif (a != (0 : Int)) then K ((.s (.bool false)), []) else (bif (b != (0 : Int)) then K ((.s (.bool false)), []) else (bif (d != (0 : Int)) then K ((.s (.bool false)), []) else (bif (decide (((List.length t : Nat) : Int) > 0)) then K ((.s (.bool false)), []) else K ((.s (.bool true)), []))))))) else none)))))) := by kernel_rfl
theorem v_s_ReqOk_16 (s a b d : Int) (t : List Int) (h : fitB t = true) (K : Ret → Option Ret) : evF E_s_ReqOk true F.s_ReqOk [.a (reqR.cells .no (16, s, a, b, d, t))] K = K (bl (reqOkD (16, s, a, b, d, t)), []) := by
  refine (e_s_ReqOk_16 s a b d t K).trans ?_
  unfold reqOkD
  simp only [bne, h]
  by_cases h3 : s < 1
  · rw [decide_eq_true h3, decide_eq_false (show ¬ 1 ≤ s by omega)]; rfl
  by_cases h4 : s > 8
  · rw [decide_eq_false h3, decide_eq_true h4, decide_eq_true (show 1 ≤ s by omega), decide_eq_false (show ¬ s ≤ 8 by omega)]; rfl
  rw [decide_eq_false h3, decide_eq_false h4, decide_eq_true (show 1 ≤ s by omega), decide_eq_true (show s ≤ 8 by omega)]
  by_cases h5 : ((t.length : Nat) : Int) > 100
  · rw [decide_eq_true h5, decide_eq_false (show ¬ ((t.length : Nat) : Int) ≤ 100 by omega)]
    cases isWordD a <;> cases isWordD b <;> cases isWordD d <;> cases textOk t <;> rfl
  rw [decide_eq_false h5, decide_eq_true (show ((t.length : Nat) : Int) ≤ 100 by omega)]
  unfold reqKindD
  generalize decide (((t.length : Nat) : Int) > 0) = n
  generalize (a == 0) = x
  generalize (b == 0) = y
  generalize (d == 0) = z
  generalize textOk t = p
  cases isWordD a <;> cases isWordD b <;> cases isWordD d <;> cases p <;> first | rfl | (cases x <;> cases y <;> cases z <;> cases n <;> rfl)
theorem v_s_ReqOk (r : T_Req) (h : fitB r.2.2.2.2.2 = true) (K : Ret → Option Ret) : ∃ G', OkFn prog I N.s_ReqOk true G' ∧ G' [.a (reqR.cells .no r)] K = K (bl (reqOkD r), []) := by
  obtain ⟨k, s, a, b, d, t⟩ := r
  by_cases h1 : k < 1
  · refine ⟨_, ok1_s_ReqOk, (e1_s_ReqOk (k, s, a, b, d, t) K).trans ?_⟩
    unfold reqOkD
    rw [decide_eq_true h1, decide_eq_false (show ¬ 1 ≤ k by omega)]; rfl
  by_cases h2 : k > 16
  · refine ⟨_, ok1_s_ReqOk, (e1_s_ReqOk (k, s, a, b, d, t) K).trans ?_⟩
    unfold reqOkD
    rw [decide_eq_false h1, decide_eq_true h2, decide_eq_true (show 1 ≤ k by omega), decide_eq_false (show ¬ k ≤ 16 by omega)]; rfl
  refine ⟨_, ok0_s_ReqOk, ?_⟩
  rcases kinds (k := k) (by omega) (by omega) with rfl | rfl | rfl | rfl | rfl | rfl | rfl | rfl | rfl | rfl | rfl | rfl | rfl | rfl | rfl | rfl
  · exact v_s_ReqOk_1 s a b d t h K
  · exact v_s_ReqOk_2 s a b d t h K
  · exact v_s_ReqOk_3 s a b d t h K
  · exact v_s_ReqOk_4 s a b d t h K
  · exact v_s_ReqOk_5 s a b d t h K
  · exact v_s_ReqOk_6 s a b d t h K
  · exact v_s_ReqOk_7 s a b d t h K
  · exact v_s_ReqOk_8 s a b d t h K
  · exact v_s_ReqOk_9 s a b d t h K
  · exact v_s_ReqOk_10 s a b d t h K
  · exact v_s_ReqOk_11 s a b d t h K
  · exact v_s_ReqOk_12 s a b d t h K
  · exact v_s_ReqOk_13 s a b d t h K
  · exact v_s_ReqOk_14 s a b d t h K
  · exact v_s_ReqOk_15 s a b d t h K
  · exact v_s_ReqOk_16 s a b d t h K
def S_s_ReqOk : Sm := S_fn [.a reqR] (fun d => fitB d.1.2.2.2.2.2) (fun d => bl (reqOkD d.1))
theorem okS_s_ReqOk : OkFn prog I N.s_ReqOk true S_s_ReqOk := OkFn.weak (fun ws K q hr => by
  unfold S_s_ReqOk S_fn at hr
  split at hr
  · rename_i dd hd
    have hw := sgD_ok _ hd
    replace hr : (bif fitB dd.1.2.2.2.2.2 then K (bl (reqOkD dd.1), []) else none) = some q := hr
    cases hp : fitB dd.1.2.2.2.2.2 with
    | false => rw [hp] at hr; cases hr
    | true =>
    rw [hp] at hr
    obtain ⟨G', g1, g2⟩ := v_s_ReqOk dd.1 hp K
    exact ⟨G', g1, by rw [hw]; exact g2.trans hr⟩
  · cases hr) ok0_s_ReqOk.1
end Go.Ev.Seat
end
section
/- s_l09Two: its contract. -/
namespace Go.Ev.Seat
open Go.RowKit
set_option maxRecDepth 100000
set_option linter.unusedVariables false
set_option linter.unusedSimpArgs false
noncomputable abbrev E_s_l09Two : Env := En [] [] [] [] false 0 []
noncomputable def T_s_l09Two (n : Int) (K : Ret → Option Ret) : Option Ret :=
 K ((.l .deep bytesR ((IntKind.wrap .u8 (IntKind.wrap .i64 (Int.tdiv n (256 : Int)))) :: ((IntKind.wrap .u8 (Int.tmod n (256 : Int))) :: ([] : List Int)))), [])
theorem e_s_l09Two (n : Int) (K : Ret → Option Ret) : evF E_s_l09Two true F.s_l09Two [.s (.int .i64 n)] K = T_s_l09Two n K := by kernel_rfl
def S_s_l09Two : Sm := S_fnR [.i] (fun d => isWordD d.1) (fun d => (.l .deep bytesR (wordD d.1), []))
theorem v_s_l09Two (n : Int) (h : (isWordD n) = true) (K : Ret → Option Ret) : T_s_l09Two n K = K (.l .deep bytesR (wordD n), []) := by
  have h' := isWordD_iff.1 h
  unfold T_s_l09Two wordD
  rw [Int.tdiv_eq_ediv_of_nonneg (by omega), Int.tmod_eq_emod_of_nonneg (by omega), wrap_in (by omega) (by omega), wrap8 (by omega) (by omega), wrap8 (by omega) (by omega)]
theorem okS_s_l09Two : OkFn prog I N.s_l09Two true S_s_l09Two := okN (ok_fn mem0 (l := []) (p := []) (ls := []) (lend := []) (focus := false) (fuel := 0) (give := []) (fn := F.s_l09Two) (by kernel_rfl) (by kernel_rfl) (by kernel_rfl) (by kernel_rfl) (cs := []) (by kernel_rfl) loops0) (S_fnR_of fun d K h => (e_s_l09Two d.1 K).trans (v_s_l09Two d.1 h K))
end Go.Ev.Seat
end
section
/- s_ReqBytes: its contract. -/
namespace Go.Ev.Seat
open Go.RowKit
set_option maxRecDepth 100000
set_option linter.unusedVariables false
set_option linter.unusedSimpArgs false
noncomputable abbrev E_s_ReqBytes : Env := En [(N.s_ReqOk, true, S_s_ReqOk), (N.s_l09Two, true, S_s_l09Two)] [(3, takeB [0, 1, 2, 3, 4, 5, 7, 8] (.fork (.more 6 (.fork (.one 9 (.fork (.one 10 (takes [11]))))) (.one 9 (.fork (.one 6 (.fork (.one 10 (takes [11])))))))), []), (4, takeB [0, 1, 2, 5, 6] (.fork (.one 3 (.fork (.one 4 (.fork (.one 7 (.fork (.one 8 (takes [9]))))))))), [3]), (5, takeB [0, 1, 2, 3, 4, 7, 8] (.fork (.one 5 (.fork (.one 6 (.fork (.one 9 (takes [10]))))))), [3])] [] [] false 0 []
noncomputable def T_s_ReqBytes (r : T_Req) (K : Ret → Option Ret) : Option Ret :=
 (bif (fitB r.2.2.2.2.2) then
 (bif (!(reqOkD r)) then
  K ((.l .deep bytesR ([] : List Int)), [])
  else (meet
   ((bif (isWordD r.2.2.1) then
    (bif (isWordD r.2.2.2.1) then
     (bif (isWordD r.2.2.2.2.1) then
      (bif (Nat.ble (((List.length ((((((IntKind.wrap .u8 r.1) :: ((IntKind.wrap .u8 r.2.1) :: ([] : List Int))) ++ (wordD r.2.2.1)) ++ (wordD r.2.2.2.1)) ++ (wordD r.2.2.2.2.1)) ++ ((IntKind.wrap .u8 (((List.length r.2.2.2.2.2) : Nat) : Int)) :: ([] : List Int)))) + (List.length r.2.2.2.2.2)) * 1) 140737488355328) then
       K ((.l .deep bytesR (((((((IntKind.wrap .u8 r.1) :: ((IntKind.wrap .u8 r.2.1) :: ([] : List Int))) ++ (wordD r.2.2.1)) ++ (wordD r.2.2.2.1)) ++ (wordD r.2.2.2.2.1)) ++ ((IntKind.wrap .u8 (((List.length r.2.2.2.2.2) : Nat) : Int)) :: ([] : List Int))) ++ r.2.2.2.2.2)), [])
       else none)
      else none)
     else none)
    else none))
   ((bif (isWordD r.2.2.1) then
    (bif (isWordD r.2.2.2.1) then
     (bif (isWordD r.2.2.2.2.1) then
      (bif (Nat.ble (((List.length ((((((IntKind.wrap .u8 r.1) :: ((IntKind.wrap .u8 r.2.1) :: ([] : List Int))) ++ (wordD r.2.2.1)) ++ (wordD r.2.2.2.1)) ++ (wordD r.2.2.2.2.1)) ++ ((IntKind.wrap .u8 (((List.length r.2.2.2.2.2) : Nat) : Int)) :: ([] : List Int)))) + (List.length r.2.2.2.2.2)) * 1) 140737488355328) then
       K ((.l .deep bytesR (((((((IntKind.wrap .u8 r.1) :: ((IntKind.wrap .u8 r.2.1) :: ([] : List Int))) ++ (wordD r.2.2.1)) ++ (wordD r.2.2.2.1)) ++ (wordD r.2.2.2.2.1)) ++ ((IntKind.wrap .u8 (((List.length r.2.2.2.2.2) : Nat) : Int)) :: ([] : List Int))) ++ r.2.2.2.2.2)), [])
       else none)
      else none)
     else none)
    else none))))
 else none)
theorem e_s_ReqBytes (r : T_Req) (K : Ret → Option Ret) : evF E_s_ReqBytes true F.s_ReqBytes [.a (reqR.cells .no r)] K = T_s_ReqBytes r K := by kernel_rfl
def S_s_ReqBytes : Sm := S_fnR [.a reqR] (fun d => fitB d.1.2.2.2.2.2) (fun d => (.l .deep bytesR (reqBytesD d.1), []))
theorem v_s_ReqBytes (r : T_Req) (h : (fitB r.2.2.2.2.2) = true) (K : Ret → Option Ret) : T_s_ReqBytes r K = K (.l .deep bytesR (reqBytesD r), []) := by
  unfold T_s_ReqBytes reqBytesD
  rw [h]
  cases hk : reqOkD r with
  | false => rfl
  | true =>
  obtain ⟨a0, a1, s0, s1, l1, q1, q2, q3⟩ := reqOkD_q hk
  rw [q1, q2, q3, wrap8_mod, wrap8_mod, wrap8_mod, Int.emod_eq_of_lt a0 a1, Int.emod_eq_of_lt s0 s1, Int.emod_eq_of_lt (b := 256) (a := ((r.2.2.2.2.2.length : Nat) : Int)) (by omega) (by omega)]
  simp only [cond_true, meet_self]
  rw [Nat.ble_eq_true_of_le (by simp [wordD]; omega)]
  rfl
theorem okS_s_ReqBytes : OkFn prog I N.s_ReqBytes true S_s_ReqBytes := okN (ok_fn (memc okS_s_ReqOk (memc okS_s_l09Two mem0)) (l := [(N.s_ReqOk, true, S_s_ReqOk), (N.s_l09Two, true, S_s_l09Two)]) (p := [(3, takeB [0, 1, 2, 3, 4, 5, 7, 8] (.fork (.more 6 (.fork (.one 9 (.fork (.one 10 (takes [11]))))) (.one 9 (.fork (.one 6 (.fork (.one 10 (takes [11])))))))), []), (4, takeB [0, 1, 2, 5, 6] (.fork (.one 3 (.fork (.one 4 (.fork (.one 7 (.fork (.one 8 (takes [9]))))))))), [3]), (5, takeB [0, 1, 2, 3, 4, 7, 8] (.fork (.one 5 (.fork (.one 6 (.fork (.one 9 (takes [10]))))))), [3])]) (ls := []) (lend := []) (focus := false) (fuel := 0) (give := []) (fn := F.s_ReqBytes) (by kernel_rfl) (by kernel_rfl) (by kernel_rfl) (by kernel_rfl) (cs := []) (by kernel_rfl) loops0) (S_fnR_of fun d K h => (e_s_ReqBytes d.1 K).trans (v_s_ReqBytes d.1 h K))
end Go.Ev.Seat
end
section
/- What is known of an argument: bytes are bytes, and it is small. -/
set_option linter.unusedVariables false
namespace Go.Ev.Seat
open Go.RowKit
mutual
def fitC : (c : Cc) → c.T → Bool
  | .int .u8, n => isB n
  | .int _, _ => true
  | .bool, _ => true
  | .str, _ => true
  | .sl r, xs => Nat.ble xs.length 1048576 && xs.all (fitR r)
def fitR : (r : Rw) → r.T → Bool
  | .one c, d => fitC c d
  | .cons c r, d => fitC c d.1 && fitR r d.2
end
mutual
theorem fitC_of : (c : Cc) → (d : c.T) → c.wf d → c.lim d = true → fitC c d = true
  | .int k, n, h, _ => by
    cases k <;> simp only [fitC]
    have h' : (Lit.int .u8 n).wf = true := h
    simp only [Lit.wf, Bool.and_eq_true, decide_eq_true_eq] at h'
    have a : IntKind.u8.min = 0 := rfl
    have b : IntKind.u8.max = 255 := rfl
    rw [a, b] at h'
    simp only [isB, Bool.and_eq_true, decide_eq_true_eq]
    exact h'
  | .bool, _, _, _ => rfl
  | .str, _, _, _ => rfl
  | .sl r, xs, h, g => by
    simp only [Cc.lim, Bool.and_eq_true, List.all_eq_true] at g
    simp only [fitC, Bool.and_eq_true, List.all_eq_true]
    exact ⟨g.1, fun x hx => fitR_of r x (h.2 x hx) (g.2 x hx)⟩
theorem fitR_of : (r : Rw) → (d : r.T) → r.wf d → r.lim d = true → fitR r d = true
  | .one c, d, h, g => fitC_of c d h g
  | .cons c r, d, h, g => by
    simp only [Rw.lim, Bool.and_eq_true] at g
    simp only [fitR, Bool.and_eq_true]
    exact ⟨fitC_of c d.1 h.1 g.1, fitR_of r d.2 h.2 g.2⟩
end
theorem fitB_fit {b : List Int} (h : fitC (.sl bytesR) b = true) : fitB b = true := h
theorem fitR_snd {c : Cc} {r : Rw} {d : (Rw.cons c r).T} (h : fitR (.cons c r) d = true) : fitR r d.2 = true := ((Bool.and_eq_true _ _).mp h).2
theorem fitR_fst {c : Cc} {r : Rw} {d : (Rw.cons c r).T} (h : fitR (.cons c r) d = true) : fitC c d.1 = true := ((Bool.and_eq_true _ _).mp h).1
theorem fitC_mem {r : Rw} {l : List r.T} (h : fitC (.sl r) l = true) {x : r.T} (hx : x ∈ l) : fitR r x = true := by
  simp only [fitC, Bool.and_eq_true, List.all_eq_true] at h
  exact h.2 x hx
theorem fitC_len {r : Rw} {l : List r.T} (h : fitC (.sl r) l = true) : l.length ≤ 1048576 := by
  simp only [fitC, Bool.and_eq_true] at h
  exact Nat.le_of_ble_eq_true h.1
theorem bytes_w0 : ∀ (b : List Int), sumW (Rw.one (.int .u8)).w b = 0
  | [] => rfl
  | x :: b => by simp only [sumW, bytes_w0 b]; rfl
theorem bytes_w (b : List Int) : (Cc.sl bytesR).w b = b.length := by
  show b.length + sumW (Rw.one (.int .u8)).w b = _
  rw [bytes_w0 b]; rfl
theorem bytes_lim {b : List Int} (h : b.length ≤ 1048576) : (Cc.sl bytesR).lim b = true := by
  simp only [Cc.lim, Bool.and_eq_true, List.all_eq_true]
  exact ⟨Nat.ble_eq_true_of_le h, fun _ _ => rfl⟩
theorem lw_len {xs : List Int} {Z R : Option Ret} (h : xs.length ≤ 1048576 → R = Z) : (bif decide (((xs.length : Nat) : Int) > 1048576) then Z else R) = Z := by
  by_cases q : ((xs.length : Nat) : Int) > 1048576
  · rw [decide_eq_true q]; rfl
  · rw [decide_eq_false q]; exact h (by omega)
theorem bytes_le {b : List Int} {n : Nat} (h : b.length ≤ n) (hn : n ≤ 1099511627776) : (Cc.sl bytesR).w b ≤ 1099511627776 := by
  rw [bytes_w]; omega
theorem docNew_w (t : List Int) : docR.w (docNewD t) ≤ 1099511627776 := by
  have h := startD_len t
  show (Cc.sl bytesR).w (startD t) + ((Cc.sl bytesR).w (startD t) + 0) ≤ _
  rw [bytes_w]; omega
theorem machNew_w (t : List Int) : machR.w (startD t, startD t, [], 0, [], [], []) ≤ 1099511627776 := by
  have h := startD_len t
  show (Cc.sl bytesR).w (startD t) + ((Cc.sl bytesR).w (startD t) + 0) ≤ _
  rw [bytes_w]; omega
theorem reqParse_w {d : List Int} (h : (Cc.sl bytesR).w d ≤ 1048576) : reqR.w (reqParseD d).1 ≤ 1099511627776 := by
  rw [bytes_w] at h
  have e : ∀ r : T_Req, reqR.w r = 0 + (0 + (0 + (0 + (0 + (Cc.sl bytesR).w r.2.2.2.2.2)))) := fun _ => rfl
  have hd : (d.drop 9).length ≤ 1048576 := by simp; omega
  rw [e, bytes_w]
  unfold reqParseD
  cases decide (((d.length : Nat) : Int) < 9) with
  | true => simp
  | false =>
    cases reqOkD (reqOf d) && decide (((d.length : Nat) : Int) = 9 + d.getD 8 0) with
    | true => show 0 + (0 + (0 + (0 + (0 + (d.drop 9).length)))) ≤ _; omega
    | false => simp
end Go.Ev.Seat
end
section
/- s_ReqParse: its contract. -/
namespace Go.Ev.Seat
open Go.RowKit
set_option maxRecDepth 100000
set_option linter.unusedVariables false
set_option linter.unusedSimpArgs false
noncomputable abbrev E_s_ReqParse : Env := En [(N.s_l09At, true, S_s_l09At), (N.s_ReqOk, true, S_s_ReqOk), (N.s_ReqBytes, true, S_s_ReqBytes)] [(3, takeB [0, 1, 2, 3, 4, 5, 6, 7, 8, 10, 12, 15, 16] (.fork (.more 9 (.fork (.more 11 (.fork (.more 13 (.fork (.more 14 (.fork (.more 17 (takeB [18] (.fork (.one 19 (.fork (.one 20 (.done)))))) (.one 19 (.fork (.one 17 (takeB [18] (.fork (.one 20 (.done))))))))) (.one 19 (.fork (.one 14 (.fork (.one 17 (takeB [18] (.fork (.one 20 (.done))))))))))) (.more 14 (.fork (.more 13 (.fork (.more 17 (takeB [18] (.fork (.one 19 (.fork (.one 20 (.done)))))) (.one 19 (.fork (.one 17 (takeB [18] (.fork (.one 20 (.done))))))))) (.one 19 (.fork (.one 13 (.fork (.one 17 (takeB [18] (.fork (.one 20 (.done))))))))))) (.one 19 (.fork (.more 13 (.fork (.one 14 (.fork (.one 17 (takeB [18] (.fork (.one 20 (.done)))))))) (.one 14 (.fork (.one 13 (.fork (.one 17 (takeB [18] (.fork (.one 20 (.done))))))))))))))) (.more 14 (.fork (.more 11 (.fork (.more 13 (.fork (.more 17 (takeB [18] (.fork (.one 19 (.fork (.one 20 (.done)))))) (.one 19 (.fork (.one 17 (takeB [18] (.fork (.one 20 (.done))))))))) (.one 19 (.fork (.one 13 (.fork (.one 17 (takeB [18] (.fork (.one 20 (.done))))))))))) (.one 19 (.fork (.one 11 (.fork (.one 13 (.fork (.one 17 (takeB [18] (.fork (.one 20 (.done))))))))))))) (.one 19 (.fork (.more 11 (.fork (.more 13 (.fork (.one 14 (.fork (.one 17 (takeB [18] (.fork (.one 20 (.done)))))))) (.one 14 (.fork (.one 13 (.fork (.one 17 (takeB [18] (.fork (.one 20 (.done))))))))))) (.one 14 (.fork (.one 11 (.fork (.one 13 (.fork (.one 17 (takeB [18] (.fork (.one 20 (.done))))))))))))))))) (.more 14 (.fork (.more 9 (.fork (.more 11 (.fork (.more 13 (.fork (.more 17 (takeB [18] (.fork (.one 19 (.fork (.one 20 (.done)))))) (.one 19 (.fork (.one 17 (takeB [18] (.fork (.one 20 (.done))))))))) (.one 19 (.fork (.one 13 (.fork (.one 17 (takeB [18] (.fork (.one 20 (.done))))))))))) (.one 19 (.fork (.one 11 (.fork (.one 13 (.fork (.one 17 (takeB [18] (.fork (.one 20 (.done))))))))))))) (.one 19 (.fork (.one 9 (.fork (.one 11 (.fork (.one 13 (.fork (.one 17 (takeB [18] (.fork (.one 20 (.done))))))))))))))) (.one 19 (.fork (.more 9 (.fork (.more 11 (.fork (.more 13 (.fork (.one 14 (.fork (.one 17 (takeB [18] (.fork (.one 20 (.done)))))))) (.one 14 (.fork (.one 13 (.fork (.one 17 (takeB [18] (.fork (.one 20 (.done))))))))))) (.one 14 (.fork (.one 11 (.fork (.one 13 (.fork (.one 17 (takeB [18] (.fork (.one 20 (.done))))))))))))) (.one 14 (.fork (.one 9 (.fork (.one 11 (.fork (.one 13 (.fork (.one 17 (takeB [18] (.fork (.one 20 (.done))))))))))))))))))), []), (4, takeB [0] (.fork (.one 1 (takeB [2, 3, 4, 7] (.fork (.more 5 (.fork (.more 6 (.fork (.one 8 (takes [9, 10]))) (.one 8 (.fork (.one 6 (takes [9, 10])))))) (.one 8 (.fork (.one 5 (.fork (.one 6 (takes [9, 10]))))))))))), [])] [] [] false 0 []
noncomputable def T_s_ReqParse (d : List Int) (K : Ret → Option Ret) : Option Ret :=
 (bif (decide ((((List.length d) : Nat) : Int) < (9 : Int))) then
 K ((.t [(.a [(.s (.int .i64 (0 : Int))), (.s (.int .i64 (0 : Int))), (.s (.int .i64 (0 : Int))), (.s (.int .i64 (0 : Int))), (.s (.int .i64 (0 : Int))), (.l .deep bytesR ([] : List Int))]), (.s (.bool false))]), [])
 else (bif (decide ((0 : Int) < (((List.length d) : Nat) : Int))) then
  (bif (decide ((1 : Int) < (((List.length d) : Nat) : Int))) then
   (bif (decide ((9 : Int) ≤ (((List.length d) : Nat) : Int))) then
    (meet
     ((bif (((fitB d) && true) && (decide (((2 : Int) + (1 : Int)) < (((List.length d) : Nat) : Int)))) then
      (meet
       ((bif (((fitB d) && true) && (decide (((4 : Int) + (1 : Int)) < (((List.length d) : Nat) : Int)))) then
        (meet
         ((bif (((fitB d) && true) && (decide (((6 : Int) + (1 : Int)) < (((List.length d) : Nat) : Int)))) then
          (meet
           ((meet
            ((bif (Nat.ble (((List.length ([] : List Int)) + (List.length (List.drop 9 d))) * 1) 140737488355328) then
             (bif (fitB (([] : List Int) ++ (List.drop 9 d))) then
              (bif (!(reqOkD ((IntKind.wrap .i64 (List.getD d 0 (0 : Int))), ((IntKind.wrap .i64 (List.getD d 1 (0 : Int))), ((atD d (2 : Int)), ((atD d (4 : Int)), ((atD d (6 : Int)), (([] : List Int) ++ (List.drop 9 d))))))))) then
               (meet
                ((meet
                 (K ((.t [(.a [(.s (.int .i64 (0 : Int))), (.s (.int .i64 (0 : Int))), (.s (.int .i64 (0 : Int))), (.s (.int .i64 (0 : Int))), (.s (.int .i64 (0 : Int))), (.l .deep bytesR ([] : List Int))]), (.s (.bool false))]), []))
                 (K ((.t [(.a [(.s (.int .i64 (0 : Int))), (.s (.int .i64 (0 : Int))), (.s (.int .i64 (0 : Int))), (.s (.int .i64 (0 : Int))), (.s (.int .i64 (0 : Int))), (.l .deep bytesR ([] : List Int))]), (.s (.bool false))]), []))))
                (K ((.t [(.a [(.s (.int .i64 (0 : Int))), (.s (.int .i64 (0 : Int))), (.s (.int .i64 (0 : Int))), (.s (.int .i64 (0 : Int))), (.s (.int .i64 (0 : Int))), (.l .deep bytesR ([] : List Int))]), (.s (.bool false))]), [])))
               else (meet
                ((bif (fitB (([] : List Int) ++ (List.drop 9 d))) then
                 (meet
                  ((bif (!((ByteArray.toList (bstr (reqBytesD ((IntKind.wrap .i64 (List.getD d 0 (0 : Int))), ((IntKind.wrap .i64 (List.getD d 1 (0 : Int))), ((atD d (2 : Int)), ((atD d (4 : Int)), ((atD d (6 : Int)), (([] : List Int) ++ (List.drop 9 d)))))))))) == (ByteArray.toList (bstr d)))) then
                   K ((.t [(.a [(.s (.int .i64 (0 : Int))), (.s (.int .i64 (0 : Int))), (.s (.int .i64 (0 : Int))), (.s (.int .i64 (0 : Int))), (.s (.int .i64 (0 : Int))), (.l .deep bytesR ([] : List Int))]), (.s (.bool false))]), [])
                   else K ((.t [(.a [(.s (.int .i64 (IntKind.wrap .i64 (List.getD d 0 (0 : Int))))), (.s (.int .i64 (IntKind.wrap .i64 (List.getD d 1 (0 : Int))))), (.s (.int .i64 (atD d (2 : Int)))), (.s (.int .i64 (atD d (4 : Int)))), (.s (.int .i64 (atD d (6 : Int)))), (.l .deep bytesR (([] : List Int) ++ (List.drop 9 d)))]), (.s (.bool true))]), [])))
                  ((bif (!((ByteArray.toList (bstr (reqBytesD ((IntKind.wrap .i64 (List.getD d 0 (0 : Int))), ((IntKind.wrap .i64 (List.getD d 1 (0 : Int))), ((atD d (2 : Int)), ((atD d (4 : Int)), ((atD d (6 : Int)), (([] : List Int) ++ (List.drop 9 d)))))))))) == (ByteArray.toList (bstr d)))) then
                   K ((.t [(.a [(.s (.int .i64 (0 : Int))), (.s (.int .i64 (0 : Int))), (.s (.int .i64 (0 : Int))), (.s (.int .i64 (0 : Int))), (.s (.int .i64 (0 : Int))), (.l .deep bytesR ([] : List Int))]), (.s (.bool false))]), [])
                   else K ((.t [(.a [(.s (.int .i64 (IntKind.wrap .i64 (List.getD d 0 (0 : Int))))), (.s (.int .i64 (IntKind.wrap .i64 (List.getD d 1 (0 : Int))))), (.s (.int .i64 (atD d (2 : Int)))), (.s (.int .i64 (atD d (4 : Int)))), (.s (.int .i64 (atD d (6 : Int)))), (.l .deep bytesR (([] : List Int) ++ (List.drop 9 d)))]), (.s (.bool true))]), []))))
                 else none))
                ((bif (fitB (([] : List Int) ++ (List.drop 9 d))) then
                 (bif (!((ByteArray.toList (bstr (reqBytesD ((IntKind.wrap .i64 (List.getD d 0 (0 : Int))), ((IntKind.wrap .i64 (List.getD d 1 (0 : Int))), ((atD d (2 : Int)), ((atD d (4 : Int)), ((atD d (6 : Int)), (([] : List Int) ++ (List.drop 9 d)))))))))) == (ByteArray.toList (bstr d)))) then
                  K ((.t [(.a [(.s (.int .i64 (0 : Int))), (.s (.int .i64 (0 : Int))), (.s (.int .i64 (0 : Int))), (.s (.int .i64 (0 : Int))), (.s (.int .i64 (0 : Int))), (.l .deep bytesR ([] : List Int))]), (.s (.bool false))]), [])
                  else K ((.t [(.a [(.s (.int .i64 (IntKind.wrap .i64 (List.getD d 0 (0 : Int))))), (.s (.int .i64 (IntKind.wrap .i64 (List.getD d 1 (0 : Int))))), (.s (.int .i64 (atD d (2 : Int)))), (.s (.int .i64 (atD d (4 : Int)))), (.s (.int .i64 (atD d (6 : Int)))), (.l .deep bytesR (([] : List Int) ++ (List.drop 9 d)))]), (.s (.bool true))]), []))
                 else none))))
              else none)
             else none))
            ((bif (Nat.ble (((List.length ([] : List Int)) + (List.length (List.drop 9 d))) * 1) 140737488355328) then
             (bif (fitB (([] : List Int) ++ (List.drop 9 d))) then
              (bif (!(reqOkD ((IntKind.wrap .i64 (List.getD d 0 (0 : Int))), ((IntKind.wrap .i64 (List.getD d 1 (0 : Int))), ((atD d (2 : Int)), ((atD d (4 : Int)), ((atD d (6 : Int)), (([] : List Int) ++ (List.drop 9 d))))))))) then
               (meet
                ((meet
                 (K ((.t [(.a [(.s (.int .i64 (0 : Int))), (.s (.int .i64 (0 : Int))), (.s (.int .i64 (0 : Int))), (.s (.int .i64 (0 : Int))), (.s (.int .i64 (0 : Int))), (.l .deep bytesR ([] : List Int))]), (.s (.bool false))]), []))
                 (K ((.t [(.a [(.s (.int .i64 (0 : Int))), (.s (.int .i64 (0 : Int))), (.s (.int .i64 (0 : Int))), (.s (.int .i64 (0 : Int))), (.s (.int .i64 (0 : Int))), (.l .deep bytesR ([] : List Int))]), (.s (.bool false))]), []))))
                (K ((.t [(.a [(.s (.int .i64 (0 : Int))), (.s (.int .i64 (0 : Int))), (.s (.int .i64 (0 : Int))), (.s (.int .i64 (0 : Int))), (.s (.int .i64 (0 : Int))), (.l .deep bytesR ([] : List Int))]), (.s (.bool false))]), [])))
               else (meet
                ((bif (fitB (([] : List Int) ++ (List.drop 9 d))) then
                 (meet
                  ((bif (!((ByteArray.toList (bstr (reqBytesD ((IntKind.wrap .i64 (List.getD d 0 (0 : Int))), ((IntKind.wrap .i64 (List.getD d 1 (0 : Int))), ((atD d (2 : Int)), ((atD d (4 : Int)), ((atD d (6 : Int)), (([] : List Int) ++ (List.drop 9 d)))))))))) == (ByteArray.toList (bstr d)))) then
                   K ((.t [(.a [(.s (.int .i64 (0 : Int))), (.s (.int .i64 (0 : Int))), (.s (.int .i64 (0 : Int))), (.s (.int .i64 (0 : Int))), (.s (.int .i64 (0 : Int))), (.l .deep bytesR ([] : List Int))]), (.s (.bool false))]), [])
                   else K ((.t [(.a [(.s (.int .i64 (IntKind.wrap .i64 (List.getD d 0 (0 : Int))))), (.s (.int .i64 (IntKind.wrap .i64 (List.getD d 1 (0 : Int))))), (.s (.int .i64 (atD d (2 : Int)))), (.s (.int .i64 (atD d (4 : Int)))), (.s (.int .i64 (atD d (6 : Int)))), (.l .deep bytesR (([] : List Int) ++ (List.drop 9 d)))]), (.s (.bool true))]), [])))
                  ((bif (!((ByteArray.toList (bstr (reqBytesD ((IntKind.wrap .i64 (List.getD d 0 (0 : Int))), ((IntKind.wrap .i64 (List.getD d 1 (0 : Int))), ((atD d (2 : Int)), ((atD d (4 : Int)), ((atD d (6 : Int)), (([] : List Int) ++ (List.drop 9 d)))))))))) == (ByteArray.toList (bstr d)))) then
                   K ((.t [(.a [(.s (.int .i64 (0 : Int))), (.s (.int .i64 (0 : Int))), (.s (.int .i64 (0 : Int))), (.s (.int .i64 (0 : Int))), (.s (.int .i64 (0 : Int))), (.l .deep bytesR ([] : List Int))]), (.s (.bool false))]), [])
                   else K ((.t [(.a [(.s (.int .i64 (IntKind.wrap .i64 (List.getD d 0 (0 : Int))))), (.s (.int .i64 (IntKind.wrap .i64 (List.getD d 1 (0 : Int))))), (.s (.int .i64 (atD d (2 : Int)))), (.s (.int .i64 (atD d (4 : Int)))), (.s (.int .i64 (atD d (6 : Int)))), (.l .deep bytesR (([] : List Int) ++ (List.drop 9 d)))]), (.s (.bool true))]), []))))
                 else none))
                ((bif (fitB (([] : List Int) ++ (List.drop 9 d))) then
                 (bif (!((ByteArray.toList (bstr (reqBytesD ((IntKind.wrap .i64 (List.getD d 0 (0 : Int))), ((IntKind.wrap .i64 (List.getD d 1 (0 : Int))), ((atD d (2 : Int)), ((atD d (4 : Int)), ((atD d (6 : Int)), (([] : List Int) ++ (List.drop 9 d)))))))))) == (ByteArray.toList (bstr d)))) then
                  K ((.t [(.a [(.s (.int .i64 (0 : Int))), (.s (.int .i64 (0 : Int))), (.s (.int .i64 (0 : Int))), (.s (.int .i64 (0 : Int))), (.s (.int .i64 (0 : Int))), (.l .deep bytesR ([] : List Int))]), (.s (.bool false))]), [])
                  else K ((.t [(.a [(.s (.int .i64 (IntKind.wrap .i64 (List.getD d 0 (0 : Int))))), (.s (.int .i64 (IntKind.wrap .i64 (List.getD d 1 (0 : Int))))), (.s (.int .i64 (atD d (2 : Int)))), (.s (.int .i64 (atD d (4 : Int)))), (.s (.int .i64 (atD d (6 : Int)))), (.l .deep bytesR (([] : List Int) ++ (List.drop 9 d)))]), (.s (.bool true))]), []))
                 else none))))
              else none)
             else none))))
           ((bif (Nat.ble (((List.length ([] : List Int)) + (List.length (List.drop 9 d))) * 1) 140737488355328) then
            (bif (fitB (([] : List Int) ++ (List.drop 9 d))) then
             (bif (!(reqOkD ((IntKind.wrap .i64 (List.getD d 0 (0 : Int))), ((IntKind.wrap .i64 (List.getD d 1 (0 : Int))), ((atD d (2 : Int)), ((atD d (4 : Int)), ((atD d (6 : Int)), (([] : List Int) ++ (List.drop 9 d))))))))) then
              (meet
               ((meet
                (K ((.t [(.a [(.s (.int .i64 (0 : Int))), (.s (.int .i64 (0 : Int))), (.s (.int .i64 (0 : Int))), (.s (.int .i64 (0 : Int))), (.s (.int .i64 (0 : Int))), (.l .deep bytesR ([] : List Int))]), (.s (.bool false))]), []))
                (K ((.t [(.a [(.s (.int .i64 (0 : Int))), (.s (.int .i64 (0 : Int))), (.s (.int .i64 (0 : Int))), (.s (.int .i64 (0 : Int))), (.s (.int .i64 (0 : Int))), (.l .deep bytesR ([] : List Int))]), (.s (.bool false))]), []))))
               (K ((.t [(.a [(.s (.int .i64 (0 : Int))), (.s (.int .i64 (0 : Int))), (.s (.int .i64 (0 : Int))), (.s (.int .i64 (0 : Int))), (.s (.int .i64 (0 : Int))), (.l .deep bytesR ([] : List Int))]), (.s (.bool false))]), [])))
              else (meet
               ((bif (fitB (([] : List Int) ++ (List.drop 9 d))) then
                (meet
                 ((bif (!((ByteArray.toList (bstr (reqBytesD ((IntKind.wrap .i64 (List.getD d 0 (0 : Int))), ((IntKind.wrap .i64 (List.getD d 1 (0 : Int))), ((atD d (2 : Int)), ((atD d (4 : Int)), ((atD d (6 : Int)), (([] : List Int) ++ (List.drop 9 d)))))))))) == (ByteArray.toList (bstr d)))) then
                  K ((.t [(.a [(.s (.int .i64 (0 : Int))), (.s (.int .i64 (0 : Int))), (.s (.int .i64 (0 : Int))), (.s (.int .i64 (0 : Int))), (.s (.int .i64 (0 : Int))), (.l .deep bytesR ([] : List Int))]), (.s (.bool false))]), [])
                  else K ((.t [(.a [(.s (.int .i64 (IntKind.wrap .i64 (List.getD d 0 (0 : Int))))), (.s (.int .i64 (IntKind.wrap .i64 (List.getD d 1 (0 : Int))))), (.s (.int .i64 (atD d (2 : Int)))), (.s (.int .i64 (atD d (4 : Int)))), (.s (.int .i64 (atD d (6 : Int)))), (.l .deep bytesR (([] : List Int) ++ (List.drop 9 d)))]), (.s (.bool true))]), [])))
                 ((bif (!((ByteArray.toList (bstr (reqBytesD ((IntKind.wrap .i64 (List.getD d 0 (0 : Int))), ((IntKind.wrap .i64 (List.getD d 1 (0 : Int))), ((atD d (2 : Int)), ((atD d (4 : Int)), ((atD d (6 : Int)), (([] : List Int) ++ (List.drop 9 d)))))))))) == (ByteArray.toList (bstr d)))) then
                  K ((.t [(.a [(.s (.int .i64 (0 : Int))), (.s (.int .i64 (0 : Int))), (.s (.int .i64 (0 : Int))), (.s (.int .i64 (0 : Int))), (.s (.int .i64 (0 : Int))), (.l .deep bytesR ([] : List Int))]), (.s (.bool false))]), [])
                  else K ((.t [(.a [(.s (.int .i64 (IntKind.wrap .i64 (List.getD d 0 (0 : Int))))), (.s (.int .i64 (IntKind.wrap .i64 (List.getD d 1 (0 : Int))))), (.s (.int .i64 (atD d (2 : Int)))), (.s (.int .i64 (atD d (4 : Int)))), (.s (.int .i64 (atD d (6 : Int)))), (.l .deep bytesR (([] : List Int) ++ (List.drop 9 d)))]), (.s (.bool true))]), []))))
                else none))
               ((bif (fitB (([] : List Int) ++ (List.drop 9 d))) then
                (bif (!((ByteArray.toList (bstr (reqBytesD ((IntKind.wrap .i64 (List.getD d 0 (0 : Int))), ((IntKind.wrap .i64 (List.getD d 1 (0 : Int))), ((atD d (2 : Int)), ((atD d (4 : Int)), ((atD d (6 : Int)), (([] : List Int) ++ (List.drop 9 d)))))))))) == (ByteArray.toList (bstr d)))) then
                 K ((.t [(.a [(.s (.int .i64 (0 : Int))), (.s (.int .i64 (0 : Int))), (.s (.int .i64 (0 : Int))), (.s (.int .i64 (0 : Int))), (.s (.int .i64 (0 : Int))), (.l .deep bytesR ([] : List Int))]), (.s (.bool false))]), [])
                 else K ((.t [(.a [(.s (.int .i64 (IntKind.wrap .i64 (List.getD d 0 (0 : Int))))), (.s (.int .i64 (IntKind.wrap .i64 (List.getD d 1 (0 : Int))))), (.s (.int .i64 (atD d (2 : Int)))), (.s (.int .i64 (atD d (4 : Int)))), (.s (.int .i64 (atD d (6 : Int)))), (.l .deep bytesR (([] : List Int) ++ (List.drop 9 d)))]), (.s (.bool true))]), []))
                else none))))
             else none)
            else none)))
          else none))
         ((meet
          ((meet
           ((bif (((fitB d) && true) && (decide (((6 : Int) + (1 : Int)) < (((List.length d) : Nat) : Int)))) then
            (meet
             ((bif (Nat.ble (((List.length ([] : List Int)) + (List.length (List.drop 9 d))) * 1) 140737488355328) then
              (bif (fitB (([] : List Int) ++ (List.drop 9 d))) then
               (bif (!(reqOkD ((IntKind.wrap .i64 (List.getD d 0 (0 : Int))), ((IntKind.wrap .i64 (List.getD d 1 (0 : Int))), ((atD d (2 : Int)), ((atD d (4 : Int)), ((atD d (6 : Int)), (([] : List Int) ++ (List.drop 9 d))))))))) then
                (meet
                 ((meet
                  (K ((.t [(.a [(.s (.int .i64 (0 : Int))), (.s (.int .i64 (0 : Int))), (.s (.int .i64 (0 : Int))), (.s (.int .i64 (0 : Int))), (.s (.int .i64 (0 : Int))), (.l .deep bytesR ([] : List Int))]), (.s (.bool false))]), []))
                  (K ((.t [(.a [(.s (.int .i64 (0 : Int))), (.s (.int .i64 (0 : Int))), (.s (.int .i64 (0 : Int))), (.s (.int .i64 (0 : Int))), (.s (.int .i64 (0 : Int))), (.l .deep bytesR ([] : List Int))]), (.s (.bool false))]), []))))
                 (K ((.t [(.a [(.s (.int .i64 (0 : Int))), (.s (.int .i64 (0 : Int))), (.s (.int .i64 (0 : Int))), (.s (.int .i64 (0 : Int))), (.s (.int .i64 (0 : Int))), (.l .deep bytesR ([] : List Int))]), (.s (.bool false))]), [])))
                else (meet
                 ((bif (fitB (([] : List Int) ++ (List.drop 9 d))) then
                  (meet
                   ((bif (!((ByteArray.toList (bstr (reqBytesD ((IntKind.wrap .i64 (List.getD d 0 (0 : Int))), ((IntKind.wrap .i64 (List.getD d 1 (0 : Int))), ((atD d (2 : Int)), ((atD d (4 : Int)), ((atD d (6 : Int)), (([] : List Int) ++ (List.drop 9 d)))))))))) == (ByteArray.toList (bstr d)))) then
                    K ((.t [(.a [(.s (.int .i64 (0 : Int))), (.s (.int .i64 (0 : Int))), (.s (.int .i64 (0 : Int))), (.s (.int .i64 (0 : Int))), (.s (.int .i64 (0 : Int))), (.l .deep bytesR ([] : List Int))]), (.s (.bool false))]), [])
                    else K ((.t [(.a [(.s (.int .i64 (IntKind.wrap .i64 (List.getD d 0 (0 : Int))))), (.s (.int .i64 (IntKind.wrap .i64 (List.getD d 1 (0 : Int))))), (.s (.int .i64 (atD d (2 : Int)))), (.s (.int .i64 (atD d (4 : Int)))), (.s (.int .i64 (atD d (6 : Int)))), (.l .deep bytesR (([] : List Int) ++ (List.drop 9 d)))]), (.s (.bool true))]), [])))
                   ((bif (!((ByteArray.toList (bstr (reqBytesD ((IntKind.wrap .i64 (List.getD d 0 (0 : Int))), ((IntKind.wrap .i64 (List.getD d 1 (0 : Int))), ((atD d (2 : Int)), ((atD d (4 : Int)), ((atD d (6 : Int)), (([] : List Int) ++ (List.drop 9 d)))))))))) == (ByteArray.toList (bstr d)))) then
                    K ((.t [(.a [(.s (.int .i64 (0 : Int))), (.s (.int .i64 (0 : Int))), (.s (.int .i64 (0 : Int))), (.s (.int .i64 (0 : Int))), (.s (.int .i64 (0 : Int))), (.l .deep bytesR ([] : List Int))]), (.s (.bool false))]), [])
                    else K ((.t [(.a [(.s (.int .i64 (IntKind.wrap .i64 (List.getD d 0 (0 : Int))))), (.s (.int .i64 (IntKind.wrap .i64 (List.getD d 1 (0 : Int))))), (.s (.int .i64 (atD d (2 : Int)))), (.s (.int .i64 (atD d (4 : Int)))), (.s (.int .i64 (atD d (6 : Int)))), (.l .deep bytesR (([] : List Int) ++ (List.drop 9 d)))]), (.s (.bool true))]), []))))
                  else none))
                 ((bif (fitB (([] : List Int) ++ (List.drop 9 d))) then
                  (bif (!((ByteArray.toList (bstr (reqBytesD ((IntKind.wrap .i64 (List.getD d 0 (0 : Int))), ((IntKind.wrap .i64 (List.getD d 1 (0 : Int))), ((atD d (2 : Int)), ((atD d (4 : Int)), ((atD d (6 : Int)), (([] : List Int) ++ (List.drop 9 d)))))))))) == (ByteArray.toList (bstr d)))) then
                   K ((.t [(.a [(.s (.int .i64 (0 : Int))), (.s (.int .i64 (0 : Int))), (.s (.int .i64 (0 : Int))), (.s (.int .i64 (0 : Int))), (.s (.int .i64 (0 : Int))), (.l .deep bytesR ([] : List Int))]), (.s (.bool false))]), [])
                   else K ((.t [(.a [(.s (.int .i64 (IntKind.wrap .i64 (List.getD d 0 (0 : Int))))), (.s (.int .i64 (IntKind.wrap .i64 (List.getD d 1 (0 : Int))))), (.s (.int .i64 (atD d (2 : Int)))), (.s (.int .i64 (atD d (4 : Int)))), (.s (.int .i64 (atD d (6 : Int)))), (.l .deep bytesR (([] : List Int) ++ (List.drop 9 d)))]), (.s (.bool true))]), []))
                  else none))))
               else none)
              else none))
             ((bif (Nat.ble (((List.length ([] : List Int)) + (List.length (List.drop 9 d))) * 1) 140737488355328) then
              (bif (fitB (([] : List Int) ++ (List.drop 9 d))) then
               (bif (!(reqOkD ((IntKind.wrap .i64 (List.getD d 0 (0 : Int))), ((IntKind.wrap .i64 (List.getD d 1 (0 : Int))), ((atD d (2 : Int)), ((atD d (4 : Int)), ((atD d (6 : Int)), (([] : List Int) ++ (List.drop 9 d))))))))) then
                (meet
                 ((meet
                  (K ((.t [(.a [(.s (.int .i64 (0 : Int))), (.s (.int .i64 (0 : Int))), (.s (.int .i64 (0 : Int))), (.s (.int .i64 (0 : Int))), (.s (.int .i64 (0 : Int))), (.l .deep bytesR ([] : List Int))]), (.s (.bool false))]), []))
                  (K ((.t [(.a [(.s (.int .i64 (0 : Int))), (.s (.int .i64 (0 : Int))), (.s (.int .i64 (0 : Int))), (.s (.int .i64 (0 : Int))), (.s (.int .i64 (0 : Int))), (.l .deep bytesR ([] : List Int))]), (.s (.bool false))]), []))))
                 (K ((.t [(.a [(.s (.int .i64 (0 : Int))), (.s (.int .i64 (0 : Int))), (.s (.int .i64 (0 : Int))), (.s (.int .i64 (0 : Int))), (.s (.int .i64 (0 : Int))), (.l .deep bytesR ([] : List Int))]), (.s (.bool false))]), [])))
                else (meet
                 ((bif (fitB (([] : List Int) ++ (List.drop 9 d))) then
                  (meet
                   ((bif (!((ByteArray.toList (bstr (reqBytesD ((IntKind.wrap .i64 (List.getD d 0 (0 : Int))), ((IntKind.wrap .i64 (List.getD d 1 (0 : Int))), ((atD d (2 : Int)), ((atD d (4 : Int)), ((atD d (6 : Int)), (([] : List Int) ++ (List.drop 9 d)))))))))) == (ByteArray.toList (bstr d)))) then
                    K ((.t [(.a [(.s (.int .i64 (0 : Int))), (.s (.int .i64 (0 : Int))), (.s (.int .i64 (0 : Int))), (.s (.int .i64 (0 : Int))), (.s (.int .i64 (0 : Int))), (.l .deep bytesR ([] : List Int))]), (.s (.bool false))]), [])
                    else K ((.t [(.a [(.s (.int .i64 (IntKind.wrap .i64 (List.getD d 0 (0 : Int))))), (.s (.int .i64 (IntKind.wrap .i64 (List.getD d 1 (0 : Int))))), (.s (.int .i64 (atD d (2 : Int)))), (.s (.int .i64 (atD d (4 : Int)))), (.s (.int .i64 (atD d (6 : Int)))), (.l .deep bytesR (([] : List Int) ++ (List.drop 9 d)))]), (.s (.bool true))]), [])))
                   ((bif (!((ByteArray.toList (bstr (reqBytesD ((IntKind.wrap .i64 (List.getD d 0 (0 : Int))), ((IntKind.wrap .i64 (List.getD d 1 (0 : Int))), ((atD d (2 : Int)), ((atD d (4 : Int)), ((atD d (6 : Int)), (([] : List Int) ++ (List.drop 9 d)))))))))) == (ByteArray.toList (bstr d)))) then
                    K ((.t [(.a [(.s (.int .i64 (0 : Int))), (.s (.int .i64 (0 : Int))), (.s (.int .i64 (0 : Int))), (.s (.int .i64 (0 : Int))), (.s (.int .i64 (0 : Int))), (.l .deep bytesR ([] : List Int))]), (.s (.bool false))]), [])
                    else K ((.t [(.a [(.s (.int .i64 (IntKind.wrap .i64 (List.getD d 0 (0 : Int))))), (.s (.int .i64 (IntKind.wrap .i64 (List.getD d 1 (0 : Int))))), (.s (.int .i64 (atD d (2 : Int)))), (.s (.int .i64 (atD d (4 : Int)))), (.s (.int .i64 (atD d (6 : Int)))), (.l .deep bytesR (([] : List Int) ++ (List.drop 9 d)))]), (.s (.bool true))]), []))))
                  else none))
                 ((bif (fitB (([] : List Int) ++ (List.drop 9 d))) then
                  (bif (!((ByteArray.toList (bstr (reqBytesD ((IntKind.wrap .i64 (List.getD d 0 (0 : Int))), ((IntKind.wrap .i64 (List.getD d 1 (0 : Int))), ((atD d (2 : Int)), ((atD d (4 : Int)), ((atD d (6 : Int)), (([] : List Int) ++ (List.drop 9 d)))))))))) == (ByteArray.toList (bstr d)))) then
                   K ((.t [(.a [(.s (.int .i64 (0 : Int))), (.s (.int .i64 (0 : Int))), (.s (.int .i64 (0 : Int))), (.s (.int .i64 (0 : Int))), (.s (.int .i64 (0 : Int))), (.l .deep bytesR ([] : List Int))]), (.s (.bool false))]), [])
                   else K ((.t [(.a [(.s (.int .i64 (IntKind.wrap .i64 (List.getD d 0 (0 : Int))))), (.s (.int .i64 (IntKind.wrap .i64 (List.getD d 1 (0 : Int))))), (.s (.int .i64 (atD d (2 : Int)))), (.s (.int .i64 (atD d (4 : Int)))), (.s (.int .i64 (atD d (6 : Int)))), (.l .deep bytesR (([] : List Int) ++ (List.drop 9 d)))]), (.s (.bool true))]), []))
                  else none))))
               else none)
              else none)))
            else none))
           ((bif (((fitB d) && true) && (decide (((6 : Int) + (1 : Int)) < (((List.length d) : Nat) : Int)))) then
            (bif (Nat.ble (((List.length ([] : List Int)) + (List.length (List.drop 9 d))) * 1) 140737488355328) then
             (bif (fitB (([] : List Int) ++ (List.drop 9 d))) then
              (bif (!(reqOkD ((IntKind.wrap .i64 (List.getD d 0 (0 : Int))), ((IntKind.wrap .i64 (List.getD d 1 (0 : Int))), ((atD d (2 : Int)), ((atD d (4 : Int)), ((atD d (6 : Int)), (([] : List Int) ++ (List.drop 9 d))))))))) then
               (meet
                ((meet
                 (K ((.t [(.a [(.s (.int .i64 (0 : Int))), (.s (.int .i64 (0 : Int))), (.s (.int .i64 (0 : Int))), (.s (.int .i64 (0 : Int))), (.s (.int .i64 (0 : Int))), (.l .deep bytesR ([] : List Int))]), (.s (.bool false))]), []))
                 (K ((.t [(.a [(.s (.int .i64 (0 : Int))), (.s (.int .i64 (0 : Int))), (.s (.int .i64 (0 : Int))), (.s (.int .i64 (0 : Int))), (.s (.int .i64 (0 : Int))), (.l .deep bytesR ([] : List Int))]), (.s (.bool false))]), []))))
                (K ((.t [(.a [(.s (.int .i64 (0 : Int))), (.s (.int .i64 (0 : Int))), (.s (.int .i64 (0 : Int))), (.s (.int .i64 (0 : Int))), (.s (.int .i64 (0 : Int))), (.l .deep bytesR ([] : List Int))]), (.s (.bool false))]), [])))
               else (meet
                ((bif (fitB (([] : List Int) ++ (List.drop 9 d))) then
                 (meet
                  ((bif (!((ByteArray.toList (bstr (reqBytesD ((IntKind.wrap .i64 (List.getD d 0 (0 : Int))), ((IntKind.wrap .i64 (List.getD d 1 (0 : Int))), ((atD d (2 : Int)), ((atD d (4 : Int)), ((atD d (6 : Int)), (([] : List Int) ++ (List.drop 9 d)))))))))) == (ByteArray.toList (bstr d)))) then
                   K ((.t [(.a [(.s (.int .i64 (0 : Int))), (.s (.int .i64 (0 : Int))), (.s (.int .i64 (0 : Int))), (.s (.int .i64 (0 : Int))), (.s (.int .i64 (0 : Int))), (.l .deep bytesR ([] : List Int))]), (.s (.bool false))]), [])
                   else K ((.t [(.a [(.s (.int .i64 (IntKind.wrap .i64 (List.getD d 0 (0 : Int))))), (.s (.int .i64 (IntKind.wrap .i64 (List.getD d 1 (0 : Int))))), (.s (.int .i64 (atD d (2 : Int)))), (.s (.int .i64 (atD d (4 : Int)))), (.s (.int .i64 (atD d (6 : Int)))), (.l .deep bytesR (([] : List Int) ++ (List.drop 9 d)))]), (.s (.bool true))]), [])))
                  ((bif (!((ByteArray.toList (bstr (reqBytesD ((IntKind.wrap .i64 (List.getD d 0 (0 : Int))), ((IntKind.wrap .i64 (List.getD d 1 (0 : Int))), ((atD d (2 : Int)), ((atD d (4 : Int)), ((atD d (6 : Int)), (([] : List Int) ++ (List.drop 9 d)))))))))) == (ByteArray.toList (bstr d)))) then
                   K ((.t [(.a [(.s (.int .i64 (0 : Int))), (.s (.int .i64 (0 : Int))), (.s (.int .i64 (0 : Int))), (.s (.int .i64 (0 : Int))), (.s (.int .i64 (0 : Int))), (.l .deep bytesR ([] : List Int))]), (.s (.bool false))]), [])
                   else K ((.t [(.a [(.s (.int .i64 (IntKind.wrap .i64 (List.getD d 0 (0 : Int))))), (.s (.int .i64 (IntKind.wrap .i64 (List.getD d 1 (0 : Int))))), (.s (.int .i64 (atD d (2 : Int)))), (.s (.int .i64 (atD d (4 : Int)))), (.s (.int .i64 (atD d (6 : Int)))), (.l .deep bytesR (([] : List Int) ++ (List.drop 9 d)))]), (.s (.bool true))]), []))))
                 else none))
                ((bif (fitB (([] : List Int) ++ (List.drop 9 d))) then
                 (bif (!((ByteArray.toList (bstr (reqBytesD ((IntKind.wrap .i64 (List.getD d 0 (0 : Int))), ((IntKind.wrap .i64 (List.getD d 1 (0 : Int))), ((atD d (2 : Int)), ((atD d (4 : Int)), ((atD d (6 : Int)), (([] : List Int) ++ (List.drop 9 d)))))))))) == (ByteArray.toList (bstr d)))) then
                  K ((.t [(.a [(.s (.int .i64 (0 : Int))), (.s (.int .i64 (0 : Int))), (.s (.int .i64 (0 : Int))), (.s (.int .i64 (0 : Int))), (.s (.int .i64 (0 : Int))), (.l .deep bytesR ([] : List Int))]), (.s (.bool false))]), [])
                  else K ((.t [(.a [(.s (.int .i64 (IntKind.wrap .i64 (List.getD d 0 (0 : Int))))), (.s (.int .i64 (IntKind.wrap .i64 (List.getD d 1 (0 : Int))))), (.s (.int .i64 (atD d (2 : Int)))), (.s (.int .i64 (atD d (4 : Int)))), (.s (.int .i64 (atD d (6 : Int)))), (.l .deep bytesR (([] : List Int) ++ (List.drop 9 d)))]), (.s (.bool true))]), []))
                 else none))))
              else none)
             else none)
            else none))))
          ((meet
           ((bif (((fitB d) && true) && (decide (((6 : Int) + (1 : Int)) < (((List.length d) : Nat) : Int)))) then
            (bif (Nat.ble (((List.length ([] : List Int)) + (List.length (List.drop 9 d))) * 1) 140737488355328) then
             (bif (fitB (([] : List Int) ++ (List.drop 9 d))) then
              (bif (!(reqOkD ((IntKind.wrap .i64 (List.getD d 0 (0 : Int))), ((IntKind.wrap .i64 (List.getD d 1 (0 : Int))), ((atD d (2 : Int)), ((atD d (4 : Int)), ((atD d (6 : Int)), (([] : List Int) ++ (List.drop 9 d))))))))) then
               (meet
                ((meet
                 (K ((.t [(.a [(.s (.int .i64 (0 : Int))), (.s (.int .i64 (0 : Int))), (.s (.int .i64 (0 : Int))), (.s (.int .i64 (0 : Int))), (.s (.int .i64 (0 : Int))), (.l .deep bytesR ([] : List Int))]), (.s (.bool false))]), []))
                 (K ((.t [(.a [(.s (.int .i64 (0 : Int))), (.s (.int .i64 (0 : Int))), (.s (.int .i64 (0 : Int))), (.s (.int .i64 (0 : Int))), (.s (.int .i64 (0 : Int))), (.l .deep bytesR ([] : List Int))]), (.s (.bool false))]), []))))
                (K ((.t [(.a [(.s (.int .i64 (0 : Int))), (.s (.int .i64 (0 : Int))), (.s (.int .i64 (0 : Int))), (.s (.int .i64 (0 : Int))), (.s (.int .i64 (0 : Int))), (.l .deep bytesR ([] : List Int))]), (.s (.bool false))]), [])))
               else (meet
                ((bif (fitB (([] : List Int) ++ (List.drop 9 d))) then
                 (meet
                  ((bif (!((ByteArray.toList (bstr (reqBytesD ((IntKind.wrap .i64 (List.getD d 0 (0 : Int))), ((IntKind.wrap .i64 (List.getD d 1 (0 : Int))), ((atD d (2 : Int)), ((atD d (4 : Int)), ((atD d (6 : Int)), (([] : List Int) ++ (List.drop 9 d)))))))))) == (ByteArray.toList (bstr d)))) then
                   K ((.t [(.a [(.s (.int .i64 (0 : Int))), (.s (.int .i64 (0 : Int))), (.s (.int .i64 (0 : Int))), (.s (.int .i64 (0 : Int))), (.s (.int .i64 (0 : Int))), (.l .deep bytesR ([] : List Int))]), (.s (.bool false))]), [])
                   else K ((.t [(.a [(.s (.int .i64 (IntKind.wrap .i64 (List.getD d 0 (0 : Int))))), (.s (.int .i64 (IntKind.wrap .i64 (List.getD d 1 (0 : Int))))), (.s (.int .i64 (atD d (2 : Int)))), (.s (.int .i64 (atD d (4 : Int)))), (.s (.int .i64 (atD d (6 : Int)))), (.l .deep bytesR (([] : List Int) ++ (List.drop 9 d)))]), (.s (.bool true))]), [])))
                  ((bif (!((ByteArray.toList (bstr (reqBytesD ((IntKind.wrap .i64 (List.getD d 0 (0 : Int))), ((IntKind.wrap .i64 (List.getD d 1 (0 : Int))), ((atD d (2 : Int)), ((atD d (4 : Int)), ((atD d (6 : Int)), (([] : List Int) ++ (List.drop 9 d)))))))))) == (ByteArray.toList (bstr d)))) then
                   K ((.t [(.a [(.s (.int .i64 (0 : Int))), (.s (.int .i64 (0 : Int))), (.s (.int .i64 (0 : Int))), (.s (.int .i64 (0 : Int))), (.s (.int .i64 (0 : Int))), (.l .deep bytesR ([] : List Int))]), (.s (.bool false))]), [])
                   else K ((.t [(.a [(.s (.int .i64 (IntKind.wrap .i64 (List.getD d 0 (0 : Int))))), (.s (.int .i64 (IntKind.wrap .i64 (List.getD d 1 (0 : Int))))), (.s (.int .i64 (atD d (2 : Int)))), (.s (.int .i64 (atD d (4 : Int)))), (.s (.int .i64 (atD d (6 : Int)))), (.l .deep bytesR (([] : List Int) ++ (List.drop 9 d)))]), (.s (.bool true))]), []))))
                 else none))
                ((bif (fitB (([] : List Int) ++ (List.drop 9 d))) then
                 (bif (!((ByteArray.toList (bstr (reqBytesD ((IntKind.wrap .i64 (List.getD d 0 (0 : Int))), ((IntKind.wrap .i64 (List.getD d 1 (0 : Int))), ((atD d (2 : Int)), ((atD d (4 : Int)), ((atD d (6 : Int)), (([] : List Int) ++ (List.drop 9 d)))))))))) == (ByteArray.toList (bstr d)))) then
                  K ((.t [(.a [(.s (.int .i64 (0 : Int))), (.s (.int .i64 (0 : Int))), (.s (.int .i64 (0 : Int))), (.s (.int .i64 (0 : Int))), (.s (.int .i64 (0 : Int))), (.l .deep bytesR ([] : List Int))]), (.s (.bool false))]), [])
                  else K ((.t [(.a [(.s (.int .i64 (IntKind.wrap .i64 (List.getD d 0 (0 : Int))))), (.s (.int .i64 (IntKind.wrap .i64 (List.getD d 1 (0 : Int))))), (.s (.int .i64 (atD d (2 : Int)))), (.s (.int .i64 (atD d (4 : Int)))), (.s (.int .i64 (atD d (6 : Int)))), (.l .deep bytesR (([] : List Int) ++ (List.drop 9 d)))]), (.s (.bool true))]), []))
                 else none))))
              else none)
             else none)
            else none))
           ((bif (((fitB d) && true) && (decide (((6 : Int) + (1 : Int)) < (((List.length d) : Nat) : Int)))) then
            (bif (Nat.ble (((List.length ([] : List Int)) + (List.length (List.drop 9 d))) * 1) 140737488355328) then
             (bif (fitB (([] : List Int) ++ (List.drop 9 d))) then
              (bif (!(reqOkD ((IntKind.wrap .i64 (List.getD d 0 (0 : Int))), ((IntKind.wrap .i64 (List.getD d 1 (0 : Int))), ((atD d (2 : Int)), ((atD d (4 : Int)), ((atD d (6 : Int)), (([] : List Int) ++ (List.drop 9 d))))))))) then
               (meet
                ((meet
                 (K ((.t [(.a [(.s (.int .i64 (0 : Int))), (.s (.int .i64 (0 : Int))), (.s (.int .i64 (0 : Int))), (.s (.int .i64 (0 : Int))), (.s (.int .i64 (0 : Int))), (.l .deep bytesR ([] : List Int))]), (.s (.bool false))]), []))
                 (K ((.t [(.a [(.s (.int .i64 (0 : Int))), (.s (.int .i64 (0 : Int))), (.s (.int .i64 (0 : Int))), (.s (.int .i64 (0 : Int))), (.s (.int .i64 (0 : Int))), (.l .deep bytesR ([] : List Int))]), (.s (.bool false))]), []))))
                (K ((.t [(.a [(.s (.int .i64 (0 : Int))), (.s (.int .i64 (0 : Int))), (.s (.int .i64 (0 : Int))), (.s (.int .i64 (0 : Int))), (.s (.int .i64 (0 : Int))), (.l .deep bytesR ([] : List Int))]), (.s (.bool false))]), [])))
               else (meet
                ((bif (fitB (([] : List Int) ++ (List.drop 9 d))) then
                 (meet
                  ((bif (!((ByteArray.toList (bstr (reqBytesD ((IntKind.wrap .i64 (List.getD d 0 (0 : Int))), ((IntKind.wrap .i64 (List.getD d 1 (0 : Int))), ((atD d (2 : Int)), ((atD d (4 : Int)), ((atD d (6 : Int)), (([] : List Int) ++ (List.drop 9 d)))))))))) == (ByteArray.toList (bstr d)))) then
                   K ((.t [(.a [(.s (.int .i64 (0 : Int))), (.s (.int .i64 (0 : Int))), (.s (.int .i64 (0 : Int))), (.s (.int .i64 (0 : Int))), (.s (.int .i64 (0 : Int))), (.l .deep bytesR ([] : List Int))]), (.s (.bool false))]), [])
                   else K ((.t [(.a [(.s (.int .i64 (IntKind.wrap .i64 (List.getD d 0 (0 : Int))))), (.s (.int .i64 (IntKind.wrap .i64 (List.getD d 1 (0 : Int))))), (.s (.int .i64 (atD d (2 : Int)))), (.s (.int .i64 (atD d (4 : Int)))), (.s (.int .i64 (atD d (6 : Int)))), (.l .deep bytesR (([] : List Int) ++ (List.drop 9 d)))]), (.s (.bool true))]), [])))
                  ((bif (!((ByteArray.toList (bstr (reqBytesD ((IntKind.wrap .i64 (List.getD d 0 (0 : Int))), ((IntKind.wrap .i64 (List.getD d 1 (0 : Int))), ((atD d (2 : Int)), ((atD d (4 : Int)), ((atD d (6 : Int)), (([] : List Int) ++ (List.drop 9 d)))))))))) == (ByteArray.toList (bstr d)))) then
                   K ((.t [(.a [(.s (.int .i64 (0 : Int))), (.s (.int .i64 (0 : Int))), (.s (.int .i64 (0 : Int))), (.s (.int .i64 (0 : Int))), (.s (.int .i64 (0 : Int))), (.l .deep bytesR ([] : List Int))]), (.s (.bool false))]), [])
                   else K ((.t [(.a [(.s (.int .i64 (IntKind.wrap .i64 (List.getD d 0 (0 : Int))))), (.s (.int .i64 (IntKind.wrap .i64 (List.getD d 1 (0 : Int))))), (.s (.int .i64 (atD d (2 : Int)))), (.s (.int .i64 (atD d (4 : Int)))), (.s (.int .i64 (atD d (6 : Int)))), (.l .deep bytesR (([] : List Int) ++ (List.drop 9 d)))]), (.s (.bool true))]), []))))
                 else none))
                ((bif (fitB (([] : List Int) ++ (List.drop 9 d))) then
                 (bif (!((ByteArray.toList (bstr (reqBytesD ((IntKind.wrap .i64 (List.getD d 0 (0 : Int))), ((IntKind.wrap .i64 (List.getD d 1 (0 : Int))), ((atD d (2 : Int)), ((atD d (4 : Int)), ((atD d (6 : Int)), (([] : List Int) ++ (List.drop 9 d)))))))))) == (ByteArray.toList (bstr d)))) then
                  K ((.t [(.a [(.s (.int .i64 (0 : Int))), (.s (.int .i64 (0 : Int))), (.s (.int .i64 (0 : Int))), (.s (.int .i64 (0 : Int))), (.s (.int .i64 (0 : Int))), (.l .deep bytesR ([] : List Int))]), (.s (.bool false))]), [])
                  else K ((.t [(.a [(.s (.int .i64 (IntKind.wrap .i64 (List.getD d 0 (0 : Int))))), (.s (.int .i64 (IntKind.wrap .i64 (List.getD d 1 (0 : Int))))), (.s (.int .i64 (atD d (2 : Int)))), (.s (.int .i64 (atD d (4 : Int)))), (.s (.int .i64 (atD d (6 : Int)))), (.l .deep bytesR (([] : List Int) ++ (List.drop 9 d)))]), (.s (.bool true))]), []))
                 else none))))
              else none)
             else none)
            else none)))))))
        else none))
       ((meet
        ((meet
         ((bif (((fitB d) && true) && (decide (((4 : Int) + (1 : Int)) < (((List.length d) : Nat) : Int)))) then
          (meet
           ((bif (((fitB d) && true) && (decide (((6 : Int) + (1 : Int)) < (((List.length d) : Nat) : Int)))) then
            (meet
             ((bif (Nat.ble (((List.length ([] : List Int)) + (List.length (List.drop 9 d))) * 1) 140737488355328) then
              (bif (fitB (([] : List Int) ++ (List.drop 9 d))) then
               (bif (!(reqOkD ((IntKind.wrap .i64 (List.getD d 0 (0 : Int))), ((IntKind.wrap .i64 (List.getD d 1 (0 : Int))), ((atD d (2 : Int)), ((atD d (4 : Int)), ((atD d (6 : Int)), (([] : List Int) ++ (List.drop 9 d))))))))) then
                (meet
                 ((meet
                  (K ((.t [(.a [(.s (.int .i64 (0 : Int))), (.s (.int .i64 (0 : Int))), (.s (.int .i64 (0 : Int))), (.s (.int .i64 (0 : Int))), (.s (.int .i64 (0 : Int))), (.l .deep bytesR ([] : List Int))]), (.s (.bool false))]), []))
                  (K ((.t [(.a [(.s (.int .i64 (0 : Int))), (.s (.int .i64 (0 : Int))), (.s (.int .i64 (0 : Int))), (.s (.int .i64 (0 : Int))), (.s (.int .i64 (0 : Int))), (.l .deep bytesR ([] : List Int))]), (.s (.bool false))]), []))))
                 (K ((.t [(.a [(.s (.int .i64 (0 : Int))), (.s (.int .i64 (0 : Int))), (.s (.int .i64 (0 : Int))), (.s (.int .i64 (0 : Int))), (.s (.int .i64 (0 : Int))), (.l .deep bytesR ([] : List Int))]), (.s (.bool false))]), [])))
                else (meet
                 ((bif (fitB (([] : List Int) ++ (List.drop 9 d))) then
                  (meet
                   ((bif (!((ByteArray.toList (bstr (reqBytesD ((IntKind.wrap .i64 (List.getD d 0 (0 : Int))), ((IntKind.wrap .i64 (List.getD d 1 (0 : Int))), ((atD d (2 : Int)), ((atD d (4 : Int)), ((atD d (6 : Int)), (([] : List Int) ++ (List.drop 9 d)))))))))) == (ByteArray.toList (bstr d)))) then
                    K ((.t [(.a [(.s (.int .i64 (0 : Int))), (.s (.int .i64 (0 : Int))), (.s (.int .i64 (0 : Int))), (.s (.int .i64 (0 : Int))), (.s (.int .i64 (0 : Int))), (.l .deep bytesR ([] : List Int))]), (.s (.bool false))]), [])
                    else K ((.t [(.a [(.s (.int .i64 (IntKind.wrap .i64 (List.getD d 0 (0 : Int))))), (.s (.int .i64 (IntKind.wrap .i64 (List.getD d 1 (0 : Int))))), (.s (.int .i64 (atD d (2 : Int)))), (.s (.int .i64 (atD d (4 : Int)))), (.s (.int .i64 (atD d (6 : Int)))), (.l .deep bytesR (([] : List Int) ++ (List.drop 9 d)))]), (.s (.bool true))]), [])))
                   ((bif (!((ByteArray.toList (bstr (reqBytesD ((IntKind.wrap .i64 (List.getD d 0 (0 : Int))), ((IntKind.wrap .i64 (List.getD d 1 (0 : Int))), ((atD d (2 : Int)), ((atD d (4 : Int)), ((atD d (6 : Int)), (([] : List Int) ++ (List.drop 9 d)))))))))) == (ByteArray.toList (bstr d)))) then
                    K ((.t [(.a [(.s (.int .i64 (0 : Int))), (.s (.int .i64 (0 : Int))), (.s (.int .i64 (0 : Int))), (.s (.int .i64 (0 : Int))), (.s (.int .i64 (0 : Int))), (.l .deep bytesR ([] : List Int))]), (.s (.bool false))]), [])
                    else K ((.t [(.a [(.s (.int .i64 (IntKind.wrap .i64 (List.getD d 0 (0 : Int))))), (.s (.int .i64 (IntKind.wrap .i64 (List.getD d 1 (0 : Int))))), (.s (.int .i64 (atD d (2 : Int)))), (.s (.int .i64 (atD d (4 : Int)))), (.s (.int .i64 (atD d (6 : Int)))), (.l .deep bytesR (([] : List Int) ++ (List.drop 9 d)))]), (.s (.bool true))]), []))))
                  else none))
                 ((bif (fitB (([] : List Int) ++ (List.drop 9 d))) then
                  (bif (!((ByteArray.toList (bstr (reqBytesD ((IntKind.wrap .i64 (List.getD d 0 (0 : Int))), ((IntKind.wrap .i64 (List.getD d 1 (0 : Int))), ((atD d (2 : Int)), ((atD d (4 : Int)), ((atD d (6 : Int)), (([] : List Int) ++ (List.drop 9 d)))))))))) == (ByteArray.toList (bstr d)))) then
                   K ((.t [(.a [(.s (.int .i64 (0 : Int))), (.s (.int .i64 (0 : Int))), (.s (.int .i64 (0 : Int))), (.s (.int .i64 (0 : Int))), (.s (.int .i64 (0 : Int))), (.l .deep bytesR ([] : List Int))]), (.s (.bool false))]), [])
                   else K ((.t [(.a [(.s (.int .i64 (IntKind.wrap .i64 (List.getD d 0 (0 : Int))))), (.s (.int .i64 (IntKind.wrap .i64 (List.getD d 1 (0 : Int))))), (.s (.int .i64 (atD d (2 : Int)))), (.s (.int .i64 (atD d (4 : Int)))), (.s (.int .i64 (atD d (6 : Int)))), (.l .deep bytesR (([] : List Int) ++ (List.drop 9 d)))]), (.s (.bool true))]), []))
                  else none))))
               else none)
              else none))
             ((bif (Nat.ble (((List.length ([] : List Int)) + (List.length (List.drop 9 d))) * 1) 140737488355328) then
              (bif (fitB (([] : List Int) ++ (List.drop 9 d))) then
               (bif (!(reqOkD ((IntKind.wrap .i64 (List.getD d 0 (0 : Int))), ((IntKind.wrap .i64 (List.getD d 1 (0 : Int))), ((atD d (2 : Int)), ((atD d (4 : Int)), ((atD d (6 : Int)), (([] : List Int) ++ (List.drop 9 d))))))))) then
                (meet
                 ((meet
                  (K ((.t [(.a [(.s (.int .i64 (0 : Int))), (.s (.int .i64 (0 : Int))), (.s (.int .i64 (0 : Int))), (.s (.int .i64 (0 : Int))), (.s (.int .i64 (0 : Int))), (.l .deep bytesR ([] : List Int))]), (.s (.bool false))]), []))
                  (K ((.t [(.a [(.s (.int .i64 (0 : Int))), (.s (.int .i64 (0 : Int))), (.s (.int .i64 (0 : Int))), (.s (.int .i64 (0 : Int))), (.s (.int .i64 (0 : Int))), (.l .deep bytesR ([] : List Int))]), (.s (.bool false))]), []))))
                 (K ((.t [(.a [(.s (.int .i64 (0 : Int))), (.s (.int .i64 (0 : Int))), (.s (.int .i64 (0 : Int))), (.s (.int .i64 (0 : Int))), (.s (.int .i64 (0 : Int))), (.l .deep bytesR ([] : List Int))]), (.s (.bool false))]), [])))
                else (meet
                 ((bif (fitB (([] : List Int) ++ (List.drop 9 d))) then
                  (meet
                   ((bif (!((ByteArray.toList (bstr (reqBytesD ((IntKind.wrap .i64 (List.getD d 0 (0 : Int))), ((IntKind.wrap .i64 (List.getD d 1 (0 : Int))), ((atD d (2 : Int)), ((atD d (4 : Int)), ((atD d (6 : Int)), (([] : List Int) ++ (List.drop 9 d)))))))))) == (ByteArray.toList (bstr d)))) then
                    K ((.t [(.a [(.s (.int .i64 (0 : Int))), (.s (.int .i64 (0 : Int))), (.s (.int .i64 (0 : Int))), (.s (.int .i64 (0 : Int))), (.s (.int .i64 (0 : Int))), (.l .deep bytesR ([] : List Int))]), (.s (.bool false))]), [])
                    else K ((.t [(.a [(.s (.int .i64 (IntKind.wrap .i64 (List.getD d 0 (0 : Int))))), (.s (.int .i64 (IntKind.wrap .i64 (List.getD d 1 (0 : Int))))), (.s (.int .i64 (atD d (2 : Int)))), (.s (.int .i64 (atD d (4 : Int)))), (.s (.int .i64 (atD d (6 : Int)))), (.l .deep bytesR (([] : List Int) ++ (List.drop 9 d)))]), (.s (.bool true))]), [])))
                   ((bif (!((ByteArray.toList (bstr (reqBytesD ((IntKind.wrap .i64 (List.getD d 0 (0 : Int))), ((IntKind.wrap .i64 (List.getD d 1 (0 : Int))), ((atD d (2 : Int)), ((atD d (4 : Int)), ((atD d (6 : Int)), (([] : List Int) ++ (List.drop 9 d)))))))))) == (ByteArray.toList (bstr d)))) then
                    K ((.t [(.a [(.s (.int .i64 (0 : Int))), (.s (.int .i64 (0 : Int))), (.s (.int .i64 (0 : Int))), (.s (.int .i64 (0 : Int))), (.s (.int .i64 (0 : Int))), (.l .deep bytesR ([] : List Int))]), (.s (.bool false))]), [])
                    else K ((.t [(.a [(.s (.int .i64 (IntKind.wrap .i64 (List.getD d 0 (0 : Int))))), (.s (.int .i64 (IntKind.wrap .i64 (List.getD d 1 (0 : Int))))), (.s (.int .i64 (atD d (2 : Int)))), (.s (.int .i64 (atD d (4 : Int)))), (.s (.int .i64 (atD d (6 : Int)))), (.l .deep bytesR (([] : List Int) ++ (List.drop 9 d)))]), (.s (.bool true))]), []))))
                  else none))
                 ((bif (fitB (([] : List Int) ++ (List.drop 9 d))) then
                  (bif (!((ByteArray.toList (bstr (reqBytesD ((IntKind.wrap .i64 (List.getD d 0 (0 : Int))), ((IntKind.wrap .i64 (List.getD d 1 (0 : Int))), ((atD d (2 : Int)), ((atD d (4 : Int)), ((atD d (6 : Int)), (([] : List Int) ++ (List.drop 9 d)))))))))) == (ByteArray.toList (bstr d)))) then
                   K ((.t [(.a [(.s (.int .i64 (0 : Int))), (.s (.int .i64 (0 : Int))), (.s (.int .i64 (0 : Int))), (.s (.int .i64 (0 : Int))), (.s (.int .i64 (0 : Int))), (.l .deep bytesR ([] : List Int))]), (.s (.bool false))]), [])
                   else K ((.t [(.a [(.s (.int .i64 (IntKind.wrap .i64 (List.getD d 0 (0 : Int))))), (.s (.int .i64 (IntKind.wrap .i64 (List.getD d 1 (0 : Int))))), (.s (.int .i64 (atD d (2 : Int)))), (.s (.int .i64 (atD d (4 : Int)))), (.s (.int .i64 (atD d (6 : Int)))), (.l .deep bytesR (([] : List Int) ++ (List.drop 9 d)))]), (.s (.bool true))]), []))
                  else none))))
               else none)
              else none)))
            else none))
           ((bif (((fitB d) && true) && (decide (((6 : Int) + (1 : Int)) < (((List.length d) : Nat) : Int)))) then
            (bif (Nat.ble (((List.length ([] : List Int)) + (List.length (List.drop 9 d))) * 1) 140737488355328) then
             (bif (fitB (([] : List Int) ++ (List.drop 9 d))) then
              (bif (!(reqOkD ((IntKind.wrap .i64 (List.getD d 0 (0 : Int))), ((IntKind.wrap .i64 (List.getD d 1 (0 : Int))), ((atD d (2 : Int)), ((atD d (4 : Int)), ((atD d (6 : Int)), (([] : List Int) ++ (List.drop 9 d))))))))) then
               (meet
                ((meet
                 (K ((.t [(.a [(.s (.int .i64 (0 : Int))), (.s (.int .i64 (0 : Int))), (.s (.int .i64 (0 : Int))), (.s (.int .i64 (0 : Int))), (.s (.int .i64 (0 : Int))), (.l .deep bytesR ([] : List Int))]), (.s (.bool false))]), []))
                 (K ((.t [(.a [(.s (.int .i64 (0 : Int))), (.s (.int .i64 (0 : Int))), (.s (.int .i64 (0 : Int))), (.s (.int .i64 (0 : Int))), (.s (.int .i64 (0 : Int))), (.l .deep bytesR ([] : List Int))]), (.s (.bool false))]), []))))
                (K ((.t [(.a [(.s (.int .i64 (0 : Int))), (.s (.int .i64 (0 : Int))), (.s (.int .i64 (0 : Int))), (.s (.int .i64 (0 : Int))), (.s (.int .i64 (0 : Int))), (.l .deep bytesR ([] : List Int))]), (.s (.bool false))]), [])))
               else (meet
                ((bif (fitB (([] : List Int) ++ (List.drop 9 d))) then
                 (meet
                  ((bif (!((ByteArray.toList (bstr (reqBytesD ((IntKind.wrap .i64 (List.getD d 0 (0 : Int))), ((IntKind.wrap .i64 (List.getD d 1 (0 : Int))), ((atD d (2 : Int)), ((atD d (4 : Int)), ((atD d (6 : Int)), (([] : List Int) ++ (List.drop 9 d)))))))))) == (ByteArray.toList (bstr d)))) then
                   K ((.t [(.a [(.s (.int .i64 (0 : Int))), (.s (.int .i64 (0 : Int))), (.s (.int .i64 (0 : Int))), (.s (.int .i64 (0 : Int))), (.s (.int .i64 (0 : Int))), (.l .deep bytesR ([] : List Int))]), (.s (.bool false))]), [])
                   else K ((.t [(.a [(.s (.int .i64 (IntKind.wrap .i64 (List.getD d 0 (0 : Int))))), (.s (.int .i64 (IntKind.wrap .i64 (List.getD d 1 (0 : Int))))), (.s (.int .i64 (atD d (2 : Int)))), (.s (.int .i64 (atD d (4 : Int)))), (.s (.int .i64 (atD d (6 : Int)))), (.l .deep bytesR (([] : List Int) ++ (List.drop 9 d)))]), (.s (.bool true))]), [])))
                  ((bif (!((ByteArray.toList (bstr (reqBytesD ((IntKind.wrap .i64 (List.getD d 0 (0 : Int))), ((IntKind.wrap .i64 (List.getD d 1 (0 : Int))), ((atD d (2 : Int)), ((atD d (4 : Int)), ((atD d (6 : Int)), (([] : List Int) ++ (List.drop 9 d)))))))))) == (ByteArray.toList (bstr d)))) then
                   K ((.t [(.a [(.s (.int .i64 (0 : Int))), (.s (.int .i64 (0 : Int))), (.s (.int .i64 (0 : Int))), (.s (.int .i64 (0 : Int))), (.s (.int .i64 (0 : Int))), (.l .deep bytesR ([] : List Int))]), (.s (.bool false))]), [])
                   else K ((.t [(.a [(.s (.int .i64 (IntKind.wrap .i64 (List.getD d 0 (0 : Int))))), (.s (.int .i64 (IntKind.wrap .i64 (List.getD d 1 (0 : Int))))), (.s (.int .i64 (atD d (2 : Int)))), (.s (.int .i64 (atD d (4 : Int)))), (.s (.int .i64 (atD d (6 : Int)))), (.l .deep bytesR (([] : List Int) ++ (List.drop 9 d)))]), (.s (.bool true))]), []))))
                 else none))
                ((bif (fitB (([] : List Int) ++ (List.drop 9 d))) then
                 (bif (!((ByteArray.toList (bstr (reqBytesD ((IntKind.wrap .i64 (List.getD d 0 (0 : Int))), ((IntKind.wrap .i64 (List.getD d 1 (0 : Int))), ((atD d (2 : Int)), ((atD d (4 : Int)), ((atD d (6 : Int)), (([] : List Int) ++ (List.drop 9 d)))))))))) == (ByteArray.toList (bstr d)))) then
                  K ((.t [(.a [(.s (.int .i64 (0 : Int))), (.s (.int .i64 (0 : Int))), (.s (.int .i64 (0 : Int))), (.s (.int .i64 (0 : Int))), (.s (.int .i64 (0 : Int))), (.l .deep bytesR ([] : List Int))]), (.s (.bool false))]), [])
                  else K ((.t [(.a [(.s (.int .i64 (IntKind.wrap .i64 (List.getD d 0 (0 : Int))))), (.s (.int .i64 (IntKind.wrap .i64 (List.getD d 1 (0 : Int))))), (.s (.int .i64 (atD d (2 : Int)))), (.s (.int .i64 (atD d (4 : Int)))), (.s (.int .i64 (atD d (6 : Int)))), (.l .deep bytesR (([] : List Int) ++ (List.drop 9 d)))]), (.s (.bool true))]), []))
                 else none))))
              else none)
             else none)
            else none)))
          else none))
         ((bif (((fitB d) && true) && (decide (((4 : Int) + (1 : Int)) < (((List.length d) : Nat) : Int)))) then
          (bif (((fitB d) && true) && (decide (((6 : Int) + (1 : Int)) < (((List.length d) : Nat) : Int)))) then
           (bif (Nat.ble (((List.length ([] : List Int)) + (List.length (List.drop 9 d))) * 1) 140737488355328) then
            (bif (fitB (([] : List Int) ++ (List.drop 9 d))) then
             (bif (!(reqOkD ((IntKind.wrap .i64 (List.getD d 0 (0 : Int))), ((IntKind.wrap .i64 (List.getD d 1 (0 : Int))), ((atD d (2 : Int)), ((atD d (4 : Int)), ((atD d (6 : Int)), (([] : List Int) ++ (List.drop 9 d))))))))) then
              (meet
               ((meet
                (K ((.t [(.a [(.s (.int .i64 (0 : Int))), (.s (.int .i64 (0 : Int))), (.s (.int .i64 (0 : Int))), (.s (.int .i64 (0 : Int))), (.s (.int .i64 (0 : Int))), (.l .deep bytesR ([] : List Int))]), (.s (.bool false))]), []))
                (K ((.t [(.a [(.s (.int .i64 (0 : Int))), (.s (.int .i64 (0 : Int))), (.s (.int .i64 (0 : Int))), (.s (.int .i64 (0 : Int))), (.s (.int .i64 (0 : Int))), (.l .deep bytesR ([] : List Int))]), (.s (.bool false))]), []))))
               (K ((.t [(.a [(.s (.int .i64 (0 : Int))), (.s (.int .i64 (0 : Int))), (.s (.int .i64 (0 : Int))), (.s (.int .i64 (0 : Int))), (.s (.int .i64 (0 : Int))), (.l .deep bytesR ([] : List Int))]), (.s (.bool false))]), [])))
              else (meet
               ((bif (fitB (([] : List Int) ++ (List.drop 9 d))) then
                (meet
                 ((bif (!((ByteArray.toList (bstr (reqBytesD ((IntKind.wrap .i64 (List.getD d 0 (0 : Int))), ((IntKind.wrap .i64 (List.getD d 1 (0 : Int))), ((atD d (2 : Int)), ((atD d (4 : Int)), ((atD d (6 : Int)), (([] : List Int) ++ (List.drop 9 d)))))))))) == (ByteArray.toList (bstr d)))) then
                  K ((.t [(.a [(.s (.int .i64 (0 : Int))), (.s (.int .i64 (0 : Int))), (.s (.int .i64 (0 : Int))), (.s (.int .i64 (0 : Int))), (.s (.int .i64 (0 : Int))), (.l .deep bytesR ([] : List Int))]), (.s (.bool false))]), [])
                  else K ((.t [(.a [(.s (.int .i64 (IntKind.wrap .i64 (List.getD d 0 (0 : Int))))), (.s (.int .i64 (IntKind.wrap .i64 (List.getD d 1 (0 : Int))))), (.s (.int .i64 (atD d (2 : Int)))), (.s (.int .i64 (atD d (4 : Int)))), (.s (.int .i64 (atD d (6 : Int)))), (.l .deep bytesR (([] : List Int) ++ (List.drop 9 d)))]), (.s (.bool true))]), [])))
                 ((bif (!((ByteArray.toList (bstr (reqBytesD ((IntKind.wrap .i64 (List.getD d 0 (0 : Int))), ((IntKind.wrap .i64 (List.getD d 1 (0 : Int))), ((atD d (2 : Int)), ((atD d (4 : Int)), ((atD d (6 : Int)), (([] : List Int) ++ (List.drop 9 d)))))))))) == (ByteArray.toList (bstr d)))) then
                  K ((.t [(.a [(.s (.int .i64 (0 : Int))), (.s (.int .i64 (0 : Int))), (.s (.int .i64 (0 : Int))), (.s (.int .i64 (0 : Int))), (.s (.int .i64 (0 : Int))), (.l .deep bytesR ([] : List Int))]), (.s (.bool false))]), [])
                  else K ((.t [(.a [(.s (.int .i64 (IntKind.wrap .i64 (List.getD d 0 (0 : Int))))), (.s (.int .i64 (IntKind.wrap .i64 (List.getD d 1 (0 : Int))))), (.s (.int .i64 (atD d (2 : Int)))), (.s (.int .i64 (atD d (4 : Int)))), (.s (.int .i64 (atD d (6 : Int)))), (.l .deep bytesR (([] : List Int) ++ (List.drop 9 d)))]), (.s (.bool true))]), []))))
                else none))
               ((bif (fitB (([] : List Int) ++ (List.drop 9 d))) then
                (bif (!((ByteArray.toList (bstr (reqBytesD ((IntKind.wrap .i64 (List.getD d 0 (0 : Int))), ((IntKind.wrap .i64 (List.getD d 1 (0 : Int))), ((atD d (2 : Int)), ((atD d (4 : Int)), ((atD d (6 : Int)), (([] : List Int) ++ (List.drop 9 d)))))))))) == (ByteArray.toList (bstr d)))) then
                 K ((.t [(.a [(.s (.int .i64 (0 : Int))), (.s (.int .i64 (0 : Int))), (.s (.int .i64 (0 : Int))), (.s (.int .i64 (0 : Int))), (.s (.int .i64 (0 : Int))), (.l .deep bytesR ([] : List Int))]), (.s (.bool false))]), [])
                 else K ((.t [(.a [(.s (.int .i64 (IntKind.wrap .i64 (List.getD d 0 (0 : Int))))), (.s (.int .i64 (IntKind.wrap .i64 (List.getD d 1 (0 : Int))))), (.s (.int .i64 (atD d (2 : Int)))), (.s (.int .i64 (atD d (4 : Int)))), (.s (.int .i64 (atD d (6 : Int)))), (.l .deep bytesR (([] : List Int) ++ (List.drop 9 d)))]), (.s (.bool true))]), []))
                else none))))
             else none)
            else none)
           else none)
          else none))))
        ((meet
         ((bif (((fitB d) && true) && (decide (((4 : Int) + (1 : Int)) < (((List.length d) : Nat) : Int)))) then
          (meet
           ((bif (((fitB d) && true) && (decide (((6 : Int) + (1 : Int)) < (((List.length d) : Nat) : Int)))) then
            (bif (Nat.ble (((List.length ([] : List Int)) + (List.length (List.drop 9 d))) * 1) 140737488355328) then
             (bif (fitB (([] : List Int) ++ (List.drop 9 d))) then
              (bif (!(reqOkD ((IntKind.wrap .i64 (List.getD d 0 (0 : Int))), ((IntKind.wrap .i64 (List.getD d 1 (0 : Int))), ((atD d (2 : Int)), ((atD d (4 : Int)), ((atD d (6 : Int)), (([] : List Int) ++ (List.drop 9 d))))))))) then
               (meet
                ((meet
                 (K ((.t [(.a [(.s (.int .i64 (0 : Int))), (.s (.int .i64 (0 : Int))), (.s (.int .i64 (0 : Int))), (.s (.int .i64 (0 : Int))), (.s (.int .i64 (0 : Int))), (.l .deep bytesR ([] : List Int))]), (.s (.bool false))]), []))
                 (K ((.t [(.a [(.s (.int .i64 (0 : Int))), (.s (.int .i64 (0 : Int))), (.s (.int .i64 (0 : Int))), (.s (.int .i64 (0 : Int))), (.s (.int .i64 (0 : Int))), (.l .deep bytesR ([] : List Int))]), (.s (.bool false))]), []))))
                (K ((.t [(.a [(.s (.int .i64 (0 : Int))), (.s (.int .i64 (0 : Int))), (.s (.int .i64 (0 : Int))), (.s (.int .i64 (0 : Int))), (.s (.int .i64 (0 : Int))), (.l .deep bytesR ([] : List Int))]), (.s (.bool false))]), [])))
               else (meet
                ((bif (fitB (([] : List Int) ++ (List.drop 9 d))) then
                 (meet
                  ((bif (!((ByteArray.toList (bstr (reqBytesD ((IntKind.wrap .i64 (List.getD d 0 (0 : Int))), ((IntKind.wrap .i64 (List.getD d 1 (0 : Int))), ((atD d (2 : Int)), ((atD d (4 : Int)), ((atD d (6 : Int)), (([] : List Int) ++ (List.drop 9 d)))))))))) == (ByteArray.toList (bstr d)))) then
                   K ((.t [(.a [(.s (.int .i64 (0 : Int))), (.s (.int .i64 (0 : Int))), (.s (.int .i64 (0 : Int))), (.s (.int .i64 (0 : Int))), (.s (.int .i64 (0 : Int))), (.l .deep bytesR ([] : List Int))]), (.s (.bool false))]), [])
                   else K ((.t [(.a [(.s (.int .i64 (IntKind.wrap .i64 (List.getD d 0 (0 : Int))))), (.s (.int .i64 (IntKind.wrap .i64 (List.getD d 1 (0 : Int))))), (.s (.int .i64 (atD d (2 : Int)))), (.s (.int .i64 (atD d (4 : Int)))), (.s (.int .i64 (atD d (6 : Int)))), (.l .deep bytesR (([] : List Int) ++ (List.drop 9 d)))]), (.s (.bool true))]), [])))
                  ((bif (!((ByteArray.toList (bstr (reqBytesD ((IntKind.wrap .i64 (List.getD d 0 (0 : Int))), ((IntKind.wrap .i64 (List.getD d 1 (0 : Int))), ((atD d (2 : Int)), ((atD d (4 : Int)), ((atD d (6 : Int)), (([] : List Int) ++ (List.drop 9 d)))))))))) == (ByteArray.toList (bstr d)))) then
                   K ((.t [(.a [(.s (.int .i64 (0 : Int))), (.s (.int .i64 (0 : Int))), (.s (.int .i64 (0 : Int))), (.s (.int .i64 (0 : Int))), (.s (.int .i64 (0 : Int))), (.l .deep bytesR ([] : List Int))]), (.s (.bool false))]), [])
                   else K ((.t [(.a [(.s (.int .i64 (IntKind.wrap .i64 (List.getD d 0 (0 : Int))))), (.s (.int .i64 (IntKind.wrap .i64 (List.getD d 1 (0 : Int))))), (.s (.int .i64 (atD d (2 : Int)))), (.s (.int .i64 (atD d (4 : Int)))), (.s (.int .i64 (atD d (6 : Int)))), (.l .deep bytesR (([] : List Int) ++ (List.drop 9 d)))]), (.s (.bool true))]), []))))
                 else none))
                ((bif (fitB (([] : List Int) ++ (List.drop 9 d))) then
                 (bif (!((ByteArray.toList (bstr (reqBytesD ((IntKind.wrap .i64 (List.getD d 0 (0 : Int))), ((IntKind.wrap .i64 (List.getD d 1 (0 : Int))), ((atD d (2 : Int)), ((atD d (4 : Int)), ((atD d (6 : Int)), (([] : List Int) ++ (List.drop 9 d)))))))))) == (ByteArray.toList (bstr d)))) then
                  K ((.t [(.a [(.s (.int .i64 (0 : Int))), (.s (.int .i64 (0 : Int))), (.s (.int .i64 (0 : Int))), (.s (.int .i64 (0 : Int))), (.s (.int .i64 (0 : Int))), (.l .deep bytesR ([] : List Int))]), (.s (.bool false))]), [])
                  else K ((.t [(.a [(.s (.int .i64 (IntKind.wrap .i64 (List.getD d 0 (0 : Int))))), (.s (.int .i64 (IntKind.wrap .i64 (List.getD d 1 (0 : Int))))), (.s (.int .i64 (atD d (2 : Int)))), (.s (.int .i64 (atD d (4 : Int)))), (.s (.int .i64 (atD d (6 : Int)))), (.l .deep bytesR (([] : List Int) ++ (List.drop 9 d)))]), (.s (.bool true))]), []))
                 else none))))
              else none)
             else none)
            else none))
           ((bif (((fitB d) && true) && (decide (((6 : Int) + (1 : Int)) < (((List.length d) : Nat) : Int)))) then
            (bif (Nat.ble (((List.length ([] : List Int)) + (List.length (List.drop 9 d))) * 1) 140737488355328) then
             (bif (fitB (([] : List Int) ++ (List.drop 9 d))) then
              (bif (!(reqOkD ((IntKind.wrap .i64 (List.getD d 0 (0 : Int))), ((IntKind.wrap .i64 (List.getD d 1 (0 : Int))), ((atD d (2 : Int)), ((atD d (4 : Int)), ((atD d (6 : Int)), (([] : List Int) ++ (List.drop 9 d))))))))) then
               (meet
                ((meet
                 (K ((.t [(.a [(.s (.int .i64 (0 : Int))), (.s (.int .i64 (0 : Int))), (.s (.int .i64 (0 : Int))), (.s (.int .i64 (0 : Int))), (.s (.int .i64 (0 : Int))), (.l .deep bytesR ([] : List Int))]), (.s (.bool false))]), []))
                 (K ((.t [(.a [(.s (.int .i64 (0 : Int))), (.s (.int .i64 (0 : Int))), (.s (.int .i64 (0 : Int))), (.s (.int .i64 (0 : Int))), (.s (.int .i64 (0 : Int))), (.l .deep bytesR ([] : List Int))]), (.s (.bool false))]), []))))
                (K ((.t [(.a [(.s (.int .i64 (0 : Int))), (.s (.int .i64 (0 : Int))), (.s (.int .i64 (0 : Int))), (.s (.int .i64 (0 : Int))), (.s (.int .i64 (0 : Int))), (.l .deep bytesR ([] : List Int))]), (.s (.bool false))]), [])))
               else (meet
                ((bif (fitB (([] : List Int) ++ (List.drop 9 d))) then
                 (meet
                  ((bif (!((ByteArray.toList (bstr (reqBytesD ((IntKind.wrap .i64 (List.getD d 0 (0 : Int))), ((IntKind.wrap .i64 (List.getD d 1 (0 : Int))), ((atD d (2 : Int)), ((atD d (4 : Int)), ((atD d (6 : Int)), (([] : List Int) ++ (List.drop 9 d)))))))))) == (ByteArray.toList (bstr d)))) then
                   K ((.t [(.a [(.s (.int .i64 (0 : Int))), (.s (.int .i64 (0 : Int))), (.s (.int .i64 (0 : Int))), (.s (.int .i64 (0 : Int))), (.s (.int .i64 (0 : Int))), (.l .deep bytesR ([] : List Int))]), (.s (.bool false))]), [])
                   else K ((.t [(.a [(.s (.int .i64 (IntKind.wrap .i64 (List.getD d 0 (0 : Int))))), (.s (.int .i64 (IntKind.wrap .i64 (List.getD d 1 (0 : Int))))), (.s (.int .i64 (atD d (2 : Int)))), (.s (.int .i64 (atD d (4 : Int)))), (.s (.int .i64 (atD d (6 : Int)))), (.l .deep bytesR (([] : List Int) ++ (List.drop 9 d)))]), (.s (.bool true))]), [])))
                  ((bif (!((ByteArray.toList (bstr (reqBytesD ((IntKind.wrap .i64 (List.getD d 0 (0 : Int))), ((IntKind.wrap .i64 (List.getD d 1 (0 : Int))), ((atD d (2 : Int)), ((atD d (4 : Int)), ((atD d (6 : Int)), (([] : List Int) ++ (List.drop 9 d)))))))))) == (ByteArray.toList (bstr d)))) then
                   K ((.t [(.a [(.s (.int .i64 (0 : Int))), (.s (.int .i64 (0 : Int))), (.s (.int .i64 (0 : Int))), (.s (.int .i64 (0 : Int))), (.s (.int .i64 (0 : Int))), (.l .deep bytesR ([] : List Int))]), (.s (.bool false))]), [])
                   else K ((.t [(.a [(.s (.int .i64 (IntKind.wrap .i64 (List.getD d 0 (0 : Int))))), (.s (.int .i64 (IntKind.wrap .i64 (List.getD d 1 (0 : Int))))), (.s (.int .i64 (atD d (2 : Int)))), (.s (.int .i64 (atD d (4 : Int)))), (.s (.int .i64 (atD d (6 : Int)))), (.l .deep bytesR (([] : List Int) ++ (List.drop 9 d)))]), (.s (.bool true))]), []))))
                 else none))
                ((bif (fitB (([] : List Int) ++ (List.drop 9 d))) then
                 (bif (!((ByteArray.toList (bstr (reqBytesD ((IntKind.wrap .i64 (List.getD d 0 (0 : Int))), ((IntKind.wrap .i64 (List.getD d 1 (0 : Int))), ((atD d (2 : Int)), ((atD d (4 : Int)), ((atD d (6 : Int)), (([] : List Int) ++ (List.drop 9 d)))))))))) == (ByteArray.toList (bstr d)))) then
                  K ((.t [(.a [(.s (.int .i64 (0 : Int))), (.s (.int .i64 (0 : Int))), (.s (.int .i64 (0 : Int))), (.s (.int .i64 (0 : Int))), (.s (.int .i64 (0 : Int))), (.l .deep bytesR ([] : List Int))]), (.s (.bool false))]), [])
                  else K ((.t [(.a [(.s (.int .i64 (IntKind.wrap .i64 (List.getD d 0 (0 : Int))))), (.s (.int .i64 (IntKind.wrap .i64 (List.getD d 1 (0 : Int))))), (.s (.int .i64 (atD d (2 : Int)))), (.s (.int .i64 (atD d (4 : Int)))), (.s (.int .i64 (atD d (6 : Int)))), (.l .deep bytesR (([] : List Int) ++ (List.drop 9 d)))]), (.s (.bool true))]), []))
                 else none))))
              else none)
             else none)
            else none)))
          else none))
         ((bif (((fitB d) && true) && (decide (((4 : Int) + (1 : Int)) < (((List.length d) : Nat) : Int)))) then
          (bif (((fitB d) && true) && (decide (((6 : Int) + (1 : Int)) < (((List.length d) : Nat) : Int)))) then
           (bif (Nat.ble (((List.length ([] : List Int)) + (List.length (List.drop 9 d))) * 1) 140737488355328) then
            (bif (fitB (([] : List Int) ++ (List.drop 9 d))) then
             (bif (!(reqOkD ((IntKind.wrap .i64 (List.getD d 0 (0 : Int))), ((IntKind.wrap .i64 (List.getD d 1 (0 : Int))), ((atD d (2 : Int)), ((atD d (4 : Int)), ((atD d (6 : Int)), (([] : List Int) ++ (List.drop 9 d))))))))) then
              (meet
               ((meet
                (K ((.t [(.a [(.s (.int .i64 (0 : Int))), (.s (.int .i64 (0 : Int))), (.s (.int .i64 (0 : Int))), (.s (.int .i64 (0 : Int))), (.s (.int .i64 (0 : Int))), (.l .deep bytesR ([] : List Int))]), (.s (.bool false))]), []))
                (K ((.t [(.a [(.s (.int .i64 (0 : Int))), (.s (.int .i64 (0 : Int))), (.s (.int .i64 (0 : Int))), (.s (.int .i64 (0 : Int))), (.s (.int .i64 (0 : Int))), (.l .deep bytesR ([] : List Int))]), (.s (.bool false))]), []))))
               (K ((.t [(.a [(.s (.int .i64 (0 : Int))), (.s (.int .i64 (0 : Int))), (.s (.int .i64 (0 : Int))), (.s (.int .i64 (0 : Int))), (.s (.int .i64 (0 : Int))), (.l .deep bytesR ([] : List Int))]), (.s (.bool false))]), [])))
              else (meet
               ((bif (fitB (([] : List Int) ++ (List.drop 9 d))) then
                (meet
                 ((bif (!((ByteArray.toList (bstr (reqBytesD ((IntKind.wrap .i64 (List.getD d 0 (0 : Int))), ((IntKind.wrap .i64 (List.getD d 1 (0 : Int))), ((atD d (2 : Int)), ((atD d (4 : Int)), ((atD d (6 : Int)), (([] : List Int) ++ (List.drop 9 d)))))))))) == (ByteArray.toList (bstr d)))) then
                  K ((.t [(.a [(.s (.int .i64 (0 : Int))), (.s (.int .i64 (0 : Int))), (.s (.int .i64 (0 : Int))), (.s (.int .i64 (0 : Int))), (.s (.int .i64 (0 : Int))), (.l .deep bytesR ([] : List Int))]), (.s (.bool false))]), [])
                  else K ((.t [(.a [(.s (.int .i64 (IntKind.wrap .i64 (List.getD d 0 (0 : Int))))), (.s (.int .i64 (IntKind.wrap .i64 (List.getD d 1 (0 : Int))))), (.s (.int .i64 (atD d (2 : Int)))), (.s (.int .i64 (atD d (4 : Int)))), (.s (.int .i64 (atD d (6 : Int)))), (.l .deep bytesR (([] : List Int) ++ (List.drop 9 d)))]), (.s (.bool true))]), [])))
                 ((bif (!((ByteArray.toList (bstr (reqBytesD ((IntKind.wrap .i64 (List.getD d 0 (0 : Int))), ((IntKind.wrap .i64 (List.getD d 1 (0 : Int))), ((atD d (2 : Int)), ((atD d (4 : Int)), ((atD d (6 : Int)), (([] : List Int) ++ (List.drop 9 d)))))))))) == (ByteArray.toList (bstr d)))) then
                  K ((.t [(.a [(.s (.int .i64 (0 : Int))), (.s (.int .i64 (0 : Int))), (.s (.int .i64 (0 : Int))), (.s (.int .i64 (0 : Int))), (.s (.int .i64 (0 : Int))), (.l .deep bytesR ([] : List Int))]), (.s (.bool false))]), [])
                  else K ((.t [(.a [(.s (.int .i64 (IntKind.wrap .i64 (List.getD d 0 (0 : Int))))), (.s (.int .i64 (IntKind.wrap .i64 (List.getD d 1 (0 : Int))))), (.s (.int .i64 (atD d (2 : Int)))), (.s (.int .i64 (atD d (4 : Int)))), (.s (.int .i64 (atD d (6 : Int)))), (.l .deep bytesR (([] : List Int) ++ (List.drop 9 d)))]), (.s (.bool true))]), []))))
                else none))
               ((bif (fitB (([] : List Int) ++ (List.drop 9 d))) then
                (bif (!((ByteArray.toList (bstr (reqBytesD ((IntKind.wrap .i64 (List.getD d 0 (0 : Int))), ((IntKind.wrap .i64 (List.getD d 1 (0 : Int))), ((atD d (2 : Int)), ((atD d (4 : Int)), ((atD d (6 : Int)), (([] : List Int) ++ (List.drop 9 d)))))))))) == (ByteArray.toList (bstr d)))) then
                 K ((.t [(.a [(.s (.int .i64 (0 : Int))), (.s (.int .i64 (0 : Int))), (.s (.int .i64 (0 : Int))), (.s (.int .i64 (0 : Int))), (.s (.int .i64 (0 : Int))), (.l .deep bytesR ([] : List Int))]), (.s (.bool false))]), [])
                 else K ((.t [(.a [(.s (.int .i64 (IntKind.wrap .i64 (List.getD d 0 (0 : Int))))), (.s (.int .i64 (IntKind.wrap .i64 (List.getD d 1 (0 : Int))))), (.s (.int .i64 (atD d (2 : Int)))), (.s (.int .i64 (atD d (4 : Int)))), (.s (.int .i64 (atD d (6 : Int)))), (.l .deep bytesR (([] : List Int) ++ (List.drop 9 d)))]), (.s (.bool true))]), []))
                else none))))
             else none)
            else none)
           else none)
          else none)))))))
      else none))
     ((meet
      ((meet
       ((bif (((fitB d) && true) && (decide (((2 : Int) + (1 : Int)) < (((List.length d) : Nat) : Int)))) then
        (meet
         ((bif (((fitB d) && true) && (decide (((4 : Int) + (1 : Int)) < (((List.length d) : Nat) : Int)))) then
          (meet
           ((bif (((fitB d) && true) && (decide (((6 : Int) + (1 : Int)) < (((List.length d) : Nat) : Int)))) then
            (meet
             ((bif (Nat.ble (((List.length ([] : List Int)) + (List.length (List.drop 9 d))) * 1) 140737488355328) then
              (bif (fitB (([] : List Int) ++ (List.drop 9 d))) then
               (bif (!(reqOkD ((IntKind.wrap .i64 (List.getD d 0 (0 : Int))), ((IntKind.wrap .i64 (List.getD d 1 (0 : Int))), ((atD d (2 : Int)), ((atD d (4 : Int)), ((atD d (6 : Int)), (([] : List Int) ++ (List.drop 9 d))))))))) then
                (meet
                 ((meet
                  (K ((.t [(.a [(.s (.int .i64 (0 : Int))), (.s (.int .i64 (0 : Int))), (.s (.int .i64 (0 : Int))), (.s (.int .i64 (0 : Int))), (.s (.int .i64 (0 : Int))), (.l .deep bytesR ([] : List Int))]), (.s (.bool false))]), []))
                  (K ((.t [(.a [(.s (.int .i64 (0 : Int))), (.s (.int .i64 (0 : Int))), (.s (.int .i64 (0 : Int))), (.s (.int .i64 (0 : Int))), (.s (.int .i64 (0 : Int))), (.l .deep bytesR ([] : List Int))]), (.s (.bool false))]), []))))
                 (K ((.t [(.a [(.s (.int .i64 (0 : Int))), (.s (.int .i64 (0 : Int))), (.s (.int .i64 (0 : Int))), (.s (.int .i64 (0 : Int))), (.s (.int .i64 (0 : Int))), (.l .deep bytesR ([] : List Int))]), (.s (.bool false))]), [])))
                else (meet
                 ((bif (fitB (([] : List Int) ++ (List.drop 9 d))) then
                  (meet
                   ((bif (!((ByteArray.toList (bstr (reqBytesD ((IntKind.wrap .i64 (List.getD d 0 (0 : Int))), ((IntKind.wrap .i64 (List.getD d 1 (0 : Int))), ((atD d (2 : Int)), ((atD d (4 : Int)), ((atD d (6 : Int)), (([] : List Int) ++ (List.drop 9 d)))))))))) == (ByteArray.toList (bstr d)))) then
                    K ((.t [(.a [(.s (.int .i64 (0 : Int))), (.s (.int .i64 (0 : Int))), (.s (.int .i64 (0 : Int))), (.s (.int .i64 (0 : Int))), (.s (.int .i64 (0 : Int))), (.l .deep bytesR ([] : List Int))]), (.s (.bool false))]), [])
                    else K ((.t [(.a [(.s (.int .i64 (IntKind.wrap .i64 (List.getD d 0 (0 : Int))))), (.s (.int .i64 (IntKind.wrap .i64 (List.getD d 1 (0 : Int))))), (.s (.int .i64 (atD d (2 : Int)))), (.s (.int .i64 (atD d (4 : Int)))), (.s (.int .i64 (atD d (6 : Int)))), (.l .deep bytesR (([] : List Int) ++ (List.drop 9 d)))]), (.s (.bool true))]), [])))
                   ((bif (!((ByteArray.toList (bstr (reqBytesD ((IntKind.wrap .i64 (List.getD d 0 (0 : Int))), ((IntKind.wrap .i64 (List.getD d 1 (0 : Int))), ((atD d (2 : Int)), ((atD d (4 : Int)), ((atD d (6 : Int)), (([] : List Int) ++ (List.drop 9 d)))))))))) == (ByteArray.toList (bstr d)))) then
                    K ((.t [(.a [(.s (.int .i64 (0 : Int))), (.s (.int .i64 (0 : Int))), (.s (.int .i64 (0 : Int))), (.s (.int .i64 (0 : Int))), (.s (.int .i64 (0 : Int))), (.l .deep bytesR ([] : List Int))]), (.s (.bool false))]), [])
                    else K ((.t [(.a [(.s (.int .i64 (IntKind.wrap .i64 (List.getD d 0 (0 : Int))))), (.s (.int .i64 (IntKind.wrap .i64 (List.getD d 1 (0 : Int))))), (.s (.int .i64 (atD d (2 : Int)))), (.s (.int .i64 (atD d (4 : Int)))), (.s (.int .i64 (atD d (6 : Int)))), (.l .deep bytesR (([] : List Int) ++ (List.drop 9 d)))]), (.s (.bool true))]), []))))
                  else none))
                 ((bif (fitB (([] : List Int) ++ (List.drop 9 d))) then
                  (bif (!((ByteArray.toList (bstr (reqBytesD ((IntKind.wrap .i64 (List.getD d 0 (0 : Int))), ((IntKind.wrap .i64 (List.getD d 1 (0 : Int))), ((atD d (2 : Int)), ((atD d (4 : Int)), ((atD d (6 : Int)), (([] : List Int) ++ (List.drop 9 d)))))))))) == (ByteArray.toList (bstr d)))) then
                   K ((.t [(.a [(.s (.int .i64 (0 : Int))), (.s (.int .i64 (0 : Int))), (.s (.int .i64 (0 : Int))), (.s (.int .i64 (0 : Int))), (.s (.int .i64 (0 : Int))), (.l .deep bytesR ([] : List Int))]), (.s (.bool false))]), [])
                   else K ((.t [(.a [(.s (.int .i64 (IntKind.wrap .i64 (List.getD d 0 (0 : Int))))), (.s (.int .i64 (IntKind.wrap .i64 (List.getD d 1 (0 : Int))))), (.s (.int .i64 (atD d (2 : Int)))), (.s (.int .i64 (atD d (4 : Int)))), (.s (.int .i64 (atD d (6 : Int)))), (.l .deep bytesR (([] : List Int) ++ (List.drop 9 d)))]), (.s (.bool true))]), []))
                  else none))))
               else none)
              else none))
             ((bif (Nat.ble (((List.length ([] : List Int)) + (List.length (List.drop 9 d))) * 1) 140737488355328) then
              (bif (fitB (([] : List Int) ++ (List.drop 9 d))) then
               (bif (!(reqOkD ((IntKind.wrap .i64 (List.getD d 0 (0 : Int))), ((IntKind.wrap .i64 (List.getD d 1 (0 : Int))), ((atD d (2 : Int)), ((atD d (4 : Int)), ((atD d (6 : Int)), (([] : List Int) ++ (List.drop 9 d))))))))) then
                (meet
                 ((meet
                  (K ((.t [(.a [(.s (.int .i64 (0 : Int))), (.s (.int .i64 (0 : Int))), (.s (.int .i64 (0 : Int))), (.s (.int .i64 (0 : Int))), (.s (.int .i64 (0 : Int))), (.l .deep bytesR ([] : List Int))]), (.s (.bool false))]), []))
                  (K ((.t [(.a [(.s (.int .i64 (0 : Int))), (.s (.int .i64 (0 : Int))), (.s (.int .i64 (0 : Int))), (.s (.int .i64 (0 : Int))), (.s (.int .i64 (0 : Int))), (.l .deep bytesR ([] : List Int))]), (.s (.bool false))]), []))))
                 (K ((.t [(.a [(.s (.int .i64 (0 : Int))), (.s (.int .i64 (0 : Int))), (.s (.int .i64 (0 : Int))), (.s (.int .i64 (0 : Int))), (.s (.int .i64 (0 : Int))), (.l .deep bytesR ([] : List Int))]), (.s (.bool false))]), [])))
                else (meet
                 ((bif (fitB (([] : List Int) ++ (List.drop 9 d))) then
                  (meet
                   ((bif (!((ByteArray.toList (bstr (reqBytesD ((IntKind.wrap .i64 (List.getD d 0 (0 : Int))), ((IntKind.wrap .i64 (List.getD d 1 (0 : Int))), ((atD d (2 : Int)), ((atD d (4 : Int)), ((atD d (6 : Int)), (([] : List Int) ++ (List.drop 9 d)))))))))) == (ByteArray.toList (bstr d)))) then
                    K ((.t [(.a [(.s (.int .i64 (0 : Int))), (.s (.int .i64 (0 : Int))), (.s (.int .i64 (0 : Int))), (.s (.int .i64 (0 : Int))), (.s (.int .i64 (0 : Int))), (.l .deep bytesR ([] : List Int))]), (.s (.bool false))]), [])
                    else K ((.t [(.a [(.s (.int .i64 (IntKind.wrap .i64 (List.getD d 0 (0 : Int))))), (.s (.int .i64 (IntKind.wrap .i64 (List.getD d 1 (0 : Int))))), (.s (.int .i64 (atD d (2 : Int)))), (.s (.int .i64 (atD d (4 : Int)))), (.s (.int .i64 (atD d (6 : Int)))), (.l .deep bytesR (([] : List Int) ++ (List.drop 9 d)))]), (.s (.bool true))]), [])))
                   ((bif (!((ByteArray.toList (bstr (reqBytesD ((IntKind.wrap .i64 (List.getD d 0 (0 : Int))), ((IntKind.wrap .i64 (List.getD d 1 (0 : Int))), ((atD d (2 : Int)), ((atD d (4 : Int)), ((atD d (6 : Int)), (([] : List Int) ++ (List.drop 9 d)))))))))) == (ByteArray.toList (bstr d)))) then
                    K ((.t [(.a [(.s (.int .i64 (0 : Int))), (.s (.int .i64 (0 : Int))), (.s (.int .i64 (0 : Int))), (.s (.int .i64 (0 : Int))), (.s (.int .i64 (0 : Int))), (.l .deep bytesR ([] : List Int))]), (.s (.bool false))]), [])
                    else K ((.t [(.a [(.s (.int .i64 (IntKind.wrap .i64 (List.getD d 0 (0 : Int))))), (.s (.int .i64 (IntKind.wrap .i64 (List.getD d 1 (0 : Int))))), (.s (.int .i64 (atD d (2 : Int)))), (.s (.int .i64 (atD d (4 : Int)))), (.s (.int .i64 (atD d (6 : Int)))), (.l .deep bytesR (([] : List Int) ++ (List.drop 9 d)))]), (.s (.bool true))]), []))))
                  else none))
                 ((bif (fitB (([] : List Int) ++ (List.drop 9 d))) then
                  (bif (!((ByteArray.toList (bstr (reqBytesD ((IntKind.wrap .i64 (List.getD d 0 (0 : Int))), ((IntKind.wrap .i64 (List.getD d 1 (0 : Int))), ((atD d (2 : Int)), ((atD d (4 : Int)), ((atD d (6 : Int)), (([] : List Int) ++ (List.drop 9 d)))))))))) == (ByteArray.toList (bstr d)))) then
                   K ((.t [(.a [(.s (.int .i64 (0 : Int))), (.s (.int .i64 (0 : Int))), (.s (.int .i64 (0 : Int))), (.s (.int .i64 (0 : Int))), (.s (.int .i64 (0 : Int))), (.l .deep bytesR ([] : List Int))]), (.s (.bool false))]), [])
                   else K ((.t [(.a [(.s (.int .i64 (IntKind.wrap .i64 (List.getD d 0 (0 : Int))))), (.s (.int .i64 (IntKind.wrap .i64 (List.getD d 1 (0 : Int))))), (.s (.int .i64 (atD d (2 : Int)))), (.s (.int .i64 (atD d (4 : Int)))), (.s (.int .i64 (atD d (6 : Int)))), (.l .deep bytesR (([] : List Int) ++ (List.drop 9 d)))]), (.s (.bool true))]), []))
                  else none))))
               else none)
              else none)))
            else none))
           ((bif (((fitB d) && true) && (decide (((6 : Int) + (1 : Int)) < (((List.length d) : Nat) : Int)))) then
            (bif (Nat.ble (((List.length ([] : List Int)) + (List.length (List.drop 9 d))) * 1) 140737488355328) then
             (bif (fitB (([] : List Int) ++ (List.drop 9 d))) then
              (bif (!(reqOkD ((IntKind.wrap .i64 (List.getD d 0 (0 : Int))), ((IntKind.wrap .i64 (List.getD d 1 (0 : Int))), ((atD d (2 : Int)), ((atD d (4 : Int)), ((atD d (6 : Int)), (([] : List Int) ++ (List.drop 9 d))))))))) then
               (meet
                ((meet
                 (K ((.t [(.a [(.s (.int .i64 (0 : Int))), (.s (.int .i64 (0 : Int))), (.s (.int .i64 (0 : Int))), (.s (.int .i64 (0 : Int))), (.s (.int .i64 (0 : Int))), (.l .deep bytesR ([] : List Int))]), (.s (.bool false))]), []))
                 (K ((.t [(.a [(.s (.int .i64 (0 : Int))), (.s (.int .i64 (0 : Int))), (.s (.int .i64 (0 : Int))), (.s (.int .i64 (0 : Int))), (.s (.int .i64 (0 : Int))), (.l .deep bytesR ([] : List Int))]), (.s (.bool false))]), []))))
                (K ((.t [(.a [(.s (.int .i64 (0 : Int))), (.s (.int .i64 (0 : Int))), (.s (.int .i64 (0 : Int))), (.s (.int .i64 (0 : Int))), (.s (.int .i64 (0 : Int))), (.l .deep bytesR ([] : List Int))]), (.s (.bool false))]), [])))
               else (meet
                ((bif (fitB (([] : List Int) ++ (List.drop 9 d))) then
                 (meet
                  ((bif (!((ByteArray.toList (bstr (reqBytesD ((IntKind.wrap .i64 (List.getD d 0 (0 : Int))), ((IntKind.wrap .i64 (List.getD d 1 (0 : Int))), ((atD d (2 : Int)), ((atD d (4 : Int)), ((atD d (6 : Int)), (([] : List Int) ++ (List.drop 9 d)))))))))) == (ByteArray.toList (bstr d)))) then
                   K ((.t [(.a [(.s (.int .i64 (0 : Int))), (.s (.int .i64 (0 : Int))), (.s (.int .i64 (0 : Int))), (.s (.int .i64 (0 : Int))), (.s (.int .i64 (0 : Int))), (.l .deep bytesR ([] : List Int))]), (.s (.bool false))]), [])
                   else K ((.t [(.a [(.s (.int .i64 (IntKind.wrap .i64 (List.getD d 0 (0 : Int))))), (.s (.int .i64 (IntKind.wrap .i64 (List.getD d 1 (0 : Int))))), (.s (.int .i64 (atD d (2 : Int)))), (.s (.int .i64 (atD d (4 : Int)))), (.s (.int .i64 (atD d (6 : Int)))), (.l .deep bytesR (([] : List Int) ++ (List.drop 9 d)))]), (.s (.bool true))]), [])))
                  ((bif (!((ByteArray.toList (bstr (reqBytesD ((IntKind.wrap .i64 (List.getD d 0 (0 : Int))), ((IntKind.wrap .i64 (List.getD d 1 (0 : Int))), ((atD d (2 : Int)), ((atD d (4 : Int)), ((atD d (6 : Int)), (([] : List Int) ++ (List.drop 9 d)))))))))) == (ByteArray.toList (bstr d)))) then
                   K ((.t [(.a [(.s (.int .i64 (0 : Int))), (.s (.int .i64 (0 : Int))), (.s (.int .i64 (0 : Int))), (.s (.int .i64 (0 : Int))), (.s (.int .i64 (0 : Int))), (.l .deep bytesR ([] : List Int))]), (.s (.bool false))]), [])
                   else K ((.t [(.a [(.s (.int .i64 (IntKind.wrap .i64 (List.getD d 0 (0 : Int))))), (.s (.int .i64 (IntKind.wrap .i64 (List.getD d 1 (0 : Int))))), (.s (.int .i64 (atD d (2 : Int)))), (.s (.int .i64 (atD d (4 : Int)))), (.s (.int .i64 (atD d (6 : Int)))), (.l .deep bytesR (([] : List Int) ++ (List.drop 9 d)))]), (.s (.bool true))]), []))))
                 else none))
                ((bif (fitB (([] : List Int) ++ (List.drop 9 d))) then
                 (bif (!((ByteArray.toList (bstr (reqBytesD ((IntKind.wrap .i64 (List.getD d 0 (0 : Int))), ((IntKind.wrap .i64 (List.getD d 1 (0 : Int))), ((atD d (2 : Int)), ((atD d (4 : Int)), ((atD d (6 : Int)), (([] : List Int) ++ (List.drop 9 d)))))))))) == (ByteArray.toList (bstr d)))) then
                  K ((.t [(.a [(.s (.int .i64 (0 : Int))), (.s (.int .i64 (0 : Int))), (.s (.int .i64 (0 : Int))), (.s (.int .i64 (0 : Int))), (.s (.int .i64 (0 : Int))), (.l .deep bytesR ([] : List Int))]), (.s (.bool false))]), [])
                  else K ((.t [(.a [(.s (.int .i64 (IntKind.wrap .i64 (List.getD d 0 (0 : Int))))), (.s (.int .i64 (IntKind.wrap .i64 (List.getD d 1 (0 : Int))))), (.s (.int .i64 (atD d (2 : Int)))), (.s (.int .i64 (atD d (4 : Int)))), (.s (.int .i64 (atD d (6 : Int)))), (.l .deep bytesR (([] : List Int) ++ (List.drop 9 d)))]), (.s (.bool true))]), []))
                 else none))))
              else none)
             else none)
            else none)))
          else none))
         ((bif (((fitB d) && true) && (decide (((4 : Int) + (1 : Int)) < (((List.length d) : Nat) : Int)))) then
          (bif (((fitB d) && true) && (decide (((6 : Int) + (1 : Int)) < (((List.length d) : Nat) : Int)))) then
           (bif (Nat.ble (((List.length ([] : List Int)) + (List.length (List.drop 9 d))) * 1) 140737488355328) then
            (bif (fitB (([] : List Int) ++ (List.drop 9 d))) then
             (bif (!(reqOkD ((IntKind.wrap .i64 (List.getD d 0 (0 : Int))), ((IntKind.wrap .i64 (List.getD d 1 (0 : Int))), ((atD d (2 : Int)), ((atD d (4 : Int)), ((atD d (6 : Int)), (([] : List Int) ++ (List.drop 9 d))))))))) then
              (meet
               ((meet
                (K ((.t [(.a [(.s (.int .i64 (0 : Int))), (.s (.int .i64 (0 : Int))), (.s (.int .i64 (0 : Int))), (.s (.int .i64 (0 : Int))), (.s (.int .i64 (0 : Int))), (.l .deep bytesR ([] : List Int))]), (.s (.bool false))]), []))
                (K ((.t [(.a [(.s (.int .i64 (0 : Int))), (.s (.int .i64 (0 : Int))), (.s (.int .i64 (0 : Int))), (.s (.int .i64 (0 : Int))), (.s (.int .i64 (0 : Int))), (.l .deep bytesR ([] : List Int))]), (.s (.bool false))]), []))))
               (K ((.t [(.a [(.s (.int .i64 (0 : Int))), (.s (.int .i64 (0 : Int))), (.s (.int .i64 (0 : Int))), (.s (.int .i64 (0 : Int))), (.s (.int .i64 (0 : Int))), (.l .deep bytesR ([] : List Int))]), (.s (.bool false))]), [])))
              else (meet
               ((bif (fitB (([] : List Int) ++ (List.drop 9 d))) then
                (meet
                 ((bif (!((ByteArray.toList (bstr (reqBytesD ((IntKind.wrap .i64 (List.getD d 0 (0 : Int))), ((IntKind.wrap .i64 (List.getD d 1 (0 : Int))), ((atD d (2 : Int)), ((atD d (4 : Int)), ((atD d (6 : Int)), (([] : List Int) ++ (List.drop 9 d)))))))))) == (ByteArray.toList (bstr d)))) then
                  K ((.t [(.a [(.s (.int .i64 (0 : Int))), (.s (.int .i64 (0 : Int))), (.s (.int .i64 (0 : Int))), (.s (.int .i64 (0 : Int))), (.s (.int .i64 (0 : Int))), (.l .deep bytesR ([] : List Int))]), (.s (.bool false))]), [])
                  else K ((.t [(.a [(.s (.int .i64 (IntKind.wrap .i64 (List.getD d 0 (0 : Int))))), (.s (.int .i64 (IntKind.wrap .i64 (List.getD d 1 (0 : Int))))), (.s (.int .i64 (atD d (2 : Int)))), (.s (.int .i64 (atD d (4 : Int)))), (.s (.int .i64 (atD d (6 : Int)))), (.l .deep bytesR (([] : List Int) ++ (List.drop 9 d)))]), (.s (.bool true))]), [])))
                 ((bif (!((ByteArray.toList (bstr (reqBytesD ((IntKind.wrap .i64 (List.getD d 0 (0 : Int))), ((IntKind.wrap .i64 (List.getD d 1 (0 : Int))), ((atD d (2 : Int)), ((atD d (4 : Int)), ((atD d (6 : Int)), (([] : List Int) ++ (List.drop 9 d)))))))))) == (ByteArray.toList (bstr d)))) then
                  K ((.t [(.a [(.s (.int .i64 (0 : Int))), (.s (.int .i64 (0 : Int))), (.s (.int .i64 (0 : Int))), (.s (.int .i64 (0 : Int))), (.s (.int .i64 (0 : Int))), (.l .deep bytesR ([] : List Int))]), (.s (.bool false))]), [])
                  else K ((.t [(.a [(.s (.int .i64 (IntKind.wrap .i64 (List.getD d 0 (0 : Int))))), (.s (.int .i64 (IntKind.wrap .i64 (List.getD d 1 (0 : Int))))), (.s (.int .i64 (atD d (2 : Int)))), (.s (.int .i64 (atD d (4 : Int)))), (.s (.int .i64 (atD d (6 : Int)))), (.l .deep bytesR (([] : List Int) ++ (List.drop 9 d)))]), (.s (.bool true))]), []))))
                else none))
               ((bif (fitB (([] : List Int) ++ (List.drop 9 d))) then
                (bif (!((ByteArray.toList (bstr (reqBytesD ((IntKind.wrap .i64 (List.getD d 0 (0 : Int))), ((IntKind.wrap .i64 (List.getD d 1 (0 : Int))), ((atD d (2 : Int)), ((atD d (4 : Int)), ((atD d (6 : Int)), (([] : List Int) ++ (List.drop 9 d)))))))))) == (ByteArray.toList (bstr d)))) then
                 K ((.t [(.a [(.s (.int .i64 (0 : Int))), (.s (.int .i64 (0 : Int))), (.s (.int .i64 (0 : Int))), (.s (.int .i64 (0 : Int))), (.s (.int .i64 (0 : Int))), (.l .deep bytesR ([] : List Int))]), (.s (.bool false))]), [])
                 else K ((.t [(.a [(.s (.int .i64 (IntKind.wrap .i64 (List.getD d 0 (0 : Int))))), (.s (.int .i64 (IntKind.wrap .i64 (List.getD d 1 (0 : Int))))), (.s (.int .i64 (atD d (2 : Int)))), (.s (.int .i64 (atD d (4 : Int)))), (.s (.int .i64 (atD d (6 : Int)))), (.l .deep bytesR (([] : List Int) ++ (List.drop 9 d)))]), (.s (.bool true))]), []))
                else none))))
             else none)
            else none)
           else none)
          else none)))
        else none))
       ((bif (((fitB d) && true) && (decide (((2 : Int) + (1 : Int)) < (((List.length d) : Nat) : Int)))) then
        (bif (((fitB d) && true) && (decide (((4 : Int) + (1 : Int)) < (((List.length d) : Nat) : Int)))) then
         (bif (((fitB d) && true) && (decide (((6 : Int) + (1 : Int)) < (((List.length d) : Nat) : Int)))) then
          (bif (Nat.ble (((List.length ([] : List Int)) + (List.length (List.drop 9 d))) * 1) 140737488355328) then
           (bif (fitB (([] : List Int) ++ (List.drop 9 d))) then
            (bif (!(reqOkD ((IntKind.wrap .i64 (List.getD d 0 (0 : Int))), ((IntKind.wrap .i64 (List.getD d 1 (0 : Int))), ((atD d (2 : Int)), ((atD d (4 : Int)), ((atD d (6 : Int)), (([] : List Int) ++ (List.drop 9 d))))))))) then
             (meet
              ((meet
               (K ((.t [(.a [(.s (.int .i64 (0 : Int))), (.s (.int .i64 (0 : Int))), (.s (.int .i64 (0 : Int))), (.s (.int .i64 (0 : Int))), (.s (.int .i64 (0 : Int))), (.l .deep bytesR ([] : List Int))]), (.s (.bool false))]), []))
               (K ((.t [(.a [(.s (.int .i64 (0 : Int))), (.s (.int .i64 (0 : Int))), (.s (.int .i64 (0 : Int))), (.s (.int .i64 (0 : Int))), (.s (.int .i64 (0 : Int))), (.l .deep bytesR ([] : List Int))]), (.s (.bool false))]), []))))
              (K ((.t [(.a [(.s (.int .i64 (0 : Int))), (.s (.int .i64 (0 : Int))), (.s (.int .i64 (0 : Int))), (.s (.int .i64 (0 : Int))), (.s (.int .i64 (0 : Int))), (.l .deep bytesR ([] : List Int))]), (.s (.bool false))]), [])))
             else (meet
              ((bif (fitB (([] : List Int) ++ (List.drop 9 d))) then
               (meet
                ((bif (!((ByteArray.toList (bstr (reqBytesD ((IntKind.wrap .i64 (List.getD d 0 (0 : Int))), ((IntKind.wrap .i64 (List.getD d 1 (0 : Int))), ((atD d (2 : Int)), ((atD d (4 : Int)), ((atD d (6 : Int)), (([] : List Int) ++ (List.drop 9 d)))))))))) == (ByteArray.toList (bstr d)))) then
                 K ((.t [(.a [(.s (.int .i64 (0 : Int))), (.s (.int .i64 (0 : Int))), (.s (.int .i64 (0 : Int))), (.s (.int .i64 (0 : Int))), (.s (.int .i64 (0 : Int))), (.l .deep bytesR ([] : List Int))]), (.s (.bool false))]), [])
                 else K ((.t [(.a [(.s (.int .i64 (IntKind.wrap .i64 (List.getD d 0 (0 : Int))))), (.s (.int .i64 (IntKind.wrap .i64 (List.getD d 1 (0 : Int))))), (.s (.int .i64 (atD d (2 : Int)))), (.s (.int .i64 (atD d (4 : Int)))), (.s (.int .i64 (atD d (6 : Int)))), (.l .deep bytesR (([] : List Int) ++ (List.drop 9 d)))]), (.s (.bool true))]), [])))
                ((bif (!((ByteArray.toList (bstr (reqBytesD ((IntKind.wrap .i64 (List.getD d 0 (0 : Int))), ((IntKind.wrap .i64 (List.getD d 1 (0 : Int))), ((atD d (2 : Int)), ((atD d (4 : Int)), ((atD d (6 : Int)), (([] : List Int) ++ (List.drop 9 d)))))))))) == (ByteArray.toList (bstr d)))) then
                 K ((.t [(.a [(.s (.int .i64 (0 : Int))), (.s (.int .i64 (0 : Int))), (.s (.int .i64 (0 : Int))), (.s (.int .i64 (0 : Int))), (.s (.int .i64 (0 : Int))), (.l .deep bytesR ([] : List Int))]), (.s (.bool false))]), [])
                 else K ((.t [(.a [(.s (.int .i64 (IntKind.wrap .i64 (List.getD d 0 (0 : Int))))), (.s (.int .i64 (IntKind.wrap .i64 (List.getD d 1 (0 : Int))))), (.s (.int .i64 (atD d (2 : Int)))), (.s (.int .i64 (atD d (4 : Int)))), (.s (.int .i64 (atD d (6 : Int)))), (.l .deep bytesR (([] : List Int) ++ (List.drop 9 d)))]), (.s (.bool true))]), []))))
               else none))
              ((bif (fitB (([] : List Int) ++ (List.drop 9 d))) then
               (bif (!((ByteArray.toList (bstr (reqBytesD ((IntKind.wrap .i64 (List.getD d 0 (0 : Int))), ((IntKind.wrap .i64 (List.getD d 1 (0 : Int))), ((atD d (2 : Int)), ((atD d (4 : Int)), ((atD d (6 : Int)), (([] : List Int) ++ (List.drop 9 d)))))))))) == (ByteArray.toList (bstr d)))) then
                K ((.t [(.a [(.s (.int .i64 (0 : Int))), (.s (.int .i64 (0 : Int))), (.s (.int .i64 (0 : Int))), (.s (.int .i64 (0 : Int))), (.s (.int .i64 (0 : Int))), (.l .deep bytesR ([] : List Int))]), (.s (.bool false))]), [])
                else K ((.t [(.a [(.s (.int .i64 (IntKind.wrap .i64 (List.getD d 0 (0 : Int))))), (.s (.int .i64 (IntKind.wrap .i64 (List.getD d 1 (0 : Int))))), (.s (.int .i64 (atD d (2 : Int)))), (.s (.int .i64 (atD d (4 : Int)))), (.s (.int .i64 (atD d (6 : Int)))), (.l .deep bytesR (([] : List Int) ++ (List.drop 9 d)))]), (.s (.bool true))]), []))
               else none))))
            else none)
           else none)
          else none)
         else none)
        else none))))
      ((meet
       ((bif (((fitB d) && true) && (decide (((2 : Int) + (1 : Int)) < (((List.length d) : Nat) : Int)))) then
        (meet
         ((bif (((fitB d) && true) && (decide (((4 : Int) + (1 : Int)) < (((List.length d) : Nat) : Int)))) then
          (meet
           ((bif (((fitB d) && true) && (decide (((6 : Int) + (1 : Int)) < (((List.length d) : Nat) : Int)))) then
            (bif (Nat.ble (((List.length ([] : List Int)) + (List.length (List.drop 9 d))) * 1) 140737488355328) then
             (bif (fitB (([] : List Int) ++ (List.drop 9 d))) then
              (bif (!(reqOkD ((IntKind.wrap .i64 (List.getD d 0 (0 : Int))), ((IntKind.wrap .i64 (List.getD d 1 (0 : Int))), ((atD d (2 : Int)), ((atD d (4 : Int)), ((atD d (6 : Int)), (([] : List Int) ++ (List.drop 9 d))))))))) then
               (meet
                ((meet
                 (K ((.t [(.a [(.s (.int .i64 (0 : Int))), (.s (.int .i64 (0 : Int))), (.s (.int .i64 (0 : Int))), (.s (.int .i64 (0 : Int))), (.s (.int .i64 (0 : Int))), (.l .deep bytesR ([] : List Int))]), (.s (.bool false))]), []))
                 (K ((.t [(.a [(.s (.int .i64 (0 : Int))), (.s (.int .i64 (0 : Int))), (.s (.int .i64 (0 : Int))), (.s (.int .i64 (0 : Int))), (.s (.int .i64 (0 : Int))), (.l .deep bytesR ([] : List Int))]), (.s (.bool false))]), []))))
                (K ((.t [(.a [(.s (.int .i64 (0 : Int))), (.s (.int .i64 (0 : Int))), (.s (.int .i64 (0 : Int))), (.s (.int .i64 (0 : Int))), (.s (.int .i64 (0 : Int))), (.l .deep bytesR ([] : List Int))]), (.s (.bool false))]), [])))
               else (meet
                ((bif (fitB (([] : List Int) ++ (List.drop 9 d))) then
                 (meet
                  ((bif (!((ByteArray.toList (bstr (reqBytesD ((IntKind.wrap .i64 (List.getD d 0 (0 : Int))), ((IntKind.wrap .i64 (List.getD d 1 (0 : Int))), ((atD d (2 : Int)), ((atD d (4 : Int)), ((atD d (6 : Int)), (([] : List Int) ++ (List.drop 9 d)))))))))) == (ByteArray.toList (bstr d)))) then
                   K ((.t [(.a [(.s (.int .i64 (0 : Int))), (.s (.int .i64 (0 : Int))), (.s (.int .i64 (0 : Int))), (.s (.int .i64 (0 : Int))), (.s (.int .i64 (0 : Int))), (.l .deep bytesR ([] : List Int))]), (.s (.bool false))]), [])
                   else K ((.t [(.a [(.s (.int .i64 (IntKind.wrap .i64 (List.getD d 0 (0 : Int))))), (.s (.int .i64 (IntKind.wrap .i64 (List.getD d 1 (0 : Int))))), (.s (.int .i64 (atD d (2 : Int)))), (.s (.int .i64 (atD d (4 : Int)))), (.s (.int .i64 (atD d (6 : Int)))), (.l .deep bytesR (([] : List Int) ++ (List.drop 9 d)))]), (.s (.bool true))]), [])))
                  ((bif (!((ByteArray.toList (bstr (reqBytesD ((IntKind.wrap .i64 (List.getD d 0 (0 : Int))), ((IntKind.wrap .i64 (List.getD d 1 (0 : Int))), ((atD d (2 : Int)), ((atD d (4 : Int)), ((atD d (6 : Int)), (([] : List Int) ++ (List.drop 9 d)))))))))) == (ByteArray.toList (bstr d)))) then
                   K ((.t [(.a [(.s (.int .i64 (0 : Int))), (.s (.int .i64 (0 : Int))), (.s (.int .i64 (0 : Int))), (.s (.int .i64 (0 : Int))), (.s (.int .i64 (0 : Int))), (.l .deep bytesR ([] : List Int))]), (.s (.bool false))]), [])
                   else K ((.t [(.a [(.s (.int .i64 (IntKind.wrap .i64 (List.getD d 0 (0 : Int))))), (.s (.int .i64 (IntKind.wrap .i64 (List.getD d 1 (0 : Int))))), (.s (.int .i64 (atD d (2 : Int)))), (.s (.int .i64 (atD d (4 : Int)))), (.s (.int .i64 (atD d (6 : Int)))), (.l .deep bytesR (([] : List Int) ++ (List.drop 9 d)))]), (.s (.bool true))]), []))))
                 else none))
                ((bif (fitB (([] : List Int) ++ (List.drop 9 d))) then
                 (bif (!((ByteArray.toList (bstr (reqBytesD ((IntKind.wrap .i64 (List.getD d 0 (0 : Int))), ((IntKind.wrap .i64 (List.getD d 1 (0 : Int))), ((atD d (2 : Int)), ((atD d (4 : Int)), ((atD d (6 : Int)), (([] : List Int) ++ (List.drop 9 d)))))))))) == (ByteArray.toList (bstr d)))) then
                  K ((.t [(.a [(.s (.int .i64 (0 : Int))), (.s (.int .i64 (0 : Int))), (.s (.int .i64 (0 : Int))), (.s (.int .i64 (0 : Int))), (.s (.int .i64 (0 : Int))), (.l .deep bytesR ([] : List Int))]), (.s (.bool false))]), [])
                  else K ((.t [(.a [(.s (.int .i64 (IntKind.wrap .i64 (List.getD d 0 (0 : Int))))), (.s (.int .i64 (IntKind.wrap .i64 (List.getD d 1 (0 : Int))))), (.s (.int .i64 (atD d (2 : Int)))), (.s (.int .i64 (atD d (4 : Int)))), (.s (.int .i64 (atD d (6 : Int)))), (.l .deep bytesR (([] : List Int) ++ (List.drop 9 d)))]), (.s (.bool true))]), []))
                 else none))))
              else none)
             else none)
            else none))
           ((bif (((fitB d) && true) && (decide (((6 : Int) + (1 : Int)) < (((List.length d) : Nat) : Int)))) then
            (bif (Nat.ble (((List.length ([] : List Int)) + (List.length (List.drop 9 d))) * 1) 140737488355328) then
             (bif (fitB (([] : List Int) ++ (List.drop 9 d))) then
              (bif (!(reqOkD ((IntKind.wrap .i64 (List.getD d 0 (0 : Int))), ((IntKind.wrap .i64 (List.getD d 1 (0 : Int))), ((atD d (2 : Int)), ((atD d (4 : Int)), ((atD d (6 : Int)), (([] : List Int) ++ (List.drop 9 d))))))))) then
               (meet
                ((meet
                 (K ((.t [(.a [(.s (.int .i64 (0 : Int))), (.s (.int .i64 (0 : Int))), (.s (.int .i64 (0 : Int))), (.s (.int .i64 (0 : Int))), (.s (.int .i64 (0 : Int))), (.l .deep bytesR ([] : List Int))]), (.s (.bool false))]), []))
                 (K ((.t [(.a [(.s (.int .i64 (0 : Int))), (.s (.int .i64 (0 : Int))), (.s (.int .i64 (0 : Int))), (.s (.int .i64 (0 : Int))), (.s (.int .i64 (0 : Int))), (.l .deep bytesR ([] : List Int))]), (.s (.bool false))]), []))))
                (K ((.t [(.a [(.s (.int .i64 (0 : Int))), (.s (.int .i64 (0 : Int))), (.s (.int .i64 (0 : Int))), (.s (.int .i64 (0 : Int))), (.s (.int .i64 (0 : Int))), (.l .deep bytesR ([] : List Int))]), (.s (.bool false))]), [])))
               else (meet
                ((bif (fitB (([] : List Int) ++ (List.drop 9 d))) then
                 (meet
                  ((bif (!((ByteArray.toList (bstr (reqBytesD ((IntKind.wrap .i64 (List.getD d 0 (0 : Int))), ((IntKind.wrap .i64 (List.getD d 1 (0 : Int))), ((atD d (2 : Int)), ((atD d (4 : Int)), ((atD d (6 : Int)), (([] : List Int) ++ (List.drop 9 d)))))))))) == (ByteArray.toList (bstr d)))) then
                   K ((.t [(.a [(.s (.int .i64 (0 : Int))), (.s (.int .i64 (0 : Int))), (.s (.int .i64 (0 : Int))), (.s (.int .i64 (0 : Int))), (.s (.int .i64 (0 : Int))), (.l .deep bytesR ([] : List Int))]), (.s (.bool false))]), [])
                   else K ((.t [(.a [(.s (.int .i64 (IntKind.wrap .i64 (List.getD d 0 (0 : Int))))), (.s (.int .i64 (IntKind.wrap .i64 (List.getD d 1 (0 : Int))))), (.s (.int .i64 (atD d (2 : Int)))), (.s (.int .i64 (atD d (4 : Int)))), (.s (.int .i64 (atD d (6 : Int)))), (.l .deep bytesR (([] : List Int) ++ (List.drop 9 d)))]), (.s (.bool true))]), [])))
                  ((bif (!((ByteArray.toList (bstr (reqBytesD ((IntKind.wrap .i64 (List.getD d 0 (0 : Int))), ((IntKind.wrap .i64 (List.getD d 1 (0 : Int))), ((atD d (2 : Int)), ((atD d (4 : Int)), ((atD d (6 : Int)), (([] : List Int) ++ (List.drop 9 d)))))))))) == (ByteArray.toList (bstr d)))) then
                   K ((.t [(.a [(.s (.int .i64 (0 : Int))), (.s (.int .i64 (0 : Int))), (.s (.int .i64 (0 : Int))), (.s (.int .i64 (0 : Int))), (.s (.int .i64 (0 : Int))), (.l .deep bytesR ([] : List Int))]), (.s (.bool false))]), [])
                   else K ((.t [(.a [(.s (.int .i64 (IntKind.wrap .i64 (List.getD d 0 (0 : Int))))), (.s (.int .i64 (IntKind.wrap .i64 (List.getD d 1 (0 : Int))))), (.s (.int .i64 (atD d (2 : Int)))), (.s (.int .i64 (atD d (4 : Int)))), (.s (.int .i64 (atD d (6 : Int)))), (.l .deep bytesR (([] : List Int) ++ (List.drop 9 d)))]), (.s (.bool true))]), []))))
                 else none))
                ((bif (fitB (([] : List Int) ++ (List.drop 9 d))) then
                 (bif (!((ByteArray.toList (bstr (reqBytesD ((IntKind.wrap .i64 (List.getD d 0 (0 : Int))), ((IntKind.wrap .i64 (List.getD d 1 (0 : Int))), ((atD d (2 : Int)), ((atD d (4 : Int)), ((atD d (6 : Int)), (([] : List Int) ++ (List.drop 9 d)))))))))) == (ByteArray.toList (bstr d)))) then
                  K ((.t [(.a [(.s (.int .i64 (0 : Int))), (.s (.int .i64 (0 : Int))), (.s (.int .i64 (0 : Int))), (.s (.int .i64 (0 : Int))), (.s (.int .i64 (0 : Int))), (.l .deep bytesR ([] : List Int))]), (.s (.bool false))]), [])
                  else K ((.t [(.a [(.s (.int .i64 (IntKind.wrap .i64 (List.getD d 0 (0 : Int))))), (.s (.int .i64 (IntKind.wrap .i64 (List.getD d 1 (0 : Int))))), (.s (.int .i64 (atD d (2 : Int)))), (.s (.int .i64 (atD d (4 : Int)))), (.s (.int .i64 (atD d (6 : Int)))), (.l .deep bytesR (([] : List Int) ++ (List.drop 9 d)))]), (.s (.bool true))]), []))
                 else none))))
              else none)
             else none)
            else none)))
          else none))
         ((bif (((fitB d) && true) && (decide (((4 : Int) + (1 : Int)) < (((List.length d) : Nat) : Int)))) then
          (bif (((fitB d) && true) && (decide (((6 : Int) + (1 : Int)) < (((List.length d) : Nat) : Int)))) then
           (bif (Nat.ble (((List.length ([] : List Int)) + (List.length (List.drop 9 d))) * 1) 140737488355328) then
            (bif (fitB (([] : List Int) ++ (List.drop 9 d))) then
             (bif (!(reqOkD ((IntKind.wrap .i64 (List.getD d 0 (0 : Int))), ((IntKind.wrap .i64 (List.getD d 1 (0 : Int))), ((atD d (2 : Int)), ((atD d (4 : Int)), ((atD d (6 : Int)), (([] : List Int) ++ (List.drop 9 d))))))))) then
              (meet
               ((meet
                (K ((.t [(.a [(.s (.int .i64 (0 : Int))), (.s (.int .i64 (0 : Int))), (.s (.int .i64 (0 : Int))), (.s (.int .i64 (0 : Int))), (.s (.int .i64 (0 : Int))), (.l .deep bytesR ([] : List Int))]), (.s (.bool false))]), []))
                (K ((.t [(.a [(.s (.int .i64 (0 : Int))), (.s (.int .i64 (0 : Int))), (.s (.int .i64 (0 : Int))), (.s (.int .i64 (0 : Int))), (.s (.int .i64 (0 : Int))), (.l .deep bytesR ([] : List Int))]), (.s (.bool false))]), []))))
               (K ((.t [(.a [(.s (.int .i64 (0 : Int))), (.s (.int .i64 (0 : Int))), (.s (.int .i64 (0 : Int))), (.s (.int .i64 (0 : Int))), (.s (.int .i64 (0 : Int))), (.l .deep bytesR ([] : List Int))]), (.s (.bool false))]), [])))
              else (meet
               ((bif (fitB (([] : List Int) ++ (List.drop 9 d))) then
                (meet
                 ((bif (!((ByteArray.toList (bstr (reqBytesD ((IntKind.wrap .i64 (List.getD d 0 (0 : Int))), ((IntKind.wrap .i64 (List.getD d 1 (0 : Int))), ((atD d (2 : Int)), ((atD d (4 : Int)), ((atD d (6 : Int)), (([] : List Int) ++ (List.drop 9 d)))))))))) == (ByteArray.toList (bstr d)))) then
                  K ((.t [(.a [(.s (.int .i64 (0 : Int))), (.s (.int .i64 (0 : Int))), (.s (.int .i64 (0 : Int))), (.s (.int .i64 (0 : Int))), (.s (.int .i64 (0 : Int))), (.l .deep bytesR ([] : List Int))]), (.s (.bool false))]), [])
                  else K ((.t [(.a [(.s (.int .i64 (IntKind.wrap .i64 (List.getD d 0 (0 : Int))))), (.s (.int .i64 (IntKind.wrap .i64 (List.getD d 1 (0 : Int))))), (.s (.int .i64 (atD d (2 : Int)))), (.s (.int .i64 (atD d (4 : Int)))), (.s (.int .i64 (atD d (6 : Int)))), (.l .deep bytesR (([] : List Int) ++ (List.drop 9 d)))]), (.s (.bool true))]), [])))
                 ((bif (!((ByteArray.toList (bstr (reqBytesD ((IntKind.wrap .i64 (List.getD d 0 (0 : Int))), ((IntKind.wrap .i64 (List.getD d 1 (0 : Int))), ((atD d (2 : Int)), ((atD d (4 : Int)), ((atD d (6 : Int)), (([] : List Int) ++ (List.drop 9 d)))))))))) == (ByteArray.toList (bstr d)))) then
                  K ((.t [(.a [(.s (.int .i64 (0 : Int))), (.s (.int .i64 (0 : Int))), (.s (.int .i64 (0 : Int))), (.s (.int .i64 (0 : Int))), (.s (.int .i64 (0 : Int))), (.l .deep bytesR ([] : List Int))]), (.s (.bool false))]), [])
                  else K ((.t [(.a [(.s (.int .i64 (IntKind.wrap .i64 (List.getD d 0 (0 : Int))))), (.s (.int .i64 (IntKind.wrap .i64 (List.getD d 1 (0 : Int))))), (.s (.int .i64 (atD d (2 : Int)))), (.s (.int .i64 (atD d (4 : Int)))), (.s (.int .i64 (atD d (6 : Int)))), (.l .deep bytesR (([] : List Int) ++ (List.drop 9 d)))]), (.s (.bool true))]), []))))
                else none))
               ((bif (fitB (([] : List Int) ++ (List.drop 9 d))) then
                (bif (!((ByteArray.toList (bstr (reqBytesD ((IntKind.wrap .i64 (List.getD d 0 (0 : Int))), ((IntKind.wrap .i64 (List.getD d 1 (0 : Int))), ((atD d (2 : Int)), ((atD d (4 : Int)), ((atD d (6 : Int)), (([] : List Int) ++ (List.drop 9 d)))))))))) == (ByteArray.toList (bstr d)))) then
                 K ((.t [(.a [(.s (.int .i64 (0 : Int))), (.s (.int .i64 (0 : Int))), (.s (.int .i64 (0 : Int))), (.s (.int .i64 (0 : Int))), (.s (.int .i64 (0 : Int))), (.l .deep bytesR ([] : List Int))]), (.s (.bool false))]), [])
                 else K ((.t [(.a [(.s (.int .i64 (IntKind.wrap .i64 (List.getD d 0 (0 : Int))))), (.s (.int .i64 (IntKind.wrap .i64 (List.getD d 1 (0 : Int))))), (.s (.int .i64 (atD d (2 : Int)))), (.s (.int .i64 (atD d (4 : Int)))), (.s (.int .i64 (atD d (6 : Int)))), (.l .deep bytesR (([] : List Int) ++ (List.drop 9 d)))]), (.s (.bool true))]), []))
                else none))))
             else none)
            else none)
           else none)
          else none)))
        else none))
       ((bif (((fitB d) && true) && (decide (((2 : Int) + (1 : Int)) < (((List.length d) : Nat) : Int)))) then
        (bif (((fitB d) && true) && (decide (((4 : Int) + (1 : Int)) < (((List.length d) : Nat) : Int)))) then
         (bif (((fitB d) && true) && (decide (((6 : Int) + (1 : Int)) < (((List.length d) : Nat) : Int)))) then
          (bif (Nat.ble (((List.length ([] : List Int)) + (List.length (List.drop 9 d))) * 1) 140737488355328) then
           (bif (fitB (([] : List Int) ++ (List.drop 9 d))) then
            (bif (!(reqOkD ((IntKind.wrap .i64 (List.getD d 0 (0 : Int))), ((IntKind.wrap .i64 (List.getD d 1 (0 : Int))), ((atD d (2 : Int)), ((atD d (4 : Int)), ((atD d (6 : Int)), (([] : List Int) ++ (List.drop 9 d))))))))) then
             (meet
              ((meet
               (K ((.t [(.a [(.s (.int .i64 (0 : Int))), (.s (.int .i64 (0 : Int))), (.s (.int .i64 (0 : Int))), (.s (.int .i64 (0 : Int))), (.s (.int .i64 (0 : Int))), (.l .deep bytesR ([] : List Int))]), (.s (.bool false))]), []))
               (K ((.t [(.a [(.s (.int .i64 (0 : Int))), (.s (.int .i64 (0 : Int))), (.s (.int .i64 (0 : Int))), (.s (.int .i64 (0 : Int))), (.s (.int .i64 (0 : Int))), (.l .deep bytesR ([] : List Int))]), (.s (.bool false))]), []))))
              (K ((.t [(.a [(.s (.int .i64 (0 : Int))), (.s (.int .i64 (0 : Int))), (.s (.int .i64 (0 : Int))), (.s (.int .i64 (0 : Int))), (.s (.int .i64 (0 : Int))), (.l .deep bytesR ([] : List Int))]), (.s (.bool false))]), [])))
             else (meet
              ((bif (fitB (([] : List Int) ++ (List.drop 9 d))) then
               (meet
                ((bif (!((ByteArray.toList (bstr (reqBytesD ((IntKind.wrap .i64 (List.getD d 0 (0 : Int))), ((IntKind.wrap .i64 (List.getD d 1 (0 : Int))), ((atD d (2 : Int)), ((atD d (4 : Int)), ((atD d (6 : Int)), (([] : List Int) ++ (List.drop 9 d)))))))))) == (ByteArray.toList (bstr d)))) then
                 K ((.t [(.a [(.s (.int .i64 (0 : Int))), (.s (.int .i64 (0 : Int))), (.s (.int .i64 (0 : Int))), (.s (.int .i64 (0 : Int))), (.s (.int .i64 (0 : Int))), (.l .deep bytesR ([] : List Int))]), (.s (.bool false))]), [])
                 else K ((.t [(.a [(.s (.int .i64 (IntKind.wrap .i64 (List.getD d 0 (0 : Int))))), (.s (.int .i64 (IntKind.wrap .i64 (List.getD d 1 (0 : Int))))), (.s (.int .i64 (atD d (2 : Int)))), (.s (.int .i64 (atD d (4 : Int)))), (.s (.int .i64 (atD d (6 : Int)))), (.l .deep bytesR (([] : List Int) ++ (List.drop 9 d)))]), (.s (.bool true))]), [])))
                ((bif (!((ByteArray.toList (bstr (reqBytesD ((IntKind.wrap .i64 (List.getD d 0 (0 : Int))), ((IntKind.wrap .i64 (List.getD d 1 (0 : Int))), ((atD d (2 : Int)), ((atD d (4 : Int)), ((atD d (6 : Int)), (([] : List Int) ++ (List.drop 9 d)))))))))) == (ByteArray.toList (bstr d)))) then
                 K ((.t [(.a [(.s (.int .i64 (0 : Int))), (.s (.int .i64 (0 : Int))), (.s (.int .i64 (0 : Int))), (.s (.int .i64 (0 : Int))), (.s (.int .i64 (0 : Int))), (.l .deep bytesR ([] : List Int))]), (.s (.bool false))]), [])
                 else K ((.t [(.a [(.s (.int .i64 (IntKind.wrap .i64 (List.getD d 0 (0 : Int))))), (.s (.int .i64 (IntKind.wrap .i64 (List.getD d 1 (0 : Int))))), (.s (.int .i64 (atD d (2 : Int)))), (.s (.int .i64 (atD d (4 : Int)))), (.s (.int .i64 (atD d (6 : Int)))), (.l .deep bytesR (([] : List Int) ++ (List.drop 9 d)))]), (.s (.bool true))]), []))))
               else none))
              ((bif (fitB (([] : List Int) ++ (List.drop 9 d))) then
               (bif (!((ByteArray.toList (bstr (reqBytesD ((IntKind.wrap .i64 (List.getD d 0 (0 : Int))), ((IntKind.wrap .i64 (List.getD d 1 (0 : Int))), ((atD d (2 : Int)), ((atD d (4 : Int)), ((atD d (6 : Int)), (([] : List Int) ++ (List.drop 9 d)))))))))) == (ByteArray.toList (bstr d)))) then
                K ((.t [(.a [(.s (.int .i64 (0 : Int))), (.s (.int .i64 (0 : Int))), (.s (.int .i64 (0 : Int))), (.s (.int .i64 (0 : Int))), (.s (.int .i64 (0 : Int))), (.l .deep bytesR ([] : List Int))]), (.s (.bool false))]), [])
                else K ((.t [(.a [(.s (.int .i64 (IntKind.wrap .i64 (List.getD d 0 (0 : Int))))), (.s (.int .i64 (IntKind.wrap .i64 (List.getD d 1 (0 : Int))))), (.s (.int .i64 (atD d (2 : Int)))), (.s (.int .i64 (atD d (4 : Int)))), (.s (.int .i64 (atD d (6 : Int)))), (.l .deep bytesR (([] : List Int) ++ (List.drop 9 d)))]), (.s (.bool true))]), []))
               else none))))
            else none)
           else none)
          else none)
         else none)
        else none)))))))
    else none)
   else none)
  else none))
theorem e_s_ReqParse (d : List Int) (K : Ret → Option Ret) : evF E_s_ReqParse true F.s_ReqParse [.l .no bytesR d] K = T_s_ReqParse d K := by kernel_rfl
def S_s_ReqParse : Sm := S_fnR [.l bytesR] (fun d => fitB d.1) (fun d => (.t [.a (reqR.cells .deep (reqParseD d.1).1), bl (reqParseD d.1).2], []))
theorem v_s_ReqParse (d : List Int) (h : (fitB d) = true) (K : Ret → Option Ret) : T_s_ReqParse d K = K (.t [.a (reqR.cells .deep (reqParseD d).1), bl (reqParseD d).2], []) := by
  have hl := fitB_len h
  unfold T_s_ReqParse reqParseD
  by_cases h9 : ((d.length : Nat) : Int) < 9
  · rw [decide_eq_true h9]; rfl
  have b0 := fitB_getD h 0
  have b1 := fitB_getD h 1
  rw [decide_eq_false h9, wrap_in (n := d.getD 0 0) (by omega) (by omega), wrap_in (n := d.getD 1 0) (by omega) (by omega)]
  have e2 : (d.getD 0 0, d.getD 1 0, atD d 2, atD d 4, atD d 6, d.drop 9) = reqOf d := rfl
  simp only [List.nil_append, decide_eq_true (show (0 : Int) < ((d.length : Nat) : Int) by omega), decide_eq_true (show (1 : Int) < ((d.length : Nat) : Int) by omega), decide_eq_true (show (9 : Int) ≤ ((d.length : Nat) : Int) by omega), decide_eq_true (show (2 : Int) + 1 < ((d.length : Nat) : Int) by omega), decide_eq_true (show (4 : Int) + 1 < ((d.length : Nat) : Int) by omega), decide_eq_true (show (6 : Int) + 1 < ((d.length : Nat) : Int) by omega), h, fitB_drop h, cond_true, Bool.true_and, Bool.and_true, Nat.ble_eq_true_of_le (show (([] : List Int).length + (d.drop 9).length) * 1 ≤ 140737488355328 by simp; omega), e2, meet_self]
  cases hk : reqOkD (reqOf d) with
  | false => rfl
  | true =>
    have eb : reqBytesD (reqOf d) = reqBytesL (reqOf d) := by unfold reqBytesD; rw [hk]; rfl
    have e3 : ((bstr (reqBytesD (reqOf d))).toList == (bstr d).toList) = decide (((d.length : Nat) : Int) = 9 + d.getD 8 0) := by
      rw [eb, bstr_eq (fitB_reqBytesL (fitB_drop h 9) hk) (fun x hx => fitB_mem h hx)]
      exact parse_eq d h (by omega)
    rw [e3]
    cases decide (((d.length : Nat) : Int) = 9 + d.getD 8 0) <;> rfl
theorem okS_s_ReqParse : OkFn prog I N.s_ReqParse true S_s_ReqParse := okN (ok_fn (memc okS_s_l09At (memc okS_s_ReqOk (memc okS_s_ReqBytes mem0))) (l := [(N.s_l09At, true, S_s_l09At), (N.s_ReqOk, true, S_s_ReqOk), (N.s_ReqBytes, true, S_s_ReqBytes)]) (p := [(3, takeB [0, 1, 2, 3, 4, 5, 6, 7, 8, 10, 12, 15, 16] (.fork (.more 9 (.fork (.more 11 (.fork (.more 13 (.fork (.more 14 (.fork (.more 17 (takeB [18] (.fork (.one 19 (.fork (.one 20 (.done)))))) (.one 19 (.fork (.one 17 (takeB [18] (.fork (.one 20 (.done))))))))) (.one 19 (.fork (.one 14 (.fork (.one 17 (takeB [18] (.fork (.one 20 (.done))))))))))) (.more 14 (.fork (.more 13 (.fork (.more 17 (takeB [18] (.fork (.one 19 (.fork (.one 20 (.done)))))) (.one 19 (.fork (.one 17 (takeB [18] (.fork (.one 20 (.done))))))))) (.one 19 (.fork (.one 13 (.fork (.one 17 (takeB [18] (.fork (.one 20 (.done))))))))))) (.one 19 (.fork (.more 13 (.fork (.one 14 (.fork (.one 17 (takeB [18] (.fork (.one 20 (.done)))))))) (.one 14 (.fork (.one 13 (.fork (.one 17 (takeB [18] (.fork (.one 20 (.done))))))))))))))) (.more 14 (.fork (.more 11 (.fork (.more 13 (.fork (.more 17 (takeB [18] (.fork (.one 19 (.fork (.one 20 (.done)))))) (.one 19 (.fork (.one 17 (takeB [18] (.fork (.one 20 (.done))))))))) (.one 19 (.fork (.one 13 (.fork (.one 17 (takeB [18] (.fork (.one 20 (.done))))))))))) (.one 19 (.fork (.one 11 (.fork (.one 13 (.fork (.one 17 (takeB [18] (.fork (.one 20 (.done))))))))))))) (.one 19 (.fork (.more 11 (.fork (.more 13 (.fork (.one 14 (.fork (.one 17 (takeB [18] (.fork (.one 20 (.done)))))))) (.one 14 (.fork (.one 13 (.fork (.one 17 (takeB [18] (.fork (.one 20 (.done))))))))))) (.one 14 (.fork (.one 11 (.fork (.one 13 (.fork (.one 17 (takeB [18] (.fork (.one 20 (.done))))))))))))))))) (.more 14 (.fork (.more 9 (.fork (.more 11 (.fork (.more 13 (.fork (.more 17 (takeB [18] (.fork (.one 19 (.fork (.one 20 (.done)))))) (.one 19 (.fork (.one 17 (takeB [18] (.fork (.one 20 (.done))))))))) (.one 19 (.fork (.one 13 (.fork (.one 17 (takeB [18] (.fork (.one 20 (.done))))))))))) (.one 19 (.fork (.one 11 (.fork (.one 13 (.fork (.one 17 (takeB [18] (.fork (.one 20 (.done))))))))))))) (.one 19 (.fork (.one 9 (.fork (.one 11 (.fork (.one 13 (.fork (.one 17 (takeB [18] (.fork (.one 20 (.done))))))))))))))) (.one 19 (.fork (.more 9 (.fork (.more 11 (.fork (.more 13 (.fork (.one 14 (.fork (.one 17 (takeB [18] (.fork (.one 20 (.done)))))))) (.one 14 (.fork (.one 13 (.fork (.one 17 (takeB [18] (.fork (.one 20 (.done))))))))))) (.one 14 (.fork (.one 11 (.fork (.one 13 (.fork (.one 17 (takeB [18] (.fork (.one 20 (.done))))))))))))) (.one 14 (.fork (.one 9 (.fork (.one 11 (.fork (.one 13 (.fork (.one 17 (takeB [18] (.fork (.one 20 (.done))))))))))))))))))), []), (4, takeB [0] (.fork (.one 1 (takeB [2, 3, 4, 7] (.fork (.more 5 (.fork (.more 6 (.fork (.one 8 (takes [9, 10]))) (.one 8 (.fork (.one 6 (takes [9, 10])))))) (.one 8 (.fork (.one 5 (.fork (.one 6 (takes [9, 10]))))))))))), [])]) (ls := []) (lend := []) (focus := false) (fuel := 0) (give := []) (fn := F.s_ReqParse) (by kernel_rfl) (by kernel_rfl) (by kernel_rfl) (by kernel_rfl) (cs := []) (by kernel_rfl) loops0) (S_fnR_of fun d K h => (e_s_ReqParse d.1 K).trans (v_s_ReqParse d.1 h K))
end Go.Ev.Seat
end
section
/- i_readWord: its contract. -/
namespace Go.Ev.Seat
open Go.RowKit
set_option maxRecDepth 100000
set_option linter.unusedVariables false
set_option linter.unusedSimpArgs false
noncomputable abbrev E_i_readWord : Env := En [] [(1, takes [0, 1, 2, 3, 4, 5, 6, 7, 8, 9, 10], [])] [] [] false 0 []
noncomputable def T_i_readWord (d : List Int) (K : Ret → Option Ret) : Option Ret :=
 (bif (decide ((0 : Int) < (((List.length d) : Nat) : Int))) then
 (bif (decide ((1 : Int) < (((List.length d) : Nat) : Int))) then
  K ((.s (.int .i64 (bor .i64 (shlI .i64 (IntKind.wrap .i64 (List.getD d 0 (0 : Int))) (8 : Int)) (IntKind.wrap .i64 (List.getD d 1 (0 : Int)))))), [])
  else none)
 else none)
theorem e_i_readWord (d : List Int) (K : Ret → Option Ret) : evF E_i_readWord true F.i_readWord [.l .no bytesR d] K = T_i_readWord d K := by kernel_rfl
def S_i_readWord : Sm := S_fnR [.l bytesR] (fun d => fitB d.1 && decide (1 < ((d.1.length : Nat) : Int))) (fun d => (.s (.int .i64 (atD d.1 0)), []))
theorem v_i_readWord (d : List Int) (h : (fitB d && decide (1 < ((d.length : Nat) : Int))) = true) (K : Ret → Option Ret) : T_i_readWord d K = K (.s (.int .i64 (atD d 0)), []) := by
  simp only [Bool.and_eq_true, decide_eq_true_eq] at h
  obtain ⟨h1, h2⟩ := h
  have hl := fitB_len h1
  have a := fitB_getD h1 0
  have b := fitB_getD h1 1
  unfold T_i_readWord
  rw [decide_eq_true h2, decide_eq_true (show 0 < ((d.length : Nat) : Int) by omega), wrap_in (n := d.getD 0 0) (by omega) (by omega), wrap_in (n := d.getD 1 0) (by omega) (by omega)]
  have e : bor .i64 (shlI .i64 (d.getD 0 0) 8) (d.getD 1 0) = atD d 0 := by
    have q := bor_word (a := (d.getD 0 0).toNat) (b := (d.getD 1 0).toNat) (by omega) (by omega)
    rw [Int.toNat_of_nonneg a.1, Int.toNat_of_nonneg b.1] at q
    rw [q]
    show _ = 256 * d.getD 0 0 + d.getD 1 0
    omega
  rw [e]; rfl
theorem okS_i_readWord : OkFn prog I N.i_readWord true S_i_readWord := okN (ok_fn mem0 (l := []) (p := [(1, takes [0, 1, 2, 3, 4, 5, 6, 7, 8, 9, 10], [])]) (ls := []) (lend := []) (focus := false) (fuel := 0) (give := []) (fn := F.i_readWord) (by kernel_rfl) (by kernel_rfl) (by kernel_rfl) (by kernel_rfl) (cs := []) (by kernel_rfl) loops0) (S_fnR_of fun d K h => (e_i_readWord d.1 K).trans (v_i_readWord d.1 h K))
end Go.Ev.Seat
end
section
/- slices.Grow of a nil slice: room and nothing else. -/
set_option linter.unusedVariables false
namespace Go.Ev
open Go.RowKit Go.Shelf Go.Proofs
def S_growN (r : Rw) : Sm := fun vs K => match vs with
  | [.nl, .s (.int .i64 n)] => bif decide (0 ≤ n) && decide (n ≤ 1099511627776) then K (.l .deep r [], []) else none
  | _ => none
variable {P : Program} {I : Nat → World → Prop}
theorem grow_ok {ρ : Ren} (L : Lays8.n4 P ρ) (hent : ∀ (args : Array Value) (w : World), (callFunc (ρ.f 4) args).run P w = .ok (.enter (ρ.f 4) args) w) {r : Rw} {i0 : TypeInfo} {z : Value} (hi0 : P.info? (ρ.t 25) = some i0) (hz0 : i0.zero = some z) (hs0 : 0 < i0.size) (hb : i0.bytes ≤ 64) (hn : z.cells.size = r.n) : OkFn P I (ρ.f 4) true (S_growN r) := by
  refine ⟨hent, fun ws K q hq B0 w0 w N vs O M H hI hbel hB hargs hnd hO hM hH hN => ?_⟩
  unfold S_growN at hq
  split at hq
  · rename_i n
    cases hc : (decide (0 ≤ n) && decide (n ≤ 1099511627776)) with
    | false => rw [hc] at hq; cases hq
    | true =>
      rw [hc] at hq
      simp only [Bool.and_eq_true, decide_eq_true_eq] at hc
      obtain ⟨h0, h1⟩ := hc
      have hq' : K (.l .deep r [], []) = some q := hq
      obtain ⟨v1, vs1, O1, O2, M1, M2, H1, H2, rfl, rfl, rfl, rfl, a1, b1⟩ := hargs
      obtain ⟨v2, vs2, O3, O4, M3, M4, H3, H4, rfl, rfl, rfl, rfl, a2, b2⟩ := b1
      obtain ⟨rfl, rfl, rfl, rfl⟩ := b2
      have e1 : v1 = .slice none 0 0 := a1.1
      have e2 : v2 = .int .i64 n := a2.1.1
      subst e1 e2
      obtain ⟨k, rfl⟩ : ∃ k : Nat, n = (k : Int) := ⟨n.toNat, by omega⟩
      by_cases hk : k = 0
      · subst hk
        refine Calls.mono (Any8.slices_Grow_room L none 0 0 0 w (Nat.le_refl _) (by omega) (by omega) (by omega)) ?_
        rintro e w' ⟨rfl, rfl⟩
        refine ⟨_, hq', ⟨⟨[], [], [], [], [], [], ⟨.inl ⟨rfl, rfl, none, 0, rfl, fun _ => ⟨rfl, rfl⟩⟩, rfl, rfl⟩, ⟨rfl, rfl, rfl, rfl⟩, List.nodup_nil, by simp, by simp, by simp⟩, hbel, Nat.le_refl _, fun _ _ _ => rfl⟩⟩
      · have hmul : (0 + k) * i0.bytes ≤ 1099511627776 * 64 := Nat.mul_le_mul (by omega) hb
        refine Calls.mono (Any8.slices_Grow_grow L i0 z hi0 hz0 hs0 none 0 0 k [] w (Nat.le_refl _) (by omega) (by omega) (by omega) (by simp) (fun _ => rfl) (fun a h => nomatch h)) ?_
        rintro e w' ⟨rfl, rfl⟩
        have hsz : ∀ cs t, (w.drew.alloc (.cells cs t)).heap.size = w.heap.size + 1 := fun cs t => alloc_size w.drew _
        have hnew : ∀ cs t, (w.drew.alloc (.cells cs t)).heap[w.heap.size]? = some (.cells cs t (0, 0)) := fun cs t => alloc_new w.drew _
        refine ⟨_, hq', ⟨⟨[w.heap.size], [], [w.heap.size], [], [], [], ⟨.inr ⟨w.heap.size, 0, _, [], rfl, Nat.zero_le _, rfl, by rw [hsz]; omega, fun _ => ⟨_, _, hnew _ _, ?_⟩, rfl⟩, rfl, rfl⟩, ⟨rfl, rfl, rfl, rfl⟩, by simp, ?_, by simp, ?_⟩, (hbel.drew).alloc hB _, by rw [hsz]; omega, fun x hx _ => alloc_old w.drew _ x hx⟩⟩
        · simp only [Array.size_append, size_zeroCells, hn]
          have : ∀ c : Nat, 0 + c * r.n ≤ ([] : List Value).toArray.size + (0 + k - 0) * r.n + (c - (0 + k)) * r.n := fun c => by
            rw [Nat.add_assoc, ← Nat.add_mul]
            have : c * r.n ≤ (0 + k - 0 + (c - (0 + k))) * r.n := Nat.mul_le_mul_right _ (by omega)
            omega
          exact this _
        · intro x hx
          simp at hx
          subst hx
          exact ⟨.inr (Nat.le_refl _), by rw [hsz]; omega⟩
        · intro x hx
          simp at hx
          subst hx
          exact ⟨by simp, fun h => by have := hN _ h; omega⟩
  · cases hq
end Go.Ev
namespace Go.Proofs
open Go.Shelf
def Tryd.grow_ren : Go.Shelf.Ren := ⟨fun | 4 => 131 | n => n, fun | 22 => 22 | 25 => 5 | 3 => 3 | 4 => 4 | 9 => 9 | 20 => 20 | 0 => 0 | n => n, fun | n => n⟩
theorem Tryd.grow : Go.Proofs.Lays8.n4 Tryd.prog Tryd.grow_ren := {
  mixed := by kernel_rfl
  f4 := ⟨Tryd.f131.name, by decide, Tryd.func131.trans (congrArg some (by kernel_rfl))⟩
  t0 := Tryd.underlying0
  a0 := Tryd.isAgg0
  z0 := Tryd.sizeOf0
  v0 := Tryd.zeroValue0
  t3 := Tryd.underlying3
  a3 := Tryd.isAgg3
  z3 := Tryd.sizeOf3
  v3 := Tryd.zeroValue3
  t4 := Tryd.underlying4
  a4 := Tryd.isAgg4
  z4 := Tryd.sizeOf4
  v4 := Tryd.zeroValue4
  t9 := Tryd.underlying9
  a9 := Tryd.isAgg9
  z9 := Tryd.sizeOf9
  v9 := Tryd.zeroValue9
  t20 := Tryd.underlying20
  a20 := Tryd.isAgg20
  z20 := Tryd.sizeOf20
  v20 := Tryd.zeroValue20
  t22 := Tryd.underlying22
  a22 := Tryd.isAgg22
  z22 := Tryd.sizeOf22
  v22 := Tryd.zeroValue22 }
end Go.Proofs
namespace Go.Ev.Seat
open Go.RowKit
set_option maxRecDepth 100000
theorem okS_Grow : OkFn prog I N.slices_Grow_bytes_byte true (S_growN bytesR) := by
  refine grow_ok (i0 := (prog.info? 5).getD default) (z := .int .u8 0) Go.Proofs.Tryd.grow (ok_fn (l := []) (p := []) (ls := []) (lend := []) (focus := false) (fuel := 0) (give := []) (fresh := true) mem0 (g := N.slices_Grow_bytes_byte) (fn := F.slices_Grow_bytes_byte) (by kernel_rfl) (by kernel_rfl) (by kernel_rfl) (by kernel_rfl) (cs := []) (by kernel_rfl) loops0).1 (by kernel_rfl) (by kernel_rfl) (Nat.le_of_ble_eq_true (by kernel_rfl)) (Nat.le_of_ble_eq_true (by kernel_rfl)) rfl
end Go.Ev.Seat
end
section
/- slices.Clone and slices.Concat of bytes. -/
namespace Go.Ev.Seat
open Go.RowKit
set_option maxRecDepth 100000
set_option linter.unusedVariables false
-- Clone
noncomputable def G_Clone := evF (En []) true F.slices_Clone_bytes_byte
theorem ok_Clone : OkFn prog I N.slices_Clone_bytes_byte true G_Clone := ok_fn mem0 (by kernel_rfl) (by kernel_rfl) (by kernel_rfl) (by kernel_rfl) (cs := []) (by kernel_rfl) loops0
theorem okS_Clone : OkFn prog I N.slices_Clone_bytes_byte true (S_toL bytesR) := okW ok_Clone (S_toL_of fun xs K h => by
  have e : G_Clone [.l .no bytesR xs] K = (bif (Nat.beq (List.length xs) 0) then meet (K (.l .deep bytesR [], [])) (bif (Nat.ble (((List.length ([] : List Int)) + (List.length xs)) * 1) 140737488355328) then K ((.l .deep bytesR ([] ++ xs)), []) else none)
    else (bif (Nat.ble (((List.length ([] : List Int)) + (List.length xs)) * 1) 140737488355328) then K ((.l .deep bytesR ([] ++ xs)), []) else none)) := by kernel_rfl
  rw [e]
  simp only [Cc.lim, Bool.and_eq_true] at h
  have h1 : xs.length ≤ 1048576 := Nat.le_of_ble_eq_true h.1
  have h2 : Nat.ble (((List.length ([] : List Int)) + (List.length xs)) * 1) 140737488355328 = true := Nat.ble_eq_true_of_le (by simp; omega)
  rw [h2]
  cases xs with
  | nil => exact meet_self _
  | cons x xs => rfl)
-- Concat
def sh_cc1 : Ss := { tm := (.cons (.l .no pieceR) (.cons (.x) (.cons (.x) (.cons (.int .i64) (.cons (.x) (.cons (.x) (.cons (.x) (.cons (.x) (.cons (.x) (.cons (.l .no pieceR) (.cons (.int .i64) (.cons (.int .i64) (xsh 24))))))))))))), ob := .nil, nx := 0, io := .nil }
def d_cc1 (x0 : List (List (Int))) (x3 : Int) (x9 : List (List (Int))) (x10 : Int) (x11 : Int) : sh_cc1.T := ((x0, ((), ((), (x3, ((), ((), ((), ((), ((), (x9, (x10, (x11, xd 24)))))))))))), (), ())
def z_cc1 (x0 : List (List Int)) (x3 : Int) : St := { tm := ([(.l .no pieceR x0), .x, .x, (.s (.int .i64 x3))] ++ List.replicate 32 .x), ob := [], nx := 0, io := [] }
def R_cc1 (d : sh_cc1.T) (K : Ex → St → Option Ret) : Option Ret := match d with
  | ((x0, (_, (_, (x3, (_, (_, (_, (_, (_, (x9, (x10, (x11, _)))))))))))), _, _) => bif (x11 == 0) && (x3 == 0) && (x10 == ((x9.length : Nat) : Int)) && Nat.ble x9.length 4611686018427387904 && Nat.ble (sumW List.length x9) 1099511627776 then K (.ext 0) (z_cc1 x0 ((sumW List.length x9 : Nat) : Int)) else none
def sh_cc2 : Ss := { tm := (.cons (.x) (.cons (.x) (.cons (.x) (.cons (.x) (.cons (.x) (.cons (.x) (.cons (.w 0) (.cons (.x) (.cons (.x) (.cons (.x) (.cons (.x) (.cons (.x) (.cons (.x) (.cons (.x) (.cons (.x) (.cons (.x) (.cons (.x) (.cons (.x) (.cons (.x) (.cons (.x) (.cons (.x) (.cons (.x) (.cons (.x) (.cons (.x) (.cons (.x) (.cons (.l .no pieceR) (.cons (.int .i64) (.cons (.int .i64) (xsh 8))))))))))))))))))))))))))))), ob := (.arr true true bytesR .nil), nx := 1, io := .nil }
def d_cc2 (x25 : List (List (Int))) (x26 : Int) (x27 : Int) (o0 : List (Int)) : sh_cc2.T := (((), ((), ((), ((), ((), ((), ((), ((), ((), ((), ((), ((), ((), ((), ((), ((), ((), ((), ((), ((), ((), ((), ((), ((), ((), (x25, (x26, (x27, xd 8)))))))))))))))))))))))))))), (o0, ()), ())
def z_cc2 (o0 : List Int) : St := { tm := ([.x, .x, .x, .x, .x, .x, (.w 0)] ++ List.replicate 29 .x), ob := [(0, (.arr true true bytesR o0))], nx := 1, io := [] }
def R_cc2 (d : sh_cc2.T) (K : Ex → St → Option Ret) : Option Ret := match d with
  | ((_, (_, (_, (_, (_, (_, (_, (_, (_, (_, (_, (_, (_, (_, (_, (_, (_, (_, (_, (_, (_, (_, (_, (_, (_, (x25, (x26, (x27, _)))))))))))))))))))))))))))), (o0, _), _) => bif (x27 == 0) && (x26 == ((x25.length : Nat) : Int)) && Nat.ble x25.length 4611686018427387904 && Nat.beq o0.length 0 && Nat.ble (sumW List.length x25) 1099511627776 then K (.ext 2) (z_cc2 x25.flatten) else none
noncomputable def E_cc : Env := En [(N.slices_Grow_bytes_byte, true, S_growN bytesR)] [] [(3, [0,3,9,10,11], [0,3], loopF sh_cc1 R_cc1), (11, [6,25,26,27], [6], loopF sh_cc2 R_cc2)]
noncomputable abbrev L_cc1 (n : Nat) (x0 : List (List Int)) (x3 : Int) (x9 : List (List (Int))) (x10 x11 : Int) (K : Ex → St → Option Ret) : Option Ret := rounds (run E_cc (bodyOf F.slices_Concat_bytes_byte 3)) [0,3,9,10,11] [0,3] n (sh_cc1.mk' (d_cc1 x0 x3 x9 x10 x11)) K
noncomputable abbrev L_cc2 (n : Nat) (x25 : List (List (Int))) (x26 x27 : Int) (o0 : List Int) (K : Ex → St → Option Ret) : Option Ret := rounds (run E_cc (bodyOf F.slices_Concat_bytes_byte 11)) [6,25,26,27] [6] n (sh_cc2.mk' (d_cc2 x25 x26 x27 o0)) K
theorem step_cc1 (n : Nat) (x0 : List (List (Int))) (x3 : Int) (x9 : List (List (Int))) (x10 : Int) (x11 : Int) (K : Ex → St → Option Ret) : L_cc1 (n + 1) x0 x3 x9 x10 x11 K =
 (bif decide (x11 < x10) then
 (bif (decide ((0 : Int) ≤ x11) && decide (x11 < (((List.length x9) : Nat) : Int))) then
  (bif decide ((IntKind.wrap .i64 (x3 + (((List.length (List.getD x9 (Int.toNat x11) (pieceR.dflt))) : Nat) : Int))) < (0 : Int)) then
   none
   else L_cc1 n x0 (IntKind.wrap .i64 (x3 + (((List.length (List.getD x9 (Int.toNat x11) (pieceR.dflt))) : Nat) : Int))) x9 x10 (IntKind.wrap .i64 (x11 + (1 : Int))) K)
  else none)
 else K (.ext 0) (z_cc1 x0 x3)) := by kernel_rfl
theorem step_cc2 (n : Nat) (x25 : List (List (Int))) (x26 : Int) (x27 : Int) (o0 : List (Int)) (K : Ex → St → Option Ret) : L_cc2 (n + 1) x25 x26 x27 o0 K =
 (bif decide (x27 < x26) then
 (bif (decide ((0 : Int) ≤ x27) && decide (x27 < (((List.length x25) : Nat) : Int))) then
  (bif (Nat.ble (((List.length o0) + (List.length (List.getD x25 (Int.toNat x27) (pieceR.dflt)))) * 1) 140737488355328) then
   L_cc2 n x25 x26 (IntKind.wrap .i64 (x27 + (1 : Int))) (o0 ++ (List.getD x25 (Int.toNat x27) (pieceR.dflt))) K
   else none)
  else none)
 else K (.ext 2) (z_cc2 o0)) := by kernel_rfl
theorem go_cc1 (x0 x9 : List (List Int)) (K : Ex → St → Option Ret) (h1 : x9.length ≤ 4611686018427387904) (h2 : sumW List.length x9 ≤ 1099511627776) : L_cc1 (x9.length + 1) x0 0 x9 ((x9.length : Nat) : Int) 0 K = K (.ext 0) (z_cc1 x0 ((sumW List.length x9 : Nat) : Int)) := by
  have := loop_idx (R := fun n i (s : Int) => L_cc1 n x0 s x9 ((x9.length : Nat) : Int) i K) (k := K (.ext 0) (z_cc1 x0 ((sumW List.length x9 : Nat) : Int))) (f := fun i => ((sumW List.length (x9.take i) : Nat) : Int)) x9.length (fun m i hi => by
    show L_cc1 (m + 1) x0 _ x9 _ i K = L_cc1 m x0 ((sumW List.length (x9.take (i + 1)) : Nat) : Int) x9 _ ((i + 1 : Nat) : Int) K
    have hs := sumW_take (g := List.length) (z := (pieceR.dflt : List Int)) hi
    have hs' : sumW List.length (List.take (i + 1) x9) = sumW List.length (List.take i x9) + List.length (x9.getD i pieceR.dflt) := hs
    have hle : sumW List.length (x9.take (i + 1)) ≤ sumW List.length x9 := sumW_take_le
    rw [step_cc1, decide_eq_true (show ((i : Nat) : Int) < ((x9.length : Nat) : Int) by omega), decide_eq_true (show (0 : Int) ≤ ((i : Nat) : Int) by omega), wrap_nat (show i ≤ 4611686018427387904 by omega), Int.toNat_natCast, wrap_id (by omega) (by omega), hs', decide_eq_false (show ¬ ((((sumW List.length (List.take i x9) : Nat) : Int) + ((List.length (x9.getD i pieceR.dflt) : Nat) : Int)) < 0) by omega), Int.natCast_add]
    rfl) (fun m => by
    show L_cc1 (m + 1) x0 _ x9 _ _ K = _
    rw [step_cc1, decide_eq_false (show ¬ ((x9.length : Nat) : Int) < ((x9.length : Nat) : Int) by omega), List.take_length]; rfl)
  exact this
theorem go_cc2 (x25 : List (List Int)) (K : Ex → St → Option Ret) (h1 : x25.length ≤ 4611686018427387904) (h2 : sumW List.length x25 ≤ 1099511627776) : L_cc2 (x25.length + 1) x25 ((x25.length : Nat) : Int) 0 [] K = K (.ext 2) (z_cc2 x25.flatten) := by
  have := loop_idx (R := fun n i (s : List Int) => L_cc2 n x25 ((x25.length : Nat) : Int) i s K) (k := K (.ext 2) (z_cc2 x25.flatten)) (f := fun i => (x25.take i).flatten) x25.length (fun m i hi => by
    show L_cc2 (m + 1) x25 _ i _ K = L_cc2 m x25 _ ((i + 1 : Nat) : Int) (x25.take (i + 1)).flatten K
    have hs := sumW_take (g := List.length) (z := (pieceR.dflt : List Int)) hi
    have hs' : sumW List.length (List.take (i + 1) x25) = sumW List.length (List.take i x25) + List.length (x25.getD i pieceR.dflt) := hs
    have hle : sumW List.length (x25.take (i + 1)) ≤ sumW List.length x25 := sumW_take_le
    have hfl := sumW_flatten (x25.take i)
    rw [step_cc2, decide_eq_true (show ((i : Nat) : Int) < ((x25.length : Nat) : Int) by omega), decide_eq_true (show (0 : Int) ≤ ((i : Nat) : Int) by omega), wrap_nat (show i ≤ 4611686018427387904 by omega), Int.toNat_natCast, Nat.ble_eq_true_of_le (show (((x25.take i).flatten.length + (x25.getD i pieceR.dflt).length) * 1) ≤ 140737488355328 by omega)]
    show L_cc2 m x25 _ _ ((x25.take i).flatten ++ x25.getD i pieceR.dflt) K = _
    have hf2 : (x25.take (i + 1)).flatten = (x25.take i).flatten ++ x25.getD i pieceR.dflt := flatten_take hi
    rw [hf2]) (fun m => by
    show L_cc2 (m + 1) x25 _ _ _ K = _
    rw [step_cc2, decide_eq_false (show ¬ ((x25.length : Nat) : Int) < ((x25.length : Nat) : Int) by omega), List.take_length]; rfl)
  exact this
theorem loop_cc1 : LoopOk E_cc (bodyOf F.slices_Concat_bytes_byte 3) := by
  refine loopF_ok (n := 3) (sh := sh_cc1) (R := R_cc1) (by kernel_rfl) rfl rfl (fun d K r hr => ?_)
  obtain ⟨⟨x0, u1, u2, x3, u4, u5, u6, u7, u8, x9, x10, x11, u12⟩, u13, u14⟩ := d
  unfold R_cc1 at hr
  simp only at hr
  cases hc : ((x11 == 0) && (x3 == 0) && (x10 == ((x9.length : Nat) : Int)) && Nat.ble x9.length 4611686018427387904 && Nat.ble (sumW List.length x9) 1099511627776) with
  | false => rw [hc] at hr; cases hr
  | true =>
    rw [hc] at hr
    simp only [Bool.and_eq_true, beq_iff_eq] at hc
    obtain ⟨⟨⟨⟨rfl, rfl⟩, rfl⟩, h1⟩, h2⟩ := hc
    exact ⟨x9.length + 1, (go_cc1 x0 x9 K (Nat.le_of_ble_eq_true h1) (Nat.le_of_ble_eq_true h2)).trans hr⟩
theorem loop_cc2 : LoopOk E_cc (bodyOf F.slices_Concat_bytes_byte 11) := by
  refine loopF_ok (n := 11) (sh := sh_cc2) (R := R_cc2) (by kernel_rfl) rfl rfl (fun d K r hr => ?_)
  obtain ⟨⟨_, _, _, _, _, _, _, _, _, _, _, _, _, _, _, _, _, _, _, _, _, _, _, _, _, x25, x26, x27, u12⟩, ⟨o0, u13⟩, u14⟩ := d
  unfold R_cc2 at hr
  simp only at hr
  cases hc : ((x27 == 0) && (x26 == ((x25.length : Nat) : Int)) && Nat.ble x25.length 4611686018427387904 && Nat.beq o0.length 0 && Nat.ble (sumW List.length x25) 1099511627776) with
  | false => rw [hc] at hr; cases hr
  | true =>
    rw [hc] at hr
    simp only [Bool.and_eq_true, beq_iff_eq] at hc
    obtain ⟨⟨⟨⟨rfl, rfl⟩, h1⟩, h3⟩, h2⟩ := hc
    have h3' : o0 = [] := List.eq_nil_of_length_eq_zero (Nat.eq_of_beq_eq_true h3)
    subst h3'
    exact ⟨x25.length + 1, (go_cc2 x25 K (Nat.le_of_ble_eq_true h1) (Nat.le_of_ble_eq_true h2)).trans hr⟩
noncomputable def G_Concat := evF E_cc true F.slices_Concat_bytes_byte
theorem ok_Concat : OkFn prog I N.slices_Concat_bytes_byte true G_Concat := ok_fn (memc okS_Grow mem0) (by kernel_rfl) (by kernel_rfl) (by kernel_rfl) (by kernel_rfl) (cs := [bodyOf F.slices_Concat_bytes_byte 3, bodyOf F.slices_Concat_bytes_byte 11]) (by kernel_rfl) (loopsc loop_cc1 (loopsc loop_cc2 loops0))
def S_concat : Sm := fun vs K => match vs with
  | [v] => match (Cc.sl pieceR).dec v with
    | some (xs : List (List Int)) => bif Nat.ble xs.length 4611686018427387904 && Nat.ble (sumW List.length xs) 1099511627776 then K (.l .deep bytesR xs.flatten, []) else none
    | none => none
  | _ => none
theorem okS_Concat : OkFn prog I N.slices_Concat_bytes_byte true S_concat := okW ok_Concat (by
  intro ws K q hr
  unfold S_concat at hr
  split at hr
  · split at hr
    · rename_i xs hx
      rw [Cc.dec_ok _ hx]
      have e : G_Concat [.l .no pieceR xs] K = (bif ((0 : Int) == 0) && ((0 : Int) == 0) && (((List.length xs : Nat) : Int) == ((List.length xs : Nat) : Int)) && Nat.ble (List.length xs) 4611686018427387904 && Nat.ble (sumW List.length xs) 1099511627776 then
        (bif decide (0 ≤ ((sumW List.length xs : Nat) : Int)) && decide (((sumW List.length xs : Nat) : Int) ≤ 1099511627776) then
         (bif ((0 : Int) == 0) && (((List.length xs : Nat) : Int) == ((List.length xs : Nat) : Int)) && Nat.ble (List.length xs) 4611686018427387904 && Nat.beq 0 0 && Nat.ble (sumW List.length xs) 1099511627776 then K (.l .deep bytesR (List.flatten xs), []) else none)
         else none) else none) := by kernel_rfl
      cases hl : (Nat.ble xs.length 4611686018427387904 && Nat.ble (sumW List.length xs) 1099511627776) with
      | false => rw [hl] at hr; cases hr
      | true =>
        rw [hl] at hr
        simp only [Bool.and_eq_true] at hl
        refine e.trans (Eq.trans ?_ hr)
        rw [hl.1, hl.2, beq_self_eq_true, beq_self_eq_true, decide_eq_true (show (0 : Int) ≤ ((sumW List.length xs : Nat) : Int) by omega), decide_eq_true (show ((sumW List.length xs : Nat) : Int) ≤ 1099511627776 by have := Nat.le_of_ble_eq_true hl.2; omega)]
        rfl
    · cases hr
  · cases hr)
end Go.Ev.Seat
end
section
/- i_in: its contract. -/
namespace Go.Ev.Seat
open Go.RowKit
set_option maxRecDepth 100000
set_option linter.unusedVariables false
set_option linter.unusedSimpArgs false
noncomputable abbrev E_i_in : Env := En [] [] [] [] false 0 []
noncomputable def T_i_in (n : Int) (low : Int) (high : Int) (K : Ret → Option Ret) : Option Ret :=
 (bif (decide (low ≤ n)) then
 K ((.s (.bool (decide (n ≤ high)))), [])
 else K ((.s (.bool false)), []))
theorem e_i_in (n : Int) (low : Int) (high : Int) (K : Ret → Option Ret) : evF E_i_in true F.i_in [.s (.int .i64 n), .s (.int .i64 low), .s (.int .i64 high)] K = T_i_in n low high K := by kernel_rfl
def S_i_in : Sm := S_fnR [.i, .i, .i] (fun d => true) (fun d => (bl (decide (d.2.1 ≤ d.1) && decide (d.1 ≤ d.2.2.1)), []))
theorem v_i_in (n : Int) (low : Int) (high : Int) (K : Ret → Option Ret) : T_i_in n low high K = K (bl (decide (low ≤ n) && decide (n ≤ high)), []) := by
  unfold T_i_in; cases decide (low ≤ n) <;> rfl
theorem okS_i_in : OkFn prog I N.i_in true S_i_in := okN (ok_fn mem0 (l := []) (p := []) (ls := []) (lend := []) (focus := false) (fuel := 0) (give := []) (fn := F.i_in) (by kernel_rfl) (by kernel_rfl) (by kernel_rfl) (by kernel_rfl) (cs := []) (by kernel_rfl) loops0) (S_fnR_of fun d K h => (e_i_in d.1 d.2.1 d.2.2.1 K).trans (v_i_in d.1 d.2.1 d.2.2.1 K))
end Go.Ev.Seat
end
section
/- i_isSession: its contract. -/
namespace Go.Ev.Seat
open Go.RowKit
set_option maxRecDepth 100000
set_option linter.unusedVariables false
set_option linter.unusedSimpArgs false
noncomputable abbrev E_i_isSession : Env := En [(N.i_in, true, S_i_in)] [] [] [] false 0 []
noncomputable def T_i_isSession (k : Int) (K : Ret → Option Ret) : Option Ret :=
 K ((.s (.bool ((decide ((1 : Int) ≤ k)) && (decide (k ≤ (8 : Int)))))), [])
theorem e_i_isSession (k : Int) (K : Ret → Option Ret) : evF E_i_isSession true F.i_isSession [.s (.int .i64 k)] K = T_i_isSession k K := by kernel_rfl
def S_i_isSession : Sm := S_fnR [.i] (fun d => true) (fun d => (bl (decide (1 ≤ d.1) && decide (d.1 ≤ 8)), []))
theorem v_i_isSession (k : Int) (K : Ret → Option Ret) : T_i_isSession k K = K (bl (decide (1 ≤ k) && decide (k ≤ 8)), []) := by
  rfl
theorem okS_i_isSession : OkFn prog I N.i_isSession true S_i_isSession := okN (ok_fn (memc okS_i_in mem0) (l := [(N.i_in, true, S_i_in)]) (p := []) (ls := []) (lend := []) (focus := false) (fuel := 0) (give := []) (fn := F.i_isSession) (by kernel_rfl) (by kernel_rfl) (by kernel_rfl) (by kernel_rfl) (cs := []) (by kernel_rfl) loops0) (S_fnR_of fun d K h => (e_i_isSession d.1 K).trans (v_i_isSession d.1 K))
end Go.Ev.Seat
end
section
/- utf8_word_bytes: its contract. -/
namespace Go.Ev.Seat
open Go.RowKit
set_option maxRecDepth 100000
set_option linter.unusedVariables false
set_option linter.unusedSimpArgs false
def w8 (p : List Int) : Int := bor .u64 (bor .u64 (bor .u64 (bor .u64 (bor .u64 (bor .u64 (bor .u64 (IntKind.wrap .u64 (p.getD 0 0)) (shlI .u64 (IntKind.wrap .u64 (p.getD 1 0)) 8)) (shlI .u64 (IntKind.wrap .u64 (p.getD 2 0)) 16)) (shlI .u64 (IntKind.wrap .u64 (p.getD 3 0)) 24)) (shlI .u64 (IntKind.wrap .u64 (p.getD 4 0)) 32)) (shlI .u64 (IntKind.wrap .u64 (p.getD 5 0)) 40)) (shlI .u64 (IntKind.wrap .u64 (p.getD 6 0)) 48)) (shlI .u64 (IntKind.wrap .u64 (p.getD 7 0)) 56)
noncomputable abbrev E_utf8_word_bytes : Env := En [] [(1, takes [0, 1, 2, 3, 4, 5, 6, 7, 8, 9, 10, 11, 12, 13, 14, 15, 16, 17, 18, 19, 20, 21, 22], []), (2, takes [0, 1, 2, 3, 4, 5, 6, 7, 8, 9, 10, 11, 12, 13, 14, 15, 16, 17, 18, 19, 20, 21, 22, 23, 24, 25, 26, 27, 28, 29, 30, 31, 32, 33, 34, 35, 36, 37, 38, 39, 40, 41, 42, 43, 44, 45, 46], [])] [] [] false 0 []
noncomputable def T_utf8_word_bytes (p : List Int) (K : Ret → Option Ret) : Option Ret :=
 (bif (decide ((0 : Int) < (((List.length p) : Nat) : Int))) then
 (bif (decide ((1 : Int) < (((List.length p) : Nat) : Int))) then
  (bif (decide ((2 : Int) < (((List.length p) : Nat) : Int))) then
   (bif (decide ((3 : Int) < (((List.length p) : Nat) : Int))) then
    (bif (decide ((4 : Int) < (((List.length p) : Nat) : Int))) then
     (bif (decide ((5 : Int) < (((List.length p) : Nat) : Int))) then
      (bif (decide ((6 : Int) < (((List.length p) : Nat) : Int))) then
       (bif (decide ((7 : Int) < (((List.length p) : Nat) : Int))) then
        K ((.s (.int .u64 (bor .u64 (bor .u64 (bor .u64 (bor .u64 (bor .u64 (bor .u64 (bor .u64 (IntKind.wrap .u64 (List.getD p 0 (0 : Int))) (shlI .u64 (IntKind.wrap .u64 (List.getD p 1 (0 : Int))) (8 : Int))) (shlI .u64 (IntKind.wrap .u64 (List.getD p 2 (0 : Int))) (16 : Int))) (shlI .u64 (IntKind.wrap .u64 (List.getD p 3 (0 : Int))) (24 : Int))) (shlI .u64 (IntKind.wrap .u64 (List.getD p 4 (0 : Int))) (32 : Int))) (shlI .u64 (IntKind.wrap .u64 (List.getD p 5 (0 : Int))) (40 : Int))) (shlI .u64 (IntKind.wrap .u64 (List.getD p 6 (0 : Int))) (48 : Int))) (shlI .u64 (IntKind.wrap .u64 (List.getD p 7 (0 : Int))) (56 : Int))))), [])
        else none)
       else none)
      else none)
     else none)
    else none)
   else none)
  else none)
 else none)
theorem e_utf8_word_bytes (p : List Int) (K : Ret → Option Ret) : evF E_utf8_word_bytes true F.utf8_word_bytes [.l .no bytesR p] K = T_utf8_word_bytes p K := by kernel_rfl
def S_utf8_word_bytes : Sm := S_fnR [.l bytesR] (fun d => Nat.ble 8 d.1.length) (fun d => (.s (.int .u64 (w8 d.1)), []))
theorem v_utf8_word_bytes (p : List Int) (h : (Nat.ble 8 p.length) = true) (K : Ret → Option Ret) : T_utf8_word_bytes p K = K (.s (.int .u64 (w8 p)), []) := by
  have h' := Nat.le_of_ble_eq_true h
  unfold T_utf8_word_bytes
  simp (disch := omega) only [decide_eq_true, Bool.true_and, cond_true]
  rfl
theorem okS_utf8_word_bytes : OkFn prog I N.utf8_word_bytes true S_utf8_word_bytes := okN (ok_fn mem0 (l := []) (p := [(1, takes [0, 1, 2, 3, 4, 5, 6, 7, 8, 9, 10, 11, 12, 13, 14, 15, 16, 17, 18, 19, 20, 21, 22], []), (2, takes [0, 1, 2, 3, 4, 5, 6, 7, 8, 9, 10, 11, 12, 13, 14, 15, 16, 17, 18, 19, 20, 21, 22, 23, 24, 25, 26, 27, 28, 29, 30, 31, 32, 33, 34, 35, 36, 37, 38, 39, 40, 41, 42, 43, 44, 45, 46], [])]) (ls := []) (lend := []) (focus := false) (fuel := 0) (give := []) (fn := F.utf8_word_bytes) (by kernel_rfl) (by kernel_rfl) (by kernel_rfl) (by kernel_rfl) (cs := []) (by kernel_rfl) loops0) (S_fnR_of fun d K h => (e_utf8_word_bytes d.1 K).trans (v_utf8_word_bytes d.1 h K))
end Go.Ev.Seat
end
section
/- utf8_Valid: its contract. -/
namespace Go.Ev.Seat
open Go.RowKit
set_option maxRecDepth 100000
set_option linter.unusedVariables false
set_option linter.unusedSimpArgs false
def sh_utf8_Valid_10_x0 : Ss := { tm := (.cons (.l .no bytesR) (.cons (.x) (.cons (.x) (.cons (.int .u8) (xsh 184))))), ob := .nil, nx := 0, io := .nil }
def d_utf8_Valid_10_x0 (x0 : List Int) (x3 : Int) : sh_utf8_Valid_10_x0.T := ((x0, ((), ((), (x3, xd 184)))), (), ())
def z_utf8_Valid_10_0 (x0 : List Int) (x3 : Int) : St := sh_utf8_Valid_10_x0.mk' (d_utf8_Valid_10_x0 x0 x3)
def sh_utf8_Valid_10_0 : Ss := { tm := (.cons (.l .no bytesR) (.cons (.x) (.cons (.x) (.cons (.int .u8) (xsh 184))))), ob := .nil, nx := 0, io := .nil }
def d_utf8_Valid_10_0 (x0 : List Int) (x3 : Int) : sh_utf8_Valid_10_0.T := ((x0, ((), ((), (x3, xd 184)))), (), ())
def w_utf8_Valid_10_0 (d : sh_utf8_Valid_10_0.T) (f : (List Int) → Int → Option Ret) : Option Ret := match d with | ((x0, (_, (_, (x3, _)))), _, _) => f x0 x3
noncomputable def P_utf8_Valid_10_0 (x0 : List Int) (x3 : Int) (nx0 : (List Int) → Int → Option Ret) (k0 : (List Int) → Int → Option Ret) : Option Ret :=
 (bif (decide ((((List.length x0) : Nat) : Int) > (32 : Int))) then
 (bif (decide ((8 : Int) ≤ (((List.length x0) : Nat) : Int))) then
  (bif (decide ((16 : Int) ≤ (((List.length x0) : Nat) : Int))) then
   (bif (decide ((24 : Int) ≤ (((List.length x0) : Nat) : Int))) then
    (bif (Nat.ble 8 (List.length x0)) then
     (bif (Nat.ble 8 (List.length (List.drop 8 x0))) then
      (bif (Nat.ble 8 (List.length (List.drop 16 x0))) then
       (bif (Nat.ble 8 (List.length (List.drop 24 x0))) then
        (bif ((band .u64 (bor .u64 (bor .u64 (w8 x0) (w8 (List.drop 8 x0))) (bor .u64 (w8 (List.drop 16 x0)) (w8 (List.drop 24 x0)))) (9259542123273814144 : Int)) == (0 : Int)) then
         (bif (decide ((32 : Int) ≤ (((List.length x0) : Nat) : Int))) then
          (nx0 (List.drop 32 x0) x3)
          else none)
         else (k0 x0 x3))
        else none)
       else none)
      else none)
     else none)
    else none)
   else none)
  else none)
 else (k0 x0 x3))
noncomputable def Q_utf8_Valid_10_0 : Nat → (List Int) → Int → ((List Int) → Int → Option Ret) → Option Ret
  | 0, _, _, _ => none
  | m + 1, x0, x3, k0 => P_utf8_Valid_10_0 x0 x3 (fun x0 x3 => (Q_utf8_Valid_10_0 m x0 x3 k0)) k0
noncomputable def R_utf8_Valid_10_0 (x0 : List Int) (x3 : Int) (k0 : (List Int) → Int → Option Ret) : Option Ret := Q_utf8_Valid_10_0 (List.length x0 + x3.toNat + 2) x0 x3 k0
noncomputable def W_utf8_Valid_10 : LoopFn := (fun (σ : St) (K : Ex → St → Option Ret) => (match sh_utf8_Valid_10_0.un σ with | some d => w_utf8_Valid_10_0 d (fun x0 x3 => R_utf8_Valid_10_0 x0 x3 (fun x0 x3 => (K (.ext 2) (z_utf8_Valid_10_0 x0 x3)))) | none => none))
def sh_utf8_Valid_2_x0 : Ss := { tm := (.cons (.x) (.cons (.x) (.cons (.bool) (xsh 185)))), ob := .nil, nx := 0, io := .nil }
def d_utf8_Valid_2_x0 (x2 : Bool) : sh_utf8_Valid_2_x0.T := (((), ((), (x2, xd 185))), (), ())
def z_utf8_Valid_2_0 (x2 : Bool) : St := sh_utf8_Valid_2_x0.mk' (d_utf8_Valid_2_x0 x2)
def sh_utf8_Valid_2_x1 : Ss := { tm := (xsh 188), ob := .nil, nx := 0, io := .nil }
def d_utf8_Valid_2_x1  : sh_utf8_Valid_2_x1.T := (xd 188, (), ())
def z_utf8_Valid_2_1 : St := sh_utf8_Valid_2_x1.mk' d_utf8_Valid_2_x1
def sh_utf8_Valid_2_0 : Ss := { tm := (.cons (.l .no bytesR) (xsh 187)), ob := .nil, nx := 0, io := .nil }
def d_utf8_Valid_2_0 (x0 : List Int) : sh_utf8_Valid_2_0.T := ((x0, xd 187), (), ())
def w_utf8_Valid_2_0 (d : sh_utf8_Valid_2_0.T) (f : (List Int) → Option Ret) : Option Ret := match d with | ((x0, _), _, _) => f x0
noncomputable def P_utf8_Valid_2_0 (x0 : List Int) (nx0 : (List Int) → Option Ret) (k0 : Bool → Option Ret) (k1 : Option Ret) : Option Ret :=
 (bif (decide ((((List.length x0) : Nat) : Int) > (0 : Int))) then
 (bif (decide ((0 : Int) < (((List.length x0) : Nat) : Int))) then
  (bif (decide ((List.getD x0 0 (0 : Int)) < (128 : Int))) then
   (bif (decide ((1 : Int) ≤ (((List.length x0) : Nat) : Int))) then
    (bif (decide ((((List.length (List.drop 1 x0)) : Nat) : Int) > (8 : Int))) then
     (bif (Nat.ble 8 (List.length (List.drop 1 x0))) then
      (bif ((band .u64 (w8 (List.drop 1 x0)) (9259542123273814144 : Int)) == (0 : Int)) then
       (bif (decide ((8 : Int) ≤ (((List.length (List.drop 1 x0)) : Nat) : Int))) then
        (bif (decide ((((List.length (List.drop 8 (List.drop 1 x0))) : Nat) : Int) > (16 : Int))) then
         (bif (decide ((8 : Int) ≤ (((List.length (List.drop 8 (List.drop 1 x0))) : Nat) : Int))) then
          (bif (Nat.ble 8 (List.length (List.drop 8 (List.drop 1 x0)))) then
           (bif (Nat.ble 8 (List.length (List.drop 8 (List.drop 8 (List.drop 1 x0))))) then
            (bif ((band .u64 (bor .u64 (w8 (List.drop 8 (List.drop 1 x0))) (w8 (List.drop 8 (List.drop 8 (List.drop 1 x0))))) (9259542123273814144 : Int)) == (0 : Int)) then
             (bif (decide ((16 : Int) ≤ (((List.length (List.drop 8 (List.drop 1 x0))) : Nat) : Int))) then
              (R_utf8_Valid_10_0 (List.drop 16 (List.drop 8 (List.drop 1 x0))) (List.getD x0 0 (0 : Int)) (fun y0 y1 =>
               (nx0 y0)))
              else none)
             else (nx0 (List.drop 8 (List.drop 1 x0))))
            else none)
           else none)
          else none)
         else (nx0 (List.drop 8 (List.drop 1 x0))))
        else none)
       else (nx0 (List.drop 1 x0)))
      else none)
     else (nx0 (List.drop 1 x0)))
    else none)
   else (bif ((decide ((0 : Int) ≤ (List.getD x0 0 (0 : Int)))) && (decide ((List.getD x0 0 (0 : Int)) < ((256 : Nat) : Int)))) then
    (bif (Nat.blt (Int.toNat (List.getD x0 0 (0 : Int))) (List.length utfFirst)) then
     (bif ((decide ((0 : Int) ≤ (shrI .u8 (List.getD utfFirst (Int.toNat (List.getD x0 0 (0 : Int))) (0 : Int)) (4 : Int)))) && (decide ((shrI .u8 (List.getD utfFirst (Int.toNat (List.getD x0 0 (0 : Int))) (0 : Int)) (4 : Int)) < ((16 : Nat) : Int)))) then
      (bif (Nat.blt (Int.toNat (shrI .u8 (List.getD utfFirst (Int.toNat (List.getD x0 0 (0 : Int))) (0 : Int)) (4 : Int))) (List.length utfAccept)) then
       (bif ((IntKind.wrap .i64 (band .u8 (List.getD utfFirst (Int.toNat (List.getD x0 0 (0 : Int))) (0 : Int)) (7 : Int))) == (2 : Int)) then
        (bif (decide ((((List.length x0) : Nat) : Int) < (2 : Int))) then
         (k0 false)
         else (bif (decide ((1 : Int) < (((List.length x0) : Nat) : Int))) then
          (bif (decide ((List.getD x0 1 (0 : Int)) < (List.getD utfAccept (Int.toNat (shrI .u8 (List.getD utfFirst (Int.toNat (List.getD x0 0 (0 : Int))) (0 : Int)) (4 : Int))) (accR.dflt)).1)) then
           (k0 false)
           else (bif (decide ((1 : Int) < (((List.length x0) : Nat) : Int))) then
            (bif (decide ((List.getD utfAccept (Int.toNat (shrI .u8 (List.getD utfFirst (Int.toNat (List.getD x0 0 (0 : Int))) (0 : Int)) (4 : Int))) (accR.dflt)).2 < (List.getD x0 1 (0 : Int)))) then
             (k0 false)
             else (bif (decide ((2 : Int) ≤ (((List.length x0) : Nat) : Int))) then
              (nx0 (List.drop 2 x0))
              else none))
            else none))
          else none))
        else (bif ((IntKind.wrap .i64 (band .u8 (List.getD utfFirst (Int.toNat (List.getD x0 0 (0 : Int))) (0 : Int)) (7 : Int))) == (3 : Int)) then
         (bif (decide ((((List.length x0) : Nat) : Int) < (3 : Int))) then
          (k0 false)
          else (bif (decide ((1 : Int) < (((List.length x0) : Nat) : Int))) then
           (bif (decide ((List.getD x0 1 (0 : Int)) < (List.getD utfAccept (Int.toNat (shrI .u8 (List.getD utfFirst (Int.toNat (List.getD x0 0 (0 : Int))) (0 : Int)) (4 : Int))) (accR.dflt)).1)) then
            (k0 false)
            else (bif (decide ((1 : Int) < (((List.length x0) : Nat) : Int))) then
             (bif (decide ((List.getD utfAccept (Int.toNat (shrI .u8 (List.getD utfFirst (Int.toNat (List.getD x0 0 (0 : Int))) (0 : Int)) (4 : Int))) (accR.dflt)).2 < (List.getD x0 1 (0 : Int)))) then
              (k0 false)
              else (bif (decide ((2 : Int) < (((List.length x0) : Nat) : Int))) then
               (bif (decide ((List.getD x0 2 (0 : Int)) < (128 : Int))) then
                (k0 false)
                else (bif (decide ((2 : Int) < (((List.length x0) : Nat) : Int))) then
                 (bif (decide ((191 : Int) < (List.getD x0 2 (0 : Int)))) then
                  (k0 false)
                  else (bif (decide ((3 : Int) ≤ (((List.length x0) : Nat) : Int))) then
                   (nx0 (List.drop 3 x0))
                   else none))
                 else none))
               else none))
             else none))
           else none))
         else (bif ((IntKind.wrap .i64 (band .u8 (List.getD utfFirst (Int.toNat (List.getD x0 0 (0 : Int))) (0 : Int)) (7 : Int))) == (4 : Int)) then
          (bif (decide ((((List.length x0) : Nat) : Int) < (4 : Int))) then
           (k0 false)
           else (bif (decide ((1 : Int) < (((List.length x0) : Nat) : Int))) then
            (bif (decide ((List.getD x0 1 (0 : Int)) < (List.getD utfAccept (Int.toNat (shrI .u8 (List.getD utfFirst (Int.toNat (List.getD x0 0 (0 : Int))) (0 : Int)) (4 : Int))) (accR.dflt)).1)) then
             (k0 false)
             else (bif (decide ((1 : Int) < (((List.length x0) : Nat) : Int))) then
              (bif (decide ((List.getD utfAccept (Int.toNat (shrI .u8 (List.getD utfFirst (Int.toNat (List.getD x0 0 (0 : Int))) (0 : Int)) (4 : Int))) (accR.dflt)).2 < (List.getD x0 1 (0 : Int)))) then
               (k0 false)
               else (bif (decide ((2 : Int) < (((List.length x0) : Nat) : Int))) then
                (bif (decide ((List.getD x0 2 (0 : Int)) < (128 : Int))) then
                 (k0 false)
                 else (bif (decide ((2 : Int) < (((List.length x0) : Nat) : Int))) then
                  (bif (decide ((191 : Int) < (List.getD x0 2 (0 : Int)))) then
                   (k0 false)
                   else (bif (decide ((3 : Int) < (((List.length x0) : Nat) : Int))) then
                    (bif (decide ((List.getD x0 3 (0 : Int)) < (128 : Int))) then
                     (k0 false)
                     else (bif (decide ((3 : Int) < (((List.length x0) : Nat) : Int))) then
                      (bif (decide ((191 : Int) < (List.getD x0 3 (0 : Int)))) then
                       (k0 false)
                       else (bif (decide ((4 : Int) ≤ (((List.length x0) : Nat) : Int))) then
                        (nx0 (List.drop 4 x0))
                        else none))
                      else none))
                    else none))
                  else none))
                else none))
              else none))
            else none))
          else (k0 false))))
       else none)
      else none)
     else none)
    else none))
  else none)
 else k1)
noncomputable def Q_utf8_Valid_2_0 : Nat → (List Int) → (Bool → Option Ret) → (Option Ret) → Option Ret
  | 0, _, _, _ => none
  | m + 1, x0, k0, k1 => P_utf8_Valid_2_0 x0 (fun x0 => (Q_utf8_Valid_2_0 m x0 k0 k1)) k0 k1
noncomputable def R_utf8_Valid_2_0 (x0 : List Int) (k0 : Bool → Option Ret) (k1 : Option Ret) : Option Ret := Q_utf8_Valid_2_0 (List.length x0 + 2) x0 k0 k1
noncomputable def W_utf8_Valid_2 : LoopFn := (fun (σ : St) (K : Ex → St → Option Ret) => (match sh_utf8_Valid_2_0.un σ with | some d => w_utf8_Valid_2_0 d (fun x0 => R_utf8_Valid_2_0 x0 (fun x2 => (K .ret (z_utf8_Valid_2_0 x2))) (K (.ext 0) z_utf8_Valid_2_1)) | none => none))
noncomputable abbrev E_utf8_Valid : Env := En [(N.utf8_word_bytes, true, S_utf8_word_bytes)] [(8, takeB [0, 1, 2, 3, 4, 6, 7] (.fork (.one 5 (.fork (.one 8 (takes [9, 10, 11, 12]))))), []), (10, takeB [0, 1, 2, 3, 4, 6, 7, 10, 11, 13, 14] (.fork (.one 5 (.fork (.one 8 (takeB [9] (.fork (.one 12 (.fork (.one 15 (takes [16, 17, 18, 19, 20])))))))))), []), (18, takes [0, 1, 2, 3, 4, 5, 6, 7, 8, 9, 10, 11, 12, 13, 14, 15, 16, 17, 18], []), (22, takes [0, 1, 2, 3, 4, 5, 6, 7, 8, 9, 10, 11, 12, 13, 14, 15, 16, 17, 18, 19, 20, 21, 22, 23, 24, 25, 26, 27, 28, 29, 30], []), (26, takes [0, 1, 2, 3, 4, 5, 6, 7, 8, 9, 10, 11, 12, 13, 14, 15, 16, 17, 18, 19, 20, 21, 22, 23, 24, 25, 26, 27, 28, 29, 30, 31, 32, 33, 34, 35, 36, 37, 38, 39, 40, 41, 42], [])] [(10, [0,3], [0,2,3], W_utf8_Valid_10), (2, [0], [2], W_utf8_Valid_2)] [] false 0 []
theorem st_utf8_Valid_10_0 (m : Nat) (x0 : List Int) (x3 : Int) (K : Ex → St → Option Ret) : rounds (run E_utf8_Valid (bodyOf F.utf8_Valid 10)) [0,3] [0,2,3] (m + 1) (sh_utf8_Valid_10_0.mk' (d_utf8_Valid_10_0 x0 x3)) K = P_utf8_Valid_10_0 x0 x3 (fun x0 x3 => (rounds (run E_utf8_Valid (bodyOf F.utf8_Valid 10)) [0,3] [0,2,3] m (sh_utf8_Valid_10_0.mk' (d_utf8_Valid_10_0 x0 x3)) K)) (fun x0 x3 => (K (.ext 2) (z_utf8_Valid_10_0 x0 x3))) := by kernel_rfl
theorem q_utf8_Valid_10 (K : Ex → St → Option Ret) : ∀ m : Nat, (∀ (x0 : List Int) (x3 : Int), rounds (run E_utf8_Valid (bodyOf F.utf8_Valid 10)) [0,3] [0,2,3] m (sh_utf8_Valid_10_0.mk' (d_utf8_Valid_10_0 x0 x3)) K = Q_utf8_Valid_10_0 m x0 x3 (fun x0 x3 => (K (.ext 2) (z_utf8_Valid_10_0 x0 x3))))
  | 0 => (fun _ _ => rfl)
  | m + 1 => (fun x0 x3 => (by rw [st_utf8_Valid_10_0, show (fun x0 x3 => (rounds (run E_utf8_Valid (bodyOf F.utf8_Valid 10)) [0,3] [0,2,3] m (sh_utf8_Valid_10_0.mk' (d_utf8_Valid_10_0 x0 x3)) K)) = (fun x0 x3 => (Q_utf8_Valid_10_0 m x0 x3 (fun x0 x3 => (K (.ext 2) (z_utf8_Valid_10_0 x0 x3))))) from funext fun x0 => funext fun x3 => (q_utf8_Valid_10 K m) x0 x3]; rfl))
theorem loopK_utf8_Valid_10 : LoopOk E_utf8_Valid (bodyOf F.utf8_Valid 10) := by
  refine loopW_ok (n := 10) (F := W_utf8_Valid_10) (by kernel_rfl) rfl (li := [0,3]) (lo := [0,2,3]) rfl (fun σ K r hr => ?_)
  unfold W_utf8_Valid_10 at hr
  split at hr
  · rename_i d hd
    rw [Ss.un_mk hd]
    exact ⟨_, ((q_utf8_Valid_10 K _) _ _).trans hr⟩
  · cases hr
theorem st_utf8_Valid_2_0 (m : Nat) (x0 : List Int) (K : Ex → St → Option Ret) : rounds (run E_utf8_Valid (bodyOf F.utf8_Valid 2)) [0] [2] (m + 1) (sh_utf8_Valid_2_0.mk' (d_utf8_Valid_2_0 x0)) K = P_utf8_Valid_2_0 x0 (fun x0 => (rounds (run E_utf8_Valid (bodyOf F.utf8_Valid 2)) [0] [2] m (sh_utf8_Valid_2_0.mk' (d_utf8_Valid_2_0 x0)) K)) (fun x2 => (K .ret (z_utf8_Valid_2_0 x2))) (K (.ext 0) z_utf8_Valid_2_1) := by kernel_rfl
theorem q_utf8_Valid_2 (K : Ex → St → Option Ret) : ∀ m : Nat, (∀ (x0 : List Int), rounds (run E_utf8_Valid (bodyOf F.utf8_Valid 2)) [0] [2] m (sh_utf8_Valid_2_0.mk' (d_utf8_Valid_2_0 x0)) K = Q_utf8_Valid_2_0 m x0 (fun x2 => (K .ret (z_utf8_Valid_2_0 x2))) (K (.ext 0) z_utf8_Valid_2_1))
  | 0 => (fun _ => rfl)
  | m + 1 => (fun x0 => (by rw [st_utf8_Valid_2_0, show (fun x0 => (rounds (run E_utf8_Valid (bodyOf F.utf8_Valid 2)) [0] [2] m (sh_utf8_Valid_2_0.mk' (d_utf8_Valid_2_0 x0)) K)) = (fun x0 => (Q_utf8_Valid_2_0 m x0 (fun x2 => (K .ret (z_utf8_Valid_2_0 x2))) (K (.ext 0) z_utf8_Valid_2_1))) from funext fun x0 => (q_utf8_Valid_2 K m) x0]; rfl))
theorem loopK_utf8_Valid_2 : LoopOk E_utf8_Valid (bodyOf F.utf8_Valid 2) := by
  refine loopW_ok (n := 2) (F := W_utf8_Valid_2) (by kernel_rfl) rfl (li := [0]) (lo := [2]) rfl (fun σ K r hr => ?_)
  unfold W_utf8_Valid_2 at hr
  split at hr
  · rename_i d hd
    rw [Ss.un_mk hd]
    exact ⟨_, ((q_utf8_Valid_2 K _) _).trans hr⟩
  · cases hr
noncomputable def T_utf8_Valid (p : List Int) (K : Ret → Option Ret) : Option Ret :=
 (bif ((decide ((((List.length p) : Nat) : Int) ≤ (((List.length p) : Nat) : Int))) && (decide ((((List.length p) : Nat) : Int) ≤ (((List.length p) : Nat) : Int)))) then
 (R_utf8_Valid_2_0 (List.drop 0 (List.take (List.length p) p)) (fun y2 =>
  K ((.s (.bool y2)), [])) (K ((.s (.bool true)), [])))
 else none)
theorem e_utf8_Valid (p : List Int) (K : Ret → Option Ret) : evF E_utf8_Valid true F.utf8_Valid [.l .no bytesR p] K = T_utf8_Valid p K := by kernel_rfl
theorem w8_nat {xs : List Int} (h : fitB xs = true) : ∃ W : Nat, w8 xs = (W : Int) ∧ W < 18446744073709551616 ∧ (W &&& M8 = 0 ↔ ∀ i, i < 8 → xs.getD i 0 < 128) := by
  have hb : ∀ i : Nat, ∃ n : Nat, xs.getD i 0 = (n : Int) ∧ n < 256 := fun i => by
    have := fitB_get h i
    exact ⟨(xs.getD i 0).toNat, by omega, by omega⟩
  obtain ⟨n0, e0, l0⟩ := hb 0
  obtain ⟨n1, e1, l1⟩ := hb 1
  obtain ⟨n2, e2, l2⟩ := hb 2
  obtain ⟨n3, e3, l3⟩ := hb 3
  obtain ⟨n4, e4, l4⟩ := hb 4
  obtain ⟨n5, e5, l5⟩ := hb 5
  obtain ⟨n6, e6, l6⟩ := hb 6
  obtain ⟨n7, e7, l7⟩ := hb 7
  have o : ∀ {a b : Nat}, a < 18446744073709551616 → b < 18446744073709551616 → a ||| b < 18446744073709551616 := fun ha hb => Nat.or_lt_two_pow (n := 64) ha hb
  have s0 : n0 < 18446744073709551616 := by omega
  have s1 := shl_lt l1 (show 1 < 8 by omega)
  have s2 := shl_lt l2 (show 2 < 8 by omega)
  have s3 := shl_lt l3 (show 3 < 8 by omega)
  have s4 := shl_lt l4 (show 4 < 8 by omega)
  have s5 := shl_lt l5 (show 5 < 8 by omega)
  have s6 := shl_lt l6 (show 6 < 8 by omega)
  have s7 := shl_lt l7 (show 7 < 8 by omega)
  refine ⟨((((((n0 ||| n1 * 2 ^ (8 * 1)) ||| n2 * 2 ^ (8 * 2)) ||| n3 * 2 ^ (8 * 3)) ||| n4 * 2 ^ (8 * 4)) ||| n5 * 2 ^ (8 * 5)) ||| n6 * 2 ^ (8 * 6)) ||| n7 * 2 ^ (8 * 7), ?_, o (o (o (o (o (o (o s0 s1) s2) s3) s4) s5) s6) s7, ?_⟩
  · unfold w8
    rw [e0, e1, e2, e3, e4, e5, e6, e7]
    rw [show (8 : Int) = ((8 * 1 : Nat) : Int) from rfl, show (16 : Int) = ((8 * 2 : Nat) : Int) from rfl, show (24 : Int) = ((8 * 3 : Nat) : Int) from rfl, show (32 : Int) = ((8 * 4 : Nat) : Int) from rfl, show (40 : Int) = ((8 * 5 : Nat) : Int) from rfl, show (48 : Int) = ((8 * 6 : Nat) : Int) from rfl, show (56 : Int) = ((8 * 7 : Nat) : Int) from rfl]
    rw [shl64 l1 (by omega), shl64 l2 (by omega), shl64 l3 (by omega), shl64 l4 (by omega), shl64 l5 (by omega), shl64 l6 (by omega), shl64 l7 (by omega), wrap64 s0]
    rw [bor64 s0 s1, bor64 (o s0 s1) s2, bor64 (o (o s0 s1) s2) s3, bor64 (o (o (o s0 s1) s2) s3) s4, bor64 (o (o (o (o s0 s1) s2) s3) s4) s5, bor64 (o (o (o (o (o s0 s1) s2) s3) s4) s5) s6, bor64 (o (o (o (o (o (o s0 s1) s2) s3) s4) s5) s6) s7]
  · rw [or_mask, or_mask, or_mask, or_mask, or_mask, or_mask, or_mask, hi_ok l1 (by omega), hi_ok l2 (by omega), hi_ok l3 (by omega), hi_ok l4 (by omega), hi_ok l5 (by omega), hi_ok l6 (by omega), hi_ok l7 (by omega)]
    have h0 := hi_ok l0 (show 0 < 8 by omega)
    rw [show n0 * 2 ^ (8 * 0) = n0 by simp] at h0
    rw [h0]
    constructor
    · intro hh i hi
      have hc : i = 0 ∨ i = 1 ∨ i = 2 ∨ i = 3 ∨ i = 4 ∨ i = 5 ∨ i = 6 ∨ i = 7 := by omega
      rcases hc with rfl | rfl | rfl | rfl | rfl | rfl | rfl | rfl
      · rw [e0]; omega
      · rw [e1]; omega
      · rw [e2]; omega
      · rw [e3]; omega
      · rw [e4]; omega
      · rw [e5]; omega
      · rw [e6]; omega
      · rw [e7]; omega
    · intro hh
      have g0 := hh 0 (by omega)
      have g1 := hh 1 (by omega)
      have g2 := hh 2 (by omega)
      have g3 := hh 3 (by omega)
      have g4 := hh 4 (by omega)
      have g5 := hh 5 (by omega)
      have g6 := hh 6 (by omega)
      have g7 := hh 7 (by omega)
      rw [e0] at g0; rw [e1] at g1; rw [e2] at g2; rw [e3] at g3; rw [e4] at g4; rw [e5] at g5; rw [e6] at g6; rw [e7] at g7
      omega
theorem mask1 {xs : List Int} (h : fitB xs = true) (hm : (band .u64 (w8 xs) (9259542123273814144 : Int) == (0 : Int)) = true) : ∀ i, i < 8 → xs.getD i 0 < 128 := by
  obtain ⟨W, e, l, hw⟩ := w8_nat h
  rw [e, show (9259542123273814144 : Int) = ((M8 : Nat) : Int) from rfl, band64 l (by decide), beq_iff_eq] at hm
  exact hw.1 (by omega)
theorem mask2 {xs ys : List Int} (h : fitB xs = true) (h2 : fitB ys = true) (hm : (band .u64 (bor .u64 (w8 xs) (w8 ys)) (9259542123273814144 : Int) == (0 : Int)) = true) : (∀ i, i < 8 → xs.getD i 0 < 128) ∧ ∀ i, i < 8 → ys.getD i 0 < 128 := by
  obtain ⟨W, e, l, hw⟩ := w8_nat h
  obtain ⟨V, e2, l2, hv⟩ := w8_nat h2
  rw [e, e2, bor64 l l2, show (9259542123273814144 : Int) = ((M8 : Nat) : Int) from rfl, band64 (Nat.or_lt_two_pow (n := 64) l l2) (by decide), beq_iff_eq] at hm
  have : (W ||| V) &&& M8 = 0 := by omega
  rw [or_mask] at this
  exact ⟨hw.1 this.1, hv.1 this.2⟩
theorem mask4 {a b c d : List Int} (ha : fitB a = true) (hb : fitB b = true) (hc : fitB c = true) (hd : fitB d = true) (hm : (band .u64 (bor .u64 (bor .u64 (w8 a) (w8 b)) (bor .u64 (w8 c) (w8 d))) (9259542123273814144 : Int) == (0 : Int)) = true) :
    (∀ i, i < 8 → a.getD i 0 < 128) ∧ (∀ i, i < 8 → b.getD i 0 < 128) ∧ (∀ i, i < 8 → c.getD i 0 < 128) ∧ ∀ i, i < 8 → d.getD i 0 < 128 := by
  obtain ⟨A, e1, l1, h1⟩ := w8_nat ha
  obtain ⟨B, e2, l2, h2⟩ := w8_nat hb
  obtain ⟨C, e3, l3, h3⟩ := w8_nat hc
  obtain ⟨D, e4, l4, h4⟩ := w8_nat hd
  have o : ∀ {a b : Nat}, a < 18446744073709551616 → b < 18446744073709551616 → a ||| b < 18446744073709551616 := fun ha hb => Nat.or_lt_two_pow (n := 64) ha hb
  rw [e1, e2, e3, e4, bor64 l1 l2, bor64 l3 l4, bor64 (o l1 l2) (o l3 l4), show (9259542123273814144 : Int) = ((M8 : Nat) : Int) from rfl, band64 (o (o l1 l2) (o l3 l4)) (by decide), beq_iff_eq] at hm
  have : ((A ||| B) ||| (C ||| D)) &&& M8 = 0 := by omega
  rw [or_mask, or_mask, or_mask] at this
  exact ⟨h1.1 this.1.1, h2.1 this.1.2, h3.1 this.2.1, h4.1 this.2.2⟩
theorem ascii_more {xs : List Int} {n m : Nat} (h1 : ∀ i, i < n → xs.getD i 0 < 128) (h2 : ∀ i, i < m → (xs.drop n).getD i 0 < 128) : ∀ i, i < n + m → xs.getD i 0 < 128 := fun i hi => by
  by_cases h : i < n
  · exact h1 i h
  · have := h2 (i - n) (by omega)
    rw [getD_drop, show n + (i - n) = i by omega] at this
    exact this
theorem loop10 (k0 : List Int → Int → Option Ret) (x3 : Int) : ∀ (m : Nat) (xs : List Int), fitB xs = true → xs.length < m → ∃ ys, fitB ys = true ∧ ys.length ≤ xs.length ∧ valid ys = valid xs ∧ Q_utf8_Valid_10_0 m xs x3 k0 = k0 ys x3
  | 0, xs, _, h => absurd h (by omega)
  | m + 1, xs, hf, hl => by
    show ∃ ys, fitB ys = true ∧ ys.length ≤ xs.length ∧ valid ys = valid xs ∧ P_utf8_Valid_10_0 xs x3 _ k0 = k0 ys x3
    unfold P_utf8_Valid_10_0
    by_cases h32 : ((xs.length : Nat) : Int) > 32
    · simp (disch := omega) only [decide_eq_true, decide_eq_false, Bool.true_and, cond_true, List.length_drop, Nat.ble_eq_true_of_le]
      cases hm : (band .u64 (bor .u64 (bor .u64 (w8 xs) (w8 (List.drop 8 xs))) (bor .u64 (w8 (List.drop 16 xs)) (w8 (List.drop 24 xs)))) (9259542123273814144 : Int) == (0 : Int)) with
      | false => exact ⟨xs, hf, Nat.le_refl _, rfl, rfl⟩
      | true =>
        obtain ⟨a1, a2, a3, a4⟩ := mask4 hf (fitB_drop hf 8) (fitB_drop hf 16) (fitB_drop hf 24) hm
        have a := ascii_more (n := 24) (ascii_more (n := 16) (ascii_more (n := 8) a1 a2) a3) a4
        obtain ⟨ys, g1, g2, g3, g4⟩ := loop10 k0 x3 m (List.drop 32 xs) (fitB_drop hf 32) (by simp; omega)
        exact ⟨ys, g1, by simp at g2; omega, g3.trans (valid_drop 32 (by omega) a), g4⟩
    · rw [decide_eq_false h32]
      exact ⟨xs, hf, Nat.le_refl _, rfl, rfl⟩
theorem step2 (x0 : List Int) (hx : fitB x0 = true) (nx : List Int → Option Ret) (k0 : Bool → Option Ret) (k1 RES : Option Ret)
    (hn : ∀ ys, fitB ys = true → ys.length < x0.length → valid ys = valid x0 → nx ys = RES) (h1 : valid x0 = true → k1 = RES) (h0 : valid x0 = false → k0 false = RES) : P_utf8_Valid_2_0 x0 nx k0 k1 = RES := by
  unfold P_utf8_Valid_2_0
  by_cases hl : ((x0.length : Nat) : Int) > 0
  case neg =>
    rw [decide_eq_false hl]
    have : x0 = [] := List.length_eq_zero_iff.1 (by omega)
    exact h1 (by rw [this]; exact valid_nil)
  case pos =>
  have hb := fitB_get hx 0
  by_cases hb1 : x0.getD 0 0 < 128
  · have hd : ∀ n, 1 ≤ n → n ≤ x0.length → (∀ i, i < n → x0.getD i 0 < 128) → nx (x0.drop n) = RES := fun n hn1 hn2 ha => hn _ (fitB_drop hx n) (by simp; omega) (valid_drop n hn2 ha)
    have a0 : ∀ i, i < 1 → x0.getD i 0 < 128 := fun i hi => by rw [show i = 0 by omega]; exact hb1
    simp (disch := omega) only [decide_eq_true, Bool.true_and, cond_true, List.length_drop, List.drop_drop]
    by_cases h9 : ((x0.length - 1 : Nat) : Int) > 8
    case neg => rw [decide_eq_false h9]; exact hd 1 (by omega) (by omega) a0
    rw [decide_eq_true h9, Nat.ble_eq_true_of_le (show 8 ≤ x0.length - 1 by omega)]
    cases hm : (band .u64 (w8 (List.drop 1 x0)) (9259542123273814144 : Int) == (0 : Int)) with
    | false => exact hd 1 (by omega) (by omega) a0
    | true =>
    have a9 := ascii_more a0 (mask1 (fitB_drop hx 1) hm)
    rw [decide_eq_true (show (8 : Int) ≤ ((x0.length - 1 : Nat) : Int) by omega)]
    simp only [cond_true]
    by_cases h17 : ((x0.length - (1 + 8) : Nat) : Int) > 16
    case neg => rw [decide_eq_false h17]; exact hd 9 (by omega) (by omega) a9
    simp (disch := omega) only [decide_eq_true, Nat.ble_eq_true_of_le, Bool.true_and, cond_true]
    cases hm2 : (band .u64 (bor .u64 (w8 (List.drop (1 + 8) x0)) (w8 (List.drop (1 + 8 + 8) x0))) (9259542123273814144 : Int) == (0 : Int)) with
    | false => exact hd 9 (by omega) (by omega) a9
    | true =>
    obtain ⟨m1, m2⟩ := mask2 (fitB_drop hx _) (fitB_drop hx _) hm2
    have a25 := ascii_more (ascii_more a9 m1) m2
    unfold R_utf8_Valid_10_0
    obtain ⟨ys, g1, g2, g3, g4⟩ := loop10 (fun y0 y1 => nx y0) (x0.getD 0 0) ((List.drop (1 + 8 + 16) x0).length + (x0.getD 0 0).toNat + 2) (List.drop (1 + 8 + 16) x0) (fitB_drop hx _) (by omega)
    refine g4.trans (hn ys g1 ?_ (g3.trans (valid_drop 25 (by omega) a25)))
    simp at g2; omega
  · have hsh := first_sh hb.1 hb.2
    have hlen := first_len
    have hacc := accept_len
    have e1 : shrI .u8 (List.getD utfFirst (Int.toNat (List.getD x0 0 (0 : Int))) (0 : Int)) (4 : Int) = fsh (x0.getD 0 0) := rfl
    have e2 : IntKind.wrap .i64 (band .u8 (List.getD utfFirst (Int.toNat (List.getD x0 0 (0 : Int))) (0 : Int)) (7 : Int)) = fsz (x0.getD 0 0) := rfl
    have e3 : List.getD utfAccept (Int.toNat (fsh (x0.getD 0 0))) (Seat.accR.dflt) = fac (x0.getD 0 0) := rfl
    rw [e1, e2, e3]
    have c1 : Nat.blt (Int.toNat (List.getD x0 0 (0 : Int))) (List.length utfFirst) = true := by rw [hlen, Nat.blt_eq]; omega
    have c2 : Nat.blt (Int.toNat (fsh (x0.getD 0 0))) (List.length utfAccept) = true := by rw [hacc, Nat.blt_eq]; omega
    rw [c1, c2]
    simp (disch := omega) only [decide_eq_true, decide_eq_false, Bool.true_and, cond_true, cond_false]
    have stop : runeSz x0 = 0 → k0 false = RES := fun h => h0 (valid_stop h (by omega))
    have go : ∀ n, runeSz x0 = n → 1 ≤ n → nx (x0.drop n) = RES := fun n h hn1 => by
      subst h
      exact hn _ (fitB_drop hx _) (by have := runeSz_le x0; simp; omega) (valid_step (by omega)).symm
    by_cases r1 : x0.getD 0 0 < 194 ∨ 245 ≤ x0.getD 0 0
    · rw [first_1 (by omega) hb.2 r1]
      refine stop ?_
      unfold runeSz
      repeat' split
      all_goals first | omega | rfl
    by_cases r2 : x0.getD 0 0 < 224
    · obtain ⟨f1, f2⟩ := first_2 (by omega) r2
      rw [f1, f2]
      have er : runeSz x0 = if 2 ≤ x0.length ∧ 128 ≤ x0.getD 1 0 ∧ x0.getD 1 0 ≤ 191 then 2 else 0 := by
        unfold runeSz; rw [if_neg (by omega), if_neg (by omega), if_neg (by omega), if_pos r2]
      simp only [BEq.rfl, cond_true]
      by_cases c : ((x0.length : Nat) : Int) < 2
      · rw [decide_eq_true c]; exact stop (by rw [er, if_neg (by omega)])
      rw [decide_eq_false c, decide_eq_true (show (1 : Int) < ((x0.length : Nat) : Int) by omega)]
      simp only [cond_true, cond_false]
      by_cases d1 : x0.getD 1 0 < 128
      · rw [decide_eq_true d1]; exact stop (by rw [er, if_neg (by omega)])
      by_cases d2 : 191 < x0.getD 1 0
      · rw [decide_eq_false d1, decide_eq_true d2]; exact stop (by rw [er, if_neg (by omega)])
      rw [decide_eq_false d1, decide_eq_false d2, decide_eq_true (show (2 : Int) ≤ ((x0.length : Nat) : Int) by omega)]
      exact go 2 (by rw [er, if_pos (by omega)]) (by omega)
    by_cases r3 : x0.getD 0 0 < 240
    · obtain ⟨f1, f2⟩ := first_3 (by omega) r3
      rw [f1, f2]
      have er : runeSz x0 = if 3 ≤ x0.length ∧ lo3 (x0.getD 0 0) ≤ x0.getD 1 0 ∧ x0.getD 1 0 ≤ hi3 (x0.getD 0 0) ∧ 128 ≤ x0.getD 2 0 ∧ x0.getD 2 0 ≤ 191 then 3 else 0 := by
        unfold runeSz; rw [if_neg (by omega), if_neg (by omega), if_neg (by omega), if_neg (by omega), if_pos r3]
      rw [show ((3 : Int) == 2) = false from rfl]
      simp only [BEq.rfl, cond_true, cond_false]
      by_cases c : ((x0.length : Nat) : Int) < 3
      · rw [decide_eq_true c]; exact stop (by rw [er, if_neg (by omega)])
      rw [decide_eq_false c, decide_eq_true (show (1 : Int) < ((x0.length : Nat) : Int) by omega), decide_eq_true (show (2 : Int) < ((x0.length : Nat) : Int) by omega), decide_eq_true (show (3 : Int) ≤ ((x0.length : Nat) : Int) by omega)]
      simp only [cond_true, cond_false]
      by_cases d1 : x0.getD 1 0 < lo3 (x0.getD 0 0)
      · rw [decide_eq_true d1]; exact stop (by rw [er, if_neg (by omega)])
      by_cases d2 : hi3 (x0.getD 0 0) < x0.getD 1 0
      · rw [decide_eq_false d1, decide_eq_true d2]; exact stop (by rw [er, if_neg (by omega)])
      by_cases d3 : x0.getD 2 0 < 128
      · rw [decide_eq_false d1, decide_eq_false d2, decide_eq_true d3]; exact stop (by rw [er, if_neg (by omega)])
      by_cases d4 : 191 < x0.getD 2 0
      · rw [decide_eq_false d1, decide_eq_false d2, decide_eq_false d3, decide_eq_true d4]; exact stop (by rw [er, if_neg (by omega)])
      rw [decide_eq_false d1, decide_eq_false d2, decide_eq_false d3, decide_eq_false d4]
      exact go 3 (by rw [er, if_pos (by omega)]) (by omega)
    · obtain ⟨f1, f2⟩ := first_4 (b := x0.getD 0 0) (by omega) (by omega)
      rw [f1, f2]
      have er : runeSz x0 = if 4 ≤ x0.length ∧ lo4 (x0.getD 0 0) ≤ x0.getD 1 0 ∧ x0.getD 1 0 ≤ hi4 (x0.getD 0 0) ∧ 128 ≤ x0.getD 2 0 ∧ x0.getD 2 0 ≤ 191 ∧ 128 ≤ x0.getD 3 0 ∧ x0.getD 3 0 ≤ 191 then 4 else 0 := by
        unfold runeSz; rw [if_neg (by omega), if_neg (by omega), if_neg (by omega), if_neg (by omega), if_neg r3, if_pos (by omega)]
      rw [show ((4 : Int) == 2) = false from rfl, show ((4 : Int) == 3) = false from rfl]
      simp only [BEq.rfl, cond_true, cond_false]
      by_cases c : ((x0.length : Nat) : Int) < 4
      · rw [decide_eq_true c]; exact stop (by rw [er, if_neg (by omega)])
      rw [decide_eq_false c, decide_eq_true (show (1 : Int) < ((x0.length : Nat) : Int) by omega), decide_eq_true (show (2 : Int) < ((x0.length : Nat) : Int) by omega), decide_eq_true (show (3 : Int) < ((x0.length : Nat) : Int) by omega), decide_eq_true (show (4 : Int) ≤ ((x0.length : Nat) : Int) by omega)]
      simp only [cond_true, cond_false]
      by_cases d1 : x0.getD 1 0 < lo4 (x0.getD 0 0)
      · rw [decide_eq_true d1]; exact stop (by rw [er, if_neg (by omega)])
      by_cases d2 : hi4 (x0.getD 0 0) < x0.getD 1 0
      · rw [decide_eq_false d1, decide_eq_true d2]; exact stop (by rw [er, if_neg (by omega)])
      by_cases d3 : x0.getD 2 0 < 128
      · rw [decide_eq_false d1, decide_eq_false d2, decide_eq_true d3]; exact stop (by rw [er, if_neg (by omega)])
      by_cases d4 : 191 < x0.getD 2 0
      · rw [decide_eq_false d1, decide_eq_false d2, decide_eq_false d3, decide_eq_true d4]; exact stop (by rw [er, if_neg (by omega)])
      by_cases d5 : x0.getD 3 0 < 128
      · rw [decide_eq_false d1, decide_eq_false d2, decide_eq_false d3, decide_eq_false d4, decide_eq_true d5]; exact stop (by rw [er, if_neg (by omega)])
      by_cases d6 : 191 < x0.getD 3 0
      · rw [decide_eq_false d1, decide_eq_false d2, decide_eq_false d3, decide_eq_false d4, decide_eq_false d5, decide_eq_true d6]; exact stop (by rw [er, if_neg (by omega)])
      rw [decide_eq_false d1, decide_eq_false d2, decide_eq_false d3, decide_eq_false d4, decide_eq_false d5, decide_eq_false d6]
      exact go 4 (by rw [er, if_pos (by omega)]) (by omega)
theorem loop2 (k0 : Bool → Option Ret) (k1 : Option Ret) : ∀ (m : Nat) (xs : List Int), fitB xs = true → xs.length < m → Q_utf8_Valid_2_0 m xs k0 k1 = bif valid xs then k1 else k0 false
  | 0, xs, _, h => absurd h (by omega)
  | m + 1, xs, hf, hl => by
    show P_utf8_Valid_2_0 xs _ k0 k1 = _
    refine step2 xs hf _ k0 k1 _ (fun ys h1 h2 h3 => ?_) (fun h => by rw [h]; rfl) (fun h => by rw [h]; rfl)
    have := loop2 k0 k1 m ys h1 (by omega)
    rw [h3] at this
    exact this
def S_utf8_Valid : Sm := S_fnR [.l bytesR] (fun d => fitB d.1) (fun d => (bl (valid d.1), []))
theorem v_utf8_Valid (p : List Int) (h : (fitB p) = true) (K : Ret → Option Ret) : T_utf8_Valid p K = K (bl (valid p), []) := by
  unfold T_utf8_Valid R_utf8_Valid_2_0
  rw [decide_eq_true (Int.le_refl _), List.take_length]
  simp only [Bool.true_and, cond_true, List.drop_zero]
  rw [loop2 _ _ _ p h (by omega)]
  cases valid p <;> rfl
theorem okS_utf8_Valid : OkFn prog I N.utf8_Valid true S_utf8_Valid := okN (ok_fn (memc okS_utf8_word_bytes mem0) (l := [(N.utf8_word_bytes, true, S_utf8_word_bytes)]) (p := [(8, takeB [0, 1, 2, 3, 4, 6, 7] (.fork (.one 5 (.fork (.one 8 (takes [9, 10, 11, 12]))))), []), (10, takeB [0, 1, 2, 3, 4, 6, 7, 10, 11, 13, 14] (.fork (.one 5 (.fork (.one 8 (takeB [9] (.fork (.one 12 (.fork (.one 15 (takes [16, 17, 18, 19, 20])))))))))), []), (18, takes [0, 1, 2, 3, 4, 5, 6, 7, 8, 9, 10, 11, 12, 13, 14, 15, 16, 17, 18], []), (22, takes [0, 1, 2, 3, 4, 5, 6, 7, 8, 9, 10, 11, 12, 13, 14, 15, 16, 17, 18, 19, 20, 21, 22, 23, 24, 25, 26, 27, 28, 29, 30], []), (26, takes [0, 1, 2, 3, 4, 5, 6, 7, 8, 9, 10, 11, 12, 13, 14, 15, 16, 17, 18, 19, 20, 21, 22, 23, 24, 25, 26, 27, 28, 29, 30, 31, 32, 33, 34, 35, 36, 37, 38, 39, 40, 41, 42], [])]) (ls := [(10, [0,3], [0,2,3], W_utf8_Valid_10), (2, [0], [2], W_utf8_Valid_2)]) (lend := []) (focus := false) (fuel := 0) (give := []) (fn := F.utf8_Valid) (by kernel_rfl) (by kernel_rfl) (by kernel_rfl) (by kernel_rfl) (cs := [bodyOf F.utf8_Valid 2, bodyOf F.utf8_Valid 10]) (by kernel_rfl) (loopsc loopK_utf8_Valid_2 (loopsc loopK_utf8_Valid_10 loops0))) (S_fnR_of fun d K h => (e_utf8_Valid d.1 K).trans (v_utf8_Valid d.1 h K))
end Go.Ev.Seat
end
section
/- i_isText: its contract. -/
namespace Go.Ev.Seat
open Go.RowKit
set_option maxRecDepth 100000
set_option linter.unusedVariables false
set_option linter.unusedSimpArgs false
noncomputable abbrev E_i_isText : Env := En [(N.utf8_Valid, true, S_utf8_Valid)] [] [] [] false 0 []
noncomputable def T_i_isText (t : List Int) (K : Ret → Option Ret) : Option Ret :=
 (bif (decide ((((List.length t) : Nat) : Int) ≤ (400 : Int))) then
 (bif (fitB t) then
  K ((.s (.bool (valid t))), [])
  else none)
 else K ((.s (.bool false)), []))
theorem e_i_isText (t : List Int) (K : Ret → Option Ret) : evF E_i_isText true F.i_isText [.l .no bytesR t] K = T_i_isText t K := by kernel_rfl
def S_i_isText : Sm := S_fnR [.l bytesR] (fun d => fitB d.1) (fun d => (bl (textOk d.1), []))
theorem v_i_isText (t : List Int) (h : (fitB t) = true) (K : Ret → Option Ret) : T_i_isText t K = K (bl (textOk t), []) := by
  unfold T_i_isText textOk
  rw [h]
  by_cases hl : t.length ≤ 400
  · rw [decide_eq_true (show ((t.length : Nat) : Int) ≤ 400 by omega), Nat.ble_eq_true_of_le hl]; rfl
  · rw [decide_eq_false (show ¬ ((t.length : Nat) : Int) ≤ 400 by omega), Bool.eq_false_iff.2 (fun h => hl (Nat.le_of_ble_eq_true h))]; rfl
theorem okS_i_isText : OkFn prog I N.i_isText true S_i_isText := okN (ok_fn (memc okS_utf8_Valid mem0) (l := [(N.utf8_Valid, true, S_utf8_Valid)]) (p := []) (ls := []) (lend := []) (focus := false) (fuel := 0) (give := []) (fn := F.i_isText) (by kernel_rfl) (by kernel_rfl) (by kernel_rfl) (by kernel_rfl) (cs := []) (by kernel_rfl) loops0) (S_fnR_of fun d K h => (e_i_isText d.1 K).trans (v_i_isText d.1 h K))
end Go.Ev.Seat
end
section
/- i_isPut: its contract. -/
namespace Go.Ev.Seat
open Go.RowKit
set_option maxRecDepth 100000
set_option linter.unusedVariables false
set_option linter.unusedSimpArgs false
noncomputable abbrev E_i_isPut : Env := En [(N.i_isText, true, S_i_isText)] [] [] [] false 0 []
noncomputable def T_i_isPut (t : List Int) (K : Ret → Option Ret) : Option Ret :=
 (bif (decide ((((List.length t) : Nat) : Int) ≤ (100 : Int))) then
 (bif (fitB t) then
  K ((.s (.bool (textOk t))), [])
  else none)
 else K ((.s (.bool false)), []))
theorem e_i_isPut (t : List Int) (K : Ret → Option Ret) : evF E_i_isPut true F.i_isPut [.l .no bytesR t] K = T_i_isPut t K := by kernel_rfl
def S_i_isPut : Sm := S_fnR [.l bytesR] (fun d => fitB d.1) (fun d => (bl (decide (((d.1.length : Nat) : Int) ≤ 100) && textOk d.1), []))
theorem v_i_isPut (t : List Int) (h : (fitB t) = true) (K : Ret → Option Ret) : T_i_isPut t K = K (bl (decide (((t.length : Nat) : Int) ≤ 100) && textOk t), []) := by
  unfold T_i_isPut
  rw [h]
  cases decide (((t.length : Nat) : Int) ≤ 100) <;> rfl
theorem okS_i_isPut : OkFn prog I N.i_isPut true S_i_isPut := okN (ok_fn (memc okS_i_isText mem0) (l := [(N.i_isText, true, S_i_isText)]) (p := []) (ls := []) (lend := []) (focus := false) (fuel := 0) (give := []) (fn := F.i_isPut) (by kernel_rfl) (by kernel_rfl) (by kernel_rfl) (by kernel_rfl) (cs := []) (by kernel_rfl) loops0) (S_fnR_of fun d K h => (e_i_isPut d.1 K).trans (v_i_isPut d.1 h K))
end Go.Ev.Seat
end
section
/- i_isWord: its contract. -/
namespace Go.Ev.Seat
open Go.RowKit
set_option maxRecDepth 100000
set_option linter.unusedVariables false
set_option linter.unusedSimpArgs false
noncomputable abbrev E_i_isWord : Env := En [(N.i_in, true, S_i_in)] [] [] [] false 0 []
noncomputable def T_i_isWord (n : Int) (K : Ret → Option Ret) : Option Ret :=
 K ((.s (.bool ((decide ((0 : Int) ≤ n)) && (decide (n ≤ (65535 : Int)))))), [])
theorem e_i_isWord (n : Int) (K : Ret → Option Ret) : evF E_i_isWord true F.i_isWord [.s (.int .i64 n)] K = T_i_isWord n K := by kernel_rfl
def S_i_isWord : Sm := S_fnR [.i] (fun d => true) (fun d => (bl (isWordD d.1), []))
theorem v_i_isWord (n : Int) (K : Ret → Option Ret) : T_i_isWord n K = K (bl (isWordD n), []) := rfl
theorem okS_i_isWord : OkFn prog I N.i_isWord true S_i_isWord := okN (ok_fn (memc okS_i_in mem0) (l := [(N.i_in, true, S_i_in)]) (p := []) (ls := []) (lend := []) (focus := false) (fuel := 0) (give := []) (fn := F.i_isWord) (by kernel_rfl) (by kernel_rfl) (by kernel_rfl) (by kernel_rfl) (cs := []) (by kernel_rfl) loops0) (S_fnR_of fun d K h => (e_i_isWord d.1 K).trans (v_i_isWord d.1 K))
end Go.Ev.Seat
end
