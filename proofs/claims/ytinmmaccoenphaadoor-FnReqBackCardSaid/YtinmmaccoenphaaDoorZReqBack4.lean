/- ReqBack: parts Fsl01CurbadText Fsl01CurbadReq FsDrawReqBytes Fiin FiisSession Futf8wordbytes Futf8Valid FiisText FiisPut FiisWord FiusedNumbers FiisReq Fiword EvGrow EvBytes EvConc FireqBytes FiReqBytes Fsl01Curreply FsDrawReplyBytes FiisReply FiReplyBytes Fsl09Word Fsl01Rune FsRuneSize Fsl01Cuts FsTextOk Fsl09Is, packed by squash.py. -/
import Derived.Shelf.Spec.SlicesGrow
import Derived.Laws.AppendOwn
import Derived.Test.YtinmmaccoenphaaDoorZReqBack0
import Derived.Test.YtinmmaccoenphaaDoorZReqBack1
import Derived.Test.YtinmmaccoenphaaDoorZReqBack2
import Derived.Test.YtinmmaccoenphaaDoorZReqBack3
set_option linter.unusedVariables false
set_option linter.unusedSimpArgs false
section
/- s_l01Cur_badText: its contract. -/
namespace Go.Ev.Seat
open Go.RowKit
set_option maxRecDepth 100000
set_option linter.unusedVariables false
set_option linter.unusedSimpArgs false
noncomputable abbrev ls_s_l01Cur_badText : List (Nat × Bool × Sm) := [(N.s_l01Cur_text, false, (SB_s_l01Cur_text B_s_l01Cur_text)), (N.s_l01Cur_pick, false, (SB_s_l01Cur_pick B_s_l01Cur_pick)), (N.s_l01Cur_once, false, (SB_s_l01Cur_once B_s_l01Cur_once))]
noncomputable abbrev E_s_l01Cur_badText : Env := En ls_s_l01Cur_badText [] [] [] false 0 []
noncomputable def T_s_l01Cur_badText (cc : List Int) (ca : Int) (cs : Int) (n : Int) (K : Ret → Option Ret) : Option Ret := (B_s_l01Cur_text cc ca cs n (fun y0 y1 y2 => (B_s_l01Cur_pick cc y1 y2 (9 : Int) (fun y3 y4 y5 => (bif (y3 == (0 : Int)) then (bif (decide ((((List.length y0) : Nat) : Int) > (0 : Int))) then (B_s_l01Cur_pick cc y4 y5 (if (((List.length y0) : Nat) : Int) < (256 : Int) then (((List.length y0) : Nat) : Int) else (256 : Int)) (fun y6 y7 y8 => (B_s_l01Cur_pick cc y7 y8 (256 : Int) (fun y9 y10 y11 => (B_s_l01Cur_pick cc y10 y11 (10 : Int) (fun y12 y13 y14 => (bif ((decide ((0 : Int) ≤ y12)) && (decide (y12 < (((List.length ((128 : Int) :: ((192 : Int) :: ((193 : Int) :: ((224 : Int) :: ((237 : Int) :: ((240 : Int) :: ((244 : Int) :: ((245 : Int) :: ((255 : Int) :: (y9 :: ([] : List Int)))))))))))) : Nat) : Int)))) then (bif ((decide ((0 : Int) ≤ y6)) && (decide (y6 < (((List.length y0) : Nat) : Int)))) then K ((.l .deep bytesR (List.set y0 (Int.toNat y6) (IntKind.wrap .u8 (List.getD ((128 : Int) :: ((192 : Int) :: ((193 : Int) :: ((224 : Int) :: ((237 : Int) :: ((240 : Int) :: ((244 : Int) :: ((245 : Int) :: ((255 : Int) :: (y9 :: ([] : List Int))))))))))) (Int.toNat y12) (0 : Int))))), [(.io [(.l .no bytesR cc), (.s (.int .i64 y13)), (.s (.int .i64 y14))])]) else none) else none))))))) else K ((.l .deep bytesR y0), [(.io [(.l .no bytesR cc), (.s (.int .i64 y4)), (.s (.int .i64 y5))])])) else (bif (y3 == (1 : Int)) then (B_s_l01Cur_pick cc y4 y5 (3 : Int) (fun y15 y16 y17 => (bif ((decide ((0 : Int) ≤ y15)) && (decide (y15 < (((List.length ((195 : Int) :: ((226 : Int) :: ((240 : Int) :: ([] : List Int))))) : Nat) : Int)))) then (bif (Nat.ble (((List.length y0) + (List.length ((List.getD ((195 : Int) :: ((226 : Int) :: ((240 : Int) :: ([] : List Int)))) (Int.toNat y15) (0 : Int)) :: ([] : List Int)))) * 1) 140737488355328) then K ((.l .deep bytesR (y0 ++ ((List.getD ((195 : Int) :: ((226 : Int) :: ((240 : Int) :: ([] : List Int)))) (Int.toNat y15) (0 : Int)) :: ([] : List Int)))), [(.io [(.l .no bytesR cc), (.s (.int .i64 y16)), (.s (.int .i64 y17))])]) else none) else none))) else (bif (y3 == (2 : Int)) then (B_s_l01Cur_once cc y4 y5 (5 : Int) (fun y18 y19 y20 => (bif y18 then (B_s_l01Cur_pick cc y19 y20 (2 : Int) (fun y21 y22 y23 => (bif (((((IntKind.wrap .i64 ((400 : Int) + y21)) == (IntKind.wrap .i64 ((400 : Int) + y21))) && (decide ((0 : Int) ≤ (IntKind.wrap .i64 ((400 : Int) + y21))))) && (decide (((Int.toNat (IntKind.wrap .i64 ((400 : Int) + y21))) * 1) ≤ 140737488355328))) && (decide ((IntKind.wrap .i64 ((400 : Int) + y21)) ≤ (4611686018427387904 : Int)))) then K ((.l .deep bytesR (List.replicate (Int.toNat (IntKind.wrap .i64 ((400 : Int) + y21))) (0 : Int))), [(.io [(.l .no bytesR cc), (.s (.int .i64 y22)), (.s (.int .i64 y23))])]) else none))) else K ((.l .deep bytesR y0), [(.io [(.l .no bytesR cc), (.s (.int .i64 y19)), (.s (.int .i64 y20))])])))) else K ((.l .deep bytesR y0), [(.io [(.l .no bytesR cc), (.s (.int .i64 y4)), (.s (.int .i64 y5))])]))))))))
theorem e_s_l01Cur_badText (cc : List Int) (ca : Int) (cs : Int) (n : Int) (K : Ret → Option Ret) : evF E_s_l01Cur_badText false F.s_l01Cur_badText [.io [.l .no bytesR cc, .s (.int .i64 ca), .s (.int .i64 cs)], .s (.int .i64 n)] K = T_s_l01Cur_badText cc ca cs n K := by kernel_rfl
theorem x_s_l01Cur_badText (cc : List Int) (ca : Int) (cs : Int) (n : Int) (h : (curB 1000000000000000000 cc ca cs && (decide (0 ≤ n) && decide (n ≤ 1000))) = true) : ∃ (y : List Int) (a : Int) (s : Int), ((fitB y = true ∧ ((y.length : Nat) : Int) ≤ n + 402) ∧ 0 ≤ a ∧ a ≤ ca + (8 + 3 * n) ∧ 0 ≤ s ∧ s < 65536) ∧ ∀ K : Ret → Option Ret, T_s_l01Cur_badText cc ca cs n K = K (.l .deep bytesR y, [.io [.l .no bytesR cc, .s (.int .i64 a), .s (.int .i64 s)]]) := by
  suffices hd : Dr (fun r : Ret => ∃ (y : List Int) (a : Int) (s : Int), ((fitB y = true ∧ ((y.length : Nat) : Int) ≤ n + 402) ∧ 0 ≤ a ∧ a ≤ ca + (8 + 3 * n) ∧ 0 ≤ s ∧ s < 65536) ∧ r = (.l .deep bytesR y, [.io [.l .no bytesR cc, .s (.int .i64 a), .s (.int .i64 s)]])) (fun K : Ret → Option Ret => T_s_l01Cur_badText cc ca cs n K) by
    obtain ⟨_, ⟨y, a, s, hp, rfl⟩, hk⟩ := hd
    exact ⟨y, a, s, hp, hk⟩
  obtain ⟨h, hpre⟩ := (Bool.and_eq_true _ _).mp h
  obtain ⟨hf, h2, h3, h4, h5⟩ := curB_iff.1 h
  have hl := fitB_len hf
  unfold T_s_l01Cur_badText
  simp only [Bool.and_eq_true, decide_eq_true_eq] at hpre
  refine Dr.b3 (b_s_l01Cur_text _ _ _ _ ((Bool.and_eq_true _ _).mpr ⟨(curB_iff.2 ⟨hf, by omega, by omega, by omega, by omega⟩), by simp only [Bool.and_eq_true, decide_eq_true_eq]; omega⟩)) (fun y0 a0 s0 hy => ?_)
  obtain ⟨⟨hq1, hq2⟩, hq3⟩ := hy
  refine Dr.b3 (b_s_l01Cur_pick _ _ _ _ (curB_iff.2 ⟨hf, by omega, by omega, by omega, by omega⟩)) (fun y1 a1 s1 h1 => ?_)
  refine Dr.bif (fun _ => ?_) (fun _ => Dr.bif (fun _ => ?_) (fun _ => Dr.bif (fun _ => ?_) (fun _ => ?_)))
  · refine Dr.bif (fun hc => ?_) (fun _ => ?_)
    · simp only [decide_eq_true_eq] at hc
      obtain ⟨m, hm, hm1, hm2⟩ : ∃ m : Int, (if (((List.length y0) : Nat) : Int) < (256 : Int) then (((List.length y0) : Nat) : Int) else (256 : Int)) = m ∧ 1 ≤ m ∧ m ≤ (((List.length y0) : Nat) : Int) := by
        by_cases q : (((List.length y0) : Nat) : Int) < 256
        · rw [if_pos q]; exact ⟨_, rfl, by omega, by omega⟩
        · rw [if_neg q]; exact ⟨_, rfl, by omega, by omega⟩
      rw [hm]
      refine Dr.b3 (b_s_l01Cur_pick _ _ _ _ (curB_iff.2 ⟨hf, by omega, by omega, by omega, by omega⟩)) (fun y2 a2 s2 h2 => ?_)
      refine Dr.b3 (b_s_l01Cur_pick _ _ _ _ (curB_iff.2 ⟨hf, by omega, by omega, by omega, by omega⟩)) (fun y3 a3 s3 h3 => ?_)
      refine Dr.b3 (b_s_l01Cur_pick _ _ _ _ (curB_iff.2 ⟨hf, by omega, by omega, by omega, by omega⟩)) (fun y4 a4 s4 h4 => ?_)
      refine Dr.must (by simp only [List.length_cons, List.length_nil, Bool.and_eq_true, decide_eq_true_eq]; omega) (Dr.must (by simp only [Bool.and_eq_true, decide_eq_true_eq]; omega) ?_)
      exact Dr.leaf ⟨_, _, _, ⟨⟨fitB_set hq1 (wrap8_range _), by rw [List.length_set]; omega⟩, by omega, by omega, by omega, by omega⟩, rfl⟩
    · exact Dr.leaf ⟨_, _, _, ⟨⟨hq1, by omega⟩, by omega, by omega, by omega, by omega⟩, rfl⟩
  · refine Dr.b3 (b_s_l01Cur_pick _ _ _ _ (curB_iff.2 ⟨hf, by omega, by omega, by omega, by omega⟩)) (fun y2 a2 s2 h2 => ?_)
    refine Dr.must (by simp only [List.length_cons, List.length_nil, Bool.and_eq_true, decide_eq_true_eq]; omega) (Dr.must (Nat.ble_eq_true_of_le (by simp only [List.length_cons, List.length_nil]; omega)) ?_)
    exact Dr.leaf ⟨_, _, _, ⟨⟨fitB_append hq1 (fitB_one (fitB_get (xs := [195, 226, 240]) rfl _)) (by simp; omega), by simp only [List.length_append, List.length_cons, List.length_nil]; omega⟩, by omega, by omega, by omega, by omega⟩, rfl⟩
  · refine Dr.b3 (b_s_l01Cur_once _ _ _ _ (curB_iff.2 ⟨hf, by omega, by omega, by omega, by omega⟩)) (fun y2 a2 s2 h2 => ?_)
    refine Dr.bif (fun _ => ?_) (fun _ => ?_)
    · refine Dr.b3 (b_s_l01Cur_pick _ _ _ _ (curB_iff.2 ⟨hf, by omega, by omega, by omega, by omega⟩)) (fun y3 a3 s3 h3 => ?_)
      rw [wrap_in (n := 400 + y3) (by omega) (by omega)]
      refine Dr.must (by simp only [beq_self_eq_true, Bool.true_and, Bool.and_eq_true, decide_eq_true_eq]; omega) ?_
      exact Dr.leaf ⟨_, _, _, ⟨⟨fitB_rep (by omega), by rw [List.length_replicate]; omega⟩, by omega, by omega, by omega, by omega⟩, rfl⟩
    · exact Dr.leaf ⟨_, _, _, ⟨⟨hq1, by omega⟩, by omega, by omega, by omega, by omega⟩, rfl⟩
  · exact Dr.leaf ⟨_, _, _, ⟨⟨hq1, by omega⟩, by omega, by omega, by omega, by omega⟩, rfl⟩
noncomputable def g_s_l01Cur_badText (cc : List Int) (ca : Int) (cs : Int) (n : Int) : List Int × Int × Int := Classical.epsilon fun g => ((fitB (g).1 = true ∧ (((g).1.length : Nat) : Int) ≤ n + 402) ∧ 0 ≤ (g).2.1 ∧ (g).2.1 ≤ ca + (8 + 3 * n) ∧ 0 ≤ (g).2.2 ∧ (g).2.2 < 65536) ∧ ∀ K : Ret → Option Ret, T_s_l01Cur_badText cc ca cs n K = K (.l .deep bytesR (g).1, [.io [.l .no bytesR cc, .s (.int .i64 (g).2.1), .s (.int .i64 (g).2.2)]])
theorem gs_s_l01Cur_badText (cc : List Int) (ca : Int) (cs : Int) (n : Int) (h : (curB 1000000000000000000 cc ca cs && (decide (0 ≤ n) && decide (n ≤ 1000))) = true) : ((fitB (g_s_l01Cur_badText cc ca cs n).1 = true ∧ (((g_s_l01Cur_badText cc ca cs n).1.length : Nat) : Int) ≤ n + 402) ∧ 0 ≤ (g_s_l01Cur_badText cc ca cs n).2.1 ∧ (g_s_l01Cur_badText cc ca cs n).2.1 ≤ ca + (8 + 3 * n) ∧ 0 ≤ (g_s_l01Cur_badText cc ca cs n).2.2 ∧ (g_s_l01Cur_badText cc ca cs n).2.2 < 65536) ∧ ∀ K : Ret → Option Ret, T_s_l01Cur_badText cc ca cs n K = K (.l .deep bytesR (g_s_l01Cur_badText cc ca cs n).1, [.io [.l .no bytesR cc, .s (.int .i64 (g_s_l01Cur_badText cc ca cs n).2.1), .s (.int .i64 (g_s_l01Cur_badText cc ca cs n).2.2)]]) := by
  obtain ⟨y, a, s, hy, hk⟩ := x_s_l01Cur_badText cc ca cs n h
  exact Classical.epsilon_spec (p := fun g : List Int × Int × Int => ((fitB (g).1 = true ∧ (((g).1.length : Nat) : Int) ≤ n + 402) ∧ 0 ≤ (g).2.1 ∧ (g).2.1 ≤ ca + (8 + 3 * n) ∧ 0 ≤ (g).2.2 ∧ (g).2.2 < 65536) ∧ ∀ K : Ret → Option Ret, T_s_l01Cur_badText cc ca cs n K = K (.l .deep bytesR (g).1, [.io [.l .no bytesR cc, .s (.int .i64 (g).2.1), .s (.int .i64 (g).2.2)]])) ⟨⟨y, a, s⟩, hy, hk⟩
noncomputable def B_s_l01Cur_badText (cc : List Int) (ca : Int) (cs : Int) (n : Int) (k : (List Int) → (Int) → (Int) → Option Ret) : Option Ret := bif curB 1000000000000000000 cc ca cs && (decide (0 ≤ n) && decide (n ≤ 1000)) then k (g_s_l01Cur_badText cc ca cs n).1 (g_s_l01Cur_badText cc ca cs n).2.1 (g_s_l01Cur_badText cc ca cs n).2.2 else none
theorem b_s_l01Cur_badText (cc : List Int) (ca : Int) (cs : Int) (n : Int) (h : (curB 1000000000000000000 cc ca cs && (decide (0 ≤ n) && decide (n ≤ 1000))) = true) : ∃ (y : List Int) (a : Int) (s : Int), ((fitB y = true ∧ ((y.length : Nat) : Int) ≤ n + 402) ∧ 0 ≤ a ∧ a ≤ ca + (8 + 3 * n) ∧ 0 ≤ s ∧ s < 65536) ∧ ∀ k, B_s_l01Cur_badText cc ca cs n k = k y a s :=
  ⟨(g_s_l01Cur_badText cc ca cs n).1, (g_s_l01Cur_badText cc ca cs n).2.1, (g_s_l01Cur_badText cc ca cs n).2.2, (gs_s_l01Cur_badText cc ca cs n h).1, fun k => by unfold B_s_l01Cur_badText; rw [h]; rfl⟩
def SB_s_l01Cur_badText (B : (List Int) → (Int) → (Int) → (Int) → ((List Int) → (Int) → (Int) → Option Ret) → Option Ret) : Sm := S_B [.sh (.io (.cons (.l .no bytesR) (.cons (.int .i64) (.cons (.int .i64) .nil)))), .i] (fun d K => B d.1.1 d.1.2.1 d.1.2.2.1 d.2.1 (fun y a s => K (.l .deep bytesR y, [.io [.l .no bytesR d.1.1, .s (.int .i64 a), .s (.int .i64 s)]])))
theorem okS_s_l01Cur_badText : OkFn prog I N.s_l01Cur_badText false (SB_s_l01Cur_badText B_s_l01Cur_badText) := okN (ok_fn (memc okS_s_l01Cur_text (memc okS_s_l01Cur_pick (memc okS_s_l01Cur_once mem0))) (l := ls_s_l01Cur_badText) (p := []) (ls := []) (lend := []) (focus := false) (fuel := 0) (give := []) (fn := F.s_l01Cur_badText) (by kernel_rfl) (by kernel_rfl) (by kernel_rfl) (by kernel_rfl) (cs := []) (by kernel_rfl) loops0) (S_B_of fun d K q hq => by
  refine (e_s_l01Cur_badText d.1.1 d.1.2.1 d.1.2.2.1 d.2.1 K).trans ?_
  unfold B_s_l01Cur_badText at hq
  cases hp : (curB 1000000000000000000 d.1.1 d.1.2.1 d.1.2.2.1 && (decide (0 ≤ d.2.1) && decide (d.2.1 ≤ 1000))) with
  | false => rw [hp] at hq; cases hq
  | true =>
    rw [hp] at hq
    exact ((gs_s_l01Cur_badText d.1.1 d.1.2.1 d.1.2.2.1 d.2.1 hp).2 K).trans hq)
end Go.Ev.Seat
end
section
/- s_l01Cur_badReq: its contract. -/
namespace Go.Ev.Seat
open Go.RowKit
set_option maxRecDepth 100000
set_option linter.unusedVariables false
set_option linter.unusedSimpArgs false
noncomputable abbrev ls_s_l01Cur_badReq : List (Nat × Bool × Sm) := [(N.s_l01Cur_req, false, (SB_s_l01Cur_req B_s_l01Cur_req)), (N.s_l01Cur_pick, false, (SB_s_l01Cur_pick B_s_l01Cur_pick)), (N.s_l01Cur_raw, false, (SB_s_l01Cur_raw B_s_l01Cur_raw)), (N.s_l01Cur_badText, false, (SB_s_l01Cur_badText B_s_l01Cur_badText))]
noncomputable abbrev E_s_l01Cur_badReq : Env := En ls_s_l01Cur_badReq [] [] [] false 0 []
noncomputable def T_s_l01Cur_badReq (cc : List Int) (ca : Int) (cs : Int) (K : Ret → Option Ret) : Option Ret := (B_s_l01Cur_req cc ca cs (fun y0 y1 y2 y3 y4 y5 y6 y7 => (B_s_l01Cur_pick cc y6 y7 (14 : Int) (fun y8 y9 y10 => (bif (y8 == (0 : Int)) then (B_s_l01Cur_raw cc y9 y10 (fun y11 y12 y13 => (B_s_l01Cur_pick cc y12 y13 (3 : Int) (fun y14 y15 y16 => (bif ((decide ((0 : Int) ≤ y14)) && (decide (y14 < (((List.length (y11 :: ((0 : Int) :: ((17 : Int) :: ([] : List Int))))) : Nat) : Int)))) then K ((.a [(.s (.int .i64 (List.getD (y11 :: ((0 : Int) :: ((17 : Int) :: ([] : List Int)))) (Int.toNat y14) (0 : Int)))), (.s (.int .i64 y1)), (.s (.int .i64 y2)), (.s (.int .i64 y3)), (.s (.int .i64 y4)), (.l .no bytesR y5)]), [(.io [(.l .no bytesR cc), (.s (.int .i64 y15)), (.s (.int .i64 y16))])]) else none))))) else (bif (y8 == (1 : Int)) then (B_s_l01Cur_raw cc y9 y10 (fun y17 y18 y19 => (B_s_l01Cur_pick cc y18 y19 (3 : Int) (fun y20 y21 y22 => (bif ((decide ((0 : Int) ≤ y20)) && (decide (y20 < (((List.length (y17 :: ((8 : Int) :: ((9 : Int) :: ([] : List Int))))) : Nat) : Int)))) then K ((.a [(.s (.int .i64 y0)), (.s (.int .i64 (List.getD (y17 :: ((8 : Int) :: ((9 : Int) :: ([] : List Int)))) (Int.toNat y20) (0 : Int)))), (.s (.int .i64 y2)), (.s (.int .i64 y3)), (.s (.int .i64 y4)), (.l .no bytesR y5)]), [(.io [(.l .no bytesR cc), (.s (.int .i64 y21)), (.s (.int .i64 y22))])]) else none))))) else (bif (y8 == (2 : Int)) then (B_s_l01Cur_raw cc y9 y10 (fun y23 y24 y25 => (B_s_l01Cur_pick cc y24 y25 (3 : Int) (fun y26 y27 y28 => (bif ((decide ((0 : Int) ≤ y26)) && (decide (y26 < (((List.length (y23 :: ((65535 : Int) :: ((65536 : Int) :: ([] : List Int))))) : Nat) : Int)))) then K ((.a [(.s (.int .i64 y0)), (.s (.int .i64 y1)), (.s (.int .i64 (List.getD (y23 :: ((65535 : Int) :: ((65536 : Int) :: ([] : List Int)))) (Int.toNat y26) (0 : Int)))), (.s (.int .i64 y3)), (.s (.int .i64 y4)), (.l .no bytesR y5)]), [(.io [(.l .no bytesR cc), (.s (.int .i64 y27)), (.s (.int .i64 y28))])]) else none))))) else (bif (y8 == (3 : Int)) then (B_s_l01Cur_raw cc y9 y10 (fun y29 y30 y31 => K ((.a [(.s (.int .i64 y0)), (.s (.int .i64 y1)), (.s (.int .i64 y2)), (.s (.int .i64 y29)), (.s (.int .i64 y4)), (.l .no bytesR y5)]), [(.io [(.l .no bytesR cc), (.s (.int .i64 y30)), (.s (.int .i64 y31))])]))) else (bif (y8 == (4 : Int)) then (B_s_l01Cur_raw cc y9 y10 (fun y32 y33 y34 => K ((.a [(.s (.int .i64 y0)), (.s (.int .i64 y1)), (.s (.int .i64 y2)), (.s (.int .i64 y3)), (.s (.int .i64 y32)), (.l .no bytesR y5)]), [(.io [(.l .no bytesR cc), (.s (.int .i64 y33)), (.s (.int .i64 y34))])]))) else (bif (y8 == (5 : Int)) then K ((.a [(.s (.int .i64 y0)), (.s (.int .i64 y1)), (.s (.int .i64 y2)), (.s (.int .i64 y3)), (.s (.int .i64 y4)), (.l .deep bytesR ([] : List Int))]), [(.io [(.l .no bytesR cc), (.s (.int .i64 y9)), (.s (.int .i64 y10))])]) else (bif (y8 == (6 : Int)) then (B_s_l01Cur_badText cc y9 y10 (9 : Int) (fun y35 y36 y37 => (B_s_l01Cur_pick cc y36 y37 (3 : Int) (fun y38 y39 y40 => (bif ((decide ((0 : Int) ≤ y38)) && (decide (y38 < (((List.length ((0 : Int) :: ((92 : Int) :: ((100 : Int) :: ([] : List Int))))) : Nat) : Int)))) then (bif ((decide ((0 : Int) ≤ (List.getD ((0 : Int) :: ((92 : Int) :: ((100 : Int) :: ([] : List Int)))) (Int.toNat y38) (0 : Int)))) && (decide ((List.getD ((0 : Int) :: ((92 : Int) :: ((100 : Int) :: ([] : List Int)))) (Int.toNat y38) (0 : Int)) ≤ (4611686018427387904 : Int)))) then (bif (Nat.ble (((List.length y35) + (List.length (List.replicate (Int.toNat (List.getD ((0 : Int) :: ((92 : Int) :: ((100 : Int) :: ([] : List Int)))) (Int.toNat y38) (0 : Int))) (0 : Int)))) * 1) 140737488355328) then K ((.a [(.s (.int .i64 y0)), (.s (.int .i64 y1)), (.s (.int .i64 y2)), (.s (.int .i64 y3)), (.s (.int .i64 y4)), (.l .deep bytesR (y35 ++ (List.replicate (Int.toNat (List.getD ((0 : Int) :: ((92 : Int) :: ((100 : Int) :: ([] : List Int)))) (Int.toNat y38) (0 : Int))) (0 : Int))))]), [(.io [(.l .no bytesR cc), (.s (.int .i64 y39)), (.s (.int .i64 y40))])]) else none) else none) else none))))) else K ((.a [(.s (.int .i64 y0)), (.s (.int .i64 y1)), (.s (.int .i64 y2)), (.s (.int .i64 y3)), (.s (.int .i64 y4)), (.l .no bytesR y5)]), [(.io [(.l .no bytesR cc), (.s (.int .i64 y9)), (.s (.int .i64 y10))])]))))))))))))
theorem e_s_l01Cur_badReq (cc : List Int) (ca : Int) (cs : Int) (K : Ret → Option Ret) : evF E_s_l01Cur_badReq false F.s_l01Cur_badReq [.io [.l .no bytesR cc, .s (.int .i64 ca), .s (.int .i64 cs)]] K = T_s_l01Cur_badReq cc ca cs K := by kernel_rfl
set_option maxHeartbeats 4000000
theorem pick3 {y : Int} (h : 0 ≤ y ∧ y < 3) (a b c : Int) : (decide ((0 : Int) ≤ y) && decide (y < (((List.length [a, b, c]) : Nat) : Int))) = true := by
  simp only [List.length_cons, List.length_nil, Bool.and_eq_true, decide_eq_true_eq]; omega
theorem pick3v {y : Int} (h : 0 ≤ y ∧ y < 3) : 0 ≤ List.getD [(0 : Int), 92, 100] y.toNat 0 ∧ List.getD [(0 : Int), 92, 100] y.toNat 0 ≤ 100 := by
  have : y = 0 ∨ y = 1 ∨ y = 2 := by omega
  rcases this with rfl | rfl | rfl <;> decide
theorem x_s_l01Cur_badReq (cc : List Int) (ca : Int) (cs : Int) (h : (curB 500000000000000000 cc ca cs) = true) : ∃ (y0 : Int) (y1 : Int) (y2 : Int) (y3 : Int) (y4 : Int) (t : List Int) (a : Int) (s : Int), ((fitB t = true ∧ t.length ≤ 600) ∧ 0 ≤ a ∧ a ≤ ca + 100 ∧ 0 ≤ s ∧ s < 65536) ∧ ∀ K : Ret → Option Ret, T_s_l01Cur_badReq cc ca cs (noK K) = K (.a [.s (.int .i64 y0), .s (.int .i64 y1), .s (.int .i64 y2), .s (.int .i64 y3), .s (.int .i64 y4), .l .no bytesR t], [.io [.l .no bytesR cc, .s (.int .i64 a), .s (.int .i64 s)]]) := by
  suffices hd : Dr (fun r : Ret => ∃ (y0 : Int) (y1 : Int) (y2 : Int) (y3 : Int) (y4 : Int) (t : List Int) (a : Int) (s : Int), ((fitB t = true ∧ t.length ≤ 600) ∧ 0 ≤ a ∧ a ≤ ca + 100 ∧ 0 ≤ s ∧ s < 65536) ∧ r = (.a [.s (.int .i64 y0), .s (.int .i64 y1), .s (.int .i64 y2), .s (.int .i64 y3), .s (.int .i64 y4), .l .no bytesR t], [.io [.l .no bytesR cc, .s (.int .i64 a), .s (.int .i64 s)]])) (fun K : Ret → Option Ret => T_s_l01Cur_badReq cc ca cs (noK K)) by
    obtain ⟨_, ⟨y0, y1, y2, y3, y4, t, a, s, hp, rfl⟩, hk⟩ := hd
    exact ⟨y0, y1, y2, y3, y4, t, a, s, hp, hk⟩
  obtain ⟨hf, h2, h3, h4, h5⟩ := curB_iff.1 h
  have hl := fitB_len hf
  unfold T_s_l01Cur_badReq
  refine Dr.b8 (b_s_l01Cur_req _ _ _ (curB_iff.2 ⟨hf, by omega, by omega, by omega, by omega⟩)) (fun y0 y1 y2 y3 y4 t a0 s0 hy0 => ?_)
  obtain ⟨⟨hq1, hq2⟩, hq3⟩ := hy0
  refine Dr.b3 (b_s_l01Cur_pick _ _ _ _ (curB_iff.2 ⟨hf, by omega, by omega, by omega, by omega⟩)) (fun k a1 s1 hk => ?_)
  refine Dr.bif (fun _ => ?_) (fun _ => Dr.bif (fun _ => ?_) (fun _ => Dr.bif (fun _ => ?_) (fun _ => Dr.bif (fun _ => ?_) (fun _ => Dr.bif (fun _ => ?_) (fun _ => Dr.bif (fun _ => ?_) (fun _ => Dr.bif (fun _ => ?_) (fun _ => ?_)))))))
  · refine Dr.b3 (b_s_l01Cur_raw _ _ _ (curB_iff.2 ⟨hf, by omega, by omega, by omega, by omega⟩)) (fun u a2 s2 hu => ?_)
    refine Dr.b3 (b_s_l01Cur_pick _ _ _ _ (curB_iff.2 ⟨hf, by omega, by omega, by omega, by omega⟩)) (fun v a3 s3 hv => ?_)
    refine Dr.must (pick3 ⟨by omega, by omega⟩ _ _ _) ?_
    exact Dr.leafN ⟨_, _, _, _, _, _, _, _, ⟨⟨hq1, by omega⟩, by omega, by omega, by omega, by omega⟩, rfl⟩ rfl
  · refine Dr.b3 (b_s_l01Cur_raw _ _ _ (curB_iff.2 ⟨hf, by omega, by omega, by omega, by omega⟩)) (fun u a2 s2 hu => ?_)
    refine Dr.b3 (b_s_l01Cur_pick _ _ _ _ (curB_iff.2 ⟨hf, by omega, by omega, by omega, by omega⟩)) (fun v a3 s3 hv => ?_)
    refine Dr.must (pick3 ⟨by omega, by omega⟩ _ _ _) ?_
    exact Dr.leafN ⟨_, _, _, _, _, _, _, _, ⟨⟨hq1, by omega⟩, by omega, by omega, by omega, by omega⟩, rfl⟩ rfl
  · refine Dr.b3 (b_s_l01Cur_raw _ _ _ (curB_iff.2 ⟨hf, by omega, by omega, by omega, by omega⟩)) (fun u a2 s2 hu => ?_)
    refine Dr.b3 (b_s_l01Cur_pick _ _ _ _ (curB_iff.2 ⟨hf, by omega, by omega, by omega, by omega⟩)) (fun v a3 s3 hv => ?_)
    refine Dr.must (pick3 ⟨by omega, by omega⟩ _ _ _) ?_
    exact Dr.leafN ⟨_, _, _, _, _, _, _, _, ⟨⟨hq1, by omega⟩, by omega, by omega, by omega, by omega⟩, rfl⟩ rfl
  · refine Dr.b3 (b_s_l01Cur_raw _ _ _ (curB_iff.2 ⟨hf, by omega, by omega, by omega, by omega⟩)) (fun u a2 s2 hu => ?_)
    exact Dr.leafN ⟨_, _, _, _, _, _, _, _, ⟨⟨hq1, by omega⟩, by omega, by omega, by omega, by omega⟩, rfl⟩ rfl
  · refine Dr.b3 (b_s_l01Cur_raw _ _ _ (curB_iff.2 ⟨hf, by omega, by omega, by omega, by omega⟩)) (fun u a2 s2 hu => ?_)
    exact Dr.leafN ⟨_, _, _, _, _, _, _, _, ⟨⟨hq1, by omega⟩, by omega, by omega, by omega, by omega⟩, rfl⟩ rfl
  · exact Dr.leafN ⟨_, _, _, _, _, _, _, _, ⟨⟨rfl, by simp only [List.length_nil]; omega⟩, by omega, by omega, by omega, by omega⟩, rfl⟩ rfl
  · refine Dr.b3 (b_s_l01Cur_badText _ _ _ _ ((Bool.and_eq_true _ _).mpr ⟨curB_iff.2 ⟨hf, by omega, by omega, by omega, by omega⟩, by rfl⟩)) (fun u a2 s2 hu => ?_)
    obtain ⟨⟨hu1, hu2⟩, hu3⟩ := hu
    refine Dr.b3 (b_s_l01Cur_pick _ _ _ _ (curB_iff.2 ⟨hf, by omega, by omega, by omega, by omega⟩)) (fun v a3 s3 hv => ?_)
    refine Dr.must (pick3 ⟨by omega, by omega⟩ _ _ _) ?_
    have hp := pick3v (y := v) ⟨by omega, by omega⟩
    generalize List.getD [(0 : Int), 92, 100] v.toNat 0 = n at hp ⊢
    refine Dr.must (by simp only [Bool.and_eq_true, decide_eq_true_eq]; omega) ?_
    refine Dr.must (Nat.ble_eq_true_of_le (by rw [List.length_replicate]; omega)) ?_
    exact Dr.leafN ⟨_, _, _, _, _, _, _, _, ⟨⟨fitB_of (by rw [List.length_append, List.length_replicate]; omega) (fun x hx => (List.mem_append.1 hx).elim (fun hx => fitB_mem hu1 hx) (fun hx => by rw [(List.mem_replicate.1 hx).2]; omega)), by rw [List.length_append, List.length_replicate]; omega⟩, by omega, by omega, by omega, by omega⟩, rfl⟩ rfl
  · exact Dr.leafN ⟨_, _, _, _, _, _, _, _, ⟨⟨hq1, by omega⟩, by omega, by omega, by omega, by omega⟩, rfl⟩ rfl
noncomputable def g_s_l01Cur_badReq (cc : List Int) (ca : Int) (cs : Int) : Int × Int × Int × Int × Int × List Int × Int × Int := Classical.epsilon fun g => ((fitB (g).2.2.2.2.2.1 = true ∧ (g).2.2.2.2.2.1.length ≤ 600) ∧ 0 ≤ (g).2.2.2.2.2.2.1 ∧ (g).2.2.2.2.2.2.1 ≤ ca + 100 ∧ 0 ≤ (g).2.2.2.2.2.2.2 ∧ (g).2.2.2.2.2.2.2 < 65536) ∧ ∀ K : Ret → Option Ret, T_s_l01Cur_badReq cc ca cs (noK K) = K (.a [.s (.int .i64 (g).1), .s (.int .i64 (g).2.1), .s (.int .i64 (g).2.2.1), .s (.int .i64 (g).2.2.2.1), .s (.int .i64 (g).2.2.2.2.1), .l .no bytesR (g).2.2.2.2.2.1], [.io [.l .no bytesR cc, .s (.int .i64 (g).2.2.2.2.2.2.1), .s (.int .i64 (g).2.2.2.2.2.2.2)]])
theorem gs_s_l01Cur_badReq (cc : List Int) (ca : Int) (cs : Int) (h : (curB 500000000000000000 cc ca cs) = true) : ((fitB (g_s_l01Cur_badReq cc ca cs).2.2.2.2.2.1 = true ∧ (g_s_l01Cur_badReq cc ca cs).2.2.2.2.2.1.length ≤ 600) ∧ 0 ≤ (g_s_l01Cur_badReq cc ca cs).2.2.2.2.2.2.1 ∧ (g_s_l01Cur_badReq cc ca cs).2.2.2.2.2.2.1 ≤ ca + 100 ∧ 0 ≤ (g_s_l01Cur_badReq cc ca cs).2.2.2.2.2.2.2 ∧ (g_s_l01Cur_badReq cc ca cs).2.2.2.2.2.2.2 < 65536) ∧ ∀ K : Ret → Option Ret, T_s_l01Cur_badReq cc ca cs (noK K) = K (.a [.s (.int .i64 (g_s_l01Cur_badReq cc ca cs).1), .s (.int .i64 (g_s_l01Cur_badReq cc ca cs).2.1), .s (.int .i64 (g_s_l01Cur_badReq cc ca cs).2.2.1), .s (.int .i64 (g_s_l01Cur_badReq cc ca cs).2.2.2.1), .s (.int .i64 (g_s_l01Cur_badReq cc ca cs).2.2.2.2.1), .l .no bytesR (g_s_l01Cur_badReq cc ca cs).2.2.2.2.2.1], [.io [.l .no bytesR cc, .s (.int .i64 (g_s_l01Cur_badReq cc ca cs).2.2.2.2.2.2.1), .s (.int .i64 (g_s_l01Cur_badReq cc ca cs).2.2.2.2.2.2.2)]]) := by
  obtain ⟨y0, y1, y2, y3, y4, t, a, s, hy, hk⟩ := x_s_l01Cur_badReq cc ca cs h
  exact Classical.epsilon_spec (p := fun g : Int × Int × Int × Int × Int × List Int × Int × Int => ((fitB (g).2.2.2.2.2.1 = true ∧ (g).2.2.2.2.2.1.length ≤ 600) ∧ 0 ≤ (g).2.2.2.2.2.2.1 ∧ (g).2.2.2.2.2.2.1 ≤ ca + 100 ∧ 0 ≤ (g).2.2.2.2.2.2.2 ∧ (g).2.2.2.2.2.2.2 < 65536) ∧ ∀ K : Ret → Option Ret, T_s_l01Cur_badReq cc ca cs (noK K) = K (.a [.s (.int .i64 (g).1), .s (.int .i64 (g).2.1), .s (.int .i64 (g).2.2.1), .s (.int .i64 (g).2.2.2.1), .s (.int .i64 (g).2.2.2.2.1), .l .no bytesR (g).2.2.2.2.2.1], [.io [.l .no bytesR cc, .s (.int .i64 (g).2.2.2.2.2.2.1), .s (.int .i64 (g).2.2.2.2.2.2.2)]])) ⟨⟨y0, y1, y2, y3, y4, t, a, s⟩, hy, hk⟩
noncomputable def B_s_l01Cur_badReq (cc : List Int) (ca : Int) (cs : Int) (k : (Int) → (Int) → (Int) → (Int) → (Int) → (List Int) → (Int) → (Int) → Option Ret) : Option Ret := bif curB 500000000000000000 cc ca cs then k (g_s_l01Cur_badReq cc ca cs).1 (g_s_l01Cur_badReq cc ca cs).2.1 (g_s_l01Cur_badReq cc ca cs).2.2.1 (g_s_l01Cur_badReq cc ca cs).2.2.2.1 (g_s_l01Cur_badReq cc ca cs).2.2.2.2.1 (g_s_l01Cur_badReq cc ca cs).2.2.2.2.2.1 (g_s_l01Cur_badReq cc ca cs).2.2.2.2.2.2.1 (g_s_l01Cur_badReq cc ca cs).2.2.2.2.2.2.2 else none
theorem b_s_l01Cur_badReq (cc : List Int) (ca : Int) (cs : Int) (h : (curB 500000000000000000 cc ca cs) = true) : ∃ (y0 : Int) (y1 : Int) (y2 : Int) (y3 : Int) (y4 : Int) (t : List Int) (a : Int) (s : Int), ((fitB t = true ∧ t.length ≤ 600) ∧ 0 ≤ a ∧ a ≤ ca + 100 ∧ 0 ≤ s ∧ s < 65536) ∧ ∀ k, B_s_l01Cur_badReq cc ca cs k = k y0 y1 y2 y3 y4 t a s :=
  ⟨(g_s_l01Cur_badReq cc ca cs).1, (g_s_l01Cur_badReq cc ca cs).2.1, (g_s_l01Cur_badReq cc ca cs).2.2.1, (g_s_l01Cur_badReq cc ca cs).2.2.2.1, (g_s_l01Cur_badReq cc ca cs).2.2.2.2.1, (g_s_l01Cur_badReq cc ca cs).2.2.2.2.2.1, (g_s_l01Cur_badReq cc ca cs).2.2.2.2.2.2.1, (g_s_l01Cur_badReq cc ca cs).2.2.2.2.2.2.2, (gs_s_l01Cur_badReq cc ca cs h).1, fun k => by unfold B_s_l01Cur_badReq; rw [h]; rfl⟩
def SB_s_l01Cur_badReq (B : (List Int) → (Int) → (Int) → ((Int) → (Int) → (Int) → (Int) → (Int) → (List Int) → (Int) → (Int) → Option Ret) → Option Ret) : Sm := S_B [.sh (.io (.cons (.l .no bytesR) (.cons (.int .i64) (.cons (.int .i64) .nil))))] (fun d K => B d.1.1 d.1.2.1 d.1.2.2.1 (fun y0 y1 y2 y3 y4 t a s => K (.a [.s (.int .i64 y0), .s (.int .i64 y1), .s (.int .i64 y2), .s (.int .i64 y3), .s (.int .i64 y4), .l .no bytesR t], [.io [.l .no bytesR d.1.1, .s (.int .i64 a), .s (.int .i64 s)]])))
theorem okS_s_l01Cur_badReq : OkFn prog I N.s_l01Cur_badReq false (SB_s_l01Cur_badReq B_s_l01Cur_badReq) := okN (OkFn.no (ok_fn (fresh := false) (memc okS_s_l01Cur_req (memc okS_s_l01Cur_pick (memc okS_s_l01Cur_raw (memc okS_s_l01Cur_badText mem0)))) (l := ls_s_l01Cur_badReq) (p := []) (ls := []) (lend := []) (focus := false) (fuel := 0) (give := []) (fn := F.s_l01Cur_badReq) (by kernel_rfl) (by kernel_rfl) (by kernel_rfl) (by kernel_rfl) (cs := []) (by kernel_rfl) loops0)) (S_B_of fun d K q hq => by
  refine (e_s_l01Cur_badReq d.1.1 d.1.2.1 d.1.2.2.1 (noK K)).trans ?_
  unfold B_s_l01Cur_badReq at hq
  cases hp : (curB 500000000000000000 d.1.1 d.1.2.1 d.1.2.2.1) with
  | false => rw [hp] at hq; cases hq
  | true =>
    rw [hp] at hq
    exact ((gs_s_l01Cur_badReq d.1.1 d.1.2.1 d.1.2.2.1 hp).2 K).trans hq)
end Go.Ev.Seat
end
section
/- s_DrawReqBytes: its contract. -/
namespace Go.Ev.Seat
open Go.RowKit
set_option maxRecDepth 100000
set_option linter.unusedVariables false
set_option linter.unusedSimpArgs false
noncomputable abbrev ls_s_DrawReqBytes : List (Nat × Bool × Sm) := [(N.s_l01Open, false, S_s_l01Open), (N.s_l01Cur_badReq, false, (SB_s_l01Cur_badReq B_s_l01Cur_badReq))]
noncomputable abbrev E_s_DrawReqBytes : Env := En ls_s_DrawReqBytes [] [] [] false 0 []
noncomputable def T_s_DrawReqBytes (code : List Int) (K : Ret → Option Ret) : Option Ret := (bif (fitB code) then (B_s_l01Cur_badReq code (0 : Int) (seedD code) (fun y0 y1 y2 y3 y4 y5 y6 y7 => K ((.a [(.s (.int .i64 y0)), (.s (.int .i64 y1)), (.s (.int .i64 y2)), (.s (.int .i64 y3)), (.s (.int .i64 y4)), (.l .no bytesR y5)]), []))) else none)
theorem e_s_DrawReqBytes (code : List Int) (K : Ret → Option Ret) : evF E_s_DrawReqBytes false F.s_DrawReqBytes [.l .no bytesR code] K = T_s_DrawReqBytes code K := by kernel_rfl
theorem x_s_DrawReqBytes (code : List Int) (h : (fitB code) = true) : ∃ (y0 : Int) (y1 : Int) (y2 : Int) (y3 : Int) (y4 : Int) (t : List Int), (fitB t = true) ∧ ∀ K : Ret → Option Ret, T_s_DrawReqBytes code (noK K) = K (.a [.s (.int .i64 y0), .s (.int .i64 y1), .s (.int .i64 y2), .s (.int .i64 y3), .s (.int .i64 y4), .l .no bytesR t], []) := by
  suffices hd : Dr (fun r : Ret => ∃ (y0 : Int) (y1 : Int) (y2 : Int) (y3 : Int) (y4 : Int) (t : List Int), (fitB t = true) ∧ r = (.a [.s (.int .i64 y0), .s (.int .i64 y1), .s (.int .i64 y2), .s (.int .i64 y3), .s (.int .i64 y4), .l .no bytesR t], [])) (fun K : Ret → Option Ret => T_s_DrawReqBytes code (noK K)) by
    obtain ⟨_, ⟨y0, y1, y2, y3, y4, t, hp, rfl⟩, hk⟩ := hd
    exact ⟨y0, y1, y2, y3, y4, t, hp, hk⟩
  have hs : 0 ≤ seedD code ∧ seedD code < 65536 := by unfold seedD; omega
  have hl := fitB_len h
  unfold T_s_DrawReqBytes
  refine Dr.must h ?_
  refine Dr.b8 (b_s_l01Cur_badReq _ _ _ (curB_iff.2 ⟨h, by omega, by omega, by omega, by omega⟩)) (fun y0 y1 y2 y3 y4 t a0 s0 hy0 => ?_)
  exact Dr.leafN ⟨_, _, _, _, _, _, hy0.1.1, rfl⟩ rfl
noncomputable def g_s_DrawReqBytes (code : List Int) : Int × Int × Int × Int × Int × List Int := Classical.epsilon fun g => (fitB (g).2.2.2.2.2 = true) ∧ ∀ K : Ret → Option Ret, T_s_DrawReqBytes code (noK K) = K (.a [.s (.int .i64 (g).1), .s (.int .i64 (g).2.1), .s (.int .i64 (g).2.2.1), .s (.int .i64 (g).2.2.2.1), .s (.int .i64 (g).2.2.2.2.1), .l .no bytesR (g).2.2.2.2.2], [])
theorem gs_s_DrawReqBytes (code : List Int) (h : (fitB code) = true) : (fitB (g_s_DrawReqBytes code).2.2.2.2.2 = true) ∧ ∀ K : Ret → Option Ret, T_s_DrawReqBytes code (noK K) = K (.a [.s (.int .i64 (g_s_DrawReqBytes code).1), .s (.int .i64 (g_s_DrawReqBytes code).2.1), .s (.int .i64 (g_s_DrawReqBytes code).2.2.1), .s (.int .i64 (g_s_DrawReqBytes code).2.2.2.1), .s (.int .i64 (g_s_DrawReqBytes code).2.2.2.2.1), .l .no bytesR (g_s_DrawReqBytes code).2.2.2.2.2], []) := by
  obtain ⟨y0, y1, y2, y3, y4, t, hy, hk⟩ := x_s_DrawReqBytes code h
  exact Classical.epsilon_spec (p := fun g : Int × Int × Int × Int × Int × List Int => (fitB (g).2.2.2.2.2 = true) ∧ ∀ K : Ret → Option Ret, T_s_DrawReqBytes code (noK K) = K (.a [.s (.int .i64 (g).1), .s (.int .i64 (g).2.1), .s (.int .i64 (g).2.2.1), .s (.int .i64 (g).2.2.2.1), .s (.int .i64 (g).2.2.2.2.1), .l .no bytesR (g).2.2.2.2.2], [])) ⟨⟨y0, y1, y2, y3, y4, t⟩, hy, hk⟩
noncomputable def B_s_DrawReqBytes (code : List Int) (k : (Int) → (Int) → (Int) → (Int) → (Int) → (List Int) → Option Ret) : Option Ret := bif fitB code then k (g_s_DrawReqBytes code).1 (g_s_DrawReqBytes code).2.1 (g_s_DrawReqBytes code).2.2.1 (g_s_DrawReqBytes code).2.2.2.1 (g_s_DrawReqBytes code).2.2.2.2.1 (g_s_DrawReqBytes code).2.2.2.2.2 else none
theorem b_s_DrawReqBytes (code : List Int) (h : (fitB code) = true) : ∃ (y0 : Int) (y1 : Int) (y2 : Int) (y3 : Int) (y4 : Int) (t : List Int), (fitB t = true) ∧ ∀ k, B_s_DrawReqBytes code k = k y0 y1 y2 y3 y4 t :=
  ⟨(g_s_DrawReqBytes code).1, (g_s_DrawReqBytes code).2.1, (g_s_DrawReqBytes code).2.2.1, (g_s_DrawReqBytes code).2.2.2.1, (g_s_DrawReqBytes code).2.2.2.2.1, (g_s_DrawReqBytes code).2.2.2.2.2, (gs_s_DrawReqBytes code h).1, fun k => by unfold B_s_DrawReqBytes; rw [h]; rfl⟩
def SB_s_DrawReqBytes (B : (List Int) → ((Int) → (Int) → (Int) → (Int) → (Int) → (List Int) → Option Ret) → Option Ret) : Sm := S_B [.l bytesR] (fun d K => B d.1 (fun y0 y1 y2 y3 y4 t => K (.a [.s (.int .i64 y0), .s (.int .i64 y1), .s (.int .i64 y2), .s (.int .i64 y3), .s (.int .i64 y4), .l .no bytesR t], [])))
theorem okS_s_DrawReqBytes : OkFn prog I N.s_DrawReqBytes false (SB_s_DrawReqBytes B_s_DrawReqBytes) := okN (OkFn.no (ok_fn (fresh := false) (memc okS_s_l01Open (memc okS_s_l01Cur_badReq mem0)) (l := ls_s_DrawReqBytes) (p := []) (ls := []) (lend := []) (focus := false) (fuel := 0) (give := []) (fn := F.s_DrawReqBytes) (by kernel_rfl) (by kernel_rfl) (by kernel_rfl) (by kernel_rfl) (cs := []) (by kernel_rfl) loops0)) (S_B_of fun d K q hq => by
  refine (e_s_DrawReqBytes d.1 (noK K)).trans ?_
  unfold B_s_DrawReqBytes at hq
  cases hp : (fitB d.1) with
  | false => rw [hp] at hq; cases hq
  | true =>
    rw [hp] at hq
    exact ((gs_s_DrawReqBytes d.1 hp).2 K).trans hq)
end Go.Ev.Seat
end
section
/- i_in: its contract. -/
namespace Go.Ev.Seat
open Go.RowKit
set_option maxRecDepth 100000
set_option linter.unusedVariables false
set_option linter.unusedSimpArgs false
noncomputable abbrev E_i_in : Env := En [] [] [] [] false 0 []
noncomputable def T_i_in (n : Int) (low : Int) (high : Int) (K : Ret → Option Ret) : Option Ret := (bif (decide (low ≤ n)) then K ((.s (.bool (decide (n ≤ high)))), []) else K ((.s (.bool false)), []))
theorem e_i_in (n : Int) (low : Int) (high : Int) (K : Ret → Option Ret) : evF E_i_in true F.i_in [.s (.int .i64 n), .s (.int .i64 low), .s (.int .i64 high)] K = T_i_in n low high K := by kernel_rfl
def S_i_in : Sm := S_fnR [.i, .i, .i] (fun d => true) (fun d => (bl (decide (d.2.1 ≤ d.1) && decide (d.1 ≤ d.2.2.1)), []))
theorem v_i_in (n : Int) (low : Int) (high : Int) (K : Ret → Option Ret) : T_i_in n low high K = K (bl (decide (low ≤ n) && decide (n ≤ high)), []) := by
  unfold T_i_in; cases decide (low ≤ n) <;> rfl
theorem okS_i_in : OkFn prog I N.i_in true S_i_in := okN (ok_fn mem0 (l := []) (p := []) (ls := []) (lend := []) (focus := false) (fuel := 0) (give := []) (fn := F.i_in) (by kernel_rfl) (by kernel_rfl) (by kernel_rfl) (by kernel_rfl) (cs := []) (by kernel_rfl) loops0) (S_fnR_of fun d K h => (e_i_in d.1 d.2.1 d.2.2.1 K).trans (v_i_in d.1 d.2.1 d.2.2.1 K))
end Go.Ev.Seat
end
section
/- i_isSession: its contract. -/
namespace Go.Ev.Seat
open Go.RowKit
set_option maxRecDepth 100000
set_option linter.unusedVariables false
set_option linter.unusedSimpArgs false
noncomputable abbrev ls_i_isSession : List (Nat × Bool × Sm) := [(N.i_in, true, S_i_in)]
noncomputable abbrev E_i_isSession : Env := En ls_i_isSession [] [] [] false 0 []
noncomputable def T_i_isSession (k : Int) (K : Ret → Option Ret) : Option Ret := K ((.s (.bool ((decide ((1 : Int) ≤ k)) && (decide (k ≤ (8 : Int)))))), [])
theorem e_i_isSession (k : Int) (K : Ret → Option Ret) : evF E_i_isSession true F.i_isSession [.s (.int .i64 k)] K = T_i_isSession k K := by kernel_rfl
def S_i_isSession : Sm := S_fnR [.i] (fun d => true) (fun d => (bl (decide (1 ≤ d.1) && decide (d.1 ≤ 8)), []))
theorem v_i_isSession (k : Int) (K : Ret → Option Ret) : T_i_isSession k K = K (bl (decide (1 ≤ k) && decide (k ≤ 8)), []) := by
  rfl
theorem okS_i_isSession : OkFn prog I N.i_isSession true S_i_isSession := okN (ok_fn (memc okS_i_in mem0) (l := ls_i_isSession) (p := []) (ls := []) (lend := []) (focus := false) (fuel := 0) (give := []) (fn := F.i_isSession) (by kernel_rfl) (by kernel_rfl) (by kernel_rfl) (by kernel_rfl) (cs := []) (by kernel_rfl) loops0) (S_fnR_of fun d K h => (e_i_isSession d.1 K).trans (v_i_isSession d.1 K))
end Go.Ev.Seat
end
section
/- utf8_word_bytes: its contract. -/
namespace Go.Ev.Seat
open Go.RowKit
set_option maxRecDepth 100000
set_option linter.unusedVariables false
set_option linter.unusedSimpArgs false
def w8 (p : List Int) : Int := bor .u64 (bor .u64 (bor .u64 (bor .u64 (bor .u64 (bor .u64 (bor .u64 (IntKind.wrap .u64 (p.getD 0 0)) (shlI .u64 (IntKind.wrap .u64 (p.getD 1 0)) 8)) (shlI .u64 (IntKind.wrap .u64 (p.getD 2 0)) 16)) (shlI .u64 (IntKind.wrap .u64 (p.getD 3 0)) 24)) (shlI .u64 (IntKind.wrap .u64 (p.getD 4 0)) 32)) (shlI .u64 (IntKind.wrap .u64 (p.getD 5 0)) 40)) (shlI .u64 (IntKind.wrap .u64 (p.getD 6 0)) 48)) (shlI .u64 (IntKind.wrap .u64 (p.getD 7 0)) 56)
noncomputable abbrev pl_utf8_word_bytes : List (Nat × Plan × List Nat) := [(1, takes [0, 1, 2, 3, 4, 5, 6, 7, 8, 9, 10, 11, 12, 13, 14, 15, 16, 17, 18, 19, 20, 21, 22], []), (2, takes [0, 1, 2, 3, 4, 5, 6, 7, 8, 9, 10, 11, 12, 13, 14, 15, 16, 17, 18, 19, 20, 21, 22, 23, 24, 25, 26, 27, 28, 29, 30, 31, 32, 33, 34, 35, 36, 37, 38, 39, 40, 41, 42, 43, 44, 45, 46], [])]
noncomputable abbrev E_utf8_word_bytes : Env := En [] pl_utf8_word_bytes [] [] false 0 []
noncomputable def T_utf8_word_bytes (p : List Int) (K : Ret → Option Ret) : Option Ret := (bif (decide ((0 : Int) < (((List.length p) : Nat) : Int))) then (bif (decide ((1 : Int) < (((List.length p) : Nat) : Int))) then (bif (decide ((2 : Int) < (((List.length p) : Nat) : Int))) then (bif (decide ((3 : Int) < (((List.length p) : Nat) : Int))) then (bif (decide ((4 : Int) < (((List.length p) : Nat) : Int))) then (bif (decide ((5 : Int) < (((List.length p) : Nat) : Int))) then (bif (decide ((6 : Int) < (((List.length p) : Nat) : Int))) then (bif (decide ((7 : Int) < (((List.length p) : Nat) : Int))) then K ((.s (.int .u64 (bor .u64 (bor .u64 (bor .u64 (bor .u64 (bor .u64 (bor .u64 (bor .u64 (IntKind.wrap .u64 (List.getD p 0 (0 : Int))) (shlI .u64 (IntKind.wrap .u64 (List.getD p 1 (0 : Int))) (8 : Int))) (shlI .u64 (IntKind.wrap .u64 (List.getD p 2 (0 : Int))) (16 : Int))) (shlI .u64 (IntKind.wrap .u64 (List.getD p 3 (0 : Int))) (24 : Int))) (shlI .u64 (IntKind.wrap .u64 (List.getD p 4 (0 : Int))) (32 : Int))) (shlI .u64 (IntKind.wrap .u64 (List.getD p 5 (0 : Int))) (40 : Int))) (shlI .u64 (IntKind.wrap .u64 (List.getD p 6 (0 : Int))) (48 : Int))) (shlI .u64 (IntKind.wrap .u64 (List.getD p 7 (0 : Int))) (56 : Int))))), []) else none) else none) else none) else none) else none) else none) else none) else none)
theorem e_utf8_word_bytes (p : List Int) (K : Ret → Option Ret) : evF E_utf8_word_bytes true F.utf8_word_bytes [.l .no bytesR p] K = T_utf8_word_bytes p K := by kernel_rfl
def S_utf8_word_bytes : Sm := S_fnR [.l bytesR] (fun d => Nat.ble 8 d.1.length) (fun d => (.s (.int .u64 (w8 d.1)), []))
theorem v_utf8_word_bytes (p : List Int) (h : (Nat.ble 8 p.length) = true) (K : Ret → Option Ret) : T_utf8_word_bytes p K = K (.s (.int .u64 (w8 p)), []) := by
  have h' := Nat.le_of_ble_eq_true h
  unfold T_utf8_word_bytes
  simp (disch := omega) only [decide_eq_true, Bool.true_and, cond_true]
  rfl
theorem okS_utf8_word_bytes : OkFn prog I N.utf8_word_bytes true S_utf8_word_bytes := okN (ok_fn mem0 (l := []) (p := pl_utf8_word_bytes) (ls := []) (lend := []) (focus := false) (fuel := 0) (give := []) (fn := F.utf8_word_bytes) (by kernel_rfl) (by kernel_rfl) (by kernel_rfl) (by kernel_rfl) (cs := []) (by kernel_rfl) loops0) (S_fnR_of fun d K h => (e_utf8_word_bytes d.1 K).trans (v_utf8_word_bytes d.1 h K))
end Go.Ev.Seat
end
section
/- utf8_Valid: its contract. -/
namespace Go.Ev.Seat
open Go.RowKit
set_option maxRecDepth 100000
set_option linter.unusedVariables false
set_option linter.unusedSimpArgs false
def z_utf8_Valid_10_0 (x0 : List Int) (x3 : Int) : St := { tm := ([(.l .no bytesR x0), .x, .x, (.s (.int .u8 x3))] ++ List.replicate 184 .x), ob := [], nx := 0, io := [] }
def sh_utf8_Valid_10_0 : Ss := { tm := (.cons (.l .no bytesR) (.cons (.x) (.cons (.x) (.cons (.int .u8) (xsh 184))))), ob := .nil, nx := 0, io := .nil }
def d_utf8_Valid_10_0 (x0 : List Int) (x3 : Int) : sh_utf8_Valid_10_0.T := ((x0, ((), ((), (x3, xd 184)))), (), ())
def s_utf8_Valid_10_0 (x0 : List Int) (x3 : Int) : St := { tm := ([(.l .no bytesR x0), .x, .x, (.s (.int .u8 x3))] ++ List.replicate 184 .x), ob := [], nx := 0, io := [] }
theorem se_utf8_Valid_10_0 (x0 : List Int) (x3 : Int) : sh_utf8_Valid_10_0.mk' (d_utf8_Valid_10_0 x0 x3) = (s_utf8_Valid_10_0 x0 x3) := by kernel_rfl
def w_utf8_Valid_10_0 (d : sh_utf8_Valid_10_0.T) (f : (List Int) → Int → Option Ret) : Option Ret := match d with | ((x0, (_, (_, (x3, _)))), _, _) => f x0 x3
noncomputable def P_utf8_Valid_10_0 (x0 : List Int) (x3 : Int) (nx0 : (List Int) → Int → Option Ret) (k0 : (List Int) → Int → Option Ret) : Option Ret := (bif (decide ((((List.length x0) : Nat) : Int) > (32 : Int))) then (bif (decide ((8 : Int) ≤ (((List.length x0) : Nat) : Int))) then (bif (decide ((16 : Int) ≤ (((List.length x0) : Nat) : Int))) then (bif (decide ((24 : Int) ≤ (((List.length x0) : Nat) : Int))) then (bif (Nat.ble 8 (List.length x0)) then (bif (Nat.ble 8 (List.length (List.drop 8 x0))) then (bif (Nat.ble 8 (List.length (List.drop 16 x0))) then (bif (Nat.ble 8 (List.length (List.drop 24 x0))) then (bif ((band .u64 (bor .u64 (bor .u64 (w8 x0) (w8 (List.drop 8 x0))) (bor .u64 (w8 (List.drop 16 x0)) (w8 (List.drop 24 x0)))) (9259542123273814144 : Int)) == (0 : Int)) then (bif (decide ((32 : Int) ≤ (((List.length x0) : Nat) : Int))) then (nx0 (List.drop 32 x0) x3) else none) else (k0 x0 x3)) else none) else none) else none) else none) else none) else none) else none) else (k0 x0 x3))
noncomputable def Q_utf8_Valid_10_0 : Nat → (List Int) → Int → ((List Int) → Int → Option Ret) → Option Ret
  | 0, _, _, _ => none
  | m + 1, x0, x3, k0 => P_utf8_Valid_10_0 x0 x3 (fun x0 x3 => (Q_utf8_Valid_10_0 m x0 x3 k0)) k0
noncomputable def R_utf8_Valid_10_0 (x0 : List Int) (x3 : Int) (k0 : (List Int) → Int → Option Ret) : Option Ret := Q_utf8_Valid_10_0 (List.length x0 + x3.toNat + 2) x0 x3 k0
noncomputable def W_utf8_Valid_10 : LoopFn := (fun (σ : St) (K : Ex → St → Option Ret) => (match sh_utf8_Valid_10_0.un σ with | some d => w_utf8_Valid_10_0 d (fun x0 x3 => R_utf8_Valid_10_0 x0 x3 (fun x0 x3 => (K (.ext 2) (z_utf8_Valid_10_0 x0 x3)))) | none => none))
def z_utf8_Valid_2_0 (x2 : Bool) : St := { tm := ([.x, .x, (.s (.bool x2))] ++ List.replicate 185 .x), ob := [], nx := 0, io := [] }
def z_utf8_Valid_2_1 : St := { tm := ([] ++ List.replicate 188 .x), ob := [], nx := 0, io := [] }
def sh_utf8_Valid_2_0 : Ss := { tm := (.cons (.l .no bytesR) (xsh 187)), ob := .nil, nx := 0, io := .nil }
def d_utf8_Valid_2_0 (x0 : List Int) : sh_utf8_Valid_2_0.T := ((x0, xd 187), (), ())
def s_utf8_Valid_2_0 (x0 : List Int) : St := { tm := ([(.l .no bytesR x0)] ++ List.replicate 187 .x), ob := [], nx := 0, io := [] }
theorem se_utf8_Valid_2_0 (x0 : List Int) : sh_utf8_Valid_2_0.mk' (d_utf8_Valid_2_0 x0) = (s_utf8_Valid_2_0 x0) := by kernel_rfl
def w_utf8_Valid_2_0 (d : sh_utf8_Valid_2_0.T) (f : (List Int) → Option Ret) : Option Ret := match d with | ((x0, _), _, _) => f x0
noncomputable def P_utf8_Valid_2_0 (x0 : List Int) (nx0 : (List Int) → Option Ret) (k0 : Bool → Option Ret) (k1 : Option Ret) : Option Ret := (bif (decide ((((List.length x0) : Nat) : Int) > (0 : Int))) then (bif (decide ((0 : Int) < (((List.length x0) : Nat) : Int))) then (bif (decide ((List.getD x0 0 (0 : Int)) < (128 : Int))) then (bif (decide ((1 : Int) ≤ (((List.length x0) : Nat) : Int))) then (bif (decide ((((List.length (List.drop 1 x0)) : Nat) : Int) > (8 : Int))) then (bif (Nat.ble 8 (List.length (List.drop 1 x0))) then (bif ((band .u64 (w8 (List.drop 1 x0)) (9259542123273814144 : Int)) == (0 : Int)) then (bif (decide ((8 : Int) ≤ (((List.length (List.drop 1 x0)) : Nat) : Int))) then (bif (decide ((((List.length (List.drop 8 (List.drop 1 x0))) : Nat) : Int) > (16 : Int))) then (bif (decide ((8 : Int) ≤ (((List.length (List.drop 8 (List.drop 1 x0))) : Nat) : Int))) then (bif (Nat.ble 8 (List.length (List.drop 8 (List.drop 1 x0)))) then (bif (Nat.ble 8 (List.length (List.drop 8 (List.drop 8 (List.drop 1 x0))))) then (bif ((band .u64 (bor .u64 (w8 (List.drop 8 (List.drop 1 x0))) (w8 (List.drop 8 (List.drop 8 (List.drop 1 x0))))) (9259542123273814144 : Int)) == (0 : Int)) then (bif (decide ((16 : Int) ≤ (((List.length (List.drop 8 (List.drop 1 x0))) : Nat) : Int))) then (R_utf8_Valid_10_0 (List.drop 16 (List.drop 8 (List.drop 1 x0))) (List.getD x0 0 (0 : Int)) (fun y0 y1 => (nx0 y0))) else none) else (nx0 (List.drop 8 (List.drop 1 x0)))) else none) else none) else none) else (nx0 (List.drop 8 (List.drop 1 x0)))) else none) else (nx0 (List.drop 1 x0))) else none) else (nx0 (List.drop 1 x0))) else none) else (bif ((decide ((0 : Int) ≤ (List.getD x0 0 (0 : Int)))) && (decide ((List.getD x0 0 (0 : Int)) < ((256 : Nat) : Int)))) then (bif (Nat.blt (Int.toNat (List.getD x0 0 (0 : Int))) (List.length utfFirst)) then (bif ((decide ((0 : Int) ≤ (shrI .u8 (List.getD utfFirst (Int.toNat (List.getD x0 0 (0 : Int))) (0 : Int)) (4 : Int)))) && (decide ((shrI .u8 (List.getD utfFirst (Int.toNat (List.getD x0 0 (0 : Int))) (0 : Int)) (4 : Int)) < ((16 : Nat) : Int)))) then (bif (Nat.blt (Int.toNat (shrI .u8 (List.getD utfFirst (Int.toNat (List.getD x0 0 (0 : Int))) (0 : Int)) (4 : Int))) (List.length utfAccept)) then (bif ((IntKind.wrap .i64 (band .u8 (List.getD utfFirst (Int.toNat (List.getD x0 0 (0 : Int))) (0 : Int)) (7 : Int))) == (2 : Int)) then (bif (decide ((((List.length x0) : Nat) : Int) < (2 : Int))) then (k0 false) else (bif (decide ((1 : Int) < (((List.length x0) : Nat) : Int))) then (bif (decide ((List.getD x0 1 (0 : Int)) < (List.getD utfAccept (Int.toNat (shrI .u8 (List.getD utfFirst (Int.toNat (List.getD x0 0 (0 : Int))) (0 : Int)) (4 : Int))) (accR.dflt)).1)) then (k0 false) else (bif (decide ((1 : Int) < (((List.length x0) : Nat) : Int))) then (bif (decide ((List.getD utfAccept (Int.toNat (shrI .u8 (List.getD utfFirst (Int.toNat (List.getD x0 0 (0 : Int))) (0 : Int)) (4 : Int))) (accR.dflt)).2 < (List.getD x0 1 (0 : Int)))) then (k0 false) else (bif (decide ((2 : Int) ≤ (((List.length x0) : Nat) : Int))) then (nx0 (List.drop 2 x0)) else none)) else none)) else none)) else (bif ((IntKind.wrap .i64 (band .u8 (List.getD utfFirst (Int.toNat (List.getD x0 0 (0 : Int))) (0 : Int)) (7 : Int))) == (3 : Int)) then (bif (decide ((((List.length x0) : Nat) : Int) < (3 : Int))) then (k0 false) else (bif (decide ((1 : Int) < (((List.length x0) : Nat) : Int))) then (bif (decide ((List.getD x0 1 (0 : Int)) < (List.getD utfAccept (Int.toNat (shrI .u8 (List.getD utfFirst (Int.toNat (List.getD x0 0 (0 : Int))) (0 : Int)) (4 : Int))) (accR.dflt)).1)) then (k0 false) else (bif (decide ((1 : Int) < (((List.length x0) : Nat) : Int))) then (bif (decide ((List.getD utfAccept (Int.toNat (shrI .u8 (List.getD utfFirst (Int.toNat (List.getD x0 0 (0 : Int))) (0 : Int)) (4 : Int))) (accR.dflt)).2 < (List.getD x0 1 (0 : Int)))) then (k0 false) else (bif (decide ((2 : Int) < (((List.length x0) : Nat) : Int))) then (bif (decide ((List.getD x0 2 (0 : Int)) < (128 : Int))) then (k0 false) else (bif (decide ((2 : Int) < (((List.length x0) : Nat) : Int))) then (bif (decide ((191 : Int) < (List.getD x0 2 (0 : Int)))) then (k0 false) else (bif (decide ((3 : Int) ≤ (((List.length x0) : Nat) : Int))) then (nx0 (List.drop 3 x0)) else none)) else none)) else none)) else none)) else none)) else (bif ((IntKind.wrap .i64 (band .u8 (List.getD utfFirst (Int.toNat (List.getD x0 0 (0 : Int))) (0 : Int)) (7 : Int))) == (4 : Int)) then (bif (decide ((((List.length x0) : Nat) : Int) < (4 : Int))) then (k0 false) else (bif (decide ((1 : Int) < (((List.length x0) : Nat) : Int))) then (bif (decide ((List.getD x0 1 (0 : Int)) < (List.getD utfAccept (Int.toNat (shrI .u8 (List.getD utfFirst (Int.toNat (List.getD x0 0 (0 : Int))) (0 : Int)) (4 : Int))) (accR.dflt)).1)) then (k0 false) else (bif (decide ((1 : Int) < (((List.length x0) : Nat) : Int))) then (bif (decide ((List.getD utfAccept (Int.toNat (shrI .u8 (List.getD utfFirst (Int.toNat (List.getD x0 0 (0 : Int))) (0 : Int)) (4 : Int))) (accR.dflt)).2 < (List.getD x0 1 (0 : Int)))) then (k0 false) else (bif (decide ((2 : Int) < (((List.length x0) : Nat) : Int))) then (bif (decide ((List.getD x0 2 (0 : Int)) < (128 : Int))) then (k0 false) else (bif (decide ((2 : Int) < (((List.length x0) : Nat) : Int))) then (bif (decide ((191 : Int) < (List.getD x0 2 (0 : Int)))) then (k0 false) else (bif (decide ((3 : Int) < (((List.length x0) : Nat) : Int))) then (bif (decide ((List.getD x0 3 (0 : Int)) < (128 : Int))) then (k0 false) else (bif (decide ((3 : Int) < (((List.length x0) : Nat) : Int))) then (bif (decide ((191 : Int) < (List.getD x0 3 (0 : Int)))) then (k0 false) else (bif (decide ((4 : Int) ≤ (((List.length x0) : Nat) : Int))) then (nx0 (List.drop 4 x0)) else none)) else none)) else none)) else none)) else none)) else none)) else none)) else (k0 false)))) else none) else none) else none) else none)) else none) else k1)
noncomputable def Q_utf8_Valid_2_0 : Nat → (List Int) → (Bool → Option Ret) → (Option Ret) → Option Ret
  | 0, _, _, _ => none
  | m + 1, x0, k0, k1 => P_utf8_Valid_2_0 x0 (fun x0 => (Q_utf8_Valid_2_0 m x0 k0 k1)) k0 k1
noncomputable def R_utf8_Valid_2_0 (x0 : List Int) (k0 : Bool → Option Ret) (k1 : Option Ret) : Option Ret := Q_utf8_Valid_2_0 (List.length x0 + 2) x0 k0 k1
noncomputable def W_utf8_Valid_2 : LoopFn := (fun (σ : St) (K : Ex → St → Option Ret) => (match sh_utf8_Valid_2_0.un σ with | some d => w_utf8_Valid_2_0 d (fun x0 => R_utf8_Valid_2_0 x0 (fun x2 => (K .ret (z_utf8_Valid_2_0 x2))) (K (.ext 0) z_utf8_Valid_2_1)) | none => none))
noncomputable abbrev pl_utf8_Valid : List (Nat × Plan × List Nat) := [(8, takeB [0, 1, 2, 3, 4, 6, 7] (.fork (.one 5 (.fork (.one 8 (takes [9, 10, 11, 12]))))), []), (10, takeB [0, 1, 2, 3, 4, 6, 7, 10, 11, 13, 14] (.fork (.one 5 (.fork (.one 8 (takeB [9] (.fork (.one 12 (.fork (.one 15 (takes [16, 17, 18, 19, 20])))))))))), []), (18, takes [0, 1, 2, 3, 4, 5, 6, 7, 8, 9, 10, 11, 12, 13, 14, 15, 16, 17, 18], []), (22, takes [0, 1, 2, 3, 4, 5, 6, 7, 8, 9, 10, 11, 12, 13, 14, 15, 16, 17, 18, 19, 20, 21, 22, 23, 24, 25, 26, 27, 28, 29, 30], []), (26, takes [0, 1, 2, 3, 4, 5, 6, 7, 8, 9, 10, 11, 12, 13, 14, 15, 16, 17, 18, 19, 20, 21, 22, 23, 24, 25, 26, 27, 28, 29, 30, 31, 32, 33, 34, 35, 36, 37, 38, 39, 40, 41, 42], [])]
noncomputable abbrev ls_utf8_Valid : List (Nat × Bool × Sm) := [(N.utf8_word_bytes, true, S_utf8_word_bytes)]
noncomputable abbrev E_utf8_Valid : Env := En ls_utf8_Valid pl_utf8_Valid [(10, [0,3], [0,2,3], W_utf8_Valid_10), (2, [0], [2], W_utf8_Valid_2)] [] false 0 []
noncomputable abbrev U_utf8_Valid_10 := rounds (run E_utf8_Valid (bodyOf F.utf8_Valid 10)) [0,3] [0,2,3]
theorem st_utf8_Valid_10_0 (m : Nat) (x0 : List Int) (x3 : Int) (K : Ex → St → Option Ret) : U_utf8_Valid_10 (m + 1) (s_utf8_Valid_10_0 x0 x3) K = P_utf8_Valid_10_0 x0 x3 (fun x0 x3 => (U_utf8_Valid_10 m (s_utf8_Valid_10_0 x0 x3) K)) (fun x0 x3 => (K (.ext 2) (z_utf8_Valid_10_0 x0 x3))) := by kernel_rfl
theorem q_utf8_Valid_10 (K : Ex → St → Option Ret) : ∀ m : Nat, (∀ (x0 : List Int) (x3 : Int), U_utf8_Valid_10 m (s_utf8_Valid_10_0 x0 x3) K = Q_utf8_Valid_10_0 m x0 x3 (fun x0 x3 => (K (.ext 2) (z_utf8_Valid_10_0 x0 x3))))
  | 0 => (fun _ _ => rfl)
  | m + 1 => (fun x0 x3 => (by rw [st_utf8_Valid_10_0, show (fun x0 x3 => (U_utf8_Valid_10 m (s_utf8_Valid_10_0 x0 x3) K)) = (fun x0 x3 => (Q_utf8_Valid_10_0 m x0 x3 (fun x0 x3 => (K (.ext 2) (z_utf8_Valid_10_0 x0 x3))))) from funext fun x0 => funext fun x3 => (q_utf8_Valid_10 K m) x0 x3]; rfl))
theorem loopK_utf8_Valid_10 : LoopOk E_utf8_Valid (bodyOf F.utf8_Valid 10) := by
  refine loopW_ok (n := 10) (F := W_utf8_Valid_10) (by kernel_rfl) rfl (li := [0,3]) (lo := [0,2,3]) rfl (fun σ K r hr => ?_)
  unfold W_utf8_Valid_10 at hr
  split at hr
  · rename_i d hd
    rw [Ss.un_mk hd]
    exact ⟨_, ((congrArg (fun z => U_utf8_Valid_10 _ z K) (se_utf8_Valid_10_0 _ _)).trans ((q_utf8_Valid_10 K _) _ _)).trans hr⟩
  · cases hr
noncomputable abbrev U_utf8_Valid_2 := rounds (run E_utf8_Valid (bodyOf F.utf8_Valid 2)) [0] [2]
theorem st_utf8_Valid_2_0 (m : Nat) (x0 : List Int) (K : Ex → St → Option Ret) : U_utf8_Valid_2 (m + 1) (s_utf8_Valid_2_0 x0) K = P_utf8_Valid_2_0 x0 (fun x0 => (U_utf8_Valid_2 m (s_utf8_Valid_2_0 x0) K)) (fun x2 => (K .ret (z_utf8_Valid_2_0 x2))) (K (.ext 0) z_utf8_Valid_2_1) := by kernel_rfl
theorem q_utf8_Valid_2 (K : Ex → St → Option Ret) : ∀ m : Nat, (∀ (x0 : List Int), U_utf8_Valid_2 m (s_utf8_Valid_2_0 x0) K = Q_utf8_Valid_2_0 m x0 (fun x2 => (K .ret (z_utf8_Valid_2_0 x2))) (K (.ext 0) z_utf8_Valid_2_1))
  | 0 => (fun _ => rfl)
  | m + 1 => (fun x0 => (by rw [st_utf8_Valid_2_0, show (fun x0 => (U_utf8_Valid_2 m (s_utf8_Valid_2_0 x0) K)) = (fun x0 => (Q_utf8_Valid_2_0 m x0 (fun x2 => (K .ret (z_utf8_Valid_2_0 x2))) (K (.ext 0) z_utf8_Valid_2_1))) from funext fun x0 => (q_utf8_Valid_2 K m) x0]; rfl))
theorem loopK_utf8_Valid_2 : LoopOk E_utf8_Valid (bodyOf F.utf8_Valid 2) := by
  refine loopW_ok (n := 2) (F := W_utf8_Valid_2) (by kernel_rfl) rfl (li := [0]) (lo := [2]) rfl (fun σ K r hr => ?_)
  unfold W_utf8_Valid_2 at hr
  split at hr
  · rename_i d hd
    rw [Ss.un_mk hd]
    exact ⟨_, ((congrArg (fun z => U_utf8_Valid_2 _ z K) (se_utf8_Valid_2_0 _)).trans ((q_utf8_Valid_2 K _) _)).trans hr⟩
  · cases hr
noncomputable def T_utf8_Valid (p : List Int) (K : Ret → Option Ret) : Option Ret := (bif ((decide ((((List.length p) : Nat) : Int) ≤ (((List.length p) : Nat) : Int))) && (decide ((((List.length p) : Nat) : Int) ≤ (((List.length p) : Nat) : Int)))) then (R_utf8_Valid_2_0 (List.drop 0 (List.take (List.length p) p)) (fun y2 => K ((.s (.bool y2)), [])) (K ((.s (.bool true)), []))) else none)
theorem e_utf8_Valid (p : List Int) (K : Ret → Option Ret) : evF E_utf8_Valid true F.utf8_Valid [.l .no bytesR p] K = T_utf8_Valid p K := by kernel_rfl
theorem w8_nat {xs : List Int} (h : fitB xs = true) : ∃ W : Nat, w8 xs = (W : Int) ∧ W < 18446744073709551616 ∧ (W &&& M8 = 0 ↔ ∀ i, i < 8 → xs.getD i 0 < 128) := by
  have hb : ∀ i : Nat, ∃ n : Nat, xs.getD i 0 = (n : Int) ∧ n < 256 := fun i => by
    have := fitB_get h i
    exact ⟨(xs.getD i 0).toNat, by omega, by omega⟩
  obtain ⟨n0, e0, l0⟩ := hb 0
  obtain ⟨n1, e1, l1⟩ := hb 1
  obtain ⟨n2, e2, l2⟩ := hb 2
  obtain ⟨n3, e3, l3⟩ := hb 3
  obtain ⟨n4, e4, l4⟩ := hb 4
  obtain ⟨n5, e5, l5⟩ := hb 5
  obtain ⟨n6, e6, l6⟩ := hb 6
  obtain ⟨n7, e7, l7⟩ := hb 7
  have o : ∀ {a b : Nat}, a < 18446744073709551616 → b < 18446744073709551616 → a ||| b < 18446744073709551616 := fun ha hb => Nat.or_lt_two_pow (n := 64) ha hb
  have s0 : n0 < 18446744073709551616 := by omega
  have s1 := shl_lt l1 (show 1 < 8 by omega)
  have s2 := shl_lt l2 (show 2 < 8 by omega)
  have s3 := shl_lt l3 (show 3 < 8 by omega)
  have s4 := shl_lt l4 (show 4 < 8 by omega)
  have s5 := shl_lt l5 (show 5 < 8 by omega)
  have s6 := shl_lt l6 (show 6 < 8 by omega)
  have s7 := shl_lt l7 (show 7 < 8 by omega)
  refine ⟨((((((n0 ||| n1 * 2 ^ (8 * 1)) ||| n2 * 2 ^ (8 * 2)) ||| n3 * 2 ^ (8 * 3)) ||| n4 * 2 ^ (8 * 4)) ||| n5 * 2 ^ (8 * 5)) ||| n6 * 2 ^ (8 * 6)) ||| n7 * 2 ^ (8 * 7), ?_, o (o (o (o (o (o (o s0 s1) s2) s3) s4) s5) s6) s7, ?_⟩
  · unfold w8
    rw [e0, e1, e2, e3, e4, e5, e6, e7]
    rw [show (8 : Int) = ((8 * 1 : Nat) : Int) from rfl, show (16 : Int) = ((8 * 2 : Nat) : Int) from rfl, show (24 : Int) = ((8 * 3 : Nat) : Int) from rfl, show (32 : Int) = ((8 * 4 : Nat) : Int) from rfl, show (40 : Int) = ((8 * 5 : Nat) : Int) from rfl, show (48 : Int) = ((8 * 6 : Nat) : Int) from rfl, show (56 : Int) = ((8 * 7 : Nat) : Int) from rfl]
    rw [shl64 l1 (by omega), shl64 l2 (by omega), shl64 l3 (by omega), shl64 l4 (by omega), shl64 l5 (by omega), shl64 l6 (by omega), shl64 l7 (by omega), wrap64 s0]
    rw [bor64 s0 s1, bor64 (o s0 s1) s2, bor64 (o (o s0 s1) s2) s3, bor64 (o (o (o s0 s1) s2) s3) s4, bor64 (o (o (o (o s0 s1) s2) s3) s4) s5, bor64 (o (o (o (o (o s0 s1) s2) s3) s4) s5) s6, bor64 (o (o (o (o (o (o s0 s1) s2) s3) s4) s5) s6) s7]
  · rw [or_mask, or_mask, or_mask, or_mask, or_mask, or_mask, or_mask, hi_ok l1 (by omega), hi_ok l2 (by omega), hi_ok l3 (by omega), hi_ok l4 (by omega), hi_ok l5 (by omega), hi_ok l6 (by omega), hi_ok l7 (by omega)]
    have h0 := hi_ok l0 (show 0 < 8 by omega)
    rw [show n0 * 2 ^ (8 * 0) = n0 by simp] at h0
    rw [h0]
    constructor
    · intro hh i hi
      have hc : i = 0 ∨ i = 1 ∨ i = 2 ∨ i = 3 ∨ i = 4 ∨ i = 5 ∨ i = 6 ∨ i = 7 := by omega
      rcases hc with rfl | rfl | rfl | rfl | rfl | rfl | rfl | rfl
      · rw [e0]; omega
      · rw [e1]; omega
      · rw [e2]; omega
      · rw [e3]; omega
      · rw [e4]; omega
      · rw [e5]; omega
      · rw [e6]; omega
      · rw [e7]; omega
    · intro hh
      have g0 := hh 0 (by omega)
      have g1 := hh 1 (by omega)
      have g2 := hh 2 (by omega)
      have g3 := hh 3 (by omega)
      have g4 := hh 4 (by omega)
      have g5 := hh 5 (by omega)
      have g6 := hh 6 (by omega)
      have g7 := hh 7 (by omega)
      rw [e0] at g0; rw [e1] at g1; rw [e2] at g2; rw [e3] at g3; rw [e4] at g4; rw [e5] at g5; rw [e6] at g6; rw [e7] at g7
      omega
theorem mask1 {xs : List Int} (h : fitB xs = true) (hm : (band .u64 (w8 xs) (9259542123273814144 : Int) == (0 : Int)) = true) : ∀ i, i < 8 → xs.getD i 0 < 128 := by
  obtain ⟨W, e, l, hw⟩ := w8_nat h
  rw [e, show (9259542123273814144 : Int) = ((M8 : Nat) : Int) from rfl, band64 l (by decide), beq_iff_eq] at hm
  exact hw.1 (by omega)
theorem mask2 {xs ys : List Int} (h : fitB xs = true) (h2 : fitB ys = true) (hm : (band .u64 (bor .u64 (w8 xs) (w8 ys)) (9259542123273814144 : Int) == (0 : Int)) = true) : (∀ i, i < 8 → xs.getD i 0 < 128) ∧ ∀ i, i < 8 → ys.getD i 0 < 128 := by
  obtain ⟨W, e, l, hw⟩ := w8_nat h
  obtain ⟨V, e2, l2, hv⟩ := w8_nat h2
  rw [e, e2, bor64 l l2, show (9259542123273814144 : Int) = ((M8 : Nat) : Int) from rfl, band64 (Nat.or_lt_two_pow (n := 64) l l2) (by decide), beq_iff_eq] at hm
  have : (W ||| V) &&& M8 = 0 := by omega
  rw [or_mask] at this
  exact ⟨hw.1 this.1, hv.1 this.2⟩
theorem mask4 {a b c d : List Int} (ha : fitB a = true) (hb : fitB b = true) (hc : fitB c = true) (hd : fitB d = true) (hm : (band .u64 (bor .u64 (bor .u64 (w8 a) (w8 b)) (bor .u64 (w8 c) (w8 d))) (9259542123273814144 : Int) == (0 : Int)) = true) :
    (∀ i, i < 8 → a.getD i 0 < 128) ∧ (∀ i, i < 8 → b.getD i 0 < 128) ∧ (∀ i, i < 8 → c.getD i 0 < 128) ∧ ∀ i, i < 8 → d.getD i 0 < 128 := by
  obtain ⟨A, e1, l1, h1⟩ := w8_nat ha
  obtain ⟨B, e2, l2, h2⟩ := w8_nat hb
  obtain ⟨C, e3, l3, h3⟩ := w8_nat hc
  obtain ⟨D, e4, l4, h4⟩ := w8_nat hd
  have o : ∀ {a b : Nat}, a < 18446744073709551616 → b < 18446744073709551616 → a ||| b < 18446744073709551616 := fun ha hb => Nat.or_lt_two_pow (n := 64) ha hb
  rw [e1, e2, e3, e4, bor64 l1 l2, bor64 l3 l4, bor64 (o l1 l2) (o l3 l4), show (9259542123273814144 : Int) = ((M8 : Nat) : Int) from rfl, band64 (o (o l1 l2) (o l3 l4)) (by decide), beq_iff_eq] at hm
  have : ((A ||| B) ||| (C ||| D)) &&& M8 = 0 := by omega
  rw [or_mask, or_mask, or_mask] at this
  exact ⟨h1.1 this.1.1, h2.1 this.1.2, h3.1 this.2.1, h4.1 this.2.2⟩
theorem ascii_more {xs : List Int} {n m : Nat} (h1 : ∀ i, i < n → xs.getD i 0 < 128) (h2 : ∀ i, i < m → (xs.drop n).getD i 0 < 128) : ∀ i, i < n + m → xs.getD i 0 < 128 := fun i hi => by
  by_cases h : i < n
  · exact h1 i h
  · have := h2 (i - n) (by omega)
    rw [getD_drop, show n + (i - n) = i by omega] at this
    exact this
theorem loop10 (k0 : List Int → Int → Option Ret) (x3 : Int) : ∀ (m : Nat) (xs : List Int), fitB xs = true → xs.length < m → ∃ ys, fitB ys = true ∧ ys.length ≤ xs.length ∧ valid ys = valid xs ∧ Q_utf8_Valid_10_0 m xs x3 k0 = k0 ys x3
  | 0, xs, _, h => absurd h (by omega)
  | m + 1, xs, hf, hl => by
    show ∃ ys, fitB ys = true ∧ ys.length ≤ xs.length ∧ valid ys = valid xs ∧ P_utf8_Valid_10_0 xs x3 _ k0 = k0 ys x3
    unfold P_utf8_Valid_10_0
    by_cases h32 : ((xs.length : Nat) : Int) > 32
    · simp (disch := omega) only [decide_eq_true, decide_eq_false, Bool.true_and, cond_true, List.length_drop, Nat.ble_eq_true_of_le]
      cases hm : (band .u64 (bor .u64 (bor .u64 (w8 xs) (w8 (List.drop 8 xs))) (bor .u64 (w8 (List.drop 16 xs)) (w8 (List.drop 24 xs)))) (9259542123273814144 : Int) == (0 : Int)) with
      | false => exact ⟨xs, hf, Nat.le_refl _, rfl, rfl⟩
      | true =>
        obtain ⟨a1, a2, a3, a4⟩ := mask4 hf (fitB_drop hf 8) (fitB_drop hf 16) (fitB_drop hf 24) hm
        have a := ascii_more (n := 24) (ascii_more (n := 16) (ascii_more (n := 8) a1 a2) a3) a4
        obtain ⟨ys, g1, g2, g3, g4⟩ := loop10 k0 x3 m (List.drop 32 xs) (fitB_drop hf 32) (by simp; omega)
        exact ⟨ys, g1, by simp at g2; omega, g3.trans (valid_drop 32 (by omega) a), g4⟩
    · rw [decide_eq_false h32]
      exact ⟨xs, hf, Nat.le_refl _, rfl, rfl⟩
theorem step2 (x0 : List Int) (hx : fitB x0 = true) (nx : List Int → Option Ret) (k0 : Bool → Option Ret) (k1 RES : Option Ret)
    (hn : ∀ ys, fitB ys = true → ys.length < x0.length → valid ys = valid x0 → nx ys = RES) (h1 : valid x0 = true → k1 = RES) (h0 : valid x0 = false → k0 false = RES) : P_utf8_Valid_2_0 x0 nx k0 k1 = RES := by
  unfold P_utf8_Valid_2_0
  by_cases hl : ((x0.length : Nat) : Int) > 0
  case neg =>
    rw [decide_eq_false hl]
    have : x0 = [] := List.length_eq_zero_iff.1 (by omega)
    exact h1 (by rw [this]; exact valid_nil)
  case pos =>
  have hb := fitB_get hx 0
  by_cases hb1 : x0.getD 0 0 < 128
  · have hd : ∀ n, 1 ≤ n → n ≤ x0.length → (∀ i, i < n → x0.getD i 0 < 128) → nx (x0.drop n) = RES := fun n hn1 hn2 ha => hn _ (fitB_drop hx n) (by simp; omega) (valid_drop n hn2 ha)
    have a0 : ∀ i, i < 1 → x0.getD i 0 < 128 := fun i hi => by rw [show i = 0 by omega]; exact hb1
    simp (disch := omega) only [decide_eq_true, Bool.true_and, cond_true, List.length_drop, List.drop_drop]
    by_cases h9 : ((x0.length - 1 : Nat) : Int) > 8
    case neg => rw [decide_eq_false h9]; exact hd 1 (by omega) (by omega) a0
    rw [decide_eq_true h9, Nat.ble_eq_true_of_le (show 8 ≤ x0.length - 1 by omega)]
    cases hm : (band .u64 (w8 (List.drop 1 x0)) (9259542123273814144 : Int) == (0 : Int)) with
    | false => exact hd 1 (by omega) (by omega) a0
    | true =>
    have a9 := ascii_more a0 (mask1 (fitB_drop hx 1) hm)
    rw [decide_eq_true (show (8 : Int) ≤ ((x0.length - 1 : Nat) : Int) by omega)]
    simp only [cond_true]
    by_cases h17 : ((x0.length - (1 + 8) : Nat) : Int) > 16
    case neg => rw [decide_eq_false h17]; exact hd 9 (by omega) (by omega) a9
    simp (disch := omega) only [decide_eq_true, Nat.ble_eq_true_of_le, Bool.true_and, cond_true]
    cases hm2 : (band .u64 (bor .u64 (w8 (List.drop (1 + 8) x0)) (w8 (List.drop (1 + 8 + 8) x0))) (9259542123273814144 : Int) == (0 : Int)) with
    | false => exact hd 9 (by omega) (by omega) a9
    | true =>
    obtain ⟨m1, m2⟩ := mask2 (fitB_drop hx _) (fitB_drop hx _) hm2
    have a25 := ascii_more (ascii_more a9 m1) m2
    unfold R_utf8_Valid_10_0
    obtain ⟨ys, g1, g2, g3, g4⟩ := loop10 (fun y0 y1 => nx y0) (x0.getD 0 0) ((List.drop (1 + 8 + 16) x0).length + (x0.getD 0 0).toNat + 2) (List.drop (1 + 8 + 16) x0) (fitB_drop hx _) (by omega)
    refine g4.trans (hn ys g1 ?_ (g3.trans (valid_drop 25 (by omega) a25)))
    simp at g2; omega
  · have hsh := first_sh hb.1 hb.2
    have hlen := first_len
    have hacc := accept_len
    have e1 : shrI .u8 (List.getD utfFirst (Int.toNat (List.getD x0 0 (0 : Int))) (0 : Int)) (4 : Int) = fsh (x0.getD 0 0) := rfl
    have e2 : IntKind.wrap .i64 (band .u8 (List.getD utfFirst (Int.toNat (List.getD x0 0 (0 : Int))) (0 : Int)) (7 : Int)) = fsz (x0.getD 0 0) := rfl
    have e3 : List.getD utfAccept (Int.toNat (fsh (x0.getD 0 0))) (Seat.accR.dflt) = fac (x0.getD 0 0) := rfl
    rw [e1, e2, e3]
    have c1 : Nat.blt (Int.toNat (List.getD x0 0 (0 : Int))) (List.length utfFirst) = true := by rw [hlen, Nat.blt_eq]; omega
    have c2 : Nat.blt (Int.toNat (fsh (x0.getD 0 0))) (List.length utfAccept) = true := by rw [hacc, Nat.blt_eq]; omega
    rw [c1, c2]
    simp (disch := omega) only [decide_eq_true, decide_eq_false, Bool.true_and, cond_true, cond_false]
    have stop : runeSz x0 = 0 → k0 false = RES := fun h => h0 (valid_stop h (by omega))
    have go : ∀ n, runeSz x0 = n → 1 ≤ n → nx (x0.drop n) = RES := fun n h hn1 => by
      subst h
      exact hn _ (fitB_drop hx _) (by have := runeSz_le x0; simp; omega) (valid_step (by omega)).symm
    by_cases r1 : x0.getD 0 0 < 194 ∨ 245 ≤ x0.getD 0 0
    · rw [first_1 (by omega) hb.2 r1]
      refine stop ?_
      unfold runeSz
      repeat' split
      all_goals first | omega | rfl
    by_cases r2 : x0.getD 0 0 < 224
    · obtain ⟨f1, f2⟩ := first_2 (by omega) r2
      rw [f1, f2]
      have er : runeSz x0 = if 2 ≤ x0.length ∧ 128 ≤ x0.getD 1 0 ∧ x0.getD 1 0 ≤ 191 then 2 else 0 := by
        unfold runeSz; rw [if_neg (by omega), if_neg (by omega), if_neg (by omega), if_pos r2]
      simp only [BEq.rfl, cond_true]
      by_cases c : ((x0.length : Nat) : Int) < 2
      · rw [decide_eq_true c]; exact stop (by rw [er, if_neg (by omega)])
      rw [decide_eq_false c, decide_eq_true (show (1 : Int) < ((x0.length : Nat) : Int) by omega)]
      simp only [cond_true, cond_false]
      by_cases d1 : x0.getD 1 0 < 128
      · rw [decide_eq_true d1]; exact stop (by rw [er, if_neg (by omega)])
      by_cases d2 : 191 < x0.getD 1 0
      · rw [decide_eq_false d1, decide_eq_true d2]; exact stop (by rw [er, if_neg (by omega)])
      rw [decide_eq_false d1, decide_eq_false d2, decide_eq_true (show (2 : Int) ≤ ((x0.length : Nat) : Int) by omega)]
      exact go 2 (by rw [er, if_pos (by omega)]) (by omega)
    by_cases r3 : x0.getD 0 0 < 240
    · obtain ⟨f1, f2⟩ := first_3 (by omega) r3
      rw [f1, f2]
      have er : runeSz x0 = if 3 ≤ x0.length ∧ lo3 (x0.getD 0 0) ≤ x0.getD 1 0 ∧ x0.getD 1 0 ≤ hi3 (x0.getD 0 0) ∧ 128 ≤ x0.getD 2 0 ∧ x0.getD 2 0 ≤ 191 then 3 else 0 := by
        unfold runeSz; rw [if_neg (by omega), if_neg (by omega), if_neg (by omega), if_neg (by omega), if_pos r3]
      rw [show ((3 : Int) == 2) = false from rfl]
      simp only [BEq.rfl, cond_true, cond_false]
      by_cases c : ((x0.length : Nat) : Int) < 3
      · rw [decide_eq_true c]; exact stop (by rw [er, if_neg (by omega)])
      rw [decide_eq_false c, decide_eq_true (show (1 : Int) < ((x0.length : Nat) : Int) by omega), decide_eq_true (show (2 : Int) < ((x0.length : Nat) : Int) by omega), decide_eq_true (show (3 : Int) ≤ ((x0.length : Nat) : Int) by omega)]
      simp only [cond_true, cond_false]
      by_cases d1 : x0.getD 1 0 < lo3 (x0.getD 0 0)
      · rw [decide_eq_true d1]; exact stop (by rw [er, if_neg (by omega)])
      by_cases d2 : hi3 (x0.getD 0 0) < x0.getD 1 0
      · rw [decide_eq_false d1, decide_eq_true d2]; exact stop (by rw [er, if_neg (by omega)])
      by_cases d3 : x0.getD 2 0 < 128
      · rw [decide_eq_false d1, decide_eq_false d2, decide_eq_true d3]; exact stop (by rw [er, if_neg (by omega)])
      by_cases d4 : 191 < x0.getD 2 0
      · rw [decide_eq_false d1, decide_eq_false d2, decide_eq_false d3, decide_eq_true d4]; exact stop (by rw [er, if_neg (by omega)])
      rw [decide_eq_false d1, decide_eq_false d2, decide_eq_false d3, decide_eq_false d4]
      exact go 3 (by rw [er, if_pos (by omega)]) (by omega)
    · obtain ⟨f1, f2⟩ := first_4 (b := x0.getD 0 0) (by omega) (by omega)
      rw [f1, f2]
      have er : runeSz x0 = if 4 ≤ x0.length ∧ lo4 (x0.getD 0 0) ≤ x0.getD 1 0 ∧ x0.getD 1 0 ≤ hi4 (x0.getD 0 0) ∧ 128 ≤ x0.getD 2 0 ∧ x0.getD 2 0 ≤ 191 ∧ 128 ≤ x0.getD 3 0 ∧ x0.getD 3 0 ≤ 191 then 4 else 0 := by
        unfold runeSz; rw [if_neg (by omega), if_neg (by omega), if_neg (by omega), if_neg (by omega), if_neg r3, if_pos (by omega)]
      rw [show ((4 : Int) == 2) = false from rfl, show ((4 : Int) == 3) = false from rfl]
      simp only [BEq.rfl, cond_true, cond_false]
      by_cases c : ((x0.length : Nat) : Int) < 4
      · rw [decide_eq_true c]; exact stop (by rw [er, if_neg (by omega)])
      rw [decide_eq_false c, decide_eq_true (show (1 : Int) < ((x0.length : Nat) : Int) by omega), decide_eq_true (show (2 : Int) < ((x0.length : Nat) : Int) by omega), decide_eq_true (show (3 : Int) < ((x0.length : Nat) : Int) by omega), decide_eq_true (show (4 : Int) ≤ ((x0.length : Nat) : Int) by omega)]
      simp only [cond_true, cond_false]
      by_cases d1 : x0.getD 1 0 < lo4 (x0.getD 0 0)
      · rw [decide_eq_true d1]; exact stop (by rw [er, if_neg (by omega)])
      by_cases d2 : hi4 (x0.getD 0 0) < x0.getD 1 0
      · rw [decide_eq_false d1, decide_eq_true d2]; exact stop (by rw [er, if_neg (by omega)])
      by_cases d3 : x0.getD 2 0 < 128
      · rw [decide_eq_false d1, decide_eq_false d2, decide_eq_true d3]; exact stop (by rw [er, if_neg (by omega)])
      by_cases d4 : 191 < x0.getD 2 0
      · rw [decide_eq_false d1, decide_eq_false d2, decide_eq_false d3, decide_eq_true d4]; exact stop (by rw [er, if_neg (by omega)])
      by_cases d5 : x0.getD 3 0 < 128
      · rw [decide_eq_false d1, decide_eq_false d2, decide_eq_false d3, decide_eq_false d4, decide_eq_true d5]; exact stop (by rw [er, if_neg (by omega)])
      by_cases d6 : 191 < x0.getD 3 0
      · rw [decide_eq_false d1, decide_eq_false d2, decide_eq_false d3, decide_eq_false d4, decide_eq_false d5, decide_eq_true d6]; exact stop (by rw [er, if_neg (by omega)])
      rw [decide_eq_false d1, decide_eq_false d2, decide_eq_false d3, decide_eq_false d4, decide_eq_false d5, decide_eq_false d6]
      exact go 4 (by rw [er, if_pos (by omega)]) (by omega)
theorem loop2 (k0 : Bool → Option Ret) (k1 : Option Ret) : ∀ (m : Nat) (xs : List Int), fitB xs = true → xs.length < m → Q_utf8_Valid_2_0 m xs k0 k1 = bif valid xs then k1 else k0 false
  | 0, xs, _, h => absurd h (by omega)
  | m + 1, xs, hf, hl => by
    show P_utf8_Valid_2_0 xs _ k0 k1 = _
    refine step2 xs hf _ k0 k1 _ (fun ys h1 h2 h3 => ?_) (fun h => by rw [h]; rfl) (fun h => by rw [h]; rfl)
    have := loop2 k0 k1 m ys h1 (by omega)
    rw [h3] at this
    exact this
def S_utf8_Valid : Sm := S_fnR [.l bytesR] (fun d => fitB d.1) (fun d => (bl (valid d.1), []))
theorem v_utf8_Valid (p : List Int) (h : (fitB p) = true) (K : Ret → Option Ret) : T_utf8_Valid p K = K (bl (valid p), []) := by
  unfold T_utf8_Valid R_utf8_Valid_2_0
  rw [decide_eq_true (Int.le_refl _), List.take_length]
  simp only [Bool.true_and, cond_true, List.drop_zero]
  rw [loop2 _ _ _ p h (by omega)]
  cases valid p <;> rfl
theorem okS_utf8_Valid : OkFn prog I N.utf8_Valid true S_utf8_Valid := okN (ok_fn (memc okS_utf8_word_bytes mem0) (l := ls_utf8_Valid) (p := pl_utf8_Valid) (ls := [(10, [0,3], [0,2,3], W_utf8_Valid_10), (2, [0], [2], W_utf8_Valid_2)]) (lend := []) (focus := false) (fuel := 0) (give := []) (fn := F.utf8_Valid) (by kernel_rfl) (by kernel_rfl) (by kernel_rfl) (by kernel_rfl) (cs := [bodyOf F.utf8_Valid 2, bodyOf F.utf8_Valid 10]) (by kernel_rfl) (loopsc loopK_utf8_Valid_2 (loopsc loopK_utf8_Valid_10 loops0))) (S_fnR_of fun d K h => (e_utf8_Valid d.1 K).trans (v_utf8_Valid d.1 h K))
end Go.Ev.Seat
end
section
/- i_isText: its contract. -/
namespace Go.Ev.Seat
open Go.RowKit
set_option maxRecDepth 100000
set_option linter.unusedVariables false
set_option linter.unusedSimpArgs false
noncomputable abbrev ls_i_isText : List (Nat × Bool × Sm) := [(N.utf8_Valid, true, S_utf8_Valid)]
noncomputable abbrev E_i_isText : Env := En ls_i_isText [] [] [] false 0 []
noncomputable def T_i_isText (t : List Int) (K : Ret → Option Ret) : Option Ret := (bif (decide ((((List.length t) : Nat) : Int) ≤ (400 : Int))) then (bif (fitB t) then K ((.s (.bool (valid t))), []) else none) else K ((.s (.bool false)), []))
theorem e_i_isText (t : List Int) (K : Ret → Option Ret) : evF E_i_isText true F.i_isText [.l .no bytesR t] K = T_i_isText t K := by kernel_rfl
def S_i_isText : Sm := S_fnR [.l bytesR] (fun d => fitB d.1) (fun d => (bl (textOk d.1), []))
theorem v_i_isText (t : List Int) (h : (fitB t) = true) (K : Ret → Option Ret) : T_i_isText t K = K (bl (textOk t), []) := by
  unfold T_i_isText textOk
  rw [h]
  by_cases hl : t.length ≤ 400
  · rw [decide_eq_true (show ((t.length : Nat) : Int) ≤ 400 by omega), Nat.ble_eq_true_of_le hl]; rfl
  · rw [decide_eq_false (show ¬ ((t.length : Nat) : Int) ≤ 400 by omega), Bool.eq_false_iff.2 (fun h => hl (Nat.le_of_ble_eq_true h))]; rfl
theorem okS_i_isText : OkFn prog I N.i_isText true S_i_isText := okN (ok_fn (memc okS_utf8_Valid mem0) (l := ls_i_isText) (p := []) (ls := []) (lend := []) (focus := false) (fuel := 0) (give := []) (fn := F.i_isText) (by kernel_rfl) (by kernel_rfl) (by kernel_rfl) (by kernel_rfl) (cs := []) (by kernel_rfl) loops0) (S_fnR_of fun d K h => (e_i_isText d.1 K).trans (v_i_isText d.1 h K))
end Go.Ev.Seat
end
section
/- i_isPut: its contract. -/
namespace Go.Ev.Seat
open Go.RowKit
set_option maxRecDepth 100000
set_option linter.unusedVariables false
set_option linter.unusedSimpArgs false
noncomputable abbrev ls_i_isPut : List (Nat × Bool × Sm) := [(N.i_isText, true, S_i_isText)]
noncomputable abbrev E_i_isPut : Env := En ls_i_isPut [] [] [] false 0 []
noncomputable def T_i_isPut (t : List Int) (K : Ret → Option Ret) : Option Ret := (bif (decide ((((List.length t) : Nat) : Int) ≤ (100 : Int))) then (bif (fitB t) then K ((.s (.bool (textOk t))), []) else none) else K ((.s (.bool false)), []))
theorem e_i_isPut (t : List Int) (K : Ret → Option Ret) : evF E_i_isPut true F.i_isPut [.l .no bytesR t] K = T_i_isPut t K := by kernel_rfl
def S_i_isPut : Sm := S_fnR [.l bytesR] (fun d => fitB d.1) (fun d => (bl (decide (((d.1.length : Nat) : Int) ≤ 100) && textOk d.1), []))
theorem v_i_isPut (t : List Int) (h : (fitB t) = true) (K : Ret → Option Ret) : T_i_isPut t K = K (bl (decide (((t.length : Nat) : Int) ≤ 100) && textOk t), []) := by
  unfold T_i_isPut
  rw [h]
  cases decide (((t.length : Nat) : Int) ≤ 100) <;> rfl
theorem okS_i_isPut : OkFn prog I N.i_isPut true S_i_isPut := okN (ok_fn (memc okS_i_isText mem0) (l := ls_i_isPut) (p := []) (ls := []) (lend := []) (focus := false) (fuel := 0) (give := []) (fn := F.i_isPut) (by kernel_rfl) (by kernel_rfl) (by kernel_rfl) (by kernel_rfl) (cs := []) (by kernel_rfl) loops0) (S_fnR_of fun d K h => (e_i_isPut d.1 K).trans (v_i_isPut d.1 h K))
end Go.Ev.Seat
end
section
/- i_isWord: its contract. -/
namespace Go.Ev.Seat
open Go.RowKit
set_option maxRecDepth 100000
set_option linter.unusedVariables false
set_option linter.unusedSimpArgs false
noncomputable abbrev ls_i_isWord : List (Nat × Bool × Sm) := [(N.i_in, true, S_i_in)]
noncomputable abbrev E_i_isWord : Env := En ls_i_isWord [] [] [] false 0 []
noncomputable def T_i_isWord (n : Int) (K : Ret → Option Ret) : Option Ret := K ((.s (.bool ((decide ((0 : Int) ≤ n)) && (decide (n ≤ (65535 : Int)))))), [])
theorem e_i_isWord (n : Int) (K : Ret → Option Ret) : evF E_i_isWord true F.i_isWord [.s (.int .i64 n)] K = T_i_isWord n K := by kernel_rfl
def S_i_isWord : Sm := S_fnR [.i] (fun d => true) (fun d => (bl (isWordD d.1), []))
theorem v_i_isWord (n : Int) (K : Ret → Option Ret) : T_i_isWord n K = K (bl (isWordD n), []) := rfl
theorem okS_i_isWord : OkFn prog I N.i_isWord true S_i_isWord := okN (ok_fn (memc okS_i_in mem0) (l := ls_i_isWord) (p := []) (ls := []) (lend := []) (focus := false) (fuel := 0) (give := []) (fn := F.i_isWord) (by kernel_rfl) (by kernel_rfl) (by kernel_rfl) (by kernel_rfl) (cs := []) (by kernel_rfl) loops0) (S_fnR_of fun d K h => (e_i_isWord d.1 K).trans (v_i_isWord d.1 K))
end Go.Ev.Seat
end
section
/- i_usedNumbers: its contract. -/
namespace Go.Ev.Seat
open Go.RowKit
set_option maxRecDepth 100000
set_option linter.unusedVariables false
set_option linter.unusedSimpArgs false
noncomputable abbrev E_i_usedNumbers : Env := En [] [] [] [] false 0 []
noncomputable def T_i_usedNumbers (k : Int) (K : Ret → Option Ret) : Option Ret := (bif (k == (3 : Int)) then (bif (k == (3 : Int)) then K ((.s (.int .i64 (1 : Int))), []) else (bif (k == (4 : Int)) then (bif (k == (4 : Int)) then K ((.s (.int .i64 (2 : Int))), []) else (bif (k == (12 : Int)) then (bif (k == (12 : Int)) then K ((.s (.int .i64 (3 : Int))), []) else K ((.s (.int .i64 (0 : Int))), [])) else (bif (k == (13 : Int)) then K ((.s (.int .i64 (3 : Int))), []) else K ((.s (.int .i64 (0 : Int))), [])))) else (bif (k == (5 : Int)) then (bif (k == (5 : Int)) then K ((.s (.int .i64 (2 : Int))), []) else (bif (k == (12 : Int)) then (bif (k == (12 : Int)) then K ((.s (.int .i64 (3 : Int))), []) else K ((.s (.int .i64 (0 : Int))), [])) else (bif (k == (13 : Int)) then K ((.s (.int .i64 (3 : Int))), []) else K ((.s (.int .i64 (0 : Int))), [])))) else (bif (k == (6 : Int)) then (bif (k == (6 : Int)) then K ((.s (.int .i64 (2 : Int))), []) else (bif (k == (12 : Int)) then (bif (k == (12 : Int)) then K ((.s (.int .i64 (3 : Int))), []) else K ((.s (.int .i64 (0 : Int))), [])) else (bif (k == (13 : Int)) then K ((.s (.int .i64 (3 : Int))), []) else K ((.s (.int .i64 (0 : Int))), [])))) else (bif (k == (10 : Int)) then (bif (k == (10 : Int)) then K ((.s (.int .i64 (2 : Int))), []) else (bif (k == (12 : Int)) then (bif (k == (12 : Int)) then K ((.s (.int .i64 (3 : Int))), []) else K ((.s (.int .i64 (0 : Int))), [])) else (bif (k == (13 : Int)) then K ((.s (.int .i64 (3 : Int))), []) else K ((.s (.int .i64 (0 : Int))), [])))) else (bif (k == (11 : Int)) then (bif (k == (11 : Int)) then K ((.s (.int .i64 (2 : Int))), []) else (bif (k == (12 : Int)) then (bif (k == (12 : Int)) then K ((.s (.int .i64 (3 : Int))), []) else K ((.s (.int .i64 (0 : Int))), [])) else (bif (k == (13 : Int)) then K ((.s (.int .i64 (3 : Int))), []) else K ((.s (.int .i64 (0 : Int))), [])))) else (bif (k == (14 : Int)) then K ((.s (.int .i64 (2 : Int))), []) else (bif (k == (12 : Int)) then (bif (k == (12 : Int)) then K ((.s (.int .i64 (3 : Int))), []) else K ((.s (.int .i64 (0 : Int))), [])) else (bif (k == (13 : Int)) then K ((.s (.int .i64 (3 : Int))), []) else K ((.s (.int .i64 (0 : Int))), [])))))))))) else (bif (k == (7 : Int)) then (bif (k == (7 : Int)) then K ((.s (.int .i64 (1 : Int))), []) else (bif (k == (4 : Int)) then (bif (k == (4 : Int)) then K ((.s (.int .i64 (2 : Int))), []) else (bif (k == (12 : Int)) then (bif (k == (12 : Int)) then K ((.s (.int .i64 (3 : Int))), []) else K ((.s (.int .i64 (0 : Int))), [])) else (bif (k == (13 : Int)) then K ((.s (.int .i64 (3 : Int))), []) else K ((.s (.int .i64 (0 : Int))), [])))) else (bif (k == (5 : Int)) then (bif (k == (5 : Int)) then K ((.s (.int .i64 (2 : Int))), []) else (bif (k == (12 : Int)) then (bif (k == (12 : Int)) then K ((.s (.int .i64 (3 : Int))), []) else K ((.s (.int .i64 (0 : Int))), [])) else (bif (k == (13 : Int)) then K ((.s (.int .i64 (3 : Int))), []) else K ((.s (.int .i64 (0 : Int))), [])))) else (bif (k == (6 : Int)) then (bif (k == (6 : Int)) then K ((.s (.int .i64 (2 : Int))), []) else (bif (k == (12 : Int)) then (bif (k == (12 : Int)) then K ((.s (.int .i64 (3 : Int))), []) else K ((.s (.int .i64 (0 : Int))), [])) else (bif (k == (13 : Int)) then K ((.s (.int .i64 (3 : Int))), []) else K ((.s (.int .i64 (0 : Int))), [])))) else (bif (k == (10 : Int)) then (bif (k == (10 : Int)) then K ((.s (.int .i64 (2 : Int))), []) else (bif (k == (12 : Int)) then (bif (k == (12 : Int)) then K ((.s (.int .i64 (3 : Int))), []) else K ((.s (.int .i64 (0 : Int))), [])) else (bif (k == (13 : Int)) then K ((.s (.int .i64 (3 : Int))), []) else K ((.s (.int .i64 (0 : Int))), [])))) else (bif (k == (11 : Int)) then (bif (k == (11 : Int)) then K ((.s (.int .i64 (2 : Int))), []) else (bif (k == (12 : Int)) then (bif (k == (12 : Int)) then K ((.s (.int .i64 (3 : Int))), []) else K ((.s (.int .i64 (0 : Int))), [])) else (bif (k == (13 : Int)) then K ((.s (.int .i64 (3 : Int))), []) else K ((.s (.int .i64 (0 : Int))), [])))) else (bif (k == (14 : Int)) then K ((.s (.int .i64 (2 : Int))), []) else (bif (k == (12 : Int)) then (bif (k == (12 : Int)) then K ((.s (.int .i64 (3 : Int))), []) else K ((.s (.int .i64 (0 : Int))), [])) else (bif (k == (13 : Int)) then K ((.s (.int .i64 (3 : Int))), []) else K ((.s (.int .i64 (0 : Int))), [])))))))))) else (bif (k == (8 : Int)) then (bif (k == (8 : Int)) then K ((.s (.int .i64 (1 : Int))), []) else (bif (k == (4 : Int)) then (bif (k == (4 : Int)) then K ((.s (.int .i64 (2 : Int))), []) else (bif (k == (12 : Int)) then (bif (k == (12 : Int)) then K ((.s (.int .i64 (3 : Int))), []) else K ((.s (.int .i64 (0 : Int))), [])) else (bif (k == (13 : Int)) then K ((.s (.int .i64 (3 : Int))), []) else K ((.s (.int .i64 (0 : Int))), [])))) else (bif (k == (5 : Int)) then (bif (k == (5 : Int)) then K ((.s (.int .i64 (2 : Int))), []) else (bif (k == (12 : Int)) then (bif (k == (12 : Int)) then K ((.s (.int .i64 (3 : Int))), []) else K ((.s (.int .i64 (0 : Int))), [])) else (bif (k == (13 : Int)) then K ((.s (.int .i64 (3 : Int))), []) else K ((.s (.int .i64 (0 : Int))), [])))) else (bif (k == (6 : Int)) then (bif (k == (6 : Int)) then K ((.s (.int .i64 (2 : Int))), []) else (bif (k == (12 : Int)) then (bif (k == (12 : Int)) then K ((.s (.int .i64 (3 : Int))), []) else K ((.s (.int .i64 (0 : Int))), [])) else (bif (k == (13 : Int)) then K ((.s (.int .i64 (3 : Int))), []) else K ((.s (.int .i64 (0 : Int))), [])))) else (bif (k == (10 : Int)) then (bif (k == (10 : Int)) then K ((.s (.int .i64 (2 : Int))), []) else (bif (k == (12 : Int)) then (bif (k == (12 : Int)) then K ((.s (.int .i64 (3 : Int))), []) else K ((.s (.int .i64 (0 : Int))), [])) else (bif (k == (13 : Int)) then K ((.s (.int .i64 (3 : Int))), []) else K ((.s (.int .i64 (0 : Int))), [])))) else (bif (k == (11 : Int)) then (bif (k == (11 : Int)) then K ((.s (.int .i64 (2 : Int))), []) else (bif (k == (12 : Int)) then (bif (k == (12 : Int)) then K ((.s (.int .i64 (3 : Int))), []) else K ((.s (.int .i64 (0 : Int))), [])) else (bif (k == (13 : Int)) then K ((.s (.int .i64 (3 : Int))), []) else K ((.s (.int .i64 (0 : Int))), [])))) else (bif (k == (14 : Int)) then K ((.s (.int .i64 (2 : Int))), []) else (bif (k == (12 : Int)) then (bif (k == (12 : Int)) then K ((.s (.int .i64 (3 : Int))), []) else K ((.s (.int .i64 (0 : Int))), [])) else (bif (k == (13 : Int)) then K ((.s (.int .i64 (3 : Int))), []) else K ((.s (.int .i64 (0 : Int))), [])))))))))) else (bif (k == (9 : Int)) then K ((.s (.int .i64 (1 : Int))), []) else (bif (k == (4 : Int)) then (bif (k == (4 : Int)) then K ((.s (.int .i64 (2 : Int))), []) else (bif (k == (12 : Int)) then (bif (k == (12 : Int)) then K ((.s (.int .i64 (3 : Int))), []) else K ((.s (.int .i64 (0 : Int))), [])) else (bif (k == (13 : Int)) then K ((.s (.int .i64 (3 : Int))), []) else K ((.s (.int .i64 (0 : Int))), [])))) else (bif (k == (5 : Int)) then (bif (k == (5 : Int)) then K ((.s (.int .i64 (2 : Int))), []) else (bif (k == (12 : Int)) then (bif (k == (12 : Int)) then K ((.s (.int .i64 (3 : Int))), []) else K ((.s (.int .i64 (0 : Int))), [])) else (bif (k == (13 : Int)) then K ((.s (.int .i64 (3 : Int))), []) else K ((.s (.int .i64 (0 : Int))), [])))) else (bif (k == (6 : Int)) then (bif (k == (6 : Int)) then K ((.s (.int .i64 (2 : Int))), []) else (bif (k == (12 : Int)) then (bif (k == (12 : Int)) then K ((.s (.int .i64 (3 : Int))), []) else K ((.s (.int .i64 (0 : Int))), [])) else (bif (k == (13 : Int)) then K ((.s (.int .i64 (3 : Int))), []) else K ((.s (.int .i64 (0 : Int))), [])))) else (bif (k == (10 : Int)) then (bif (k == (10 : Int)) then K ((.s (.int .i64 (2 : Int))), []) else (bif (k == (12 : Int)) then (bif (k == (12 : Int)) then K ((.s (.int .i64 (3 : Int))), []) else K ((.s (.int .i64 (0 : Int))), [])) else (bif (k == (13 : Int)) then K ((.s (.int .i64 (3 : Int))), []) else K ((.s (.int .i64 (0 : Int))), [])))) else (bif (k == (11 : Int)) then (bif (k == (11 : Int)) then K ((.s (.int .i64 (2 : Int))), []) else (bif (k == (12 : Int)) then (bif (k == (12 : Int)) then K ((.s (.int .i64 (3 : Int))), []) else K ((.s (.int .i64 (0 : Int))), [])) else (bif (k == (13 : Int)) then K ((.s (.int .i64 (3 : Int))), []) else K ((.s (.int .i64 (0 : Int))), [])))) else (bif (k == (14 : Int)) then K ((.s (.int .i64 (2 : Int))), []) else (bif (k == (12 : Int)) then (bif (k == (12 : Int)) then K ((.s (.int .i64 (3 : Int))), []) else K ((.s (.int .i64 (0 : Int))), [])) else (bif (k == (13 : Int)) then K ((.s (.int .i64 (3 : Int))), []) else K ((.s (.int .i64 (0 : Int))), [])))))))))))))
theorem e_i_usedNumbers (k : Int) (K : Ret → Option Ret) : evF E_i_usedNumbers true F.i_usedNumbers [.s (.int .i64 k)] K = T_i_usedNumbers k K := by kernel_rfl
def S_i_usedNumbers : Sm := S_fnR [.i] (fun d => true) (fun d => (.s (.int .i64 (usedD d.1)), []))
theorem v_i_usedNumbers (k : Int) (K : Ret → Option Ret) : T_i_usedNumbers k K = K (.s (.int .i64 (usedD k)), []) := by
  unfold T_i_usedNumbers
  by_cases h3 : k = 3
  · subst h3; rfl
  by_cases h7 : k = 7
  · subst h7; rfl
  by_cases h8 : k = 8
  · subst h8; rfl
  by_cases h9 : k = 9
  · subst h9; rfl
  by_cases h4 : k = 4
  · subst h4; rfl
  by_cases h5 : k = 5
  · subst h5; rfl
  by_cases h6 : k = 6
  · subst h6; rfl
  by_cases h10 : k = 10
  · subst h10; rfl
  by_cases h11 : k = 11
  · subst h11; rfl
  by_cases h14 : k = 14
  · subst h14; rfl
  by_cases h12 : k = 12
  · subst h12; rfl
  by_cases h13 : k = 13
  · subst h13; rfl
  have e : ∀ c, k ≠ c → (k == c) = false := fun c h => by simpa using h
  unfold usedD
  simp only [e _ h3, e _ h7, e _ h8, e _ h9, e _ h4, e _ h5, e _ h6, e _ h10, e _ h11, e _ h14, e _ h12, e _ h13, cond_false, Bool.or_false]
theorem okS_i_usedNumbers : OkFn prog I N.i_usedNumbers true S_i_usedNumbers := okN (ok_fn mem0 (l := []) (p := []) (ls := []) (lend := []) (focus := false) (fuel := 0) (give := []) (fn := F.i_usedNumbers) (by kernel_rfl) (by kernel_rfl) (by kernel_rfl) (by kernel_rfl) (cs := []) (by kernel_rfl) loops0) (S_fnR_of fun d K h => (e_i_usedNumbers d.1 K).trans (v_i_usedNumbers d.1 K))
end Go.Ev.Seat
end
section
/- i_isReq: its contract. -/
namespace Go.Ev.Seat
open Go.RowKit
set_option maxRecDepth 100000
set_option linter.unusedVariables false
set_option linter.unusedSimpArgs false
def z_i_isReq_4_0 (x2 : Bool) (b00 : Int) (b01 : Int) (b02 : Int) (b03 : Int) (b04 : Int) (b05 : List Int) : St := { tm := ([.x, (.pb 0 0), (.s (.bool x2))] ++ List.replicate 62 .x), ob := [(0, (.box [(.s (.int .i64 b00)), (.s (.int .i64 b01)), (.s (.int .i64 b02)), (.s (.int .i64 b03)), (.s (.int .i64 b04)), (.l .no bytesR b05)]))], nx := 1, io := [] }
def z_i_isReq_4_1 (b00 : Int) (b01 : Int) (b02 : Int) (b03 : Int) (b04 : Int) (b05 : List Int) : St := { tm := ([.x, (.pb 0 0)] ++ List.replicate 63 .x), ob := [(0, (.box [(.s (.int .i64 b00)), (.s (.int .i64 b01)), (.s (.int .i64 b02)), (.s (.int .i64 b03)), (.s (.int .i64 b04)), (.l .no bytesR b05)]))], nx := 1, io := [] }
def sh_i_isReq_4_0 : Ss := { tm := (.cons (.x) (.cons (.pb 0 0) (.cons (.x) (.cons (.x) (.cons (.x) (.cons (.x) (.cons (.x) (.cons (.x) (.cons (.x) (.cons (.x) (.cons (.x) (.cons (.x) (.cons (.x) (.cons (.x) (.cons (.x) (.cons (.x) (.cons (.x) (.cons (.x) (.cons (.x) (.cons (.x) (.cons (.x) (.cons (.x) (.cons (.x) (.cons (.x) (.cons (.x) (.cons (.x) (.cons (.x) (.cons (.w 1) (.cons (.int .i64) (.cons (.int .i64) (xsh 35))))))))))))))))))))))))))))))), ob := (.box (.cons (.int .i64) (.cons (.int .i64) (.cons (.int .i64) (.cons (.int .i64) (.cons (.int .i64) (.cons (.l .no bytesR) .nil)))))) (.arr true true intR .nil)), nx := 2, io := .nil }
def d_i_isReq_4_0 (x28 : Int) (x29 : Int) (b00 : Int) (b01 : Int) (b02 : Int) (b03 : Int) (b04 : Int) (b05 : List Int) (o1 : List Int) : sh_i_isReq_4_0.T := (((), ((), ((), ((), ((), ((), ((), ((), ((), ((), ((), ((), ((), ((), ((), ((), ((), ((), ((), ((), ((), ((), ((), ((), ((), ((), ((), ((), (x28, (x29, xd 35)))))))))))))))))))))))))))))), ((b00, (b01, (b02, (b03, (b04, (b05, ())))))), (o1, ())), ())
def s_i_isReq_4_0 (x28 : Int) (x29 : Int) (b00 : Int) (b01 : Int) (b02 : Int) (b03 : Int) (b04 : Int) (b05 : List Int) (o1 : List Int) : St := { tm := ([.x, (.pb 0 0), .x, .x, .x, .x, .x, .x, .x, .x, .x, .x, .x, .x, .x, .x, .x, .x, .x, .x, .x, .x, .x, .x, .x, .x, .x, (.w 1), (.s (.int .i64 x28)), (.s (.int .i64 x29))] ++ List.replicate 35 .x), ob := [(0, (.box [(.s (.int .i64 b00)), (.s (.int .i64 b01)), (.s (.int .i64 b02)), (.s (.int .i64 b03)), (.s (.int .i64 b04)), (.l .no bytesR b05)])), (1, (.arr true true intR o1))], nx := 2, io := [] }
theorem se_i_isReq_4_0 (x28 : Int) (x29 : Int) (b00 : Int) (b01 : Int) (b02 : Int) (b03 : Int) (b04 : Int) (b05 : List Int) (o1 : List Int) : sh_i_isReq_4_0.mk' (d_i_isReq_4_0 x28 x29 b00 b01 b02 b03 b04 b05 o1) = (s_i_isReq_4_0 x28 x29 b00 b01 b02 b03 b04 b05 o1) := by kernel_rfl
def w_i_isReq_4_0 (d : sh_i_isReq_4_0.T) (f : Int → Int → Int → Int → Int → Int → Int → (List Int) → (List Int) → Option Ret) : Option Ret := match d with | ((_, (_, (_, (_, (_, (_, (_, (_, (_, (_, (_, (_, (_, (_, (_, (_, (_, (_, (_, (_, (_, (_, (_, (_, (_, (_, (_, (_, (x28, (x29, _)))))))))))))))))))))))))))))), ((b00, (b01, (b02, (b03, (b04, (b05, _)))))), (o1, _)), _) => f x28 x29 b00 b01 b02 b03 b04 b05 o1
noncomputable def P_i_isReq_4_0 (x28 : Int) (x29 : Int) (b00 : Int) (b01 : Int) (b02 : Int) (b03 : Int) (b04 : Int) (b05 : List Int) (o1 : List Int) (nx0 : Int → Int → Int → Int → Int → Int → Int → (List Int) → (List Int) → Option Ret) (k0 : Bool → Int → Int → Int → Int → Int → (List Int) → Option Ret) (k1 : Int → Int → Int → Int → Int → (List Int) → Option Ret) : Option Ret := (bif (decide (x29 < x28)) then (bif ((decide ((0 : Int) ≤ x29)) && (decide (x29 < (((List.length o1) : Nat) : Int)))) then (bif (!(isWordD (List.getD o1 (Int.toNat x29) (0 : Int)))) then (k0 false b00 b01 b02 b03 b04 b05) else (bif (decide (x29 ≥ (usedD b00))) then (bif ((List.getD o1 (Int.toNat x29) (0 : Int)) != (0 : Int)) then (k0 false b00 b01 b02 b03 b04 b05) else (nx0 x28 (IntKind.wrap .i64 (x29 + (1 : Int))) b00 b01 b02 b03 b04 b05 o1)) else (nx0 x28 (IntKind.wrap .i64 (x29 + (1 : Int))) b00 b01 b02 b03 b04 b05 o1))) else none) else (k1 b00 b01 b02 b03 b04 b05))
noncomputable def Q_i_isReq_4_0 : Nat → Int → Int → Int → Int → Int → Int → Int → (List Int) → (List Int) → (Bool → Int → Int → Int → Int → Int → (List Int) → Option Ret) → (Int → Int → Int → Int → Int → (List Int) → Option Ret) → Option Ret
  | 0, _, _, _, _, _, _, _, _, _, _, _ => none
  | m + 1, x28, x29, b00, b01, b02, b03, b04, b05, o1, k0, k1 => P_i_isReq_4_0 x28 x29 b00 b01 b02 b03 b04 b05 o1 (fun x28 x29 b00 b01 b02 b03 b04 b05 o1 => (Q_i_isReq_4_0 m x28 x29 b00 b01 b02 b03 b04 b05 o1 k0 k1)) k0 k1
noncomputable def R_i_isReq_4_0 (x28 : Int) (x29 : Int) (b00 : Int) (b01 : Int) (b02 : Int) (b03 : Int) (b04 : Int) (b05 : List Int) (o1 : List Int) (k0 : Bool → Int → Int → Int → Int → Int → (List Int) → Option Ret) (k1 : Int → Int → Int → Int → Int → (List Int) → Option Ret) : Option Ret := Q_i_isReq_4_0 (x28.toNat + x29.toNat + b00.toNat + b01.toNat + b02.toNat + b03.toNat + b04.toNat + List.length b05 + List.length o1 + 2) x28 x29 b00 b01 b02 b03 b04 b05 o1 k0 k1
noncomputable def W_i_isReq_4 : LoopFn := (fun (σ : St) (K : Ex → St → Option Ret) => (match sh_i_isReq_4_0.un σ with | some d => w_i_isReq_4_0 d (fun x28 x29 b00 b01 b02 b03 b04 b05 o1 => R_i_isReq_4_0 x28 x29 b00 b01 b02 b03 b04 b05 o1 (fun x2 b00 b01 b02 b03 b04 b05 => (K .ret (z_i_isReq_4_0 x2 b00 b01 b02 b03 b04 b05))) (fun b00 b01 b02 b03 b04 b05 => (K (.ext 0) (z_i_isReq_4_1 b00 b01 b02 b03 b04 b05)))) | none => none))
noncomputable abbrev ls_i_isReq : List (Nat × Bool × Sm) := [(N.i_in, true, S_i_in), (N.i_isSession, true, S_i_isSession), (N.i_isPut, true, S_i_isPut), (N.i_isWord, true, S_i_isWord), (N.i_usedNumbers, true, S_i_usedNumbers)]
noncomputable abbrev E_i_isReq : Env := En ls_i_isReq [] [(4, [1,27,28,29], [1,2], W_i_isReq_4)] [] false 0 []
noncomputable abbrev U_i_isReq_4 := rounds (run E_i_isReq (bodyOf F.i_isReq 4)) [1,27,28,29] [1,2]
theorem st_i_isReq_4_0 (m : Nat) (x28 : Int) (x29 : Int) (b00 : Int) (b01 : Int) (b02 : Int) (b03 : Int) (b04 : Int) (b05 : List Int) (o1 : List Int) (K : Ex → St → Option Ret) : U_i_isReq_4 (m + 1) (s_i_isReq_4_0 x28 x29 b00 b01 b02 b03 b04 b05 o1) K = P_i_isReq_4_0 x28 x29 b00 b01 b02 b03 b04 b05 o1 (fun x28 x29 b00 b01 b02 b03 b04 b05 o1 => (U_i_isReq_4 m (s_i_isReq_4_0 x28 x29 b00 b01 b02 b03 b04 b05 o1) K)) (fun x2 b00 b01 b02 b03 b04 b05 => (K .ret (z_i_isReq_4_0 x2 b00 b01 b02 b03 b04 b05))) (fun b00 b01 b02 b03 b04 b05 => (K (.ext 0) (z_i_isReq_4_1 b00 b01 b02 b03 b04 b05))) := by kernel_rfl
theorem q_i_isReq_4 (K : Ex → St → Option Ret) : ∀ m : Nat, (∀ (x28 : Int) (x29 : Int) (b00 : Int) (b01 : Int) (b02 : Int) (b03 : Int) (b04 : Int) (b05 : List Int) (o1 : List Int), U_i_isReq_4 m (s_i_isReq_4_0 x28 x29 b00 b01 b02 b03 b04 b05 o1) K = Q_i_isReq_4_0 m x28 x29 b00 b01 b02 b03 b04 b05 o1 (fun x2 b00 b01 b02 b03 b04 b05 => (K .ret (z_i_isReq_4_0 x2 b00 b01 b02 b03 b04 b05))) (fun b00 b01 b02 b03 b04 b05 => (K (.ext 0) (z_i_isReq_4_1 b00 b01 b02 b03 b04 b05))))
  | 0 => (fun _ _ _ _ _ _ _ _ _ => rfl)
  | m + 1 => (fun x28 x29 b00 b01 b02 b03 b04 b05 o1 => (by rw [st_i_isReq_4_0, show (fun x28 x29 b00 b01 b02 b03 b04 b05 o1 => (U_i_isReq_4 m (s_i_isReq_4_0 x28 x29 b00 b01 b02 b03 b04 b05 o1) K)) = (fun x28 x29 b00 b01 b02 b03 b04 b05 o1 => (Q_i_isReq_4_0 m x28 x29 b00 b01 b02 b03 b04 b05 o1 (fun x2 b00 b01 b02 b03 b04 b05 => (K .ret (z_i_isReq_4_0 x2 b00 b01 b02 b03 b04 b05))) (fun b00 b01 b02 b03 b04 b05 => (K (.ext 0) (z_i_isReq_4_1 b00 b01 b02 b03 b04 b05))))) from funext fun x28 => funext fun x29 => funext fun b00 => funext fun b01 => funext fun b02 => funext fun b03 => funext fun b04 => funext fun b05 => funext fun o1 => (q_i_isReq_4 K m) x28 x29 b00 b01 b02 b03 b04 b05 o1]; rfl))
theorem loopK_i_isReq_4 : LoopOk E_i_isReq (bodyOf F.i_isReq 4) := by
  refine loopW_ok (n := 4) (F := W_i_isReq_4) (by kernel_rfl) rfl (li := [1,27,28,29]) (lo := [1,2]) rfl (fun σ K r hr => ?_)
  unfold W_i_isReq_4 at hr
  split at hr
  · rename_i d hd
    rw [Ss.un_mk hd]
    exact ⟨_, ((congrArg (fun z => U_i_isReq_4 _ z K) (se_i_isReq_4_0 _ _ _ _ _ _ _ _ _)).trans ((q_i_isReq_4 K _) _ _ _ _ _ _ _ _ _)).trans hr⟩
  · cases hr
noncomputable def T_i_isReq (r : T_Req) (K : Ret → Option Ret) : Option Ret := (bif (!((decide ((1 : Int) ≤ r.1)) && (decide (r.1 ≤ (16 : Int))))) then K ((.s (.bool false)), []) else (bif (!((decide ((1 : Int) ≤ r.2.1)) && (decide (r.2.1 ≤ (8 : Int))))) then K ((.s (.bool false)), []) else (bif (fitB r.2.2.2.2.2) then (bif (!((decide ((((List.length r.2.2.2.2.2) : Nat) : Int) ≤ (100 : Int))) && (textOk r.2.2.2.2.2))) then K ((.s (.bool false)), []) else (R_i_isReq_4_0 (((List.length (r.2.2.1 :: (r.2.2.2.1 :: (r.2.2.2.2.1 :: ([] : List Int))))) : Nat) : Int) (0 : Int) r.1 r.2.1 r.2.2.1 r.2.2.2.1 r.2.2.2.2.1 r.2.2.2.2.2 (r.2.2.1 :: (r.2.2.2.1 :: (r.2.2.2.2.1 :: ([] : List Int)))) (fun y0 y1 y2 y3 y4 y5 y6 => K ((.s (.bool y0)), [])) (fun y7 y8 y9 y10 y11 y12 => (bif (y7 == (3 : Int)) then (bif (y7 == (3 : Int)) then K ((.s (.bool true)), []) else (bif (y7 == (7 : Int)) then (bif (y7 == (7 : Int)) then K ((.s (.bool (decide ((((List.length y12) : Nat) : Int) > (0 : Int))))), []) else K ((.s (.bool ((((List.length y12) : Nat) : Int) == (0 : Int)))), [])) else (bif (y7 == (8 : Int)) then K ((.s (.bool (decide ((((List.length y12) : Nat) : Int) > (0 : Int))))), []) else K ((.s (.bool ((((List.length y12) : Nat) : Int) == (0 : Int)))), [])))) else (bif (y7 == (5 : Int)) then K ((.s (.bool true)), []) else (bif (y7 == (7 : Int)) then (bif (y7 == (7 : Int)) then K ((.s (.bool (decide ((((List.length y12) : Nat) : Int) > (0 : Int))))), []) else K ((.s (.bool ((((List.length y12) : Nat) : Int) == (0 : Int)))), [])) else (bif (y7 == (8 : Int)) then K ((.s (.bool (decide ((((List.length y12) : Nat) : Int) > (0 : Int))))), []) else K ((.s (.bool ((((List.length y12) : Nat) : Int) == (0 : Int)))), [])))))))) else none)))
theorem e_i_isReq (r : T_Req) (K : Ret → Option Ret) : evF E_i_isReq true F.i_isReq [.a (reqR.cells .no r)] K = T_i_isReq r K := by kernel_rfl
def S_i_isReq : Sm := S_fnR [.a reqR] (fun d => fitB d.1.2.2.2.2.2) (fun d => (bl (reqOkD d.1), []))
theorem v_i_isReq (r : T_Req) (h : (fitB r.2.2.2.2.2) = true) (K : Ret → Option Ret) : T_i_isReq r K = K (bl (reqOkD r), []) := by
  obtain ⟨k, s, a, b, d, t⟩ := r
  unfold T_i_isReq reqOkD
  simp only [h]
  cases hk : (decide (1 ≤ k) && decide (k ≤ 16)) with
  | false => rfl
  | true =>
  cases hs : (decide (1 ≤ s) && decide (s ≤ 8)) with
  | false => rfl
  | true =>
  cases hp : (decide (((t.length : Nat) : Int) ≤ 100) && textOk t) with
  | false => rfl
  | true =>
  rw [Bool.and_eq_true, decide_eq_true_iff, decide_eq_true_iff] at hk
  have hk := kinds hk.1 hk.2
  unfold R_i_isReq_4_0
  generalize hF : (_ + 2 : Nat) = F
  obtain ⟨m, rfl⟩ : ∃ m, F = m + 4 := ⟨F - 4, by simp only [List.length_cons, List.length_nil] at hF; omega⟩
  have q : ∀ (k0 : Bool → Int → Int → Int → Int → Int → List Int → Option Ret) (k1 : Int → Int → Int → Int → Int → List Int → Option Ret), Q_i_isReq_4_0 (m + 4) 3 0 k s a b d t [a, b, d] k0 k1 =
      (bif !isWordD a then k0 false k s a b d t else bif decide ((0 : Int) ≥ usedD k) then (bif a != 0 then k0 false k s a b d t else
       (bif !isWordD b then k0 false k s a b d t else bif decide ((1 : Int) ≥ usedD k) then (bif b != 0 then k0 false k s a b d t else
        (bif !isWordD d then k0 false k s a b d t else bif decide ((2 : Int) ≥ usedD k) then (bif d != 0 then k0 false k s a b d t else k1 k s a b d t) else k1 k s a b d t)) else
        (bif !isWordD d then k0 false k s a b d t else bif decide ((2 : Int) ≥ usedD k) then (bif d != 0 then k0 false k s a b d t else k1 k s a b d t) else k1 k s a b d t))) else
       (bif !isWordD b then k0 false k s a b d t else bif decide ((1 : Int) ≥ usedD k) then (bif b != 0 then k0 false k s a b d t else
        (bif !isWordD d then k0 false k s a b d t else bif decide ((2 : Int) ≥ usedD k) then (bif d != 0 then k0 false k s a b d t else k1 k s a b d t) else k1 k s a b d t)) else
        (bif !isWordD d then k0 false k s a b d t else bif decide ((2 : Int) ≥ usedD k) then (bif d != 0 then k0 false k s a b d t else k1 k s a b d t) else k1 k s a b d t))) := fun _ _ => rfl
  simp only [Bool.not_true, cond_true, cond_false]
  refine Eq.trans (q _ _) ?_
  have e0 : (((t.length : Nat) : Int) == 0) = !decide (((t.length : Nat) : Int) > 0) := by
    by_cases h0 : ((t.length : Nat) : Int) > 0
    · rw [decide_eq_true h0]; exact beq_false_of_ne (by omega)
    · rw [decide_eq_false h0]; exact beq_iff_eq.2 (by omega)
  simp only [bne, e0, bifK]
  refine congrArg (fun q => K ((.s (.bool q)), [])) ?_
  unfold reqKindD
  generalize decide (((t.length : Nat) : Int) > 0) = n
  generalize (a == 0) = x
  generalize (b == 0) = y
  generalize (d == 0) = z
  generalize isWordD a = u
  generalize isWordD b = v
  generalize isWordD d = w
  clear hF q e0 hs hp h
  rcases hk with rfl | rfl | rfl | rfl | rfl | rfl | rfl | rfl | rfl | rfl | rfl | rfl | rfl | rfl | rfl | rfl <;> cases u <;> first | rfl | (cases x <;> first | rfl | (cases v <;> first | rfl | (cases y <;> first | rfl | (cases w <;> first | rfl | (cases z <;> first | rfl | (cases n <;> rfl))))))
theorem okS_i_isReq : OkFn prog I N.i_isReq true S_i_isReq := okN (ok_fn (memc okS_i_in (memc okS_i_isSession (memc okS_i_isPut (memc okS_i_isWord (memc okS_i_usedNumbers mem0))))) (l := ls_i_isReq) (p := []) (ls := [(4, [1,27,28,29], [1,2], W_i_isReq_4)]) (lend := []) (focus := false) (fuel := 0) (give := []) (fn := F.i_isReq) (by kernel_rfl) (by kernel_rfl) (by kernel_rfl) (by kernel_rfl) (cs := [bodyOf F.i_isReq 4]) (by kernel_rfl) (loopsc loopK_i_isReq_4 loops0)) (S_fnR_of fun d K h => (e_i_isReq d.1 K).trans (v_i_isReq d.1 h K))
end Go.Ev.Seat
end
section
/- i_word: its contract. -/
namespace Go.Ev.Seat
open Go.RowKit
set_option maxRecDepth 100000
set_option linter.unusedVariables false
set_option linter.unusedSimpArgs false
noncomputable abbrev E_i_word : Env := En [] [] [] [] false 0 []
noncomputable def T_i_word (n : Int) (K : Ret → Option Ret) : Option Ret := K ((.l .deep bytesR ((IntKind.wrap .u8 (shrI .i64 n (8 : Int))) :: ((IntKind.wrap .u8 n) :: ([] : List Int)))), [])
theorem e_i_word (n : Int) (K : Ret → Option Ret) : evF E_i_word true F.i_word [.s (.int .i64 n)] K = T_i_word n K := by kernel_rfl
def S_i_word : Sm := S_fnR [.i] (fun d => isWordD d.1) (fun d => (.l .deep bytesR (wordD d.1), []))
theorem v_i_word (n : Int) (h : (isWordD n) = true) (K : Ret → Option Ret) : T_i_word n K = K (.l .deep bytesR (wordD n), []) := by
  have h' := isWordD_iff.1 h
  unfold T_i_word wordD
  rw [shr8, wrap8 (by omega) (by omega), wrap8_mod]
theorem okS_i_word : OkFn prog I N.i_word true S_i_word := okN (ok_fn mem0 (l := []) (p := []) (ls := []) (lend := []) (focus := false) (fuel := 0) (give := []) (fn := F.i_word) (by kernel_rfl) (by kernel_rfl) (by kernel_rfl) (by kernel_rfl) (cs := []) (by kernel_rfl) loops0) (S_fnR_of fun d K h => (e_i_word d.1 K).trans (v_i_word d.1 h K))
end Go.Ev.Seat
end
section
/- slices.Grow of a nil slice: room and nothing else. -/
set_option linter.unusedVariables false
namespace Go.Ev
open Go.RowKit Go.Shelf Go.Proofs
def S_growN (r : Rw) : Sm := fun vs K => match vs with
  | [.nl, .s (.int .i64 n)] => bif decide (0 ≤ n) && decide (n ≤ 1099511627776) then K (.l .deep r [], []) else none
  | _ => none
variable {P : Program} {I : Nat → World → Prop}
theorem grow_ok {ρ : Ren} (L : Lays8.n4 P ρ) (hent : ∀ (args : Array Value) (w : World), (callFunc (ρ.f 4) args).run P w = .ok (.enter (ρ.f 4) args) w) {r : Rw} {i0 : TypeInfo} {z : Value} (hi0 : P.info? (ρ.t 25) = some i0) (hz0 : i0.zero = some z) (hs0 : 0 < i0.size) (hb : i0.bytes ≤ 64) (hn : z.cells.size = r.n) : OkFn P I (ρ.f 4) true (S_growN r) := by
  refine ⟨hent, fun ws K q hq B0 w0 w N vs O M H hI hbel hB hargs hnd hO hM hH hN => ?_⟩
  unfold S_growN at hq
  split at hq
  · rename_i n
    cases hc : (decide (0 ≤ n) && decide (n ≤ 1099511627776)) with
    | false => rw [hc] at hq; cases hq
    | true =>
      rw [hc] at hq
      simp only [Bool.and_eq_true, decide_eq_true_eq] at hc
      obtain ⟨h0, h1⟩ := hc
      have hq' : K (.l .deep r [], []) = some q := hq
      obtain ⟨v1, vs1, O1, O2, M1, M2, H1, H2, rfl, rfl, rfl, rfl, a1, b1⟩ := hargs
      obtain ⟨v2, vs2, O3, O4, M3, M4, H3, H4, rfl, rfl, rfl, rfl, a2, b2⟩ := b1
      obtain ⟨rfl, rfl, rfl, rfl⟩ := b2
      have e1 : v1 = .slice none 0 0 := a1.1
      have e2 : v2 = .int .i64 n := a2.1.1
      subst e1 e2
      obtain ⟨k, rfl⟩ : ∃ k : Nat, n = (k : Int) := ⟨n.toNat, by omega⟩
      by_cases hk : k = 0
      · subst hk
        refine Calls.mono (Any8.slices_Grow_room L none 0 0 0 w (Nat.le_refl _) (by omega) (by omega) (by omega)) ?_
        rintro e w' ⟨rfl, rfl⟩
        refine ⟨_, hq', ⟨⟨[], [], [], [], [], [], ⟨.inl ⟨rfl, rfl, none, 0, rfl, fun _ => ⟨rfl, rfl⟩⟩, rfl, rfl⟩, ⟨rfl, rfl, rfl, rfl⟩, List.nodup_nil, by simp, by simp, by simp⟩, hbel, Nat.le_refl _, fun _ _ _ => rfl⟩⟩
      · have hmul : (0 + k) * i0.bytes ≤ 1099511627776 * 64 := Nat.mul_le_mul (by omega) hb
        refine Calls.mono (Any8.slices_Grow_grow L i0 z hi0 hz0 hs0 none 0 0 k [] w (Nat.le_refl _) (by omega) (by omega) (by omega) (by simp) (fun _ => rfl) (fun a h => nomatch h)) ?_
        rintro e w' ⟨rfl, rfl⟩
        have hsz : ∀ cs t, (w.drew.alloc (.cells cs t)).heap.size = w.heap.size + 1 := fun cs t => alloc_size w.drew _
        have hnew : ∀ cs t, (w.drew.alloc (.cells cs t)).heap[w.heap.size]? = some (.cells cs t (0, 0)) := fun cs t => alloc_new w.drew _
        refine ⟨_, hq', ⟨⟨[w.heap.size], [], [w.heap.size], [], [], [], ⟨.inr ⟨w.heap.size, 0, _, [], rfl, Nat.zero_le _, rfl, by rw [hsz]; omega, fun _ => ⟨_, _, hnew _ _, ?_⟩, rfl⟩, rfl, rfl⟩, ⟨rfl, rfl, rfl, rfl⟩, by simp, ?_, by simp, ?_⟩, (hbel.drew).alloc hB _, by rw [hsz]; omega, fun x hx _ => alloc_old w.drew _ x hx⟩⟩
        · simp only [Array.size_append, size_zeroCells, hn]
          have : ∀ c : Nat, 0 + c * r.n ≤ ([] : List Value).toArray.size + (0 + k - 0) * r.n + (c - (0 + k)) * r.n := fun c => by
            rw [Nat.add_assoc, ← Nat.add_mul]
            have : c * r.n ≤ (0 + k - 0 + (c - (0 + k))) * r.n := Nat.mul_le_mul_right _ (by omega)
            omega
          exact this _
        · intro x hx
          simp at hx
          subst hx
          exact ⟨.inr (Nat.le_refl _), by rw [hsz]; omega⟩
        · intro x hx
          simp at hx
          subst hx
          exact ⟨by simp, fun h => by have := hN _ h; omega⟩
  · cases hq
end Go.Ev
namespace Go.Proofs
open Go.Shelf
def Tryd.grow_ren : Go.Shelf.Ren := ⟨fun | 4 => 123 | n => n, fun | 22 => 22 | 25 => 5 | 3 => 3 | 4 => 4 | 9 => 9 | 20 => 20 | 0 => 0 | n => n, fun | n => n⟩
theorem Tryd.grow : Go.Proofs.Lays8.n4 Tryd.prog Tryd.grow_ren := {
  mixed := by kernel_rfl
  f4 := ⟨Tryd.f123.name, by decide, Tryd.func123.trans (congrArg some (by kernel_rfl))⟩
  t0 := Tryd.underlying0
  a0 := Tryd.isAgg0
  z0 := Tryd.sizeOf0
  v0 := Tryd.zeroValue0
  t3 := Tryd.underlying3
  a3 := Tryd.isAgg3
  z3 := Tryd.sizeOf3
  v3 := Tryd.zeroValue3
  t4 := Tryd.underlying4
  a4 := Tryd.isAgg4
  z4 := Tryd.sizeOf4
  v4 := Tryd.zeroValue4
  t9 := Tryd.underlying9
  a9 := Tryd.isAgg9
  z9 := Tryd.sizeOf9
  v9 := Tryd.zeroValue9
  t20 := Tryd.underlying20
  a20 := Tryd.isAgg20
  z20 := Tryd.sizeOf20
  v20 := Tryd.zeroValue20
  t22 := Tryd.underlying22
  a22 := Tryd.isAgg22
  z22 := Tryd.sizeOf22
  v22 := Tryd.zeroValue22 }
end Go.Proofs
namespace Go.Ev.Seat
open Go.RowKit
set_option maxRecDepth 100000
theorem okS_Grow : OkFn prog I N.slices_Grow_bytes_byte true (S_growN bytesR) := by
  refine grow_ok (i0 := (prog.info? 5).getD default) (z := .int .u8 0) Go.Proofs.Tryd.grow (ok_fn (l := []) (p := []) (ls := []) (lend := []) (focus := false) (fuel := 0) (give := []) (nils := []) (fresh := true) mem0 (g := N.slices_Grow_bytes_byte) (fn := F.slices_Grow_bytes_byte) (by kernel_rfl) (by kernel_rfl) (by kernel_rfl) (by kernel_rfl) (cs := []) (by kernel_rfl) loops0).1 (by kernel_rfl) (by kernel_rfl) (Nat.le_of_ble_eq_true (by kernel_rfl)) (Nat.le_of_ble_eq_true (by kernel_rfl)) rfl
end Go.Ev.Seat
end
section
/- The laws' helpers for bytes. -/
namespace Go.Ev.Seat
open Go.RowKit
set_option maxRecDepth 100000
set_option linter.unusedVariables false
end Go.Ev.Seat
end
section
/- slices.Clone and slices.Concat of bytes. -/
namespace Go.Ev.Seat
open Go.RowKit
set_option maxRecDepth 100000
set_option linter.unusedVariables false
-- Clone
def sh_cc1 : Ss := { tm := (.cons (.l .no pieceR) (.cons (.x) (.cons (.x) (.cons (.int .i64) (.cons (.x) (.cons (.x) (.cons (.x) (.cons (.x) (.cons (.x) (.cons (.l .no pieceR) (.cons (.int .i64) (.cons (.int .i64) (xsh 24))))))))))))), ob := .nil, nx := 0, io := .nil }
def d_cc1 (x0 : List (List (Int))) (x3 : Int) (x9 : List (List (Int))) (x10 : Int) (x11 : Int) : sh_cc1.T := ((x0, ((), ((), (x3, ((), ((), ((), ((), ((), (x9, (x10, (x11, xd 24)))))))))))), (), ())
def z_cc1 (x0 : List (List Int)) (x3 : Int) : St := { tm := ([(.l .no pieceR x0), .x, .x, (.s (.int .i64 x3))] ++ List.replicate 32 .x), ob := [], nx := 0, io := [] }
def R_cc1 (d : sh_cc1.T) (K : Ex → St → Option Ret) : Option Ret := match d with
  | ((x0, (_, (_, (x3, (_, (_, (_, (_, (_, (x9, (x10, (x11, _)))))))))))), _, _) => bif (x11 == 0) && (x3 == 0) && (x10 == ((x9.length : Nat) : Int)) && Nat.ble x9.length 4611686018427387904 && Nat.ble (sumW List.length x9) 1099511627776 then K (.ext 0) (z_cc1 x0 ((sumW List.length x9 : Nat) : Int)) else none
def sh_cc2 : Ss := { tm := (.cons (.x) (.cons (.x) (.cons (.x) (.cons (.x) (.cons (.x) (.cons (.x) (.cons (.w 0) (.cons (.x) (.cons (.x) (.cons (.x) (.cons (.x) (.cons (.x) (.cons (.x) (.cons (.x) (.cons (.x) (.cons (.x) (.cons (.x) (.cons (.x) (.cons (.x) (.cons (.x) (.cons (.x) (.cons (.x) (.cons (.x) (.cons (.x) (.cons (.x) (.cons (.l .no pieceR) (.cons (.int .i64) (.cons (.int .i64) (xsh 8))))))))))))))))))))))))))))), ob := (.arr true true bytesR .nil), nx := 1, io := .nil }
def d_cc2 (x25 : List (List (Int))) (x26 : Int) (x27 : Int) (o0 : List (Int)) : sh_cc2.T := (((), ((), ((), ((), ((), ((), ((), ((), ((), ((), ((), ((), ((), ((), ((), ((), ((), ((), ((), ((), ((), ((), ((), ((), ((), (x25, (x26, (x27, xd 8)))))))))))))))))))))))))))), (o0, ()), ())
def z_cc2 (o0 : List Int) : St := { tm := ([.x, .x, .x, .x, .x, .x, (.w 0)] ++ List.replicate 29 .x), ob := [(0, (.arr true true bytesR o0))], nx := 1, io := [] }
def R_cc2 (d : sh_cc2.T) (K : Ex → St → Option Ret) : Option Ret := match d with
  | ((_, (_, (_, (_, (_, (_, (_, (_, (_, (_, (_, (_, (_, (_, (_, (_, (_, (_, (_, (_, (_, (_, (_, (_, (_, (x25, (x26, (x27, _)))))))))))))))))))))))))))), (o0, _), _) => bif (x27 == 0) && (x26 == ((x25.length : Nat) : Int)) && Nat.ble x25.length 4611686018427387904 && Nat.beq o0.length 0 && Nat.ble (sumW List.length x25) 1099511627776 then K (.ext 2) (z_cc2 x25.flatten) else none
noncomputable def E_cc : Env := En [(N.slices_Grow_bytes_byte, true, S_growN bytesR)] [] [(3, [0,3,9,10,11], [0,3], loopF sh_cc1 R_cc1), (11, [6,25,26,27], [6], loopF sh_cc2 R_cc2)]
noncomputable abbrev L_cc1 (n : Nat) (x0 : List (List Int)) (x3 : Int) (x9 : List (List (Int))) (x10 x11 : Int) (K : Ex → St → Option Ret) : Option Ret := rounds (run E_cc (bodyOf F.slices_Concat_bytes_byte 3)) [0,3,9,10,11] [0,3] n (sh_cc1.mk' (d_cc1 x0 x3 x9 x10 x11)) K
noncomputable abbrev L_cc2 (n : Nat) (x25 : List (List (Int))) (x26 x27 : Int) (o0 : List Int) (K : Ex → St → Option Ret) : Option Ret := rounds (run E_cc (bodyOf F.slices_Concat_bytes_byte 11)) [6,25,26,27] [6] n (sh_cc2.mk' (d_cc2 x25 x26 x27 o0)) K
theorem step_cc1 (n : Nat) (x0 : List (List (Int))) (x3 : Int) (x9 : List (List (Int))) (x10 : Int) (x11 : Int) (K : Ex → St → Option Ret) : L_cc1 (n + 1) x0 x3 x9 x10 x11 K =
 (bif decide (x11 < x10) then
 (bif (decide ((0 : Int) ≤ x11) && decide (x11 < (((List.length x9) : Nat) : Int))) then
  (bif decide ((IntKind.wrap .i64 (x3 + (((List.length (List.getD x9 (Int.toNat x11) (pieceR.dflt))) : Nat) : Int))) < (0 : Int)) then
   none
   else L_cc1 n x0 (IntKind.wrap .i64 (x3 + (((List.length (List.getD x9 (Int.toNat x11) (pieceR.dflt))) : Nat) : Int))) x9 x10 (IntKind.wrap .i64 (x11 + (1 : Int))) K)
  else none)
 else K (.ext 0) (z_cc1 x0 x3)) := by kernel_rfl
theorem step_cc2 (n : Nat) (x25 : List (List (Int))) (x26 : Int) (x27 : Int) (o0 : List (Int)) (K : Ex → St → Option Ret) : L_cc2 (n + 1) x25 x26 x27 o0 K =
 (bif decide (x27 < x26) then
 (bif (decide ((0 : Int) ≤ x27) && decide (x27 < (((List.length x25) : Nat) : Int))) then
  (bif (Nat.ble (((List.length o0) + (List.length (List.getD x25 (Int.toNat x27) (pieceR.dflt)))) * 1) 140737488355328) then
   L_cc2 n x25 x26 (IntKind.wrap .i64 (x27 + (1 : Int))) (o0 ++ (List.getD x25 (Int.toNat x27) (pieceR.dflt))) K
   else none)
  else none)
 else K (.ext 2) (z_cc2 o0)) := by kernel_rfl
theorem go_cc1 (x0 x9 : List (List Int)) (K : Ex → St → Option Ret) (h1 : x9.length ≤ 4611686018427387904) (h2 : sumW List.length x9 ≤ 1099511627776) : L_cc1 (x9.length + 1) x0 0 x9 ((x9.length : Nat) : Int) 0 K = K (.ext 0) (z_cc1 x0 ((sumW List.length x9 : Nat) : Int)) := by
  have := loop_idx (R := fun n i (s : Int) => L_cc1 n x0 s x9 ((x9.length : Nat) : Int) i K) (k := K (.ext 0) (z_cc1 x0 ((sumW List.length x9 : Nat) : Int))) (f := fun i => ((sumW List.length (x9.take i) : Nat) : Int)) x9.length (fun m i hi => by
    show L_cc1 (m + 1) x0 _ x9 _ i K = L_cc1 m x0 ((sumW List.length (x9.take (i + 1)) : Nat) : Int) x9 _ ((i + 1 : Nat) : Int) K
    have hs := sumW_take (g := List.length) (z := (pieceR.dflt : List Int)) hi
    have hs' : sumW List.length (List.take (i + 1) x9) = sumW List.length (List.take i x9) + List.length (x9.getD i pieceR.dflt) := hs
    have hle : sumW List.length (x9.take (i + 1)) ≤ sumW List.length x9 := sumW_take_le
    rw [step_cc1, decide_eq_true (show ((i : Nat) : Int) < ((x9.length : Nat) : Int) by omega), decide_eq_true (show (0 : Int) ≤ ((i : Nat) : Int) by omega), wrap_nat (show i ≤ 4611686018427387904 by omega), Int.toNat_natCast, wrap_id (by omega) (by omega), hs', decide_eq_false (show ¬ ((((sumW List.length (List.take i x9) : Nat) : Int) + ((List.length (x9.getD i pieceR.dflt) : Nat) : Int)) < 0) by omega), Int.natCast_add]
    rfl) (fun m => by
    show L_cc1 (m + 1) x0 _ x9 _ _ K = _
    rw [step_cc1, decide_eq_false (show ¬ ((x9.length : Nat) : Int) < ((x9.length : Nat) : Int) by omega), List.take_length]; rfl)
  exact this
theorem go_cc2 (x25 : List (List Int)) (K : Ex → St → Option Ret) (h1 : x25.length ≤ 4611686018427387904) (h2 : sumW List.length x25 ≤ 1099511627776) : L_cc2 (x25.length + 1) x25 ((x25.length : Nat) : Int) 0 [] K = K (.ext 2) (z_cc2 x25.flatten) := by
  have := loop_idx (R := fun n i (s : List Int) => L_cc2 n x25 ((x25.length : Nat) : Int) i s K) (k := K (.ext 2) (z_cc2 x25.flatten)) (f := fun i => (x25.take i).flatten) x25.length (fun m i hi => by
    show L_cc2 (m + 1) x25 _ i _ K = L_cc2 m x25 _ ((i + 1 : Nat) : Int) (x25.take (i + 1)).flatten K
    have hs := sumW_take (g := List.length) (z := (pieceR.dflt : List Int)) hi
    have hs' : sumW List.length (List.take (i + 1) x25) = sumW List.length (List.take i x25) + List.length (x25.getD i pieceR.dflt) := hs
    have hle : sumW List.length (x25.take (i + 1)) ≤ sumW List.length x25 := sumW_take_le
    have hfl := sumW_flatten (x25.take i)
    rw [step_cc2, decide_eq_true (show ((i : Nat) : Int) < ((x25.length : Nat) : Int) by omega), decide_eq_true (show (0 : Int) ≤ ((i : Nat) : Int) by omega), wrap_nat (show i ≤ 4611686018427387904 by omega), Int.toNat_natCast, Nat.ble_eq_true_of_le (show (((x25.take i).flatten.length + (x25.getD i pieceR.dflt).length) * 1) ≤ 140737488355328 by omega)]
    show L_cc2 m x25 _ _ ((x25.take i).flatten ++ x25.getD i pieceR.dflt) K = _
    have hf2 : (x25.take (i + 1)).flatten = (x25.take i).flatten ++ x25.getD i pieceR.dflt := flatten_take hi
    rw [hf2]) (fun m => by
    show L_cc2 (m + 1) x25 _ _ _ K = _
    rw [step_cc2, decide_eq_false (show ¬ ((x25.length : Nat) : Int) < ((x25.length : Nat) : Int) by omega), List.take_length]; rfl)
  exact this
theorem loop_cc1 : LoopOk E_cc (bodyOf F.slices_Concat_bytes_byte 3) := by
  refine loopF_ok (n := 3) (sh := sh_cc1) (R := R_cc1) (by kernel_rfl) rfl rfl (fun d K r hr => ?_)
  obtain ⟨⟨x0, u1, u2, x3, u4, u5, u6, u7, u8, x9, x10, x11, u12⟩, u13, u14⟩ := d
  unfold R_cc1 at hr
  simp only at hr
  cases hc : ((x11 == 0) && (x3 == 0) && (x10 == ((x9.length : Nat) : Int)) && Nat.ble x9.length 4611686018427387904 && Nat.ble (sumW List.length x9) 1099511627776) with
  | false => rw [hc] at hr; cases hr
  | true =>
    rw [hc] at hr
    simp only [Bool.and_eq_true, beq_iff_eq] at hc
    obtain ⟨⟨⟨⟨rfl, rfl⟩, rfl⟩, h1⟩, h2⟩ := hc
    exact ⟨x9.length + 1, (go_cc1 x0 x9 K (Nat.le_of_ble_eq_true h1) (Nat.le_of_ble_eq_true h2)).trans hr⟩
theorem loop_cc2 : LoopOk E_cc (bodyOf F.slices_Concat_bytes_byte 11) := by
  refine loopF_ok (n := 11) (sh := sh_cc2) (R := R_cc2) (by kernel_rfl) rfl rfl (fun d K r hr => ?_)
  obtain ⟨⟨_, _, _, _, _, _, _, _, _, _, _, _, _, _, _, _, _, _, _, _, _, _, _, _, _, x25, x26, x27, u12⟩, ⟨o0, u13⟩, u14⟩ := d
  unfold R_cc2 at hr
  simp only at hr
  cases hc : ((x27 == 0) && (x26 == ((x25.length : Nat) : Int)) && Nat.ble x25.length 4611686018427387904 && Nat.beq o0.length 0 && Nat.ble (sumW List.length x25) 1099511627776) with
  | false => rw [hc] at hr; cases hr
  | true =>
    rw [hc] at hr
    simp only [Bool.and_eq_true, beq_iff_eq] at hc
    obtain ⟨⟨⟨⟨rfl, rfl⟩, h1⟩, h3⟩, h2⟩ := hc
    have h3' : o0 = [] := List.eq_nil_of_length_eq_zero (Nat.eq_of_beq_eq_true h3)
    subst h3'
    exact ⟨x25.length + 1, (go_cc2 x25 K (Nat.le_of_ble_eq_true h1) (Nat.le_of_ble_eq_true h2)).trans hr⟩
noncomputable def G_Concat := evF E_cc true F.slices_Concat_bytes_byte
theorem ok_Concat : OkFn prog I N.slices_Concat_bytes_byte true G_Concat := ok_fn (memc okS_Grow mem0) (by kernel_rfl) (by kernel_rfl) (by kernel_rfl) (by kernel_rfl) (cs := [bodyOf F.slices_Concat_bytes_byte 3, bodyOf F.slices_Concat_bytes_byte 11]) (by kernel_rfl) (loopsc loop_cc1 (loopsc loop_cc2 loops0))
def S_concat : Sm := fun vs K => match vs with
  | [v] => match (Cc.sl pieceR).dec v with
    | some (xs : List (List Int)) => bif Nat.ble xs.length 4611686018427387904 && Nat.ble (sumW List.length xs) 1099511627776 then K (.l .deep bytesR xs.flatten, []) else none
    | none => none
  | _ => none
theorem okS_Concat : OkFn prog I N.slices_Concat_bytes_byte true S_concat := okW ok_Concat (by
  intro ws K q hr
  unfold S_concat at hr
  split at hr
  · split at hr
    · rename_i xs hx
      rw [Cc.dec_ok _ hx]
      have e : G_Concat [.l .no pieceR xs] K = (bif ((0 : Int) == 0) && ((0 : Int) == 0) && (((List.length xs : Nat) : Int) == ((List.length xs : Nat) : Int)) && Nat.ble (List.length xs) 4611686018427387904 && Nat.ble (sumW List.length xs) 1099511627776 then
        (bif decide (0 ≤ ((sumW List.length xs : Nat) : Int)) && decide (((sumW List.length xs : Nat) : Int) ≤ 1099511627776) then
         (bif ((0 : Int) == 0) && (((List.length xs : Nat) : Int) == ((List.length xs : Nat) : Int)) && Nat.ble (List.length xs) 4611686018427387904 && Nat.beq 0 0 && Nat.ble (sumW List.length xs) 1099511627776 then K (.l .deep bytesR (List.flatten xs), []) else none)
         else none) else none) := by kernel_rfl
      cases hl : (Nat.ble xs.length 4611686018427387904 && Nat.ble (sumW List.length xs) 1099511627776) with
      | false => rw [hl] at hr; cases hr
      | true =>
        rw [hl] at hr
        simp only [Bool.and_eq_true] at hl
        refine e.trans (Eq.trans ?_ hr)
        rw [hl.1, hl.2, beq_self_eq_true, beq_self_eq_true, decide_eq_true (show (0 : Int) ≤ ((sumW List.length xs : Nat) : Int) by omega), decide_eq_true (show ((sumW List.length xs : Nat) : Int) ≤ 1099511627776 by have := Nat.le_of_ble_eq_true hl.2; omega)]
        rfl
    · cases hr
  · cases hr)
end Go.Ev.Seat
end
section
/- i_reqBytes: its contract. -/
namespace Go.Ev.Seat
open Go.RowKit
set_option maxRecDepth 100000
set_option linter.unusedVariables false
set_option linter.unusedSimpArgs false
noncomputable abbrev pl_i_reqBytes : List (Nat × Plan × List Nat) := [(1, takeB [0, 1, 2, 3, 4, 5, 7, 8, 10, 11, 13, 14, 16, 17, 18, 19, 21, 22] (.fork (.more 6 (.fork (.more 9 (.fork (.more 12 (.fork (.more 15 (.fork (.one 20 (.fork (.one 23 (.fork (.one 24 (takes [25]))))))) (.one 20 (.fork (.one 15 (.fork (.one 23 (.fork (.one 24 (takes [25])))))))))) (.one 20 (.fork (.one 12 (.fork (.one 15 (.fork (.one 23 (.fork (.one 24 (takes [25])))))))))))) (.one 20 (.fork (.one 9 (.fork (.one 12 (.fork (.one 15 (.fork (.one 23 (.fork (.one 24 (takes [25])))))))))))))) (.more 9 (.fork (.more 6 (.fork (.more 12 (.fork (.more 15 (.fork (.one 20 (.fork (.one 23 (.fork (.one 24 (takes [25]))))))) (.one 20 (.fork (.one 15 (.fork (.one 23 (.fork (.one 24 (takes [25])))))))))) (.one 20 (.fork (.one 12 (.fork (.one 15 (.fork (.one 23 (.fork (.one 24 (takes [25])))))))))))) (.more 12 (.fork (.more 6 (.fork (.more 15 (.fork (.one 20 (.fork (.one 23 (.fork (.one 24 (takes [25]))))))) (.one 20 (.fork (.one 15 (.fork (.one 23 (.fork (.one 24 (takes [25])))))))))) (.more 15 (.fork (.more 6 (.fork (.one 20 (.fork (.one 23 (.fork (.one 24 (takes [25]))))))) (.one 20 (.fork (.one 6 (.fork (.one 23 (.fork (.one 24 (takes [25])))))))))) (.one 20 (.fork (.more 6 (.fork (.one 15 (.fork (.one 23 (.fork (.one 24 (takes [25]))))))) (.one 15 (.fork (.one 6 (.fork (.one 23 (.fork (.one 24 (takes [25])))))))))))))) (.one 20 (.fork (.more 6 (.fork (.one 12 (.fork (.one 15 (.fork (.one 23 (.fork (.one 24 (takes [25]))))))))) (.one 12 (.fork (.more 6 (.fork (.one 15 (.fork (.one 23 (.fork (.one 24 (takes [25]))))))) (.one 15 (.fork (.one 6 (.fork (.one 23 (.fork (.one 24 (takes [25]))))))))))))))))) (.one 20 (.fork (.more 6 (.fork (.one 9 (.fork (.one 12 (.fork (.one 15 (.fork (.one 23 (.fork (.one 24 (takes [25]))))))))))) (.one 9 (.fork (.more 6 (.fork (.one 12 (.fork (.one 15 (.fork (.one 23 (.fork (.one 24 (takes [25]))))))))) (.one 12 (.fork (.more 6 (.fork (.one 15 (.fork (.one 23 (.fork (.one 24 (takes [25]))))))) (.one 15 (.fork (.one 6 (.fork (.one 23 (.fork (.one 24 (takes [25])))))))))))))))))))), [])]
noncomputable abbrev ls_i_reqBytes : List (Nat × Bool × Sm) := [(N.i_word, true, S_i_word), (N.slices_Concat_bytes_byte, true, S_concat)]
noncomputable abbrev E_i_reqBytes : Env := En ls_i_reqBytes pl_i_reqBytes [] [] false 0 []
noncomputable def T_i_reqBytes (r : T_Req) (K : Ret → Option Ret) : Option Ret := (meet ((meet ((bif (isWordD r.2.2.1) then (meet ((bif (isWordD r.2.2.2.1) then (meet ((bif (isWordD r.2.2.2.2.1) then (bif (Nat.ble (sumW List.length (((IntKind.wrap .u8 r.1) :: ((IntKind.wrap .u8 r.2.1) :: ([] : List Int))) :: ((wordD r.2.2.1) :: ((wordD r.2.2.2.1) :: ((wordD r.2.2.2.2.1) :: (((IntKind.wrap .u8 (((List.length r.2.2.2.2.2) : Nat) : Int)) :: ([] : List Int)) :: (r.2.2.2.2.2 :: []))))))) 1099511627776) then K ((.l .deep bytesR (List.flatten (((IntKind.wrap .u8 r.1) :: ((IntKind.wrap .u8 r.2.1) :: ([] : List Int))) :: ((wordD r.2.2.1) :: ((wordD r.2.2.2.1) :: ((wordD r.2.2.2.2.1) :: (((IntKind.wrap .u8 (((List.length r.2.2.2.2.2) : Nat) : Int)) :: ([] : List Int)) :: (r.2.2.2.2.2 :: [])))))))), []) else none) else none)) ((bif (isWordD r.2.2.2.2.1) then (bif (Nat.ble (sumW List.length (((IntKind.wrap .u8 r.1) :: ((IntKind.wrap .u8 r.2.1) :: ([] : List Int))) :: ((wordD r.2.2.1) :: ((wordD r.2.2.2.1) :: ((wordD r.2.2.2.2.1) :: (((IntKind.wrap .u8 (((List.length r.2.2.2.2.2) : Nat) : Int)) :: ([] : List Int)) :: (r.2.2.2.2.2 :: []))))))) 1099511627776) then K ((.l .deep bytesR (List.flatten (((IntKind.wrap .u8 r.1) :: ((IntKind.wrap .u8 r.2.1) :: ([] : List Int))) :: ((wordD r.2.2.1) :: ((wordD r.2.2.2.1) :: ((wordD r.2.2.2.2.1) :: (((IntKind.wrap .u8 (((List.length r.2.2.2.2.2) : Nat) : Int)) :: ([] : List Int)) :: (r.2.2.2.2.2 :: [])))))))), []) else none) else none))) else none)) ((bif (isWordD r.2.2.2.1) then (bif (isWordD r.2.2.2.2.1) then (bif (Nat.ble (sumW List.length (((IntKind.wrap .u8 r.1) :: ((IntKind.wrap .u8 r.2.1) :: ([] : List Int))) :: ((wordD r.2.2.1) :: ((wordD r.2.2.2.1) :: ((wordD r.2.2.2.2.1) :: (((IntKind.wrap .u8 (((List.length r.2.2.2.2.2) : Nat) : Int)) :: ([] : List Int)) :: (r.2.2.2.2.2 :: []))))))) 1099511627776) then K ((.l .deep bytesR (List.flatten (((IntKind.wrap .u8 r.1) :: ((IntKind.wrap .u8 r.2.1) :: ([] : List Int))) :: ((wordD r.2.2.1) :: ((wordD r.2.2.2.1) :: ((wordD r.2.2.2.2.1) :: (((IntKind.wrap .u8 (((List.length r.2.2.2.2.2) : Nat) : Int)) :: ([] : List Int)) :: (r.2.2.2.2.2 :: [])))))))), []) else none) else none) else none))) else none)) ((bif (isWordD r.2.2.1) then (bif (isWordD r.2.2.2.1) then (bif (isWordD r.2.2.2.2.1) then (bif (Nat.ble (sumW List.length (((IntKind.wrap .u8 r.1) :: ((IntKind.wrap .u8 r.2.1) :: ([] : List Int))) :: ((wordD r.2.2.1) :: ((wordD r.2.2.2.1) :: ((wordD r.2.2.2.2.1) :: (((IntKind.wrap .u8 (((List.length r.2.2.2.2.2) : Nat) : Int)) :: ([] : List Int)) :: (r.2.2.2.2.2 :: []))))))) 1099511627776) then K ((.l .deep bytesR (List.flatten (((IntKind.wrap .u8 r.1) :: ((IntKind.wrap .u8 r.2.1) :: ([] : List Int))) :: ((wordD r.2.2.1) :: ((wordD r.2.2.2.1) :: ((wordD r.2.2.2.2.1) :: (((IntKind.wrap .u8 (((List.length r.2.2.2.2.2) : Nat) : Int)) :: ([] : List Int)) :: (r.2.2.2.2.2 :: [])))))))), []) else none) else none) else none) else none)))) ((meet ((bif (isWordD r.2.2.1) then (meet ((meet ((bif (isWordD r.2.2.2.1) then (meet ((bif (isWordD r.2.2.2.2.1) then (bif (Nat.ble (sumW List.length (((IntKind.wrap .u8 r.1) :: ((IntKind.wrap .u8 r.2.1) :: ([] : List Int))) :: ((wordD r.2.2.1) :: ((wordD r.2.2.2.1) :: ((wordD r.2.2.2.2.1) :: (((IntKind.wrap .u8 (((List.length r.2.2.2.2.2) : Nat) : Int)) :: ([] : List Int)) :: (r.2.2.2.2.2 :: []))))))) 1099511627776) then K ((.l .deep bytesR (List.flatten (((IntKind.wrap .u8 r.1) :: ((IntKind.wrap .u8 r.2.1) :: ([] : List Int))) :: ((wordD r.2.2.1) :: ((wordD r.2.2.2.1) :: ((wordD r.2.2.2.2.1) :: (((IntKind.wrap .u8 (((List.length r.2.2.2.2.2) : Nat) : Int)) :: ([] : List Int)) :: (r.2.2.2.2.2 :: [])))))))), []) else none) else none)) ((bif (isWordD r.2.2.2.2.1) then (bif (Nat.ble (sumW List.length (((IntKind.wrap .u8 r.1) :: ((IntKind.wrap .u8 r.2.1) :: ([] : List Int))) :: ((wordD r.2.2.1) :: ((wordD r.2.2.2.1) :: ((wordD r.2.2.2.2.1) :: (((IntKind.wrap .u8 (((List.length r.2.2.2.2.2) : Nat) : Int)) :: ([] : List Int)) :: (r.2.2.2.2.2 :: []))))))) 1099511627776) then K ((.l .deep bytesR (List.flatten (((IntKind.wrap .u8 r.1) :: ((IntKind.wrap .u8 r.2.1) :: ([] : List Int))) :: ((wordD r.2.2.1) :: ((wordD r.2.2.2.1) :: ((wordD r.2.2.2.2.1) :: (((IntKind.wrap .u8 (((List.length r.2.2.2.2.2) : Nat) : Int)) :: ([] : List Int)) :: (r.2.2.2.2.2 :: [])))))))), []) else none) else none))) else none)) ((bif (isWordD r.2.2.2.1) then (bif (isWordD r.2.2.2.2.1) then (bif (Nat.ble (sumW List.length (((IntKind.wrap .u8 r.1) :: ((IntKind.wrap .u8 r.2.1) :: ([] : List Int))) :: ((wordD r.2.2.1) :: ((wordD r.2.2.2.1) :: ((wordD r.2.2.2.2.1) :: (((IntKind.wrap .u8 (((List.length r.2.2.2.2.2) : Nat) : Int)) :: ([] : List Int)) :: (r.2.2.2.2.2 :: []))))))) 1099511627776) then K ((.l .deep bytesR (List.flatten (((IntKind.wrap .u8 r.1) :: ((IntKind.wrap .u8 r.2.1) :: ([] : List Int))) :: ((wordD r.2.2.1) :: ((wordD r.2.2.2.1) :: ((wordD r.2.2.2.2.1) :: (((IntKind.wrap .u8 (((List.length r.2.2.2.2.2) : Nat) : Int)) :: ([] : List Int)) :: (r.2.2.2.2.2 :: [])))))))), []) else none) else none) else none)))) ((meet ((bif (isWordD r.2.2.2.1) then (meet ((meet ((bif (isWordD r.2.2.2.2.1) then (bif (Nat.ble (sumW List.length (((IntKind.wrap .u8 r.1) :: ((IntKind.wrap .u8 r.2.1) :: ([] : List Int))) :: ((wordD r.2.2.1) :: ((wordD r.2.2.2.1) :: ((wordD r.2.2.2.2.1) :: (((IntKind.wrap .u8 (((List.length r.2.2.2.2.2) : Nat) : Int)) :: ([] : List Int)) :: (r.2.2.2.2.2 :: []))))))) 1099511627776) then K ((.l .deep bytesR (List.flatten (((IntKind.wrap .u8 r.1) :: ((IntKind.wrap .u8 r.2.1) :: ([] : List Int))) :: ((wordD r.2.2.1) :: ((wordD r.2.2.2.1) :: ((wordD r.2.2.2.2.1) :: (((IntKind.wrap .u8 (((List.length r.2.2.2.2.2) : Nat) : Int)) :: ([] : List Int)) :: (r.2.2.2.2.2 :: [])))))))), []) else none) else none)) ((bif (isWordD r.2.2.2.2.1) then (bif (Nat.ble (sumW List.length (((IntKind.wrap .u8 r.1) :: ((IntKind.wrap .u8 r.2.1) :: ([] : List Int))) :: ((wordD r.2.2.1) :: ((wordD r.2.2.2.1) :: ((wordD r.2.2.2.2.1) :: (((IntKind.wrap .u8 (((List.length r.2.2.2.2.2) : Nat) : Int)) :: ([] : List Int)) :: (r.2.2.2.2.2 :: []))))))) 1099511627776) then K ((.l .deep bytesR (List.flatten (((IntKind.wrap .u8 r.1) :: ((IntKind.wrap .u8 r.2.1) :: ([] : List Int))) :: ((wordD r.2.2.1) :: ((wordD r.2.2.2.1) :: ((wordD r.2.2.2.2.1) :: (((IntKind.wrap .u8 (((List.length r.2.2.2.2.2) : Nat) : Int)) :: ([] : List Int)) :: (r.2.2.2.2.2 :: [])))))))), []) else none) else none)))) ((meet ((bif (isWordD r.2.2.2.2.1) then (meet ((bif (Nat.ble (sumW List.length (((IntKind.wrap .u8 r.1) :: ((IntKind.wrap .u8 r.2.1) :: ([] : List Int))) :: ((wordD r.2.2.1) :: ((wordD r.2.2.2.1) :: ((wordD r.2.2.2.2.1) :: (((IntKind.wrap .u8 (((List.length r.2.2.2.2.2) : Nat) : Int)) :: ([] : List Int)) :: (r.2.2.2.2.2 :: []))))))) 1099511627776) then K ((.l .deep bytesR (List.flatten (((IntKind.wrap .u8 r.1) :: ((IntKind.wrap .u8 r.2.1) :: ([] : List Int))) :: ((wordD r.2.2.1) :: ((wordD r.2.2.2.1) :: ((wordD r.2.2.2.2.1) :: (((IntKind.wrap .u8 (((List.length r.2.2.2.2.2) : Nat) : Int)) :: ([] : List Int)) :: (r.2.2.2.2.2 :: [])))))))), []) else none)) ((bif (Nat.ble (sumW List.length (((IntKind.wrap .u8 r.1) :: ((IntKind.wrap .u8 r.2.1) :: ([] : List Int))) :: ((wordD r.2.2.1) :: ((wordD r.2.2.2.1) :: ((wordD r.2.2.2.2.1) :: (((IntKind.wrap .u8 (((List.length r.2.2.2.2.2) : Nat) : Int)) :: ([] : List Int)) :: (r.2.2.2.2.2 :: []))))))) 1099511627776) then K ((.l .deep bytesR (List.flatten (((IntKind.wrap .u8 r.1) :: ((IntKind.wrap .u8 r.2.1) :: ([] : List Int))) :: ((wordD r.2.2.1) :: ((wordD r.2.2.2.1) :: ((wordD r.2.2.2.2.1) :: (((IntKind.wrap .u8 (((List.length r.2.2.2.2.2) : Nat) : Int)) :: ([] : List Int)) :: (r.2.2.2.2.2 :: [])))))))), []) else none))) else none)) ((meet ((bif (isWordD r.2.2.2.2.1) then (bif (Nat.ble (sumW List.length (((IntKind.wrap .u8 r.1) :: ((IntKind.wrap .u8 r.2.1) :: ([] : List Int))) :: ((wordD r.2.2.1) :: ((wordD r.2.2.2.1) :: ((wordD r.2.2.2.2.1) :: (((IntKind.wrap .u8 (((List.length r.2.2.2.2.2) : Nat) : Int)) :: ([] : List Int)) :: (r.2.2.2.2.2 :: []))))))) 1099511627776) then K ((.l .deep bytesR (List.flatten (((IntKind.wrap .u8 r.1) :: ((IntKind.wrap .u8 r.2.1) :: ([] : List Int))) :: ((wordD r.2.2.1) :: ((wordD r.2.2.2.1) :: ((wordD r.2.2.2.2.1) :: (((IntKind.wrap .u8 (((List.length r.2.2.2.2.2) : Nat) : Int)) :: ([] : List Int)) :: (r.2.2.2.2.2 :: [])))))))), []) else none) else none)) ((bif (isWordD r.2.2.2.2.1) then (bif (Nat.ble (sumW List.length (((IntKind.wrap .u8 r.1) :: ((IntKind.wrap .u8 r.2.1) :: ([] : List Int))) :: ((wordD r.2.2.1) :: ((wordD r.2.2.2.1) :: ((wordD r.2.2.2.2.1) :: (((IntKind.wrap .u8 (((List.length r.2.2.2.2.2) : Nat) : Int)) :: ([] : List Int)) :: (r.2.2.2.2.2 :: []))))))) 1099511627776) then K ((.l .deep bytesR (List.flatten (((IntKind.wrap .u8 r.1) :: ((IntKind.wrap .u8 r.2.1) :: ([] : List Int))) :: ((wordD r.2.2.1) :: ((wordD r.2.2.2.1) :: ((wordD r.2.2.2.2.1) :: (((IntKind.wrap .u8 (((List.length r.2.2.2.2.2) : Nat) : Int)) :: ([] : List Int)) :: (r.2.2.2.2.2 :: [])))))))), []) else none) else none))))))) else none)) ((meet ((bif (isWordD r.2.2.2.1) then (bif (isWordD r.2.2.2.2.1) then (bif (Nat.ble (sumW List.length (((IntKind.wrap .u8 r.1) :: ((IntKind.wrap .u8 r.2.1) :: ([] : List Int))) :: ((wordD r.2.2.1) :: ((wordD r.2.2.2.1) :: ((wordD r.2.2.2.2.1) :: (((IntKind.wrap .u8 (((List.length r.2.2.2.2.2) : Nat) : Int)) :: ([] : List Int)) :: (r.2.2.2.2.2 :: []))))))) 1099511627776) then K ((.l .deep bytesR (List.flatten (((IntKind.wrap .u8 r.1) :: ((IntKind.wrap .u8 r.2.1) :: ([] : List Int))) :: ((wordD r.2.2.1) :: ((wordD r.2.2.2.1) :: ((wordD r.2.2.2.2.1) :: (((IntKind.wrap .u8 (((List.length r.2.2.2.2.2) : Nat) : Int)) :: ([] : List Int)) :: (r.2.2.2.2.2 :: [])))))))), []) else none) else none) else none)) ((bif (isWordD r.2.2.2.1) then (meet ((bif (isWordD r.2.2.2.2.1) then (bif (Nat.ble (sumW List.length (((IntKind.wrap .u8 r.1) :: ((IntKind.wrap .u8 r.2.1) :: ([] : List Int))) :: ((wordD r.2.2.1) :: ((wordD r.2.2.2.1) :: ((wordD r.2.2.2.2.1) :: (((IntKind.wrap .u8 (((List.length r.2.2.2.2.2) : Nat) : Int)) :: ([] : List Int)) :: (r.2.2.2.2.2 :: []))))))) 1099511627776) then K ((.l .deep bytesR (List.flatten (((IntKind.wrap .u8 r.1) :: ((IntKind.wrap .u8 r.2.1) :: ([] : List Int))) :: ((wordD r.2.2.1) :: ((wordD r.2.2.2.1) :: ((wordD r.2.2.2.2.1) :: (((IntKind.wrap .u8 (((List.length r.2.2.2.2.2) : Nat) : Int)) :: ([] : List Int)) :: (r.2.2.2.2.2 :: [])))))))), []) else none) else none)) ((bif (isWordD r.2.2.2.2.1) then (bif (Nat.ble (sumW List.length (((IntKind.wrap .u8 r.1) :: ((IntKind.wrap .u8 r.2.1) :: ([] : List Int))) :: ((wordD r.2.2.1) :: ((wordD r.2.2.2.1) :: ((wordD r.2.2.2.2.1) :: (((IntKind.wrap .u8 (((List.length r.2.2.2.2.2) : Nat) : Int)) :: ([] : List Int)) :: (r.2.2.2.2.2 :: []))))))) 1099511627776) then K ((.l .deep bytesR (List.flatten (((IntKind.wrap .u8 r.1) :: ((IntKind.wrap .u8 r.2.1) :: ([] : List Int))) :: ((wordD r.2.2.1) :: ((wordD r.2.2.2.1) :: ((wordD r.2.2.2.2.1) :: (((IntKind.wrap .u8 (((List.length r.2.2.2.2.2) : Nat) : Int)) :: ([] : List Int)) :: (r.2.2.2.2.2 :: [])))))))), []) else none) else none))) else none))))))) else none)) ((meet ((bif (isWordD r.2.2.1) then (bif (isWordD r.2.2.2.1) then (bif (isWordD r.2.2.2.2.1) then (bif (Nat.ble (sumW List.length (((IntKind.wrap .u8 r.1) :: ((IntKind.wrap .u8 r.2.1) :: ([] : List Int))) :: ((wordD r.2.2.1) :: ((wordD r.2.2.2.1) :: ((wordD r.2.2.2.2.1) :: (((IntKind.wrap .u8 (((List.length r.2.2.2.2.2) : Nat) : Int)) :: ([] : List Int)) :: (r.2.2.2.2.2 :: []))))))) 1099511627776) then K ((.l .deep bytesR (List.flatten (((IntKind.wrap .u8 r.1) :: ((IntKind.wrap .u8 r.2.1) :: ([] : List Int))) :: ((wordD r.2.2.1) :: ((wordD r.2.2.2.1) :: ((wordD r.2.2.2.2.1) :: (((IntKind.wrap .u8 (((List.length r.2.2.2.2.2) : Nat) : Int)) :: ([] : List Int)) :: (r.2.2.2.2.2 :: [])))))))), []) else none) else none) else none) else none)) ((bif (isWordD r.2.2.1) then (meet ((bif (isWordD r.2.2.2.1) then (bif (isWordD r.2.2.2.2.1) then (bif (Nat.ble (sumW List.length (((IntKind.wrap .u8 r.1) :: ((IntKind.wrap .u8 r.2.1) :: ([] : List Int))) :: ((wordD r.2.2.1) :: ((wordD r.2.2.2.1) :: ((wordD r.2.2.2.2.1) :: (((IntKind.wrap .u8 (((List.length r.2.2.2.2.2) : Nat) : Int)) :: ([] : List Int)) :: (r.2.2.2.2.2 :: []))))))) 1099511627776) then K ((.l .deep bytesR (List.flatten (((IntKind.wrap .u8 r.1) :: ((IntKind.wrap .u8 r.2.1) :: ([] : List Int))) :: ((wordD r.2.2.1) :: ((wordD r.2.2.2.1) :: ((wordD r.2.2.2.2.1) :: (((IntKind.wrap .u8 (((List.length r.2.2.2.2.2) : Nat) : Int)) :: ([] : List Int)) :: (r.2.2.2.2.2 :: [])))))))), []) else none) else none) else none)) ((bif (isWordD r.2.2.2.1) then (meet ((bif (isWordD r.2.2.2.2.1) then (bif (Nat.ble (sumW List.length (((IntKind.wrap .u8 r.1) :: ((IntKind.wrap .u8 r.2.1) :: ([] : List Int))) :: ((wordD r.2.2.1) :: ((wordD r.2.2.2.1) :: ((wordD r.2.2.2.2.1) :: (((IntKind.wrap .u8 (((List.length r.2.2.2.2.2) : Nat) : Int)) :: ([] : List Int)) :: (r.2.2.2.2.2 :: []))))))) 1099511627776) then K ((.l .deep bytesR (List.flatten (((IntKind.wrap .u8 r.1) :: ((IntKind.wrap .u8 r.2.1) :: ([] : List Int))) :: ((wordD r.2.2.1) :: ((wordD r.2.2.2.1) :: ((wordD r.2.2.2.2.1) :: (((IntKind.wrap .u8 (((List.length r.2.2.2.2.2) : Nat) : Int)) :: ([] : List Int)) :: (r.2.2.2.2.2 :: [])))))))), []) else none) else none)) ((bif (isWordD r.2.2.2.2.1) then (bif (Nat.ble (sumW List.length (((IntKind.wrap .u8 r.1) :: ((IntKind.wrap .u8 r.2.1) :: ([] : List Int))) :: ((wordD r.2.2.1) :: ((wordD r.2.2.2.1) :: ((wordD r.2.2.2.2.1) :: (((IntKind.wrap .u8 (((List.length r.2.2.2.2.2) : Nat) : Int)) :: ([] : List Int)) :: (r.2.2.2.2.2 :: []))))))) 1099511627776) then K ((.l .deep bytesR (List.flatten (((IntKind.wrap .u8 r.1) :: ((IntKind.wrap .u8 r.2.1) :: ([] : List Int))) :: ((wordD r.2.2.1) :: ((wordD r.2.2.2.1) :: ((wordD r.2.2.2.2.1) :: (((IntKind.wrap .u8 (((List.length r.2.2.2.2.2) : Nat) : Int)) :: ([] : List Int)) :: (r.2.2.2.2.2 :: [])))))))), []) else none) else none))) else none))) else none)))))))
theorem e_i_reqBytes (r : T_Req) (K : Ret → Option Ret) : evF E_i_reqBytes true F.i_reqBytes [.a (reqR.cells .no r)] K = T_i_reqBytes r K := by kernel_rfl
def S_i_reqBytes : Sm := S_fnR [.a reqR] (fun d => fitB d.1.2.2.2.2.2 && reqOkD d.1) (fun d => (.l .deep bytesR (reqBytesL d.1), []))
theorem v_i_reqBytes (r : T_Req) (h : (fitB r.2.2.2.2.2 && reqOkD r) = true) (K : Ret → Option Ret) : T_i_reqBytes r K = K (.l .deep bytesR (reqBytesL r), []) := by
  obtain ⟨h1, h2⟩ := (Bool.and_eq_true _ _).mp h
  obtain ⟨a0, a1, s0, s1, l1, q1, q2, q3⟩ := reqOkD_q h2
  unfold T_i_reqBytes reqBytesL
  rw [q1, q2, q3, wrap8_mod, wrap8_mod, wrap8_mod, Int.emod_eq_of_lt a0 a1, Int.emod_eq_of_lt s0 s1, Int.emod_eq_of_lt (b := 256) (a := ((r.2.2.2.2.2.length : Nat) : Int)) (by omega) (by omega)]
  simp only [cond_true, meet_self]
  rw [Nat.ble_eq_true_of_le (by simp [wordD, sumW]; omega)]
  simp [wordD]
theorem okS_i_reqBytes : OkFn prog I N.i_reqBytes true S_i_reqBytes := okN (ok_fn (memc okS_i_word (memc okS_Concat mem0)) (l := ls_i_reqBytes) (p := pl_i_reqBytes) (ls := []) (lend := []) (focus := false) (fuel := 0) (give := []) (fn := F.i_reqBytes) (by kernel_rfl) (by kernel_rfl) (by kernel_rfl) (by kernel_rfl) (cs := []) (by kernel_rfl) loops0) (S_fnR_of fun d K h => (e_i_reqBytes d.1 K).trans (v_i_reqBytes d.1 h K))
end Go.Ev.Seat
end
section
/- i_ReqBytes: its contract. -/
namespace Go.Ev.Seat
open Go.RowKit
set_option maxRecDepth 100000
set_option linter.unusedVariables false
set_option linter.unusedSimpArgs false
noncomputable abbrev ls_i_ReqBytes : List (Nat × Bool × Sm) := [(N.i_isReq, true, S_i_isReq), (N.i_reqBytes, true, S_i_reqBytes)]
noncomputable abbrev E_i_ReqBytes : Env := En ls_i_ReqBytes [] [] [] false 0 []
noncomputable def T_i_ReqBytes (r : T_Req) (K : Ret → Option Ret) : Option Ret := (bif (fitB r.2.2.2.2.2) then (bif (!(reqOkD r)) then K ((.l .deep bytesR ([] : List Int)), []) else (bif ((fitB r.2.2.2.2.2) && (reqOkD r)) then K ((.l .deep bytesR (reqBytesL r)), []) else none)) else none)
theorem e_i_ReqBytes (r : T_Req) (K : Ret → Option Ret) : evF E_i_ReqBytes true F.i_ReqBytes [.a (reqR.cells .no r)] K = T_i_ReqBytes r K := by kernel_rfl
def S_i_ReqBytes : Sm := S_fnR [.a reqR] (fun d => fitB d.1.2.2.2.2.2) (fun d => (.l .deep bytesR (reqBytesD d.1), []))
theorem v_i_ReqBytes (r : T_Req) (h : (fitB r.2.2.2.2.2) = true) (K : Ret → Option Ret) : T_i_ReqBytes r K = K (.l .deep bytesR (reqBytesD r), []) := by
  unfold T_i_ReqBytes reqBytesD
  rw [h]
  cases hk : reqOkD r <;> rfl
theorem okS_i_ReqBytes : OkFn prog I N.i_ReqBytes true S_i_ReqBytes := okN (ok_fn (memc okS_i_isReq (memc okS_i_reqBytes mem0)) (l := ls_i_ReqBytes) (p := []) (ls := []) (lend := []) (focus := false) (fuel := 0) (give := []) (fn := F.i_ReqBytes) (by kernel_rfl) (by kernel_rfl) (by kernel_rfl) (by kernel_rfl) (cs := []) (by kernel_rfl) loops0) (S_fnR_of fun d K h => (e_i_ReqBytes d.1 K).trans (v_i_ReqBytes d.1 h K))
end Go.Ev.Seat
end
section
/- s_l01Cur_reply: its contract. -/
namespace Go.Ev.Seat
open Go.RowKit
set_option maxRecDepth 100000
set_option linter.unusedVariables false
set_option linter.unusedSimpArgs false
noncomputable abbrev ls_s_l01Cur_reply : List (Nat × Bool × Sm) := [(N.s_l01Cur_pick, false, (SB_s_l01Cur_pick B_s_l01Cur_pick)), (N.s_l01Cur_text, false, (SB_s_l01Cur_text B_s_l01Cur_text)), (N.s_l01Cur_raw, false, (SB_s_l01Cur_raw B_s_l01Cur_raw)), (N.s_l01Cur_badText, false, (SB_s_l01Cur_badText B_s_l01Cur_badText))]
noncomputable abbrev E_s_l01Cur_reply : Env := En ls_s_l01Cur_reply [] [] [] false 0 []
noncomputable def T_s_l01Cur_reply (cc : List Int) (ca : Int) (cs : Int) (K : Ret → Option Ret) : Option Ret := (B_s_l01Cur_pick cc ca cs (11 : Int) (fun y0 y1 y2 => (B_s_l01Cur_pick cc y1 y2 (3 : Int) (fun y3 y4 y5 => (bif ((decide ((0 : Int) ≤ y3)) && (decide (y3 < (((List.length ((0 : Int) :: ((0 : Int) :: (y0 :: ([] : List Int))))) : Nat) : Int)))) then (bif ((List.getD ((0 : Int) :: ((0 : Int) :: (y0 :: ([] : List Int)))) (Int.toNat y3) (0 : Int)) == (0 : Int)) then (B_s_l01Cur_pick cc y4 y5 (300 : Int) (fun y6 y7 y8 => (B_s_l01Cur_pick cc y7 y8 (300 : Int) (fun y9 y10 y11 => (B_s_l01Cur_text cc y10 y11 (30 : Int) (fun y12 y13 y14 => (B_s_l01Cur_pick cc y13 y14 (12 : Int) (fun y15 y16 y17 => (bif (y15 == (0 : Int)) then (B_s_l01Cur_raw cc y16 y17 (fun y18 y19 y20 => K ((.a [(.s (.int .i64 y18)), (.s (.int .i64 y6)), (.s (.int .i64 y9)), (.l .deep bytesR y12)]), [(.io [(.l .no bytesR cc), (.s (.int .i64 y19)), (.s (.int .i64 y20))])]))) else (bif (y15 == (1 : Int)) then (B_s_l01Cur_raw cc y16 y17 (fun y21 y22 y23 => (B_s_l01Cur_pick cc y22 y23 (3 : Int) (fun y24 y25 y26 => (bif ((decide ((0 : Int) ≤ y24)) && (decide (y24 < (((List.length (y21 :: ((65535 : Int) :: ((65536 : Int) :: ([] : List Int))))) : Nat) : Int)))) then K ((.a [(.s (.int .i64 (List.getD ((0 : Int) :: ((0 : Int) :: (y0 :: ([] : List Int)))) (Int.toNat y3) (0 : Int)))), (.s (.int .i64 (List.getD (y21 :: ((65535 : Int) :: ((65536 : Int) :: ([] : List Int)))) (Int.toNat y24) (0 : Int)))), (.s (.int .i64 y9)), (.l .deep bytesR y12)]), [(.io [(.l .no bytesR cc), (.s (.int .i64 y25)), (.s (.int .i64 y26))])]) else none))))) else (bif (y15 == (2 : Int)) then (B_s_l01Cur_badText cc y16 y17 (30 : Int) (fun y27 y28 y29 => K ((.a [(.s (.int .i64 (List.getD ((0 : Int) :: ((0 : Int) :: (y0 :: ([] : List Int)))) (Int.toNat y3) (0 : Int)))), (.s (.int .i64 y6)), (.s (.int .i64 y9)), (.l .deep bytesR y27)]), [(.io [(.l .no bytesR cc), (.s (.int .i64 y28)), (.s (.int .i64 y29))])]))) else K ((.a [(.s (.int .i64 (List.getD ((0 : Int) :: ((0 : Int) :: (y0 :: ([] : List Int)))) (Int.toNat y3) (0 : Int)))), (.s (.int .i64 y6)), (.s (.int .i64 y9)), (.l .deep bytesR y12)]), [(.io [(.l .no bytesR cc), (.s (.int .i64 y16)), (.s (.int .i64 y17))])])))))))))))) else (B_s_l01Cur_pick cc y4 y5 (12 : Int) (fun y30 y31 y32 => (bif (y30 == (0 : Int)) then (B_s_l01Cur_raw cc y31 y32 (fun y33 y34 y35 => K ((.a [(.s (.int .i64 y33)), (.s (.int .i64 (0 : Int))), (.s (.int .i64 (0 : Int))), (.l .deep bytesR ([] : List Int))]), [(.io [(.l .no bytesR cc), (.s (.int .i64 y34)), (.s (.int .i64 y35))])]))) else (bif (y30 == (1 : Int)) then (B_s_l01Cur_raw cc y31 y32 (fun y36 y37 y38 => (B_s_l01Cur_pick cc y37 y38 (3 : Int) (fun y39 y40 y41 => (bif ((decide ((0 : Int) ≤ y39)) && (decide (y39 < (((List.length (y36 :: ((65535 : Int) :: ((65536 : Int) :: ([] : List Int))))) : Nat) : Int)))) then K ((.a [(.s (.int .i64 (List.getD ((0 : Int) :: ((0 : Int) :: (y0 :: ([] : List Int)))) (Int.toNat y3) (0 : Int)))), (.s (.int .i64 (List.getD (y36 :: ((65535 : Int) :: ((65536 : Int) :: ([] : List Int)))) (Int.toNat y39) (0 : Int)))), (.s (.int .i64 (0 : Int))), (.l .deep bytesR ([] : List Int))]), [(.io [(.l .no bytesR cc), (.s (.int .i64 y40)), (.s (.int .i64 y41))])]) else none))))) else (bif (y30 == (2 : Int)) then (B_s_l01Cur_badText cc y31 y32 (30 : Int) (fun y42 y43 y44 => K ((.a [(.s (.int .i64 (List.getD ((0 : Int) :: ((0 : Int) :: (y0 :: ([] : List Int)))) (Int.toNat y3) (0 : Int)))), (.s (.int .i64 (0 : Int))), (.s (.int .i64 (0 : Int))), (.l .deep bytesR y42)]), [(.io [(.l .no bytesR cc), (.s (.int .i64 y43)), (.s (.int .i64 y44))])]))) else K ((.a [(.s (.int .i64 (List.getD ((0 : Int) :: ((0 : Int) :: (y0 :: ([] : List Int)))) (Int.toNat y3) (0 : Int)))), (.s (.int .i64 (0 : Int))), (.s (.int .i64 (0 : Int))), (.l .deep bytesR ([] : List Int))]), [(.io [(.l .no bytesR cc), (.s (.int .i64 y31)), (.s (.int .i64 y32))])]))))))) else none)))))
theorem e_s_l01Cur_reply (cc : List Int) (ca : Int) (cs : Int) (K : Ret → Option Ret) : evF E_s_l01Cur_reply false F.s_l01Cur_reply [.io [.l .no bytesR cc, .s (.int .i64 ca), .s (.int .i64 cs)]] K = T_s_l01Cur_reply cc ca cs K := by kernel_rfl
set_option maxHeartbeats 4000000
theorem pick3r {y : Int} (h : 0 ≤ y ∧ y < 3) (a b c : Int) : (decide ((0 : Int) ≤ y) && decide (y < (((List.length [a, b, c]) : Nat) : Int))) = true := by
  simp only [List.length_cons, List.length_nil, Bool.and_eq_true, decide_eq_true_eq]; omega
theorem x_s_l01Cur_reply (cc : List Int) (ca : Int) (cs : Int) (h : (curB 500000000000000000 cc ca cs) = true) : ∃ (y0 : Int) (y1 : Int) (y2 : Int) (t : List Int) (a : Int) (s : Int), ((fitB t = true ∧ t.length ≤ 600) ∧ 0 ≤ a ∧ a ≤ ca + 300 ∧ 0 ≤ s ∧ s < 65536) ∧ ∀ K : Ret → Option Ret, T_s_l01Cur_reply cc ca cs (noK K) = K (.a [.s (.int .i64 y0), .s (.int .i64 y1), .s (.int .i64 y2), .l .no bytesR t], [.io [.l .no bytesR cc, .s (.int .i64 a), .s (.int .i64 s)]]) := by
  suffices hd : Dr (fun r : Ret => ∃ (y0 : Int) (y1 : Int) (y2 : Int) (t : List Int) (a : Int) (s : Int), ((fitB t = true ∧ t.length ≤ 600) ∧ 0 ≤ a ∧ a ≤ ca + 300 ∧ 0 ≤ s ∧ s < 65536) ∧ r = (.a [.s (.int .i64 y0), .s (.int .i64 y1), .s (.int .i64 y2), .l .no bytesR t], [.io [.l .no bytesR cc, .s (.int .i64 a), .s (.int .i64 s)]])) (fun K : Ret → Option Ret => T_s_l01Cur_reply cc ca cs (noK K)) by
    obtain ⟨_, ⟨y0, y1, y2, t, a, s, hp, rfl⟩, hk⟩ := hd
    exact ⟨y0, y1, y2, t, a, s, hp, hk⟩
  obtain ⟨hf, h2, h3, h4, h5⟩ := curB_iff.1 h
  have hl := fitB_len hf
  unfold T_s_l01Cur_reply
  refine Dr.b3 (b_s_l01Cur_pick _ _ _ _ (curB_iff.2 ⟨hf, by omega, by omega, by omega, by omega⟩)) (fun y0 a0 s0 hy0 => ?_)
  refine Dr.b3 (b_s_l01Cur_pick _ _ _ _ (curB_iff.2 ⟨hf, by omega, by omega, by omega, by omega⟩)) (fun y1 a1 s1 hy1 => ?_)
  refine Dr.must (pick3r ⟨by omega, by omega⟩ _ _ _) ?_
  refine Dr.bif (fun _ => ?_) (fun _ => ?_)
  · refine Dr.b3 (b_s_l01Cur_pick _ _ _ _ (curB_iff.2 ⟨hf, by omega, by omega, by omega, by omega⟩)) (fun y2 a2 s2 hy2 => ?_)
    refine Dr.b3 (b_s_l01Cur_pick _ _ _ _ (curB_iff.2 ⟨hf, by omega, by omega, by omega, by omega⟩)) (fun y3 a3 s3 hy3 => ?_)
    refine Dr.b3 (b_s_l01Cur_text _ _ _ _ ((Bool.and_eq_true _ _).mpr ⟨curB_iff.2 ⟨hf, by omega, by omega, by omega, by omega⟩, by rfl⟩)) (fun u a4 s4 hu => ?_)
    obtain ⟨⟨hu1, hu2⟩, hu3⟩ := hu
    refine Dr.b3 (b_s_l01Cur_pick _ _ _ _ (curB_iff.2 ⟨hf, by omega, by omega, by omega, by omega⟩)) (fun k a5 s5 hk => ?_)
    refine Dr.bif (fun _ => ?_) (fun _ => Dr.bif (fun _ => ?_) (fun _ => Dr.bif (fun _ => ?_) (fun _ => ?_)))
    · refine Dr.b3 (b_s_l01Cur_raw _ _ _ (curB_iff.2 ⟨hf, by omega, by omega, by omega, by omega⟩)) (fun w a6 s6 hw => ?_)
      exact Dr.leafN ⟨_, _, _, _, _, _, ⟨⟨hu1, by omega⟩, by omega, by omega, by omega, by omega⟩, rfl⟩ rfl
    · refine Dr.b3 (b_s_l01Cur_raw _ _ _ (curB_iff.2 ⟨hf, by omega, by omega, by omega, by omega⟩)) (fun w a6 s6 hw => ?_)
      refine Dr.b3 (b_s_l01Cur_pick _ _ _ _ (curB_iff.2 ⟨hf, by omega, by omega, by omega, by omega⟩)) (fun v a7 s7 hv => ?_)
      refine Dr.must (pick3r ⟨by omega, by omega⟩ _ _ _) ?_
      exact Dr.leafN ⟨_, _, _, _, _, _, ⟨⟨hu1, by omega⟩, by omega, by omega, by omega, by omega⟩, rfl⟩ rfl
    · refine Dr.b3 (b_s_l01Cur_badText _ _ _ _ ((Bool.and_eq_true _ _).mpr ⟨curB_iff.2 ⟨hf, by omega, by omega, by omega, by omega⟩, by rfl⟩)) (fun v a6 s6 hv => ?_)
      obtain ⟨⟨hv1, hv2⟩, hv3⟩ := hv
      exact Dr.leafN ⟨_, _, _, _, _, _, ⟨⟨hv1, by omega⟩, by omega, by omega, by omega, by omega⟩, rfl⟩ rfl
    · exact Dr.leafN ⟨_, _, _, _, _, _, ⟨⟨hu1, by omega⟩, by omega, by omega, by omega, by omega⟩, rfl⟩ rfl
  · refine Dr.b3 (b_s_l01Cur_pick _ _ _ _ (curB_iff.2 ⟨hf, by omega, by omega, by omega, by omega⟩)) (fun k a5 s5 hk => ?_)
    refine Dr.bif (fun _ => ?_) (fun _ => Dr.bif (fun _ => ?_) (fun _ => Dr.bif (fun _ => ?_) (fun _ => ?_)))
    · refine Dr.b3 (b_s_l01Cur_raw _ _ _ (curB_iff.2 ⟨hf, by omega, by omega, by omega, by omega⟩)) (fun w a6 s6 hw => ?_)
      exact Dr.leafN ⟨_, _, _, _, _, _, ⟨⟨rfl, by simp only [List.length_nil]; omega⟩, by omega, by omega, by omega, by omega⟩, rfl⟩ rfl
    · refine Dr.b3 (b_s_l01Cur_raw _ _ _ (curB_iff.2 ⟨hf, by omega, by omega, by omega, by omega⟩)) (fun w a6 s6 hw => ?_)
      refine Dr.b3 (b_s_l01Cur_pick _ _ _ _ (curB_iff.2 ⟨hf, by omega, by omega, by omega, by omega⟩)) (fun v a7 s7 hv => ?_)
      refine Dr.must (pick3r ⟨by omega, by omega⟩ _ _ _) ?_
      exact Dr.leafN ⟨_, _, _, _, _, _, ⟨⟨rfl, by simp only [List.length_nil]; omega⟩, by omega, by omega, by omega, by omega⟩, rfl⟩ rfl
    · refine Dr.b3 (b_s_l01Cur_badText _ _ _ _ ((Bool.and_eq_true _ _).mpr ⟨curB_iff.2 ⟨hf, by omega, by omega, by omega, by omega⟩, by rfl⟩)) (fun v a6 s6 hv => ?_)
      obtain ⟨⟨hv1, hv2⟩, hv3⟩ := hv
      exact Dr.leafN ⟨_, _, _, _, _, _, ⟨⟨hv1, by omega⟩, by omega, by omega, by omega, by omega⟩, rfl⟩ rfl
    · exact Dr.leafN ⟨_, _, _, _, _, _, ⟨⟨rfl, by simp only [List.length_nil]; omega⟩, by omega, by omega, by omega, by omega⟩, rfl⟩ rfl
noncomputable def g_s_l01Cur_reply (cc : List Int) (ca : Int) (cs : Int) : Int × Int × Int × List Int × Int × Int := Classical.epsilon fun g => ((fitB (g).2.2.2.1 = true ∧ (g).2.2.2.1.length ≤ 600) ∧ 0 ≤ (g).2.2.2.2.1 ∧ (g).2.2.2.2.1 ≤ ca + 300 ∧ 0 ≤ (g).2.2.2.2.2 ∧ (g).2.2.2.2.2 < 65536) ∧ ∀ K : Ret → Option Ret, T_s_l01Cur_reply cc ca cs (noK K) = K (.a [.s (.int .i64 (g).1), .s (.int .i64 (g).2.1), .s (.int .i64 (g).2.2.1), .l .no bytesR (g).2.2.2.1], [.io [.l .no bytesR cc, .s (.int .i64 (g).2.2.2.2.1), .s (.int .i64 (g).2.2.2.2.2)]])
theorem gs_s_l01Cur_reply (cc : List Int) (ca : Int) (cs : Int) (h : (curB 500000000000000000 cc ca cs) = true) : ((fitB (g_s_l01Cur_reply cc ca cs).2.2.2.1 = true ∧ (g_s_l01Cur_reply cc ca cs).2.2.2.1.length ≤ 600) ∧ 0 ≤ (g_s_l01Cur_reply cc ca cs).2.2.2.2.1 ∧ (g_s_l01Cur_reply cc ca cs).2.2.2.2.1 ≤ ca + 300 ∧ 0 ≤ (g_s_l01Cur_reply cc ca cs).2.2.2.2.2 ∧ (g_s_l01Cur_reply cc ca cs).2.2.2.2.2 < 65536) ∧ ∀ K : Ret → Option Ret, T_s_l01Cur_reply cc ca cs (noK K) = K (.a [.s (.int .i64 (g_s_l01Cur_reply cc ca cs).1), .s (.int .i64 (g_s_l01Cur_reply cc ca cs).2.1), .s (.int .i64 (g_s_l01Cur_reply cc ca cs).2.2.1), .l .no bytesR (g_s_l01Cur_reply cc ca cs).2.2.2.1], [.io [.l .no bytesR cc, .s (.int .i64 (g_s_l01Cur_reply cc ca cs).2.2.2.2.1), .s (.int .i64 (g_s_l01Cur_reply cc ca cs).2.2.2.2.2)]]) := by
  obtain ⟨y0, y1, y2, t, a, s, hy, hk⟩ := x_s_l01Cur_reply cc ca cs h
  exact Classical.epsilon_spec (p := fun g : Int × Int × Int × List Int × Int × Int => ((fitB (g).2.2.2.1 = true ∧ (g).2.2.2.1.length ≤ 600) ∧ 0 ≤ (g).2.2.2.2.1 ∧ (g).2.2.2.2.1 ≤ ca + 300 ∧ 0 ≤ (g).2.2.2.2.2 ∧ (g).2.2.2.2.2 < 65536) ∧ ∀ K : Ret → Option Ret, T_s_l01Cur_reply cc ca cs (noK K) = K (.a [.s (.int .i64 (g).1), .s (.int .i64 (g).2.1), .s (.int .i64 (g).2.2.1), .l .no bytesR (g).2.2.2.1], [.io [.l .no bytesR cc, .s (.int .i64 (g).2.2.2.2.1), .s (.int .i64 (g).2.2.2.2.2)]])) ⟨⟨y0, y1, y2, t, a, s⟩, hy, hk⟩
noncomputable def B_s_l01Cur_reply (cc : List Int) (ca : Int) (cs : Int) (k : (Int) → (Int) → (Int) → (List Int) → (Int) → (Int) → Option Ret) : Option Ret := bif curB 500000000000000000 cc ca cs then k (g_s_l01Cur_reply cc ca cs).1 (g_s_l01Cur_reply cc ca cs).2.1 (g_s_l01Cur_reply cc ca cs).2.2.1 (g_s_l01Cur_reply cc ca cs).2.2.2.1 (g_s_l01Cur_reply cc ca cs).2.2.2.2.1 (g_s_l01Cur_reply cc ca cs).2.2.2.2.2 else none
theorem b_s_l01Cur_reply (cc : List Int) (ca : Int) (cs : Int) (h : (curB 500000000000000000 cc ca cs) = true) : ∃ (y0 : Int) (y1 : Int) (y2 : Int) (t : List Int) (a : Int) (s : Int), ((fitB t = true ∧ t.length ≤ 600) ∧ 0 ≤ a ∧ a ≤ ca + 300 ∧ 0 ≤ s ∧ s < 65536) ∧ ∀ k, B_s_l01Cur_reply cc ca cs k = k y0 y1 y2 t a s :=
  ⟨(g_s_l01Cur_reply cc ca cs).1, (g_s_l01Cur_reply cc ca cs).2.1, (g_s_l01Cur_reply cc ca cs).2.2.1, (g_s_l01Cur_reply cc ca cs).2.2.2.1, (g_s_l01Cur_reply cc ca cs).2.2.2.2.1, (g_s_l01Cur_reply cc ca cs).2.2.2.2.2, (gs_s_l01Cur_reply cc ca cs h).1, fun k => by unfold B_s_l01Cur_reply; rw [h]; rfl⟩
def SB_s_l01Cur_reply (B : (List Int) → (Int) → (Int) → ((Int) → (Int) → (Int) → (List Int) → (Int) → (Int) → Option Ret) → Option Ret) : Sm := S_B [.sh (.io (.cons (.l .no bytesR) (.cons (.int .i64) (.cons (.int .i64) .nil))))] (fun d K => B d.1.1 d.1.2.1 d.1.2.2.1 (fun y0 y1 y2 t a s => K (.a [.s (.int .i64 y0), .s (.int .i64 y1), .s (.int .i64 y2), .l .no bytesR t], [.io [.l .no bytesR d.1.1, .s (.int .i64 a), .s (.int .i64 s)]])))
theorem okS_s_l01Cur_reply : OkFn prog I N.s_l01Cur_reply false (SB_s_l01Cur_reply B_s_l01Cur_reply) := okN (OkFn.no (ok_fn (fresh := false) (memc okS_s_l01Cur_pick (memc okS_s_l01Cur_text (memc okS_s_l01Cur_raw (memc okS_s_l01Cur_badText mem0)))) (l := ls_s_l01Cur_reply) (p := []) (ls := []) (lend := []) (focus := false) (fuel := 0) (give := []) (fn := F.s_l01Cur_reply) (by kernel_rfl) (by kernel_rfl) (by kernel_rfl) (by kernel_rfl) (cs := []) (by kernel_rfl) loops0)) (S_B_of fun d K q hq => by
  refine (e_s_l01Cur_reply d.1.1 d.1.2.1 d.1.2.2.1 (noK K)).trans ?_
  unfold B_s_l01Cur_reply at hq
  cases hp : (curB 500000000000000000 d.1.1 d.1.2.1 d.1.2.2.1) with
  | false => rw [hp] at hq; cases hq
  | true =>
    rw [hp] at hq
    exact ((gs_s_l01Cur_reply d.1.1 d.1.2.1 d.1.2.2.1 hp).2 K).trans hq)
end Go.Ev.Seat
end
section
/- s_DrawReplyBytes: its contract. -/
namespace Go.Ev.Seat
open Go.RowKit
set_option maxRecDepth 100000
set_option linter.unusedVariables false
set_option linter.unusedSimpArgs false
noncomputable abbrev ls_s_DrawReplyBytes : List (Nat × Bool × Sm) := [(N.s_l01Open, false, S_s_l01Open), (N.s_l01Cur_reply, false, (SB_s_l01Cur_reply B_s_l01Cur_reply))]
noncomputable abbrev E_s_DrawReplyBytes : Env := En ls_s_DrawReplyBytes [] [] [] false 0 []
noncomputable def T_s_DrawReplyBytes (code : List Int) (K : Ret → Option Ret) : Option Ret := (bif (fitB code) then (B_s_l01Cur_reply code (0 : Int) (seedD code) (fun y0 y1 y2 y3 y4 y5 => K ((.a [(.s (.int .i64 y0)), (.s (.int .i64 y1)), (.s (.int .i64 y2)), (.l .no bytesR y3)]), []))) else none)
theorem e_s_DrawReplyBytes (code : List Int) (K : Ret → Option Ret) : evF E_s_DrawReplyBytes false F.s_DrawReplyBytes [.l .no bytesR code] K = T_s_DrawReplyBytes code K := by kernel_rfl
theorem x_s_DrawReplyBytes (code : List Int) (h : (fitB code) = true) : ∃ (y0 : Int) (y1 : Int) (y2 : Int) (t : List Int), (fitB t = true) ∧ ∀ K : Ret → Option Ret, T_s_DrawReplyBytes code (noK K) = K (.a [.s (.int .i64 y0), .s (.int .i64 y1), .s (.int .i64 y2), .l .no bytesR t], []) := by
  suffices hd : Dr (fun r : Ret => ∃ (y0 : Int) (y1 : Int) (y2 : Int) (t : List Int), (fitB t = true) ∧ r = (.a [.s (.int .i64 y0), .s (.int .i64 y1), .s (.int .i64 y2), .l .no bytesR t], [])) (fun K : Ret → Option Ret => T_s_DrawReplyBytes code (noK K)) by
    obtain ⟨_, ⟨y0, y1, y2, t, hp, rfl⟩, hk⟩ := hd
    exact ⟨y0, y1, y2, t, hp, hk⟩
  have hs : 0 ≤ seedD code ∧ seedD code < 65536 := by unfold seedD; omega
  have hl := fitB_len h
  unfold T_s_DrawReplyBytes
  refine Dr.must h ?_
  refine Dr.b6 (b_s_l01Cur_reply _ _ _ (curB_iff.2 ⟨h, by omega, by omega, by omega, by omega⟩)) (fun y0 y1 y2 t a0 s0 hy0 => ?_)
  exact Dr.leafN ⟨_, _, _, _, hy0.1.1, rfl⟩ rfl
noncomputable def g_s_DrawReplyBytes (code : List Int) : Int × Int × Int × List Int := Classical.epsilon fun g => (fitB (g).2.2.2 = true) ∧ ∀ K : Ret → Option Ret, T_s_DrawReplyBytes code (noK K) = K (.a [.s (.int .i64 (g).1), .s (.int .i64 (g).2.1), .s (.int .i64 (g).2.2.1), .l .no bytesR (g).2.2.2], [])
theorem gs_s_DrawReplyBytes (code : List Int) (h : (fitB code) = true) : (fitB (g_s_DrawReplyBytes code).2.2.2 = true) ∧ ∀ K : Ret → Option Ret, T_s_DrawReplyBytes code (noK K) = K (.a [.s (.int .i64 (g_s_DrawReplyBytes code).1), .s (.int .i64 (g_s_DrawReplyBytes code).2.1), .s (.int .i64 (g_s_DrawReplyBytes code).2.2.1), .l .no bytesR (g_s_DrawReplyBytes code).2.2.2], []) := by
  obtain ⟨y0, y1, y2, t, hy, hk⟩ := x_s_DrawReplyBytes code h
  exact Classical.epsilon_spec (p := fun g : Int × Int × Int × List Int => (fitB (g).2.2.2 = true) ∧ ∀ K : Ret → Option Ret, T_s_DrawReplyBytes code (noK K) = K (.a [.s (.int .i64 (g).1), .s (.int .i64 (g).2.1), .s (.int .i64 (g).2.2.1), .l .no bytesR (g).2.2.2], [])) ⟨⟨y0, y1, y2, t⟩, hy, hk⟩
noncomputable def B_s_DrawReplyBytes (code : List Int) (k : (Int) → (Int) → (Int) → (List Int) → Option Ret) : Option Ret := bif fitB code then k (g_s_DrawReplyBytes code).1 (g_s_DrawReplyBytes code).2.1 (g_s_DrawReplyBytes code).2.2.1 (g_s_DrawReplyBytes code).2.2.2 else none
theorem b_s_DrawReplyBytes (code : List Int) (h : (fitB code) = true) : ∃ (y0 : Int) (y1 : Int) (y2 : Int) (t : List Int), (fitB t = true) ∧ ∀ k, B_s_DrawReplyBytes code k = k y0 y1 y2 t :=
  ⟨(g_s_DrawReplyBytes code).1, (g_s_DrawReplyBytes code).2.1, (g_s_DrawReplyBytes code).2.2.1, (g_s_DrawReplyBytes code).2.2.2, (gs_s_DrawReplyBytes code h).1, fun k => by unfold B_s_DrawReplyBytes; rw [h]; rfl⟩
def SB_s_DrawReplyBytes (B : (List Int) → ((Int) → (Int) → (Int) → (List Int) → Option Ret) → Option Ret) : Sm := S_B [.l bytesR] (fun d K => B d.1 (fun y0 y1 y2 t => K (.a [.s (.int .i64 y0), .s (.int .i64 y1), .s (.int .i64 y2), .l .no bytesR t], [])))
theorem okS_s_DrawReplyBytes : OkFn prog I N.s_DrawReplyBytes false (SB_s_DrawReplyBytes B_s_DrawReplyBytes) := okN (OkFn.no (ok_fn (fresh := false) (memc okS_s_l01Open (memc okS_s_l01Cur_reply mem0)) (l := ls_s_DrawReplyBytes) (p := []) (ls := []) (lend := []) (focus := false) (fuel := 0) (give := []) (fn := F.s_DrawReplyBytes) (by kernel_rfl) (by kernel_rfl) (by kernel_rfl) (by kernel_rfl) (cs := []) (by kernel_rfl) loops0)) (S_B_of fun d K q hq => by
  refine (e_s_DrawReplyBytes d.1 (noK K)).trans ?_
  unfold B_s_DrawReplyBytes at hq
  cases hp : (fitB d.1) with
  | false => rw [hp] at hq; cases hq
  | true =>
    rw [hp] at hq
    exact ((gs_s_DrawReplyBytes d.1 hp).2 K).trans hq)
end Go.Ev.Seat
end
section
/- i_isReply: its contract. -/
namespace Go.Ev.Seat
open Go.RowKit
set_option maxRecDepth 100000
set_option linter.unusedVariables false
set_option linter.unusedSimpArgs false
noncomputable abbrev ls_i_isReply : List (Nat × Bool × Sm) := [(N.i_in, true, S_i_in), (N.i_isWord, true, S_i_isWord), (N.i_isText, true, S_i_isText)]
noncomputable abbrev E_i_isReply : Env := En ls_i_isReply [] [] [] false 0 []
noncomputable def T_i_isReply (r : T_Reply) (K : Ret → Option Ret) : Option Ret := (bif (r.1 != (0 : Int)) then (bif ((decide ((0 : Int) ≤ r.1)) && (decide (r.1 ≤ (10 : Int)))) then (bif (r.2.1 == (0 : Int)) then (bif (r.2.2.1 == (0 : Int)) then K ((.s (.bool ((((List.length r.2.2.2) : Nat) : Int) == (0 : Int)))), []) else K ((.s (.bool false)), [])) else K ((.s (.bool false)), [])) else K ((.s (.bool false)), [])) else (bif (isWordD r.2.1) then (bif (isWordD r.2.2.1) then (bif (fitB r.2.2.2) then K ((.s (.bool (textOk r.2.2.2))), []) else none) else K ((.s (.bool false)), [])) else K ((.s (.bool false)), [])))
theorem e_i_isReply (r : T_Reply) (K : Ret → Option Ret) : evF E_i_isReply true F.i_isReply [.a (replyR.cells .no r)] K = T_i_isReply r K := by kernel_rfl
def S_i_isReply : Sm := S_fnR [.a replyR] (fun d => fitB d.1.2.2.2) (fun d => (bl (replyOkD d.1), []))
theorem v_i_isReply (r : T_Reply) (h : (fitB r.2.2.2) = true) (K : Ret → Option Ret) : T_i_isReply r K = K (bl (replyOkD r), []) := by
  unfold T_i_isReply replyOkD
  rw [h]
  by_cases h1 : r.1 = 0
  · rw [h1]
    cases isWordD r.2.1 <;> cases isWordD r.2.2.1 <;> cases textOk r.2.2.2 <;> rfl
  rw [show (r.1 != 0) = true from by simp [h1], show (r.1 == 0) = false from by simp [h1]]
  by_cases h2 : 0 ≤ r.1
  case neg => rw [decide_eq_false h2]; rfl
  by_cases h3 : r.1 ≤ 10
  case neg => rw [decide_eq_true h2, decide_eq_false h3]; rfl
  rw [decide_eq_true h2, decide_eq_true h3]
  by_cases h4 : r.2.1 = 0
  case neg =>
    rw [show (r.2.1 == 0) = false from by simp [h4]]
    cases isWordD r.2.1 <;> cases isWordD r.2.2.1 <;> cases textOk r.2.2.2 <;> rfl
  by_cases h5 : r.2.2.1 = 0
  case neg =>
    rw [h4, show (r.2.2.1 == 0) = false from by simp [h5]]
    cases isWordD r.2.2.1 <;> cases textOk r.2.2.2 <;> rfl
  rw [h4, h5]
  cases hl : (((List.length r.2.2.2 : Nat) : Int) == 0) with
  | true =>
    have : r.2.2.2 = [] := List.length_eq_zero_iff.1 (by have := beq_iff_eq.1 hl; omega)
    rw [this, textOk_iff.2 ⟨by simp, valid_nil⟩]; rfl
  | false => cases textOk r.2.2.2 <;> rfl
theorem okS_i_isReply : OkFn prog I N.i_isReply true S_i_isReply := okN (ok_fn (memc okS_i_in (memc okS_i_isWord (memc okS_i_isText mem0))) (l := ls_i_isReply) (p := []) (ls := []) (lend := []) (focus := false) (fuel := 0) (give := []) (fn := F.i_isReply) (by kernel_rfl) (by kernel_rfl) (by kernel_rfl) (by kernel_rfl) (cs := []) (by kernel_rfl) loops0) (S_fnR_of fun d K h => (e_i_isReply d.1 K).trans (v_i_isReply d.1 h K))
end Go.Ev.Seat
end
section
/- i_ReplyBytes: its contract. -/
namespace Go.Ev.Seat
open Go.RowKit
set_option maxRecDepth 100000
set_option linter.unusedVariables false
set_option linter.unusedSimpArgs false
noncomputable abbrev pl_i_ReplyBytes : List (Nat × Plan × List Nat) := [(3, takeB [0, 1, 2, 4, 5, 7, 8, 10, 11, 12, 14, 15] (.fork (.more 3 (.fork (.one 6 (.fork (.one 9 (.fork (.one 13 (.fork (.one 16 (.fork (.one 17 (takes [18]))))))))))) (.one 6 (.fork (.more 3 (.fork (.one 9 (.fork (.one 13 (.fork (.one 16 (.fork (.one 17 (takes [18]))))))))) (.one 9 (.fork (.more 3 (.fork (.one 13 (.fork (.one 16 (.fork (.one 17 (takes [18]))))))) (.one 13 (.fork (.one 3 (.fork (.one 16 (.fork (.one 17 (takes [18])))))))))))))))), [])]
noncomputable abbrev ls_i_ReplyBytes : List (Nat × Bool × Sm) := [(N.i_isReply, true, S_i_isReply), (N.i_word, true, S_i_word), (N.slices_Concat_bytes_byte, true, S_concat)]
noncomputable abbrev E_i_ReplyBytes : Env := En ls_i_ReplyBytes pl_i_ReplyBytes [] [] false 0 []
noncomputable def T_i_ReplyBytes (r : T_Reply) (K : Ret → Option Ret) : Option Ret := (bif (fitB r.2.2.2) then (bif (!(replyOkD r)) then K ((.l .deep bytesR ([] : List Int)), []) else (meet ((bif (isWordD r.2.1) then (bif (isWordD r.2.2.1) then (bif (isWordD (((List.length r.2.2.2) : Nat) : Int)) then (bif (Nat.ble (sumW List.length (((IntKind.wrap .u8 r.1) :: ([] : List Int)) :: ((wordD r.2.1) :: ((wordD r.2.2.1) :: ((wordD (((List.length r.2.2.2) : Nat) : Int)) :: (r.2.2.2 :: [])))))) 1099511627776) then K ((.l .deep bytesR (List.flatten (((IntKind.wrap .u8 r.1) :: ([] : List Int)) :: ((wordD r.2.1) :: ((wordD r.2.2.1) :: ((wordD (((List.length r.2.2.2) : Nat) : Int)) :: (r.2.2.2 :: []))))))), []) else none) else none) else none) else none)) ((bif (isWordD r.2.1) then (meet ((bif (isWordD r.2.2.1) then (bif (isWordD (((List.length r.2.2.2) : Nat) : Int)) then (bif (Nat.ble (sumW List.length (((IntKind.wrap .u8 r.1) :: ([] : List Int)) :: ((wordD r.2.1) :: ((wordD r.2.2.1) :: ((wordD (((List.length r.2.2.2) : Nat) : Int)) :: (r.2.2.2 :: [])))))) 1099511627776) then K ((.l .deep bytesR (List.flatten (((IntKind.wrap .u8 r.1) :: ([] : List Int)) :: ((wordD r.2.1) :: ((wordD r.2.2.1) :: ((wordD (((List.length r.2.2.2) : Nat) : Int)) :: (r.2.2.2 :: []))))))), []) else none) else none) else none)) ((bif (isWordD r.2.2.1) then (meet ((bif (isWordD (((List.length r.2.2.2) : Nat) : Int)) then (bif (Nat.ble (sumW List.length (((IntKind.wrap .u8 r.1) :: ([] : List Int)) :: ((wordD r.2.1) :: ((wordD r.2.2.1) :: ((wordD (((List.length r.2.2.2) : Nat) : Int)) :: (r.2.2.2 :: [])))))) 1099511627776) then K ((.l .deep bytesR (List.flatten (((IntKind.wrap .u8 r.1) :: ([] : List Int)) :: ((wordD r.2.1) :: ((wordD r.2.2.1) :: ((wordD (((List.length r.2.2.2) : Nat) : Int)) :: (r.2.2.2 :: []))))))), []) else none) else none)) ((bif (isWordD (((List.length r.2.2.2) : Nat) : Int)) then (bif (Nat.ble (sumW List.length (((IntKind.wrap .u8 r.1) :: ([] : List Int)) :: ((wordD r.2.1) :: ((wordD r.2.2.1) :: ((wordD (((List.length r.2.2.2) : Nat) : Int)) :: (r.2.2.2 :: [])))))) 1099511627776) then K ((.l .deep bytesR (List.flatten (((IntKind.wrap .u8 r.1) :: ([] : List Int)) :: ((wordD r.2.1) :: ((wordD r.2.2.1) :: ((wordD (((List.length r.2.2.2) : Nat) : Int)) :: (r.2.2.2 :: []))))))), []) else none) else none))) else none))) else none)))) else none)
theorem e_i_ReplyBytes (r : T_Reply) (K : Ret → Option Ret) : evF E_i_ReplyBytes true F.i_ReplyBytes [.a (replyR.cells .no r)] K = T_i_ReplyBytes r K := by kernel_rfl
def S_i_ReplyBytes : Sm := S_fnR [.a replyR] (fun d => fitB d.1.2.2.2) (fun d => (.l .deep bytesR (replyBytesD d.1), []))
theorem v_i_ReplyBytes (r : T_Reply) (h : (fitB r.2.2.2) = true) (K : Ret → Option Ret) : T_i_ReplyBytes r K = K (.l .deep bytesR (replyBytesD r), []) := by
  unfold T_i_ReplyBytes replyBytesD
  rw [h]
  cases hk : replyOkD r with
  | false => rfl
  | true =>
  have hk' := hk
  unfold replyOkD at hk'
  simp only [Bool.and_eq_true, decide_eq_true_eq] at hk'
  obtain ⟨⟨⟨⟨⟨a0, a1⟩, q1⟩, q2⟩, q3⟩, _⟩ := hk'
  have l1 := (textOk_iff.1 q3).1
  have q4 : isWordD ((r.2.2.2.length : Nat) : Int) = true := isWordD_iff.2 (by omega)
  rw [q1, q2, q4, wrap8_mod, Int.emod_eq_of_lt a0 (by omega)]
  simp only [cond_true, meet_self]
  rw [Nat.ble_eq_true_of_le (by simp [wordD, sumW]; omega)]
  simp [wordD]
theorem okS_i_ReplyBytes : OkFn prog I N.i_ReplyBytes true S_i_ReplyBytes := okN (ok_fn (memc okS_i_isReply (memc okS_i_word (memc okS_Concat mem0))) (l := ls_i_ReplyBytes) (p := pl_i_ReplyBytes) (ls := []) (lend := []) (focus := false) (fuel := 0) (give := []) (fn := F.i_ReplyBytes) (by kernel_rfl) (by kernel_rfl) (by kernel_rfl) (by kernel_rfl) (cs := []) (by kernel_rfl) loops0) (S_fnR_of fun d K h => (e_i_ReplyBytes d.1 K).trans (v_i_ReplyBytes d.1 h K))
end Go.Ev.Seat
end
section
/- s_l09Word: its contract. -/
namespace Go.Ev.Seat
open Go.RowKit
set_option maxRecDepth 100000
set_option linter.unusedVariables false
set_option linter.unusedSimpArgs false
noncomputable abbrev E_s_l09Word : Env := En [] [] [] [] false 0 []
noncomputable def T_s_l09Word (n : Int) (K : Ret → Option Ret) : Option Ret := (bif (decide (n ≥ (0 : Int))) then K ((.s (.bool (decide (n ≤ (65535 : Int))))), []) else K ((.s (.bool false)), []))
theorem e_s_l09Word (n : Int) (K : Ret → Option Ret) : evF E_s_l09Word true F.s_l09Word [.s (.int .i64 n)] K = T_s_l09Word n K := by kernel_rfl
def S_s_l09Word : Sm := S_fnR [.i] (fun d => true) (fun d => (bl (isWordD d.1), []))
theorem v_s_l09Word (n : Int) (K : Ret → Option Ret) : T_s_l09Word n K = K (bl (isWordD n), []) := by
  unfold T_s_l09Word isWordD
  by_cases h : n ≥ 0
  · rw [decide_eq_true h]; rfl
  · rw [decide_eq_false h]; rfl
theorem okS_s_l09Word : OkFn prog I N.s_l09Word true S_s_l09Word := okN (ok_fn mem0 (l := []) (p := []) (ls := []) (lend := []) (focus := false) (fuel := 0) (give := []) (fn := F.s_l09Word) (by kernel_rfl) (by kernel_rfl) (by kernel_rfl) (by kernel_rfl) (cs := []) (by kernel_rfl) loops0) (S_fnR_of fun d K h => (e_s_l09Word d.1 K).trans (v_s_l09Word d.1 K))
end Go.Ev.Seat
end
section
/- s_l01Rune: its contract. -/
namespace Go.Ev.Seat
open Go.RowKit
set_option maxRecDepth 100000
set_option linter.unusedVariables false
set_option linter.unusedSimpArgs false
def z_s_l01Rune_18_0 (x0 : List Int) (x1 : Int) (x7 : Int) (x8 : Int) : St := { tm := ([(.l .no bytesR x0), (.s (.int .i64 x1)), .x, .x, .x, .x, .x, (.s (.int .i64 x7)), (.s (.int .i64 x8))] ++ List.replicate 65 .x), ob := [], nx := 0, io := [] }
def sh_s_l01Rune_18_0 : Ss := { tm := (.cons (.l .no bytesR) (.cons (.int .i64) (.cons (.x) (.cons (.x) (.cons (.x) (.cons (.x) (.cons (.x) (.cons (.int .i64) (.cons (.int .i64) (.cons (.int .i64) (xsh 64))))))))))), ob := .nil, nx := 0, io := .nil }
def d_s_l01Rune_18_0 (x0 : List Int) (x1 : Int) (x7 : Int) (x8 : Int) (x9 : Int) : sh_s_l01Rune_18_0.T := ((x0, (x1, ((), ((), ((), ((), ((), (x7, (x8, (x9, xd 64)))))))))), (), ())
def s_s_l01Rune_18_0 (x0 : List Int) (x1 : Int) (x7 : Int) (x8 : Int) (x9 : Int) : St := { tm := ([(.l .no bytesR x0), (.s (.int .i64 x1)), .x, .x, .x, .x, .x, (.s (.int .i64 x7)), (.s (.int .i64 x8)), (.s (.int .i64 x9))] ++ List.replicate 64 .x), ob := [], nx := 0, io := [] }
theorem se_s_l01Rune_18_0 (x0 : List Int) (x1 : Int) (x7 : Int) (x8 : Int) (x9 : Int) : sh_s_l01Rune_18_0.mk' (d_s_l01Rune_18_0 x0 x1 x7 x8 x9) = (s_s_l01Rune_18_0 x0 x1 x7 x8 x9) := by kernel_rfl
def w_s_l01Rune_18_0 (d : sh_s_l01Rune_18_0.T) (f : (List Int) → Int → Int → Int → Int → Option Ret) : Option Ret := match d with | ((x0, (x1, (_, (_, (_, (_, (_, (x7, (x8, (x9, _)))))))))), _, _) => f x0 x1 x7 x8 x9
noncomputable def P_s_l01Rune_18_0 (x0 : List Int) (x1 : Int) (x7 : Int) (x8 : Int) (x9 : Int) (nx0 : (List Int) → Int → Int → Int → Int → Option Ret) (k0 : (List Int) → Int → Int → Int → Option Ret) : Option Ret := (bif (decide (x9 < x7)) then (bif ((decide ((0 : Int) ≤ (IntKind.wrap .i64 (x1 + x9)))) && (decide ((IntKind.wrap .i64 (x1 + x9)) < (((List.length x0) : Nat) : Int)))) then (nx0 x0 x1 x7 (IntKind.wrap .i64 ((IntKind.wrap .i64 ((IntKind.wrap .i64 ((64 : Int) * x8)) + (IntKind.wrap .i64 (List.getD x0 (Int.toNat (IntKind.wrap .i64 (x1 + x9))) (0 : Int))))) - (128 : Int))) (IntKind.wrap .i64 (x9 + (1 : Int)))) else none) else (k0 x0 x1 x7 x8))
noncomputable def Q_s_l01Rune_18_0 : Nat → (List Int) → Int → Int → Int → Int → ((List Int) → Int → Int → Int → Option Ret) → Option Ret
  | 0, _, _, _, _, _, _ => none
  | m + 1, x0, x1, x7, x8, x9, k0 => P_s_l01Rune_18_0 x0 x1 x7 x8 x9 (fun x0 x1 x7 x8 x9 => (Q_s_l01Rune_18_0 m x0 x1 x7 x8 x9 k0)) k0
noncomputable def R_s_l01Rune_18_0 (x0 : List Int) (x1 : Int) (x7 : Int) (x8 : Int) (x9 : Int) (k0 : (List Int) → Int → Int → Int → Option Ret) : Option Ret := Q_s_l01Rune_18_0 (List.length x0 + x1.toNat + x7.toNat + x8.toNat + x9.toNat + 2) x0 x1 x7 x8 x9 k0
noncomputable def W_s_l01Rune_18 : LoopFn := (fun (σ : St) (K : Ex → St → Option Ret) => (match sh_s_l01Rune_18_0.un σ with | some d => w_s_l01Rune_18_0 d (fun x0 x1 x7 x8 x9 => R_s_l01Rune_18_0 x0 x1 x7 x8 x9 (fun x0 x1 x7 x8 => (K (.ext 1) (z_s_l01Rune_18_0 x0 x1 x7 x8)))) | none => none))
noncomputable abbrev pl_s_l01Rune : List (Nat × Plan × List Nat) := [(21, takeB [0, 3, 4, 5, 6, 7, 8] (.fork (.more 1 (.fork (.more 2 (.fork (.one 9 (takes [10]))) (.one 9 (.fork (.one 2 (takes [10])))))) (.one 9 (.fork (.one 1 (.fork (.one 2 (takes [10])))))))), [])]
noncomputable abbrev ls_s_l01Rune : List (Nat × Bool × Sm) := [(N.s_RuneBytes, true, S_s_RuneBytes)]
noncomputable abbrev E_s_l01Rune : Env := En ls_s_l01Rune pl_s_l01Rune [(18, [0,1,7,8,9], [0,1,4,5,7,8], W_s_l01Rune_18)] [] false 0 []
noncomputable abbrev U_s_l01Rune_18 := rounds (run E_s_l01Rune (bodyOf F.s_l01Rune 18)) [0,1,7,8,9] [0,1,4,5,7,8]
theorem st_s_l01Rune_18_0 (m : Nat) (x0 : List Int) (x1 : Int) (x7 : Int) (x8 : Int) (x9 : Int) (K : Ex → St → Option Ret) : U_s_l01Rune_18 (m + 1) (s_s_l01Rune_18_0 x0 x1 x7 x8 x9) K = P_s_l01Rune_18_0 x0 x1 x7 x8 x9 (fun x0 x1 x7 x8 x9 => (U_s_l01Rune_18 m (s_s_l01Rune_18_0 x0 x1 x7 x8 x9) K)) (fun x0 x1 x7 x8 => (K (.ext 1) (z_s_l01Rune_18_0 x0 x1 x7 x8))) := by kernel_rfl
theorem q_s_l01Rune_18 (K : Ex → St → Option Ret) : ∀ m : Nat, (∀ (x0 : List Int) (x1 : Int) (x7 : Int) (x8 : Int) (x9 : Int), U_s_l01Rune_18 m (s_s_l01Rune_18_0 x0 x1 x7 x8 x9) K = Q_s_l01Rune_18_0 m x0 x1 x7 x8 x9 (fun x0 x1 x7 x8 => (K (.ext 1) (z_s_l01Rune_18_0 x0 x1 x7 x8))))
  | 0 => (fun _ _ _ _ _ => rfl)
  | m + 1 => (fun x0 x1 x7 x8 x9 => (by rw [st_s_l01Rune_18_0, show (fun x0 x1 x7 x8 x9 => (U_s_l01Rune_18 m (s_s_l01Rune_18_0 x0 x1 x7 x8 x9) K)) = (fun x0 x1 x7 x8 x9 => (Q_s_l01Rune_18_0 m x0 x1 x7 x8 x9 (fun x0 x1 x7 x8 => (K (.ext 1) (z_s_l01Rune_18_0 x0 x1 x7 x8))))) from funext fun x0 => funext fun x1 => funext fun x7 => funext fun x8 => funext fun x9 => (q_s_l01Rune_18 K m) x0 x1 x7 x8 x9]; rfl))
theorem loopK_s_l01Rune_18 : LoopOk E_s_l01Rune (bodyOf F.s_l01Rune 18) := by
  refine loopW_ok (n := 18) (F := W_s_l01Rune_18) (by kernel_rfl) rfl (li := [0,1,7,8,9]) (lo := [0,1,4,5,7,8]) rfl (fun σ K r hr => ?_)
  unfold W_s_l01Rune_18 at hr
  split at hr
  · rename_i d hd
    rw [Ss.un_mk hd]
    exact ⟨_, ((congrArg (fun z => U_s_l01Rune_18 _ z K) (se_s_l01Rune_18_0 _ _ _ _ _)).trans ((q_s_l01Rune_18 K _) _ _ _ _ _)).trans hr⟩
  · cases hr
noncomputable def T_s_l01Rune (d : List Int) (k : Int) (K : Ret → Option Ret) : Option Ret := (bif (decide (k < (0 : Int))) then K ((.t [(.s (.int .i64 (-(1 : Int)))), (.s (.int .i64 (0 : Int)))]), []) else (bif (decide (k ≥ (((List.length d) : Nat) : Int))) then K ((.t [(.s (.int .i64 (-(1 : Int)))), (.s (.int .i64 (0 : Int)))]), []) else (bif ((decide ((0 : Int) ≤ k)) && (decide (k < (((List.length d) : Nat) : Int)))) then (bif (decide ((IntKind.wrap .i64 (List.getD d (Int.toNat k) (0 : Int))) ≥ (240 : Int))) then (bif (decide ((4 : Int) > (IntKind.wrap .i64 ((((List.length d) : Nat) : Int) - k)))) then K ((.t [(.s (.int .i64 (-(1 : Int)))), (.s (.int .i64 (0 : Int)))]), []) else (R_s_l01Rune_18_0 d k (4 : Int) (IntKind.wrap .i64 ((IntKind.wrap .i64 (List.getD d (Int.toNat k) (0 : Int))) - (240 : Int))) (1 : Int) (fun y0 y1 y2 y3 => (bif (((decide ((0 : Int) ≤ y1)) && (decide (y1 ≤ (IntKind.wrap .i64 (y1 + y2))))) && (decide ((IntKind.wrap .i64 (y1 + y2)) ≤ (((List.length y0) : Nat) : Int)))) then (meet ((meet ((bif (!((ByteArray.toList (bstr (encD y3))) == (ByteArray.toList (bstr (List.drop (Int.toNat y1) (List.take (Int.toNat (IntKind.wrap .i64 (y1 + y2))) y0)))))) then K ((.t [(.s (.int .i64 (-(1 : Int)))), (.s (.int .i64 (0 : Int)))]), []) else K ((.t [(.s (.int .i64 y3)), (.s (.int .i64 y2))]), []))) ((bif (!((ByteArray.toList (bstr (encD y3))) == (ByteArray.toList (bstr (List.drop (Int.toNat y1) (List.take (Int.toNat (IntKind.wrap .i64 (y1 + y2))) y0)))))) then K ((.t [(.s (.int .i64 (-(1 : Int)))), (.s (.int .i64 (0 : Int)))]), []) else K ((.t [(.s (.int .i64 y3)), (.s (.int .i64 y2))]), []))))) ((bif (!((ByteArray.toList (bstr (encD y3))) == (ByteArray.toList (bstr (List.drop (Int.toNat y1) (List.take (Int.toNat (IntKind.wrap .i64 (y1 + y2))) y0)))))) then K ((.t [(.s (.int .i64 (-(1 : Int)))), (.s (.int .i64 (0 : Int)))]), []) else K ((.t [(.s (.int .i64 y3)), (.s (.int .i64 y2))]), [])))) else none)))) else (bif (decide ((IntKind.wrap .i64 (List.getD d (Int.toNat k) (0 : Int))) ≥ (224 : Int))) then (bif (decide ((3 : Int) > (IntKind.wrap .i64 ((((List.length d) : Nat) : Int) - k)))) then K ((.t [(.s (.int .i64 (-(1 : Int)))), (.s (.int .i64 (0 : Int)))]), []) else (R_s_l01Rune_18_0 d k (3 : Int) (IntKind.wrap .i64 ((IntKind.wrap .i64 (List.getD d (Int.toNat k) (0 : Int))) - (224 : Int))) (1 : Int) (fun y4 y5 y6 y7 => (bif (((decide ((0 : Int) ≤ y5)) && (decide (y5 ≤ (IntKind.wrap .i64 (y5 + y6))))) && (decide ((IntKind.wrap .i64 (y5 + y6)) ≤ (((List.length y4) : Nat) : Int)))) then (meet ((meet ((bif (!((ByteArray.toList (bstr (encD y7))) == (ByteArray.toList (bstr (List.drop (Int.toNat y5) (List.take (Int.toNat (IntKind.wrap .i64 (y5 + y6))) y4)))))) then K ((.t [(.s (.int .i64 (-(1 : Int)))), (.s (.int .i64 (0 : Int)))]), []) else K ((.t [(.s (.int .i64 y7)), (.s (.int .i64 y6))]), []))) ((bif (!((ByteArray.toList (bstr (encD y7))) == (ByteArray.toList (bstr (List.drop (Int.toNat y5) (List.take (Int.toNat (IntKind.wrap .i64 (y5 + y6))) y4)))))) then K ((.t [(.s (.int .i64 (-(1 : Int)))), (.s (.int .i64 (0 : Int)))]), []) else K ((.t [(.s (.int .i64 y7)), (.s (.int .i64 y6))]), []))))) ((bif (!((ByteArray.toList (bstr (encD y7))) == (ByteArray.toList (bstr (List.drop (Int.toNat y5) (List.take (Int.toNat (IntKind.wrap .i64 (y5 + y6))) y4)))))) then K ((.t [(.s (.int .i64 (-(1 : Int)))), (.s (.int .i64 (0 : Int)))]), []) else K ((.t [(.s (.int .i64 y7)), (.s (.int .i64 y6))]), [])))) else none)))) else (bif (decide ((IntKind.wrap .i64 (List.getD d (Int.toNat k) (0 : Int))) ≥ (192 : Int))) then (bif (decide ((2 : Int) > (IntKind.wrap .i64 ((((List.length d) : Nat) : Int) - k)))) then K ((.t [(.s (.int .i64 (-(1 : Int)))), (.s (.int .i64 (0 : Int)))]), []) else (R_s_l01Rune_18_0 d k (2 : Int) (IntKind.wrap .i64 ((IntKind.wrap .i64 (List.getD d (Int.toNat k) (0 : Int))) - (192 : Int))) (1 : Int) (fun y8 y9 y10 y11 => (bif (((decide ((0 : Int) ≤ y9)) && (decide (y9 ≤ (IntKind.wrap .i64 (y9 + y10))))) && (decide ((IntKind.wrap .i64 (y9 + y10)) ≤ (((List.length y8) : Nat) : Int)))) then (meet ((meet ((bif (!((ByteArray.toList (bstr (encD y11))) == (ByteArray.toList (bstr (List.drop (Int.toNat y9) (List.take (Int.toNat (IntKind.wrap .i64 (y9 + y10))) y8)))))) then K ((.t [(.s (.int .i64 (-(1 : Int)))), (.s (.int .i64 (0 : Int)))]), []) else K ((.t [(.s (.int .i64 y11)), (.s (.int .i64 y10))]), []))) ((bif (!((ByteArray.toList (bstr (encD y11))) == (ByteArray.toList (bstr (List.drop (Int.toNat y9) (List.take (Int.toNat (IntKind.wrap .i64 (y9 + y10))) y8)))))) then K ((.t [(.s (.int .i64 (-(1 : Int)))), (.s (.int .i64 (0 : Int)))]), []) else K ((.t [(.s (.int .i64 y11)), (.s (.int .i64 y10))]), []))))) ((bif (!((ByteArray.toList (bstr (encD y11))) == (ByteArray.toList (bstr (List.drop (Int.toNat y9) (List.take (Int.toNat (IntKind.wrap .i64 (y9 + y10))) y8)))))) then K ((.t [(.s (.int .i64 (-(1 : Int)))), (.s (.int .i64 (0 : Int)))]), []) else K ((.t [(.s (.int .i64 y11)), (.s (.int .i64 y10))]), [])))) else none)))) else (bif (decide ((1 : Int) > (IntKind.wrap .i64 ((((List.length d) : Nat) : Int) - k)))) then K ((.t [(.s (.int .i64 (-(1 : Int)))), (.s (.int .i64 (0 : Int)))]), []) else (R_s_l01Rune_18_0 d k (1 : Int) (IntKind.wrap .i64 (List.getD d (Int.toNat k) (0 : Int))) (1 : Int) (fun y12 y13 y14 y15 => (bif (((decide ((0 : Int) ≤ y13)) && (decide (y13 ≤ (IntKind.wrap .i64 (y13 + y14))))) && (decide ((IntKind.wrap .i64 (y13 + y14)) ≤ (((List.length y12) : Nat) : Int)))) then (meet ((meet ((bif (!((ByteArray.toList (bstr (encD y15))) == (ByteArray.toList (bstr (List.drop (Int.toNat y13) (List.take (Int.toNat (IntKind.wrap .i64 (y13 + y14))) y12)))))) then K ((.t [(.s (.int .i64 (-(1 : Int)))), (.s (.int .i64 (0 : Int)))]), []) else K ((.t [(.s (.int .i64 y15)), (.s (.int .i64 y14))]), []))) ((bif (!((ByteArray.toList (bstr (encD y15))) == (ByteArray.toList (bstr (List.drop (Int.toNat y13) (List.take (Int.toNat (IntKind.wrap .i64 (y13 + y14))) y12)))))) then K ((.t [(.s (.int .i64 (-(1 : Int)))), (.s (.int .i64 (0 : Int)))]), []) else K ((.t [(.s (.int .i64 y15)), (.s (.int .i64 y14))]), []))))) ((bif (!((ByteArray.toList (bstr (encD y15))) == (ByteArray.toList (bstr (List.drop (Int.toNat y13) (List.take (Int.toNat (IntKind.wrap .i64 (y13 + y14))) y12)))))) then K ((.t [(.s (.int .i64 (-(1 : Int)))), (.s (.int .i64 (0 : Int)))]), []) else K ((.t [(.s (.int .i64 y15)), (.s (.int .i64 y14))]), [])))) else none))))))) else none)))
theorem e_s_l01Rune (d : List Int) (k : Int) (K : Ret → Option Ret) : evF E_s_l01Rune true F.s_l01Rune [.l .no bytesR d, .s (.int .i64 k)] K = T_s_l01Rune d k K := by kernel_rfl
theorem rune_step {m : Nat} {d : List Int} {k n r i : Int} {k0 : List Int → Int → Int → Int → Option Ret} (hd : fitB d = true) (h0 : 0 ≤ k) (hi : 0 < i) (hn : i < n) (hl : k + i < ((d.length : Nat) : Int)) (hr : -1000000000 ≤ r ∧ r ≤ 1000000000) :
    Q_s_l01Rune_18_0 (m + 1) d k n r i k0 = Q_s_l01Rune_18_0 m d k n (64 * r + d.getD (k + i).toNat 0 - 128) (i + 1) k0 := by
  have hb := fitB_get hd (k + i).toNat
  have hlen := fitB_len hd
  show P_s_l01Rune_18_0 d k n r i _ k0 = _
  unfold P_s_l01Rune_18_0
  rw [decide_eq_true hn, wrap_in (n := k + i) (by omega) (by omega), decide_eq_true (show 0 ≤ k + i by omega), decide_eq_true hl, wrap_in (n := d.getD (k + i).toNat 0) (by omega) (by omega), wrap_in (n := 64 * r) (by omega) (by omega), wrap_in (n := 64 * r + d.getD (k + i).toNat 0) (by omega) (by omega), wrap_in (n := 64 * r + d.getD (k + i).toNat 0 - 128) (by omega) (by omega), wrap_in (n := i + 1) (by omega) (by omega)]
  rfl
theorem rune_end {m : Nat} {d : List Int} {k n r i : Int} {k0 : List Int → Int → Int → Int → Option Ret} (hn : ¬ i < n) : Q_s_l01Rune_18_0 (m + 1) d k n r i k0 = k0 d k n r := by
  show P_s_l01Rune_18_0 d k n r i _ k0 = _
  unfold P_s_l01Rune_18_0
  rw [decide_eq_false hn]; rfl
theorem rune_fin {K : Ret → Option Ret} {c : Prop} [Decidable c] {r n v s : Int} (h : (if c then (r, n) else (-1, 0)) = (v, s)) :
    (bif !(decide c) then K ((.t [(.s (.int .i64 (-(1 : Int)))), (.s (.int .i64 (0 : Int)))]), []) else K ((.t [(.s (.int .i64 r)), (.s (.int .i64 n))]), [])) = K (.t [sc v, sc s], []) := by
  by_cases hc : c
  · rw [if_pos hc] at h
    obtain ⟨rfl, rfl⟩ := Prod.mk.inj h
    rw [decide_eq_true hc]; rfl
  · rw [if_neg hc] at h
    obtain ⟨h1, h2⟩ := Prod.mk.inj h
    rw [decide_eq_false hc, ← h1, ← h2]; rfl
theorem rune_part (d : List Int) (k n : Nat) : List.drop k (List.take (k + n) d) = (d.drop k).take n := by
  rw [List.drop_take]; congr 1; omega
theorem rune_k {K : Ret → Option Ret} {d xs : List Int} {k r n v s : Int} (hd : fitB d = true) (h0 : 0 ≤ k) (hn0 : 0 ≤ n) (hn : n ≤ 4) (hl : k + n ≤ ((d.length : Nat) : Int)) (hx : (d.drop k.toNat).take n.toNat = xs) (h : (if encD r = xs then (r, n) else (-1, 0)) = (v, s)) :
    (bif (((decide ((0 : Int) ≤ k)) && (decide (k ≤ (IntKind.wrap .i64 (k + n))))) && (decide ((IntKind.wrap .i64 (k + n)) ≤ (((List.length d) : Nat) : Int)))) then
       (meet
        (meet
         (bif (!((ByteArray.toList (bstr (encD r))) == (ByteArray.toList (bstr (List.drop (Int.toNat k) (List.take (Int.toNat (IntKind.wrap .i64 (k + n))) d)))))) then
          K ((.t [(.s (.int .i64 (-(1 : Int)))), (.s (.int .i64 (0 : Int)))]), [])
          else K ((.t [(.s (.int .i64 r)), (.s (.int .i64 n))]), []))
         (bif (!((ByteArray.toList (bstr (encD r))) == (ByteArray.toList (bstr (List.drop (Int.toNat k) (List.take (Int.toNat (IntKind.wrap .i64 (k + n))) d)))))) then
          K ((.t [(.s (.int .i64 (-(1 : Int)))), (.s (.int .i64 (0 : Int)))]), [])
          else K ((.t [(.s (.int .i64 r)), (.s (.int .i64 n))]), [])))
        (bif (!((ByteArray.toList (bstr (encD r))) == (ByteArray.toList (bstr (List.drop (Int.toNat k) (List.take (Int.toNat (IntKind.wrap .i64 (k + n))) d)))))) then
         K ((.t [(.s (.int .i64 (-(1 : Int)))), (.s (.int .i64 (0 : Int)))]), [])
         else K ((.t [(.s (.int .i64 r)), (.s (.int .i64 n))]), [])))
       else none) = K (.t [sc v, sc s], []) := by
  have hlen := fitB_len hd
  rw [wrap_in (n := k + n) (by omega) (by omega), decide_eq_true h0, decide_eq_true (show k ≤ k + n by omega), decide_eq_true hl]
  rw [meet_self, meet_self]
  have e : List.drop (Int.toNat k) (List.take (Int.toNat (k + n)) d) = xs := by
    rw [← hx, show (k + n).toNat = k.toNat + n.toNat by omega]; exact rune_part d _ _
  rw [e, bstr_eq (encD_byte r) (fun y hy => by
    rw [← hx] at hy
    exact fitB_mem hd (List.mem_of_mem_drop (List.mem_of_mem_take hy)))]
  exact rune_fin h
theorem list1 {xs : List Int} (h : 1 ≤ xs.length) : ∃ a t, xs = a :: t := by
  cases xs with
  | nil => simp at h
  | cons a t => exact ⟨a, t, rfl⟩
def S_s_l01Rune : Sm := S_fnR [.l bytesR, .i] (fun d => fitB d.1) (fun d => (.t [sc (valAt d.1 d.2.1), sc (szAt d.1 d.2.1)], []))
theorem v_s_l01Rune (d : List Int) (k : Int) (h : (fitB d) = true) (K : Ret → Option Ret) : T_s_l01Rune d k K = K (.t [sc (valAt d k), sc (szAt d k)], []) := by
  unfold T_s_l01Rune valAt szAt inD
  have hlen := fitB_len h
  by_cases h1 : k < 0
  · rw [decide_eq_true h1, decide_eq_false (show ¬ 0 ≤ k by omega)]; rfl
  by_cases h2 : k ≥ ((d.length : Nat) : Int)
  · rw [decide_eq_false h1, decide_eq_true h2, decide_eq_true (show 0 ≤ k by omega), decide_eq_false (show ¬ k < ((d.length : Nat) : Int) by omega)]; rfl
  have hbk := fitB_get h k.toNat
  rw [decide_eq_false h1, decide_eq_false h2, decide_eq_true (show 0 ≤ k by omega), decide_eq_true (show k < ((d.length : Nat) : Int) by omega), wrap_in (n := d.getD k.toNat 0) (by omega) (by omega), wrap_in (n := ((d.length : Nat) : Int) - k) (by omega) (by omega)]
  simp only [Bool.and_true, cond_true, cond_false]
  have hg : ∀ i : Nat, (d.drop k.toNat).getD i 0 = d.getD (k + (i : Nat)).toNat 0 := fun i => by
    rw [getD_drop]; congr 1; omega
  have hg0 := hg 0
  rw [show (k + ((0 : Nat) : Int)).toNat = k.toNat by omega] at hg0
  have hdl : (d.drop k.toNat).length = d.length - k.toNat := by simp
  have hbytes := fun i => fitB_get (fitB_drop h k.toNat) i
  by_cases c4 : d.getD k.toNat 0 ≥ 240
  · rw [decide_eq_true c4]
    by_cases s4 : (4 : Int) > ((d.length : Nat) : Int) - k
    · rw [decide_eq_true s4]
      have e := runeSz0 (short4 (xs := d.drop k.toNat) (by rw [hg0]; exact c4) (by omega))
      obtain ⟨e1, e2⟩ := Prod.mk.inj e
      rw [e1, e2]; rfl
    · rw [decide_eq_false s4]
      unfold R_s_l01Rune_18_0
      rw [wrap_in (n := d.getD k.toNat 0 - 240) (by omega) (by omega)]
      obtain ⟨m, hm⟩ : ∃ m, List.length d + k.toNat + (4 : Int).toNat + (d.getD k.toNat 0 - 240).toNat + (1 : Int).toNat + 2 = m + 4 := ⟨List.length d + k.toNat + (4 : Int).toNat + (d.getD k.toNat 0 - 240).toNat + (1 : Int).toNat + 2 - 4, by omega⟩
      have b1 := fitB_get h (k + 1).toNat
      have b2 := fitB_get h (k + (1 + 1)).toNat
      rw [hm, rune_step h (by omega) (by omega) (by omega) (by omega) (by omega), rune_step h (by omega) (by omega) (by omega) (by omega) (by omega), rune_step h (by omega) (by omega) (by omega) (by omega) (by omega), rune_end (by omega)]
      refine rune_k h (by omega) (by omega) (by omega) (by omega) (xs := [(d.drop k.toNat).getD 0 0, (d.drop k.toNat).getD 1 0, (d.drop k.toNat).getD 2 0, (d.drop k.toNat).getD 3 0]) ?_ ?_
      · obtain ⟨a, t, e⟩ := list1 (xs := d.drop k.toNat) (by omega)
        obtain ⟨b, t2, e2⟩ := list1 (xs := t) (by rw [e] at hdl; simp at hdl; omega)
        obtain ⟨c, t3, e3⟩ := list1 (xs := t2) (by rw [e, e2] at hdl; simp at hdl; omega)
        obtain ⟨f, t4, e4⟩ := list1 (xs := t3) (by rw [e, e2, e3] at hdl; simp at hdl; omega)
        rw [e, e2, e3, e4]; rfl
      · obtain ⟨a, t, e⟩ := list1 (xs := d.drop k.toNat) (by omega)
        obtain ⟨b, t2, e2⟩ := list1 (xs := t) (by rw [e] at hdl; simp at hdl; omega)
        obtain ⟨c, t3, e3⟩ := list1 (xs := t2) (by rw [e, e2] at hdl; simp at hdl; omega)
        obtain ⟨f, t4, e4⟩ := list1 (xs := t3) (by rw [e, e2, e3] at hdl; simp at hdl; omega)
        have g1 := hg 1
        have g2 := hg 2
        have g3 := hg 3
        have q0 := hbytes 0
        have q1 := hbytes 1
        have q2 := hbytes 2
        have q3 := hbytes 3
        rw [e, e2, e3, e4] at hg0 g1 g2 g3 q0 q1 q2 q3 ⊢
        rw [show (k + 1).toNat = (k + ((1 : Nat) : Int)).toNat from rfl, show (k + (1 + 1)).toNat = (k + ((2 : Nat) : Int)).toNat by congr 1, show (k + (1 + 1 + 1)).toNat = (k + ((3 : Nat) : Int)).toNat by congr 1, ← g1, ← g2, ← g3, ← hg0]
        exact dec4 (by rw [← hg0] at c4; exact c4) q0.2 q1 q2 q3
  rw [decide_eq_false c4]
  by_cases c3 : d.getD k.toNat 0 ≥ 224
  · rw [decide_eq_true c3]
    by_cases s3 : (3 : Int) > ((d.length : Nat) : Int) - k
    · rw [decide_eq_true s3]
      have e := runeSz0 (short3 (xs := d.drop k.toNat) (by rw [hg0]; exact c3) (by rw [hg0]; omega) (by omega))
      obtain ⟨e1, e2⟩ := Prod.mk.inj e
      rw [e1, e2]; rfl
    · rw [decide_eq_false s3]
      unfold R_s_l01Rune_18_0
      rw [wrap_in (n := d.getD k.toNat 0 - 224) (by omega) (by omega)]
      obtain ⟨m, hm⟩ : ∃ m, List.length d + k.toNat + (3 : Int).toNat + (d.getD k.toNat 0 - 224).toNat + (1 : Int).toNat + 2 = m + 3 := ⟨List.length d + k.toNat + (3 : Int).toNat + (d.getD k.toNat 0 - 224).toNat + (1 : Int).toNat + 2 - 3, by omega⟩
      have b1 := fitB_get h (k + 1).toNat
      rw [hm]
      simp only [cond_false, cond_true]
      rw [rune_step h (by omega) (by omega) (by omega) (by omega) (by omega), rune_step h (by omega) (by omega) (by omega) (by omega) (by omega), rune_end (by omega)]
      refine rune_k h (by omega) (by omega) (by omega) (by omega) (xs := [(d.drop k.toNat).getD 0 0, (d.drop k.toNat).getD 1 0, (d.drop k.toNat).getD 2 0]) ?_ ?_
      · obtain ⟨a, t, e⟩ := list1 (xs := d.drop k.toNat) (by omega)
        obtain ⟨b, t2, e2⟩ := list1 (xs := t) (by rw [e] at hdl; simp at hdl; omega)
        obtain ⟨c, t3, e3⟩ := list1 (xs := t2) (by rw [e, e2] at hdl; simp at hdl; omega)
        rw [e, e2, e3]; rfl
      · obtain ⟨a, t, e⟩ := list1 (xs := d.drop k.toNat) (by omega)
        obtain ⟨b, t2, e2⟩ := list1 (xs := t) (by rw [e] at hdl; simp at hdl; omega)
        obtain ⟨c, t3, e3⟩ := list1 (xs := t2) (by rw [e, e2] at hdl; simp at hdl; omega)
        have g1 := hg 1
        have g2 := hg 2
        have q0 := hbytes 0
        have q1 := hbytes 1
        have q2 := hbytes 2
        rw [e, e2, e3] at hg0 g1 g2 q0 q1 q2 ⊢
        rw [show (k + 1).toNat = (k + ((1 : Nat) : Int)).toNat from rfl, show (k + (1 + 1)).toNat = (k + ((2 : Nat) : Int)).toNat by congr 1, ← g1, ← g2, ← hg0]
        exact dec3 (by rw [← hg0] at c3; exact c3) (by rw [← hg0] at c4; exact Int.not_le.1 c4) q1 q2
  rw [decide_eq_false c3]
  by_cases c2 : d.getD k.toNat 0 ≥ 192
  · rw [decide_eq_true c2]
    by_cases s2 : (2 : Int) > ((d.length : Nat) : Int) - k
    · rw [decide_eq_true s2]
      have e := runeSz0 (short2 (xs := d.drop k.toNat) (by rw [hg0]; exact c2) (by rw [hg0]; omega) (by omega))
      obtain ⟨e1, e2⟩ := Prod.mk.inj e
      rw [e1, e2]; rfl
    · rw [decide_eq_false s2]
      unfold R_s_l01Rune_18_0
      rw [wrap_in (n := d.getD k.toNat 0 - 192) (by omega) (by omega)]
      obtain ⟨m, hm⟩ : ∃ m, List.length d + k.toNat + (2 : Int).toNat + (d.getD k.toNat 0 - 192).toNat + (1 : Int).toNat + 2 = m + 2 := ⟨List.length d + k.toNat + (2 : Int).toNat + (d.getD k.toNat 0 - 192).toNat + (1 : Int).toNat + 2 - 2, by omega⟩
      rw [hm]
      simp only [cond_false, cond_true]
      rw [rune_step h (by omega) (by omega) (by omega) (by omega) (by omega), rune_end (by omega)]
      refine rune_k h (by omega) (by omega) (by omega) (by omega) (xs := [(d.drop k.toNat).getD 0 0, (d.drop k.toNat).getD 1 0]) ?_ ?_
      · obtain ⟨a, t, e⟩ := list1 (xs := d.drop k.toNat) (by omega)
        obtain ⟨b, t2, e2⟩ := list1 (xs := t) (by rw [e] at hdl; simp at hdl; omega)
        rw [e, e2]; rfl
      · obtain ⟨a, t, e⟩ := list1 (xs := d.drop k.toNat) (by omega)
        obtain ⟨b, t2, e2⟩ := list1 (xs := t) (by rw [e] at hdl; simp at hdl; omega)
        have g1 := hg 1
        have q0 := hbytes 0
        have q1 := hbytes 1
        rw [e, e2] at hg0 g1 q0 q1 ⊢
        rw [show (k + 1).toNat = (k + ((1 : Nat) : Int)).toNat from rfl, ← g1, ← hg0]
        exact dec2 (by rw [← hg0] at c2; exact c2) (by rw [← hg0] at c3; exact Int.not_le.1 c3) q1
  rw [decide_eq_false c2, decide_eq_false (show ¬ (1 : Int) > ((d.length : Nat) : Int) - k by omega)]
  unfold R_s_l01Rune_18_0
  obtain ⟨m, hm⟩ : ∃ m, List.length d + k.toNat + (1 : Int).toNat + (d.getD k.toNat 0).toNat + (1 : Int).toNat + 2 = m + 1 := ⟨List.length d + k.toNat + (1 : Int).toNat + (d.getD k.toNat 0).toNat + (1 : Int).toNat + 2 - 1, by omega⟩
  rw [hm]
  simp only [cond_false, cond_true]
  rw [rune_end (by omega)]
  refine rune_k h (by omega) (by omega) (by omega) (by omega) (xs := [(d.drop k.toNat).getD 0 0]) ?_ ?_
  · obtain ⟨a, t, e⟩ := list1 (xs := d.drop k.toNat) (by omega)
    rw [e]; rfl
  · obtain ⟨a, t, e⟩ := list1 (xs := d.drop k.toNat) (by omega)
    have q0 := hbytes 0
    rw [e] at hg0 q0 ⊢
    rw [← hg0]
    exact dec1 q0.1 (by rw [← hg0] at c2; exact Int.not_le.1 c2)
theorem okS_s_l01Rune : OkFn prog I N.s_l01Rune true S_s_l01Rune := okN (ok_fn (memc okS_s_RuneBytes mem0) (l := ls_s_l01Rune) (p := pl_s_l01Rune) (ls := [(18, [0,1,7,8,9], [0,1,4,5,7,8], W_s_l01Rune_18)]) (lend := []) (focus := false) (fuel := 0) (give := []) (fn := F.s_l01Rune) (by kernel_rfl) (by kernel_rfl) (by kernel_rfl) (by kernel_rfl) (cs := [bodyOf F.s_l01Rune 18]) (by kernel_rfl) (loopsc loopK_s_l01Rune_18 loops0)) (S_fnR_of fun d K h => (e_s_l01Rune d.1 d.2.1 K).trans (v_s_l01Rune d.1 d.2.1 h K))
end Go.Ev.Seat
end
section
/- s_RuneSize: its contract. -/
namespace Go.Ev.Seat
open Go.RowKit
set_option maxRecDepth 100000
set_option linter.unusedVariables false
set_option linter.unusedSimpArgs false
noncomputable abbrev ls_s_RuneSize : List (Nat × Bool × Sm) := [(N.s_l01Rune, true, S_s_l01Rune)]
noncomputable abbrev E_s_RuneSize : Env := En ls_s_RuneSize [] [] [] false 0 []
noncomputable def T_s_RuneSize (d : List Int) (k : Int) (K : Ret → Option Ret) : Option Ret := (bif (fitB d) then K ((.s (.int .i64 (szAt d k))), []) else none)
theorem e_s_RuneSize (d : List Int) (k : Int) (K : Ret → Option Ret) : evF E_s_RuneSize true F.s_RuneSize [.l .no bytesR d, .s (.int .i64 k)] K = T_s_RuneSize d k K := by kernel_rfl
def S_s_RuneSize : Sm := S_fnR [.l bytesR, .i] (fun d => fitB d.1) (fun d => (sc (szAt d.1 d.2.1), []))
theorem v_s_RuneSize (d : List Int) (k : Int) (h : (fitB d) = true) (K : Ret → Option Ret) : T_s_RuneSize d k K = K (sc (szAt d k), []) := by
  unfold T_s_RuneSize; rw [h]; rfl
theorem okS_s_RuneSize : OkFn prog I N.s_RuneSize true S_s_RuneSize := okN (ok_fn (memc okS_s_l01Rune mem0) (l := ls_s_RuneSize) (p := []) (ls := []) (lend := []) (focus := false) (fuel := 0) (give := []) (fn := F.s_RuneSize) (by kernel_rfl) (by kernel_rfl) (by kernel_rfl) (by kernel_rfl) (cs := []) (by kernel_rfl) loops0) (S_fnR_of fun d K h => (e_s_RuneSize d.1 d.2.1 K).trans (v_s_RuneSize d.1 d.2.1 h K))
end Go.Ev.Seat
end
section
/- s_l01Cuts: its contract. -/
namespace Go.Ev.Seat
open Go.RowKit
set_option maxRecDepth 100000
set_option linter.unusedVariables false
set_option linter.unusedSimpArgs false
def z_s_l01Cuts_5_0 (x4 : Int) (o0 : List Int) : St := { tm := ([.x, .x, .nl, (.w 0), (.s (.int .i64 x4))] ++ List.replicate 25 .x), ob := [(0, (.arr true true intR o0))], nx := 1, io := [] }
def z_s_l01Cuts_5_1 (x4 : Int) (o0 : List Int) : St := { tm := ([.x, .x, .x, (.w 0), (.s (.int .i64 x4))] ++ List.replicate 25 .x), ob := [(0, (.arr true true intR o0))], nx := 1, io := [] }
def sh_s_l01Cuts_5_0 : Ss := { tm := (.cons (.l .no bytesR) (.cons (.x) (.cons (.x) (.cons (.w 0) (.cons (.int .i64) (xsh 25)))))), ob := (.arr true true intR .nil), nx := 1, io := .nil }
def d_s_l01Cuts_5_0 (x0 : List Int) (x4 : Int) (o0 : List Int) : sh_s_l01Cuts_5_0.T := ((x0, ((), ((), ((), (x4, xd 25))))), (o0, ()), ())
def s_s_l01Cuts_5_0 (x0 : List Int) (x4 : Int) (o0 : List Int) : St := { tm := ([(.l .no bytesR x0), .x, .x, (.w 0), (.s (.int .i64 x4))] ++ List.replicate 25 .x), ob := [(0, (.arr true true intR o0))], nx := 1, io := [] }
theorem se_s_l01Cuts_5_0 (x0 : List Int) (x4 : Int) (o0 : List Int) : sh_s_l01Cuts_5_0.mk' (d_s_l01Cuts_5_0 x0 x4 o0) = (s_s_l01Cuts_5_0 x0 x4 o0) := by kernel_rfl
def w_s_l01Cuts_5_0 (d : sh_s_l01Cuts_5_0.T) (f : (List Int) → Int → (List Int) → Option Ret) : Option Ret := match d with | ((x0, (_, (_, (_, (x4, _))))), (o0, _), _) => f x0 x4 o0
noncomputable def P_s_l01Cuts_5_0 (x0 : List Int) (x4 : Int) (o0 : List Int) (nx0 : (List Int) → Int → (List Int) → Option Ret) (k0 : Int → (List Int) → Option Ret) (k1 : Int → (List Int) → Option Ret) : Option Ret := (bif (decide (x4 < (((List.length x0) : Nat) : Int))) then (bif (fitB x0) then (bif ((szAt x0 x4) == (0 : Int)) then (k0 x4 o0) else (bif (Nat.ble (((List.length o0) + (List.length (x4 :: ([] : List Int)))) * 8) 140737488355328) then (nx0 x0 (IntKind.wrap .i64 (x4 + (szAt x0 x4))) (o0 ++ (x4 :: ([] : List Int)))) else none)) else none) else (k1 x4 o0))
noncomputable def Q_s_l01Cuts_5_0 : Nat → (List Int) → Int → (List Int) → (Int → (List Int) → Option Ret) → (Int → (List Int) → Option Ret) → Option Ret
  | 0, _, _, _, _, _ => none
  | m + 1, x0, x4, o0, k0, k1 => P_s_l01Cuts_5_0 x0 x4 o0 (fun x0 x4 o0 => (Q_s_l01Cuts_5_0 m x0 x4 o0 k0 k1)) k0 k1
noncomputable def R_s_l01Cuts_5_0 (x0 : List Int) (x4 : Int) (o0 : List Int) (k0 : Int → (List Int) → Option Ret) (k1 : Int → (List Int) → Option Ret) : Option Ret := Q_s_l01Cuts_5_0 (List.length x0 + x4.toNat + List.length o0 + 2) x0 x4 o0 k0 k1
noncomputable def W_s_l01Cuts_5 : LoopFn := (fun (σ : St) (K : Ex → St → Option Ret) => (match sh_s_l01Cuts_5_0.un σ with | some d => w_s_l01Cuts_5_0 d (fun x0 x4 o0 => R_s_l01Cuts_5_0 x0 x4 o0 (fun x4 o0 => (K .ret (z_s_l01Cuts_5_0 x4 o0))) (fun x4 o0 => (K (.ext 0) (z_s_l01Cuts_5_1 x4 o0)))) | none => none))
noncomputable abbrev ls_s_l01Cuts : List (Nat × Bool × Sm) := [(N.s_RuneSize, true, S_s_RuneSize)]
noncomputable abbrev E_s_l01Cuts : Env := En ls_s_l01Cuts [] [(5, [0,3,4], [2,3,4], W_s_l01Cuts_5)] [] false 0 []
noncomputable abbrev U_s_l01Cuts_5 := rounds (run E_s_l01Cuts (bodyOf F.s_l01Cuts 5)) [0,3,4] [2,3,4]
theorem st_s_l01Cuts_5_0 (m : Nat) (x0 : List Int) (x4 : Int) (o0 : List Int) (K : Ex → St → Option Ret) : U_s_l01Cuts_5 (m + 1) (s_s_l01Cuts_5_0 x0 x4 o0) K = P_s_l01Cuts_5_0 x0 x4 o0 (fun x0 x4 o0 => (U_s_l01Cuts_5 m (s_s_l01Cuts_5_0 x0 x4 o0) K)) (fun x4 o0 => (K .ret (z_s_l01Cuts_5_0 x4 o0))) (fun x4 o0 => (K (.ext 0) (z_s_l01Cuts_5_1 x4 o0))) := by kernel_rfl
theorem q_s_l01Cuts_5 (K : Ex → St → Option Ret) : ∀ m : Nat, (∀ (x0 : List Int) (x4 : Int) (o0 : List Int), U_s_l01Cuts_5 m (s_s_l01Cuts_5_0 x0 x4 o0) K = Q_s_l01Cuts_5_0 m x0 x4 o0 (fun x4 o0 => (K .ret (z_s_l01Cuts_5_0 x4 o0))) (fun x4 o0 => (K (.ext 0) (z_s_l01Cuts_5_1 x4 o0))))
  | 0 => (fun _ _ _ => rfl)
  | m + 1 => (fun x0 x4 o0 => (by rw [st_s_l01Cuts_5_0, show (fun x0 x4 o0 => (U_s_l01Cuts_5 m (s_s_l01Cuts_5_0 x0 x4 o0) K)) = (fun x0 x4 o0 => (Q_s_l01Cuts_5_0 m x0 x4 o0 (fun x4 o0 => (K .ret (z_s_l01Cuts_5_0 x4 o0))) (fun x4 o0 => (K (.ext 0) (z_s_l01Cuts_5_1 x4 o0))))) from funext fun x0 => funext fun x4 => funext fun o0 => (q_s_l01Cuts_5 K m) x0 x4 o0]; rfl))
theorem loopK_s_l01Cuts_5 : LoopOk E_s_l01Cuts (bodyOf F.s_l01Cuts 5) := by
  refine loopW_ok (n := 5) (F := W_s_l01Cuts_5) (by kernel_rfl) rfl (li := [0,3,4]) (lo := [2,3,4]) rfl (fun σ K r hr => ?_)
  unfold W_s_l01Cuts_5 at hr
  split at hr
  · rename_i d hd
    rw [Ss.un_mk hd]
    exact ⟨_, ((congrArg (fun z => U_s_l01Cuts_5 _ z K) (se_s_l01Cuts_5_0 _ _ _)).trans ((q_s_l01Cuts_5 K _) _ _ _)).trans hr⟩
  · cases hr
noncomputable def T_s_l01Cuts (d : List Int) (K : Ret → Option Ret) : Option Ret := (bif (decide ((((List.length d) : Nat) : Int) > (400 : Int))) then K ((.l .deep intR ([] : List Int)), []) else (R_s_l01Cuts_5_0 d (0 : Int) ([] : List Int) (fun y0 y1 => K ((.l .deep intR ([] : List Int)), [])) (fun y2 y3 => (bif (Nat.ble (((List.length y3) + (List.length (y2 :: ([] : List Int)))) * 8) 140737488355328) then K ((.l .deep intR (y3 ++ (y2 :: ([] : List Int)))), []) else none))))
theorem e_s_l01Cuts (d : List Int) (K : Ret → Option Ret) : evF E_s_l01Cuts true F.s_l01Cuts [.l .no bytesR d] K = T_s_l01Cuts d K := by kernel_rfl
theorem cuts_loop {d : List Int} (hd : fitB d = true) (F : Option Ret) (k1 : Int → List Int → Option Ret) : ∀ (m n : Nat) (o : List Int), n ≤ d.length → d.length - n < m → o.length ≤ n →
    Q_s_l01Cuts_5_0 m d (n : Int) o (fun _ _ => F) k1 = bif valid (d.drop n) then k1 ((d.length : Nat) : Int) (o ++ starts (d.drop n) (n : Int)) else F
  | 0, n, o, _, h, _ => absurd h (by omega)
  | m + 1, n, o, hn, hm, ho => by
    have hlen := fitB_len hd
    show P_s_l01Cuts_5_0 d (n : Int) o _ _ k1 = _
    unfold P_s_l01Cuts_5_0
    by_cases hl : n < d.length
    · rw [decide_eq_true (show (n : Int) < ((d.length : Nat) : Int) by omega), hd, szAt_in (by omega) (by omega), Int.toNat_natCast]
      simp only [cond_true]
      have hle := runeSz_le (d.drop n)
      rw [List.length_drop] at hle
      by_cases h0 : runeSz (d.drop n) = 0
      · rw [h0, valid_stop h0 (by simp; omega)]; rfl
      · rw [beq_eq_false_iff_ne.2 (show ¬ ((runeSz (d.drop n) : Nat) : Int) = 0 by omega), Nat.ble_eq_true_of_le (show (o.length + [(n : Int)].length) * 8 ≤ 140737488355328 by simp; omega), wrap_in (n := (n : Int) + (runeSz (d.drop n) : Nat)) (by omega) (by omega)]
        have e : (n : Int) + ((runeSz (d.drop n) : Nat) : Int) = ((n + runeSz (d.drop n) : Nat) : Int) := by omega
        simp only [cond_false, cond_true]
        rw [e]
        refine (cuts_loop hd F k1 m (n + runeSz (d.drop n)) (o ++ [(n : Int)]) (by omega) (by omega) (by simp; omega)).trans ?_
        rw [valid_step h0, starts_step h0, List.drop_drop, List.append_assoc, List.singleton_append, e]
    · have : n = d.length := by omega
      subst this
      rw [decide_eq_false (show ¬ ((d.length : Nat) : Int) < ((d.length : Nat) : Int) by omega), List.drop_length, valid_nil, starts_stop (by rfl), List.append_nil]; rfl
def S_s_l01Cuts : Sm := S_fnR [.l bytesR] (fun d => fitB d.1) (fun d => (.l .deep intR (cutsD d.1), []))
theorem v_s_l01Cuts (d : List Int) (h : (fitB d) = true) (K : Ret → Option Ret) : T_s_l01Cuts d K = K (.l .deep intR (cutsD d), []) := by
  unfold T_s_l01Cuts cutsD
  by_cases h4 : ((d.length : Nat) : Int) > 400
  · rw [decide_eq_true h4, show textOk d = false from Bool.eq_false_iff.2 (fun he => by have := (textOk_iff.1 he).1; omega)]; rfl
  · rw [decide_eq_false h4]
    unfold R_s_l01Cuts_5_0
    have := cuts_loop h (K (.l .deep intR [], [])) (fun y2 y3 => (bif (Nat.ble (((List.length y3) + (List.length (y2 :: []))) * 8) 140737488355328) then K ((.l .deep intR (y3 ++ (y2 :: []))), []) else none)) (List.length d + (0 : Int).toNat + List.length ([] : List Int) + 2) 0 [] (by omega) (by omega) (by simp)
    refine Eq.trans this ?_
    rw [List.drop_zero]
    cases hv : valid d with
    | false => rw [show textOk d = false from Bool.eq_false_iff.2 (fun he => by have := (textOk_iff.1 he).2; rw [hv] at this; cases this)]; rfl
    | true =>
      rw [textOk_iff.2 ⟨by omega, hv⟩]
      have hs := starts_len _ d 0 (Nat.le_refl _)
      simp only [cond_true, List.nil_append]
      rw [Nat.ble_eq_true_of_le (by simp; omega), bounds_starts _ d 0 (Nat.le_refl _) hv, Int.zero_add]
      rfl
theorem okS_s_l01Cuts : OkFn prog I N.s_l01Cuts true S_s_l01Cuts := okN (ok_fn (memc okS_s_RuneSize mem0) (l := ls_s_l01Cuts) (p := []) (ls := [(5, [0,3,4], [2,3,4], W_s_l01Cuts_5)]) (lend := []) (focus := false) (fuel := 0) (give := []) (fn := F.s_l01Cuts) (by kernel_rfl) (by kernel_rfl) (by kernel_rfl) (by kernel_rfl) (cs := [bodyOf F.s_l01Cuts 5]) (by kernel_rfl) (loopsc loopK_s_l01Cuts_5 loops0)) (S_fnR_of fun d K h => (e_s_l01Cuts d.1 K).trans (v_s_l01Cuts d.1 h K))
end Go.Ev.Seat
end
section
/- s_TextOk: its contract. -/
namespace Go.Ev.Seat
open Go.RowKit
set_option maxRecDepth 100000
set_option linter.unusedVariables false
set_option linter.unusedSimpArgs false
noncomputable abbrev ls_s_TextOk : List (Nat × Bool × Sm) := [(N.s_l01Cuts, true, S_s_l01Cuts)]
noncomputable abbrev E_s_TextOk : Env := En ls_s_TextOk [] [] [] false 0 []
noncomputable def T_s_TextOk (d : List Int) (K : Ret → Option Ret) : Option Ret := (bif (fitB d) then K ((.s (.bool (decide ((((List.length (cutsD d)) : Nat) : Int) > (0 : Int))))), []) else none)
theorem e_s_TextOk (d : List Int) (K : Ret → Option Ret) : evF E_s_TextOk true F.s_TextOk [.l .no bytesR d] K = T_s_TextOk d K := by kernel_rfl
def S_s_TextOk : Sm := S_fnR [.l bytesR] (fun d => fitB d.1) (fun d => (bl (textOk d.1), []))
theorem v_s_TextOk (d : List Int) (h : (fitB d) = true) (K : Ret → Option Ret) : T_s_TextOk d K = K (bl (textOk d), []) := by
  unfold T_s_TextOk
  rw [h]
  have e : decide ((((List.length (cutsD d)) : Nat) : Int) > (0 : Int)) = textOk d := by
    unfold cutsD
    cases textOk d with
    | false => rfl
    | true => exact decide_eq_true (show (((bounds d 0).length : Nat) : Int) > 0 by have := bounds_ne d 0; omega)
  rw [e]; rfl
theorem okS_s_TextOk : OkFn prog I N.s_TextOk true S_s_TextOk := okN (ok_fn (memc okS_s_l01Cuts mem0) (l := ls_s_TextOk) (p := []) (ls := []) (lend := []) (focus := false) (fuel := 0) (give := []) (fn := F.s_TextOk) (by kernel_rfl) (by kernel_rfl) (by kernel_rfl) (by kernel_rfl) (cs := []) (by kernel_rfl) loops0) (S_fnR_of fun d K h => (e_s_TextOk d.1 K).trans (v_s_TextOk d.1 h K))
end Go.Ev.Seat
end
section
/- s_l09Is: its contract. -/
namespace Go.Ev.Seat
open Go.RowKit
set_option maxRecDepth 100000
set_option linter.unusedVariables false
set_option linter.unusedSimpArgs false
def z_s_l09Is_2_0 (x4 : Bool) : St := { tm := ([.x, .x, .x, .x, (.s (.bool x4))] ++ List.replicate 13 .x), ob := [], nx := 0, io := [] }
def z_s_l09Is_2_1 : St := { tm := ([] ++ List.replicate 18 .x), ob := [], nx := 0, io := [] }
def sh_s_l09Is_2_0 : Ss := { tm := (.cons (.int .i64) (.cons (.l .no intR) (.cons (.x) (.cons (.x) (.cons (.x) (.cons (.int .i64) (xsh 12))))))), ob := .nil, nx := 0, io := .nil }
def d_s_l09Is_2_0 (x0 : Int) (x1 : List Int) (x5 : Int) : sh_s_l09Is_2_0.T := ((x0, (x1, ((), ((), ((), (x5, xd 12)))))), (), ())
def s_s_l09Is_2_0 (x0 : Int) (x1 : List Int) (x5 : Int) : St := { tm := ([(.s (.int .i64 x0)), (.l .no intR x1), .x, .x, .x, (.s (.int .i64 x5))] ++ List.replicate 12 .x), ob := [], nx := 0, io := [] }
theorem se_s_l09Is_2_0 (x0 : Int) (x1 : List Int) (x5 : Int) : sh_s_l09Is_2_0.mk' (d_s_l09Is_2_0 x0 x1 x5) = (s_s_l09Is_2_0 x0 x1 x5) := by kernel_rfl
def w_s_l09Is_2_0 (d : sh_s_l09Is_2_0.T) (f : Int → (List Int) → Int → Option Ret) : Option Ret := match d with | ((x0, (x1, (_, (_, (_, (x5, _)))))), _, _) => f x0 x1 x5
noncomputable def P_s_l09Is_2_0 (x0 : Int) (x1 : List Int) (x5 : Int) (nx0 : Int → (List Int) → Int → Option Ret) (k0 : Bool → Option Ret) (k1 : Option Ret) : Option Ret := (bif (decide (x5 < (((List.length x1) : Nat) : Int))) then (bif ((decide ((0 : Int) ≤ x5)) && (decide (x5 < (((List.length x1) : Nat) : Int)))) then (bif ((List.getD x1 (Int.toNat x5) (0 : Int)) == x0) then (k0 true) else (nx0 x0 x1 (IntKind.wrap .i64 (x5 + (1 : Int))))) else none) else k1)
noncomputable def Q_s_l09Is_2_0 : Nat → Int → (List Int) → Int → (Bool → Option Ret) → (Option Ret) → Option Ret
  | 0, _, _, _, _, _ => none
  | m + 1, x0, x1, x5, k0, k1 => P_s_l09Is_2_0 x0 x1 x5 (fun x0 x1 x5 => (Q_s_l09Is_2_0 m x0 x1 x5 k0 k1)) k0 k1
noncomputable def R_s_l09Is_2_0 (x0 : Int) (x1 : List Int) (x5 : Int) (k0 : Bool → Option Ret) (k1 : Option Ret) : Option Ret := Q_s_l09Is_2_0 (x0.toNat + List.length x1 + x5.toNat + 2) x0 x1 x5 k0 k1
noncomputable def W_s_l09Is_2 : LoopFn := (fun (σ : St) (K : Ex → St → Option Ret) => (match sh_s_l09Is_2_0.un σ with | some d => w_s_l09Is_2_0 d (fun x0 x1 x5 => R_s_l09Is_2_0 x0 x1 x5 (fun x4 => (K .ret (z_s_l09Is_2_0 x4))) (K (.ext 0) z_s_l09Is_2_1)) | none => none))
noncomputable abbrev E_s_l09Is : Env := En [] [] [(2, [0,1,5], [4], W_s_l09Is_2)] [] false 0 []
noncomputable abbrev U_s_l09Is_2 := rounds (run E_s_l09Is (bodyOf F.s_l09Is 2)) [0,1,5] [4]
theorem st_s_l09Is_2_0 (m : Nat) (x0 : Int) (x1 : List Int) (x5 : Int) (K : Ex → St → Option Ret) : U_s_l09Is_2 (m + 1) (s_s_l09Is_2_0 x0 x1 x5) K = P_s_l09Is_2_0 x0 x1 x5 (fun x0 x1 x5 => (U_s_l09Is_2 m (s_s_l09Is_2_0 x0 x1 x5) K)) (fun x4 => (K .ret (z_s_l09Is_2_0 x4))) (K (.ext 0) z_s_l09Is_2_1) := by kernel_rfl
theorem q_s_l09Is_2 (K : Ex → St → Option Ret) : ∀ m : Nat, (∀ (x0 : Int) (x1 : List Int) (x5 : Int), U_s_l09Is_2 m (s_s_l09Is_2_0 x0 x1 x5) K = Q_s_l09Is_2_0 m x0 x1 x5 (fun x4 => (K .ret (z_s_l09Is_2_0 x4))) (K (.ext 0) z_s_l09Is_2_1))
  | 0 => (fun _ _ _ => rfl)
  | m + 1 => (fun x0 x1 x5 => (by rw [st_s_l09Is_2_0, show (fun x0 x1 x5 => (U_s_l09Is_2 m (s_s_l09Is_2_0 x0 x1 x5) K)) = (fun x0 x1 x5 => (Q_s_l09Is_2_0 m x0 x1 x5 (fun x4 => (K .ret (z_s_l09Is_2_0 x4))) (K (.ext 0) z_s_l09Is_2_1))) from funext fun x0 => funext fun x1 => funext fun x5 => (q_s_l09Is_2 K m) x0 x1 x5]; rfl))
theorem loopK_s_l09Is_2 : LoopOk E_s_l09Is (bodyOf F.s_l09Is 2) := by
  refine loopW_ok (n := 2) (F := W_s_l09Is_2) (by kernel_rfl) rfl (li := [0,1,5]) (lo := [4]) rfl (fun σ K r hr => ?_)
  unfold W_s_l09Is_2 at hr
  split at hr
  · rename_i d hd
    rw [Ss.un_mk hd]
    exact ⟨_, ((congrArg (fun z => U_s_l09Is_2 _ z K) (se_s_l09Is_2_0 _ _ _)).trans ((q_s_l09Is_2 K _) _ _ _)).trans hr⟩
  · cases hr
noncomputable def T_s_l09Is (k : Int) (l : List Int) (K : Ret → Option Ret) : Option Ret := (R_s_l09Is_2_0 k l (0 : Int) (fun y0 => K ((.s (.bool y0)), [])) (K ((.s (.bool false)), [])))
theorem e_s_l09Is (k : Int) (l : List Int) (K : Ret → Option Ret) : evF E_s_l09Is true F.s_l09Is [.s (.int .i64 k), .l .no intR l] K = T_s_l09Is k l K := by kernel_rfl
def S_s_l09Is : Sm := S_fnR [.i, .l intR] (fun d => Nat.ble d.2.1.length 1048576) (fun d => (bl (d.2.1.any fun c => c == d.1), []))
theorem v_s_l09Is (k : Int) (l : List Int) (h : (Nat.ble l.length 1048576) = true) (K : Ret → Option Ret) : T_s_l09Is k l K = K (bl (l.any fun c => c == k), []) := by
  have hl := Nat.le_of_ble_eq_true h
  unfold T_s_l09Is

  show R_s_l09Is_2_0 k l 0 _ _ = _
  unfold R_s_l09Is_2_0
  have q := idx_all (R := fun m i => Q_s_l09Is_2_0 m k l i (fun y0 => K ((.s (.bool y0)), [])) (K ((.s (.bool false)), []))) (p := fun c => !(c == k)) (xs := l) (z := (0 : Int)) (kt := K ((.s (.bool false)), [])) (kf := K ((.s (.bool true)), []))
    (fun m i hi => by
      show P_s_l09Is_2_0 k l i _ _ _ = _
      unfold P_s_l09Is_2_0
      rw [decide_eq_true (show ((i : Nat) : Int) < ((l.length : Nat) : Int) by omega), decide_eq_true (show (0 : Int) ≤ ((i : Nat) : Int) by omega), wrap_nat (by omega), Int.toNat_natCast]
      cases l.getD i 0 == k <;> rfl)
    (fun m => by
      show P_s_l09Is_2_0 k l _ _ _ _ = _
      unfold P_s_l09Is_2_0
      rw [decide_eq_false (show ¬ ((l.length : Nat) : Int) < ((l.length : Nat) : Int) by omega)]; rfl)
    (k.toNat + List.length l + (0 : Int).toNat + 2) 0 (by omega) (by omega)
  refine Eq.trans (show _ = _ from q) ?_
  rw [List.drop_zero]
  have e : (l.all fun c => !(c == k)) = !(l.any fun c => c == k) := by rw [List.not_any_eq_all_not]
  rw [e]
  cases l.any fun c => c == k <;> rfl
theorem okS_s_l09Is : OkFn prog I N.s_l09Is true S_s_l09Is := okN (ok_fn mem0 (l := []) (p := []) (ls := [(2, [0,1,5], [4], W_s_l09Is_2)]) (lend := []) (focus := false) (fuel := 0) (give := []) (fn := F.s_l09Is) (by kernel_rfl) (by kernel_rfl) (by kernel_rfl) (by kernel_rfl) (cs := [bodyOf F.s_l09Is 2]) (by kernel_rfl) (loopsc loopK_s_l09Is_2 loops0)) (S_fnR_of fun d K h => (e_s_l09Is d.1 d.2.1 K).trans (v_s_l09Is d.1 d.2.1 h K))
end Go.Ev.Seat
end
