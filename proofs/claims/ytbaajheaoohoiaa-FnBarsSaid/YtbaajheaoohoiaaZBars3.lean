/- Bars: parts Fsl01Curpick Fsl01Cursize Fsl01Curlease PDoc Fsl07Right Fsl07Less FsLeasesOk Fsl07Clock Fsl07Meet Fsl07One PLease Fsl07At Fsl07Put FsLeaseTake Fsl01Curraw Fsl01CurbadLease Fsl01Curleases Fsl01Currune FsRuneBytes Fsl01Curtext Fsl01Cursmall Fsl01Curnow FsDrawLeaseBars Fiin FiisSession FiisLease FcmpisNaNint FcmpCompareint FcmpOrint FicompareLeases FiareLeases FiLeaseisActive FiEditisSmall FiisPos FiEdithits FiEditHits FileaseBars1, packed by squash.py. -/
import Derived.Test.YtbaajheaoohoiaaZBars0
import Derived.Test.YtbaajheaoohoiaaZBars1
import Derived.Test.YtbaajheaoohoiaaZBars2
set_option linter.unusedVariables false
set_option linter.unusedSimpArgs false
section
/- s_l01Cur_pick: its contract. -/
namespace Go.Ev.Seat
open Go.RowKit
set_option maxRecDepth 100000
set_option linter.unusedVariables false
set_option linter.unusedSimpArgs false
noncomputable abbrev pl_s_l01Cur_pick : List (Nat × Plan × List Nat) := [(4, takes [0, 1, 2, 3, 4, 5, 6, 7, 8, 9], []), (5, takes [0, 1, 2, 3, 4, 5, 6, 7, 8, 9, 10, 11], []), (8, takes [0, 1, 2, 3, 4, 5, 6, 7, 8, 9, 10, 11, 12, 13, 14, 15, 16, 17, 18, 19, 20, 21, 22, 23], [])]
noncomputable abbrev E_s_l01Cur_pick : Env := En [] pl_s_l01Cur_pick [] [] false 0 []
noncomputable def T_s_l01Cur_pick (cc : List Int) (ca : Int) (cs : Int) (n : Int) (K : Ret → Option Ret) : Option Ret := (bif (decide (n < (2 : Int))) then K ((.s (.int .i64 (0 : Int))), [(.io [(.l .no bytesR cc), (.s (.int .i64 ca)), (.s (.int .i64 cs))])]) else (bif (decide (ca < (((List.length cc) : Nat) : Int))) then (bif ((decide ((0 : Int) ≤ ca)) && (decide (ca < (((List.length cc) : Nat) : Int)))) then (bif (!(n == (0 : Int))) then K ((.s (.int .i64 (Int.tmod (IntKind.wrap .i64 (List.getD cc (Int.toNat ca) (0 : Int))) n))), [(.io [(.l .no bytesR cc), (.s (.int .i64 (IntKind.wrap .i64 (ca + (1 : Int))))), (.s (.int .i64 cs))])]) else none) else none) else (bif (decide ((((List.length cc) : Nat) : Int) > (0 : Int))) then (bif (!((((List.length cc) : Nat) : Int) == (0 : Int))) then (bif ((decide ((0 : Int) ≤ (Int.tmod ca (((List.length cc) : Nat) : Int)))) && (decide ((Int.tmod ca (((List.length cc) : Nat) : Int)) < (((List.length cc) : Nat) : Int)))) then (bif (!(n == (0 : Int))) then K ((.s (.int .i64 (Int.tmod (IntKind.wrap .i64 ((IntKind.wrap .i64 (Int.tdiv (Int.tmod (IntKind.wrap .i64 ((IntKind.wrap .i64 (cs * (1103 : Int))) + (12345 : Int))) (65521 : Int)) (7 : Int))) + (IntKind.wrap .i64 (List.getD cc (Int.toNat (Int.tmod ca (((List.length cc) : Nat) : Int))) (0 : Int))))) n))), [(.io [(.l .no bytesR cc), (.s (.int .i64 (IntKind.wrap .i64 (ca + (1 : Int))))), (.s (.int .i64 (Int.tmod (IntKind.wrap .i64 ((IntKind.wrap .i64 (cs * (1103 : Int))) + (12345 : Int))) (65521 : Int))))])]) else none) else none) else none) else (bif (!(n == (0 : Int))) then K ((.s (.int .i64 (Int.tmod (0 : Int) n))), [(.io [(.l .no bytesR cc), (.s (.int .i64 (IntKind.wrap .i64 (ca + (1 : Int))))), (.s (.int .i64 (Int.tmod (IntKind.wrap .i64 ((IntKind.wrap .i64 (cs * (1103 : Int))) + (12345 : Int))) (65521 : Int))))])]) else none))))
theorem e_s_l01Cur_pick (cc : List Int) (ca : Int) (cs : Int) (n : Int) (K : Ret → Option Ret) : evF E_s_l01Cur_pick false F.s_l01Cur_pick [.io [.l .no bytesR cc, .s (.int .i64 ca), .s (.int .i64 cs)], .s (.int .i64 n)] K = T_s_l01Cur_pick cc ca cs n K := by kernel_rfl
theorem x_s_l01Cur_pick (cc : List Int) (ca : Int) (cs : Int) (n : Int) (h : (curB 4000000000000000000 cc ca cs) = true) : ∃ (y : Int) (a : Int) (s : Int), ((0 ≤ y ∧ (2 ≤ n → y < n) ∧ (n < 2 → y = 0)) ∧ 0 ≤ a ∧ a ≤ ca + 1 ∧ 0 ≤ s ∧ s < 65536) ∧ ∀ K : Ret → Option Ret, T_s_l01Cur_pick cc ca cs n K = K (.s (.int .i64 y), [.io [.l .no bytesR cc, .s (.int .i64 a), .s (.int .i64 s)]]) := by
  suffices hd : Dr (fun r : Ret => ∃ (y : Int) (a : Int) (s : Int), ((0 ≤ y ∧ (2 ≤ n → y < n) ∧ (n < 2 → y = 0)) ∧ 0 ≤ a ∧ a ≤ ca + 1 ∧ 0 ≤ s ∧ s < 65536) ∧ r = (.s (.int .i64 y), [.io [.l .no bytesR cc, .s (.int .i64 a), .s (.int .i64 s)]])) (fun K : Ret → Option Ret => T_s_l01Cur_pick cc ca cs n K) by
    obtain ⟨_, ⟨y, a, s, hp, rfl⟩, hk⟩ := hd
    exact ⟨y, a, s, hp, hk⟩
  obtain ⟨h1, h2, h3, h4, h5⟩ := curB_iff.1 h
  have hl := fitB_len h1
  have hb1 := fitB_get h1 ca.toNat
  have hb2 := fitB_get h1 (ca % ((cc.length : Nat) : Int)).toNat
  unfold T_s_l01Cur_pick
  refine Dr.bif (fun c1 => ?_) (fun c1 => ?_)
  · simp only [decide_eq_true_eq] at c1
    exact Dr.leaf ⟨0, ca, cs, ⟨⟨by omega, by omega, by omega⟩, by omega, by omega, by omega, by omega⟩, rfl⟩
  simp only [decide_eq_false_iff_not] at c1
  have e1 : IntKind.wrap .i64 (ca + 1) = ca + 1 := wrap_in (by omega) (by omega)
  have em : ∀ x : Int, 0 ≤ x → Int.tmod x n = x % n := fun x hx => Int.tmod_eq_emod_of_nonneg hx
  have hn : (!(n == (0 : Int))) = true := by simp; omega
  have es : Int.tmod (IntKind.wrap .i64 ((IntKind.wrap .i64 (cs * (1103 : Int))) + (12345 : Int))) (65521 : Int) = (cs * 1103 + 12345) % 65521 := by
    rw [wrap_in (n := cs * 1103) (by omega) (by omega), wrap_in (n := cs * 1103 + 12345) (by omega) (by omega), Int.tmod_eq_emod_of_nonneg (by omega)]
  have fin : ∀ (x s : Int), 0 ≤ x → 0 ≤ s → s < 65536 → (fun r : Ret => ∃ (y : Int) (a : Int) (s : Int), ((0 ≤ y ∧ (2 ≤ n → y < n) ∧ (n < 2 → y = 0)) ∧ 0 ≤ a ∧ a ≤ ca + 1 ∧ 0 ≤ s ∧ s < 65536) ∧ r = (.s (.int .i64 y), [.io [.l .no bytesR cc, .s (.int .i64 a), .s (.int .i64 s)]])) (.s (.int .i64 (x % n)), [.io [.l .no bytesR cc, .s (.int .i64 (ca + 1)), .s (.int .i64 s)]]) := fun x s hx h0 hs => by
    have := Int.emod_nonneg x (show n ≠ 0 by omega)
    have := Int.emod_lt_of_pos x (show 0 < n by omega)
    exact ⟨_, _, _, ⟨⟨by omega, by omega, by omega⟩, by omega, by omega, h0, hs⟩, rfl⟩
  rw [e1, es]
  refine Dr.bif (fun c2 => ?_) (fun c2 => ?_)
  · simp only [decide_eq_true_eq] at c2
    refine Dr.must (by simp; omega) (Dr.must hn ?_)
    rw [wrap_in (n := List.getD cc (Int.toNat ca) 0) (by omega) (by omega), em _ hb1.1]
    exact Dr.leaf (fin _ _ hb1.1 h4 h5)
  · refine Dr.bif (fun c3 => ?_) (fun c3 => ?_)
    · simp only [decide_eq_true_eq] at c3
      have el : Int.tmod ca (((List.length cc) : Nat) : Int) = ca % ((cc.length : Nat) : Int) := Int.tmod_eq_emod_of_nonneg h2
      have := Int.emod_nonneg ca (show ((cc.length : Nat) : Int) ≠ 0 by omega)
      have := Int.emod_lt_of_pos ca (show (0 : Int) < ((cc.length : Nat) : Int) by omega)
      rw [el]
      refine Dr.must (by simp; intro hc; rw [hc] at c3; simp at c3) (Dr.must (by simp; omega) (Dr.must hn ?_))
      rw [Int.tdiv_eq_ediv_of_nonneg (by omega), wrap_in (n := (cs * 1103 + 12345) % 65521 / 7) (by omega) (by omega), wrap_in (n := List.getD cc (Int.toNat (ca % ((cc.length : Nat) : Int))) 0) (by omega) (by omega), wrap_in (n := (cs * 1103 + 12345) % 65521 / 7 + List.getD cc (Int.toNat (ca % ((cc.length : Nat) : Int))) 0) (by omega) (by omega), em _ (by omega)]
      exact Dr.leaf (fin _ _ (by omega) (by omega) (by omega))
    · refine Dr.must hn ?_
      rw [em 0 (by omega)]
      exact Dr.leaf (fin _ _ (by omega) (by omega) (by omega))
noncomputable def g_s_l01Cur_pick (cc : List Int) (ca : Int) (cs : Int) (n : Int) : Int × Int × Int := Classical.epsilon fun g => ((0 ≤ (g).1 ∧ (2 ≤ n → (g).1 < n) ∧ (n < 2 → (g).1 = 0)) ∧ 0 ≤ (g).2.1 ∧ (g).2.1 ≤ ca + 1 ∧ 0 ≤ (g).2.2 ∧ (g).2.2 < 65536) ∧ ∀ K : Ret → Option Ret, T_s_l01Cur_pick cc ca cs n K = K (.s (.int .i64 (g).1), [.io [.l .no bytesR cc, .s (.int .i64 (g).2.1), .s (.int .i64 (g).2.2)]])
theorem gs_s_l01Cur_pick (cc : List Int) (ca : Int) (cs : Int) (n : Int) (h : (curB 4000000000000000000 cc ca cs) = true) : ((0 ≤ (g_s_l01Cur_pick cc ca cs n).1 ∧ (2 ≤ n → (g_s_l01Cur_pick cc ca cs n).1 < n) ∧ (n < 2 → (g_s_l01Cur_pick cc ca cs n).1 = 0)) ∧ 0 ≤ (g_s_l01Cur_pick cc ca cs n).2.1 ∧ (g_s_l01Cur_pick cc ca cs n).2.1 ≤ ca + 1 ∧ 0 ≤ (g_s_l01Cur_pick cc ca cs n).2.2 ∧ (g_s_l01Cur_pick cc ca cs n).2.2 < 65536) ∧ ∀ K : Ret → Option Ret, T_s_l01Cur_pick cc ca cs n K = K (.s (.int .i64 (g_s_l01Cur_pick cc ca cs n).1), [.io [.l .no bytesR cc, .s (.int .i64 (g_s_l01Cur_pick cc ca cs n).2.1), .s (.int .i64 (g_s_l01Cur_pick cc ca cs n).2.2)]]) := by
  obtain ⟨y, a, s, hy, hk⟩ := x_s_l01Cur_pick cc ca cs n h
  exact Classical.epsilon_spec (p := fun g : Int × Int × Int => ((0 ≤ (g).1 ∧ (2 ≤ n → (g).1 < n) ∧ (n < 2 → (g).1 = 0)) ∧ 0 ≤ (g).2.1 ∧ (g).2.1 ≤ ca + 1 ∧ 0 ≤ (g).2.2 ∧ (g).2.2 < 65536) ∧ ∀ K : Ret → Option Ret, T_s_l01Cur_pick cc ca cs n K = K (.s (.int .i64 (g).1), [.io [.l .no bytesR cc, .s (.int .i64 (g).2.1), .s (.int .i64 (g).2.2)]])) ⟨⟨y, a, s⟩, hy, hk⟩
noncomputable def B_s_l01Cur_pick (cc : List Int) (ca : Int) (cs : Int) (n : Int) (k : (Int) → (Int) → (Int) → Option Ret) : Option Ret := bif curB 4000000000000000000 cc ca cs then k (g_s_l01Cur_pick cc ca cs n).1 (g_s_l01Cur_pick cc ca cs n).2.1 (g_s_l01Cur_pick cc ca cs n).2.2 else none
theorem b_s_l01Cur_pick (cc : List Int) (ca : Int) (cs : Int) (n : Int) (h : (curB 4000000000000000000 cc ca cs) = true) : ∃ (y : Int) (a : Int) (s : Int), ((0 ≤ y ∧ (2 ≤ n → y < n) ∧ (n < 2 → y = 0)) ∧ 0 ≤ a ∧ a ≤ ca + 1 ∧ 0 ≤ s ∧ s < 65536) ∧ ∀ k, B_s_l01Cur_pick cc ca cs n k = k y a s :=
  ⟨(g_s_l01Cur_pick cc ca cs n).1, (g_s_l01Cur_pick cc ca cs n).2.1, (g_s_l01Cur_pick cc ca cs n).2.2, (gs_s_l01Cur_pick cc ca cs n h).1, fun k => by unfold B_s_l01Cur_pick; rw [h]; rfl⟩
def SB_s_l01Cur_pick (B : (List Int) → (Int) → (Int) → (Int) → ((Int) → (Int) → (Int) → Option Ret) → Option Ret) : Sm := S_B [.sh (.io (.cons (.l .no bytesR) (.cons (.int .i64) (.cons (.int .i64) .nil)))), .i] (fun d K => B d.1.1 d.1.2.1 d.1.2.2.1 d.2.1 (fun y a s => K (.s (.int .i64 y), [.io [.l .no bytesR d.1.1, .s (.int .i64 a), .s (.int .i64 s)]])))
theorem okS_s_l01Cur_pick : OkFn prog I N.s_l01Cur_pick false (SB_s_l01Cur_pick B_s_l01Cur_pick) := okN (ok_fn mem0 (l := []) (p := pl_s_l01Cur_pick) (ls := []) (lend := []) (focus := false) (fuel := 0) (give := []) (fn := F.s_l01Cur_pick) (by kernel_rfl) (by kernel_rfl) (by kernel_rfl) (by kernel_rfl) (cs := []) (by kernel_rfl) loops0) (S_B_of fun d K q hq => by
  refine (e_s_l01Cur_pick d.1.1 d.1.2.1 d.1.2.2.1 d.2.1 K).trans ?_
  unfold B_s_l01Cur_pick at hq
  cases hp : (curB 4000000000000000000 d.1.1 d.1.2.1 d.1.2.2.1) with
  | false => rw [hp] at hq; cases hq
  | true =>
    rw [hp] at hq
    exact ((gs_s_l01Cur_pick d.1.1 d.1.2.1 d.1.2.2.1 d.2.1 hp).2 K).trans hq)
end Go.Ev.Seat
end
section
/- s_l01Cur_size: its contract. -/
namespace Go.Ev.Seat
open Go.RowKit
set_option maxRecDepth 100000
set_option linter.unusedVariables false
set_option linter.unusedSimpArgs false
noncomputable abbrev ls_s_l01Cur_size : List (Nat × Bool × Sm) := [(N.s_l01Cur_pick, false, (SB_s_l01Cur_pick B_s_l01Cur_pick))]
noncomputable abbrev E_s_l01Cur_size : Env := En ls_s_l01Cur_size [] [] [] false 0 []
noncomputable def T_s_l01Cur_size (cc : List Int) (ca : Int) (cs : Int) (n : Int) (K : Ret → Option Ret) : Option Ret := (B_s_l01Cur_pick cc ca cs (IntKind.wrap .i64 ((if (IntKind.wrap .i64 ((1 : Int) + (IntKind.wrap .i64 (Int.tdiv (((List.length cc) : Nat) : Int) (8 : Int))))) < n then (IntKind.wrap .i64 ((1 : Int) + (IntKind.wrap .i64 (Int.tdiv (((List.length cc) : Nat) : Int) (8 : Int))))) else n) + (1 : Int))) (fun y0 y1 y2 => K ((.s (.int .i64 y0)), [(.io [(.l .no bytesR cc), (.s (.int .i64 y1)), (.s (.int .i64 y2))])])))
theorem e_s_l01Cur_size (cc : List Int) (ca : Int) (cs : Int) (n : Int) (K : Ret → Option Ret) : evF E_s_l01Cur_size false F.s_l01Cur_size [.io [.l .no bytesR cc, .s (.int .i64 ca), .s (.int .i64 cs)], .s (.int .i64 n)] K = T_s_l01Cur_size cc ca cs n K := by kernel_rfl
theorem x_s_l01Cur_size (cc : List Int) (ca : Int) (cs : Int) (n : Int) (h : (curB 3000000000000000000 cc ca cs && (decide (0 ≤ n) && decide (n ≤ 1000000))) = true) : ∃ (y : Int) (a : Int) (s : Int), ((0 ≤ y ∧ y ≤ n ∧ y ≤ 200000) ∧ 0 ≤ a ∧ a ≤ ca + 1 ∧ 0 ≤ s ∧ s < 65536) ∧ ∀ K : Ret → Option Ret, T_s_l01Cur_size cc ca cs n K = K (.s (.int .i64 y), [.io [.l .no bytesR cc, .s (.int .i64 a), .s (.int .i64 s)]]) := by
  suffices hd : Dr (fun r : Ret => ∃ (y : Int) (a : Int) (s : Int), ((0 ≤ y ∧ y ≤ n ∧ y ≤ 200000) ∧ 0 ≤ a ∧ a ≤ ca + 1 ∧ 0 ≤ s ∧ s < 65536) ∧ r = (.s (.int .i64 y), [.io [.l .no bytesR cc, .s (.int .i64 a), .s (.int .i64 s)]])) (fun K : Ret → Option Ret => T_s_l01Cur_size cc ca cs n K) by
    obtain ⟨_, ⟨y, a, s, hp, rfl⟩, hk⟩ := hd
    exact ⟨y, a, s, hp, hk⟩
  obtain ⟨h, hpre⟩ := (Bool.and_eq_true _ _).mp h
  obtain ⟨hf, h2, h3, h4, h5⟩ := curB_iff.1 h
  have hl := fitB_len hf
  simp only [Bool.and_eq_true, decide_eq_true_eq] at hpre
  have e8 : Int.tdiv (((List.length cc) : Nat) : Int) 8 = ((cc.length : Nat) : Int) / 8 := Int.tdiv_eq_ediv_of_nonneg (by omega)
  unfold T_s_l01Cur_size
  rw [e8, wrap_in (n := ((cc.length : Nat) : Int) / 8) (by omega) (by omega), wrap_in (n := 1 + ((cc.length : Nat) : Int) / 8) (by omega) (by omega)]
  obtain ⟨m, hm, hm0, hm1, hm2⟩ : ∃ m : Int, (if 1 + ((cc.length : Nat) : Int) / 8 < n then 1 + ((cc.length : Nat) : Int) / 8 else n) = m ∧ 0 ≤ m ∧ m ≤ n ∧ m ≤ 1 + ((cc.length : Nat) : Int) / 8 := by
    by_cases q : 1 + ((cc.length : Nat) : Int) / 8 < n
    · rw [if_pos q]; exact ⟨_, rfl, by omega, by omega, by omega⟩
    · rw [if_neg q]; exact ⟨_, rfl, by omega, by omega, by omega⟩
  rw [hm, wrap_in (n := m + 1) (by omega) (by omega)]
  repeat' first
    | exact Dr.leaf ⟨_, _, _, ⟨by omega, by omega, by omega, by omega, by omega⟩, rfl⟩
    | refine Dr.b3 (b_s_l01Cur_pick _ _ _ _ (curB_iff.2 ⟨hf, by omega, by omega, by omega, by omega⟩)) (fun _ _ _ hy => ?_)
    | refine Dr.meet ?_
    | simp (disch := omega) only [wrap_in]
    | refine Dr.must (by first | rfl | (simp only [List.length_cons, List.length_nil, BEq.rfl, Bool.true_and, Bool.and_eq_true, decide_eq_true_eq]; omega)) ?_
    | refine Dr.bif (fun hb => ?_) (fun hb => ?_)
noncomputable def g_s_l01Cur_size (cc : List Int) (ca : Int) (cs : Int) (n : Int) : Int × Int × Int := Classical.epsilon fun g => ((0 ≤ (g).1 ∧ (g).1 ≤ n ∧ (g).1 ≤ 200000) ∧ 0 ≤ (g).2.1 ∧ (g).2.1 ≤ ca + 1 ∧ 0 ≤ (g).2.2 ∧ (g).2.2 < 65536) ∧ ∀ K : Ret → Option Ret, T_s_l01Cur_size cc ca cs n K = K (.s (.int .i64 (g).1), [.io [.l .no bytesR cc, .s (.int .i64 (g).2.1), .s (.int .i64 (g).2.2)]])
theorem gs_s_l01Cur_size (cc : List Int) (ca : Int) (cs : Int) (n : Int) (h : (curB 3000000000000000000 cc ca cs && (decide (0 ≤ n) && decide (n ≤ 1000000))) = true) : ((0 ≤ (g_s_l01Cur_size cc ca cs n).1 ∧ (g_s_l01Cur_size cc ca cs n).1 ≤ n ∧ (g_s_l01Cur_size cc ca cs n).1 ≤ 200000) ∧ 0 ≤ (g_s_l01Cur_size cc ca cs n).2.1 ∧ (g_s_l01Cur_size cc ca cs n).2.1 ≤ ca + 1 ∧ 0 ≤ (g_s_l01Cur_size cc ca cs n).2.2 ∧ (g_s_l01Cur_size cc ca cs n).2.2 < 65536) ∧ ∀ K : Ret → Option Ret, T_s_l01Cur_size cc ca cs n K = K (.s (.int .i64 (g_s_l01Cur_size cc ca cs n).1), [.io [.l .no bytesR cc, .s (.int .i64 (g_s_l01Cur_size cc ca cs n).2.1), .s (.int .i64 (g_s_l01Cur_size cc ca cs n).2.2)]]) := by
  obtain ⟨y, a, s, hy, hk⟩ := x_s_l01Cur_size cc ca cs n h
  exact Classical.epsilon_spec (p := fun g : Int × Int × Int => ((0 ≤ (g).1 ∧ (g).1 ≤ n ∧ (g).1 ≤ 200000) ∧ 0 ≤ (g).2.1 ∧ (g).2.1 ≤ ca + 1 ∧ 0 ≤ (g).2.2 ∧ (g).2.2 < 65536) ∧ ∀ K : Ret → Option Ret, T_s_l01Cur_size cc ca cs n K = K (.s (.int .i64 (g).1), [.io [.l .no bytesR cc, .s (.int .i64 (g).2.1), .s (.int .i64 (g).2.2)]])) ⟨⟨y, a, s⟩, hy, hk⟩
noncomputable def B_s_l01Cur_size (cc : List Int) (ca : Int) (cs : Int) (n : Int) (k : (Int) → (Int) → (Int) → Option Ret) : Option Ret := bif curB 3000000000000000000 cc ca cs && (decide (0 ≤ n) && decide (n ≤ 1000000)) then k (g_s_l01Cur_size cc ca cs n).1 (g_s_l01Cur_size cc ca cs n).2.1 (g_s_l01Cur_size cc ca cs n).2.2 else none
theorem b_s_l01Cur_size (cc : List Int) (ca : Int) (cs : Int) (n : Int) (h : (curB 3000000000000000000 cc ca cs && (decide (0 ≤ n) && decide (n ≤ 1000000))) = true) : ∃ (y : Int) (a : Int) (s : Int), ((0 ≤ y ∧ y ≤ n ∧ y ≤ 200000) ∧ 0 ≤ a ∧ a ≤ ca + 1 ∧ 0 ≤ s ∧ s < 65536) ∧ ∀ k, B_s_l01Cur_size cc ca cs n k = k y a s :=
  ⟨(g_s_l01Cur_size cc ca cs n).1, (g_s_l01Cur_size cc ca cs n).2.1, (g_s_l01Cur_size cc ca cs n).2.2, (gs_s_l01Cur_size cc ca cs n h).1, fun k => by unfold B_s_l01Cur_size; rw [h]; rfl⟩
def SB_s_l01Cur_size (B : (List Int) → (Int) → (Int) → (Int) → ((Int) → (Int) → (Int) → Option Ret) → Option Ret) : Sm := S_B [.sh (.io (.cons (.l .no bytesR) (.cons (.int .i64) (.cons (.int .i64) .nil)))), .i] (fun d K => B d.1.1 d.1.2.1 d.1.2.2.1 d.2.1 (fun y a s => K (.s (.int .i64 y), [.io [.l .no bytesR d.1.1, .s (.int .i64 a), .s (.int .i64 s)]])))
theorem okS_s_l01Cur_size : OkFn prog I N.s_l01Cur_size false (SB_s_l01Cur_size B_s_l01Cur_size) := okN (ok_fn (memc okS_s_l01Cur_pick mem0) (l := ls_s_l01Cur_size) (p := []) (ls := []) (lend := []) (focus := false) (fuel := 0) (give := []) (fn := F.s_l01Cur_size) (by kernel_rfl) (by kernel_rfl) (by kernel_rfl) (by kernel_rfl) (cs := []) (by kernel_rfl) loops0) (S_B_of fun d K q hq => by
  refine (e_s_l01Cur_size d.1.1 d.1.2.1 d.1.2.2.1 d.2.1 K).trans ?_
  unfold B_s_l01Cur_size at hq
  cases hp : (curB 3000000000000000000 d.1.1 d.1.2.1 d.1.2.2.1 && (decide (0 ≤ d.2.1) && decide (d.2.1 ≤ 1000000))) with
  | false => rw [hp] at hq; cases hq
  | true =>
    rw [hp] at hq
    exact ((gs_s_l01Cur_size d.1.1 d.1.2.1 d.1.2.2.1 d.2.1 hp).2 K).trans hq)
end Go.Ev.Seat
end
section
/- s_l01Cur_lease: its contract. -/
namespace Go.Ev.Seat
open Go.RowKit
set_option maxRecDepth 100000
set_option linter.unusedVariables false
set_option linter.unusedSimpArgs false
noncomputable abbrev ls_s_l01Cur_lease : List (Nat × Bool × Sm) := [(N.s_l01Cur_pick, false, (SB_s_l01Cur_pick B_s_l01Cur_pick))]
noncomputable abbrev E_s_l01Cur_lease : Env := En ls_s_l01Cur_lease [] [] [] false 0 []
noncomputable def T_s_l01Cur_lease (cc : List Int) (ca : Int) (cs : Int) (K : Ret → Option Ret) : Option Ret := (B_s_l01Cur_pick cc ca cs (20 : Int) (fun y0 y1 y2 => (B_s_l01Cur_pick cc y1 y2 (6 : Int) (fun y3 y4 y5 => (B_s_l01Cur_pick cc y4 y5 (3 : Int) (fun y6 y7 y8 => (B_s_l01Cur_pick cc y7 y8 (12 : Int) (fun y9 y10 y11 => K ((.a [(.s (.int .i64 y0)), (.s (.int .i64 (IntKind.wrap .i64 ((IntKind.wrap .i64 (y0 + (1 : Int))) + y3)))), (.s (.int .i64 (IntKind.wrap .i64 ((1 : Int) + y6)))), (.s (.int .i64 (IntKind.wrap .i64 ((1 : Int) + y9))))]), [(.io [(.l .no bytesR cc), (.s (.int .i64 y10)), (.s (.int .i64 y11))])])))))))))
theorem e_s_l01Cur_lease (cc : List Int) (ca : Int) (cs : Int) (K : Ret → Option Ret) : evF E_s_l01Cur_lease false F.s_l01Cur_lease [.io [.l .no bytesR cc, .s (.int .i64 ca), .s (.int .i64 cs)]] K = T_s_l01Cur_lease cc ca cs K := by kernel_rfl
theorem x_s_l01Cur_lease (cc : List Int) (ca : Int) (cs : Int) (h : (curB 2000000000000000000 cc ca cs) = true) : ∃ (y0 : Int) (y1 : Int) (y2 : Int) (y3 : Int) (a : Int) (s : Int), (0 ≤ a ∧ a ≤ ca + 4 ∧ 0 ≤ s ∧ s < 65536) ∧ ∀ K : Ret → Option Ret, T_s_l01Cur_lease cc ca cs K = K (.a [.s (.int .i64 y0), .s (.int .i64 y1), .s (.int .i64 y2), .s (.int .i64 y3)], [.io [.l .no bytesR cc, .s (.int .i64 a), .s (.int .i64 s)]]) := by
  suffices hd : Dr (fun r : Ret => ∃ (y0 : Int) (y1 : Int) (y2 : Int) (y3 : Int) (a : Int) (s : Int), (0 ≤ a ∧ a ≤ ca + 4 ∧ 0 ≤ s ∧ s < 65536) ∧ r = (.a [.s (.int .i64 y0), .s (.int .i64 y1), .s (.int .i64 y2), .s (.int .i64 y3)], [.io [.l .no bytesR cc, .s (.int .i64 a), .s (.int .i64 s)]])) (fun K : Ret → Option Ret => T_s_l01Cur_lease cc ca cs K) by
    obtain ⟨_, ⟨y0, y1, y2, y3, a, s, hp, rfl⟩, hk⟩ := hd
    exact ⟨y0, y1, y2, y3, a, s, hp, hk⟩
  obtain ⟨hf, h2, h3, h4, h5⟩ := curB_iff.1 h
  have hl := fitB_len hf
  unfold T_s_l01Cur_lease
  repeat' first
    | exact Dr.leaf ⟨_, _, _, _, _, _, ⟨by omega, by omega, by omega, by omega⟩, rfl⟩
    | refine Dr.b3 (b_s_l01Cur_pick _ _ _ _ (curB_iff.2 ⟨hf, by omega, by omega, by omega, by omega⟩)) (fun _ _ _ hy => ?_)
    | refine Dr.meet ?_
    | simp (disch := omega) only [wrap_in]
    | refine Dr.must (by first | rfl | (simp only [List.length_cons, List.length_nil, BEq.rfl, Bool.true_and, Bool.and_eq_true, decide_eq_true_eq]; omega)) ?_
    | refine Dr.bif (fun hb => ?_) (fun hb => ?_)
noncomputable def g_s_l01Cur_lease (cc : List Int) (ca : Int) (cs : Int) : Int × Int × Int × Int × Int × Int := Classical.epsilon fun g => (0 ≤ (g).2.2.2.2.1 ∧ (g).2.2.2.2.1 ≤ ca + 4 ∧ 0 ≤ (g).2.2.2.2.2 ∧ (g).2.2.2.2.2 < 65536) ∧ ∀ K : Ret → Option Ret, T_s_l01Cur_lease cc ca cs K = K (.a [.s (.int .i64 (g).1), .s (.int .i64 (g).2.1), .s (.int .i64 (g).2.2.1), .s (.int .i64 (g).2.2.2.1)], [.io [.l .no bytesR cc, .s (.int .i64 (g).2.2.2.2.1), .s (.int .i64 (g).2.2.2.2.2)]])
theorem gs_s_l01Cur_lease (cc : List Int) (ca : Int) (cs : Int) (h : (curB 2000000000000000000 cc ca cs) = true) : (0 ≤ (g_s_l01Cur_lease cc ca cs).2.2.2.2.1 ∧ (g_s_l01Cur_lease cc ca cs).2.2.2.2.1 ≤ ca + 4 ∧ 0 ≤ (g_s_l01Cur_lease cc ca cs).2.2.2.2.2 ∧ (g_s_l01Cur_lease cc ca cs).2.2.2.2.2 < 65536) ∧ ∀ K : Ret → Option Ret, T_s_l01Cur_lease cc ca cs K = K (.a [.s (.int .i64 (g_s_l01Cur_lease cc ca cs).1), .s (.int .i64 (g_s_l01Cur_lease cc ca cs).2.1), .s (.int .i64 (g_s_l01Cur_lease cc ca cs).2.2.1), .s (.int .i64 (g_s_l01Cur_lease cc ca cs).2.2.2.1)], [.io [.l .no bytesR cc, .s (.int .i64 (g_s_l01Cur_lease cc ca cs).2.2.2.2.1), .s (.int .i64 (g_s_l01Cur_lease cc ca cs).2.2.2.2.2)]]) := by
  obtain ⟨y0, y1, y2, y3, a, s, hy, hk⟩ := x_s_l01Cur_lease cc ca cs h
  exact Classical.epsilon_spec (p := fun g : Int × Int × Int × Int × Int × Int => (0 ≤ (g).2.2.2.2.1 ∧ (g).2.2.2.2.1 ≤ ca + 4 ∧ 0 ≤ (g).2.2.2.2.2 ∧ (g).2.2.2.2.2 < 65536) ∧ ∀ K : Ret → Option Ret, T_s_l01Cur_lease cc ca cs K = K (.a [.s (.int .i64 (g).1), .s (.int .i64 (g).2.1), .s (.int .i64 (g).2.2.1), .s (.int .i64 (g).2.2.2.1)], [.io [.l .no bytesR cc, .s (.int .i64 (g).2.2.2.2.1), .s (.int .i64 (g).2.2.2.2.2)]])) ⟨⟨y0, y1, y2, y3, a, s⟩, hy, hk⟩
noncomputable def B_s_l01Cur_lease (cc : List Int) (ca : Int) (cs : Int) (k : (Int) → (Int) → (Int) → (Int) → (Int) → (Int) → Option Ret) : Option Ret := bif curB 2000000000000000000 cc ca cs then k (g_s_l01Cur_lease cc ca cs).1 (g_s_l01Cur_lease cc ca cs).2.1 (g_s_l01Cur_lease cc ca cs).2.2.1 (g_s_l01Cur_lease cc ca cs).2.2.2.1 (g_s_l01Cur_lease cc ca cs).2.2.2.2.1 (g_s_l01Cur_lease cc ca cs).2.2.2.2.2 else none
theorem b_s_l01Cur_lease (cc : List Int) (ca : Int) (cs : Int) (h : (curB 2000000000000000000 cc ca cs) = true) : ∃ (y0 : Int) (y1 : Int) (y2 : Int) (y3 : Int) (a : Int) (s : Int), (0 ≤ a ∧ a ≤ ca + 4 ∧ 0 ≤ s ∧ s < 65536) ∧ ∀ k, B_s_l01Cur_lease cc ca cs k = k y0 y1 y2 y3 a s :=
  ⟨(g_s_l01Cur_lease cc ca cs).1, (g_s_l01Cur_lease cc ca cs).2.1, (g_s_l01Cur_lease cc ca cs).2.2.1, (g_s_l01Cur_lease cc ca cs).2.2.2.1, (g_s_l01Cur_lease cc ca cs).2.2.2.2.1, (g_s_l01Cur_lease cc ca cs).2.2.2.2.2, (gs_s_l01Cur_lease cc ca cs h).1, fun k => by unfold B_s_l01Cur_lease; rw [h]; rfl⟩
def SB_s_l01Cur_lease (B : (List Int) → (Int) → (Int) → ((Int) → (Int) → (Int) → (Int) → (Int) → (Int) → Option Ret) → Option Ret) : Sm := S_B [.sh (.io (.cons (.l .no bytesR) (.cons (.int .i64) (.cons (.int .i64) .nil))))] (fun d K => B d.1.1 d.1.2.1 d.1.2.2.1 (fun y0 y1 y2 y3 a s => K (.a [.s (.int .i64 y0), .s (.int .i64 y1), .s (.int .i64 y2), .s (.int .i64 y3)], [.io [.l .no bytesR d.1.1, .s (.int .i64 a), .s (.int .i64 s)]])))
theorem okS_s_l01Cur_lease : OkFn prog I N.s_l01Cur_lease false (SB_s_l01Cur_lease B_s_l01Cur_lease) := okN (ok_fn (memc okS_s_l01Cur_pick mem0) (l := ls_s_l01Cur_lease) (p := []) (ls := []) (lend := []) (focus := false) (fuel := 0) (give := []) (fn := F.s_l01Cur_lease) (by kernel_rfl) (by kernel_rfl) (by kernel_rfl) (by kernel_rfl) (cs := []) (by kernel_rfl) loops0) (S_B_of fun d K q hq => by
  refine (e_s_l01Cur_lease d.1.1 d.1.2.1 d.1.2.2.1 K).trans ?_
  unfold B_s_l01Cur_lease at hq
  cases hp : (curB 2000000000000000000 d.1.1 d.1.2.1 d.1.2.2.1) with
  | false => rw [hp] at hq; cases hq
  | true =>
    rw [hp] at hq
    exact ((gs_s_l01Cur_lease d.1.1 d.1.2.1 d.1.2.2.1 hp).2 K).trans hq)
end Go.Ev.Seat
end
section
/- Leases and documents: when they are valid. -/
set_option linter.unusedVariables false
namespace Go.Ev
open Go.RowKit
abbrev L4 : Type := Int × Int × Int × Int
def leaseOkD (l : L4) : Bool := decide (0 ≤ l.1) && decide (l.1 ≤ l.2.1) && decide (l.2.1 ≤ 400) && sessD l.2.2.1 && tickD l.2.2.2
/-- Is a ahead of b? -/
def lessD (a b : L4) : Bool := bif a.1 != b.1 then decide (a.1 < b.1) else bif a.2.1 != b.2.1 then decide (a.2.1 < b.2.1) else decide (a.2.2.1 < b.2.2.1)
def sgn (a b : Int) : Int := bif decide (a < b) then -1 else bif decide (a > b) then 1 else 0
def cmpD (a b : L4) : Int := bif sgn a.1 b.1 != 0 then sgn a.1 b.1 else bif sgn a.2.1 b.2.1 != 0 then sgn a.2.1 b.2.1 else sgn a.2.2.1 b.2.2.1
theorem sgn_cases (a b : Int) : (a < b ∧ sgn a b = -1) ∨ (a = b ∧ sgn a b = 0) ∨ (b < a ∧ sgn a b = 1) := by
  unfold sgn
  by_cases h1 : a < b
  · rw [decide_eq_true h1]; exact .inl ⟨h1, rfl⟩
  · rw [decide_eq_false h1]
    by_cases h2 : a > b
    · rw [decide_eq_true h2]; exact .inr (.inr ⟨h2, rfl⟩)
    · rw [decide_eq_false h2]; exact .inr (.inl ⟨by omega, rfl⟩)
theorem bne_t {a b : Int} (h : a ≠ b) : (a != b) = true := bne_iff_ne.2 h
theorem bne_f {a b : Int} (h : a = b) : (a != b) = false := by simp [h]
theorem cmpD_neg (a b : L4) : decide (cmpD a b ≥ 0) = !lessD a b := by
  unfold cmpD lessD
  rcases sgn_cases a.1 b.1 with ⟨h1, e1⟩ | ⟨h1, e1⟩ | ⟨h1, e1⟩
  · rw [e1, bne_t (show a.1 ≠ b.1 by omega), decide_eq_true (show a.1 < b.1 from h1)]; rfl
  · rw [e1, bne_f h1]
    rcases sgn_cases a.2.1 b.2.1 with ⟨h2, e2⟩ | ⟨h2, e2⟩ | ⟨h2, e2⟩
    · rw [e2, bne_t (show a.2.1 ≠ b.2.1 by omega), decide_eq_true (show a.2.1 < b.2.1 from h2)]; rfl
    · rw [e2, bne_f h2]
      rcases sgn_cases a.2.2.1 b.2.2.1 with ⟨h3, e3⟩ | ⟨h3, e3⟩ | ⟨h3, e3⟩
      · rw [e3, decide_eq_true (show a.2.2.1 < b.2.2.1 from h3)]; rfl
      · rw [e3, decide_eq_false (show ¬ a.2.2.1 < b.2.2.1 by omega)]; rfl
      · rw [e3, decide_eq_false (show ¬ a.2.2.1 < b.2.2.1 by omega)]; rfl
    · rw [e2, bne_t (show a.2.1 ≠ b.2.1 by omega), decide_eq_false (show ¬ a.2.1 < b.2.1 by omega)]; rfl
  · rw [e1, bne_t (show a.1 ≠ b.1 by omega), decide_eq_false (show ¬ a.1 < b.1 by omega)]; rfl
def zeroL : L4 := (0, 0, 0, 0)
def leaseAtD (l : List L4) (i : Nat) : Bool := leaseOkD (l.getD i zeroL) && (Nat.beq i 0 || lessD (l.getD (i - 1) zeroL) (l.getD i zeroL))
def leasesOkD (l : List L4) : Bool := decide (((l.length : Nat) : Int) ≤ 12) && allN l.length (leaseAtD l)
def clockD (n : Int) : Bool := decide (0 ≤ n) && decide (n ≤ 1000)
/-- Have two leases a place in common? -/
def meetD (a b : L4) : Bool := decide (max a.1 b.1 < min a.2.1 b.2.1)
theorem meetD_four (a b : L4) : (decide (a.1 < b.2.1) && decide (b.1 < a.2.1) && decide (a.1 < a.2.1) && decide (b.1 < b.2.1)) = meetD a b := by
  unfold meetD
  rw [Bool.eq_iff_iff]
  simp only [Bool.and_eq_true, decide_eq_true_eq]
  omega
def orD (l : List Int) : Int := (l.find? (fun c => c != 0)).getD 0
end Go.Ev
end
section
/- s_l07Right: its contract. -/
namespace Go.Ev.Seat
open Go.RowKit
set_option maxRecDepth 100000
set_option linter.unusedVariables false
set_option linter.unusedSimpArgs false
noncomputable abbrev E_s_l07Right : Env := En [] [] [] [] false 0 []
noncomputable def T_s_l07Right (l : T_Lease) (K : Ret → Option Ret) : Option Ret := (bif (decide (l.1 ≥ (0 : Int))) then (bif (decide (l.1 ≤ l.2.1)) then (bif (decide (l.2.1 ≤ (400 : Int))) then (bif (decide (l.2.2.1 ≥ (1 : Int))) then (bif (decide (l.2.2.1 ≤ (8 : Int))) then (bif (decide (l.2.2.2 ≥ (1 : Int))) then K ((.s (.bool (decide (l.2.2.2 ≤ (1000 : Int))))), []) else K ((.s (.bool false)), [])) else K ((.s (.bool false)), [])) else K ((.s (.bool false)), [])) else K ((.s (.bool false)), [])) else K ((.s (.bool false)), [])) else K ((.s (.bool false)), []))
theorem e_s_l07Right (l : T_Lease) (K : Ret → Option Ret) : evF E_s_l07Right true F.s_l07Right [.a (leaseR.cells .no l)] K = T_s_l07Right l K := by kernel_rfl
def S_s_l07Right : Sm := S_fnR [.a leaseR] (fun d => true) (fun d => (bl (leaseOkD d.1), []))
theorem v_s_l07Right (l : T_Lease) (K : Ret → Option Ret) : T_s_l07Right l K = K (bl (leaseOkD l), []) := by
  unfold T_s_l07Right leaseOkD sessD tickD
  rw [show decide (l.1 ≥ 0) = decide (0 ≤ l.1) from rfl, show decide (l.2.2.1 ≥ 1) = decide (1 ≤ l.2.2.1) from rfl, show decide (l.2.2.2 ≥ 1) = decide (1 ≤ l.2.2.2) from rfl]
  cases decide (0 ≤ l.1) <;> cases decide (l.1 ≤ l.2.1) <;> cases decide (l.2.1 ≤ 400) <;> cases decide (1 ≤ l.2.2.1) <;> cases decide (l.2.2.1 ≤ 8) <;> cases decide (1 ≤ l.2.2.2) <;> rfl
theorem okS_s_l07Right : OkFn prog I N.s_l07Right true S_s_l07Right := okN (ok_fn mem0 (l := []) (p := []) (ls := []) (lend := []) (focus := false) (fuel := 0) (give := []) (fn := F.s_l07Right) (by kernel_rfl) (by kernel_rfl) (by kernel_rfl) (by kernel_rfl) (cs := []) (by kernel_rfl) loops0) (S_fnR_of fun d K h => (e_s_l07Right d.1 K).trans (v_s_l07Right d.1 K))
end Go.Ev.Seat
end
section
/- s_l07Less: its contract. -/
namespace Go.Ev.Seat
open Go.RowKit
set_option maxRecDepth 100000
set_option linter.unusedVariables false
set_option linter.unusedSimpArgs false
noncomputable abbrev E_s_l07Less : Env := En [] [] [] [] false 0 []
noncomputable def T_s_l07Less (a : T_Lease) (b : T_Lease) (K : Ret → Option Ret) : Option Ret := (bif (a.1 != b.1) then K ((.s (.bool (decide (a.1 < b.1)))), []) else (bif (a.2.1 != b.2.1) then K ((.s (.bool (decide (a.2.1 < b.2.1)))), []) else K ((.s (.bool (decide (a.2.2.1 < b.2.2.1)))), [])))
theorem e_s_l07Less (a : T_Lease) (b : T_Lease) (K : Ret → Option Ret) : evF E_s_l07Less true F.s_l07Less [.a (leaseR.cells .no a), .a (leaseR.cells .no b)] K = T_s_l07Less a b K := by kernel_rfl
def S_s_l07Less : Sm := S_fnR [.a leaseR, .a leaseR] (fun d => true) (fun d => (bl (lessD d.1 d.2.1), []))
theorem v_s_l07Less (a : T_Lease) (b : T_Lease) (K : Ret → Option Ret) : T_s_l07Less a b K = K (bl (lessD a b), []) := by
  unfold T_s_l07Less lessD
  cases (a.1 != b.1) <;> cases (a.2.1 != b.2.1) <;> rfl
theorem okS_s_l07Less : OkFn prog I N.s_l07Less true S_s_l07Less := okN (ok_fn mem0 (l := []) (p := []) (ls := []) (lend := []) (focus := false) (fuel := 0) (give := []) (fn := F.s_l07Less) (by kernel_rfl) (by kernel_rfl) (by kernel_rfl) (by kernel_rfl) (cs := []) (by kernel_rfl) loops0) (S_fnR_of fun d K h => (e_s_l07Less d.1 d.2.1 K).trans (v_s_l07Less d.1 d.2.1 K))
end Go.Ev.Seat
end
section
/- s_LeasesOk: its contract. -/
namespace Go.Ev.Seat
open Go.RowKit
set_option maxRecDepth 100000
set_option linter.unusedVariables false
set_option linter.unusedSimpArgs false
def z_s_LeasesOk_4_0 (x2 : Bool) : St := { tm := ([.x, .x, (.s (.bool x2))] ++ List.replicate 33 .x), ob := [], nx := 0, io := [] }
def z_s_LeasesOk_4_1 : St := { tm := ([] ++ List.replicate 36 .x), ob := [], nx := 0, io := [] }
def sh_s_LeasesOk_4_0 : Ss := { tm := (.cons (.l .no leaseR) (.cons (.x) (.cons (.x) (.cons (.int .i64) (xsh 32))))), ob := .nil, nx := 0, io := .nil }
def d_s_LeasesOk_4_0 (x0 : List T_Lease) (x3 : Int) : sh_s_LeasesOk_4_0.T := ((x0, ((), ((), (x3, xd 32)))), (), ())
def s_s_LeasesOk_4_0 (x0 : List T_Lease) (x3 : Int) : St := { tm := ([(.l .no leaseR x0), .x, .x, (.s (.int .i64 x3))] ++ List.replicate 32 .x), ob := [], nx := 0, io := [] }
theorem se_s_LeasesOk_4_0 (x0 : List T_Lease) (x3 : Int) : sh_s_LeasesOk_4_0.mk' (d_s_LeasesOk_4_0 x0 x3) = (s_s_LeasesOk_4_0 x0 x3) := by kernel_rfl
def w_s_LeasesOk_4_0 (d : sh_s_LeasesOk_4_0.T) (f : (List T_Lease) → Int → Option Ret) : Option Ret := match d with | ((x0, (_, (_, (x3, _)))), _, _) => f x0 x3
noncomputable def P_s_LeasesOk_4_0 (x0 : List T_Lease) (x3 : Int) (nx0 : (List T_Lease) → Int → Option Ret) (k0 : Bool → Option Ret) (k1 : Option Ret) : Option Ret := (bif (decide (x3 < (((List.length x0) : Nat) : Int))) then (bif ((decide ((0 : Int) ≤ x3)) && (decide (x3 < (((List.length x0) : Nat) : Int)))) then (bif (!(leaseOkD (List.getD x0 (Int.toNat x3) (leaseR.dflt)))) then (k0 false) else (bif (decide (x3 > (0 : Int))) then (bif ((decide ((0 : Int) ≤ (IntKind.wrap .i64 (x3 - (1 : Int))))) && (decide ((IntKind.wrap .i64 (x3 - (1 : Int))) < (((List.length x0) : Nat) : Int)))) then (bif ((decide ((0 : Int) ≤ x3)) && (decide (x3 < (((List.length x0) : Nat) : Int)))) then (bif (!(lessD (List.getD x0 (Int.toNat (IntKind.wrap .i64 (x3 - (1 : Int)))) (leaseR.dflt)) (List.getD x0 (Int.toNat x3) (leaseR.dflt)))) then (k0 false) else (nx0 x0 (IntKind.wrap .i64 (x3 + (1 : Int))))) else none) else none) else (nx0 x0 (IntKind.wrap .i64 (x3 + (1 : Int)))))) else none) else k1)
noncomputable def Q_s_LeasesOk_4_0 : Nat → (List T_Lease) → Int → (Bool → Option Ret) → (Option Ret) → Option Ret
  | 0, _, _, _, _ => none
  | m + 1, x0, x3, k0, k1 => P_s_LeasesOk_4_0 x0 x3 (fun x0 x3 => (Q_s_LeasesOk_4_0 m x0 x3 k0 k1)) k0 k1
noncomputable def R_s_LeasesOk_4_0 (x0 : List T_Lease) (x3 : Int) (k0 : Bool → Option Ret) (k1 : Option Ret) : Option Ret := Q_s_LeasesOk_4_0 (List.length x0 + x3.toNat + 2) x0 x3 k0 k1
noncomputable def W_s_LeasesOk_4 : LoopFn := (fun (σ : St) (K : Ex → St → Option Ret) => (match sh_s_LeasesOk_4_0.un σ with | some d => w_s_LeasesOk_4_0 d (fun x0 x3 => R_s_LeasesOk_4_0 x0 x3 (fun x2 => (K .ret (z_s_LeasesOk_4_0 x2))) (K (.ext 0) z_s_LeasesOk_4_1)) | none => none))
noncomputable abbrev pl_s_LeasesOk : List (Nat × Plan × List Nat) := [(6, takeB [0, 1, 2, 3] (.fork (.one 4 (takeB [5, 6, 7, 8, 9, 10, 11, 12, 13, 14, 15, 16, 17, 18] (.fork (.one 19 (takes [20, 21, 22])))))), [])]
noncomputable abbrev ls_s_LeasesOk : List (Nat × Bool × Sm) := [(N.s_l07Right, true, S_s_l07Right), (N.s_l07Less, true, S_s_l07Less)]
noncomputable abbrev E_s_LeasesOk : Env := En ls_s_LeasesOk pl_s_LeasesOk [(4, [0,3], [2], W_s_LeasesOk_4)] [] false 0 []
noncomputable abbrev U_s_LeasesOk_4 := rounds (run E_s_LeasesOk (bodyOf F.s_LeasesOk 4)) [0,3] [2]
theorem st_s_LeasesOk_4_0 (m : Nat) (x0 : List T_Lease) (x3 : Int) (K : Ex → St → Option Ret) : U_s_LeasesOk_4 (m + 1) (s_s_LeasesOk_4_0 x0 x3) K = P_s_LeasesOk_4_0 x0 x3 (fun x0 x3 => (U_s_LeasesOk_4 m (s_s_LeasesOk_4_0 x0 x3) K)) (fun x2 => (K .ret (z_s_LeasesOk_4_0 x2))) (K (.ext 0) z_s_LeasesOk_4_1) := by kernel_rfl
theorem q_s_LeasesOk_4 (K : Ex → St → Option Ret) : ∀ m : Nat, (∀ (x0 : List T_Lease) (x3 : Int), U_s_LeasesOk_4 m (s_s_LeasesOk_4_0 x0 x3) K = Q_s_LeasesOk_4_0 m x0 x3 (fun x2 => (K .ret (z_s_LeasesOk_4_0 x2))) (K (.ext 0) z_s_LeasesOk_4_1))
  | 0 => (fun _ _ => rfl)
  | m + 1 => (fun x0 x3 => (by rw [st_s_LeasesOk_4_0, show (fun x0 x3 => (U_s_LeasesOk_4 m (s_s_LeasesOk_4_0 x0 x3) K)) = (fun x0 x3 => (Q_s_LeasesOk_4_0 m x0 x3 (fun x2 => (K .ret (z_s_LeasesOk_4_0 x2))) (K (.ext 0) z_s_LeasesOk_4_1))) from funext fun x0 => funext fun x3 => (q_s_LeasesOk_4 K m) x0 x3]; rfl))
theorem loopK_s_LeasesOk_4 : LoopOk E_s_LeasesOk (bodyOf F.s_LeasesOk 4) := by
  refine loopW_ok (n := 4) (F := W_s_LeasesOk_4) (by kernel_rfl) rfl (li := [0,3]) (lo := [2]) rfl (fun σ K r hr => ?_)
  unfold W_s_LeasesOk_4 at hr
  split at hr
  · rename_i d hd
    rw [Ss.un_mk hd]
    exact ⟨_, ((congrArg (fun z => U_s_LeasesOk_4 _ z K) (se_s_LeasesOk_4_0 _ _)).trans ((q_s_LeasesOk_4 K _) _ _)).trans hr⟩
  · cases hr
noncomputable def T_s_LeasesOk (l : List T_Lease) (K : Ret → Option Ret) : Option Ret := (bif (decide ((((List.length l) : Nat) : Int) > (12 : Int))) then K ((.s (.bool false)), []) else (R_s_LeasesOk_4_0 l (0 : Int) (fun y0 => K ((.s (.bool y0)), [])) (K ((.s (.bool true)), []))))
theorem e_s_LeasesOk (l : List T_Lease) (K : Ret → Option Ret) : evF E_s_LeasesOk true F.s_LeasesOk [.l .no leaseR l] K = T_s_LeasesOk l K := by kernel_rfl
def S_s_LeasesOk : Sm := S_fnR [.l leaseR] (fun d => Nat.ble d.1.length 1048576) (fun d => (bl (leasesOkD d.1), []))
theorem v_s_LeasesOk (l : List T_Lease) (h : (Nat.ble l.length 1048576) = true) (K : Ret → Option Ret) : T_s_LeasesOk l K = K (bl (leasesOkD l), []) := by
  have hl := Nat.le_of_ble_eq_true h
  unfold T_s_LeasesOk leasesOkD
  by_cases h6 : ((l.length : Nat) : Int) ≤ 12
  case neg => rw [decide_eq_false h6, decide_eq_true (show ((l.length : Nat) : Int) > 12 by omega)]; rfl
  rw [decide_eq_true h6, decide_eq_false (show ¬ ((l.length : Nat) : Int) > 12 by omega)]
  have q := idx_allN (R := fun m i => Q_s_LeasesOk_4_0 m l i (fun y0 => K ((.s (.bool y0)), [])) (K ((.s (.bool true)), []))) (p := leaseAtD l) (n := l.length) (kt := K ((.s (.bool true)), [])) (kf := K ((.s (.bool false)), [])) (fun m i hi => by
      show P_s_LeasesOk_4_0 l ((i : Nat) : Int) _ _ _ = _
      unfold P_s_LeasesOk_4_0 leaseAtD
      rw [decide_eq_true (show ((i : Nat) : Int) < ((l.length : Nat) : Int) by omega), decide_eq_true (show (0 : Int) ≤ ((i : Nat) : Int) by omega), Int.toNat_natCast, wrap_nat (by omega), show l.getD i leaseR.dflt = l.getD i zeroL from rfl]
      cases i with
      | zero =>
        rw [decide_eq_false (show ¬ ((0 : Nat) : Int) > 0 by omega)]
        cases leaseOkD (l.getD 0 zeroL) <;> rfl
      | succ i =>
        rw [wrap_in (n := ((i + 1 : Nat) : Int) - 1) (by omega) (by omega), decide_eq_true (show ((i + 1 : Nat) : Int) > 0 by omega), show ((i + 1 : Nat) : Int) - 1 = ((i : Nat) : Int) by omega, decide_eq_true (show (0 : Int) ≤ ((i : Nat) : Int) by omega), decide_eq_true (show ((i : Nat) : Int) < ((l.length : Nat) : Int) by omega), Int.toNat_natCast, show i + 1 - 1 = i from rfl, show l.getD i leaseR.dflt = l.getD i zeroL from rfl]
        cases leaseOkD (l.getD (i + 1) zeroL) <;> cases lessD (l.getD i zeroL) (l.getD (i + 1) zeroL) <;> rfl) (fun m => by
      show P_s_LeasesOk_4_0 l ((l.length : Nat) : Int) _ _ _ = _
      unfold P_s_LeasesOk_4_0
      rw [decide_eq_false (show ¬ ((l.length : Nat) : Int) < ((l.length : Nat) : Int) by omega)]; rfl) (List.length l + (0 : Int).toNat + 2) 0 (by omega) (by omega)
  refine Eq.trans q ?_
  rw [Nat.sub_zero]
  show (bif allN l.length (leaseAtD l) then _ else _) = _
  cases allN l.length (leaseAtD l) <;> rfl
theorem okS_s_LeasesOk : OkFn prog I N.s_LeasesOk true S_s_LeasesOk := okN (ok_fn (memc okS_s_l07Right (memc okS_s_l07Less mem0)) (l := ls_s_LeasesOk) (p := pl_s_LeasesOk) (ls := [(4, [0,3], [2], W_s_LeasesOk_4)]) (lend := []) (focus := false) (fuel := 0) (give := []) (fn := F.s_LeasesOk) (by kernel_rfl) (by kernel_rfl) (by kernel_rfl) (by kernel_rfl) (cs := [bodyOf F.s_LeasesOk 4]) (by kernel_rfl) (loopsc loopK_s_LeasesOk_4 loops0)) (S_fnR_of fun d K h => (e_s_LeasesOk d.1 K).trans (v_s_LeasesOk d.1 h K))
end Go.Ev.Seat
end
section
/- s_l07Clock: its contract. -/
namespace Go.Ev.Seat
open Go.RowKit
set_option maxRecDepth 100000
set_option linter.unusedVariables false
set_option linter.unusedSimpArgs false
noncomputable abbrev E_s_l07Clock : Env := En [] [] [] [] false 0 []
noncomputable def T_s_l07Clock (n : Int) (K : Ret → Option Ret) : Option Ret := (bif (decide (n ≥ (0 : Int))) then K ((.s (.bool (decide (n ≤ (1000 : Int))))), []) else K ((.s (.bool false)), []))
theorem e_s_l07Clock (n : Int) (K : Ret → Option Ret) : evF E_s_l07Clock true F.s_l07Clock [.s (.int .i64 n)] K = T_s_l07Clock n K := by kernel_rfl
def S_s_l07Clock : Sm := S_fnR [.i] (fun d => true) (fun d => (bl (clockD d.1), []))
theorem v_s_l07Clock (n : Int) (K : Ret → Option Ret) : T_s_l07Clock n K = K (bl (clockD n), []) := by
  unfold T_s_l07Clock clockD
  rw [show decide (n ≥ 0) = decide (0 ≤ n) from rfl]
  cases decide (0 ≤ n) <;> rfl
theorem okS_s_l07Clock : OkFn prog I N.s_l07Clock true S_s_l07Clock := okN (ok_fn mem0 (l := []) (p := []) (ls := []) (lend := []) (focus := false) (fuel := 0) (give := []) (fn := F.s_l07Clock) (by kernel_rfl) (by kernel_rfl) (by kernel_rfl) (by kernel_rfl) (cs := []) (by kernel_rfl) loops0) (S_fnR_of fun d K h => (e_s_l07Clock d.1 K).trans (v_s_l07Clock d.1 K))
end Go.Ev.Seat
end
section
/- s_l07Meet: its contract. -/
namespace Go.Ev.Seat
open Go.RowKit
set_option maxRecDepth 100000
set_option linter.unusedVariables false
set_option linter.unusedSimpArgs false
noncomputable abbrev E_s_l07Meet : Env := En [] [] [] [] false 0 []
noncomputable def T_s_l07Meet (a : T_Lease) (b : T_Lease) (K : Ret → Option Ret) : Option Ret := (bif (decide (a.1 < b.2.1)) then (bif (decide (b.1 < a.2.1)) then (bif (decide (a.1 < a.2.1)) then K ((.s (.bool (decide (b.1 < b.2.1)))), []) else K ((.s (.bool false)), [])) else K ((.s (.bool false)), [])) else K ((.s (.bool false)), []))
theorem e_s_l07Meet (a : T_Lease) (b : T_Lease) (K : Ret → Option Ret) : evF E_s_l07Meet true F.s_l07Meet [.a (leaseR.cells .no a), .a (leaseR.cells .no b)] K = T_s_l07Meet a b K := by kernel_rfl
def S_s_l07Meet : Sm := S_fnR [.a leaseR, .a leaseR] (fun d => true) (fun d => (bl (meetD d.1 d.2.1), []))
theorem v_s_l07Meet (a : T_Lease) (b : T_Lease) (K : Ret → Option Ret) : T_s_l07Meet a b K = K (bl (meetD a b), []) := by
  unfold T_s_l07Meet
  rw [← meetD_four]
  cases decide (a.1 < b.2.1) <;> cases decide (b.1 < a.2.1) <;> cases decide (a.1 < a.2.1) <;> rfl
theorem okS_s_l07Meet : OkFn prog I N.s_l07Meet true S_s_l07Meet := okN (ok_fn mem0 (l := []) (p := []) (ls := []) (lend := []) (focus := false) (fuel := 0) (give := []) (fn := F.s_l07Meet) (by kernel_rfl) (by kernel_rfl) (by kernel_rfl) (by kernel_rfl) (cs := []) (by kernel_rfl) loops0) (S_fnR_of fun d K h => (e_s_l07Meet d.1 d.2.1 K).trans (v_s_l07Meet d.1 d.2.1 K))
end Go.Ev.Seat
end
section
/- s_l07One: its contract. -/
namespace Go.Ev.Seat
open Go.RowKit
set_option maxRecDepth 100000
set_option linter.unusedVariables false
set_option linter.unusedSimpArgs false
noncomputable abbrev E_s_l07One : Env := En [] [] [] [] false 0 []
noncomputable def T_s_l07One (a : T_Lease) (b : T_Lease) (K : Ret → Option Ret) : Option Ret := (bif (a.1 == b.1) then (bif (a.2.1 == b.2.1) then K ((.s (.bool (a.2.2.1 == b.2.2.1))), []) else K ((.s (.bool false)), [])) else K ((.s (.bool false)), []))
theorem e_s_l07One (a : T_Lease) (b : T_Lease) (K : Ret → Option Ret) : evF E_s_l07One true F.s_l07One [.a (leaseR.cells .no a), .a (leaseR.cells .no b)] K = T_s_l07One a b K := by kernel_rfl
def S_s_l07One : Sm := S_fnR [.a leaseR, .a leaseR] (fun d => true) (fun d => (bl (d.1.1 == d.2.1.1 && d.1.2.1 == d.2.1.2.1 && d.1.2.2.1 == d.2.1.2.2.1), []))
theorem v_s_l07One (a : T_Lease) (b : T_Lease) (K : Ret → Option Ret) : T_s_l07One a b K = K (bl (a.1 == b.1 && a.2.1 == b.2.1 && a.2.2.1 == b.2.2.1), []) := by
  unfold T_s_l07One
  cases (a.1 == b.1)
  · rfl
  cases (a.2.1 == b.2.1) <;> rfl
theorem okS_s_l07One : OkFn prog I N.s_l07One true S_s_l07One := okN (ok_fn mem0 (l := []) (p := []) (ls := []) (lend := []) (focus := false) (fuel := 0) (give := []) (fn := F.s_l07One) (by kernel_rfl) (by kernel_rfl) (by kernel_rfl) (by kernel_rfl) (cs := []) (by kernel_rfl) loops0) (S_fnR_of fun d K h => (e_s_l07One d.1 d.2.1 K).trans (v_s_l07One d.1 d.2.1 K))
end Go.Ev.Seat
end
section
/- Leases: one put into a list, taken. -/
set_option linter.unusedVariables false
namespace Go.Ev
def oneD (a b : L4) : Bool := a.1 == b.1 && a.2.1 == b.2.1 && a.2.2.1 == b.2.2.1
def putF (s : Bool × L4 × List L4) (e : L4) : Bool × L4 × List L4 :=
  bif oneD e s.2.1 then (s.1, (s.2.1.1, s.2.1.2.1, s.2.1.2.2.1, if e.2.2.2 > s.2.1.2.2.2 then e.2.2.2 else s.2.1.2.2.2), s.2.2)
  else bif !s.1 && lessD s.2.1 e then (true, s.2.1, s.2.2 ++ [zeroL] ++ [e]) else (s.1, s.2.1, s.2.2 ++ [e])
def putE (s : Bool × L4 × List L4) : List L4 := bif !s.1 then s.2.2 ++ [s.2.1] else s.2.2.map (fun e => bif e.2.2.1 == 0 then s.2.1 else e)
/-- A lease put where it belongs. -/
def putD (l : List L4) (x : L4) : List L4 := putE (l.foldl putF (false, x, []))
theorem putF_len (s : Bool × L4 × List L4) (e : L4) : (putF s e).2.2.length + (bif (putF s e).1 then 0 else 1) ≤ s.2.2.length + (bif s.1 then 0 else 1) + 1 := by
  unfold putF
  cases oneD e s.2.1 with
  | true => simp only [cond_true]; omega
  | false =>
    cases s.1 <;> cases lessD s.2.1 e <;> simp <;> omega
theorem putL_len : ∀ (l : List L4) (s : Bool × L4 × List L4), (l.foldl putF s).2.2.length + (bif (l.foldl putF s).1 then 0 else 1) ≤ s.2.2.length + (bif s.1 then 0 else 1) + l.length
  | [], s => by simp
  | e :: l, s => by
    have h1 := putL_len l (putF s e)
    have h2 := putF_len s e
    simp only [List.foldl_cons, List.length_cons]
    omega
theorem putD_len (l : List L4) (x : L4) : (putD l x).length ≤ l.length + 1 := by
  have h := putL_len l (false, x, [])
  unfold putD putE
  cases hs : (l.foldl putF (false, x, [])).1 with
  | false => rw [hs] at h; simp at h ⊢; omega
  | true => rw [hs] at h; simp at h ⊢; omega
def takeD (l : List L4) (x : L4) (n : Int) : List L4 × Int :=
  bif !(leasesOkD l && leaseOkD x && clockD n && (x.1 != x.2.1)) then ([], 1)
  else bif decide (x.2.2.2 ≤ n) then ([], 2)
  else bif l.any (fun o => (o.2.2.1 != x.2.2.1) && decide (o.2.2.2 > n) && meetD o x) then ([], 3)
  else bif decide (idxF (fun o => oneD o x) l ≥ 0) || (((l.length : Nat) : Int) == 12) then ([], 4)
  else (putD l x, 0)
theorem leasesOk_len {l : List L4} (h : leasesOkD l = true) : l.length ≤ 12 := by
  unfold leasesOkD at h
  rw [Bool.and_eq_true, decide_eq_true_iff] at h
  omega
theorem takeD_len (l : List L4) (x : L4) (n : Int) : (takeD l x n).1.length ≤ 13 := by
  unfold takeD
  cases h : leasesOkD l && leaseOkD x && clockD n && (x.1 != x.2.1) with
  | false => exact Nat.zero_le _
  | true =>
    simp only [Bool.and_eq_true] at h
    have hl := leasesOk_len h.1.1.1
    cases decide (x.2.2.2 ≤ n) with
    | true => exact Nat.zero_le _
    | false =>
    cases l.any (fun o => (o.2.2.1 != x.2.2.1) && decide (o.2.2.2 > n) && meetD o x) with
    | true => exact Nat.zero_le _
    | false =>
    cases decide (idxF (fun o => oneD o x) l ≥ 0) || (((l.length : Nat) : Int) == 12) with
    | true => exact Nat.zero_le _
    | false =>
      have := putD_len l x
      show (putD l x).length ≤ 13
      omega
def hitE (e : E3) (i j : Int) : Bool := bif e.2.1 == 0 then decide (i < e.1) && decide (e.1 < j) else decide (e.1 < j) && decide (e.1 + e.2.1 > i)
def hitsD (e : E3) (i j : Int) : Bool := smallE e && placeB i && placeB j && decide (i < j) && hitE e i j
/-- Does a lease bar an edit? -/
def barD (s : Int) (e : E3) (n : Int) (o : L4) : Bool := (o.2.2.1 != s) && decide (o.2.2.2 > n) && hitsD e o.1 o.2.1
def barsD (l : List L4) (s : Int) (e : E3) (n : Int) : Bool := leasesOkD l && l.any (barD s e n)
end Go.Ev
end
section
/- s_l07At: its contract. -/
namespace Go.Ev.Seat
open Go.RowKit
set_option maxRecDepth 100000
set_option linter.unusedVariables false
set_option linter.unusedSimpArgs false
def z_s_l07At_2_0 (x4 : Int) : St := { tm := ([.x, .x, .x, .x, (.s (.int .i64 x4))] ++ List.replicate 14 .x), ob := [], nx := 0, io := [] }
def z_s_l07At_2_1 : St := { tm := ([] ++ List.replicate 19 .x), ob := [], nx := 0, io := [] }
def sh_s_l07At_2_0 : Ss := { tm := (.cons (.l .no leaseR) (.cons (.x) (.cons (.x) (.cons (.pb 0 0) (.cons (.x) (.cons (.int .i64) (xsh 13))))))), ob := (.box (.cons (.int .i64) (.cons (.int .i64) (.cons (.int .i64) (.cons (.int .i64) .nil)))) .nil), nx := 1, io := .nil }
def d_s_l07At_2_0 (x0 : List T_Lease) (x5 : Int) (b00 : Int) (b01 : Int) (b02 : Int) (b03 : Int) : sh_s_l07At_2_0.T := ((x0, ((), ((), ((), ((), (x5, xd 13)))))), ((b00, (b01, (b02, (b03, ())))), ()), ())
def s_s_l07At_2_0 (x0 : List T_Lease) (x5 : Int) (b00 : Int) (b01 : Int) (b02 : Int) (b03 : Int) : St := { tm := ([(.l .no leaseR x0), .x, .x, (.pb 0 0), .x, (.s (.int .i64 x5))] ++ List.replicate 13 .x), ob := [(0, (.box [(.s (.int .i64 b00)), (.s (.int .i64 b01)), (.s (.int .i64 b02)), (.s (.int .i64 b03))]))], nx := 1, io := [] }
theorem se_s_l07At_2_0 (x0 : List T_Lease) (x5 : Int) (b00 : Int) (b01 : Int) (b02 : Int) (b03 : Int) : sh_s_l07At_2_0.mk' (d_s_l07At_2_0 x0 x5 b00 b01 b02 b03) = (s_s_l07At_2_0 x0 x5 b00 b01 b02 b03) := by kernel_rfl
def w_s_l07At_2_0 (d : sh_s_l07At_2_0.T) (f : (List T_Lease) → Int → Int → Int → Int → Int → Option Ret) : Option Ret := match d with | ((x0, (_, (_, (_, (_, (x5, _)))))), ((b00, (b01, (b02, (b03, _)))), _), _) => f x0 x5 b00 b01 b02 b03
noncomputable def P_s_l07At_2_0 (x0 : List T_Lease) (x5 : Int) (b00 : Int) (b01 : Int) (b02 : Int) (b03 : Int) (nx0 : (List T_Lease) → Int → Int → Int → Int → Int → Option Ret) (k0 : Int → Option Ret) (k1 : Option Ret) : Option Ret := (bif (decide (x5 < (((List.length x0) : Nat) : Int))) then (bif ((decide ((0 : Int) ≤ x5)) && (decide (x5 < (((List.length x0) : Nat) : Int)))) then (bif ((((List.getD x0 (Int.toNat x5) (leaseR.dflt)).1 == b00) && ((List.getD x0 (Int.toNat x5) (leaseR.dflt)).2.1 == b01)) && ((List.getD x0 (Int.toNat x5) (leaseR.dflt)).2.2.1 == b02)) then (k0 x5) else (nx0 x0 (IntKind.wrap .i64 (x5 + (1 : Int))) b00 b01 b02 b03)) else none) else k1)
noncomputable def Q_s_l07At_2_0 : Nat → (List T_Lease) → Int → Int → Int → Int → Int → (Int → Option Ret) → (Option Ret) → Option Ret
  | 0, _, _, _, _, _, _, _, _ => none
  | m + 1, x0, x5, b00, b01, b02, b03, k0, k1 => P_s_l07At_2_0 x0 x5 b00 b01 b02 b03 (fun x0 x5 b00 b01 b02 b03 => (Q_s_l07At_2_0 m x0 x5 b00 b01 b02 b03 k0 k1)) k0 k1
noncomputable def R_s_l07At_2_0 (x0 : List T_Lease) (x5 : Int) (b00 : Int) (b01 : Int) (b02 : Int) (b03 : Int) (k0 : Int → Option Ret) (k1 : Option Ret) : Option Ret := Q_s_l07At_2_0 (List.length x0 + x5.toNat + b00.toNat + b01.toNat + b02.toNat + b03.toNat + 2) x0 x5 b00 b01 b02 b03 k0 k1
noncomputable def W_s_l07At_2 : LoopFn := (fun (σ : St) (K : Ex → St → Option Ret) => (match sh_s_l07At_2_0.un σ with | some d => w_s_l07At_2_0 d (fun x0 x5 b00 b01 b02 b03 => R_s_l07At_2_0 x0 x5 b00 b01 b02 b03 (fun x4 => (K .ret (z_s_l07At_2_0 x4))) (K (.ext 0) z_s_l07At_2_1)) | none => none))
noncomputable abbrev pl_s_l07At : List (Nat × Plan × List Nat) := [(4, takeB [0, 1, 2, 3, 4] (.fork (.one 5 (.done))), [])]
noncomputable abbrev ls_s_l07At : List (Nat × Bool × Sm) := [(N.s_l07One, true, S_s_l07One)]
noncomputable abbrev E_s_l07At : Env := En ls_s_l07At pl_s_l07At [(2, [0,3,5], [4], W_s_l07At_2)] [] false 0 []
noncomputable abbrev U_s_l07At_2 := rounds (run E_s_l07At (bodyOf F.s_l07At 2)) [0,3,5] [4]
theorem st_s_l07At_2_0 (m : Nat) (x0 : List T_Lease) (x5 : Int) (b00 : Int) (b01 : Int) (b02 : Int) (b03 : Int) (K : Ex → St → Option Ret) : U_s_l07At_2 (m + 1) (s_s_l07At_2_0 x0 x5 b00 b01 b02 b03) K = P_s_l07At_2_0 x0 x5 b00 b01 b02 b03 (fun x0 x5 b00 b01 b02 b03 => (U_s_l07At_2 m (s_s_l07At_2_0 x0 x5 b00 b01 b02 b03) K)) (fun x4 => (K .ret (z_s_l07At_2_0 x4))) (K (.ext 0) z_s_l07At_2_1) := by kernel_rfl
theorem q_s_l07At_2 (K : Ex → St → Option Ret) : ∀ m : Nat, (∀ (x0 : List T_Lease) (x5 : Int) (b00 : Int) (b01 : Int) (b02 : Int) (b03 : Int), U_s_l07At_2 m (s_s_l07At_2_0 x0 x5 b00 b01 b02 b03) K = Q_s_l07At_2_0 m x0 x5 b00 b01 b02 b03 (fun x4 => (K .ret (z_s_l07At_2_0 x4))) (K (.ext 0) z_s_l07At_2_1))
  | 0 => (fun _ _ _ _ _ _ => rfl)
  | m + 1 => (fun x0 x5 b00 b01 b02 b03 => (by rw [st_s_l07At_2_0, show (fun x0 x5 b00 b01 b02 b03 => (U_s_l07At_2 m (s_s_l07At_2_0 x0 x5 b00 b01 b02 b03) K)) = (fun x0 x5 b00 b01 b02 b03 => (Q_s_l07At_2_0 m x0 x5 b00 b01 b02 b03 (fun x4 => (K .ret (z_s_l07At_2_0 x4))) (K (.ext 0) z_s_l07At_2_1))) from funext fun x0 => funext fun x5 => funext fun b00 => funext fun b01 => funext fun b02 => funext fun b03 => (q_s_l07At_2 K m) x0 x5 b00 b01 b02 b03]; rfl))
theorem loopK_s_l07At_2 : LoopOk E_s_l07At (bodyOf F.s_l07At 2) := by
  refine loopW_ok (n := 2) (F := W_s_l07At_2) (by kernel_rfl) rfl (li := [0,3,5]) (lo := [4]) rfl (fun σ K r hr => ?_)
  unfold W_s_l07At_2 at hr
  split at hr
  · rename_i d hd
    rw [Ss.un_mk hd]
    exact ⟨_, ((congrArg (fun z => U_s_l07At_2 _ z K) (se_s_l07At_2_0 _ _ _ _ _ _)).trans ((q_s_l07At_2 K _) _ _ _ _ _ _)).trans hr⟩
  · cases hr
noncomputable def T_s_l07At (l : List T_Lease) (x : T_Lease) (K : Ret → Option Ret) : Option Ret := (R_s_l07At_2_0 l (0 : Int) x.1 x.2.1 x.2.2.1 x.2.2.2 (fun y0 => K ((.s (.int .i64 y0)), [])) (K ((.s (.int .i64 (-(1 : Int)))), [])))
theorem e_s_l07At (l : List T_Lease) (x : T_Lease) (K : Ret → Option Ret) : evF E_s_l07At true F.s_l07At [.l .no leaseR l, .a (leaseR.cells .no x)] K = T_s_l07At l x K := by kernel_rfl
def S_s_l07At : Sm := S_fnR [.l leaseR, .a leaseR] (fun d => Nat.ble d.1.length 1048576) (fun d => (.s (.int .i64 (idxF (fun o => oneD o d.2.1) d.1)), []))
theorem v_s_l07At (l : List T_Lease) (x : T_Lease) (h : (Nat.ble l.length 1048576) = true) (K : Ret → Option Ret) : T_s_l07At l x K = K (.s (.int .i64 (idxF (fun o => oneD o x) l)), []) := by
  have hl := Nat.le_of_ble_eq_true h
  unfold T_s_l07At
  refine Eq.trans (idx_find (R := fun m i => Q_s_l07At_2_0 m l i x.1 x.2.1 x.2.2.1 x.2.2.2 (fun y0 => K ((.s (.int .i64 y0)), [])) (K ((.s (.int .i64 (-(1 : Int)))), []))) (p := fun o => oneD o x) (xs := l) (z := leaseR.dflt) (kf := fun y0 => K ((.s (.int .i64 y0)), [])) (kt := K ((.s (.int .i64 (-(1 : Int)))), [])) (fun m i hi => by
    show P_s_l07At_2_0 l ((i : Nat) : Int) x.1 x.2.1 x.2.2.1 x.2.2.2 _ _ _ = _
    unfold P_s_l07At_2_0
    rw [decide_eq_true (show ((i : Nat) : Int) < ((l.length : Nat) : Int) by omega), decide_eq_true (show (0 : Int) ≤ ((i : Nat) : Int) by omega), Int.toNat_natCast, wrap_nat (by omega)]
    rfl) (fun m => by
    show P_s_l07At_2_0 l ((l.length : Nat) : Int) x.1 x.2.1 x.2.2.1 x.2.2.2 _ _ _ = _
    unfold P_s_l07At_2_0
    rw [decide_eq_false (show ¬ ((l.length : Nat) : Int) < ((l.length : Nat) : Int) by omega)]; rfl) _ 0 (by omega) (by omega)) ?_
  rw [List.drop_zero]
  unfold idxF
  cases l.findIdx? (fun o => oneD o x) with
  | none => rfl
  | some j => show K (.s (.int .i64 ((0 + j : Nat) : Int)), []) = _; rw [Nat.zero_add]
theorem okS_s_l07At : OkFn prog I N.s_l07At true S_s_l07At := okN (ok_fn (memc okS_s_l07One mem0) (l := ls_s_l07At) (p := pl_s_l07At) (ls := [(2, [0,3,5], [4], W_s_l07At_2)]) (lend := []) (focus := false) (fuel := 0) (give := []) (fn := F.s_l07At) (by kernel_rfl) (by kernel_rfl) (by kernel_rfl) (by kernel_rfl) (cs := [bodyOf F.s_l07At 2]) (by kernel_rfl) (loopsc loopK_s_l07At_2 loops0)) (S_fnR_of fun d K h => (e_s_l07At d.1 d.2.1 K).trans (v_s_l07At d.1 d.2.1 h K))
end Go.Ev.Seat
end
section
/- s_l07Put: its contract. -/
namespace Go.Ev.Seat
open Go.RowKit
set_option maxRecDepth 100000
set_option linter.unusedVariables false
set_option linter.unusedSimpArgs false
def z_s_l07Put_4_0 (x6 : Bool) (b00 : Int) (b01 : Int) (b02 : Int) (b03 : Int) (o1 : List T_Lease) : St := { tm := ([.x, .x, .x, (.pb 0 0), .x, (.w 1), (.s (.bool x6))] ++ List.replicate 68 .x), ob := [(0, (.box [(.s (.int .i64 b00)), (.s (.int .i64 b01)), (.s (.int .i64 b02)), (.s (.int .i64 b03))])), (1, (.arr true true leaseR o1))], nx := 2, io := [] }
def sh_s_l07Put_4_0 : Ss := { tm := (.cons (.l .no leaseR) (.cons (.x) (.cons (.x) (.cons (.pb 0 0) (.cons (.x) (.cons (.w 1) (.cons (.bool) (.cons (.int .i64) (xsh 67))))))))), ob := (.box (.cons (.int .i64) (.cons (.int .i64) (.cons (.int .i64) (.cons (.int .i64) .nil)))) (.arr true true leaseR .nil)), nx := 2, io := .nil }
def d_s_l07Put_4_0 (x0 : List T_Lease) (x6 : Bool) (x7 : Int) (b00 : Int) (b01 : Int) (b02 : Int) (b03 : Int) (o1 : List T_Lease) : sh_s_l07Put_4_0.T := ((x0, ((), ((), ((), ((), ((), (x6, (x7, xd 67)))))))), ((b00, (b01, (b02, (b03, ())))), (o1, ())), ())
def s_s_l07Put_4_0 (x0 : List T_Lease) (x6 : Bool) (x7 : Int) (b00 : Int) (b01 : Int) (b02 : Int) (b03 : Int) (o1 : List T_Lease) : St := { tm := ([(.l .no leaseR x0), .x, .x, (.pb 0 0), .x, (.w 1), (.s (.bool x6)), (.s (.int .i64 x7))] ++ List.replicate 67 .x), ob := [(0, (.box [(.s (.int .i64 b00)), (.s (.int .i64 b01)), (.s (.int .i64 b02)), (.s (.int .i64 b03))])), (1, (.arr true true leaseR o1))], nx := 2, io := [] }
theorem se_s_l07Put_4_0 (x0 : List T_Lease) (x6 : Bool) (x7 : Int) (b00 : Int) (b01 : Int) (b02 : Int) (b03 : Int) (o1 : List T_Lease) : sh_s_l07Put_4_0.mk' (d_s_l07Put_4_0 x0 x6 x7 b00 b01 b02 b03 o1) = (s_s_l07Put_4_0 x0 x6 x7 b00 b01 b02 b03 o1) := by kernel_rfl
def w_s_l07Put_4_0 (d : sh_s_l07Put_4_0.T) (f : (List T_Lease) → Bool → Int → Int → Int → Int → Int → (List T_Lease) → Option Ret) : Option Ret := match d with | ((x0, (_, (_, (_, (_, (_, (x6, (x7, _)))))))), ((b00, (b01, (b02, (b03, _)))), (o1, _)), _) => f x0 x6 x7 b00 b01 b02 b03 o1
noncomputable def P_s_l07Put_4_0 (x0 : List T_Lease) (x6 : Bool) (x7 : Int) (b00 : Int) (b01 : Int) (b02 : Int) (b03 : Int) (o1 : List T_Lease) (nx0 : (List T_Lease) → Bool → Int → Int → Int → Int → Int → (List T_Lease) → Option Ret) (k0 : Bool → Int → Int → Int → Int → (List T_Lease) → Option Ret) : Option Ret := (bif (decide (x7 < (((List.length x0) : Nat) : Int))) then (bif ((decide ((0 : Int) ≤ x7)) && (decide (x7 < (((List.length x0) : Nat) : Int)))) then (bif ((((List.getD x0 (Int.toNat x7) (leaseR.dflt)).1 == b00) && ((List.getD x0 (Int.toNat x7) (leaseR.dflt)).2.1 == b01)) && ((List.getD x0 (Int.toNat x7) (leaseR.dflt)).2.2.1 == b02)) then (bif ((decide ((0 : Int) ≤ x7)) && (decide (x7 < (((List.length x0) : Nat) : Int)))) then (nx0 x0 x6 (IntKind.wrap .i64 (x7 + (1 : Int))) b00 b01 b02 (if (List.getD x0 (Int.toNat x7) (leaseR.dflt)).2.2.2 > b03 then (List.getD x0 (Int.toNat x7) (leaseR.dflt)).2.2.2 else b03) o1) else none) else (bif (!x6) then (bif ((decide ((0 : Int) ≤ x7)) && (decide (x7 < (((List.length x0) : Nat) : Int)))) then (bif (lessD (b00, (b01, (b02, b03))) (List.getD x0 (Int.toNat x7) (leaseR.dflt))) then (bif (Nat.ble (((List.length o1) + (List.length (((0 : Int), ((0 : Int), ((0 : Int), (0 : Int)))) :: []))) * 32) 140737488355328) then (bif ((decide ((0 : Int) ≤ x7)) && (decide (x7 < (((List.length x0) : Nat) : Int)))) then (bif (Nat.ble (((List.length (o1 ++ (((0 : Int), ((0 : Int), ((0 : Int), (0 : Int)))) :: []))) + (List.length ((List.getD x0 (Int.toNat x7) (leaseR.dflt)) :: []))) * 32) 140737488355328) then (nx0 x0 true (IntKind.wrap .i64 (x7 + (1 : Int))) b00 b01 b02 b03 ((o1 ++ (((0 : Int), ((0 : Int), ((0 : Int), (0 : Int)))) :: [])) ++ ((List.getD x0 (Int.toNat x7) (leaseR.dflt)) :: []))) else none) else none) else none) else (bif ((decide ((0 : Int) ≤ x7)) && (decide (x7 < (((List.length x0) : Nat) : Int)))) then (bif (Nat.ble (((List.length o1) + (List.length ((List.getD x0 (Int.toNat x7) (leaseR.dflt)) :: []))) * 32) 140737488355328) then (nx0 x0 x6 (IntKind.wrap .i64 (x7 + (1 : Int))) b00 b01 b02 b03 (o1 ++ ((List.getD x0 (Int.toNat x7) (leaseR.dflt)) :: []))) else none) else none)) else none) else (bif ((decide ((0 : Int) ≤ x7)) && (decide (x7 < (((List.length x0) : Nat) : Int)))) then (bif (Nat.ble (((List.length o1) + (List.length ((List.getD x0 (Int.toNat x7) (leaseR.dflt)) :: []))) * 32) 140737488355328) then (nx0 x0 x6 (IntKind.wrap .i64 (x7 + (1 : Int))) b00 b01 b02 b03 (o1 ++ ((List.getD x0 (Int.toNat x7) (leaseR.dflt)) :: []))) else none) else none))) else none) else (k0 x6 b00 b01 b02 b03 o1))
noncomputable def Q_s_l07Put_4_0 : Nat → (List T_Lease) → Bool → Int → Int → Int → Int → Int → (List T_Lease) → (Bool → Int → Int → Int → Int → (List T_Lease) → Option Ret) → Option Ret
  | 0, _, _, _, _, _, _, _, _, _ => none
  | m + 1, x0, x6, x7, b00, b01, b02, b03, o1, k0 => P_s_l07Put_4_0 x0 x6 x7 b00 b01 b02 b03 o1 (fun x0 x6 x7 b00 b01 b02 b03 o1 => (Q_s_l07Put_4_0 m x0 x6 x7 b00 b01 b02 b03 o1 k0)) k0
noncomputable def R_s_l07Put_4_0 (x0 : List T_Lease) (x6 : Bool) (x7 : Int) (b00 : Int) (b01 : Int) (b02 : Int) (b03 : Int) (o1 : List T_Lease) (k0 : Bool → Int → Int → Int → Int → (List T_Lease) → Option Ret) : Option Ret := Q_s_l07Put_4_0 (List.length x0 + x7.toNat + b00.toNat + b01.toNat + b02.toNat + b03.toNat + List.length o1 + 2) x0 x6 x7 b00 b01 b02 b03 o1 k0
noncomputable def W_s_l07Put_4 : LoopFn := (fun (σ : St) (K : Ex → St → Option Ret) => (match sh_s_l07Put_4_0.un σ with | some d => w_s_l07Put_4_0 d (fun x0 x6 x7 b00 b01 b02 b03 o1 => R_s_l07Put_4_0 x0 x6 x7 b00 b01 b02 b03 o1 (fun x6 b00 b01 b02 b03 o1 => (K (.ext 0) (z_s_l07Put_4_0 x6 b00 b01 b02 b03 o1)))) | none => none))
def z_s_l07Put_15_0 (o0 : List T_Lease) : St := { tm := ([.x, .x, .x, .x, .x, (.w 0)] ++ List.replicate 69 .x), ob := [(0, (.arr true true leaseR o0))], nx := 1, io := [] }
def sh_s_l07Put_15_0 : Ss := { tm := (.cons (.x) (.cons (.x) (.cons (.x) (.cons (.pb 0 0) (.cons (.x) (.cons (.w 1) (.cons (.x) (.cons (.x) (.cons (.int .i64) (xsh 66)))))))))), ob := (.box (.cons (.int .i64) (.cons (.int .i64) (.cons (.int .i64) (.cons (.int .i64) .nil)))) (.arr true true leaseR .nil)), nx := 2, io := .nil }
def d_s_l07Put_15_0 (x8 : Int) (b00 : Int) (b01 : Int) (b02 : Int) (b03 : Int) (o1 : List T_Lease) : sh_s_l07Put_15_0.T := (((), ((), ((), ((), ((), ((), ((), ((), (x8, xd 66))))))))), ((b00, (b01, (b02, (b03, ())))), (o1, ())), ())
def s_s_l07Put_15_0 (x8 : Int) (b00 : Int) (b01 : Int) (b02 : Int) (b03 : Int) (o1 : List T_Lease) : St := { tm := ([.x, .x, .x, (.pb 0 0), .x, (.w 1), .x, .x, (.s (.int .i64 x8))] ++ List.replicate 66 .x), ob := [(0, (.box [(.s (.int .i64 b00)), (.s (.int .i64 b01)), (.s (.int .i64 b02)), (.s (.int .i64 b03))])), (1, (.arr true true leaseR o1))], nx := 2, io := [] }
theorem se_s_l07Put_15_0 (x8 : Int) (b00 : Int) (b01 : Int) (b02 : Int) (b03 : Int) (o1 : List T_Lease) : sh_s_l07Put_15_0.mk' (d_s_l07Put_15_0 x8 b00 b01 b02 b03 o1) = (s_s_l07Put_15_0 x8 b00 b01 b02 b03 o1) := by kernel_rfl
def w_s_l07Put_15_0 (d : sh_s_l07Put_15_0.T) (f : Int → Int → Int → Int → Int → (List T_Lease) → Option Ret) : Option Ret := match d with | ((_, (_, (_, (_, (_, (_, (_, (_, (x8, _))))))))), ((b00, (b01, (b02, (b03, _)))), (o1, _)), _) => f x8 b00 b01 b02 b03 o1
noncomputable def P_s_l07Put_15_0 (x8 : Int) (b00 : Int) (b01 : Int) (b02 : Int) (b03 : Int) (o1 : List T_Lease) (nx0 : Int → Int → Int → Int → Int → (List T_Lease) → Option Ret) (k0 : (List T_Lease) → Option Ret) : Option Ret := (bif (decide (x8 < (((List.length o1) : Nat) : Int))) then (bif ((decide ((0 : Int) ≤ x8)) && (decide (x8 < (((List.length o1) : Nat) : Int)))) then (bif ((List.getD o1 (Int.toNat x8) (leaseR.dflt)).2.2.1 == (0 : Int)) then (bif ((decide ((0 : Int) ≤ x8)) && (decide (x8 < (((List.length o1) : Nat) : Int)))) then (nx0 (IntKind.wrap .i64 (x8 + (1 : Int))) b00 b01 b02 b03 (List.set o1 (Int.toNat x8) (b00, (b01, (b02, b03))))) else none) else (nx0 (IntKind.wrap .i64 (x8 + (1 : Int))) b00 b01 b02 b03 o1)) else none) else (k0 o1))
noncomputable def Q_s_l07Put_15_0 : Nat → Int → Int → Int → Int → Int → (List T_Lease) → ((List T_Lease) → Option Ret) → Option Ret
  | 0, _, _, _, _, _, _, _ => none
  | m + 1, x8, b00, b01, b02, b03, o1, k0 => P_s_l07Put_15_0 x8 b00 b01 b02 b03 o1 (fun x8 b00 b01 b02 b03 o1 => (Q_s_l07Put_15_0 m x8 b00 b01 b02 b03 o1 k0)) k0
noncomputable def R_s_l07Put_15_0 (x8 : Int) (b00 : Int) (b01 : Int) (b02 : Int) (b03 : Int) (o1 : List T_Lease) (k0 : (List T_Lease) → Option Ret) : Option Ret := Q_s_l07Put_15_0 (x8.toNat + b00.toNat + b01.toNat + b02.toNat + b03.toNat + List.length o1 + 2) x8 b00 b01 b02 b03 o1 k0
noncomputable def W_s_l07Put_15 : LoopFn := (fun (σ : St) (K : Ex → St → Option Ret) => (match sh_s_l07Put_15_0.un σ with | some d => w_s_l07Put_15_0 d (fun x8 b00 b01 b02 b03 o1 => R_s_l07Put_15_0 x8 b00 b01 b02 b03 o1 (fun o0 => (K (.ext 2) (z_s_l07Put_15_0 o0)))) | none => none))
noncomputable abbrev pl_s_l07Put : List (Nat × Plan × List Nat) := [(6, takeB [0, 1, 2, 3, 4] (.fork (.one 5 (.done))), []), (7, takeB [0, 1, 2, 3, 4, 5, 6, 7, 8] (.fork (.one 9 (.done))), []), (8, takeB [0, 1, 2, 3, 4, 5, 6, 7] (.fork (.one 8 (takes [9]))), [])]
noncomputable abbrev ls_s_l07Put : List (Nat × Bool × Sm) := [(N.s_l07One, true, S_s_l07One), (N.s_l07Less, true, S_s_l07Less)]
noncomputable abbrev E_s_l07Put : Env := En ls_s_l07Put pl_s_l07Put [(4, [0,3,5,6,7], [3,4,5,6], W_s_l07Put_4), (15, [3,5,8], [4,5], W_s_l07Put_15)] [] false 0 []
noncomputable abbrev U_s_l07Put_4 := rounds (run E_s_l07Put (bodyOf F.s_l07Put 4)) [0,3,5,6,7] [3,4,5,6]
theorem st_s_l07Put_4_0 (m : Nat) (x0 : List T_Lease) (x6 : Bool) (x7 : Int) (b00 : Int) (b01 : Int) (b02 : Int) (b03 : Int) (o1 : List T_Lease) (K : Ex → St → Option Ret) : U_s_l07Put_4 (m + 1) (s_s_l07Put_4_0 x0 x6 x7 b00 b01 b02 b03 o1) K = P_s_l07Put_4_0 x0 x6 x7 b00 b01 b02 b03 o1 (fun x0 x6 x7 b00 b01 b02 b03 o1 => (U_s_l07Put_4 m (s_s_l07Put_4_0 x0 x6 x7 b00 b01 b02 b03 o1) K)) (fun x6 b00 b01 b02 b03 o1 => (K (.ext 0) (z_s_l07Put_4_0 x6 b00 b01 b02 b03 o1))) := by kernel_rfl
theorem q_s_l07Put_4 (K : Ex → St → Option Ret) : ∀ m : Nat, (∀ (x0 : List T_Lease) (x6 : Bool) (x7 : Int) (b00 : Int) (b01 : Int) (b02 : Int) (b03 : Int) (o1 : List T_Lease), U_s_l07Put_4 m (s_s_l07Put_4_0 x0 x6 x7 b00 b01 b02 b03 o1) K = Q_s_l07Put_4_0 m x0 x6 x7 b00 b01 b02 b03 o1 (fun x6 b00 b01 b02 b03 o1 => (K (.ext 0) (z_s_l07Put_4_0 x6 b00 b01 b02 b03 o1))))
  | 0 => (fun _ _ _ _ _ _ _ _ => rfl)
  | m + 1 => (fun x0 x6 x7 b00 b01 b02 b03 o1 => (by rw [st_s_l07Put_4_0, show (fun x0 x6 x7 b00 b01 b02 b03 o1 => (U_s_l07Put_4 m (s_s_l07Put_4_0 x0 x6 x7 b00 b01 b02 b03 o1) K)) = (fun x0 x6 x7 b00 b01 b02 b03 o1 => (Q_s_l07Put_4_0 m x0 x6 x7 b00 b01 b02 b03 o1 (fun x6 b00 b01 b02 b03 o1 => (K (.ext 0) (z_s_l07Put_4_0 x6 b00 b01 b02 b03 o1))))) from funext fun x0 => funext fun x6 => funext fun x7 => funext fun b00 => funext fun b01 => funext fun b02 => funext fun b03 => funext fun o1 => (q_s_l07Put_4 K m) x0 x6 x7 b00 b01 b02 b03 o1]; rfl))
theorem loopK_s_l07Put_4 : LoopOk E_s_l07Put (bodyOf F.s_l07Put 4) := by
  refine loopW_ok (n := 4) (F := W_s_l07Put_4) (by kernel_rfl) rfl (li := [0,3,5,6,7]) (lo := [3,4,5,6]) rfl (fun σ K r hr => ?_)
  unfold W_s_l07Put_4 at hr
  split at hr
  · rename_i d hd
    rw [Ss.un_mk hd]
    exact ⟨_, ((congrArg (fun z => U_s_l07Put_4 _ z K) (se_s_l07Put_4_0 _ _ _ _ _ _ _ _)).trans ((q_s_l07Put_4 K _) _ _ _ _ _ _ _ _)).trans hr⟩
  · cases hr
noncomputable abbrev U_s_l07Put_15 := rounds (run E_s_l07Put (bodyOf F.s_l07Put 15)) [3,5,8] [4,5]
theorem st_s_l07Put_15_0 (m : Nat) (x8 : Int) (b00 : Int) (b01 : Int) (b02 : Int) (b03 : Int) (o1 : List T_Lease) (K : Ex → St → Option Ret) : U_s_l07Put_15 (m + 1) (s_s_l07Put_15_0 x8 b00 b01 b02 b03 o1) K = P_s_l07Put_15_0 x8 b00 b01 b02 b03 o1 (fun x8 b00 b01 b02 b03 o1 => (U_s_l07Put_15 m (s_s_l07Put_15_0 x8 b00 b01 b02 b03 o1) K)) (fun o0 => (K (.ext 2) (z_s_l07Put_15_0 o0))) := by kernel_rfl
theorem q_s_l07Put_15 (K : Ex → St → Option Ret) : ∀ m : Nat, (∀ (x8 : Int) (b00 : Int) (b01 : Int) (b02 : Int) (b03 : Int) (o1 : List T_Lease), U_s_l07Put_15 m (s_s_l07Put_15_0 x8 b00 b01 b02 b03 o1) K = Q_s_l07Put_15_0 m x8 b00 b01 b02 b03 o1 (fun o0 => (K (.ext 2) (z_s_l07Put_15_0 o0))))
  | 0 => (fun _ _ _ _ _ _ => rfl)
  | m + 1 => (fun x8 b00 b01 b02 b03 o1 => (by rw [st_s_l07Put_15_0, show (fun x8 b00 b01 b02 b03 o1 => (U_s_l07Put_15 m (s_s_l07Put_15_0 x8 b00 b01 b02 b03 o1) K)) = (fun x8 b00 b01 b02 b03 o1 => (Q_s_l07Put_15_0 m x8 b00 b01 b02 b03 o1 (fun o0 => (K (.ext 2) (z_s_l07Put_15_0 o0))))) from funext fun x8 => funext fun b00 => funext fun b01 => funext fun b02 => funext fun b03 => funext fun o1 => (q_s_l07Put_15 K m) x8 b00 b01 b02 b03 o1]; rfl))
theorem loopK_s_l07Put_15 : LoopOk E_s_l07Put (bodyOf F.s_l07Put 15) := by
  refine loopW_ok (n := 15) (F := W_s_l07Put_15) (by kernel_rfl) rfl (li := [3,5,8]) (lo := [4,5]) rfl (fun σ K r hr => ?_)
  unfold W_s_l07Put_15 at hr
  split at hr
  · rename_i d hd
    rw [Ss.un_mk hd]
    exact ⟨_, ((congrArg (fun z => U_s_l07Put_15 _ z K) (se_s_l07Put_15_0 _ _ _ _ _ _)).trans ((q_s_l07Put_15 K _) _ _ _ _ _ _)).trans hr⟩
  · cases hr
noncomputable def T_s_l07Put (l : List T_Lease) (x : T_Lease) (K : Ret → Option Ret) : Option Ret := (R_s_l07Put_4_0 l false (0 : Int) x.1 x.2.1 x.2.2.1 x.2.2.2 [] (fun y0 y1 y2 y3 y4 y5 => (bif (!y0) then (bif (Nat.ble (((List.length y5) + (List.length ((y1, (y2, (y3, y4))) :: []))) * 32) 140737488355328) then K ((.l .deep leaseR (y5 ++ ((y1, (y2, (y3, y4))) :: []))), []) else none) else (R_s_l07Put_15_0 (0 : Int) y1 y2 y3 y4 y5 (fun y6 => K ((.l .deep leaseR y6), []))))))
theorem e_s_l07Put (l : List T_Lease) (x : T_Lease) (K : Ret → Option Ret) : evF E_s_l07Put true F.s_l07Put [.l .no leaseR l, .a (leaseR.cells .no x)] K = T_s_l07Put l x K := by kernel_rfl
def S_s_l07Put : Sm := S_fnR [.l leaseR, .a leaseR] (fun d => Nat.ble d.1.length 1048576) (fun d => (.l .deep leaseR (putD d.1 d.2.1), []))
theorem v_s_l07Put (l : List T_Lease) (x : T_Lease) (h : (Nat.ble l.length 1048576) = true) (K : Ret → Option Ret) : T_s_l07Put l x K = K (.l .deep leaseR (putD l x), []) := by
  have hl := Nat.le_of_ble_eq_true h
  unfold T_s_l07Put
  have q4 : ∀ (k0 : Bool → Int → Int → Int → Int → (List T_Lease) → Option Ret) (m : Nat), l.length < m → Q_s_l07Put_4_0 m l false ((0 : Nat) : Int) x.1 x.2.1 x.2.2.1 x.2.2.2 [] k0 = (fun (s : Bool × L4 × List L4) => k0 s.1 s.2.1.1 s.2.1.2.1 s.2.1.2.2.1 s.2.1.2.2.2 s.2.2) (l.foldl putF (false, x, [])) := by
    intro k0 m hm
    have := idx_fold (R := fun m i (s : Bool × L4 × List L4) => Q_s_l07Put_4_0 m l s.1 i s.2.1.1 s.2.1.2.1 s.2.1.2.2.1 s.2.1.2.2.2 s.2.2 k0) (f := putF) (I := fun i s => s.2.2.length ≤ i + 1 ∧ (s.1 = false → s.2.2.length ≤ i)) (kt := fun s => k0 s.1 s.2.1.1 s.2.1.2.1 s.2.1.2.2.1 s.2.1.2.2.2 s.2.2) (xs := l) (z := leaseR.dflt) (fun m i s hi hs => by
      show P_s_l07Put_4_0 l s.1 ((i : Nat) : Int) s.2.1.1 s.2.1.2.1 s.2.1.2.2.1 s.2.1.2.2.2 s.2.2 _ _ = _
      unfold P_s_l07Put_4_0
      obtain ⟨b, y, o⟩ := s
      obtain ⟨hs1, hs2⟩ := hs
      dsimp only at hs1 hs2 ⊢
      rw [decide_eq_true (show ((i : Nat) : Int) < ((l.length : Nat) : Int) by omega), decide_eq_true (show (0 : Int) ≤ ((i : Nat) : Int) by omega), Int.toNat_natCast, wrap_nat (by omega), Nat.ble_eq_true_of_le (by simp only [List.length_append, List.length_cons, List.length_nil]; omega), Nat.ble_eq_true_of_le (by simp only [List.length_append, List.length_cons, List.length_nil]; omega), Nat.ble_eq_true_of_le (by simp only [List.length_append, List.length_cons, List.length_nil]; omega)]
      unfold putF oneD
      dsimp only
      cases ((l.getD i leaseR.dflt).1 == y.1 && (l.getD i leaseR.dflt).2.1 == y.2.1 && (l.getD i leaseR.dflt).2.2.1 == y.2.2.1)
      · cases b
        · cases lessD (y.1, (y.2.1, (y.2.2.1, y.2.2.2))) (l.getD i leaseR.dflt) <;> rfl
        · rfl
      · rfl) (fun i s hi hs => by
      obtain ⟨hs1, hs2⟩ := hs
      unfold putF
      cases oneD (l.getD i leaseR.dflt) s.2.1 with
      | true => exact ⟨by simp only [cond_true]; omega, fun hb => by have := hs2 hb; simp only [cond_true]; omega⟩
      | false =>
        cases hb : s.1 with
        | true => exact ⟨by simp; omega, fun hh => by cases hh⟩
        | false =>
          have := hs2 hb
          cases lessD s.2.1 (l.getD i leaseR.dflt) with
          | true => exact ⟨by simp; omega, fun hh => by cases hh⟩
          | false => exact ⟨by simp; omega, fun _ => by simp; omega⟩) (fun m s hs => by
      show P_s_l07Put_4_0 l s.1 ((l.length : Nat) : Int) s.2.1.1 s.2.1.2.1 s.2.1.2.2.1 s.2.1.2.2.2 s.2.2 _ _ = _
      unfold P_s_l07Put_4_0
      rw [decide_eq_false (show ¬ ((l.length : Nat) : Int) < ((l.length : Nat) : Int) by omega)]; rfl) m 0 (false, x, []) ⟨Nat.zero_le _, fun _ => Nat.le_refl _⟩ (Nat.zero_le _) (by omega)
    rw [List.drop_zero] at this
    exact this
  have hlen := putL_len l (false, x, [])
  refine (q4 _ (List.length l + (0 : Int).toNat + x.1.toNat + x.2.1.toNat + x.2.2.1.toNat + x.2.2.2.toNat + List.length ([] : List T_Lease) + 2) (by omega)).trans ?_
  unfold putD
  generalize l.foldl putF (false, x, []) = s at *
  obtain ⟨b, y, o⟩ := s
  dsimp only [List.length_nil] at hlen ⊢
  unfold putE
  cases b with
  | false =>
    simp only [cond_false] at hlen
    rw [Nat.ble_eq_true_of_le (by simp only [List.length_cons, List.length_nil]; omega)]
    rfl
  | true =>
    simp only [cond_true, cond_false] at hlen
    have := idx_set (R := fun m i o => Q_s_l07Put_15_0 m i y.1 y.2.1 y.2.2.1 y.2.2.2 o (fun y6 => K ((.l .deep leaseR y6), []))) (kt := fun y6 => K ((.l .deep leaseR y6), [])) (z := leaseR.dflt) (y := y) (p := fun e : T_Lease => e.2.2.1 == 0) (n := o.length) (fun m i o' ho hi => by
      show P_s_l07Put_15_0 ((i : Nat) : Int) y.1 y.2.1 y.2.2.1 y.2.2.2 o' _ _ = _
      unfold P_s_l07Put_15_0
      rw [decide_eq_true (show ((i : Nat) : Int) < ((o'.length : Nat) : Int) by omega), decide_eq_true (show (0 : Int) ≤ ((i : Nat) : Int) by omega), Int.toNat_natCast, wrap_nat (by omega)]
      cases ((o'.getD i leaseR.dflt).2.2.1 == 0) <;> rfl) (fun m o' ho => by
      show P_s_l07Put_15_0 ((o.length : Nat) : Int) y.1 y.2.1 y.2.2.1 y.2.2.2 o' _ _ = _
      unfold P_s_l07Put_15_0
      rw [decide_eq_false (show ¬ ((o.length : Nat) : Int) < ((o'.length : Nat) : Int) by omega)]; rfl) ((0 : Int).toNat + y.1.toNat + y.2.1.toNat + y.2.2.1.toNat + y.2.2.2.toNat + List.length o + 2) 0 o rfl (Nat.zero_le _) (by omega)
    rw [List.take_zero, List.drop_zero, List.nil_append] at this
    exact this
theorem okS_s_l07Put : OkFn prog I N.s_l07Put true S_s_l07Put := okN (ok_fn (memc okS_s_l07One (memc okS_s_l07Less mem0)) (l := ls_s_l07Put) (p := pl_s_l07Put) (ls := [(4, [0,3,5,6,7], [3,4,5,6], W_s_l07Put_4), (15, [3,5,8], [4,5], W_s_l07Put_15)]) (lend := []) (focus := false) (fuel := 0) (give := []) (fn := F.s_l07Put) (by kernel_rfl) (by kernel_rfl) (by kernel_rfl) (by kernel_rfl) (cs := [bodyOf F.s_l07Put 4, bodyOf F.s_l07Put 15]) (by kernel_rfl) (loopsc loopK_s_l07Put_4 (loopsc loopK_s_l07Put_15 loops0))) (S_fnR_of fun d K h => (e_s_l07Put d.1 d.2.1 K).trans (v_s_l07Put d.1 d.2.1 h K))
end Go.Ev.Seat
end
section
/- s_LeaseTake: its contract. -/
namespace Go.Ev.Seat
open Go.RowKit
set_option maxRecDepth 100000
set_option linter.unusedVariables false
set_option linter.unusedSimpArgs false
def z_s_LeaseTake_6_0 (x0 : List T_Lease) (x7 : Int) (b00 : Int) (b01 : Int) (b02 : Int) (b03 : Int) : St := { tm := ([(.l .no leaseR x0), .x, .x, .x, (.pb 0 0), .x, .nl, (.s (.int .i64 x7))] ++ List.replicate 68 .x), ob := [(0, (.box [(.s (.int .i64 b00)), (.s (.int .i64 b01)), (.s (.int .i64 b02)), (.s (.int .i64 b03))]))], nx := 1, io := [] }
def z_s_LeaseTake_6_1 (x0 : List T_Lease) (b00 : Int) (b01 : Int) (b02 : Int) (b03 : Int) : St := { tm := ([(.l .no leaseR x0), .x, .x, .x, (.pb 0 0)] ++ List.replicate 71 .x), ob := [(0, (.box [(.s (.int .i64 b00)), (.s (.int .i64 b01)), (.s (.int .i64 b02)), (.s (.int .i64 b03))]))], nx := 1, io := [] }
def sh_s_LeaseTake_6_0 : Ss := { tm := (.cons (.l .no leaseR) (.cons (.x) (.cons (.int .i64) (.cons (.x) (.cons (.pb 0 0) (.cons (.x) (.cons (.x) (.cons (.x) (.cons (.int .i64) (xsh 67)))))))))), ob := (.box (.cons (.int .i64) (.cons (.int .i64) (.cons (.int .i64) (.cons (.int .i64) .nil)))) .nil), nx := 1, io := .nil }
def d_s_LeaseTake_6_0 (x0 : List T_Lease) (x2 : Int) (x8 : Int) (b00 : Int) (b01 : Int) (b02 : Int) (b03 : Int) : sh_s_LeaseTake_6_0.T := ((x0, ((), (x2, ((), ((), ((), ((), ((), (x8, xd 67))))))))), ((b00, (b01, (b02, (b03, ())))), ()), ())
def s_s_LeaseTake_6_0 (x0 : List T_Lease) (x2 : Int) (x8 : Int) (b00 : Int) (b01 : Int) (b02 : Int) (b03 : Int) : St := { tm := ([(.l .no leaseR x0), .x, (.s (.int .i64 x2)), .x, (.pb 0 0), .x, .x, .x, (.s (.int .i64 x8))] ++ List.replicate 67 .x), ob := [(0, (.box [(.s (.int .i64 b00)), (.s (.int .i64 b01)), (.s (.int .i64 b02)), (.s (.int .i64 b03))]))], nx := 1, io := [] }
theorem se_s_LeaseTake_6_0 (x0 : List T_Lease) (x2 : Int) (x8 : Int) (b00 : Int) (b01 : Int) (b02 : Int) (b03 : Int) : sh_s_LeaseTake_6_0.mk' (d_s_LeaseTake_6_0 x0 x2 x8 b00 b01 b02 b03) = (s_s_LeaseTake_6_0 x0 x2 x8 b00 b01 b02 b03) := by kernel_rfl
def w_s_LeaseTake_6_0 (d : sh_s_LeaseTake_6_0.T) (f : (List T_Lease) → Int → Int → Int → Int → Int → Int → Option Ret) : Option Ret := match d with | ((x0, (_, (x2, (_, (_, (_, (_, (_, (x8, _))))))))), ((b00, (b01, (b02, (b03, _)))), _), _) => f x0 x2 x8 b00 b01 b02 b03
noncomputable def P_s_LeaseTake_6_0 (x0 : List T_Lease) (x2 : Int) (x8 : Int) (b00 : Int) (b01 : Int) (b02 : Int) (b03 : Int) (nx0 : (List T_Lease) → Int → Int → Int → Int → Int → Int → Option Ret) (k0 : (List T_Lease) → Int → Int → Int → Int → Int → Option Ret) (k1 : (List T_Lease) → Int → Int → Int → Int → Option Ret) : Option Ret := (bif (decide (x8 < (((List.length x0) : Nat) : Int))) then (bif ((decide ((0 : Int) ≤ x8)) && (decide (x8 < (((List.length x0) : Nat) : Int)))) then (bif ((List.getD x0 (Int.toNat x8) (leaseR.dflt)).2.2.1 != b02) then (bif ((decide ((0 : Int) ≤ x8)) && (decide (x8 < (((List.length x0) : Nat) : Int)))) then (bif (decide ((List.getD x0 (Int.toNat x8) (leaseR.dflt)).2.2.2 > x2)) then (bif ((decide ((0 : Int) ≤ x8)) && (decide (x8 < (((List.length x0) : Nat) : Int)))) then (bif (meetD (List.getD x0 (Int.toNat x8) (leaseR.dflt)) (b00, (b01, (b02, b03)))) then (k0 x0 (3 : Int) b00 b01 b02 b03) else (nx0 x0 x2 (IntKind.wrap .i64 (x8 + (1 : Int))) b00 b01 b02 b03)) else none) else (nx0 x0 x2 (IntKind.wrap .i64 (x8 + (1 : Int))) b00 b01 b02 b03)) else none) else (nx0 x0 x2 (IntKind.wrap .i64 (x8 + (1 : Int))) b00 b01 b02 b03)) else none) else (k1 x0 b00 b01 b02 b03))
noncomputable def Q_s_LeaseTake_6_0 : Nat → (List T_Lease) → Int → Int → Int → Int → Int → Int → ((List T_Lease) → Int → Int → Int → Int → Int → Option Ret) → ((List T_Lease) → Int → Int → Int → Int → Option Ret) → Option Ret
  | 0, _, _, _, _, _, _, _, _, _ => none
  | m + 1, x0, x2, x8, b00, b01, b02, b03, k0, k1 => P_s_LeaseTake_6_0 x0 x2 x8 b00 b01 b02 b03 (fun x0 x2 x8 b00 b01 b02 b03 => (Q_s_LeaseTake_6_0 m x0 x2 x8 b00 b01 b02 b03 k0 k1)) k0 k1
noncomputable def R_s_LeaseTake_6_0 (x0 : List T_Lease) (x2 : Int) (x8 : Int) (b00 : Int) (b01 : Int) (b02 : Int) (b03 : Int) (k0 : (List T_Lease) → Int → Int → Int → Int → Int → Option Ret) (k1 : (List T_Lease) → Int → Int → Int → Int → Option Ret) : Option Ret := Q_s_LeaseTake_6_0 (List.length x0 + x2.toNat + x8.toNat + b00.toNat + b01.toNat + b02.toNat + b03.toNat + 2) x0 x2 x8 b00 b01 b02 b03 k0 k1
noncomputable def W_s_LeaseTake_6 : LoopFn := (fun (σ : St) (K : Ex → St → Option Ret) => (match sh_s_LeaseTake_6_0.un σ with | some d => w_s_LeaseTake_6_0 d (fun x0 x2 x8 b00 b01 b02 b03 => R_s_LeaseTake_6_0 x0 x2 x8 b00 b01 b02 b03 (fun x0 x7 b00 b01 b02 b03 => (K .ret (z_s_LeaseTake_6_0 x0 x7 b00 b01 b02 b03))) (fun x0 b00 b01 b02 b03 => (K (.ext 0) (z_s_LeaseTake_6_1 x0 b00 b01 b02 b03)))) | none => none))
noncomputable abbrev pl_s_LeaseTake : List (Nat × Plan × List Nat) := [(8, takeB [0, 1, 2, 3, 4, 5, 6, 7, 8, 9, 10, 11, 12, 13, 14, 15, 16, 17, 18, 19, 20, 21, 22] (.fork (.one 23 (takes [24]))), [])]
noncomputable abbrev ls_s_LeaseTake : List (Nat × Bool × Sm) := [(N.s_LeasesOk, true, S_s_LeasesOk), (N.s_l07Right, true, S_s_l07Right), (N.s_l07Clock, true, S_s_l07Clock), (N.s_l07Meet, true, S_s_l07Meet), (N.s_l07At, true, S_s_l07At), (N.s_l07Put, true, S_s_l07Put)]
noncomputable abbrev E_s_LeaseTake : Env := En ls_s_LeaseTake pl_s_LeaseTake [(6, [0,2,4,8], [0,4,6,7], W_s_LeaseTake_6)] [] false 0 []
noncomputable abbrev U_s_LeaseTake_6 := rounds (run E_s_LeaseTake (bodyOf F.s_LeaseTake 6)) [0,2,4,8] [0,4,6,7]
theorem st_s_LeaseTake_6_0 (m : Nat) (x0 : List T_Lease) (x2 : Int) (x8 : Int) (b00 : Int) (b01 : Int) (b02 : Int) (b03 : Int) (K : Ex → St → Option Ret) : U_s_LeaseTake_6 (m + 1) (s_s_LeaseTake_6_0 x0 x2 x8 b00 b01 b02 b03) K = P_s_LeaseTake_6_0 x0 x2 x8 b00 b01 b02 b03 (fun x0 x2 x8 b00 b01 b02 b03 => (U_s_LeaseTake_6 m (s_s_LeaseTake_6_0 x0 x2 x8 b00 b01 b02 b03) K)) (fun x0 x7 b00 b01 b02 b03 => (K .ret (z_s_LeaseTake_6_0 x0 x7 b00 b01 b02 b03))) (fun x0 b00 b01 b02 b03 => (K (.ext 0) (z_s_LeaseTake_6_1 x0 b00 b01 b02 b03))) := by kernel_rfl
theorem q_s_LeaseTake_6 (K : Ex → St → Option Ret) : ∀ m : Nat, (∀ (x0 : List T_Lease) (x2 : Int) (x8 : Int) (b00 : Int) (b01 : Int) (b02 : Int) (b03 : Int), U_s_LeaseTake_6 m (s_s_LeaseTake_6_0 x0 x2 x8 b00 b01 b02 b03) K = Q_s_LeaseTake_6_0 m x0 x2 x8 b00 b01 b02 b03 (fun x0 x7 b00 b01 b02 b03 => (K .ret (z_s_LeaseTake_6_0 x0 x7 b00 b01 b02 b03))) (fun x0 b00 b01 b02 b03 => (K (.ext 0) (z_s_LeaseTake_6_1 x0 b00 b01 b02 b03))))
  | 0 => (fun _ _ _ _ _ _ _ => rfl)
  | m + 1 => (fun x0 x2 x8 b00 b01 b02 b03 => (by rw [st_s_LeaseTake_6_0, show (fun x0 x2 x8 b00 b01 b02 b03 => (U_s_LeaseTake_6 m (s_s_LeaseTake_6_0 x0 x2 x8 b00 b01 b02 b03) K)) = (fun x0 x2 x8 b00 b01 b02 b03 => (Q_s_LeaseTake_6_0 m x0 x2 x8 b00 b01 b02 b03 (fun x0 x7 b00 b01 b02 b03 => (K .ret (z_s_LeaseTake_6_0 x0 x7 b00 b01 b02 b03))) (fun x0 b00 b01 b02 b03 => (K (.ext 0) (z_s_LeaseTake_6_1 x0 b00 b01 b02 b03))))) from funext fun x0 => funext fun x2 => funext fun x8 => funext fun b00 => funext fun b01 => funext fun b02 => funext fun b03 => (q_s_LeaseTake_6 K m) x0 x2 x8 b00 b01 b02 b03]; rfl))
theorem loopK_s_LeaseTake_6 : LoopOk E_s_LeaseTake (bodyOf F.s_LeaseTake 6) := by
  refine loopW_ok (n := 6) (F := W_s_LeaseTake_6) (by kernel_rfl) rfl (li := [0,2,4,8]) (lo := [0,4,6,7]) rfl (fun σ K r hr => ?_)
  unfold W_s_LeaseTake_6 at hr
  split at hr
  · rename_i d hd
    rw [Ss.un_mk hd]
    exact ⟨_, ((congrArg (fun z => U_s_LeaseTake_6 _ z K) (se_s_LeaseTake_6_0 _ _ _ _ _ _ _)).trans ((q_s_LeaseTake_6 K _) _ _ _ _ _ _ _)).trans hr⟩
  · cases hr
noncomputable def T_s_LeaseTake (l : List T_Lease) (x : T_Lease) (n : Int) (K : Ret → Option Ret) : Option Ret := (bif (Nat.ble (List.length l) 1048576) then (bif (!(leasesOkD l)) then K ((.t [(.l .deep leaseR []), (.s (.int .i64 (1 : Int)))]), []) else (bif (!(leaseOkD x)) then K ((.t [(.l .deep leaseR []), (.s (.int .i64 (1 : Int)))]), []) else (bif (!(clockD n)) then K ((.t [(.l .deep leaseR []), (.s (.int .i64 (1 : Int)))]), []) else (bif (x.1 == x.2.1) then K ((.t [(.l .deep leaseR []), (.s (.int .i64 (1 : Int)))]), []) else (bif (decide (x.2.2.2 ≤ n)) then K ((.t [(.l .deep leaseR []), (.s (.int .i64 (2 : Int)))]), []) else (R_s_LeaseTake_6_0 l n (0 : Int) x.1 x.2.1 x.2.2.1 x.2.2.2 (fun y0 y1 y2 y3 y4 y5 => K ((.t [(.l .deep leaseR []), (.s (.int .i64 y1))]), [])) (fun y6 y7 y8 y9 y10 => (bif (Nat.ble (List.length y6) 1048576) then (bif (decide ((idxF (fun o => (oneD o (y7, (y8, (y9, y10))))) y6) ≥ (0 : Int))) then K ((.t [(.l .deep leaseR []), (.s (.int .i64 (4 : Int)))]), []) else (bif ((((List.length y6) : Nat) : Int) == (12 : Int)) then K ((.t [(.l .deep leaseR []), (.s (.int .i64 (4 : Int)))]), []) else (bif (Nat.ble (List.length y6) 1048576) then K ((.t [(.l .deep leaseR (putD y6 (y7, (y8, (y9, y10))))), (.s (.int .i64 (0 : Int)))]), []) else none))) else none)))))))) else none)
theorem e_s_LeaseTake (l : List T_Lease) (x : T_Lease) (n : Int) (K : Ret → Option Ret) : evF E_s_LeaseTake true F.s_LeaseTake [.l .no leaseR l, .a (leaseR.cells .no x), .s (.int .i64 n)] K = T_s_LeaseTake l x n K := by kernel_rfl
def S_s_LeaseTake : Sm := S_fnR [.l leaseR, .a leaseR, .i] (fun d => Nat.ble d.1.length 1048576) (fun d => (.t [.l .deep leaseR (takeD d.1 d.2.1 d.2.2.1).1, .s (.int .i64 (takeD d.1 d.2.1 d.2.2.1).2)], []))
theorem v_s_LeaseTake (l : List T_Lease) (x : T_Lease) (n : Int) (h : (Nat.ble l.length 1048576) = true) (K : Ret → Option Ret) : T_s_LeaseTake l x n K = K (.t [.l .deep leaseR (takeD l x n).1, .s (.int .i64 (takeD l x n).2)], []) := by
  have hl := Nat.le_of_ble_eq_true h
  unfold T_s_LeaseTake takeD
  rw [h]
  cases leasesOkD l
  · rfl
  cases leaseOkD x
  · rfl
  cases clockD n
  · rfl
  cases hx : (x.1 == x.2.1) with
  | true => rw [show (x.1 != x.2.1) = false by unfold bne; rw [hx]; rfl]; rfl
  | false =>
  rw [show (x.1 != x.2.1) = true by unfold bne; rw [hx]; rfl]
  cases decide (x.2.2.2 ≤ n)
  case true => rfl
  have q := idx_all (R := fun m i => Q_s_LeaseTake_6_0 m l n i x.1 x.2.1 x.2.2.1 x.2.2.2 (fun y0 y1 y2 y3 y4 y5 => K ((.t [(.l .deep leaseR []), (.s (.int .i64 y1))]), [])) (fun y6 y7 y8 y9 y10 =>
       (bif (Nat.ble (List.length y6) 1048576) then
        (bif (decide ((idxF (fun o => (oneD o (y7, (y8, (y9, y10))))) y6) ≥ (0 : Int))) then
         K ((.t [(.l .deep leaseR []), (.s (.int .i64 (4 : Int)))]), [])
         else (bif ((((List.length y6) : Nat) : Int) == (12 : Int)) then
          K ((.t [(.l .deep leaseR []), (.s (.int .i64 (4 : Int)))]), [])
          else (bif (Nat.ble (List.length y6) 1048576) then
           K ((.t [(.l .deep leaseR (putD y6 (y7, (y8, (y9, y10))))), (.s (.int .i64 (0 : Int)))]), [])
           else none)))
        else none))) (p := fun o : T_Lease => !((o.2.2.1 != x.2.2.1) && decide (o.2.2.2 > n) && meetD o x)) (xs := l) (z := leaseR.dflt) (kf := K ((.t [(.l .deep leaseR []), (.s (.int .i64 3))]), [])) (kt := (bif (Nat.ble (List.length l) 1048576) then
        (bif (decide ((idxF (fun o => (oneD o x)) l) ≥ (0 : Int))) then
         K ((.t [(.l .deep leaseR []), (.s (.int .i64 (4 : Int)))]), [])
         else (bif ((((List.length l) : Nat) : Int) == (12 : Int)) then
          K ((.t [(.l .deep leaseR []), (.s (.int .i64 (4 : Int)))]), [])
          else (bif (Nat.ble (List.length l) 1048576) then
           K ((.t [(.l .deep leaseR (putD l x)), (.s (.int .i64 (0 : Int)))]), [])
           else none)))
        else none)) (fun m i hi => by
    show P_s_LeaseTake_6_0 l n ((i : Nat) : Int) x.1 x.2.1 x.2.2.1 x.2.2.2 _ _ _ = _
    unfold P_s_LeaseTake_6_0
    rw [decide_eq_true (show ((i : Nat) : Int) < ((l.length : Nat) : Int) by omega), decide_eq_true (show (0 : Int) ≤ ((i : Nat) : Int) by omega), Int.toNat_natCast, wrap_nat (by omega)]
    show _ = bif !(((l.getD i leaseR.dflt).2.2.1 != x.2.2.1) && decide ((l.getD i leaseR.dflt).2.2.2 > n) && meetD (l.getD i leaseR.dflt) (x.1, (x.2.1, (x.2.2.1, x.2.2.2)))) then _ else _
    cases ((l.getD i leaseR.dflt).2.2.1 != x.2.2.1)
    · rfl
    cases decide ((l.getD i leaseR.dflt).2.2.2 > n)
    · rfl
    cases meetD (l.getD i leaseR.dflt) (x.1, (x.2.1, (x.2.2.1, x.2.2.2))) <;> rfl) (fun m => by
    show P_s_LeaseTake_6_0 l n ((l.length : Nat) : Int) x.1 x.2.1 x.2.2.1 x.2.2.2 _ _ _ = _
    unfold P_s_LeaseTake_6_0
    rw [decide_eq_false (show ¬ ((l.length : Nat) : Int) < ((l.length : Nat) : Int) by omega)]; rfl) (List.length l + n.toNat + (0 : Int).toNat + x.1.toNat + x.2.1.toNat + x.2.2.1.toNat + x.2.2.2.toNat + 2) 0 (by omega) (by omega)
  refine Eq.trans q ?_
  rw [List.drop_zero, List.all_eq_not_any_not]
  simp only [Bool.not_not, h, cond_true]
  cases l.any (fun o => (o.2.2.1 != x.2.2.1) && decide (o.2.2.2 > n) && meetD o x)
  · cases decide (idxF (fun o => oneD o x) l ≥ 0)
    · cases (((l.length : Nat) : Int) == 12) <;> rfl
    · rfl
  · rfl
theorem okS_s_LeaseTake : OkFn prog I N.s_LeaseTake true S_s_LeaseTake := okN (ok_fn (memc okS_s_LeasesOk (memc okS_s_l07Right (memc okS_s_l07Clock (memc okS_s_l07Meet (memc okS_s_l07At (memc okS_s_l07Put mem0)))))) (l := ls_s_LeaseTake) (p := pl_s_LeaseTake) (ls := [(6, [0,2,4,8], [0,4,6,7], W_s_LeaseTake_6)]) (lend := []) (focus := false) (fuel := 0) (give := []) (fn := F.s_LeaseTake) (by kernel_rfl) (by kernel_rfl) (by kernel_rfl) (by kernel_rfl) (cs := [bodyOf F.s_LeaseTake 6]) (by kernel_rfl) (loopsc loopK_s_LeaseTake_6 loops0)) (S_fnR_of fun d K h => (e_s_LeaseTake d.1 d.2.1 d.2.2.1 K).trans (v_s_LeaseTake d.1 d.2.1 d.2.2.1 h K))
end Go.Ev.Seat
end
section
/- s_l01Cur_raw: its contract. -/
namespace Go.Ev.Seat
open Go.RowKit
set_option maxRecDepth 100000
set_option linter.unusedVariables false
set_option linter.unusedSimpArgs false
noncomputable abbrev ls_s_l01Cur_raw : List (Nat × Bool × Sm) := [(N.s_l01Cur_pick, false, (SB_s_l01Cur_pick B_s_l01Cur_pick))]
noncomputable abbrev E_s_l01Cur_raw : Env := En ls_s_l01Cur_raw [] [] [] false 0 []
noncomputable def T_s_l01Cur_raw (cc : List Int) (ca : Int) (cs : Int) (K : Ret → Option Ret) : Option Ret := (B_s_l01Cur_pick cc ca cs (8 : Int) (fun y0 y1 y2 => (bif (y0 == (0 : Int)) then (B_s_l01Cur_pick cc y1 y2 (256 : Int) (fun y3 y4 y5 => K ((.s (.int .i64 (IntKind.wrap .i64 (y3 - (128 : Int))))), [(.io [(.l .no bytesR cc), (.s (.int .i64 y4)), (.s (.int .i64 y5))])]))) else (bif (y0 == (1 : Int)) then (B_s_l01Cur_pick cc y1 y2 (8 : Int) (fun y6 y7 y8 => (bif ((decide ((0 : Int) ≤ y6)) && (decide (y6 < (((List.length ((9223372036854775807 : Int) :: ((-(9223372036854775808 : Int)) :: ((4611686018427387904 : Int) :: ((55296 : Int) :: ((57343 : Int) :: ((65536 : Int) :: ((1114111 : Int) :: ((1114112 : Int) :: ([] : List Int)))))))))) : Nat) : Int)))) then K ((.s (.int .i64 (List.getD ((9223372036854775807 : Int) :: ((-(9223372036854775808 : Int)) :: ((4611686018427387904 : Int) :: ((55296 : Int) :: ((57343 : Int) :: ((65536 : Int) :: ((1114111 : Int) :: ((1114112 : Int) :: ([] : List Int))))))))) (Int.toNat y6) (0 : Int)))), [(.io [(.l .no bytesR cc), (.s (.int .i64 y7)), (.s (.int .i64 y8))])]) else none))) else (B_s_l01Cur_pick cc y1 y2 (14 : Int) (fun y9 y10 y11 => K ((.s (.int .i64 (IntKind.wrap .i64 (y9 - (3 : Int))))), [(.io [(.l .no bytesR cc), (.s (.int .i64 y10)), (.s (.int .i64 y11))])])))))))
theorem e_s_l01Cur_raw (cc : List Int) (ca : Int) (cs : Int) (K : Ret → Option Ret) : evF E_s_l01Cur_raw false F.s_l01Cur_raw [.io [.l .no bytesR cc, .s (.int .i64 ca), .s (.int .i64 cs)]] K = T_s_l01Cur_raw cc ca cs K := by kernel_rfl
theorem x_s_l01Cur_raw (cc : List Int) (ca : Int) (cs : Int) (h : (curB 3000000000000000000 cc ca cs) = true) : ∃ (y : Int) (a : Int) (s : Int), (0 ≤ a ∧ a ≤ ca + 2 ∧ 0 ≤ s ∧ s < 65536) ∧ ∀ K : Ret → Option Ret, T_s_l01Cur_raw cc ca cs K = K (.s (.int .i64 y), [.io [.l .no bytesR cc, .s (.int .i64 a), .s (.int .i64 s)]]) := by
  suffices hd : Dr (fun r : Ret => ∃ (y : Int) (a : Int) (s : Int), (0 ≤ a ∧ a ≤ ca + 2 ∧ 0 ≤ s ∧ s < 65536) ∧ r = (.s (.int .i64 y), [.io [.l .no bytesR cc, .s (.int .i64 a), .s (.int .i64 s)]])) (fun K : Ret → Option Ret => T_s_l01Cur_raw cc ca cs K) by
    obtain ⟨_, ⟨y, a, s, hp, rfl⟩, hk⟩ := hd
    exact ⟨y, a, s, hp, hk⟩
  obtain ⟨hf, h2, h3, h4, h5⟩ := curB_iff.1 h
  have hl := fitB_len hf
  unfold T_s_l01Cur_raw
  repeat' first
    | exact Dr.leaf ⟨_, _, _, ⟨by omega, by omega, by omega, by omega⟩, rfl⟩
    | refine Dr.b3 (b_s_l01Cur_pick _ _ _ _ (curB_iff.2 ⟨hf, by omega, by omega, by omega, by omega⟩)) (fun _ _ _ hy => ?_)
    | refine Dr.meet ?_
    | simp (disch := omega) only [wrap_in]
    | refine Dr.must (by first | rfl | (simp only [List.length_cons, List.length_nil, BEq.rfl, Bool.true_and, Bool.and_eq_true, decide_eq_true_eq]; omega)) ?_
    | refine Dr.bif (fun hb => ?_) (fun hb => ?_)
noncomputable def g_s_l01Cur_raw (cc : List Int) (ca : Int) (cs : Int) : Int × Int × Int := Classical.epsilon fun g => (0 ≤ (g).2.1 ∧ (g).2.1 ≤ ca + 2 ∧ 0 ≤ (g).2.2 ∧ (g).2.2 < 65536) ∧ ∀ K : Ret → Option Ret, T_s_l01Cur_raw cc ca cs K = K (.s (.int .i64 (g).1), [.io [.l .no bytesR cc, .s (.int .i64 (g).2.1), .s (.int .i64 (g).2.2)]])
theorem gs_s_l01Cur_raw (cc : List Int) (ca : Int) (cs : Int) (h : (curB 3000000000000000000 cc ca cs) = true) : (0 ≤ (g_s_l01Cur_raw cc ca cs).2.1 ∧ (g_s_l01Cur_raw cc ca cs).2.1 ≤ ca + 2 ∧ 0 ≤ (g_s_l01Cur_raw cc ca cs).2.2 ∧ (g_s_l01Cur_raw cc ca cs).2.2 < 65536) ∧ ∀ K : Ret → Option Ret, T_s_l01Cur_raw cc ca cs K = K (.s (.int .i64 (g_s_l01Cur_raw cc ca cs).1), [.io [.l .no bytesR cc, .s (.int .i64 (g_s_l01Cur_raw cc ca cs).2.1), .s (.int .i64 (g_s_l01Cur_raw cc ca cs).2.2)]]) := by
  obtain ⟨y, a, s, hy, hk⟩ := x_s_l01Cur_raw cc ca cs h
  exact Classical.epsilon_spec (p := fun g : Int × Int × Int => (0 ≤ (g).2.1 ∧ (g).2.1 ≤ ca + 2 ∧ 0 ≤ (g).2.2 ∧ (g).2.2 < 65536) ∧ ∀ K : Ret → Option Ret, T_s_l01Cur_raw cc ca cs K = K (.s (.int .i64 (g).1), [.io [.l .no bytesR cc, .s (.int .i64 (g).2.1), .s (.int .i64 (g).2.2)]])) ⟨⟨y, a, s⟩, hy, hk⟩
noncomputable def B_s_l01Cur_raw (cc : List Int) (ca : Int) (cs : Int) (k : (Int) → (Int) → (Int) → Option Ret) : Option Ret := bif curB 3000000000000000000 cc ca cs then k (g_s_l01Cur_raw cc ca cs).1 (g_s_l01Cur_raw cc ca cs).2.1 (g_s_l01Cur_raw cc ca cs).2.2 else none
theorem b_s_l01Cur_raw (cc : List Int) (ca : Int) (cs : Int) (h : (curB 3000000000000000000 cc ca cs) = true) : ∃ (y : Int) (a : Int) (s : Int), (0 ≤ a ∧ a ≤ ca + 2 ∧ 0 ≤ s ∧ s < 65536) ∧ ∀ k, B_s_l01Cur_raw cc ca cs k = k y a s :=
  ⟨(g_s_l01Cur_raw cc ca cs).1, (g_s_l01Cur_raw cc ca cs).2.1, (g_s_l01Cur_raw cc ca cs).2.2, (gs_s_l01Cur_raw cc ca cs h).1, fun k => by unfold B_s_l01Cur_raw; rw [h]; rfl⟩
def SB_s_l01Cur_raw (B : (List Int) → (Int) → (Int) → ((Int) → (Int) → (Int) → Option Ret) → Option Ret) : Sm := S_B [.sh (.io (.cons (.l .no bytesR) (.cons (.int .i64) (.cons (.int .i64) .nil))))] (fun d K => B d.1.1 d.1.2.1 d.1.2.2.1 (fun y a s => K (.s (.int .i64 y), [.io [.l .no bytesR d.1.1, .s (.int .i64 a), .s (.int .i64 s)]])))
theorem okS_s_l01Cur_raw : OkFn prog I N.s_l01Cur_raw false (SB_s_l01Cur_raw B_s_l01Cur_raw) := okN (ok_fn (memc okS_s_l01Cur_pick mem0) (l := ls_s_l01Cur_raw) (p := []) (ls := []) (lend := []) (focus := false) (fuel := 0) (give := []) (fn := F.s_l01Cur_raw) (by kernel_rfl) (by kernel_rfl) (by kernel_rfl) (by kernel_rfl) (cs := []) (by kernel_rfl) loops0) (S_B_of fun d K q hq => by
  refine (e_s_l01Cur_raw d.1.1 d.1.2.1 d.1.2.2.1 K).trans ?_
  unfold B_s_l01Cur_raw at hq
  cases hp : (curB 3000000000000000000 d.1.1 d.1.2.1 d.1.2.2.1) with
  | false => rw [hp] at hq; cases hq
  | true =>
    rw [hp] at hq
    exact ((gs_s_l01Cur_raw d.1.1 d.1.2.1 d.1.2.2.1 hp).2 K).trans hq)
end Go.Ev.Seat
end
section
/- s_l01Cur_badLease: its contract. -/
namespace Go.Ev.Seat
open Go.RowKit
set_option maxRecDepth 100000
set_option linter.unusedVariables false
set_option linter.unusedSimpArgs false
noncomputable abbrev pl_s_l01Cur_badLease : List (Nat × Plan × List Nat) := [(6, takeB [0, 2, 3, 5] (.fork (.one 1 (.fork (.more 4 (.fork (.one 6 (takeB [7] (.fork (.one 8 (takeB [9] (.fork (.one 10 (.done))))))))) (.one 6 (.fork (.one 4 (takeB [7] (.fork (.one 8 (takeB [9] (.fork (.one 10 (.done)))))))))))))), [0])]
noncomputable abbrev ls_s_l01Cur_badLease : List (Nat × Bool × Sm) := [(N.s_l01Cur_lease, false, (SB_s_l01Cur_lease B_s_l01Cur_lease)), (N.s_l01Cur_pick, false, (SB_s_l01Cur_pick B_s_l01Cur_pick)), (N.s_l01Cur_raw, false, (SB_s_l01Cur_raw B_s_l01Cur_raw))]
noncomputable abbrev E_s_l01Cur_badLease : Env := En ls_s_l01Cur_badLease pl_s_l01Cur_badLease [] [] false 0 []
noncomputable def T_s_l01Cur_badLease (cc : List Int) (ca : Int) (cs : Int) (K : Ret → Option Ret) : Option Ret := (B_s_l01Cur_lease cc ca cs (fun y0 y1 y2 y3 y4 y5 => (B_s_l01Cur_pick cc y4 y5 (14 : Int) (fun y6 y7 y8 => (bif (y6 == (0 : Int)) then (B_s_l01Cur_raw cc y7 y8 (fun y9 y10 y11 => K ((.a [(.s (.int .i64 y9)), (.s (.int .i64 y1)), (.s (.int .i64 y2)), (.s (.int .i64 y3))]), [(.io [(.l .no bytesR cc), (.s (.int .i64 y10)), (.s (.int .i64 y11))])]))) else (bif (y6 == (1 : Int)) then (B_s_l01Cur_raw cc y7 y8 (fun y12 y13 y14 => (meet ((B_s_l01Cur_pick cc y13 y14 (4 : Int) (fun y15 y16 y17 => (bif ((decide ((0 : Int) ≤ y15)) && (decide (y15 < (((List.length (y12 :: (y0 :: ((400 : Int) :: ((401 : Int) :: ([] : List Int)))))) : Nat) : Int)))) then K ((.a [(.s (.int .i64 y0)), (.s (.int .i64 (List.getD (y12 :: (y0 :: ((400 : Int) :: ((401 : Int) :: ([] : List Int))))) (Int.toNat y15) (0 : Int)))), (.s (.int .i64 y2)), (.s (.int .i64 y3))]), [(.io [(.l .no bytesR cc), (.s (.int .i64 y16)), (.s (.int .i64 y17))])]) else none)))) ((B_s_l01Cur_pick cc y13 y14 (4 : Int) (fun y18 y19 y20 => (bif ((decide ((0 : Int) ≤ y18)) && (decide (y18 < (((List.length (y12 :: (y0 :: ((400 : Int) :: ((401 : Int) :: ([] : List Int)))))) : Nat) : Int)))) then K ((.a [(.s (.int .i64 y0)), (.s (.int .i64 (List.getD (y12 :: (y0 :: ((400 : Int) :: ((401 : Int) :: ([] : List Int))))) (Int.toNat y18) (0 : Int)))), (.s (.int .i64 y2)), (.s (.int .i64 y3))]), [(.io [(.l .no bytesR cc), (.s (.int .i64 y19)), (.s (.int .i64 y20))])]) else none))))))) else (bif (y6 == (2 : Int)) then (B_s_l01Cur_raw cc y7 y8 (fun y21 y22 y23 => (B_s_l01Cur_pick cc y22 y23 (3 : Int) (fun y24 y25 y26 => (bif ((decide ((0 : Int) ≤ y24)) && (decide (y24 < (((List.length (y21 :: ((8 : Int) :: ((9 : Int) :: ([] : List Int))))) : Nat) : Int)))) then K ((.a [(.s (.int .i64 y0)), (.s (.int .i64 y1)), (.s (.int .i64 (List.getD (y21 :: ((8 : Int) :: ((9 : Int) :: ([] : List Int)))) (Int.toNat y24) (0 : Int)))), (.s (.int .i64 y3))]), [(.io [(.l .no bytesR cc), (.s (.int .i64 y25)), (.s (.int .i64 y26))])]) else none))))) else (bif (y6 == (3 : Int)) then (B_s_l01Cur_raw cc y7 y8 (fun y27 y28 y29 => (B_s_l01Cur_pick cc y28 y29 (3 : Int) (fun y30 y31 y32 => (bif ((decide ((0 : Int) ≤ y30)) && (decide (y30 < (((List.length (y27 :: ((1000 : Int) :: ((1001 : Int) :: ([] : List Int))))) : Nat) : Int)))) then K ((.a [(.s (.int .i64 y0)), (.s (.int .i64 y1)), (.s (.int .i64 y2)), (.s (.int .i64 (List.getD (y27 :: ((1000 : Int) :: ((1001 : Int) :: ([] : List Int)))) (Int.toNat y30) (0 : Int))))]), [(.io [(.l .no bytesR cc), (.s (.int .i64 y31)), (.s (.int .i64 y32))])]) else none))))) else K ((.a [(.s (.int .i64 y0)), (.s (.int .i64 y1)), (.s (.int .i64 y2)), (.s (.int .i64 y3))]), [(.io [(.l .no bytesR cc), (.s (.int .i64 y7)), (.s (.int .i64 y8))])])))))))))
theorem e_s_l01Cur_badLease (cc : List Int) (ca : Int) (cs : Int) (K : Ret → Option Ret) : evF E_s_l01Cur_badLease false F.s_l01Cur_badLease [.io [.l .no bytesR cc, .s (.int .i64 ca), .s (.int .i64 cs)]] K = T_s_l01Cur_badLease cc ca cs K := by kernel_rfl
theorem x_s_l01Cur_badLease (cc : List Int) (ca : Int) (cs : Int) (h : (curB 1000000000000000000 cc ca cs) = true) : ∃ (y0 : Int) (y1 : Int) (y2 : Int) (y3 : Int) (a : Int) (s : Int), (0 ≤ a ∧ a ≤ ca + 20 ∧ 0 ≤ s ∧ s < 65536) ∧ ∀ K : Ret → Option Ret, T_s_l01Cur_badLease cc ca cs K = K (.a [.s (.int .i64 y0), .s (.int .i64 y1), .s (.int .i64 y2), .s (.int .i64 y3)], [.io [.l .no bytesR cc, .s (.int .i64 a), .s (.int .i64 s)]]) := by
  suffices hd : Dr (fun r : Ret => ∃ (y0 : Int) (y1 : Int) (y2 : Int) (y3 : Int) (a : Int) (s : Int), (0 ≤ a ∧ a ≤ ca + 20 ∧ 0 ≤ s ∧ s < 65536) ∧ r = (.a [.s (.int .i64 y0), .s (.int .i64 y1), .s (.int .i64 y2), .s (.int .i64 y3)], [.io [.l .no bytesR cc, .s (.int .i64 a), .s (.int .i64 s)]])) (fun K : Ret → Option Ret => T_s_l01Cur_badLease cc ca cs K) by
    obtain ⟨_, ⟨y0, y1, y2, y3, a, s, hp, rfl⟩, hk⟩ := hd
    exact ⟨y0, y1, y2, y3, a, s, hp, hk⟩
  obtain ⟨hf, h2, h3, h4, h5⟩ := curB_iff.1 h
  have hl := fitB_len hf
  unfold T_s_l01Cur_badLease
  repeat' first
    | exact Dr.leaf ⟨_, _, _, _, _, _, ⟨by omega, by omega, by omega, by omega⟩, rfl⟩
    | refine Dr.b3 (b_s_l01Cur_pick _ _ _ _ (curB_iff.2 ⟨hf, by omega, by omega, by omega, by omega⟩)) (fun _ _ _ hy => ?_)
    | refine Dr.b3 (b_s_l01Cur_raw _ _ _ (curB_iff.2 ⟨hf, by omega, by omega, by omega, by omega⟩)) (fun _ _ _ hy => ?_)
    | refine Dr.b6 (b_s_l01Cur_lease _ _ _ (curB_iff.2 ⟨hf, by omega, by omega, by omega, by omega⟩)) (fun _ _ _ _ _ _ hy => ?_)
    | refine Dr.meet ?_
    | simp (disch := omega) only [wrap_in]
    | refine Dr.must (by first | rfl | (simp only [List.length_cons, List.length_nil, BEq.rfl, Bool.true_and, Bool.and_eq_true, decide_eq_true_eq]; omega)) ?_
    | refine Dr.bif (fun hb => ?_) (fun hb => ?_)
noncomputable def g_s_l01Cur_badLease (cc : List Int) (ca : Int) (cs : Int) : Int × Int × Int × Int × Int × Int := Classical.epsilon fun g => (0 ≤ (g).2.2.2.2.1 ∧ (g).2.2.2.2.1 ≤ ca + 20 ∧ 0 ≤ (g).2.2.2.2.2 ∧ (g).2.2.2.2.2 < 65536) ∧ ∀ K : Ret → Option Ret, T_s_l01Cur_badLease cc ca cs K = K (.a [.s (.int .i64 (g).1), .s (.int .i64 (g).2.1), .s (.int .i64 (g).2.2.1), .s (.int .i64 (g).2.2.2.1)], [.io [.l .no bytesR cc, .s (.int .i64 (g).2.2.2.2.1), .s (.int .i64 (g).2.2.2.2.2)]])
theorem gs_s_l01Cur_badLease (cc : List Int) (ca : Int) (cs : Int) (h : (curB 1000000000000000000 cc ca cs) = true) : (0 ≤ (g_s_l01Cur_badLease cc ca cs).2.2.2.2.1 ∧ (g_s_l01Cur_badLease cc ca cs).2.2.2.2.1 ≤ ca + 20 ∧ 0 ≤ (g_s_l01Cur_badLease cc ca cs).2.2.2.2.2 ∧ (g_s_l01Cur_badLease cc ca cs).2.2.2.2.2 < 65536) ∧ ∀ K : Ret → Option Ret, T_s_l01Cur_badLease cc ca cs K = K (.a [.s (.int .i64 (g_s_l01Cur_badLease cc ca cs).1), .s (.int .i64 (g_s_l01Cur_badLease cc ca cs).2.1), .s (.int .i64 (g_s_l01Cur_badLease cc ca cs).2.2.1), .s (.int .i64 (g_s_l01Cur_badLease cc ca cs).2.2.2.1)], [.io [.l .no bytesR cc, .s (.int .i64 (g_s_l01Cur_badLease cc ca cs).2.2.2.2.1), .s (.int .i64 (g_s_l01Cur_badLease cc ca cs).2.2.2.2.2)]]) := by
  obtain ⟨y0, y1, y2, y3, a, s, hy, hk⟩ := x_s_l01Cur_badLease cc ca cs h
  exact Classical.epsilon_spec (p := fun g : Int × Int × Int × Int × Int × Int => (0 ≤ (g).2.2.2.2.1 ∧ (g).2.2.2.2.1 ≤ ca + 20 ∧ 0 ≤ (g).2.2.2.2.2 ∧ (g).2.2.2.2.2 < 65536) ∧ ∀ K : Ret → Option Ret, T_s_l01Cur_badLease cc ca cs K = K (.a [.s (.int .i64 (g).1), .s (.int .i64 (g).2.1), .s (.int .i64 (g).2.2.1), .s (.int .i64 (g).2.2.2.1)], [.io [.l .no bytesR cc, .s (.int .i64 (g).2.2.2.2.1), .s (.int .i64 (g).2.2.2.2.2)]])) ⟨⟨y0, y1, y2, y3, a, s⟩, hy, hk⟩
noncomputable def B_s_l01Cur_badLease (cc : List Int) (ca : Int) (cs : Int) (k : (Int) → (Int) → (Int) → (Int) → (Int) → (Int) → Option Ret) : Option Ret := bif curB 1000000000000000000 cc ca cs then k (g_s_l01Cur_badLease cc ca cs).1 (g_s_l01Cur_badLease cc ca cs).2.1 (g_s_l01Cur_badLease cc ca cs).2.2.1 (g_s_l01Cur_badLease cc ca cs).2.2.2.1 (g_s_l01Cur_badLease cc ca cs).2.2.2.2.1 (g_s_l01Cur_badLease cc ca cs).2.2.2.2.2 else none
theorem b_s_l01Cur_badLease (cc : List Int) (ca : Int) (cs : Int) (h : (curB 1000000000000000000 cc ca cs) = true) : ∃ (y0 : Int) (y1 : Int) (y2 : Int) (y3 : Int) (a : Int) (s : Int), (0 ≤ a ∧ a ≤ ca + 20 ∧ 0 ≤ s ∧ s < 65536) ∧ ∀ k, B_s_l01Cur_badLease cc ca cs k = k y0 y1 y2 y3 a s :=
  ⟨(g_s_l01Cur_badLease cc ca cs).1, (g_s_l01Cur_badLease cc ca cs).2.1, (g_s_l01Cur_badLease cc ca cs).2.2.1, (g_s_l01Cur_badLease cc ca cs).2.2.2.1, (g_s_l01Cur_badLease cc ca cs).2.2.2.2.1, (g_s_l01Cur_badLease cc ca cs).2.2.2.2.2, (gs_s_l01Cur_badLease cc ca cs h).1, fun k => by unfold B_s_l01Cur_badLease; rw [h]; rfl⟩
def SB_s_l01Cur_badLease (B : (List Int) → (Int) → (Int) → ((Int) → (Int) → (Int) → (Int) → (Int) → (Int) → Option Ret) → Option Ret) : Sm := S_B [.sh (.io (.cons (.l .no bytesR) (.cons (.int .i64) (.cons (.int .i64) .nil))))] (fun d K => B d.1.1 d.1.2.1 d.1.2.2.1 (fun y0 y1 y2 y3 a s => K (.a [.s (.int .i64 y0), .s (.int .i64 y1), .s (.int .i64 y2), .s (.int .i64 y3)], [.io [.l .no bytesR d.1.1, .s (.int .i64 a), .s (.int .i64 s)]])))
theorem okS_s_l01Cur_badLease : OkFn prog I N.s_l01Cur_badLease false (SB_s_l01Cur_badLease B_s_l01Cur_badLease) := okN (ok_fn (memc okS_s_l01Cur_lease (memc okS_s_l01Cur_pick (memc okS_s_l01Cur_raw mem0))) (l := ls_s_l01Cur_badLease) (p := pl_s_l01Cur_badLease) (ls := []) (lend := []) (focus := false) (fuel := 0) (give := []) (fn := F.s_l01Cur_badLease) (by kernel_rfl) (by kernel_rfl) (by kernel_rfl) (by kernel_rfl) (cs := []) (by kernel_rfl) loops0) (S_B_of fun d K q hq => by
  refine (e_s_l01Cur_badLease d.1.1 d.1.2.1 d.1.2.2.1 K).trans ?_
  unfold B_s_l01Cur_badLease at hq
  cases hp : (curB 1000000000000000000 d.1.1 d.1.2.1 d.1.2.2.1) with
  | false => rw [hp] at hq; cases hq
  | true =>
    rw [hp] at hq
    exact ((gs_s_l01Cur_badLease d.1.1 d.1.2.1 d.1.2.2.1 hp).2 K).trans hq)
end Go.Ev.Seat
end
section
/- s_l01Cur_leases: its contract. -/
namespace Go.Ev.Seat
open Go.RowKit
set_option maxRecDepth 100000
set_option linter.unusedVariables false
set_option linter.unusedSimpArgs false
def z_s_l01Cur_leases_3_0 (b00 : List Int) (b01 : Int) (b02 : Int) (o1 : List T_Lease) : St := { tm := ([(.pb 0 0), .x, .x, (.w 1)] ++ List.replicate 59 .x), ob := [(0, (.box [(.l .no bytesR b00), (.s (.int .i64 b01)), (.s (.int .i64 b02))])), (1, (.arr true true leaseR o1))], nx := 2, io := [(.pb 0 0)] }
def sh_s_l01Cur_leases_3_0 : Ss := { tm := (.cons (.pb 0 0) (.cons (.x) (.cons (.x) (.cons (.w 1) (.cons (.int .i64) (xsh 58)))))), ob := (.box (.cons (.l .no bytesR) (.cons (.int .i64) (.cons (.int .i64) .nil))) (.arr true true leaseR .nil)), nx := 2, io := (.cons (.pb 0 0) .nil) }
def d_s_l01Cur_leases_3_0 (x4 : Int) (b00 : List Int) (b01 : Int) (b02 : Int) (o1 : List T_Lease) : sh_s_l01Cur_leases_3_0.T := (((), ((), ((), ((), (x4, xd 58))))), ((b00, (b01, (b02, ()))), (o1, ())), ((), ()))
def s_s_l01Cur_leases_3_0 (x4 : Int) (b00 : List Int) (b01 : Int) (b02 : Int) (o1 : List T_Lease) : St := { tm := ([(.pb 0 0), .x, .x, (.w 1), (.s (.int .i64 x4))] ++ List.replicate 58 .x), ob := [(0, (.box [(.l .no bytesR b00), (.s (.int .i64 b01)), (.s (.int .i64 b02))])), (1, (.arr true true leaseR o1))], nx := 2, io := [(.pb 0 0)] }
theorem se_s_l01Cur_leases_3_0 (x4 : Int) (b00 : List Int) (b01 : Int) (b02 : Int) (o1 : List T_Lease) : sh_s_l01Cur_leases_3_0.mk' (d_s_l01Cur_leases_3_0 x4 b00 b01 b02 o1) = (s_s_l01Cur_leases_3_0 x4 b00 b01 b02 o1) := by kernel_rfl
def w_s_l01Cur_leases_3_0 (d : sh_s_l01Cur_leases_3_0.T) (f : Int → (List Int) → Int → Int → (List T_Lease) → Option Ret) : Option Ret := match d with | ((_, (_, (_, (_, (x4, _))))), ((b00, (b01, (b02, _))), (o1, _)), (_, _)) => f x4 b00 b01 b02 o1
noncomputable def P_s_l01Cur_leases_3_0 (x4 : Int) (b00 : List Int) (b01 : Int) (b02 : Int) (o1 : List T_Lease) (nx0 : Int → (List Int) → Int → Int → (List T_Lease) → Option Ret) (k0 : (List Int) → Int → Int → (List T_Lease) → Option Ret) : Option Ret := (bif (decide (x4 > (0 : Int))) then (B_s_l01Cur_lease b00 b01 b02 (fun y0 y1 y2 y3 y4 y5 => (bif (Nat.ble (List.length o1) 1048576) then (bif ((takeD o1 (y0, (y1, (y2, y3))) (0 : Int)).2 == (0 : Int)) then (nx0 (IntKind.wrap .i64 (x4 - (1 : Int))) b00 y4 y5 (takeD o1 (y0, (y1, (y2, y3))) (0 : Int)).1) else (nx0 (IntKind.wrap .i64 (x4 - (1 : Int))) b00 y4 y5 o1)) else none))) else (k0 b00 b01 b02 o1))
noncomputable def Q_s_l01Cur_leases_3_0 : Nat → Int → (List Int) → Int → Int → (List T_Lease) → ((List Int) → Int → Int → (List T_Lease) → Option Ret) → Option Ret
  | 0, _, _, _, _, _, _ => none
  | m + 1, x4, b00, b01, b02, o1, k0 => P_s_l01Cur_leases_3_0 x4 b00 b01 b02 o1 (fun x4 b00 b01 b02 o1 => (Q_s_l01Cur_leases_3_0 m x4 b00 b01 b02 o1 k0)) k0
noncomputable def R_s_l01Cur_leases_3_0 (x4 : Int) (b00 : List Int) (b01 : Int) (b02 : Int) (o1 : List T_Lease) (k0 : (List Int) → Int → Int → (List T_Lease) → Option Ret) : Option Ret := Q_s_l01Cur_leases_3_0 (x4.toNat + List.length b00 + b01.toNat + b02.toNat + List.length o1 + 2) x4 b00 b01 b02 o1 k0
noncomputable def W_s_l01Cur_leases_3 : LoopFn := (fun (σ : St) (K : Ex → St → Option Ret) => (match sh_s_l01Cur_leases_3_0.un σ with | some d => w_s_l01Cur_leases_3_0 d (fun x4 b00 b01 b02 o1 => R_s_l01Cur_leases_3_0 x4 b00 b01 b02 o1 (fun b00 b01 b02 o1 => (K (.ext 0) (z_s_l01Cur_leases_3_0 b00 b01 b02 o1)))) | none => none))
def z_s_l01Cur_leases_16_0 (o0 : List T_Lease) (b10 : List Int) (b11 : Int) (b12 : Int) : St := { tm := ([.x, .x, .x, (.w 0)] ++ List.replicate 59 .x), ob := [(0, (.arr true true leaseR o0)), (1, (.box [(.l .no bytesR b10), (.s (.int .i64 b11)), (.s (.int .i64 b12))]))], nx := 2, io := [(.pb 1 0)] }
def sh_s_l01Cur_leases_16_0 : Ss := { tm := (.cons (.x) (.cons (.x) (.cons (.x) (.cons (.w 0) (.cons (.x) (.cons (.x) (.cons (.x) (.cons (.int .i64) (xsh 55))))))))), ob := (.arr true true leaseR (.box (.cons (.l .no bytesR) (.cons (.int .i64) (.cons (.int .i64) .nil))) .nil)), nx := 2, io := (.cons (.pb 1 0) .nil) }
def d_s_l01Cur_leases_16_0 (x7 : Int) (o0 : List T_Lease) (b10 : List Int) (b11 : Int) (b12 : Int) : sh_s_l01Cur_leases_16_0.T := (((), ((), ((), ((), ((), ((), ((), (x7, xd 55)))))))), (o0, ((b10, (b11, (b12, ()))), ())), ((), ()))
def s_s_l01Cur_leases_16_0 (x7 : Int) (o0 : List T_Lease) (b10 : List Int) (b11 : Int) (b12 : Int) : St := { tm := ([.x, .x, .x, (.w 0), .x, .x, .x, (.s (.int .i64 x7))] ++ List.replicate 55 .x), ob := [(0, (.arr true true leaseR o0)), (1, (.box [(.l .no bytesR b10), (.s (.int .i64 b11)), (.s (.int .i64 b12))]))], nx := 2, io := [(.pb 1 0)] }
theorem se_s_l01Cur_leases_16_0 (x7 : Int) (o0 : List T_Lease) (b10 : List Int) (b11 : Int) (b12 : Int) : sh_s_l01Cur_leases_16_0.mk' (d_s_l01Cur_leases_16_0 x7 o0 b10 b11 b12) = (s_s_l01Cur_leases_16_0 x7 o0 b10 b11 b12) := by kernel_rfl
def w_s_l01Cur_leases_16_0 (d : sh_s_l01Cur_leases_16_0.T) (f : Int → (List T_Lease) → (List Int) → Int → Int → Option Ret) : Option Ret := match d with | ((_, (_, (_, (_, (_, (_, (_, (x7, _)))))))), (o0, ((b10, (b11, (b12, _))), _)), (_, _)) => f x7 o0 b10 b11 b12
noncomputable def P_s_l01Cur_leases_16_0 (x7 : Int) (o0 : List T_Lease) (b10 : List Int) (b11 : Int) (b12 : Int) (nx0 : Int → (List T_Lease) → (List Int) → Int → Int → Option Ret) (k0 : (List T_Lease) → (List Int) → Int → Int → Option Ret) : Option Ret := (bif (decide ((((List.length o0) : Nat) : Int) < (12 : Int))) then (bif (Nat.ble (((List.length o0) + (List.length (((IntKind.wrap .i64 ((30 : Int) + x7)), ((IntKind.wrap .i64 ((31 : Int) + x7)), ((1 : Int), (9 : Int)))) :: []))) * 32) 140737488355328) then (nx0 (IntKind.wrap .i64 (x7 + (1 : Int))) (o0 ++ (((IntKind.wrap .i64 ((30 : Int) + x7)), ((IntKind.wrap .i64 ((31 : Int) + x7)), ((1 : Int), (9 : Int)))) :: [])) b10 b11 b12) else none) else (k0 o0 b10 b11 b12))
noncomputable def Q_s_l01Cur_leases_16_0 : Nat → Int → (List T_Lease) → (List Int) → Int → Int → ((List T_Lease) → (List Int) → Int → Int → Option Ret) → Option Ret
  | 0, _, _, _, _, _, _ => none
  | m + 1, x7, o0, b10, b11, b12, k0 => P_s_l01Cur_leases_16_0 x7 o0 b10 b11 b12 (fun x7 o0 b10 b11 b12 => (Q_s_l01Cur_leases_16_0 m x7 o0 b10 b11 b12 k0)) k0
noncomputable def R_s_l01Cur_leases_16_0 (x7 : Int) (o0 : List T_Lease) (b10 : List Int) (b11 : Int) (b12 : Int) (k0 : (List T_Lease) → (List Int) → Int → Int → Option Ret) : Option Ret := Q_s_l01Cur_leases_16_0 (20) x7 o0 b10 b11 b12 k0
noncomputable def W_s_l01Cur_leases_16 : LoopFn := (fun (σ : St) (K : Ex → St → Option Ret) => (match sh_s_l01Cur_leases_16_0.un σ with | some d => w_s_l01Cur_leases_16_0 d (fun x7 o0 b10 b11 b12 => R_s_l01Cur_leases_16_0 x7 o0 b10 b11 b12 (fun o0 b10 b11 b12 => (K (.ext 3) (z_s_l01Cur_leases_16_0 o0 b10 b11 b12)))) | none => none))
noncomputable abbrev ls_s_l01Cur_leases : List (Nat × Bool × Sm) := [(N.s_l01Cur_size, false, (SB_s_l01Cur_size B_s_l01Cur_size)), (N.s_l01Cur_lease, false, (SB_s_l01Cur_lease B_s_l01Cur_lease)), (N.s_LeaseTake, true, S_s_LeaseTake), (N.s_l01Cur_pick, false, (SB_s_l01Cur_pick B_s_l01Cur_pick)), (N.s_l01Cur_badLease, false, (SB_s_l01Cur_badLease B_s_l01Cur_badLease))]
noncomputable abbrev E_s_l01Cur_leases : Env := En ls_s_l01Cur_leases [] [(3, [0,3,4], [0,2,3], W_s_l01Cur_leases_3), (16, [3,7], [2,3], W_s_l01Cur_leases_16)] [] false 0 []
noncomputable abbrev U_s_l01Cur_leases_3 := rounds (run E_s_l01Cur_leases (bodyOf F.s_l01Cur_leases 3)) [0,3,4] [0,2,3]
theorem st_s_l01Cur_leases_3_0 (m : Nat) (x4 : Int) (b00 : List Int) (b01 : Int) (b02 : Int) (o1 : List T_Lease) (K : Ex → St → Option Ret) : U_s_l01Cur_leases_3 (m + 1) (s_s_l01Cur_leases_3_0 x4 b00 b01 b02 o1) K = P_s_l01Cur_leases_3_0 x4 b00 b01 b02 o1 (fun x4 b00 b01 b02 o1 => (U_s_l01Cur_leases_3 m (s_s_l01Cur_leases_3_0 x4 b00 b01 b02 o1) K)) (fun b00 b01 b02 o1 => (K (.ext 0) (z_s_l01Cur_leases_3_0 b00 b01 b02 o1))) := by kernel_rfl
theorem q_s_l01Cur_leases_3 (K : Ex → St → Option Ret) : ∀ m : Nat, (∀ (x4 : Int) (b00 : List Int) (b01 : Int) (b02 : Int) (o1 : List T_Lease), U_s_l01Cur_leases_3 m (s_s_l01Cur_leases_3_0 x4 b00 b01 b02 o1) K = Q_s_l01Cur_leases_3_0 m x4 b00 b01 b02 o1 (fun b00 b01 b02 o1 => (K (.ext 0) (z_s_l01Cur_leases_3_0 b00 b01 b02 o1))))
  | 0 => (fun _ _ _ _ _ => rfl)
  | m + 1 => (fun x4 b00 b01 b02 o1 => (by rw [st_s_l01Cur_leases_3_0, show (fun x4 b00 b01 b02 o1 => (U_s_l01Cur_leases_3 m (s_s_l01Cur_leases_3_0 x4 b00 b01 b02 o1) K)) = (fun x4 b00 b01 b02 o1 => (Q_s_l01Cur_leases_3_0 m x4 b00 b01 b02 o1 (fun b00 b01 b02 o1 => (K (.ext 0) (z_s_l01Cur_leases_3_0 b00 b01 b02 o1))))) from funext fun x4 => funext fun b00 => funext fun b01 => funext fun b02 => funext fun o1 => (q_s_l01Cur_leases_3 K m) x4 b00 b01 b02 o1]; rfl))
theorem loopK_s_l01Cur_leases_3 : LoopOk E_s_l01Cur_leases (bodyOf F.s_l01Cur_leases 3) := by
  refine loopW_ok (n := 3) (F := W_s_l01Cur_leases_3) (by kernel_rfl) rfl (li := [0,3,4]) (lo := [0,2,3]) rfl (fun σ K r hr => ?_)
  unfold W_s_l01Cur_leases_3 at hr
  split at hr
  · rename_i d hd
    rw [Ss.un_mk hd]
    exact ⟨_, ((congrArg (fun z => U_s_l01Cur_leases_3 _ z K) (se_s_l01Cur_leases_3_0 _ _ _ _ _)).trans ((q_s_l01Cur_leases_3 K _) _ _ _ _ _)).trans hr⟩
  · cases hr
noncomputable abbrev U_s_l01Cur_leases_16 := rounds (run E_s_l01Cur_leases (bodyOf F.s_l01Cur_leases 16)) [3,7] [2,3]
theorem st_s_l01Cur_leases_16_0 (m : Nat) (x7 : Int) (o0 : List T_Lease) (b10 : List Int) (b11 : Int) (b12 : Int) (K : Ex → St → Option Ret) : U_s_l01Cur_leases_16 (m + 1) (s_s_l01Cur_leases_16_0 x7 o0 b10 b11 b12) K = P_s_l01Cur_leases_16_0 x7 o0 b10 b11 b12 (fun x7 o0 b10 b11 b12 => (U_s_l01Cur_leases_16 m (s_s_l01Cur_leases_16_0 x7 o0 b10 b11 b12) K)) (fun o0 b10 b11 b12 => (K (.ext 3) (z_s_l01Cur_leases_16_0 o0 b10 b11 b12))) := by kernel_rfl
theorem q_s_l01Cur_leases_16 (K : Ex → St → Option Ret) : ∀ m : Nat, (∀ (x7 : Int) (o0 : List T_Lease) (b10 : List Int) (b11 : Int) (b12 : Int), U_s_l01Cur_leases_16 m (s_s_l01Cur_leases_16_0 x7 o0 b10 b11 b12) K = Q_s_l01Cur_leases_16_0 m x7 o0 b10 b11 b12 (fun o0 b10 b11 b12 => (K (.ext 3) (z_s_l01Cur_leases_16_0 o0 b10 b11 b12))))
  | 0 => (fun _ _ _ _ _ => rfl)
  | m + 1 => (fun x7 o0 b10 b11 b12 => (by rw [st_s_l01Cur_leases_16_0, show (fun x7 o0 b10 b11 b12 => (U_s_l01Cur_leases_16 m (s_s_l01Cur_leases_16_0 x7 o0 b10 b11 b12) K)) = (fun x7 o0 b10 b11 b12 => (Q_s_l01Cur_leases_16_0 m x7 o0 b10 b11 b12 (fun o0 b10 b11 b12 => (K (.ext 3) (z_s_l01Cur_leases_16_0 o0 b10 b11 b12))))) from funext fun x7 => funext fun o0 => funext fun b10 => funext fun b11 => funext fun b12 => (q_s_l01Cur_leases_16 K m) x7 o0 b10 b11 b12]; rfl))
theorem loopK_s_l01Cur_leases_16 : LoopOk E_s_l01Cur_leases (bodyOf F.s_l01Cur_leases 16) := by
  refine loopW_ok (n := 16) (F := W_s_l01Cur_leases_16) (by kernel_rfl) rfl (li := [3,7]) (lo := [2,3]) rfl (fun σ K r hr => ?_)
  unfold W_s_l01Cur_leases_16 at hr
  split at hr
  · rename_i d hd
    rw [Ss.un_mk hd]
    exact ⟨_, ((congrArg (fun z => U_s_l01Cur_leases_16 _ z K) (se_s_l01Cur_leases_16_0 _ _ _ _ _)).trans ((q_s_l01Cur_leases_16 K _) _ _ _ _ _)).trans hr⟩
  · cases hr
noncomputable def T_s_l01Cur_leases (cc : List Int) (ca : Int) (cs : Int) (K : Ret → Option Ret) : Option Ret := (B_s_l01Cur_size cc ca cs (16 : Int) (fun y6 y7 y8 => (R_s_l01Cur_leases_3_0 y6 cc y7 y8 [] (fun y9 y10 y11 y12 => (B_s_l01Cur_pick y9 y10 y11 (14 : Int) (fun y13 y14 y15 => (bif (y13 == (0 : Int)) then (B_s_l01Cur_badLease y9 y14 y15 (fun y16 y17 y18 y19 y20 y21 => (bif (Nat.ble (((List.length y12) + (List.length ((y16, (y17, (y18, y19))) :: []))) * 32) 140737488355328) then K ((.l .deep leaseR (y12 ++ ((y16, (y17, (y18, y19))) :: []))), [(.io [(.l .no bytesR y9), (.s (.int .i64 y20)), (.s (.int .i64 y21))])]) else none))) else (bif (y13 == (1 : Int)) then (bif (decide ((((List.length y12) : Nat) : Int) > (0 : Int))) then (B_s_l01Cur_pick y9 y14 y15 (((List.length y12) : Nat) : Int) (fun y22 y23 y24 => (B_s_l01Cur_badLease y9 y23 y24 (fun y25 y26 y27 y28 y29 y30 => (bif ((decide ((0 : Int) ≤ y22)) && (decide (y22 < (((List.length y12) : Nat) : Int)))) then K ((.l .deep leaseR (List.set y12 (Int.toNat y22) (y25, (y26, (y27, y28))))), [(.io [(.l .no bytesR y9), (.s (.int .i64 y29)), (.s (.int .i64 y30))])]) else none))))) else K ((.l .deep leaseR y12), [(.io [(.l .no bytesR y9), (.s (.int .i64 y14)), (.s (.int .i64 y15))])])) else (bif (y13 == (2 : Int)) then (R_s_l01Cur_leases_16_0 (0 : Int) y12 y9 y14 y15 (fun y31 y32 y33 y34 => K ((.l .deep leaseR y31), [(.io [(.l .no bytesR y32), (.s (.int .i64 y33)), (.s (.int .i64 y34))])]))) else K ((.l .deep leaseR y12), [(.io [(.l .no bytesR y9), (.s (.int .i64 y14)), (.s (.int .i64 y15))])]))))))))))
theorem e_s_l01Cur_leases (cc : List Int) (ca : Int) (cs : Int) (K : Ret → Option Ret) : evF E_s_l01Cur_leases false F.s_l01Cur_leases [.io [.l .no bytesR cc, .s (.int .i64 ca), .s (.int .i64 cs)]] K = T_s_l01Cur_leases cc ca cs K := by kernel_rfl
theorem leases_loop {P : Ret → Prop} {cc : List Int} (hf : fitB cc = true) {F : List Int → Int → Int → List T_Lease → (Ret → Option Ret) → Option Ret} : ∀ (m k : Nat) (ca cs : Int) (o : List T_Lease), k < m → 0 ≤ ca → ca + 4 * k ≤ 1900000000000000000 → 0 ≤ cs → cs < 65536 → o.length ≤ 13 →
    (∀ (a s : Int) (o' : List T_Lease), 0 ≤ a → a ≤ ca + 4 * k → 0 ≤ s → s < 65536 → o'.length ≤ 13 → Dr P (F cc a s o')) → Dr P (fun K => Q_s_l01Cur_leases_3_0 m (k : Int) cc ca cs o (fun a b c d => F a b c d K))
  | 0, k, ca, cs, o, h, _, _, _, _, _, _ => absurd h (by omega)
  | m + 1, k, ca, cs, o, h, h0, h1, h2, h3, hl, hF => by
    show Dr P (fun K => P_s_l01Cur_leases_3_0 (k : Int) cc ca cs o _ _)
    unfold P_s_l01Cur_leases_3_0
    cases k with
    | zero =>
      refine Dr.bif (fun hc => ?_) (fun _ => hF ca cs o h0 (by omega) h2 h3 hl)
      simp at hc
    | succ k =>
      refine Dr.must (decide_eq_true (by omega)) ?_
      refine Dr.b6 (b_s_l01Cur_lease _ _ _ (curB_iff.2 ⟨hf, by omega, by omega, by omega, by omega⟩)) (fun y0 y1 y2 y3 a s hy => ?_)
      refine Dr.must (Nat.ble_eq_true_of_le (by omega)) ?_
      rw [show IntKind.wrap .i64 (((k + 1 : Nat) : Int) - 1) = (k : Int) by rw [wrap_in (by omega) (by omega)]; omega]
      refine Dr.bif (fun _ => leases_loop hf m k a s _ (by omega) (by omega) (by omega) (by omega) (by omega) (takeD_len _ _ _) (fun a' s' o' q1 q2 q3 q4 q5 => hF a' s' o' q1 (by omega) q3 q4 q5)) (fun _ => leases_loop hf m k a s o (by omega) (by omega) (by omega) (by omega) (by omega) hl (fun a' s' o' q1 q2 q3 q4 q5 => hF a' s' o' q1 (by omega) q3 q4 q5))
theorem leases_fill {P : Ret → Prop} {cc : List Int} {ca cs : Int} {F : List T_Lease → List Int → Int → Int → (Ret → Option Ret) → Option Ret} : ∀ (m : Nat) (i : Int) (o : List T_Lease), 13 - o.length < m → o.length ≤ 13 → (∀ (o' : List T_Lease), o'.length ≤ 13 → Dr P (F o' cc ca cs)) → Dr P (fun K => Q_s_l01Cur_leases_16_0 m i o cc ca cs (fun a b c d => F a b c d K))
  | 0, i, o, h, _, _ => absurd h (by omega)
  | m + 1, i, o, h, hl, hF => by
    show Dr P (fun K => P_s_l01Cur_leases_16_0 i o cc ca cs _ _)
    unfold P_s_l01Cur_leases_16_0
    refine Dr.bif (fun hc => ?_) (fun _ => hF o hl)
    simp only [decide_eq_true_eq] at hc
    refine Dr.must (Nat.ble_eq_true_of_le (by simp only [List.length_cons, List.length_nil]; omega)) ?_
    exact leases_fill m _ _ (by rw [List.length_append]; simp only [List.length_cons, List.length_nil]; omega) (by rw [List.length_append]; simp only [List.length_cons, List.length_nil]; omega) hF
theorem x_s_l01Cur_leases (cc : List Int) (ca : Int) (cs : Int) (h : (curB 500000000000000000 cc ca cs) = true) : ∃ (l : List T_Lease) (a : Int) (s : Int), (l.length ≤ 14 ∧ 0 ≤ a ∧ a ≤ ca + 200 ∧ 0 ≤ s ∧ s < 65536) ∧ ∀ K : Ret → Option Ret, T_s_l01Cur_leases cc ca cs K = K (.l .deep leaseR l, [.io [.l .no bytesR cc, .s (.int .i64 a), .s (.int .i64 s)]]) := by
  suffices hd : Dr (fun r : Ret => ∃ (l : List T_Lease) (a : Int) (s : Int), (l.length ≤ 14 ∧ 0 ≤ a ∧ a ≤ ca + 200 ∧ 0 ≤ s ∧ s < 65536) ∧ r = (.l .deep leaseR l, [.io [.l .no bytesR cc, .s (.int .i64 a), .s (.int .i64 s)]])) (fun K : Ret → Option Ret => T_s_l01Cur_leases cc ca cs K) by
    obtain ⟨_, ⟨l, a, s, hp, rfl⟩, hk⟩ := hd
    exact ⟨l, a, s, hp, hk⟩
  obtain ⟨hf, h2, h3, h4, h5⟩ := curB_iff.1 h
  have hl := fitB_len hf
  unfold T_s_l01Cur_leases
  refine Dr.b3 (b_s_l01Cur_size _ _ _ _ ((Bool.and_eq_true _ _).mpr ⟨curB_iff.2 ⟨hf, by omega, by omega, by omega, by omega⟩, by rfl⟩)) (fun y0 a0 s0 hy => ?_)
  obtain ⟨k, rfl⟩ : ∃ k : Nat, y0 = k := ⟨y0.toNat, by omega⟩
  unfold R_s_l01Cur_leases_3_0
  refine leases_loop hf (F := fun y9 y10 y11 y12 K => (B_s_l01Cur_pick y9 y10 y11 (14 : Int) (fun y13 y14 y15 =>
   (bif (y13 == (0 : Int)) then
    (B_s_l01Cur_badLease y9 y14 y15 (fun y16 y17 y18 y19 y20 y21 =>
     (bif (Nat.ble (((List.length y12) + (List.length ((y16, (y17, (y18, y19))) :: []))) * 32) 140737488355328) then
      K ((.l .deep leaseR (y12 ++ ((y16, (y17, (y18, y19))) :: []))), [(.io [(.l .no bytesR y9), (.s (.int .i64 y20)), (.s (.int .i64 y21))])])
      else none)))
    else (bif (y13 == (1 : Int)) then
     (bif (decide ((((List.length y12) : Nat) : Int) > (0 : Int))) then
      (B_s_l01Cur_pick y9 y14 y15 (((List.length y12) : Nat) : Int) (fun y22 y23 y24 =>
       (B_s_l01Cur_badLease y9 y23 y24 (fun y25 y26 y27 y28 y29 y30 =>
        (bif ((decide ((0 : Int) ≤ y22)) && (decide (y22 < (((List.length y12) : Nat) : Int)))) then
         K ((.l .deep leaseR (List.set y12 (Int.toNat y22) (y25, (y26, (y27, y28))))), [(.io [(.l .no bytesR y9), (.s (.int .i64 y29)), (.s (.int .i64 y30))])])
         else none)))))
      else K ((.l .deep leaseR y12), [(.io [(.l .no bytesR y9), (.s (.int .i64 y14)), (.s (.int .i64 y15))])]))
     else (bif (y13 == (2 : Int)) then
      (R_s_l01Cur_leases_16_0 (0 : Int) y12 y9 y14 y15 (fun y31 y32 y33 y34 =>
       K ((.l .deep leaseR y31), [(.io [(.l .no bytesR y32), (.s (.int .i64 y33)), (.s (.int .i64 y34))])])))
      else K ((.l .deep leaseR y12), [(.io [(.l .no bytesR y9), (.s (.int .i64 y14)), (.s (.int .i64 y15))])])))))) ) _ k a0 s0 [] (by omega) (by omega) (by omega) (by omega) (by omega) (by simp) (fun a s o q1 q2 q3 q4 q5 => ?_)
  refine Dr.b3 (b_s_l01Cur_pick _ _ _ _ (curB_iff.2 ⟨hf, by omega, by omega, by omega, by omega⟩)) (fun y1 a1 s1 hy1 => ?_)
  refine Dr.bif (fun _ => ?_) (fun _ => Dr.bif (fun _ => ?_) (fun _ => Dr.bif (fun _ => ?_) (fun _ => Dr.leaf ⟨_, _, _, ⟨by omega, by omega, by omega, by omega, by omega⟩, rfl⟩)))
  · refine Dr.b6 (b_s_l01Cur_badLease _ _ _ (curB_iff.2 ⟨hf, by omega, by omega, by omega, by omega⟩)) (fun y0 y1 y2 y3 a s hy => ?_)
    refine Dr.must (Nat.ble_eq_true_of_le (by simp only [List.length_cons, List.length_nil]; omega)) ?_
    exact Dr.leaf ⟨_, _, _, ⟨by simp; omega, by omega, by omega, by omega, by omega⟩, rfl⟩
  · refine Dr.bif (fun hc => ?_) (fun _ => Dr.leaf ⟨_, _, _, ⟨by omega, by omega, by omega, by omega, by omega⟩, rfl⟩)
    simp only [decide_eq_true_eq] at hc
    refine Dr.b3 (b_s_l01Cur_pick _ _ _ _ (curB_iff.2 ⟨hf, by omega, by omega, by omega, by omega⟩)) (fun y2 a2 s2 hy2 => ?_)
    refine Dr.b6 (b_s_l01Cur_badLease _ _ _ (curB_iff.2 ⟨hf, by omega, by omega, by omega, by omega⟩)) (fun y0 y1 y2 y3 a s hy => ?_)
    refine Dr.must (by rw [Bool.and_eq_true, decide_eq_true_iff, decide_eq_true_iff]; omega) ?_
    exact Dr.leaf ⟨_, _, _, ⟨by simp; omega, by omega, by omega, by omega, by omega⟩, rfl⟩
  · unfold R_s_l01Cur_leases_16_0
    exact leases_fill (F := fun y31 y32 y33 y34 K => K ((.l .deep leaseR y31), [(.io [(.l .no bytesR y32), (.s (.int .i64 y33)), (.s (.int .i64 y34))])])) 20 0 o (by omega) (by omega) (fun o' ho => Dr.leaf ⟨_, _, _, ⟨by omega, by omega, by omega, by omega, by omega⟩, rfl⟩)
noncomputable def g_s_l01Cur_leases (cc : List Int) (ca : Int) (cs : Int) : List T_Lease × Int × Int := Classical.epsilon fun g => ((g).1.length ≤ 14 ∧ 0 ≤ (g).2.1 ∧ (g).2.1 ≤ ca + 200 ∧ 0 ≤ (g).2.2 ∧ (g).2.2 < 65536) ∧ ∀ K : Ret → Option Ret, T_s_l01Cur_leases cc ca cs K = K (.l .deep leaseR (g).1, [.io [.l .no bytesR cc, .s (.int .i64 (g).2.1), .s (.int .i64 (g).2.2)]])
theorem gs_s_l01Cur_leases (cc : List Int) (ca : Int) (cs : Int) (h : (curB 500000000000000000 cc ca cs) = true) : ((g_s_l01Cur_leases cc ca cs).1.length ≤ 14 ∧ 0 ≤ (g_s_l01Cur_leases cc ca cs).2.1 ∧ (g_s_l01Cur_leases cc ca cs).2.1 ≤ ca + 200 ∧ 0 ≤ (g_s_l01Cur_leases cc ca cs).2.2 ∧ (g_s_l01Cur_leases cc ca cs).2.2 < 65536) ∧ ∀ K : Ret → Option Ret, T_s_l01Cur_leases cc ca cs K = K (.l .deep leaseR (g_s_l01Cur_leases cc ca cs).1, [.io [.l .no bytesR cc, .s (.int .i64 (g_s_l01Cur_leases cc ca cs).2.1), .s (.int .i64 (g_s_l01Cur_leases cc ca cs).2.2)]]) := by
  obtain ⟨l, a, s, hy, hk⟩ := x_s_l01Cur_leases cc ca cs h
  exact Classical.epsilon_spec (p := fun g : List T_Lease × Int × Int => ((g).1.length ≤ 14 ∧ 0 ≤ (g).2.1 ∧ (g).2.1 ≤ ca + 200 ∧ 0 ≤ (g).2.2 ∧ (g).2.2 < 65536) ∧ ∀ K : Ret → Option Ret, T_s_l01Cur_leases cc ca cs K = K (.l .deep leaseR (g).1, [.io [.l .no bytesR cc, .s (.int .i64 (g).2.1), .s (.int .i64 (g).2.2)]])) ⟨⟨l, a, s⟩, hy, hk⟩
noncomputable def B_s_l01Cur_leases (cc : List Int) (ca : Int) (cs : Int) (k : (List T_Lease) → (Int) → (Int) → Option Ret) : Option Ret := bif curB 500000000000000000 cc ca cs then k (g_s_l01Cur_leases cc ca cs).1 (g_s_l01Cur_leases cc ca cs).2.1 (g_s_l01Cur_leases cc ca cs).2.2 else none
theorem b_s_l01Cur_leases (cc : List Int) (ca : Int) (cs : Int) (h : (curB 500000000000000000 cc ca cs) = true) : ∃ (l : List T_Lease) (a : Int) (s : Int), (l.length ≤ 14 ∧ 0 ≤ a ∧ a ≤ ca + 200 ∧ 0 ≤ s ∧ s < 65536) ∧ ∀ k, B_s_l01Cur_leases cc ca cs k = k l a s :=
  ⟨(g_s_l01Cur_leases cc ca cs).1, (g_s_l01Cur_leases cc ca cs).2.1, (g_s_l01Cur_leases cc ca cs).2.2, (gs_s_l01Cur_leases cc ca cs h).1, fun k => by unfold B_s_l01Cur_leases; rw [h]; rfl⟩
def SB_s_l01Cur_leases (B : (List Int) → (Int) → (Int) → ((List T_Lease) → (Int) → (Int) → Option Ret) → Option Ret) : Sm := S_B [.sh (.io (.cons (.l .no bytesR) (.cons (.int .i64) (.cons (.int .i64) .nil))))] (fun d K => B d.1.1 d.1.2.1 d.1.2.2.1 (fun l a s => K (.l .deep leaseR l, [.io [.l .no bytesR d.1.1, .s (.int .i64 a), .s (.int .i64 s)]])))
theorem okS_s_l01Cur_leases : OkFn prog I N.s_l01Cur_leases false (SB_s_l01Cur_leases B_s_l01Cur_leases) := okN (ok_fn (memc okS_s_l01Cur_size (memc okS_s_l01Cur_lease (memc okS_s_LeaseTake (memc okS_s_l01Cur_pick (memc okS_s_l01Cur_badLease mem0))))) (l := ls_s_l01Cur_leases) (p := []) (ls := [(3, [0,3,4], [0,2,3], W_s_l01Cur_leases_3), (16, [3,7], [2,3], W_s_l01Cur_leases_16)]) (lend := []) (focus := false) (fuel := 0) (give := []) (fn := F.s_l01Cur_leases) (by kernel_rfl) (by kernel_rfl) (by kernel_rfl) (by kernel_rfl) (cs := [bodyOf F.s_l01Cur_leases 3, bodyOf F.s_l01Cur_leases 16]) (by kernel_rfl) (loopsc loopK_s_l01Cur_leases_3 (loopsc loopK_s_l01Cur_leases_16 loops0))) (S_B_of fun d K q hq => by
  refine (e_s_l01Cur_leases d.1.1 d.1.2.1 d.1.2.2.1 K).trans ?_
  unfold B_s_l01Cur_leases at hq
  cases hp : (curB 500000000000000000 d.1.1 d.1.2.1 d.1.2.2.1) with
  | false => rw [hp] at hq; cases hq
  | true =>
    rw [hp] at hq
    exact ((gs_s_l01Cur_leases d.1.1 d.1.2.1 d.1.2.2.1 hp).2 K).trans hq)
end Go.Ev.Seat
end
section
/- s_l01Cur_rune: its contract. -/
namespace Go.Ev.Seat
open Go.RowKit
set_option maxRecDepth 100000
set_option linter.unusedVariables false
set_option linter.unusedSimpArgs false
noncomputable abbrev ls_s_l01Cur_rune : List (Nat × Bool × Sm) := [(N.s_l01Cur_pick, false, (SB_s_l01Cur_pick B_s_l01Cur_pick))]
noncomputable abbrev E_s_l01Cur_rune : Env := En ls_s_l01Cur_rune [] [] [] false 0 []
noncomputable def T_s_l01Cur_rune (cc : List Int) (ca : Int) (cs : Int) (K : Ret → Option Ret) : Option Ret := (B_s_l01Cur_pick cc ca cs (3 : Int) (fun y0 y1 y2 => (B_s_l01Cur_pick cc y1 y2 (3 : Int) (fun y3 y4 y5 => (B_s_l01Cur_pick cc y4 y5 (14 : Int) (fun y6 y7 y8 => (bif ((decide ((0 : Int) ≤ y6)) && (decide (y6 < (((List.length ((IntKind.wrap .i64 ((97 : Int) + y0)) :: ((IntKind.wrap .i64 ((97 : Int) + y3)) :: ((10 : Int) :: ((32 : Int) :: ((233 : Int) :: ((8364 : Int) :: ((128578 : Int) :: ((127 : Int) :: ((128 : Int) :: ((2047 : Int) :: ((2048 : Int) :: ((65535 : Int) :: ((65536 : Int) :: ((0 : Int) :: ([] : List Int)))))))))))))))) : Nat) : Int)))) then K ((.s (.int .i64 (List.getD ((IntKind.wrap .i64 ((97 : Int) + y0)) :: ((IntKind.wrap .i64 ((97 : Int) + y3)) :: ((10 : Int) :: ((32 : Int) :: ((233 : Int) :: ((8364 : Int) :: ((128578 : Int) :: ((127 : Int) :: ((128 : Int) :: ((2047 : Int) :: ((2048 : Int) :: ((65535 : Int) :: ((65536 : Int) :: ((0 : Int) :: ([] : List Int))))))))))))))) (Int.toNat y6) (0 : Int)))), [(.io [(.l .no bytesR cc), (.s (.int .i64 y7)), (.s (.int .i64 y8))])]) else none)))))))
theorem e_s_l01Cur_rune (cc : List Int) (ca : Int) (cs : Int) (K : Ret → Option Ret) : evF E_s_l01Cur_rune false F.s_l01Cur_rune [.io [.l .no bytesR cc, .s (.int .i64 ca), .s (.int .i64 cs)]] K = T_s_l01Cur_rune cc ca cs K := by kernel_rfl
theorem x_s_l01Cur_rune (cc : List Int) (ca : Int) (cs : Int) (h : (curB 3000000000000000000 cc ca cs) = true) : ∃ (y : Int) (a : Int) (s : Int), (0 ≤ a ∧ a ≤ ca + 3 ∧ 0 ≤ s ∧ s < 65536) ∧ ∀ K : Ret → Option Ret, T_s_l01Cur_rune cc ca cs K = K (.s (.int .i64 y), [.io [.l .no bytesR cc, .s (.int .i64 a), .s (.int .i64 s)]]) := by
  suffices hd : Dr (fun r : Ret => ∃ (y : Int) (a : Int) (s : Int), (0 ≤ a ∧ a ≤ ca + 3 ∧ 0 ≤ s ∧ s < 65536) ∧ r = (.s (.int .i64 y), [.io [.l .no bytesR cc, .s (.int .i64 a), .s (.int .i64 s)]])) (fun K : Ret → Option Ret => T_s_l01Cur_rune cc ca cs K) by
    obtain ⟨_, ⟨y, a, s, hp, rfl⟩, hk⟩ := hd
    exact ⟨y, a, s, hp, hk⟩
  obtain ⟨hf, h2, h3, h4, h5⟩ := curB_iff.1 h
  have hl := fitB_len hf
  unfold T_s_l01Cur_rune
  repeat' first
    | exact Dr.leaf ⟨_, _, _, ⟨by omega, by omega, by omega, by omega⟩, rfl⟩
    | refine Dr.b3 (b_s_l01Cur_pick _ _ _ _ (curB_iff.2 ⟨hf, by omega, by omega, by omega, by omega⟩)) (fun _ _ _ hy => ?_)
    | refine Dr.meet ?_
    | simp (disch := omega) only [wrap_in]
    | refine Dr.must (by first | rfl | (simp only [List.length_cons, List.length_nil, BEq.rfl, Bool.true_and, Bool.and_eq_true, decide_eq_true_eq]; omega)) ?_
    | refine Dr.bif (fun hb => ?_) (fun hb => ?_)
noncomputable def g_s_l01Cur_rune (cc : List Int) (ca : Int) (cs : Int) : Int × Int × Int := Classical.epsilon fun g => (0 ≤ (g).2.1 ∧ (g).2.1 ≤ ca + 3 ∧ 0 ≤ (g).2.2 ∧ (g).2.2 < 65536) ∧ ∀ K : Ret → Option Ret, T_s_l01Cur_rune cc ca cs K = K (.s (.int .i64 (g).1), [.io [.l .no bytesR cc, .s (.int .i64 (g).2.1), .s (.int .i64 (g).2.2)]])
theorem gs_s_l01Cur_rune (cc : List Int) (ca : Int) (cs : Int) (h : (curB 3000000000000000000 cc ca cs) = true) : (0 ≤ (g_s_l01Cur_rune cc ca cs).2.1 ∧ (g_s_l01Cur_rune cc ca cs).2.1 ≤ ca + 3 ∧ 0 ≤ (g_s_l01Cur_rune cc ca cs).2.2 ∧ (g_s_l01Cur_rune cc ca cs).2.2 < 65536) ∧ ∀ K : Ret → Option Ret, T_s_l01Cur_rune cc ca cs K = K (.s (.int .i64 (g_s_l01Cur_rune cc ca cs).1), [.io [.l .no bytesR cc, .s (.int .i64 (g_s_l01Cur_rune cc ca cs).2.1), .s (.int .i64 (g_s_l01Cur_rune cc ca cs).2.2)]]) := by
  obtain ⟨y, a, s, hy, hk⟩ := x_s_l01Cur_rune cc ca cs h
  exact Classical.epsilon_spec (p := fun g : Int × Int × Int => (0 ≤ (g).2.1 ∧ (g).2.1 ≤ ca + 3 ∧ 0 ≤ (g).2.2 ∧ (g).2.2 < 65536) ∧ ∀ K : Ret → Option Ret, T_s_l01Cur_rune cc ca cs K = K (.s (.int .i64 (g).1), [.io [.l .no bytesR cc, .s (.int .i64 (g).2.1), .s (.int .i64 (g).2.2)]])) ⟨⟨y, a, s⟩, hy, hk⟩
noncomputable def B_s_l01Cur_rune (cc : List Int) (ca : Int) (cs : Int) (k : (Int) → (Int) → (Int) → Option Ret) : Option Ret := bif curB 3000000000000000000 cc ca cs then k (g_s_l01Cur_rune cc ca cs).1 (g_s_l01Cur_rune cc ca cs).2.1 (g_s_l01Cur_rune cc ca cs).2.2 else none
theorem b_s_l01Cur_rune (cc : List Int) (ca : Int) (cs : Int) (h : (curB 3000000000000000000 cc ca cs) = true) : ∃ (y : Int) (a : Int) (s : Int), (0 ≤ a ∧ a ≤ ca + 3 ∧ 0 ≤ s ∧ s < 65536) ∧ ∀ k, B_s_l01Cur_rune cc ca cs k = k y a s :=
  ⟨(g_s_l01Cur_rune cc ca cs).1, (g_s_l01Cur_rune cc ca cs).2.1, (g_s_l01Cur_rune cc ca cs).2.2, (gs_s_l01Cur_rune cc ca cs h).1, fun k => by unfold B_s_l01Cur_rune; rw [h]; rfl⟩
def SB_s_l01Cur_rune (B : (List Int) → (Int) → (Int) → ((Int) → (Int) → (Int) → Option Ret) → Option Ret) : Sm := S_B [.sh (.io (.cons (.l .no bytesR) (.cons (.int .i64) (.cons (.int .i64) .nil))))] (fun d K => B d.1.1 d.1.2.1 d.1.2.2.1 (fun y a s => K (.s (.int .i64 y), [.io [.l .no bytesR d.1.1, .s (.int .i64 a), .s (.int .i64 s)]])))
theorem okS_s_l01Cur_rune : OkFn prog I N.s_l01Cur_rune false (SB_s_l01Cur_rune B_s_l01Cur_rune) := okN (ok_fn (memc okS_s_l01Cur_pick mem0) (l := ls_s_l01Cur_rune) (p := []) (ls := []) (lend := []) (focus := false) (fuel := 0) (give := []) (fn := F.s_l01Cur_rune) (by kernel_rfl) (by kernel_rfl) (by kernel_rfl) (by kernel_rfl) (cs := []) (by kernel_rfl) loops0) (S_B_of fun d K q hq => by
  refine (e_s_l01Cur_rune d.1.1 d.1.2.1 d.1.2.2.1 K).trans ?_
  unfold B_s_l01Cur_rune at hq
  cases hp : (curB 3000000000000000000 d.1.1 d.1.2.1 d.1.2.2.1) with
  | false => rw [hp] at hq; cases hq
  | true =>
    rw [hp] at hq
    exact ((gs_s_l01Cur_rune d.1.1 d.1.2.1 d.1.2.2.1 hp).2 K).trans hq)
end Go.Ev.Seat
end
section
/- s_RuneBytes: its contract. -/
namespace Go.Ev.Seat
open Go.RowKit
set_option maxRecDepth 100000
set_option linter.unusedVariables false
set_option linter.unusedSimpArgs false
noncomputable abbrev E_s_RuneBytes : Env := En [] [] [] [] false 0 []
noncomputable def T_s_RuneBytes (r : Int) (K : Ret → Option Ret) : Option Ret := (bif (decide (r < (0 : Int))) then K ((.l .deep bytesR ([] : List Int)), []) else (bif (decide (r > (1114111 : Int))) then K ((.l .deep bytesR ([] : List Int)), []) else (bif (decide (r ≥ (55296 : Int))) then (bif (decide (r ≤ (57343 : Int))) then K ((.l .deep bytesR ([] : List Int)), []) else (bif (decide (r < (128 : Int))) then K ((.l .deep bytesR ((IntKind.wrap .u8 r) :: ([] : List Int))), []) else (bif (decide (r < (2048 : Int))) then K ((.l .deep bytesR ((IntKind.wrap .u8 (IntKind.wrap .i64 ((192 : Int) + (IntKind.wrap .i64 (Int.tdiv r (64 : Int)))))) :: ((IntKind.wrap .u8 (IntKind.wrap .i64 ((128 : Int) + (Int.tmod r (64 : Int))))) :: ([] : List Int)))), []) else (bif (decide (r < (65536 : Int))) then K ((.l .deep bytesR ((IntKind.wrap .u8 (IntKind.wrap .i64 ((224 : Int) + (IntKind.wrap .i64 (Int.tdiv r (4096 : Int)))))) :: ((IntKind.wrap .u8 (IntKind.wrap .i64 ((128 : Int) + (Int.tmod (IntKind.wrap .i64 (Int.tdiv r (64 : Int))) (64 : Int))))) :: ((IntKind.wrap .u8 (IntKind.wrap .i64 ((128 : Int) + (Int.tmod r (64 : Int))))) :: ([] : List Int))))), []) else K ((.l .deep bytesR ((IntKind.wrap .u8 (IntKind.wrap .i64 ((240 : Int) + (IntKind.wrap .i64 (Int.tdiv r (262144 : Int)))))) :: ((IntKind.wrap .u8 (IntKind.wrap .i64 ((128 : Int) + (Int.tmod (IntKind.wrap .i64 (Int.tdiv r (4096 : Int))) (64 : Int))))) :: ((IntKind.wrap .u8 (IntKind.wrap .i64 ((128 : Int) + (Int.tmod (IntKind.wrap .i64 (Int.tdiv r (64 : Int))) (64 : Int))))) :: ((IntKind.wrap .u8 (IntKind.wrap .i64 ((128 : Int) + (Int.tmod r (64 : Int))))) :: ([] : List Int)))))), []))))) else (bif (decide (r < (128 : Int))) then K ((.l .deep bytesR ((IntKind.wrap .u8 r) :: ([] : List Int))), []) else (bif (decide (r < (2048 : Int))) then K ((.l .deep bytesR ((IntKind.wrap .u8 (IntKind.wrap .i64 ((192 : Int) + (IntKind.wrap .i64 (Int.tdiv r (64 : Int)))))) :: ((IntKind.wrap .u8 (IntKind.wrap .i64 ((128 : Int) + (Int.tmod r (64 : Int))))) :: ([] : List Int)))), []) else (bif (decide (r < (65536 : Int))) then K ((.l .deep bytesR ((IntKind.wrap .u8 (IntKind.wrap .i64 ((224 : Int) + (IntKind.wrap .i64 (Int.tdiv r (4096 : Int)))))) :: ((IntKind.wrap .u8 (IntKind.wrap .i64 ((128 : Int) + (Int.tmod (IntKind.wrap .i64 (Int.tdiv r (64 : Int))) (64 : Int))))) :: ((IntKind.wrap .u8 (IntKind.wrap .i64 ((128 : Int) + (Int.tmod r (64 : Int))))) :: ([] : List Int))))), []) else K ((.l .deep bytesR ((IntKind.wrap .u8 (IntKind.wrap .i64 ((240 : Int) + (IntKind.wrap .i64 (Int.tdiv r (262144 : Int)))))) :: ((IntKind.wrap .u8 (IntKind.wrap .i64 ((128 : Int) + (Int.tmod (IntKind.wrap .i64 (Int.tdiv r (4096 : Int))) (64 : Int))))) :: ((IntKind.wrap .u8 (IntKind.wrap .i64 ((128 : Int) + (Int.tmod (IntKind.wrap .i64 (Int.tdiv r (64 : Int))) (64 : Int))))) :: ((IntKind.wrap .u8 (IntKind.wrap .i64 ((128 : Int) + (Int.tmod r (64 : Int))))) :: ([] : List Int)))))), [])))))))
theorem e_s_RuneBytes (r : Int) (K : Ret → Option Ret) : evF E_s_RuneBytes true F.s_RuneBytes [.s (.int .i64 r)] K = T_s_RuneBytes r K := by kernel_rfl
def S_s_RuneBytes : Sm := S_fnR [.i] (fun d => true) (fun d => (.l .deep bytesR (encD d.1), []))
theorem v_s_RuneBytes (r : Int) (K : Ret → Option Ret) : T_s_RuneBytes r K = K (.l .deep bytesR (encD r), []) := by
  unfold T_s_RuneBytes encD
  by_cases h1 : r < 0
  · rw [decide_eq_true h1, if_pos (by omega)]; rfl
  by_cases h2 : r > 1114111
  · rw [decide_eq_false h1, decide_eq_true h2, if_pos (by omega)]; rfl
  rw [decide_eq_false h1, decide_eq_false h2]
  have key : (bif (decide (r < (128 : Int))) then K ((.l .deep bytesR ((IntKind.wrap .u8 r) :: [])), []) else (bif (decide (r < (2048 : Int))) then
     K ((.l .deep bytesR ((IntKind.wrap .u8 (IntKind.wrap .i64 ((192 : Int) + (IntKind.wrap .i64 (Int.tdiv r (64 : Int)))))) :: ((IntKind.wrap .u8 (IntKind.wrap .i64 ((128 : Int) + (Int.tmod r (64 : Int))))) :: []))), [])
     else (bif (decide (r < (65536 : Int))) then
      K ((.l .deep bytesR ((IntKind.wrap .u8 (IntKind.wrap .i64 ((224 : Int) + (IntKind.wrap .i64 (Int.tdiv r (4096 : Int)))))) :: ((IntKind.wrap .u8 (IntKind.wrap .i64 ((128 : Int) + (Int.tmod (IntKind.wrap .i64 (Int.tdiv r (64 : Int))) (64 : Int))))) :: ((IntKind.wrap .u8 (IntKind.wrap .i64 ((128 : Int) + (Int.tmod r (64 : Int))))) :: [])))), [])
      else K ((.l .deep bytesR ((IntKind.wrap .u8 (IntKind.wrap .i64 ((240 : Int) + (IntKind.wrap .i64 (Int.tdiv r (262144 : Int)))))) :: ((IntKind.wrap .u8 (IntKind.wrap .i64 ((128 : Int) + (Int.tmod (IntKind.wrap .i64 (Int.tdiv r (4096 : Int))) (64 : Int))))) :: ((IntKind.wrap .u8 (IntKind.wrap .i64 ((128 : Int) + (Int.tmod (IntKind.wrap .i64 (Int.tdiv r (64 : Int))) (64 : Int))))) :: ((IntKind.wrap .u8 (IntKind.wrap .i64 ((128 : Int) + (Int.tmod r (64 : Int))))) :: []))))), [])))) = K (.l .deep bytesR (if r < 128 then [r] else if r < 2048 then [192 + r / 64, 128 + r % 64] else if r < 65536 then [224 + r / 4096, 128 + r / 64 % 64, 128 + r % 64] else [240 + r / 262144, 128 + r / 4096 % 64, 128 + r / 64 % 64, 128 + r % 64]), []) := by
    rw [Int.tdiv_eq_ediv_of_nonneg (by omega), Int.tdiv_eq_ediv_of_nonneg (by omega), Int.tdiv_eq_ediv_of_nonneg (by omega), Int.tmod_eq_emod_of_nonneg (by omega)]
    by_cases c1 : r < 128
    · rw [decide_eq_true c1, if_pos c1, wrap8 (by omega) (by omega)]; rfl
    rw [decide_eq_false c1, if_neg c1]
    by_cases c2 : r < 2048
    · rw [decide_eq_true c2, if_pos c2]
      simp (disch := omega) only [wrap_in, wrap8, cond_true, cond_false]
    rw [decide_eq_false c2, if_neg c2]
    by_cases c3 : r < 65536
    · rw [decide_eq_true c3, if_pos c3]
      simp (disch := omega) only [wrap_in, wrap8, Int.tmod_eq_emod_of_nonneg, cond_true, cond_false]
    · rw [decide_eq_false c3, if_neg c3]
      simp (disch := omega) only [wrap_in, wrap8, Int.tmod_eq_emod_of_nonneg, cond_true, cond_false]
  by_cases h3 : r ≥ 55296
  · by_cases h4 : r ≤ 57343
    · rw [decide_eq_true h3, decide_eq_true h4, if_pos (by omega)]; rfl
    · rw [decide_eq_true h3, decide_eq_false h4, if_neg (by omega)]; exact key
  · rw [decide_eq_false h3, if_neg (by omega)]; exact key
theorem okS_s_RuneBytes : OkFn prog I N.s_RuneBytes true S_s_RuneBytes := okN (ok_fn mem0 (l := []) (p := []) (ls := []) (lend := []) (focus := false) (fuel := 0) (give := []) (fn := F.s_RuneBytes) (by kernel_rfl) (by kernel_rfl) (by kernel_rfl) (by kernel_rfl) (cs := []) (by kernel_rfl) loops0) (S_fnR_of fun d K h => (e_s_RuneBytes d.1 K).trans (v_s_RuneBytes d.1 K))
end Go.Ev.Seat
end
section
/- s_l01Cur_text: its contract. -/
namespace Go.Ev.Seat
open Go.RowKit
set_option maxRecDepth 100000
set_option linter.unusedVariables false
set_option linter.unusedSimpArgs false
def z_s_l01Cur_text_3_0 (x1 : Int) (o0 : List Int) (b10 : List Int) (b11 : Int) (b12 : Int) : St := { tm := ([.x, (.s (.int .i64 x1)), .x, .x, .x, (.w 0)] ++ List.replicate 21 .x), ob := [(0, (.arr true true bytesR o0)), (1, (.box [(.l .no bytesR b10), (.s (.int .i64 b11)), (.s (.int .i64 b12))]))], nx := 2, io := [(.pb 1 0)] }
def sh_s_l01Cur_text_3_0 : Ss := { tm := (.cons (.pb 0 0) (.cons (.int .i64) (.cons (.x) (.cons (.x) (.cons (.x) (.cons (.w 1) (.cons (.int .i64) (xsh 20)))))))), ob := (.box (.cons (.l .no bytesR) (.cons (.int .i64) (.cons (.int .i64) .nil))) (.arr true true bytesR .nil)), nx := 2, io := (.cons (.pb 0 0) .nil) }
def d_s_l01Cur_text_3_0 (x1 : Int) (x6 : Int) (b00 : List Int) (b01 : Int) (b02 : Int) (o1 : List Int) : sh_s_l01Cur_text_3_0.T := (((), (x1, ((), ((), ((), ((), (x6, xd 20))))))), ((b00, (b01, (b02, ()))), (o1, ())), ((), ()))
def s_s_l01Cur_text_3_0 (x1 : Int) (x6 : Int) (b00 : List Int) (b01 : Int) (b02 : Int) (o1 : List Int) : St := { tm := ([(.pb 0 0), (.s (.int .i64 x1)), .x, .x, .x, (.w 1), (.s (.int .i64 x6))] ++ List.replicate 20 .x), ob := [(0, (.box [(.l .no bytesR b00), (.s (.int .i64 b01)), (.s (.int .i64 b02))])), (1, (.arr true true bytesR o1))], nx := 2, io := [(.pb 0 0)] }
theorem se_s_l01Cur_text_3_0 (x1 : Int) (x6 : Int) (b00 : List Int) (b01 : Int) (b02 : Int) (o1 : List Int) : sh_s_l01Cur_text_3_0.mk' (d_s_l01Cur_text_3_0 x1 x6 b00 b01 b02 o1) = (s_s_l01Cur_text_3_0 x1 x6 b00 b01 b02 o1) := by kernel_rfl
def w_s_l01Cur_text_3_0 (d : sh_s_l01Cur_text_3_0.T) (f : Int → Int → (List Int) → Int → Int → (List Int) → Option Ret) : Option Ret := match d with | ((_, (x1, (_, (_, (_, (_, (x6, _))))))), ((b00, (b01, (b02, _))), (o1, _)), (_, _)) => f x1 x6 b00 b01 b02 o1
noncomputable def P_s_l01Cur_text_3_0 (x1 : Int) (x6 : Int) (b00 : List Int) (b01 : Int) (b02 : Int) (o1 : List Int) (nx0 : Int → Int → (List Int) → Int → Int → (List Int) → Option Ret) (k0 : Int → (List Int) → (List Int) → Int → Int → Option Ret) : Option Ret := (bif (decide (x6 > (0 : Int))) then (B_s_l01Cur_rune b00 b01 b02 (fun y0 y1 y2 => (bif (Nat.ble (((List.length o1) + (List.length (encD y0))) * 1) 140737488355328) then (nx0 x1 (IntKind.wrap .i64 (x6 - (1 : Int))) b00 y1 y2 (o1 ++ (encD y0))) else none))) else (k0 x1 o1 b00 b01 b02))
noncomputable def Q_s_l01Cur_text_3_0 : Nat → Int → Int → (List Int) → Int → Int → (List Int) → (Int → (List Int) → (List Int) → Int → Int → Option Ret) → Option Ret
  | 0, _, _, _, _, _, _, _ => none
  | m + 1, x1, x6, b00, b01, b02, o1, k0 => P_s_l01Cur_text_3_0 x1 x6 b00 b01 b02 o1 (fun x1 x6 b00 b01 b02 o1 => (Q_s_l01Cur_text_3_0 m x1 x6 b00 b01 b02 o1 k0)) k0
noncomputable def R_s_l01Cur_text_3_0 (x1 : Int) (x6 : Int) (b00 : List Int) (b01 : Int) (b02 : Int) (o1 : List Int) (k0 : Int → (List Int) → (List Int) → Int → Int → Option Ret) : Option Ret := Q_s_l01Cur_text_3_0 (x1.toNat + x6.toNat + List.length b00 + b01.toNat + b02.toNat + List.length o1 + 2) x1 x6 b00 b01 b02 o1 k0
noncomputable def W_s_l01Cur_text_3 : LoopFn := (fun (σ : St) (K : Ex → St → Option Ret) => (match sh_s_l01Cur_text_3_0.un σ with | some d => w_s_l01Cur_text_3_0 d (fun x1 x6 b00 b01 b02 o1 => R_s_l01Cur_text_3_0 x1 x6 b00 b01 b02 o1 (fun x1 o0 b10 b11 b12 => (K (.ext 0) (z_s_l01Cur_text_3_0 x1 o0 b10 b11 b12)))) | none => none))
noncomputable abbrev ls_s_l01Cur_text : List (Nat × Bool × Sm) := [(N.s_l01Cur_size, false, (SB_s_l01Cur_size B_s_l01Cur_size)), (N.s_l01Cur_rune, false, (SB_s_l01Cur_rune B_s_l01Cur_rune)), (N.s_RuneBytes, true, S_s_RuneBytes)]
noncomputable abbrev E_s_l01Cur_text : Env := En ls_s_l01Cur_text [] [(3, [0,1,5,6], [1,4,5], W_s_l01Cur_text_3)] [] false 0 []
noncomputable abbrev U_s_l01Cur_text_3 := rounds (run E_s_l01Cur_text (bodyOf F.s_l01Cur_text 3)) [0,1,5,6] [1,4,5]
theorem st_s_l01Cur_text_3_0 (m : Nat) (x1 : Int) (x6 : Int) (b00 : List Int) (b01 : Int) (b02 : Int) (o1 : List Int) (K : Ex → St → Option Ret) : U_s_l01Cur_text_3 (m + 1) (s_s_l01Cur_text_3_0 x1 x6 b00 b01 b02 o1) K = P_s_l01Cur_text_3_0 x1 x6 b00 b01 b02 o1 (fun x1 x6 b00 b01 b02 o1 => (U_s_l01Cur_text_3 m (s_s_l01Cur_text_3_0 x1 x6 b00 b01 b02 o1) K)) (fun x1 o0 b10 b11 b12 => (K (.ext 0) (z_s_l01Cur_text_3_0 x1 o0 b10 b11 b12))) := by kernel_rfl
theorem q_s_l01Cur_text_3 (K : Ex → St → Option Ret) : ∀ m : Nat, (∀ (x1 : Int) (x6 : Int) (b00 : List Int) (b01 : Int) (b02 : Int) (o1 : List Int), U_s_l01Cur_text_3 m (s_s_l01Cur_text_3_0 x1 x6 b00 b01 b02 o1) K = Q_s_l01Cur_text_3_0 m x1 x6 b00 b01 b02 o1 (fun x1 o0 b10 b11 b12 => (K (.ext 0) (z_s_l01Cur_text_3_0 x1 o0 b10 b11 b12))))
  | 0 => (fun _ _ _ _ _ _ => rfl)
  | m + 1 => (fun x1 x6 b00 b01 b02 o1 => (by rw [st_s_l01Cur_text_3_0, show (fun x1 x6 b00 b01 b02 o1 => (U_s_l01Cur_text_3 m (s_s_l01Cur_text_3_0 x1 x6 b00 b01 b02 o1) K)) = (fun x1 x6 b00 b01 b02 o1 => (Q_s_l01Cur_text_3_0 m x1 x6 b00 b01 b02 o1 (fun x1 o0 b10 b11 b12 => (K (.ext 0) (z_s_l01Cur_text_3_0 x1 o0 b10 b11 b12))))) from funext fun x1 => funext fun x6 => funext fun b00 => funext fun b01 => funext fun b02 => funext fun o1 => (q_s_l01Cur_text_3 K m) x1 x6 b00 b01 b02 o1]; rfl))
theorem loopK_s_l01Cur_text_3 : LoopOk E_s_l01Cur_text (bodyOf F.s_l01Cur_text 3) := by
  refine loopW_ok (n := 3) (F := W_s_l01Cur_text_3) (by kernel_rfl) rfl (li := [0,1,5,6]) (lo := [1,4,5]) rfl (fun σ K r hr => ?_)
  unfold W_s_l01Cur_text_3 at hr
  split at hr
  · rename_i d hd
    rw [Ss.un_mk hd]
    exact ⟨_, ((congrArg (fun z => U_s_l01Cur_text_3 _ z K) (se_s_l01Cur_text_3_0 _ _ _ _ _ _)).trans ((q_s_l01Cur_text_3 K _) _ _ _ _ _ _)).trans hr⟩
  · cases hr
noncomputable def T_s_l01Cur_text (cc : List Int) (ca : Int) (cs : Int) (n : Int) (K : Ret → Option Ret) : Option Ret := (B_s_l01Cur_size cc ca cs n (fun y3 y4 y5 => (R_s_l01Cur_text_3_0 n y3 cc y4 y5 ([] : List Int) (fun y6 y7 y8 y9 y10 => (bif (decide ((((List.length y7) : Nat) : Int) > y6)) then K ((.l .deep bytesR ([] : List Int)), [(.io [(.l .no bytesR y8), (.s (.int .i64 y9)), (.s (.int .i64 y10))])]) else K ((.l .deep bytesR y7), [(.io [(.l .no bytesR y8), (.s (.int .i64 y9)), (.s (.int .i64 y10))])]))))))
theorem e_s_l01Cur_text (cc : List Int) (ca : Int) (cs : Int) (n : Int) (K : Ret → Option Ret) : evF E_s_l01Cur_text false F.s_l01Cur_text [.io [.l .no bytesR cc, .s (.int .i64 ca), .s (.int .i64 cs)], .s (.int .i64 n)] K = T_s_l01Cur_text cc ca cs n K := by kernel_rfl
theorem text_loop {P : Ret → Prop} {n : Int} {cc : List Int} (hf : fitB cc = true) {F : Int → List Int → List Int → Int → Int → (Ret → Option Ret) → Option Ret} : ∀ (m k : Nat) (ca cs : Int) (o : List Int), k < m → 0 ≤ ca → ca + 3 * k ≤ 2500000000000000000 → 0 ≤ cs → cs < 65536 → byteL o → o.length + 4 * k ≤ 100000 →
    (∀ (a s : Int) (o' : List Int), 0 ≤ a → a ≤ ca + 3 * k → 0 ≤ s → s < 65536 → byteL o' → o'.length ≤ o.length + 4 * k → Dr P (F n o' cc a s)) → Dr P (fun K => Q_s_l01Cur_text_3_0 m n (k : Int) cc ca cs o (fun a b c d e => F a b c d e K))
  | 0, k, ca, cs, o, h, _, _, _, _, _, _, _ => absurd h (by omega)
  | m + 1, k, ca, cs, o, h, h0, h1, h2, h3, hb, hl, hF => by
    show Dr P (fun K => P_s_l01Cur_text_3_0 n (k : Int) cc ca cs o _ _)
    unfold P_s_l01Cur_text_3_0
    cases k with
    | zero =>
      refine Dr.bif (fun hc => ?_) (fun _ => hF ca cs o h0 (by omega) h2 h3 hb (by omega))
      simp at hc
    | succ k =>
      refine Dr.must (decide_eq_true (by omega)) ?_
      refine Dr.b3 (b_s_l01Cur_rune _ _ _ (curB_iff.2 ⟨hf, by omega, by omega, by omega, by omega⟩)) (fun y a s hy => ?_)
      have hle := encD_len4 y
      refine Dr.must (Nat.ble_eq_true_of_le (by omega)) ?_
      rw [show IntKind.wrap .i64 (((k + 1 : Nat) : Int) - 1) = (k : Int) by rw [wrap_in (by omega) (by omega)]; omega]
      refine text_loop hf m k a s (o ++ encD y) (by omega) (by omega) (by omega) (by omega) (by omega) (byteL_app hb (encD_byte y)) (by rw [List.length_append]; omega) (fun a' s' o' q1 q2 q3 q4 q5 q6 => hF a' s' o' q1 (by omega) q3 q4 q5 ?_)
      rw [List.length_append] at q6
      omega
theorem x_s_l01Cur_text (cc : List Int) (ca : Int) (cs : Int) (n : Int) (h : (curB 2000000000000000000 cc ca cs && (decide (0 ≤ n) && decide (n ≤ 1000))) = true) : ∃ (y : List Int) (a : Int) (s : Int), ((fitB y = true ∧ ((y.length : Nat) : Int) ≤ n) ∧ 0 ≤ a ∧ a ≤ ca + (1 + 3 * n) ∧ 0 ≤ s ∧ s < 65536) ∧ ∀ K : Ret → Option Ret, T_s_l01Cur_text cc ca cs n K = K (.l .deep bytesR y, [.io [.l .no bytesR cc, .s (.int .i64 a), .s (.int .i64 s)]]) := by
  suffices hd : Dr (fun r : Ret => ∃ (y : List Int) (a : Int) (s : Int), ((fitB y = true ∧ ((y.length : Nat) : Int) ≤ n) ∧ 0 ≤ a ∧ a ≤ ca + (1 + 3 * n) ∧ 0 ≤ s ∧ s < 65536) ∧ r = (.l .deep bytesR y, [.io [.l .no bytesR cc, .s (.int .i64 a), .s (.int .i64 s)]])) (fun K : Ret → Option Ret => T_s_l01Cur_text cc ca cs n K) by
    obtain ⟨_, ⟨y, a, s, hp, rfl⟩, hk⟩ := hd
    exact ⟨y, a, s, hp, hk⟩
  obtain ⟨h, hpre⟩ := (Bool.and_eq_true _ _).mp h
  obtain ⟨hf, h2, h3, h4, h5⟩ := curB_iff.1 h
  have hl := fitB_len hf
  unfold T_s_l01Cur_text
  simp only [Bool.and_eq_true, decide_eq_true_eq] at hpre
  refine Dr.b3 (b_s_l01Cur_size _ _ _ _ ((Bool.and_eq_true _ _).mpr ⟨curB_iff.2 ⟨hf, by omega, by omega, by omega, by omega⟩, by simp only [Bool.and_eq_true, decide_eq_true_eq]; omega⟩)) (fun y0 a0 s0 hy => ?_)
  obtain ⟨k, rfl⟩ : ∃ k : Nat, y0 = k := ⟨y0.toNat, by omega⟩
  unfold R_s_l01Cur_text_3_0
  refine text_loop hf (F := fun y6 y7 y8 y9 y10 K => (bif (decide ((((List.length y7) : Nat) : Int) > y6)) then
   K ((.l .deep bytesR ([] : List Int)), [(.io [(.l .no bytesR y8), (.s (.int .i64 y9)), (.s (.int .i64 y10))])])
   else K ((.l .deep bytesR y7), [(.io [(.l .no bytesR y8), (.s (.int .i64 y9)), (.s (.int .i64 y10))])]))) _ k a0 s0 [] (by omega) (by omega) (by omega) (by omega) (by omega) byteL_nil (by rw [List.length_nil]; omega) (fun a s o q1 q2 q3 q4 q5 q6 => ?_)
  simp only [List.length_nil] at q6
  refine Dr.bif (fun _ => Dr.leaf ⟨_, _, _, ⟨⟨rfl, ?_⟩, by omega, by omega, by omega, by omega⟩, rfl⟩) (fun hc => ?_)
  · simp only [List.length_nil]; omega
  · simp only [decide_eq_false_iff_not] at hc
    exact Dr.leaf ⟨_, _, _, ⟨⟨byteL_fit q5 (by omega), by omega⟩, by omega, by omega, by omega, by omega⟩, rfl⟩
noncomputable def g_s_l01Cur_text (cc : List Int) (ca : Int) (cs : Int) (n : Int) : List Int × Int × Int := Classical.epsilon fun g => ((fitB (g).1 = true ∧ (((g).1.length : Nat) : Int) ≤ n) ∧ 0 ≤ (g).2.1 ∧ (g).2.1 ≤ ca + (1 + 3 * n) ∧ 0 ≤ (g).2.2 ∧ (g).2.2 < 65536) ∧ ∀ K : Ret → Option Ret, T_s_l01Cur_text cc ca cs n K = K (.l .deep bytesR (g).1, [.io [.l .no bytesR cc, .s (.int .i64 (g).2.1), .s (.int .i64 (g).2.2)]])
theorem gs_s_l01Cur_text (cc : List Int) (ca : Int) (cs : Int) (n : Int) (h : (curB 2000000000000000000 cc ca cs && (decide (0 ≤ n) && decide (n ≤ 1000))) = true) : ((fitB (g_s_l01Cur_text cc ca cs n).1 = true ∧ (((g_s_l01Cur_text cc ca cs n).1.length : Nat) : Int) ≤ n) ∧ 0 ≤ (g_s_l01Cur_text cc ca cs n).2.1 ∧ (g_s_l01Cur_text cc ca cs n).2.1 ≤ ca + (1 + 3 * n) ∧ 0 ≤ (g_s_l01Cur_text cc ca cs n).2.2 ∧ (g_s_l01Cur_text cc ca cs n).2.2 < 65536) ∧ ∀ K : Ret → Option Ret, T_s_l01Cur_text cc ca cs n K = K (.l .deep bytesR (g_s_l01Cur_text cc ca cs n).1, [.io [.l .no bytesR cc, .s (.int .i64 (g_s_l01Cur_text cc ca cs n).2.1), .s (.int .i64 (g_s_l01Cur_text cc ca cs n).2.2)]]) := by
  obtain ⟨y, a, s, hy, hk⟩ := x_s_l01Cur_text cc ca cs n h
  exact Classical.epsilon_spec (p := fun g : List Int × Int × Int => ((fitB (g).1 = true ∧ (((g).1.length : Nat) : Int) ≤ n) ∧ 0 ≤ (g).2.1 ∧ (g).2.1 ≤ ca + (1 + 3 * n) ∧ 0 ≤ (g).2.2 ∧ (g).2.2 < 65536) ∧ ∀ K : Ret → Option Ret, T_s_l01Cur_text cc ca cs n K = K (.l .deep bytesR (g).1, [.io [.l .no bytesR cc, .s (.int .i64 (g).2.1), .s (.int .i64 (g).2.2)]])) ⟨⟨y, a, s⟩, hy, hk⟩
noncomputable def B_s_l01Cur_text (cc : List Int) (ca : Int) (cs : Int) (n : Int) (k : (List Int) → (Int) → (Int) → Option Ret) : Option Ret := bif curB 2000000000000000000 cc ca cs && (decide (0 ≤ n) && decide (n ≤ 1000)) then k (g_s_l01Cur_text cc ca cs n).1 (g_s_l01Cur_text cc ca cs n).2.1 (g_s_l01Cur_text cc ca cs n).2.2 else none
theorem b_s_l01Cur_text (cc : List Int) (ca : Int) (cs : Int) (n : Int) (h : (curB 2000000000000000000 cc ca cs && (decide (0 ≤ n) && decide (n ≤ 1000))) = true) : ∃ (y : List Int) (a : Int) (s : Int), ((fitB y = true ∧ ((y.length : Nat) : Int) ≤ n) ∧ 0 ≤ a ∧ a ≤ ca + (1 + 3 * n) ∧ 0 ≤ s ∧ s < 65536) ∧ ∀ k, B_s_l01Cur_text cc ca cs n k = k y a s :=
  ⟨(g_s_l01Cur_text cc ca cs n).1, (g_s_l01Cur_text cc ca cs n).2.1, (g_s_l01Cur_text cc ca cs n).2.2, (gs_s_l01Cur_text cc ca cs n h).1, fun k => by unfold B_s_l01Cur_text; rw [h]; rfl⟩
def SB_s_l01Cur_text (B : (List Int) → (Int) → (Int) → (Int) → ((List Int) → (Int) → (Int) → Option Ret) → Option Ret) : Sm := S_B [.sh (.io (.cons (.l .no bytesR) (.cons (.int .i64) (.cons (.int .i64) .nil)))), .i] (fun d K => B d.1.1 d.1.2.1 d.1.2.2.1 d.2.1 (fun y a s => K (.l .deep bytesR y, [.io [.l .no bytesR d.1.1, .s (.int .i64 a), .s (.int .i64 s)]])))
theorem okS_s_l01Cur_text : OkFn prog I N.s_l01Cur_text false (SB_s_l01Cur_text B_s_l01Cur_text) := okN (ok_fn (memc okS_s_l01Cur_size (memc okS_s_l01Cur_rune (memc okS_s_RuneBytes mem0))) (l := ls_s_l01Cur_text) (p := []) (ls := [(3, [0,1,5,6], [1,4,5], W_s_l01Cur_text_3)]) (lend := []) (focus := false) (fuel := 0) (give := []) (fn := F.s_l01Cur_text) (by kernel_rfl) (by kernel_rfl) (by kernel_rfl) (by kernel_rfl) (cs := [bodyOf F.s_l01Cur_text 3]) (by kernel_rfl) (loopsc loopK_s_l01Cur_text_3 loops0)) (S_B_of fun d K q hq => by
  refine (e_s_l01Cur_text d.1.1 d.1.2.1 d.1.2.2.1 d.2.1 K).trans ?_
  unfold B_s_l01Cur_text at hq
  cases hp : (curB 2000000000000000000 d.1.1 d.1.2.1 d.1.2.2.1 && (decide (0 ≤ d.2.1) && decide (d.2.1 ≤ 1000))) with
  | false => rw [hp] at hq; cases hq
  | true =>
    rw [hp] at hq
    exact ((gs_s_l01Cur_text d.1.1 d.1.2.1 d.1.2.2.1 d.2.1 hp).2 K).trans hq)
end Go.Ev.Seat
end
section
/- s_l01Cur_small: its contract. -/
namespace Go.Ev.Seat
open Go.RowKit
set_option maxRecDepth 100000
set_option linter.unusedVariables false
set_option linter.unusedSimpArgs false
noncomputable abbrev ls_s_l01Cur_small : List (Nat × Bool × Sm) := [(N.s_l01Cur_pick, false, (SB_s_l01Cur_pick B_s_l01Cur_pick)), (N.s_l01Cur_text, false, (SB_s_l01Cur_text B_s_l01Cur_text)), (N.s_l01Cur_raw, false, (SB_s_l01Cur_raw B_s_l01Cur_raw))]
noncomputable abbrev E_s_l01Cur_small : Env := En ls_s_l01Cur_small [] [] [] false 0 []
noncomputable def T_s_l01Cur_small (cc : List Int) (ca : Int) (cs : Int) (K : Ret → Option Ret) : Option Ret := (B_s_l01Cur_pick cc ca cs (20 : Int) (fun y0 y1 y2 => (B_s_l01Cur_pick cc y1 y2 (6 : Int) (fun y3 y4 y5 => (B_s_l01Cur_text cc y4 y5 (5 : Int) (fun y6 y7 y8 => (B_s_l01Cur_pick cc y7 y8 (14 : Int) (fun y9 y10 y11 => (bif (y9 == (0 : Int)) then (B_s_l01Cur_raw cc y10 y11 (fun y12 y13 y14 => (B_s_l01Cur_pick cc y13 y14 (3 : Int) (fun y15 y16 y17 => (bif ((decide ((0 : Int) ≤ y15)) && (decide (y15 < (((List.length (y12 :: ((400 : Int) :: ((401 : Int) :: ([] : List Int))))) : Nat) : Int)))) then K ((.a [(.s (.int .i64 (List.getD (y12 :: ((400 : Int) :: ((401 : Int) :: ([] : List Int)))) (Int.toNat y15) (0 : Int)))), (.s (.int .i64 y3)), (.l .deep bytesR y6)]), [(.io [(.l .no bytesR cc), (.s (.int .i64 y16)), (.s (.int .i64 y17))])]) else none))))) else (bif (y9 == (1 : Int)) then (B_s_l01Cur_raw cc y10 y11 (fun y18 y19 y20 => (B_s_l01Cur_pick cc y19 y20 (3 : Int) (fun y21 y22 y23 => (bif ((decide ((0 : Int) ≤ y21)) && (decide (y21 < (((List.length (y18 :: ((400 : Int) :: ((401 : Int) :: ([] : List Int))))) : Nat) : Int)))) then K ((.a [(.s (.int .i64 y0)), (.s (.int .i64 (List.getD (y18 :: ((400 : Int) :: ((401 : Int) :: ([] : List Int)))) (Int.toNat y21) (0 : Int)))), (.l .deep bytesR y6)]), [(.io [(.l .no bytesR cc), (.s (.int .i64 y22)), (.s (.int .i64 y23))])]) else none))))) else (bif (y9 == (2 : Int)) then (B_s_l01Cur_pick cc y10 y11 (2 : Int) (fun y24 y25 y26 => (bif (((((IntKind.wrap .i64 ((400 : Int) + y24)) == (IntKind.wrap .i64 ((400 : Int) + y24))) && (decide ((0 : Int) ≤ (IntKind.wrap .i64 ((400 : Int) + y24))))) && (decide (((Int.toNat (IntKind.wrap .i64 ((400 : Int) + y24))) * 1) ≤ 140737488355328))) && (decide ((IntKind.wrap .i64 ((400 : Int) + y24)) ≤ (4611686018427387904 : Int)))) then K ((.a [(.s (.int .i64 y0)), (.s (.int .i64 y3)), (.l .deep bytesR (List.replicate (Int.toNat (IntKind.wrap .i64 ((400 : Int) + y24))) (0 : Int)))]), [(.io [(.l .no bytesR cc), (.s (.int .i64 y25)), (.s (.int .i64 y26))])]) else none))) else K ((.a [(.s (.int .i64 y0)), (.s (.int .i64 y3)), (.l .deep bytesR y6)]), [(.io [(.l .no bytesR cc), (.s (.int .i64 y10)), (.s (.int .i64 y11))])]))))))))))))
theorem e_s_l01Cur_small (cc : List Int) (ca : Int) (cs : Int) (K : Ret → Option Ret) : evF E_s_l01Cur_small false F.s_l01Cur_small [.io [.l .no bytesR cc, .s (.int .i64 ca), .s (.int .i64 cs)]] K = T_s_l01Cur_small cc ca cs K := by kernel_rfl
theorem x_s_l01Cur_small (cc : List Int) (ca : Int) (cs : Int) (h : (curB 1000000000000000000 cc ca cs) = true) : ∃ (u : Int) (v : Int) (t : List Int) (a : Int) (s : Int), ((fitB t = true ∧ t.length ≤ 401) ∧ 0 ≤ a ∧ a ≤ ca + 30 ∧ 0 ≤ s ∧ s < 65536) ∧ ∀ K : Ret → Option Ret, T_s_l01Cur_small cc ca cs K = K (.a [.s (.int .i64 u), .s (.int .i64 v), .l .deep bytesR t], [.io [.l .no bytesR cc, .s (.int .i64 a), .s (.int .i64 s)]]) := by
  suffices hd : Dr (fun r : Ret => ∃ (u : Int) (v : Int) (t : List Int) (a : Int) (s : Int), ((fitB t = true ∧ t.length ≤ 401) ∧ 0 ≤ a ∧ a ≤ ca + 30 ∧ 0 ≤ s ∧ s < 65536) ∧ r = (.a [.s (.int .i64 u), .s (.int .i64 v), .l .deep bytesR t], [.io [.l .no bytesR cc, .s (.int .i64 a), .s (.int .i64 s)]])) (fun K : Ret → Option Ret => T_s_l01Cur_small cc ca cs K) by
    obtain ⟨_, ⟨u, v, t, a, s, hp, rfl⟩, hk⟩ := hd
    exact ⟨u, v, t, a, s, hp, hk⟩
  obtain ⟨hf, h2, h3, h4, h5⟩ := curB_iff.1 h
  have hl := fitB_len hf
  unfold T_s_l01Cur_small
  repeat' first
    | exact Dr.leaf ⟨_, _, _, _, _, ⟨⟨by first | assumption | exact fitB_rep (by omega), by first | omega | (rw [List.length_replicate]; omega)⟩, by omega, by omega, by omega, by omega⟩, rfl⟩
    | refine Dr.b3 (b_s_l01Cur_pick _ _ _ _ (curB_iff.2 ⟨hf, by omega, by omega, by omega, by omega⟩)) (fun _ _ _ hy => ?_)
    | refine Dr.b3 (b_s_l01Cur_raw _ _ _ (curB_iff.2 ⟨hf, by omega, by omega, by omega, by omega⟩)) (fun _ _ _ hy => ?_)
    | (refine Dr.b3 (b_s_l01Cur_text _ _ _ _ ((Bool.and_eq_true _ _).mpr ⟨curB_iff.2 ⟨hf, by omega, by omega, by omega, by omega⟩, by simp only [Bool.and_eq_true, decide_eq_true_eq]; omega⟩)) (fun _ _ _ hy => ?_); obtain ⟨⟨hq1, hq2⟩, hq3⟩ := hy)
    | refine Dr.meet ?_
    | simp (disch := omega) only [wrap_in]
    | refine Dr.must (by first | rfl | (simp only [List.length_cons, List.length_nil, BEq.rfl, Bool.true_and, Bool.and_eq_true, decide_eq_true_eq]; omega)) ?_
    | refine Dr.bif (fun hb => ?_) (fun hb => ?_)
noncomputable def g_s_l01Cur_small (cc : List Int) (ca : Int) (cs : Int) : Int × Int × List Int × Int × Int := Classical.epsilon fun g => ((fitB (g).2.2.1 = true ∧ (g).2.2.1.length ≤ 401) ∧ 0 ≤ (g).2.2.2.1 ∧ (g).2.2.2.1 ≤ ca + 30 ∧ 0 ≤ (g).2.2.2.2 ∧ (g).2.2.2.2 < 65536) ∧ ∀ K : Ret → Option Ret, T_s_l01Cur_small cc ca cs K = K (.a [.s (.int .i64 (g).1), .s (.int .i64 (g).2.1), .l .deep bytesR (g).2.2.1], [.io [.l .no bytesR cc, .s (.int .i64 (g).2.2.2.1), .s (.int .i64 (g).2.2.2.2)]])
theorem gs_s_l01Cur_small (cc : List Int) (ca : Int) (cs : Int) (h : (curB 1000000000000000000 cc ca cs) = true) : ((fitB (g_s_l01Cur_small cc ca cs).2.2.1 = true ∧ (g_s_l01Cur_small cc ca cs).2.2.1.length ≤ 401) ∧ 0 ≤ (g_s_l01Cur_small cc ca cs).2.2.2.1 ∧ (g_s_l01Cur_small cc ca cs).2.2.2.1 ≤ ca + 30 ∧ 0 ≤ (g_s_l01Cur_small cc ca cs).2.2.2.2 ∧ (g_s_l01Cur_small cc ca cs).2.2.2.2 < 65536) ∧ ∀ K : Ret → Option Ret, T_s_l01Cur_small cc ca cs K = K (.a [.s (.int .i64 (g_s_l01Cur_small cc ca cs).1), .s (.int .i64 (g_s_l01Cur_small cc ca cs).2.1), .l .deep bytesR (g_s_l01Cur_small cc ca cs).2.2.1], [.io [.l .no bytesR cc, .s (.int .i64 (g_s_l01Cur_small cc ca cs).2.2.2.1), .s (.int .i64 (g_s_l01Cur_small cc ca cs).2.2.2.2)]]) := by
  obtain ⟨u, v, t, a, s, hy, hk⟩ := x_s_l01Cur_small cc ca cs h
  exact Classical.epsilon_spec (p := fun g : Int × Int × List Int × Int × Int => ((fitB (g).2.2.1 = true ∧ (g).2.2.1.length ≤ 401) ∧ 0 ≤ (g).2.2.2.1 ∧ (g).2.2.2.1 ≤ ca + 30 ∧ 0 ≤ (g).2.2.2.2 ∧ (g).2.2.2.2 < 65536) ∧ ∀ K : Ret → Option Ret, T_s_l01Cur_small cc ca cs K = K (.a [.s (.int .i64 (g).1), .s (.int .i64 (g).2.1), .l .deep bytesR (g).2.2.1], [.io [.l .no bytesR cc, .s (.int .i64 (g).2.2.2.1), .s (.int .i64 (g).2.2.2.2)]])) ⟨⟨u, v, t, a, s⟩, hy, hk⟩
noncomputable def B_s_l01Cur_small (cc : List Int) (ca : Int) (cs : Int) (k : (Int) → (Int) → (List Int) → (Int) → (Int) → Option Ret) : Option Ret := bif curB 1000000000000000000 cc ca cs then k (g_s_l01Cur_small cc ca cs).1 (g_s_l01Cur_small cc ca cs).2.1 (g_s_l01Cur_small cc ca cs).2.2.1 (g_s_l01Cur_small cc ca cs).2.2.2.1 (g_s_l01Cur_small cc ca cs).2.2.2.2 else none
theorem b_s_l01Cur_small (cc : List Int) (ca : Int) (cs : Int) (h : (curB 1000000000000000000 cc ca cs) = true) : ∃ (u : Int) (v : Int) (t : List Int) (a : Int) (s : Int), ((fitB t = true ∧ t.length ≤ 401) ∧ 0 ≤ a ∧ a ≤ ca + 30 ∧ 0 ≤ s ∧ s < 65536) ∧ ∀ k, B_s_l01Cur_small cc ca cs k = k u v t a s :=
  ⟨(g_s_l01Cur_small cc ca cs).1, (g_s_l01Cur_small cc ca cs).2.1, (g_s_l01Cur_small cc ca cs).2.2.1, (g_s_l01Cur_small cc ca cs).2.2.2.1, (g_s_l01Cur_small cc ca cs).2.2.2.2, (gs_s_l01Cur_small cc ca cs h).1, fun k => by unfold B_s_l01Cur_small; rw [h]; rfl⟩
def SB_s_l01Cur_small (B : (List Int) → (Int) → (Int) → ((Int) → (Int) → (List Int) → (Int) → (Int) → Option Ret) → Option Ret) : Sm := S_B [.sh (.io (.cons (.l .no bytesR) (.cons (.int .i64) (.cons (.int .i64) .nil))))] (fun d K => B d.1.1 d.1.2.1 d.1.2.2.1 (fun u v t a s => K (.a [.s (.int .i64 u), .s (.int .i64 v), .l .deep bytesR t], [.io [.l .no bytesR d.1.1, .s (.int .i64 a), .s (.int .i64 s)]])))
theorem okS_s_l01Cur_small : OkFn prog I N.s_l01Cur_small false (SB_s_l01Cur_small B_s_l01Cur_small) := okN (ok_fn (memc okS_s_l01Cur_pick (memc okS_s_l01Cur_text (memc okS_s_l01Cur_raw mem0))) (l := ls_s_l01Cur_small) (p := []) (ls := []) (lend := []) (focus := false) (fuel := 0) (give := []) (fn := F.s_l01Cur_small) (by kernel_rfl) (by kernel_rfl) (by kernel_rfl) (by kernel_rfl) (cs := []) (by kernel_rfl) loops0) (S_B_of fun d K q hq => by
  refine (e_s_l01Cur_small d.1.1 d.1.2.1 d.1.2.2.1 K).trans ?_
  unfold B_s_l01Cur_small at hq
  cases hp : (curB 1000000000000000000 d.1.1 d.1.2.1 d.1.2.2.1) with
  | false => rw [hp] at hq; cases hq
  | true =>
    rw [hp] at hq
    exact ((gs_s_l01Cur_small d.1.1 d.1.2.1 d.1.2.2.1 hp).2 K).trans hq)
end Go.Ev.Seat
end
section
/- s_l01Cur_now: its contract. -/
namespace Go.Ev.Seat
open Go.RowKit
set_option maxRecDepth 100000
set_option linter.unusedVariables false
set_option linter.unusedSimpArgs false
noncomputable abbrev ls_s_l01Cur_now : List (Nat × Bool × Sm) := [(N.s_l01Cur_pick, false, (SB_s_l01Cur_pick B_s_l01Cur_pick)), (N.s_l01Cur_raw, false, (SB_s_l01Cur_raw B_s_l01Cur_raw))]
noncomputable abbrev E_s_l01Cur_now : Env := En ls_s_l01Cur_now [] [] [] false 0 []
noncomputable def T_s_l01Cur_now (cc : List Int) (ca : Int) (cs : Int) (K : Ret → Option Ret) : Option Ret := (B_s_l01Cur_pick cc ca cs (14 : Int) (fun y0 y1 y2 => (B_s_l01Cur_raw cc y1 y2 (fun y3 y4 y5 => (B_s_l01Cur_pick cc y4 y5 (5 : Int) (fun y6 y7 y8 => (bif ((decide ((0 : Int) ≤ y6)) && (decide (y6 < (((List.length ((0 : Int) :: (y0 :: (y3 :: ((1000 : Int) :: ((1001 : Int) :: ([] : List Int))))))) : Nat) : Int)))) then K ((.s (.int .i64 (List.getD ((0 : Int) :: (y0 :: (y3 :: ((1000 : Int) :: ((1001 : Int) :: ([] : List Int)))))) (Int.toNat y6) (0 : Int)))), [(.io [(.l .no bytesR cc), (.s (.int .i64 y7)), (.s (.int .i64 y8))])]) else none)))))))
theorem e_s_l01Cur_now (cc : List Int) (ca : Int) (cs : Int) (K : Ret → Option Ret) : evF E_s_l01Cur_now false F.s_l01Cur_now [.io [.l .no bytesR cc, .s (.int .i64 ca), .s (.int .i64 cs)]] K = T_s_l01Cur_now cc ca cs K := by kernel_rfl
theorem x_s_l01Cur_now (cc : List Int) (ca : Int) (cs : Int) (h : (curB 2000000000000000000 cc ca cs) = true) : ∃ (y : Int) (a : Int) (s : Int), (0 ≤ a ∧ a ≤ ca + 4 ∧ 0 ≤ s ∧ s < 65536) ∧ ∀ K : Ret → Option Ret, T_s_l01Cur_now cc ca cs K = K (.s (.int .i64 y), [.io [.l .no bytesR cc, .s (.int .i64 a), .s (.int .i64 s)]]) := by
  suffices hd : Dr (fun r : Ret => ∃ (y : Int) (a : Int) (s : Int), (0 ≤ a ∧ a ≤ ca + 4 ∧ 0 ≤ s ∧ s < 65536) ∧ r = (.s (.int .i64 y), [.io [.l .no bytesR cc, .s (.int .i64 a), .s (.int .i64 s)]])) (fun K : Ret → Option Ret => T_s_l01Cur_now cc ca cs K) by
    obtain ⟨_, ⟨y, a, s, hp, rfl⟩, hk⟩ := hd
    exact ⟨y, a, s, hp, hk⟩
  obtain ⟨hf, h2, h3, h4, h5⟩ := curB_iff.1 h
  have hl := fitB_len hf
  unfold T_s_l01Cur_now
  repeat' first
    | exact Dr.leaf ⟨_, _, _, ⟨by omega, by omega, by omega, by omega⟩, rfl⟩
    | refine Dr.b3 (b_s_l01Cur_pick _ _ _ _ (curB_iff.2 ⟨hf, by omega, by omega, by omega, by omega⟩)) (fun _ _ _ hy => ?_)
    | refine Dr.b3 (b_s_l01Cur_raw _ _ _ (curB_iff.2 ⟨hf, by omega, by omega, by omega, by omega⟩)) (fun _ _ _ hy => ?_)
    | refine Dr.meet ?_
    | simp (disch := omega) only [wrap_in]
    | refine Dr.must (by first | rfl | (simp only [List.length_cons, List.length_nil, BEq.rfl, Bool.true_and, Bool.and_eq_true, decide_eq_true_eq]; omega)) ?_
    | refine Dr.bif (fun hb => ?_) (fun hb => ?_)
noncomputable def g_s_l01Cur_now (cc : List Int) (ca : Int) (cs : Int) : Int × Int × Int := Classical.epsilon fun g => (0 ≤ (g).2.1 ∧ (g).2.1 ≤ ca + 4 ∧ 0 ≤ (g).2.2 ∧ (g).2.2 < 65536) ∧ ∀ K : Ret → Option Ret, T_s_l01Cur_now cc ca cs K = K (.s (.int .i64 (g).1), [.io [.l .no bytesR cc, .s (.int .i64 (g).2.1), .s (.int .i64 (g).2.2)]])
theorem gs_s_l01Cur_now (cc : List Int) (ca : Int) (cs : Int) (h : (curB 2000000000000000000 cc ca cs) = true) : (0 ≤ (g_s_l01Cur_now cc ca cs).2.1 ∧ (g_s_l01Cur_now cc ca cs).2.1 ≤ ca + 4 ∧ 0 ≤ (g_s_l01Cur_now cc ca cs).2.2 ∧ (g_s_l01Cur_now cc ca cs).2.2 < 65536) ∧ ∀ K : Ret → Option Ret, T_s_l01Cur_now cc ca cs K = K (.s (.int .i64 (g_s_l01Cur_now cc ca cs).1), [.io [.l .no bytesR cc, .s (.int .i64 (g_s_l01Cur_now cc ca cs).2.1), .s (.int .i64 (g_s_l01Cur_now cc ca cs).2.2)]]) := by
  obtain ⟨y, a, s, hy, hk⟩ := x_s_l01Cur_now cc ca cs h
  exact Classical.epsilon_spec (p := fun g : Int × Int × Int => (0 ≤ (g).2.1 ∧ (g).2.1 ≤ ca + 4 ∧ 0 ≤ (g).2.2 ∧ (g).2.2 < 65536) ∧ ∀ K : Ret → Option Ret, T_s_l01Cur_now cc ca cs K = K (.s (.int .i64 (g).1), [.io [.l .no bytesR cc, .s (.int .i64 (g).2.1), .s (.int .i64 (g).2.2)]])) ⟨⟨y, a, s⟩, hy, hk⟩
noncomputable def B_s_l01Cur_now (cc : List Int) (ca : Int) (cs : Int) (k : (Int) → (Int) → (Int) → Option Ret) : Option Ret := bif curB 2000000000000000000 cc ca cs then k (g_s_l01Cur_now cc ca cs).1 (g_s_l01Cur_now cc ca cs).2.1 (g_s_l01Cur_now cc ca cs).2.2 else none
theorem b_s_l01Cur_now (cc : List Int) (ca : Int) (cs : Int) (h : (curB 2000000000000000000 cc ca cs) = true) : ∃ (y : Int) (a : Int) (s : Int), (0 ≤ a ∧ a ≤ ca + 4 ∧ 0 ≤ s ∧ s < 65536) ∧ ∀ k, B_s_l01Cur_now cc ca cs k = k y a s :=
  ⟨(g_s_l01Cur_now cc ca cs).1, (g_s_l01Cur_now cc ca cs).2.1, (g_s_l01Cur_now cc ca cs).2.2, (gs_s_l01Cur_now cc ca cs h).1, fun k => by unfold B_s_l01Cur_now; rw [h]; rfl⟩
def SB_s_l01Cur_now (B : (List Int) → (Int) → (Int) → ((Int) → (Int) → (Int) → Option Ret) → Option Ret) : Sm := S_B [.sh (.io (.cons (.l .no bytesR) (.cons (.int .i64) (.cons (.int .i64) .nil))))] (fun d K => B d.1.1 d.1.2.1 d.1.2.2.1 (fun y a s => K (.s (.int .i64 y), [.io [.l .no bytesR d.1.1, .s (.int .i64 a), .s (.int .i64 s)]])))
theorem okS_s_l01Cur_now : OkFn prog I N.s_l01Cur_now false (SB_s_l01Cur_now B_s_l01Cur_now) := okN (ok_fn (memc okS_s_l01Cur_pick (memc okS_s_l01Cur_raw mem0)) (l := ls_s_l01Cur_now) (p := []) (ls := []) (lend := []) (focus := false) (fuel := 0) (give := []) (fn := F.s_l01Cur_now) (by kernel_rfl) (by kernel_rfl) (by kernel_rfl) (by kernel_rfl) (cs := []) (by kernel_rfl) loops0) (S_B_of fun d K q hq => by
  refine (e_s_l01Cur_now d.1.1 d.1.2.1 d.1.2.2.1 K).trans ?_
  unfold B_s_l01Cur_now at hq
  cases hp : (curB 2000000000000000000 d.1.1 d.1.2.1 d.1.2.2.1) with
  | false => rw [hp] at hq; cases hq
  | true =>
    rw [hp] at hq
    exact ((gs_s_l01Cur_now d.1.1 d.1.2.1 d.1.2.2.1 hp).2 K).trans hq)
end Go.Ev.Seat
end
section
/- s_DrawLeaseBars: its contract. -/
namespace Go.Ev.Seat
open Go.RowKit
set_option maxRecDepth 100000
set_option linter.unusedVariables false
set_option linter.unusedSimpArgs false
noncomputable abbrev pl_s_DrawLeaseBars : List (Nat × Plan × List Nat) := [(3, takeB [0, 1, 4, 7, 11, 13] (.fork (.one 2 (takeB [3] (.fork (.one 5 (.fork (.more 6 (.fork (.one 8 (takeB [9] (.fork (.more 10 (.fork (.one 12 (.fork (.one 14 (takeB [15, 16] (.fork (.one 17 (takes [18])))))))) (.one 12 (.fork (.more 10 (.fork (.one 14 (takeB [15, 16] (.fork (.one 17 (takes [18])))))) (.one 14 (takeB [15] (.fork (.one 10 (takeB [16] (.fork (.one 17 (takes [18])))))))))))))))) (.one 8 (.fork (.more 6 (takeB [9] (.fork (.more 10 (.fork (.one 12 (.fork (.one 14 (takeB [15, 16] (.fork (.one 17 (takes [18])))))))) (.one 12 (.fork (.more 10 (.fork (.one 14 (takeB [15, 16] (.fork (.one 17 (takes [18])))))) (.one 14 (takeB [15] (.fork (.one 10 (takeB [16] (.fork (.one 17 (takes [18])))))))))))))) (.one 12 (.fork (.more 6 (takeB [9] (.fork (.more 10 (.fork (.one 14 (takeB [15, 16] (.fork (.one 17 (takes [18])))))) (.one 14 (takeB [15] (.fork (.one 10 (takeB [16] (.fork (.one 17 (takes [18]))))))))))) (.one 14 (takeB [15] (.fork (.one 6 (takeB [9] (.fork (.one 10 (takeB [16] (.fork (.one 17 (takes [18])))))))))))))))))))))))), [6])]
noncomputable abbrev ls_s_DrawLeaseBars : List (Nat × Bool × Sm) := [(N.s_l01Open, false, S_s_l01Open), (N.s_l01Cur_leases, false, (SB_s_l01Cur_leases B_s_l01Cur_leases)), (N.s_l01Cur_pick, false, (SB_s_l01Cur_pick B_s_l01Cur_pick)), (N.s_l01Cur_raw, false, (SB_s_l01Cur_raw B_s_l01Cur_raw)), (N.s_l01Cur_small, false, (SB_s_l01Cur_small B_s_l01Cur_small)), (N.s_l01Cur_now, false, (SB_s_l01Cur_now B_s_l01Cur_now))]
noncomputable abbrev E_s_DrawLeaseBars : Env := En ls_s_DrawLeaseBars pl_s_DrawLeaseBars [] [] false 0 []
noncomputable def T_s_DrawLeaseBars (code : List Int) (K : Ret → Option Ret) : Option Ret := (bif (fitB code) then (B_s_l01Cur_leases code (0 : Int) (seedD code) (fun y0 y1 y2 => (B_s_l01Cur_pick code y1 y2 (4 : Int) (fun y3 y4 y5 => (B_s_l01Cur_raw code y4 y5 (fun y6 y7 y8 => (meet ((B_s_l01Cur_pick code y7 y8 (2 : Int) (fun y9 y10 y11 => (bif ((decide ((0 : Int) ≤ y9)) && (decide (y9 < (((List.length ((IntKind.wrap .i64 ((1 : Int) + y3)) :: (y6 :: ([] : List Int)))) : Nat) : Int)))) then (meet ((B_s_l01Cur_small code y10 y11 (fun y12 y13 y14 y15 y16 => (B_s_l01Cur_now code y15 y16 (fun y17 y18 y19 => K ((.t [(.l .deep leaseR y0), (.s (.int .i64 (List.getD ((IntKind.wrap .i64 ((1 : Int) + y3)) :: (y6 :: ([] : List Int))) (Int.toNat y9) (0 : Int)))), (.a [(.s (.int .i64 y12)), (.s (.int .i64 y13)), (.l .deep bytesR y14)]), (.s (.int .i64 y17))]), [])))))) ((B_s_l01Cur_small code y10 y11 (fun y20 y21 y22 y23 y24 => (meet ((B_s_l01Cur_now code y23 y24 (fun y25 y26 y27 => K ((.t [(.l .deep leaseR y0), (.s (.int .i64 (List.getD ((IntKind.wrap .i64 ((1 : Int) + y3)) :: (y6 :: ([] : List Int))) (Int.toNat y9) (0 : Int)))), (.a [(.s (.int .i64 y20)), (.s (.int .i64 y21)), (.l .deep bytesR y22)]), (.s (.int .i64 y25))]), [])))) ((B_s_l01Cur_now code y23 y24 (fun y28 y29 y30 => K ((.t [(.l .deep leaseR y0), (.s (.int .i64 (List.getD ((IntKind.wrap .i64 ((1 : Int) + y3)) :: (y6 :: ([] : List Int))) (Int.toNat y9) (0 : Int)))), (.a [(.s (.int .i64 y20)), (.s (.int .i64 y21)), (.l .deep bytesR y22)]), (.s (.int .i64 y28))]), []))))))))) else none)))) ((B_s_l01Cur_pick code y7 y8 (2 : Int) (fun y31 y32 y33 => (meet ((bif ((decide ((0 : Int) ≤ y31)) && (decide (y31 < (((List.length ((IntKind.wrap .i64 ((1 : Int) + y3)) :: (y6 :: ([] : List Int)))) : Nat) : Int)))) then (meet ((B_s_l01Cur_small code y32 y33 (fun y34 y35 y36 y37 y38 => (B_s_l01Cur_now code y37 y38 (fun y39 y40 y41 => K ((.t [(.l .deep leaseR y0), (.s (.int .i64 (List.getD ((IntKind.wrap .i64 ((1 : Int) + y3)) :: (y6 :: ([] : List Int))) (Int.toNat y31) (0 : Int)))), (.a [(.s (.int .i64 y34)), (.s (.int .i64 y35)), (.l .deep bytesR y36)]), (.s (.int .i64 y39))]), [])))))) ((B_s_l01Cur_small code y32 y33 (fun y42 y43 y44 y45 y46 => (meet ((B_s_l01Cur_now code y45 y46 (fun y47 y48 y49 => K ((.t [(.l .deep leaseR y0), (.s (.int .i64 (List.getD ((IntKind.wrap .i64 ((1 : Int) + y3)) :: (y6 :: ([] : List Int))) (Int.toNat y31) (0 : Int)))), (.a [(.s (.int .i64 y42)), (.s (.int .i64 y43)), (.l .deep bytesR y44)]), (.s (.int .i64 y47))]), [])))) ((B_s_l01Cur_now code y45 y46 (fun y50 y51 y52 => K ((.t [(.l .deep leaseR y0), (.s (.int .i64 (List.getD ((IntKind.wrap .i64 ((1 : Int) + y3)) :: (y6 :: ([] : List Int))) (Int.toNat y31) (0 : Int)))), (.a [(.s (.int .i64 y42)), (.s (.int .i64 y43)), (.l .deep bytesR y44)]), (.s (.int .i64 y50))]), []))))))))) else none)) ((B_s_l01Cur_small code y32 y33 (fun y53 y54 y55 y56 y57 => (meet ((bif ((decide ((0 : Int) ≤ y31)) && (decide (y31 < (((List.length ((IntKind.wrap .i64 ((1 : Int) + y3)) :: (y6 :: ([] : List Int)))) : Nat) : Int)))) then (meet ((B_s_l01Cur_now code y56 y57 (fun y58 y59 y60 => K ((.t [(.l .deep leaseR y0), (.s (.int .i64 (List.getD ((IntKind.wrap .i64 ((1 : Int) + y3)) :: (y6 :: ([] : List Int))) (Int.toNat y31) (0 : Int)))), (.a [(.s (.int .i64 y53)), (.s (.int .i64 y54)), (.l .deep bytesR y55)]), (.s (.int .i64 y58))]), [])))) ((B_s_l01Cur_now code y56 y57 (fun y61 y62 y63 => K ((.t [(.l .deep leaseR y0), (.s (.int .i64 (List.getD ((IntKind.wrap .i64 ((1 : Int) + y3)) :: (y6 :: ([] : List Int))) (Int.toNat y31) (0 : Int)))), (.a [(.s (.int .i64 y53)), (.s (.int .i64 y54)), (.l .deep bytesR y55)]), (.s (.int .i64 y61))]), []))))) else none)) ((B_s_l01Cur_now code y56 y57 (fun y64 y65 y66 => (bif ((decide ((0 : Int) ≤ y31)) && (decide (y31 < (((List.length ((IntKind.wrap .i64 ((1 : Int) + y3)) :: (y6 :: ([] : List Int)))) : Nat) : Int)))) then K ((.t [(.l .deep leaseR y0), (.s (.int .i64 (List.getD ((IntKind.wrap .i64 ((1 : Int) + y3)) :: (y6 :: ([] : List Int))) (Int.toNat y31) (0 : Int)))), (.a [(.s (.int .i64 y53)), (.s (.int .i64 y54)), (.l .deep bytesR y55)]), (.s (.int .i64 y64))]), []) else none))))))))))))))))))) else none)
theorem e_s_DrawLeaseBars (code : List Int) (K : Ret → Option Ret) : evF E_s_DrawLeaseBars false F.s_DrawLeaseBars [.l .no bytesR code] K = T_s_DrawLeaseBars code K := by kernel_rfl
theorem x_s_DrawLeaseBars (code : List Int) (h : (fitB code) = true) : ∃ (l : List T_Lease) (u : Int) (e0 : Int) (e1 : Int) (e2 : List Int) (n : Int), (l.length ≤ 14 ∧ fitB e2 = true ∧ e2.length ≤ 401) ∧ ∀ K : Ret → Option Ret, T_s_DrawLeaseBars code K = K (.t [.l .deep leaseR l, .s (.int .i64 u), .a [.s (.int .i64 e0), .s (.int .i64 e1), .l .deep bytesR e2], .s (.int .i64 n)], []) := by
  suffices hd : Dr (fun r : Ret => ∃ (l : List T_Lease) (u : Int) (e0 : Int) (e1 : Int) (e2 : List Int) (n : Int), (l.length ≤ 14 ∧ fitB e2 = true ∧ e2.length ≤ 401) ∧ r = (.t [.l .deep leaseR l, .s (.int .i64 u), .a [.s (.int .i64 e0), .s (.int .i64 e1), .l .deep bytesR e2], .s (.int .i64 n)], [])) (fun K : Ret → Option Ret => T_s_DrawLeaseBars code K) by
    obtain ⟨_, ⟨l, u, e0, e1, e2, n, hp, rfl⟩, hk⟩ := hd
    exact ⟨l, u, e0, e1, e2, n, hp, hk⟩
  have hs : 0 ≤ seedD code ∧ seedD code < 65536 := by unfold seedD; omega
  unfold T_s_DrawLeaseBars
  rw [h]
  obtain ⟨l, a1, s1, hy1, hk1⟩ := b_s_l01Cur_leases code 0 (seedD code) (curB_iff.2 ⟨h, by omega, by omega, by omega, by omega⟩)
  obtain ⟨y2, a2, s2, hy2, hk2⟩ := b_s_l01Cur_pick code a1 s1 4 (curB_iff.2 ⟨h, by omega, by omega, by omega, by omega⟩)
  obtain ⟨y3, a3, s3, hy3, hk3⟩ := b_s_l01Cur_raw code a2 s2 (curB_iff.2 ⟨h, by omega, by omega, by omega, by omega⟩)
  obtain ⟨y4, a4, s4, hy4, hk4⟩ := b_s_l01Cur_pick code a3 s3 2 (curB_iff.2 ⟨h, by omega, by omega, by omega, by omega⟩)
  obtain ⟨y5, y6, y7, a5, s5, hy5, hk5⟩ := b_s_l01Cur_small code a4 s4 (curB_iff.2 ⟨h, by omega, by omega, by omega, by omega⟩)
  obtain ⟨y8, a6, s6, hy6, hk6⟩ := b_s_l01Cur_now code a5 s5 (curB_iff.2 ⟨h, by omega, by omega, by omega, by omega⟩)
  simp only [hk1, hk2, hk3, hk4, hk5, hk6, decide_eq_true (show 0 ≤ y4 by omega), decide_eq_true (show y4 < (((List.length ((IntKind.wrap .i64 ((1 : Int) + y2)) :: (y3 :: ([] : List Int)))) : Nat) : Int) by simp only [List.length_cons, List.length_nil]; omega), Bool.and_self, cond_true, meet_self]
  exact Dr.leaf ⟨_, _, _, _, _, _, ⟨hy1.1, hy5.1⟩, rfl⟩
noncomputable def g_s_DrawLeaseBars (code : List Int) : List T_Lease × Int × Int × Int × List Int × Int := Classical.epsilon fun g => ((g).1.length ≤ 14 ∧ fitB (g).2.2.2.2.1 = true ∧ (g).2.2.2.2.1.length ≤ 401) ∧ ∀ K : Ret → Option Ret, T_s_DrawLeaseBars code K = K (.t [.l .deep leaseR (g).1, .s (.int .i64 (g).2.1), .a [.s (.int .i64 (g).2.2.1), .s (.int .i64 (g).2.2.2.1), .l .deep bytesR (g).2.2.2.2.1], .s (.int .i64 (g).2.2.2.2.2)], [])
theorem gs_s_DrawLeaseBars (code : List Int) (h : (fitB code) = true) : ((g_s_DrawLeaseBars code).1.length ≤ 14 ∧ fitB (g_s_DrawLeaseBars code).2.2.2.2.1 = true ∧ (g_s_DrawLeaseBars code).2.2.2.2.1.length ≤ 401) ∧ ∀ K : Ret → Option Ret, T_s_DrawLeaseBars code K = K (.t [.l .deep leaseR (g_s_DrawLeaseBars code).1, .s (.int .i64 (g_s_DrawLeaseBars code).2.1), .a [.s (.int .i64 (g_s_DrawLeaseBars code).2.2.1), .s (.int .i64 (g_s_DrawLeaseBars code).2.2.2.1), .l .deep bytesR (g_s_DrawLeaseBars code).2.2.2.2.1], .s (.int .i64 (g_s_DrawLeaseBars code).2.2.2.2.2)], []) := by
  obtain ⟨l, u, e0, e1, e2, n, hy, hk⟩ := x_s_DrawLeaseBars code h
  exact Classical.epsilon_spec (p := fun g : List T_Lease × Int × Int × Int × List Int × Int => ((g).1.length ≤ 14 ∧ fitB (g).2.2.2.2.1 = true ∧ (g).2.2.2.2.1.length ≤ 401) ∧ ∀ K : Ret → Option Ret, T_s_DrawLeaseBars code K = K (.t [.l .deep leaseR (g).1, .s (.int .i64 (g).2.1), .a [.s (.int .i64 (g).2.2.1), .s (.int .i64 (g).2.2.2.1), .l .deep bytesR (g).2.2.2.2.1], .s (.int .i64 (g).2.2.2.2.2)], [])) ⟨⟨l, u, e0, e1, e2, n⟩, hy, hk⟩
noncomputable def B_s_DrawLeaseBars (code : List Int) (k : (List T_Lease) → (Int) → (Int) → (Int) → (List Int) → (Int) → Option Ret) : Option Ret := bif fitB code then k (g_s_DrawLeaseBars code).1 (g_s_DrawLeaseBars code).2.1 (g_s_DrawLeaseBars code).2.2.1 (g_s_DrawLeaseBars code).2.2.2.1 (g_s_DrawLeaseBars code).2.2.2.2.1 (g_s_DrawLeaseBars code).2.2.2.2.2 else none
theorem b_s_DrawLeaseBars (code : List Int) (h : (fitB code) = true) : ∃ (l : List T_Lease) (u : Int) (e0 : Int) (e1 : Int) (e2 : List Int) (n : Int), (l.length ≤ 14 ∧ fitB e2 = true ∧ e2.length ≤ 401) ∧ ∀ k, B_s_DrawLeaseBars code k = k l u e0 e1 e2 n :=
  ⟨(g_s_DrawLeaseBars code).1, (g_s_DrawLeaseBars code).2.1, (g_s_DrawLeaseBars code).2.2.1, (g_s_DrawLeaseBars code).2.2.2.1, (g_s_DrawLeaseBars code).2.2.2.2.1, (g_s_DrawLeaseBars code).2.2.2.2.2, (gs_s_DrawLeaseBars code h).1, fun k => by unfold B_s_DrawLeaseBars; rw [h]; rfl⟩
def SB_s_DrawLeaseBars (B : (List Int) → ((List T_Lease) → (Int) → (Int) → (Int) → (List Int) → (Int) → Option Ret) → Option Ret) : Sm := S_B [.l bytesR] (fun d K => B d.1 (fun l u e0 e1 e2 n => K (.t [.l .deep leaseR l, .s (.int .i64 u), .a [.s (.int .i64 e0), .s (.int .i64 e1), .l .deep bytesR e2], .s (.int .i64 n)], [])))
theorem okS_s_DrawLeaseBars : OkFn prog I N.s_DrawLeaseBars false (SB_s_DrawLeaseBars B_s_DrawLeaseBars) := okN (ok_fn (memc okS_s_l01Open (memc okS_s_l01Cur_leases (memc okS_s_l01Cur_pick (memc okS_s_l01Cur_raw (memc okS_s_l01Cur_small (memc okS_s_l01Cur_now mem0)))))) (l := ls_s_DrawLeaseBars) (p := pl_s_DrawLeaseBars) (ls := []) (lend := []) (focus := false) (fuel := 0) (give := []) (fn := F.s_DrawLeaseBars) (by kernel_rfl) (by kernel_rfl) (by kernel_rfl) (by kernel_rfl) (cs := []) (by kernel_rfl) loops0) (S_B_of fun d K q hq => by
  refine (e_s_DrawLeaseBars d.1 K).trans ?_
  unfold B_s_DrawLeaseBars at hq
  cases hp : (fitB d.1) with
  | false => rw [hp] at hq; cases hq
  | true =>
    rw [hp] at hq
    exact ((gs_s_DrawLeaseBars d.1 hp).2 K).trans hq)
end Go.Ev.Seat
end
section
/- i_in: its contract. -/
namespace Go.Ev.Seat
open Go.RowKit
set_option maxRecDepth 100000
set_option linter.unusedVariables false
set_option linter.unusedSimpArgs false
noncomputable abbrev E_i_in : Env := En [] [] [] [] false 0 []
noncomputable def T_i_in (n : Int) (low : Int) (high : Int) (K : Ret → Option Ret) : Option Ret := (bif (decide (low ≤ n)) then K ((.s (.bool (decide (n ≤ high)))), []) else K ((.s (.bool false)), []))
theorem e_i_in (n : Int) (low : Int) (high : Int) (K : Ret → Option Ret) : evF E_i_in true F.i_in [.s (.int .i64 n), .s (.int .i64 low), .s (.int .i64 high)] K = T_i_in n low high K := by kernel_rfl
def S_i_in : Sm := S_fnR [.i, .i, .i] (fun d => true) (fun d => (bl (decide (d.2.1 ≤ d.1) && decide (d.1 ≤ d.2.2.1)), []))
theorem v_i_in (n : Int) (low : Int) (high : Int) (K : Ret → Option Ret) : T_i_in n low high K = K (bl (decide (low ≤ n) && decide (n ≤ high)), []) := by
  unfold T_i_in; cases decide (low ≤ n) <;> rfl
theorem okS_i_in : OkFn prog I N.i_in true S_i_in := okN (ok_fn mem0 (l := []) (p := []) (ls := []) (lend := []) (focus := false) (fuel := 0) (give := []) (fn := F.i_in) (by kernel_rfl) (by kernel_rfl) (by kernel_rfl) (by kernel_rfl) (cs := []) (by kernel_rfl) loops0) (S_fnR_of fun d K h => (e_i_in d.1 d.2.1 d.2.2.1 K).trans (v_i_in d.1 d.2.1 d.2.2.1 K))
end Go.Ev.Seat
end
section
/- i_isSession: its contract. -/
namespace Go.Ev.Seat
open Go.RowKit
set_option maxRecDepth 100000
set_option linter.unusedVariables false
set_option linter.unusedSimpArgs false
noncomputable abbrev ls_i_isSession : List (Nat × Bool × Sm) := [(N.i_in, true, S_i_in)]
noncomputable abbrev E_i_isSession : Env := En ls_i_isSession [] [] [] false 0 []
noncomputable def T_i_isSession (k : Int) (K : Ret → Option Ret) : Option Ret := K ((.s (.bool ((decide ((1 : Int) ≤ k)) && (decide (k ≤ (8 : Int)))))), [])
theorem e_i_isSession (k : Int) (K : Ret → Option Ret) : evF E_i_isSession true F.i_isSession [.s (.int .i64 k)] K = T_i_isSession k K := by kernel_rfl
def S_i_isSession : Sm := S_fnR [.i] (fun d => true) (fun d => (bl (decide (1 ≤ d.1) && decide (d.1 ≤ 8)), []))
theorem v_i_isSession (k : Int) (K : Ret → Option Ret) : T_i_isSession k K = K (bl (decide (1 ≤ k) && decide (k ≤ 8)), []) := by
  rfl
theorem okS_i_isSession : OkFn prog I N.i_isSession true S_i_isSession := okN (ok_fn (memc okS_i_in mem0) (l := ls_i_isSession) (p := []) (ls := []) (lend := []) (focus := false) (fuel := 0) (give := []) (fn := F.i_isSession) (by kernel_rfl) (by kernel_rfl) (by kernel_rfl) (by kernel_rfl) (cs := []) (by kernel_rfl) loops0) (S_fnR_of fun d K h => (e_i_isSession d.1 K).trans (v_i_isSession d.1 K))
end Go.Ev.Seat
end
section
/- i_isLease: its contract. -/
namespace Go.Ev.Seat
open Go.RowKit
set_option maxRecDepth 100000
set_option linter.unusedVariables false
set_option linter.unusedSimpArgs false
noncomputable abbrev ls_i_isLease : List (Nat × Bool × Sm) := [(N.i_in, true, S_i_in), (N.i_isSession, true, S_i_isSession)]
noncomputable abbrev E_i_isLease : Env := En ls_i_isLease [] [] [] false 0 []
noncomputable def T_i_isLease (l : T_Lease) (K : Ret → Option Ret) : Option Ret := (bif ((decide ((0 : Int) ≤ l.1)) && (decide (l.1 ≤ l.2.1))) then (bif (decide (l.2.1 ≤ (400 : Int))) then (bif ((decide ((1 : Int) ≤ l.2.2.1)) && (decide (l.2.2.1 ≤ (8 : Int)))) then K ((.s (.bool ((decide ((1 : Int) ≤ l.2.2.2)) && (decide (l.2.2.2 ≤ (1000 : Int)))))), []) else K ((.s (.bool false)), [])) else K ((.s (.bool false)), [])) else K ((.s (.bool false)), []))
theorem e_i_isLease (l : T_Lease) (K : Ret → Option Ret) : evF E_i_isLease true F.i_isLease [.a (leaseR.cells .no l)] K = T_i_isLease l K := by kernel_rfl
def S_i_isLease : Sm := S_fnR [.a leaseR] (fun d => true) (fun d => (bl (leaseOkD d.1), []))
theorem v_i_isLease (l : T_Lease) (K : Ret → Option Ret) : T_i_isLease l K = K (bl (leaseOkD l), []) := by
  unfold T_i_isLease leaseOkD sessD tickD
  cases (decide (0 ≤ l.1) && decide (l.1 ≤ l.2.1)) <;> cases decide (l.2.1 ≤ 400) <;> cases (decide (1 ≤ l.2.2.1) && decide (l.2.2.1 ≤ 8)) <;> rfl
theorem okS_i_isLease : OkFn prog I N.i_isLease true S_i_isLease := okN (ok_fn (memc okS_i_in (memc okS_i_isSession mem0)) (l := ls_i_isLease) (p := []) (ls := []) (lend := []) (focus := false) (fuel := 0) (give := []) (fn := F.i_isLease) (by kernel_rfl) (by kernel_rfl) (by kernel_rfl) (by kernel_rfl) (cs := []) (by kernel_rfl) loops0) (S_fnR_of fun d K h => (e_i_isLease d.1 K).trans (v_i_isLease d.1 K))
end Go.Ev.Seat
end
section
/- cmp_isNaN_int: its contract. -/
namespace Go.Ev.Seat
open Go.RowKit
set_option maxRecDepth 100000
set_option linter.unusedVariables false
set_option linter.unusedSimpArgs false
noncomputable abbrev E_cmp_isNaN_int : Env := En [] [] [] [] false 0 []
noncomputable def T_cmp_isNaN_int (a : Int) (K : Ret → Option Ret) : Option Ret := K ((.s (.bool (a != a))), [])
theorem e_cmp_isNaN_int (a : Int) (K : Ret → Option Ret) : evF E_cmp_isNaN_int true F.cmp_isNaN_int [.s (.int .i64 a)] K = T_cmp_isNaN_int a K := by kernel_rfl
def S_cmp_isNaN_int : Sm := S_fnR [.i] (fun d => true) (fun d => (bl (d.1 != d.1), []))
theorem v_cmp_isNaN_int (a : Int) (K : Ret → Option Ret) : T_cmp_isNaN_int a K = K (bl (a != a), []) := rfl
theorem okS_cmp_isNaN_int : OkFn prog I N.cmp_isNaN_int true S_cmp_isNaN_int := okN (ok_fn mem0 (l := []) (p := []) (ls := []) (lend := []) (focus := false) (fuel := 0) (give := []) (fn := F.cmp_isNaN_int) (by kernel_rfl) (by kernel_rfl) (by kernel_rfl) (by kernel_rfl) (cs := []) (by kernel_rfl) loops0) (S_fnR_of fun d K h => (e_cmp_isNaN_int d.1 K).trans (v_cmp_isNaN_int d.1 K))
end Go.Ev.Seat
end
section
/- cmp_Compare_int: its contract. -/
namespace Go.Ev.Seat
open Go.RowKit
set_option maxRecDepth 100000
set_option linter.unusedVariables false
set_option linter.unusedSimpArgs false
noncomputable abbrev ls_cmp_Compare_int : List (Nat × Bool × Sm) := [(N.cmp_isNaN_int, true, S_cmp_isNaN_int)]
noncomputable abbrev E_cmp_Compare_int : Env := En ls_cmp_Compare_int [] [] [] false 0 []
noncomputable def T_cmp_Compare_int (a : Int) (b : Int) (K : Ret → Option Ret) : Option Ret := (bif (a != a) then (bif (b != b) then K ((.s (.int .i64 (0 : Int))), []) else K ((.s (.int .i64 (-(1 : Int)))), [])) else (bif (b != b) then K ((.s (.int .i64 (1 : Int))), []) else (bif (decide (a < b)) then K ((.s (.int .i64 (-(1 : Int)))), []) else (bif (decide (a > b)) then K ((.s (.int .i64 (1 : Int))), []) else K ((.s (.int .i64 (0 : Int))), [])))))
theorem e_cmp_Compare_int (a : Int) (b : Int) (K : Ret → Option Ret) : evF E_cmp_Compare_int true F.cmp_Compare_int [.s (.int .i64 a), .s (.int .i64 b)] K = T_cmp_Compare_int a b K := by kernel_rfl
def S_cmp_Compare_int : Sm := S_fnR [.i, .i] (fun d => true) (fun d => (.s (.int .i64 (sgn d.1 d.2.1)), []))
theorem v_cmp_Compare_int (a : Int) (b : Int) (K : Ret → Option Ret) : T_cmp_Compare_int a b K = K (.s (.int .i64 (sgn a b)), []) := by
  unfold T_cmp_Compare_int sgn
  rw [bne_f (rfl : a = a), bne_f (rfl : b = b)]
  cases decide (a < b)
  · cases decide (a > b) <;> rfl
  · rfl
theorem okS_cmp_Compare_int : OkFn prog I N.cmp_Compare_int true S_cmp_Compare_int := okN (ok_fn (memc okS_cmp_isNaN_int mem0) (l := ls_cmp_Compare_int) (p := []) (ls := []) (lend := []) (focus := false) (fuel := 0) (give := []) (fn := F.cmp_Compare_int) (by kernel_rfl) (by kernel_rfl) (by kernel_rfl) (by kernel_rfl) (cs := []) (by kernel_rfl) loops0) (S_fnR_of fun d K h => (e_cmp_Compare_int d.1 d.2.1 K).trans (v_cmp_Compare_int d.1 d.2.1 K))
end Go.Ev.Seat
end
section
/- cmp_Or_int: its contract. -/
namespace Go.Ev.Seat
open Go.RowKit
set_option maxRecDepth 100000
set_option linter.unusedVariables false
set_option linter.unusedSimpArgs false
def z_cmp_Or_int_3_0 (x2 : Int) (x3 : Int) : St := { tm := ([.x, .x, (.s (.int .i64 x2)), (.s (.int .i64 x3))] ++ List.replicate 14 .x), ob := [], nx := 0, io := [] }
def z_cmp_Or_int_3_1 (x3 : Int) : St := { tm := ([.x, .x, .x, (.s (.int .i64 x3))] ++ List.replicate 14 .x), ob := [], nx := 0, io := [] }
def sh_cmp_Or_int_3_0 : Ss := { tm := (.cons (.x) (.cons (.x) (.cons (.x) (.cons (.int .i64) (.cons (.x) (.cons (.x) (.cons (.l .no intR) (.cons (.int .i64) (.cons (.int .i64) (xsh 9)))))))))), ob := .nil, nx := 0, io := .nil }
def d_cmp_Or_int_3_0 (x3 : Int) (x6 : List Int) (x7 : Int) (x8 : Int) : sh_cmp_Or_int_3_0.T := (((), ((), ((), (x3, ((), ((), (x6, (x7, (x8, xd 9))))))))), (), ())
def s_cmp_Or_int_3_0 (x3 : Int) (x6 : List Int) (x7 : Int) (x8 : Int) : St := { tm := ([.x, .x, .x, (.s (.int .i64 x3)), .x, .x, (.l .no intR x6), (.s (.int .i64 x7)), (.s (.int .i64 x8))] ++ List.replicate 9 .x), ob := [], nx := 0, io := [] }
theorem se_cmp_Or_int_3_0 (x3 : Int) (x6 : List Int) (x7 : Int) (x8 : Int) : sh_cmp_Or_int_3_0.mk' (d_cmp_Or_int_3_0 x3 x6 x7 x8) = (s_cmp_Or_int_3_0 x3 x6 x7 x8) := by kernel_rfl
def w_cmp_Or_int_3_0 (d : sh_cmp_Or_int_3_0.T) (f : Int → (List Int) → Int → Int → Option Ret) : Option Ret := match d with | ((_, (_, (_, (x3, (_, (_, (x6, (x7, (x8, _))))))))), _, _) => f x3 x6 x7 x8
noncomputable def P_cmp_Or_int_3_0 (x3 : Int) (x6 : List Int) (x7 : Int) (x8 : Int) (nx0 : Int → (List Int) → Int → Int → Option Ret) (k0 : Int → Int → Option Ret) (k1 : Int → Option Ret) : Option Ret := (bif (decide (x8 < x7)) then (bif ((decide ((0 : Int) ≤ x8)) && (decide (x8 < (((List.length x6) : Nat) : Int)))) then (bif ((List.getD x6 (Int.toNat x8) (0 : Int)) != x3) then (k0 (List.getD x6 (Int.toNat x8) (0 : Int)) x3) else (nx0 x3 x6 x7 (IntKind.wrap .i64 (x8 + (1 : Int))))) else none) else (k1 x3))
noncomputable def Q_cmp_Or_int_3_0 : Nat → Int → (List Int) → Int → Int → (Int → Int → Option Ret) → (Int → Option Ret) → Option Ret
  | 0, _, _, _, _, _, _ => none
  | m + 1, x3, x6, x7, x8, k0, k1 => P_cmp_Or_int_3_0 x3 x6 x7 x8 (fun x3 x6 x7 x8 => (Q_cmp_Or_int_3_0 m x3 x6 x7 x8 k0 k1)) k0 k1
noncomputable def R_cmp_Or_int_3_0 (x3 : Int) (x6 : List Int) (x7 : Int) (x8 : Int) (k0 : Int → Int → Option Ret) (k1 : Int → Option Ret) : Option Ret := Q_cmp_Or_int_3_0 (x3.toNat + List.length x6 + x7.toNat + x8.toNat + 2) x3 x6 x7 x8 k0 k1
noncomputable def W_cmp_Or_int_3 : LoopFn := (fun (σ : St) (K : Ex → St → Option Ret) => (match sh_cmp_Or_int_3_0.un σ with | some d => w_cmp_Or_int_3_0 d (fun x3 x6 x7 x8 => R_cmp_Or_int_3_0 x3 x6 x7 x8 (fun x2 x3 => (K .ret (z_cmp_Or_int_3_0 x2 x3))) (fun x3 => (K (.ext 0) (z_cmp_Or_int_3_1 x3)))) | none => none))
noncomputable abbrev E_cmp_Or_int : Env := En [] [] [(3, [3,6,7,8], [2,3], W_cmp_Or_int_3)] [] false 0 []
noncomputable abbrev U_cmp_Or_int_3 := rounds (run E_cmp_Or_int (bodyOf F.cmp_Or_int 3)) [3,6,7,8] [2,3]
theorem st_cmp_Or_int_3_0 (m : Nat) (x3 : Int) (x6 : List Int) (x7 : Int) (x8 : Int) (K : Ex → St → Option Ret) : U_cmp_Or_int_3 (m + 1) (s_cmp_Or_int_3_0 x3 x6 x7 x8) K = P_cmp_Or_int_3_0 x3 x6 x7 x8 (fun x3 x6 x7 x8 => (U_cmp_Or_int_3 m (s_cmp_Or_int_3_0 x3 x6 x7 x8) K)) (fun x2 x3 => (K .ret (z_cmp_Or_int_3_0 x2 x3))) (fun x3 => (K (.ext 0) (z_cmp_Or_int_3_1 x3))) := by kernel_rfl
theorem q_cmp_Or_int_3 (K : Ex → St → Option Ret) : ∀ m : Nat, (∀ (x3 : Int) (x6 : List Int) (x7 : Int) (x8 : Int), U_cmp_Or_int_3 m (s_cmp_Or_int_3_0 x3 x6 x7 x8) K = Q_cmp_Or_int_3_0 m x3 x6 x7 x8 (fun x2 x3 => (K .ret (z_cmp_Or_int_3_0 x2 x3))) (fun x3 => (K (.ext 0) (z_cmp_Or_int_3_1 x3))))
  | 0 => (fun _ _ _ _ => rfl)
  | m + 1 => (fun x3 x6 x7 x8 => (by rw [st_cmp_Or_int_3_0, show (fun x3 x6 x7 x8 => (U_cmp_Or_int_3 m (s_cmp_Or_int_3_0 x3 x6 x7 x8) K)) = (fun x3 x6 x7 x8 => (Q_cmp_Or_int_3_0 m x3 x6 x7 x8 (fun x2 x3 => (K .ret (z_cmp_Or_int_3_0 x2 x3))) (fun x3 => (K (.ext 0) (z_cmp_Or_int_3_1 x3))))) from funext fun x3 => funext fun x6 => funext fun x7 => funext fun x8 => (q_cmp_Or_int_3 K m) x3 x6 x7 x8]; rfl))
theorem loopK_cmp_Or_int_3 : LoopOk E_cmp_Or_int (bodyOf F.cmp_Or_int 3) := by
  refine loopW_ok (n := 3) (F := W_cmp_Or_int_3) (by kernel_rfl) rfl (li := [3,6,7,8]) (lo := [2,3]) rfl (fun σ K r hr => ?_)
  unfold W_cmp_Or_int_3 at hr
  split at hr
  · rename_i d hd
    rw [Ss.un_mk hd]
    exact ⟨_, ((congrArg (fun z => U_cmp_Or_int_3 _ z K) (se_cmp_Or_int_3_0 _ _ _ _)).trans ((q_cmp_Or_int_3 K _) _ _ _ _)).trans hr⟩
  · cases hr
noncomputable def T_cmp_Or_int (l : List Int) (K : Ret → Option Ret) : Option Ret := (R_cmp_Or_int_3_0 (0 : Int) l (((List.length l) : Nat) : Int) (0 : Int) (fun y0 y1 => K ((.s (.int .i64 y0)), [])) (fun y2 => K ((.s (.int .i64 y2)), [])))
theorem e_cmp_Or_int (l : List Int) (K : Ret → Option Ret) : evF E_cmp_Or_int true F.cmp_Or_int [.l .no intR l] K = T_cmp_Or_int l K := by kernel_rfl
def S_cmp_Or_int : Sm := S_fnR [.l intR] (fun d => Nat.ble d.1.length 1048576) (fun d => (.s (.int .i64 (orD d.1)), []))
theorem v_cmp_Or_int (l : List Int) (h : (Nat.ble l.length 1048576) = true) (K : Ret → Option Ret) : T_cmp_Or_int l K = K (.s (.int .i64 (orD l)), []) := by
  have hl := Nat.le_of_ble_eq_true h
  unfold T_cmp_Or_int orD
  have q : ∀ (m i : Nat), i ≤ l.length → l.length - i < m → Q_cmp_Or_int_3_0 m 0 l ((l.length : Nat) : Int) ((i : Nat) : Int) (fun y0 y1 => K ((.s (.int .i64 y0)), [])) (fun y2 => K ((.s (.int .i64 y2)), [])) = K ((.s (.int .i64 (((l.drop i).find? (fun c => c != 0)).getD 0))), []) := by
    intro m
    induction m with
    | zero => intro i _ hm; omega
    | succ m ih =>
      intro i hi hm
      show P_cmp_Or_int_3_0 0 l _ ((i : Nat) : Int) _ _ _ = _
      unfold P_cmp_Or_int_3_0
      by_cases hlt : i < l.length
      · rw [decide_eq_true (show ((i : Nat) : Int) < ((l.length : Nat) : Int) by omega), decide_eq_true (show (0 : Int) ≤ ((i : Nat) : Int) by omega), Int.toNat_natCast, wrap_nat (by omega), List.drop_eq_getElem_cons hlt, ← getD_lt 0 hlt, List.find?_cons]
        dsimp only
        rw [ih (i + 1) (by omega) (by omega)]
        cases ((l.getD i 0) != 0) <;> rfl
      · obtain rfl : i = l.length := by omega
        rw [decide_eq_false (show ¬ ((l.length : Nat) : Int) < ((l.length : Nat) : Int) by omega), List.drop_length]; rfl
  have := q ((0 : Int).toNat + List.length l + ((l.length : Nat) : Int).toNat + (0 : Int).toNat + 2) 0 (by omega) (by omega)
  rw [List.drop_zero] at this
  exact this
theorem okS_cmp_Or_int : OkFn prog I N.cmp_Or_int true S_cmp_Or_int := okN (ok_fn mem0 (l := []) (p := []) (ls := [(3, [3,6,7,8], [2,3], W_cmp_Or_int_3)]) (lend := []) (focus := false) (fuel := 0) (give := []) (fn := F.cmp_Or_int) (by kernel_rfl) (by kernel_rfl) (by kernel_rfl) (by kernel_rfl) (cs := [bodyOf F.cmp_Or_int 3]) (by kernel_rfl) (loopsc loopK_cmp_Or_int_3 loops0)) (S_fnR_of fun d K h => (e_cmp_Or_int d.1 K).trans (v_cmp_Or_int d.1 h K))
end Go.Ev.Seat
end
section
/- i_compareLeases: its contract. -/
namespace Go.Ev.Seat
open Go.RowKit
set_option maxRecDepth 100000
set_option linter.unusedVariables false
set_option linter.unusedSimpArgs false
noncomputable abbrev pl_i_compareLeases : List (Nat × Plan × List Nat) := [(1, takeB [0, 1, 2, 3, 5, 6, 7, 8, 10, 11, 12, 13] (.fork (.one 4 (.fork (.one 9 (.fork (.one 14 (.fork (.one 15 (.fork (.one 16 (takes [17]))))))))))), [])]
noncomputable abbrev ls_i_compareLeases : List (Nat × Bool × Sm) := [(N.cmp_Compare_int, true, S_cmp_Compare_int), (N.cmp_Or_int, true, S_cmp_Or_int)]
noncomputable abbrev E_i_compareLeases : Env := En ls_i_compareLeases pl_i_compareLeases [] [] false 0 []
noncomputable def T_i_compareLeases (a : T_Lease) (b : T_Lease) (K : Ret → Option Ret) : Option Ret := K ((.s (.int .i64 (orD ((sgn a.1 b.1) :: ((sgn a.2.1 b.2.1) :: ((sgn a.2.2.1 b.2.2.1) :: ([] : List Int))))))), [])
theorem e_i_compareLeases (a : T_Lease) (b : T_Lease) (K : Ret → Option Ret) : evF E_i_compareLeases true F.i_compareLeases [.a (leaseR.cells .no a), .a (leaseR.cells .no b)] K = T_i_compareLeases a b K := by kernel_rfl
def S_i_compareLeases : Sm := S_fnR [.a leaseR, .a leaseR] (fun d => true) (fun d => (.s (.int .i64 (cmpD d.1 d.2.1)), []))
theorem v_i_compareLeases (a : T_Lease) (b : T_Lease) (K : Ret → Option Ret) : T_i_compareLeases a b K = K (.s (.int .i64 (cmpD a b)), []) := by
  unfold T_i_compareLeases orD cmpD
  simp only [List.find?_cons, List.find?_nil]
  cases (sgn a.1 b.1 != 0)
  · cases (sgn a.2.1 b.2.1 != 0)
    · cases h3 : (sgn a.2.2.1 b.2.2.1 != 0)
      · have : sgn a.2.2.1 b.2.2.1 = 0 := by simpa using h3
        rw [this]; rfl
      · rfl
    · rfl
  · rfl
theorem okS_i_compareLeases : OkFn prog I N.i_compareLeases true S_i_compareLeases := okN (ok_fn (memc okS_cmp_Compare_int (memc okS_cmp_Or_int mem0)) (l := ls_i_compareLeases) (p := pl_i_compareLeases) (ls := []) (lend := []) (focus := false) (fuel := 0) (give := []) (fn := F.i_compareLeases) (by kernel_rfl) (by kernel_rfl) (by kernel_rfl) (by kernel_rfl) (cs := []) (by kernel_rfl) loops0) (S_fnR_of fun d K h => (e_i_compareLeases d.1 d.2.1 K).trans (v_i_compareLeases d.1 d.2.1 K))
end Go.Ev.Seat
end
section
/- i_areLeases: its contract. -/
namespace Go.Ev.Seat
open Go.RowKit
set_option maxRecDepth 100000
set_option linter.unusedVariables false
set_option linter.unusedSimpArgs false
def z_i_areLeases_2_0 (x0 : List T_Lease) (x2 : Bool) : St := { tm := ([(.l .no leaseR x0), .x, (.s (.bool x2))] ++ List.replicate 30 .x), ob := [], nx := 0, io := [] }
def z_i_areLeases_2_1 (x0 : List T_Lease) : St := { tm := ([(.l .no leaseR x0)] ++ List.replicate 32 .x), ob := [], nx := 0, io := [] }
def sh_i_areLeases_2_0 : Ss := { tm := (.cons (.l .no leaseR) (.cons (.x) (.cons (.x) (.cons (.x) (.cons (.x) (.cons (.l .no leaseR) (.cons (.int .i64) (.cons (.int .i64) (xsh 25))))))))), ob := .nil, nx := 0, io := .nil }
def d_i_areLeases_2_0 (x0 : List T_Lease) (x5 : List T_Lease) (x6 : Int) (x7 : Int) : sh_i_areLeases_2_0.T := ((x0, ((), ((), ((), ((), (x5, (x6, (x7, xd 25)))))))), (), ())
def s_i_areLeases_2_0 (x0 : List T_Lease) (x5 : List T_Lease) (x6 : Int) (x7 : Int) : St := { tm := ([(.l .no leaseR x0), .x, .x, .x, .x, (.l .no leaseR x5), (.s (.int .i64 x6)), (.s (.int .i64 x7))] ++ List.replicate 25 .x), ob := [], nx := 0, io := [] }
theorem se_i_areLeases_2_0 (x0 : List T_Lease) (x5 : List T_Lease) (x6 : Int) (x7 : Int) : sh_i_areLeases_2_0.mk' (d_i_areLeases_2_0 x0 x5 x6 x7) = (s_i_areLeases_2_0 x0 x5 x6 x7) := by kernel_rfl
def w_i_areLeases_2_0 (d : sh_i_areLeases_2_0.T) (f : (List T_Lease) → (List T_Lease) → Int → Int → Option Ret) : Option Ret := match d with | ((x0, (_, (_, (_, (_, (x5, (x6, (x7, _)))))))), _, _) => f x0 x5 x6 x7
noncomputable def P_i_areLeases_2_0 (x0 : List T_Lease) (x5 : List T_Lease) (x6 : Int) (x7 : Int) (nx0 : (List T_Lease) → (List T_Lease) → Int → Int → Option Ret) (k0 : (List T_Lease) → Bool → Option Ret) (k1 : (List T_Lease) → Option Ret) : Option Ret := (bif (decide (x7 < x6)) then (bif ((decide ((0 : Int) ≤ x7)) && (decide (x7 < (((List.length x5) : Nat) : Int)))) then (bif (!(leaseOkD (List.getD x5 (Int.toNat x7) (leaseR.dflt)))) then (k0 x0 false) else (bif (decide (x7 > (0 : Int))) then (bif ((decide ((0 : Int) ≤ (IntKind.wrap .i64 (x7 - (1 : Int))))) && (decide ((IntKind.wrap .i64 (x7 - (1 : Int))) < (((List.length x0) : Nat) : Int)))) then (bif (decide ((cmpD (List.getD x0 (Int.toNat (IntKind.wrap .i64 (x7 - (1 : Int)))) (leaseR.dflt)) (List.getD x5 (Int.toNat x7) (leaseR.dflt))) ≥ (0 : Int))) then (k0 x0 false) else (nx0 x0 x5 x6 (IntKind.wrap .i64 (x7 + (1 : Int))))) else none) else (nx0 x0 x5 x6 (IntKind.wrap .i64 (x7 + (1 : Int)))))) else none) else (k1 x0))
noncomputable def Q_i_areLeases_2_0 : Nat → (List T_Lease) → (List T_Lease) → Int → Int → ((List T_Lease) → Bool → Option Ret) → ((List T_Lease) → Option Ret) → Option Ret
  | 0, _, _, _, _, _, _ => none
  | m + 1, x0, x5, x6, x7, k0, k1 => P_i_areLeases_2_0 x0 x5 x6 x7 (fun x0 x5 x6 x7 => (Q_i_areLeases_2_0 m x0 x5 x6 x7 k0 k1)) k0 k1
noncomputable def R_i_areLeases_2_0 (x0 : List T_Lease) (x5 : List T_Lease) (x6 : Int) (x7 : Int) (k0 : (List T_Lease) → Bool → Option Ret) (k1 : (List T_Lease) → Option Ret) : Option Ret := Q_i_areLeases_2_0 (List.length x0 + List.length x5 + x6.toNat + x7.toNat + 2) x0 x5 x6 x7 k0 k1
noncomputable def W_i_areLeases_2 : LoopFn := (fun (σ : St) (K : Ex → St → Option Ret) => (match sh_i_areLeases_2_0.un σ with | some d => w_i_areLeases_2_0 d (fun x0 x5 x6 x7 => R_i_areLeases_2_0 x0 x5 x6 x7 (fun x0 x2 => (K .ret (z_i_areLeases_2_0 x0 x2))) (fun x0 => (K (.ext 0) (z_i_areLeases_2_1 x0)))) | none => none))
noncomputable abbrev pl_i_areLeases : List (Nat × Plan × List Nat) := [(4, takeB [0] (.fork (.one 1 (takeB [2, 3, 4, 5, 6, 7, 8, 9, 10, 11, 12] (.fork (.one 13 (takes [14, 15, 16])))))), [])]
noncomputable abbrev ls_i_areLeases : List (Nat × Bool × Sm) := [(N.i_isLease, true, S_i_isLease), (N.i_compareLeases, true, S_i_compareLeases)]
noncomputable abbrev E_i_areLeases : Env := En ls_i_areLeases pl_i_areLeases [(2, [0,5,6,7], [0,2], W_i_areLeases_2)] [] false 0 []
noncomputable abbrev U_i_areLeases_2 := rounds (run E_i_areLeases (bodyOf F.i_areLeases 2)) [0,5,6,7] [0,2]
theorem st_i_areLeases_2_0 (m : Nat) (x0 : List T_Lease) (x5 : List T_Lease) (x6 : Int) (x7 : Int) (K : Ex → St → Option Ret) : U_i_areLeases_2 (m + 1) (s_i_areLeases_2_0 x0 x5 x6 x7) K = P_i_areLeases_2_0 x0 x5 x6 x7 (fun x0 x5 x6 x7 => (U_i_areLeases_2 m (s_i_areLeases_2_0 x0 x5 x6 x7) K)) (fun x0 x2 => (K .ret (z_i_areLeases_2_0 x0 x2))) (fun x0 => (K (.ext 0) (z_i_areLeases_2_1 x0))) := by kernel_rfl
theorem q_i_areLeases_2 (K : Ex → St → Option Ret) : ∀ m : Nat, (∀ (x0 : List T_Lease) (x5 : List T_Lease) (x6 : Int) (x7 : Int), U_i_areLeases_2 m (s_i_areLeases_2_0 x0 x5 x6 x7) K = Q_i_areLeases_2_0 m x0 x5 x6 x7 (fun x0 x2 => (K .ret (z_i_areLeases_2_0 x0 x2))) (fun x0 => (K (.ext 0) (z_i_areLeases_2_1 x0))))
  | 0 => (fun _ _ _ _ => rfl)
  | m + 1 => (fun x0 x5 x6 x7 => (by rw [st_i_areLeases_2_0, show (fun x0 x5 x6 x7 => (U_i_areLeases_2 m (s_i_areLeases_2_0 x0 x5 x6 x7) K)) = (fun x0 x5 x6 x7 => (Q_i_areLeases_2_0 m x0 x5 x6 x7 (fun x0 x2 => (K .ret (z_i_areLeases_2_0 x0 x2))) (fun x0 => (K (.ext 0) (z_i_areLeases_2_1 x0))))) from funext fun x0 => funext fun x5 => funext fun x6 => funext fun x7 => (q_i_areLeases_2 K m) x0 x5 x6 x7]; rfl))
theorem loopK_i_areLeases_2 : LoopOk E_i_areLeases (bodyOf F.i_areLeases 2) := by
  refine loopW_ok (n := 2) (F := W_i_areLeases_2) (by kernel_rfl) rfl (li := [0,5,6,7]) (lo := [0,2]) rfl (fun σ K r hr => ?_)
  unfold W_i_areLeases_2 at hr
  split at hr
  · rename_i d hd
    rw [Ss.un_mk hd]
    exact ⟨_, ((congrArg (fun z => U_i_areLeases_2 _ z K) (se_i_areLeases_2_0 _ _ _ _)).trans ((q_i_areLeases_2 K _) _ _ _ _)).trans hr⟩
  · cases hr
noncomputable def T_i_areLeases (l : List T_Lease) (K : Ret → Option Ret) : Option Ret := (R_i_areLeases_2_0 l l (((List.length l) : Nat) : Int) (0 : Int) (fun y0 y1 => K ((.s (.bool y1)), [])) (fun y2 => K ((.s (.bool (decide ((((List.length y2) : Nat) : Int) ≤ (12 : Int))))), [])))
theorem e_i_areLeases (l : List T_Lease) (K : Ret → Option Ret) : evF E_i_areLeases true F.i_areLeases [.l .no leaseR l] K = T_i_areLeases l K := by kernel_rfl
def S_i_areLeases : Sm := S_fnR [.l leaseR] (fun d => Nat.ble d.1.length 1048576) (fun d => (bl (leasesOkD d.1), []))
theorem v_i_areLeases (l : List T_Lease) (h : (Nat.ble l.length 1048576) = true) (K : Ret → Option Ret) : T_i_areLeases l K = K (bl (leasesOkD l), []) := by
  have hl := Nat.le_of_ble_eq_true h
  unfold T_i_areLeases leasesOkD
  have q := idx_allN (R := fun m i => Q_i_areLeases_2_0 m l l ((l.length : Nat) : Int) i (fun y0 y1 => K ((.s (.bool y1)), [])) (fun y2 => K ((.s (.bool (decide ((((List.length y2) : Nat) : Int) ≤ (12 : Int))))), []))) (p := leaseAtD l) (n := l.length) (kt := K ((.s (.bool (decide (((l.length : Nat) : Int) ≤ 12)))), [])) (kf := K ((.s (.bool false)), [])) (fun m i hi => by
      show P_i_areLeases_2_0 l l _ ((i : Nat) : Int) _ _ _ = _
      unfold P_i_areLeases_2_0 leaseAtD
      rw [decide_eq_true (show ((i : Nat) : Int) < ((l.length : Nat) : Int) by omega), decide_eq_true (show (0 : Int) ≤ ((i : Nat) : Int) by omega), Int.toNat_natCast, wrap_nat (by omega), show l.getD i leaseR.dflt = l.getD i zeroL from rfl]
      cases i with
      | zero =>
        rw [decide_eq_false (show ¬ ((0 : Nat) : Int) > 0 by omega)]
        cases leaseOkD (l.getD 0 zeroL) <;> rfl
      | succ i =>
        rw [wrap_in (n := ((i + 1 : Nat) : Int) - 1) (by omega) (by omega), decide_eq_true (show ((i + 1 : Nat) : Int) > 0 by omega), show ((i + 1 : Nat) : Int) - 1 = ((i : Nat) : Int) by omega, decide_eq_true (show (0 : Int) ≤ ((i : Nat) : Int) by omega), decide_eq_true (show ((i : Nat) : Int) < ((l.length : Nat) : Int) by omega), Int.toNat_natCast, show i + 1 - 1 = i from rfl, show l.getD i leaseR.dflt = l.getD i zeroL from rfl, cmpD_neg]
        cases leaseOkD (l.getD (i + 1) zeroL) <;> cases lessD (l.getD i zeroL) (l.getD (i + 1) zeroL) <;> rfl) (fun m => by
      show P_i_areLeases_2_0 l l _ ((l.length : Nat) : Int) _ _ _ = _
      unfold P_i_areLeases_2_0
      rw [decide_eq_false (show ¬ ((l.length : Nat) : Int) < ((l.length : Nat) : Int) by omega)]; rfl) (List.length l + List.length l + ((l.length : Nat) : Int).toNat + (0 : Int).toNat + 2) 0 (by omega) (by omega)
  refine Eq.trans q ?_
  rw [Nat.sub_zero]
  show (bif allN l.length (leaseAtD l) then _ else _) = _
  cases allN l.length (leaseAtD l) <;> cases decide (((l.length : Nat) : Int) ≤ 12) <;> rfl
theorem okS_i_areLeases : OkFn prog I N.i_areLeases true S_i_areLeases := okN (ok_fn (memc okS_i_isLease (memc okS_i_compareLeases mem0)) (l := ls_i_areLeases) (p := pl_i_areLeases) (ls := [(2, [0,5,6,7], [0,2], W_i_areLeases_2)]) (lend := []) (focus := false) (fuel := 0) (give := []) (fn := F.i_areLeases) (by kernel_rfl) (by kernel_rfl) (by kernel_rfl) (by kernel_rfl) (cs := [bodyOf F.i_areLeases 2]) (by kernel_rfl) (loopsc loopK_i_areLeases_2 loops0)) (S_fnR_of fun d K h => (e_i_areLeases d.1 K).trans (v_i_areLeases d.1 h K))
end Go.Ev.Seat
end
section
/- i_Lease_isActive: its contract. -/
namespace Go.Ev.Seat
open Go.RowKit
set_option maxRecDepth 100000
set_option linter.unusedVariables false
set_option linter.unusedSimpArgs false
noncomputable abbrev E_i_Lease_isActive : Env := En [] [] [] [] false 0 []
noncomputable def T_i_Lease_isActive (l : T_Lease) (n : Int) (K : Ret → Option Ret) : Option Ret := K ((.s (.bool (decide (l.2.2.2 > n)))), [])
theorem e_i_Lease_isActive (l : T_Lease) (n : Int) (K : Ret → Option Ret) : evF E_i_Lease_isActive true F.i_Lease_isActive [.a (leaseR.cells .no l), .s (.int .i64 n)] K = T_i_Lease_isActive l n K := by kernel_rfl
def S_i_Lease_isActive : Sm := S_fnR [.a leaseR, .i] (fun d => true) (fun d => (bl (decide (d.1.2.2.2 > d.2.1)), []))
theorem v_i_Lease_isActive (l : T_Lease) (n : Int) (K : Ret → Option Ret) : T_i_Lease_isActive l n K = K (bl (decide (l.2.2.2 > n)), []) := rfl
theorem okS_i_Lease_isActive : OkFn prog I N.i_Lease_isActive true S_i_Lease_isActive := okN (ok_fn mem0 (l := []) (p := []) (ls := []) (lend := []) (focus := false) (fuel := 0) (give := []) (fn := F.i_Lease_isActive) (by kernel_rfl) (by kernel_rfl) (by kernel_rfl) (by kernel_rfl) (cs := []) (by kernel_rfl) loops0) (S_fnR_of fun d K h => (e_i_Lease_isActive d.1 d.2.1 K).trans (v_i_Lease_isActive d.1 d.2.1 K))
end Go.Ev.Seat
end
section
/- i_Edit_isSmall: its contract. -/
namespace Go.Ev.Seat
open Go.RowKit
set_option maxRecDepth 100000
set_option linter.unusedVariables false
set_option linter.unusedSimpArgs false
noncomputable abbrev ls_i_Edit_isSmall : List (Nat × Bool × Sm) := [(N.i_in, true, S_i_in)]
noncomputable abbrev E_i_Edit_isSmall : Env := En ls_i_Edit_isSmall [] [] [] false 0 []
noncomputable def T_i_Edit_isSmall (e : T_Edit) (K : Ret → Option Ret) : Option Ret := (bif ((decide ((0 : Int) ≤ e.1)) && (decide (e.1 ≤ (400 : Int)))) then (bif ((decide ((0 : Int) ≤ e.2.1)) && (decide (e.2.1 ≤ (400 : Int)))) then K ((.s (.bool (decide ((((List.length e.2.2) : Nat) : Int) ≤ (400 : Int))))), []) else K ((.s (.bool false)), [])) else K ((.s (.bool false)), []))
theorem e_i_Edit_isSmall (e : T_Edit) (K : Ret → Option Ret) : evF E_i_Edit_isSmall true F.i_Edit_isSmall [.a (editR.cells .no e)] K = T_i_Edit_isSmall e K := by kernel_rfl
def S_i_Edit_isSmall : Sm := S_fnR [.a editR] (fun d => true) (fun d => (bl (smallE d.1), []))
theorem v_i_Edit_isSmall (e : T_Edit) (K : Ret → Option Ret) : T_i_Edit_isSmall e K = K (bl (smallE e), []) := by
  unfold T_i_Edit_isSmall smallE in400
  cases (decide (0 ≤ e.1) && decide (e.1 ≤ 400)) <;> cases (decide (0 ≤ e.2.1) && decide (e.2.1 ≤ 400)) <;> rfl
theorem okS_i_Edit_isSmall : OkFn prog I N.i_Edit_isSmall true S_i_Edit_isSmall := okN (ok_fn (memc okS_i_in mem0) (l := ls_i_Edit_isSmall) (p := []) (ls := []) (lend := []) (focus := false) (fuel := 0) (give := []) (fn := F.i_Edit_isSmall) (by kernel_rfl) (by kernel_rfl) (by kernel_rfl) (by kernel_rfl) (cs := []) (by kernel_rfl) loops0) (S_fnR_of fun d K h => (e_i_Edit_isSmall d.1 K).trans (v_i_Edit_isSmall d.1 K))
end Go.Ev.Seat
end
section
/- i_isPos: its contract. -/
namespace Go.Ev.Seat
open Go.RowKit
set_option maxRecDepth 100000
set_option linter.unusedVariables false
set_option linter.unusedSimpArgs false
noncomputable abbrev ls_i_isPos : List (Nat × Bool × Sm) := [(N.i_in, true, S_i_in)]
noncomputable abbrev E_i_isPos : Env := En ls_i_isPos [] [] [] false 0 []
noncomputable def T_i_isPos (p : Int) (K : Ret → Option Ret) : Option Ret := K ((.s (.bool ((decide ((0 : Int) ≤ p)) && (decide (p ≤ (800 : Int)))))), [])
theorem e_i_isPos (p : Int) (K : Ret → Option Ret) : evF E_i_isPos true F.i_isPos [.s (.int .i64 p)] K = T_i_isPos p K := by kernel_rfl
def S_i_isPos : Sm := S_fnR [.i] (fun d => true) (fun d => (bl (placeB d.1), []))
theorem v_i_isPos (p : Int) (K : Ret → Option Ret) : T_i_isPos p K = K (bl (placeB p), []) := rfl
theorem okS_i_isPos : OkFn prog I N.i_isPos true S_i_isPos := okN (ok_fn (memc okS_i_in mem0) (l := ls_i_isPos) (p := []) (ls := []) (lend := []) (focus := false) (fuel := 0) (give := []) (fn := F.i_isPos) (by kernel_rfl) (by kernel_rfl) (by kernel_rfl) (by kernel_rfl) (cs := []) (by kernel_rfl) loops0) (S_fnR_of fun d K h => (e_i_isPos d.1 K).trans (v_i_isPos d.1 K))
end Go.Ev.Seat
end
section
/- i_Edit_hits: its contract. -/
namespace Go.Ev.Seat
open Go.RowKit
set_option maxRecDepth 100000
set_option linter.unusedVariables false
set_option linter.unusedSimpArgs false
noncomputable abbrev E_i_Edit_hits : Env := En [] [] [] [] false 0 []
noncomputable def T_i_Edit_hits (e : T_Edit) (i : Int) (j : Int) (K : Ret → Option Ret) : Option Ret := (bif (e.2.1 == (0 : Int)) then (bif (decide (i < e.1)) then K ((.s (.bool (decide (e.1 < j)))), []) else K ((.s (.bool false)), [])) else (bif (decide (e.1 < j)) then K ((.s (.bool (decide ((IntKind.wrap .i64 (e.1 + e.2.1)) > i)))), []) else K ((.s (.bool false)), [])))
theorem e_i_Edit_hits (e : T_Edit) (i : Int) (j : Int) (K : Ret → Option Ret) : evF E_i_Edit_hits true F.i_Edit_hits [.a (editR.cells .no e), .s (.int .i64 i), .s (.int .i64 j)] K = T_i_Edit_hits e i j K := by kernel_rfl
def S_i_Edit_hits : Sm := S_fnR [.a editR, .i, .i] (fun d => smallE d.1) (fun d => (bl (hitE d.1 d.2.1 d.2.2.1), []))
theorem v_i_Edit_hits (e : T_Edit) (i : Int) (j : Int) (h : (smallE e) = true) (K : Ret → Option Ret) : T_i_Edit_hits e i j K = K (bl (hitE e i j), []) := by
  unfold T_i_Edit_hits hitE
  have h := smallE_iff.1 h
  rw [wrap_in (n := e.1 + e.2.1) (by omega) (by omega)]
  cases (e.2.1 == 0)
  · cases decide (e.1 < j) <;> rfl
  · cases decide (i < e.1) <;> rfl
theorem okS_i_Edit_hits : OkFn prog I N.i_Edit_hits true S_i_Edit_hits := okN (ok_fn mem0 (l := []) (p := []) (ls := []) (lend := []) (focus := false) (fuel := 0) (give := []) (fn := F.i_Edit_hits) (by kernel_rfl) (by kernel_rfl) (by kernel_rfl) (by kernel_rfl) (cs := []) (by kernel_rfl) loops0) (S_fnR_of fun d K h => (e_i_Edit_hits d.1 d.2.1 d.2.2.1 K).trans (v_i_Edit_hits d.1 d.2.1 d.2.2.1 h K))
end Go.Ev.Seat
end
section
/- i_EditHits: its contract. -/
namespace Go.Ev.Seat
open Go.RowKit
set_option maxRecDepth 100000
set_option linter.unusedVariables false
set_option linter.unusedSimpArgs false
noncomputable abbrev ls_i_EditHits : List (Nat × Bool × Sm) := [(N.i_Edit_isSmall, true, S_i_Edit_isSmall), (N.i_isPos, true, S_i_isPos), (N.i_Edit_hits, true, S_i_Edit_hits)]
noncomputable abbrev E_i_EditHits : Env := En ls_i_EditHits [] [] [] false 0 []
noncomputable def T_i_EditHits (e : T_Edit) (i : Int) (j : Int) (K : Ret → Option Ret) : Option Ret := (bif (smallE e) then (bif (placeB i) then (bif (placeB j) then (bif (decide (i < j)) then (bif (smallE e) then K ((.s (.bool (hitE e i j))), []) else none) else K ((.s (.bool false)), [])) else K ((.s (.bool false)), [])) else K ((.s (.bool false)), [])) else K ((.s (.bool false)), []))
theorem e_i_EditHits (e : T_Edit) (i : Int) (j : Int) (K : Ret → Option Ret) : evF E_i_EditHits true F.i_EditHits [.a (editR.cells .no e), .s (.int .i64 i), .s (.int .i64 j)] K = T_i_EditHits e i j K := by kernel_rfl
def S_i_EditHits : Sm := S_fnR [.a editR, .i, .i] (fun d => true) (fun d => (bl (hitsD d.1 d.2.1 d.2.2.1), []))
theorem v_i_EditHits (e : T_Edit) (i : Int) (j : Int) (K : Ret → Option Ret) : T_i_EditHits e i j K = K (bl (hitsD e i j), []) := by
  unfold T_i_EditHits hitsD
  cases smallE e
  · rfl
  cases placeB i
  · rfl
  cases placeB j
  · rfl
  cases decide (i < j) <;> rfl
theorem okS_i_EditHits : OkFn prog I N.i_EditHits true S_i_EditHits := okN (ok_fn (memc okS_i_Edit_isSmall (memc okS_i_isPos (memc okS_i_Edit_hits mem0))) (l := ls_i_EditHits) (p := []) (ls := []) (lend := []) (focus := false) (fuel := 0) (give := []) (fn := F.i_EditHits) (by kernel_rfl) (by kernel_rfl) (by kernel_rfl) (by kernel_rfl) (cs := []) (by kernel_rfl) loops0) (S_fnR_of fun d K h => (e_i_EditHits d.1 d.2.1 d.2.2.1 K).trans (v_i_EditHits d.1 d.2.1 d.2.2.1 K))
end Go.Ev.Seat
end
section
/- i_leaseBars_1: its contract. -/
namespace Go.Ev.Seat
open Go.RowKit
set_option maxRecDepth 100000
set_option linter.unusedVariables false
set_option linter.unusedSimpArgs false
noncomputable abbrev ls_i_leaseBars_1 : List (Nat × Bool × Sm) := [(N.i_Lease_isActive, true, S_i_Lease_isActive), (N.i_EditHits, true, S_i_EditHits)]
noncomputable abbrev E_i_leaseBars_1 : Env := En ls_i_leaseBars_1 [] [] [] false 0 []
noncomputable def T_i_leaseBars_1 (l : T_Lease) (s : Int) (n : Int) (e0 : Int) (e1 : Int) (e2 : List Int) (K : Ret → Option Ret) : Option Ret := (bif (l.2.2.1 != s) then (bif (decide (l.2.2.2 > n)) then K ((.s (.bool (hitsD (e0, (e1, e2)) l.1 l.2.1))), []) else K ((.s (.bool false)), [])) else K ((.s (.bool false)), []))
theorem e_i_leaseBars_1 (l : T_Lease) (s : Int) (n : Int) (e0 : Int) (e1 : Int) (e2 : List Int) (K : Ret → Option Ret) : evF E_i_leaseBars_1 true F.i_leaseBars_1 [.a (leaseR.cells .no l), .qb [.s (.int .i64 s)] 0, .qb [.s (.int .i64 n)] 0, .qb [.s (.int .i64 e0), .s (.int .i64 e1), .l .no bytesR e2] 0] K = T_i_leaseBars_1 l s n e0 e1 e2 K := by kernel_rfl
def S_i_leaseBars_1 : Sm := S_fnR [.a leaseR, .sh (.qb (.cons (.int .i64) .nil) 0), .sh (.qb (.cons (.int .i64) .nil) 0), .sh (.qb (.cons (.int .i64) (.cons (.int .i64) (.cons (.l .no bytesR) .nil))) 0)] (fun d => true) (fun d => (bl (barD d.2.1.1 (d.2.2.2.1.1, (d.2.2.2.1.2.1, d.2.2.2.1.2.2.1)) d.2.2.1.1 d.1), []))
theorem v_i_leaseBars_1 (l : T_Lease) (s : Int) (n : Int) (e0 : Int) (e1 : Int) (e2 : List Int) (K : Ret → Option Ret) : T_i_leaseBars_1 l s n e0 e1 e2 K = K (bl (barD s (e0, (e1, e2)) n l), []) := by
  unfold T_i_leaseBars_1 barD
  cases (l.2.2.1 != s)
  · rfl
  cases decide (l.2.2.2 > n) <;> rfl
theorem okS_i_leaseBars_1 : OkFn prog I N.i_leaseBars_1 true S_i_leaseBars_1 := okN (ok_fn (memc okS_i_Lease_isActive (memc okS_i_EditHits mem0)) (l := ls_i_leaseBars_1) (p := []) (ls := []) (lend := []) (focus := false) (fuel := 0) (give := []) (fn := F.i_leaseBars_1) (by kernel_rfl) (by kernel_rfl) (by kernel_rfl) (by kernel_rfl) (cs := []) (by kernel_rfl) loops0) (S_fnR_of fun d K h => (e_i_leaseBars_1 d.1 d.2.1.1 d.2.2.1.1 d.2.2.2.1.1 d.2.2.2.1.2.1 d.2.2.2.1.2.2.1 K).trans (v_i_leaseBars_1 d.1 d.2.1.1 d.2.2.1.1 d.2.2.2.1.1 d.2.2.2.1.2.1 d.2.2.2.1.2.2.1 K))
end Go.Ev.Seat
end
