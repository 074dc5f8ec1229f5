/- RuneBack: parts Fsl01Cursize Fsl01Curtext Fsl01Curonce Fsl01CurbadText Fsl01Curplace FsDrawRuneAt Fsl01Rune FsRuneSize PUtf4 FlFnRuneBack EvLRuneBack EvKind EvOne EvTab, packed by squash.py. -/
import GoSem.ClaimWide
import Derived.Lib.LaidTab
import GoSem.PinnedTables
import Derived.Test.YtinmmaccoenphaaDoorZRuneBack0
import Derived.Test.YtinmmaccoenphaaDoorZRuneBack1
import Derived.Test.YtinmmaccoenphaaDoorZRuneBack2
import Derived.Test.YtinmmaccoenphaaDoorZRuneBack3
set_option linter.unusedVariables false
set_option linter.unusedSimpArgs false
section
/- s_l01Cur_size: its contract. -/
namespace Go.Ev.Seat
open Go.RowKit
set_option maxRecDepth 100000
set_option linter.unusedVariables false
set_option linter.unusedSimpArgs false
noncomputable abbrev ls_s_l01Cur_size : List (Nat × Bool × Sm) := [(N.s_l01Cur_pick, false, (SB_s_l01Cur_pick B_s_l01Cur_pick))]
noncomputable abbrev E_s_l01Cur_size : Env := En ls_s_l01Cur_size [] [] [] false 0 []
noncomputable def T_s_l01Cur_size (cc : List Int) (ca : Int) (cs : Int) (n : Int) (K : Ret → Option Ret) : Option Ret := (B_s_l01Cur_pick cc ca cs (IntKind.wrap .i64 ((if (IntKind.wrap .i64 ((1 : Int) + (IntKind.wrap .i64 (Int.tdiv (((List.length cc) : Nat) : Int) (8 : Int))))) < n then (IntKind.wrap .i64 ((1 : Int) + (IntKind.wrap .i64 (Int.tdiv (((List.length cc) : Nat) : Int) (8 : Int))))) else n) + (1 : Int))) (fun y0 y1 y2 => K ((.s (.int .i64 y0)), [(.io [(.l .no bytesR cc), (.s (.int .i64 y1)), (.s (.int .i64 y2))])])))
theorem e_s_l01Cur_size (cc : List Int) (ca : Int) (cs : Int) (n : Int) (K : Ret → Option Ret) : evF E_s_l01Cur_size false F.s_l01Cur_size [.io [.l .no bytesR cc, .s (.int .i64 ca), .s (.int .i64 cs)], .s (.int .i64 n)] K = T_s_l01Cur_size cc ca cs n K := by kernel_rfl
theorem x_s_l01Cur_size (cc : List Int) (ca : Int) (cs : Int) (n : Int) (h : (curB 3000000000000000000 cc ca cs && (decide (0 ≤ n) && decide (n ≤ 1000000))) = true) : ∃ (y : Int) (a : Int) (s : Int), ((0 ≤ y ∧ y ≤ n ∧ y ≤ 200000) ∧ 0 ≤ a ∧ a ≤ ca + 1 ∧ 0 ≤ s ∧ s < 65536) ∧ ∀ K : Ret → Option Ret, T_s_l01Cur_size cc ca cs n K = K (.s (.int .i64 y), [.io [.l .no bytesR cc, .s (.int .i64 a), .s (.int .i64 s)]]) := by
  suffices hd : Dr (fun r : Ret => ∃ (y : Int) (a : Int) (s : Int), ((0 ≤ y ∧ y ≤ n ∧ y ≤ 200000) ∧ 0 ≤ a ∧ a ≤ ca + 1 ∧ 0 ≤ s ∧ s < 65536) ∧ r = (.s (.int .i64 y), [.io [.l .no bytesR cc, .s (.int .i64 a), .s (.int .i64 s)]])) (fun K : Ret → Option Ret => T_s_l01Cur_size cc ca cs n K) by
    obtain ⟨_, ⟨y, a, s, hp, rfl⟩, hk⟩ := hd
    exact ⟨y, a, s, hp, hk⟩
  obtain ⟨h, hpre⟩ := (Bool.and_eq_true _ _).mp h
  obtain ⟨hf, h2, h3, h4, h5⟩ := curB_iff.1 h
  have hl := fitB_len hf
  simp only [Bool.and_eq_true, decide_eq_true_eq] at hpre
  have e8 : Int.tdiv (((List.length cc) : Nat) : Int) 8 = ((cc.length : Nat) : Int) / 8 := Int.tdiv_eq_ediv_of_nonneg (by omega)
  unfold T_s_l01Cur_size
  rw [e8, wrap_in (n := ((cc.length : Nat) : Int) / 8) (by omega) (by omega), wrap_in (n := 1 + ((cc.length : Nat) : Int) / 8) (by omega) (by omega)]
  obtain ⟨m, hm, hm0, hm1, hm2⟩ : ∃ m : Int, (if 1 + ((cc.length : Nat) : Int) / 8 < n then 1 + ((cc.length : Nat) : Int) / 8 else n) = m ∧ 0 ≤ m ∧ m ≤ n ∧ m ≤ 1 + ((cc.length : Nat) : Int) / 8 := by
    by_cases q : 1 + ((cc.length : Nat) : Int) / 8 < n
    · rw [if_pos q]; exact ⟨_, rfl, by omega, by omega, by omega⟩
    · rw [if_neg q]; exact ⟨_, rfl, by omega, by omega, by omega⟩
  rw [hm, wrap_in (n := m + 1) (by omega) (by omega)]
  repeat' first
    | exact Dr.leaf ⟨_, _, _, ⟨by omega, by omega, by omega, by omega, by omega⟩, rfl⟩
    | refine Dr.b3 (b_s_l01Cur_pick _ _ _ _ (curB_iff.2 ⟨hf, by omega, by omega, by omega, by omega⟩)) (fun _ _ _ hy => ?_)
    | refine Dr.meet ?_
    | simp (disch := omega) only [wrap_in]
    | refine Dr.must (by first | rfl | (simp only [List.length_cons, List.length_nil, BEq.rfl, Bool.true_and, Bool.and_eq_true, decide_eq_true_eq]; omega)) ?_
    | refine Dr.bif (fun hb => ?_) (fun hb => ?_)
noncomputable def g_s_l01Cur_size (cc : List Int) (ca : Int) (cs : Int) (n : Int) : Int × Int × Int := Classical.epsilon fun g => ((0 ≤ (g).1 ∧ (g).1 ≤ n ∧ (g).1 ≤ 200000) ∧ 0 ≤ (g).2.1 ∧ (g).2.1 ≤ ca + 1 ∧ 0 ≤ (g).2.2 ∧ (g).2.2 < 65536) ∧ ∀ K : Ret → Option Ret, T_s_l01Cur_size cc ca cs n K = K (.s (.int .i64 (g).1), [.io [.l .no bytesR cc, .s (.int .i64 (g).2.1), .s (.int .i64 (g).2.2)]])
theorem gs_s_l01Cur_size (cc : List Int) (ca : Int) (cs : Int) (n : Int) (h : (curB 3000000000000000000 cc ca cs && (decide (0 ≤ n) && decide (n ≤ 1000000))) = true) : ((0 ≤ (g_s_l01Cur_size cc ca cs n).1 ∧ (g_s_l01Cur_size cc ca cs n).1 ≤ n ∧ (g_s_l01Cur_size cc ca cs n).1 ≤ 200000) ∧ 0 ≤ (g_s_l01Cur_size cc ca cs n).2.1 ∧ (g_s_l01Cur_size cc ca cs n).2.1 ≤ ca + 1 ∧ 0 ≤ (g_s_l01Cur_size cc ca cs n).2.2 ∧ (g_s_l01Cur_size cc ca cs n).2.2 < 65536) ∧ ∀ K : Ret → Option Ret, T_s_l01Cur_size cc ca cs n K = K (.s (.int .i64 (g_s_l01Cur_size cc ca cs n).1), [.io [.l .no bytesR cc, .s (.int .i64 (g_s_l01Cur_size cc ca cs n).2.1), .s (.int .i64 (g_s_l01Cur_size cc ca cs n).2.2)]]) := by
  obtain ⟨y, a, s, hy, hk⟩ := x_s_l01Cur_size cc ca cs n h
  exact Classical.epsilon_spec (p := fun g : Int × Int × Int => ((0 ≤ (g).1 ∧ (g).1 ≤ n ∧ (g).1 ≤ 200000) ∧ 0 ≤ (g).2.1 ∧ (g).2.1 ≤ ca + 1 ∧ 0 ≤ (g).2.2 ∧ (g).2.2 < 65536) ∧ ∀ K : Ret → Option Ret, T_s_l01Cur_size cc ca cs n K = K (.s (.int .i64 (g).1), [.io [.l .no bytesR cc, .s (.int .i64 (g).2.1), .s (.int .i64 (g).2.2)]])) ⟨⟨y, a, s⟩, hy, hk⟩
noncomputable def B_s_l01Cur_size (cc : List Int) (ca : Int) (cs : Int) (n : Int) (k : (Int) → (Int) → (Int) → Option Ret) : Option Ret := bif curB 3000000000000000000 cc ca cs && (decide (0 ≤ n) && decide (n ≤ 1000000)) then k (g_s_l01Cur_size cc ca cs n).1 (g_s_l01Cur_size cc ca cs n).2.1 (g_s_l01Cur_size cc ca cs n).2.2 else none
theorem b_s_l01Cur_size (cc : List Int) (ca : Int) (cs : Int) (n : Int) (h : (curB 3000000000000000000 cc ca cs && (decide (0 ≤ n) && decide (n ≤ 1000000))) = true) : ∃ (y : Int) (a : Int) (s : Int), ((0 ≤ y ∧ y ≤ n ∧ y ≤ 200000) ∧ 0 ≤ a ∧ a ≤ ca + 1 ∧ 0 ≤ s ∧ s < 65536) ∧ ∀ k, B_s_l01Cur_size cc ca cs n k = k y a s :=
  ⟨(g_s_l01Cur_size cc ca cs n).1, (g_s_l01Cur_size cc ca cs n).2.1, (g_s_l01Cur_size cc ca cs n).2.2, (gs_s_l01Cur_size cc ca cs n h).1, fun k => by unfold B_s_l01Cur_size; rw [h]; rfl⟩
def SB_s_l01Cur_size (B : (List Int) → (Int) → (Int) → (Int) → ((Int) → (Int) → (Int) → Option Ret) → Option Ret) : Sm := S_B [.sh (.io (.cons (.l .no bytesR) (.cons (.int .i64) (.cons (.int .i64) .nil)))), .i] (fun d K => B d.1.1 d.1.2.1 d.1.2.2.1 d.2.1 (fun y a s => K (.s (.int .i64 y), [.io [.l .no bytesR d.1.1, .s (.int .i64 a), .s (.int .i64 s)]])))
theorem okS_s_l01Cur_size : OkFn prog I N.s_l01Cur_size false (SB_s_l01Cur_size B_s_l01Cur_size) := okN (ok_fn (memc okS_s_l01Cur_pick mem0) (l := ls_s_l01Cur_size) (p := []) (ls := []) (lend := []) (focus := false) (fuel := 0) (give := []) (fn := F.s_l01Cur_size) (by kernel_rfl) (by kernel_rfl) (by kernel_rfl) (by kernel_rfl) (cs := []) (by kernel_rfl) loops0) (S_B_of fun d K q hq => by
  refine (e_s_l01Cur_size d.1.1 d.1.2.1 d.1.2.2.1 d.2.1 K).trans ?_
  unfold B_s_l01Cur_size at hq
  cases hp : (curB 3000000000000000000 d.1.1 d.1.2.1 d.1.2.2.1 && (decide (0 ≤ d.2.1) && decide (d.2.1 ≤ 1000000))) with
  | false => rw [hp] at hq; cases hq
  | true =>
    rw [hp] at hq
    exact ((gs_s_l01Cur_size d.1.1 d.1.2.1 d.1.2.2.1 d.2.1 hp).2 K).trans hq)
end Go.Ev.Seat
end
section
/- s_l01Cur_text: its contract. -/
namespace Go.Ev.Seat
open Go.RowKit
set_option maxRecDepth 100000
set_option linter.unusedVariables false
set_option linter.unusedSimpArgs false
def z_s_l01Cur_text_3_0 (x1 : Int) (o0 : List Int) (b10 : List Int) (b11 : Int) (b12 : Int) : St := { tm := ([.x, (.s (.int .i64 x1)), .x, .x, .x, (.w 0)] ++ List.replicate 21 .x), ob := [(0, (.arr true true bytesR o0)), (1, (.box [(.l .no bytesR b10), (.s (.int .i64 b11)), (.s (.int .i64 b12))]))], nx := 2, io := [(.pb 1 0)] }
def sh_s_l01Cur_text_3_0 : Ss := { tm := (.cons (.pb 0 0) (.cons (.int .i64) (.cons (.x) (.cons (.x) (.cons (.x) (.cons (.w 1) (.cons (.int .i64) (xsh 20)))))))), ob := (.box (.cons (.l .no bytesR) (.cons (.int .i64) (.cons (.int .i64) .nil))) (.arr true true bytesR .nil)), nx := 2, io := (.cons (.pb 0 0) .nil) }
def d_s_l01Cur_text_3_0 (x1 : Int) (x6 : Int) (b00 : List Int) (b01 : Int) (b02 : Int) (o1 : List Int) : sh_s_l01Cur_text_3_0.T := (((), (x1, ((), ((), ((), ((), (x6, xd 20))))))), ((b00, (b01, (b02, ()))), (o1, ())), ((), ()))
def s_s_l01Cur_text_3_0 (x1 : Int) (x6 : Int) (b00 : List Int) (b01 : Int) (b02 : Int) (o1 : List Int) : St := { tm := ([(.pb 0 0), (.s (.int .i64 x1)), .x, .x, .x, (.w 1), (.s (.int .i64 x6))] ++ List.replicate 20 .x), ob := [(0, (.box [(.l .no bytesR b00), (.s (.int .i64 b01)), (.s (.int .i64 b02))])), (1, (.arr true true bytesR o1))], nx := 2, io := [(.pb 0 0)] }
theorem se_s_l01Cur_text_3_0 (x1 : Int) (x6 : Int) (b00 : List Int) (b01 : Int) (b02 : Int) (o1 : List Int) : sh_s_l01Cur_text_3_0.mk' (d_s_l01Cur_text_3_0 x1 x6 b00 b01 b02 o1) = (s_s_l01Cur_text_3_0 x1 x6 b00 b01 b02 o1) := by kernel_rfl
def w_s_l01Cur_text_3_0 (d : sh_s_l01Cur_text_3_0.T) (f : Int → Int → (List Int) → Int → Int → (List Int) → Option Ret) : Option Ret := match d with | ((_, (x1, (_, (_, (_, (_, (x6, _))))))), ((b00, (b01, (b02, _))), (o1, _)), (_, _)) => f x1 x6 b00 b01 b02 o1
noncomputable def P_s_l01Cur_text_3_0 (x1 : Int) (x6 : Int) (b00 : List Int) (b01 : Int) (b02 : Int) (o1 : List Int) (nx0 : Int → Int → (List Int) → Int → Int → (List Int) → Option Ret) (k0 : Int → (List Int) → (List Int) → Int → Int → Option Ret) : Option Ret := (bif (decide (x6 > (0 : Int))) then (B_s_l01Cur_rune b00 b01 b02 (fun y0 y1 y2 => (bif (Nat.ble (((List.length o1) + (List.length (encD y0))) * 1) 140737488355328) then (nx0 x1 (IntKind.wrap .i64 (x6 - (1 : Int))) b00 y1 y2 (o1 ++ (encD y0))) else none))) else (k0 x1 o1 b00 b01 b02))
noncomputable def Q_s_l01Cur_text_3_0 : Nat → Int → Int → (List Int) → Int → Int → (List Int) → (Int → (List Int) → (List Int) → Int → Int → Option Ret) → Option Ret
  | 0, _, _, _, _, _, _, _ => none
  | m + 1, x1, x6, b00, b01, b02, o1, k0 => P_s_l01Cur_text_3_0 x1 x6 b00 b01 b02 o1 (fun x1 x6 b00 b01 b02 o1 => (Q_s_l01Cur_text_3_0 m x1 x6 b00 b01 b02 o1 k0)) k0
noncomputable def R_s_l01Cur_text_3_0 (x1 : Int) (x6 : Int) (b00 : List Int) (b01 : Int) (b02 : Int) (o1 : List Int) (k0 : Int → (List Int) → (List Int) → Int → Int → Option Ret) : Option Ret := Q_s_l01Cur_text_3_0 (x1.toNat + x6.toNat + List.length b00 + b01.toNat + b02.toNat + List.length o1 + 2) x1 x6 b00 b01 b02 o1 k0
noncomputable def W_s_l01Cur_text_3 : LoopFn := (fun (σ : St) (K : Ex → St → Option Ret) => (match sh_s_l01Cur_text_3_0.un σ with | some d => w_s_l01Cur_text_3_0 d (fun x1 x6 b00 b01 b02 o1 => R_s_l01Cur_text_3_0 x1 x6 b00 b01 b02 o1 (fun x1 o0 b10 b11 b12 => (K (.ext 0) (z_s_l01Cur_text_3_0 x1 o0 b10 b11 b12)))) | none => none))
noncomputable abbrev ls_s_l01Cur_text : List (Nat × Bool × Sm) := [(N.s_l01Cur_size, false, (SB_s_l01Cur_size B_s_l01Cur_size)), (N.s_l01Cur_rune, false, (SB_s_l01Cur_rune B_s_l01Cur_rune)), (N.s_RuneBytes, true, S_s_RuneBytes)]
noncomputable abbrev E_s_l01Cur_text : Env := En ls_s_l01Cur_text [] [(3, [0,1,5,6], [1,4,5], W_s_l01Cur_text_3)] [] false 0 []
noncomputable abbrev U_s_l01Cur_text_3 := rounds (run E_s_l01Cur_text (bodyOf F.s_l01Cur_text 3)) [0,1,5,6] [1,4,5]
theorem st_s_l01Cur_text_3_0 (m : Nat) (x1 : Int) (x6 : Int) (b00 : List Int) (b01 : Int) (b02 : Int) (o1 : List Int) (K : Ex → St → Option Ret) : U_s_l01Cur_text_3 (m + 1) (s_s_l01Cur_text_3_0 x1 x6 b00 b01 b02 o1) K = P_s_l01Cur_text_3_0 x1 x6 b00 b01 b02 o1 (fun x1 x6 b00 b01 b02 o1 => (U_s_l01Cur_text_3 m (s_s_l01Cur_text_3_0 x1 x6 b00 b01 b02 o1) K)) (fun x1 o0 b10 b11 b12 => (K (.ext 0) (z_s_l01Cur_text_3_0 x1 o0 b10 b11 b12))) := by kernel_rfl
theorem q_s_l01Cur_text_3 (K : Ex → St → Option Ret) : ∀ m : Nat, (∀ (x1 : Int) (x6 : Int) (b00 : List Int) (b01 : Int) (b02 : Int) (o1 : List Int), U_s_l01Cur_text_3 m (s_s_l01Cur_text_3_0 x1 x6 b00 b01 b02 o1) K = Q_s_l01Cur_text_3_0 m x1 x6 b00 b01 b02 o1 (fun x1 o0 b10 b11 b12 => (K (.ext 0) (z_s_l01Cur_text_3_0 x1 o0 b10 b11 b12))))
  | 0 => (fun _ _ _ _ _ _ => rfl)
  | m + 1 => (fun x1 x6 b00 b01 b02 o1 => (by rw [st_s_l01Cur_text_3_0, show (fun x1 x6 b00 b01 b02 o1 => (U_s_l01Cur_text_3 m (s_s_l01Cur_text_3_0 x1 x6 b00 b01 b02 o1) K)) = (fun x1 x6 b00 b01 b02 o1 => (Q_s_l01Cur_text_3_0 m x1 x6 b00 b01 b02 o1 (fun x1 o0 b10 b11 b12 => (K (.ext 0) (z_s_l01Cur_text_3_0 x1 o0 b10 b11 b12))))) from funext fun x1 => funext fun x6 => funext fun b00 => funext fun b01 => funext fun b02 => funext fun o1 => (q_s_l01Cur_text_3 K m) x1 x6 b00 b01 b02 o1]; rfl))
theorem loopK_s_l01Cur_text_3 : LoopOk E_s_l01Cur_text (bodyOf F.s_l01Cur_text 3) := by
  refine loopW_ok (n := 3) (F := W_s_l01Cur_text_3) (by kernel_rfl) rfl (li := [0,1,5,6]) (lo := [1,4,5]) rfl (fun σ K r hr => ?_)
  unfold W_s_l01Cur_text_3 at hr
  split at hr
  · rename_i d hd
    rw [Ss.un_mk hd]
    exact ⟨_, ((congrArg (fun z => U_s_l01Cur_text_3 _ z K) (se_s_l01Cur_text_3_0 _ _ _ _ _ _)).trans ((q_s_l01Cur_text_3 K _) _ _ _ _ _ _)).trans hr⟩
  · cases hr
noncomputable def T_s_l01Cur_text (cc : List Int) (ca : Int) (cs : Int) (n : Int) (K : Ret → Option Ret) : Option Ret := (B_s_l01Cur_size cc ca cs n (fun y3 y4 y5 => (R_s_l01Cur_text_3_0 n y3 cc y4 y5 ([] : List Int) (fun y6 y7 y8 y9 y10 => (bif (decide ((((List.length y7) : Nat) : Int) > y6)) then K ((.l .deep bytesR ([] : List Int)), [(.io [(.l .no bytesR y8), (.s (.int .i64 y9)), (.s (.int .i64 y10))])]) else K ((.l .deep bytesR y7), [(.io [(.l .no bytesR y8), (.s (.int .i64 y9)), (.s (.int .i64 y10))])]))))))
theorem e_s_l01Cur_text (cc : List Int) (ca : Int) (cs : Int) (n : Int) (K : Ret → Option Ret) : evF E_s_l01Cur_text false F.s_l01Cur_text [.io [.l .no bytesR cc, .s (.int .i64 ca), .s (.int .i64 cs)], .s (.int .i64 n)] K = T_s_l01Cur_text cc ca cs n K := by kernel_rfl
theorem text_loop {P : Ret → Prop} {n : Int} {cc : List Int} (hf : fitB cc = true) {F : Int → List Int → List Int → Int → Int → (Ret → Option Ret) → Option Ret} : ∀ (m k : Nat) (ca cs : Int) (o : List Int), k < m → 0 ≤ ca → ca + 3 * k ≤ 2500000000000000000 → 0 ≤ cs → cs < 65536 → byteL o → o.length + 4 * k ≤ 100000 →
    (∀ (a s : Int) (o' : List Int), 0 ≤ a → a ≤ ca + 3 * k → 0 ≤ s → s < 65536 → byteL o' → o'.length ≤ o.length + 4 * k → Dr P (F n o' cc a s)) → Dr P (fun K => Q_s_l01Cur_text_3_0 m n (k : Int) cc ca cs o (fun a b c d e => F a b c d e K))
  | 0, k, ca, cs, o, h, _, _, _, _, _, _, _ => absurd h (by omega)
  | m + 1, k, ca, cs, o, h, h0, h1, h2, h3, hb, hl, hF => by
    show Dr P (fun K => P_s_l01Cur_text_3_0 n (k : Int) cc ca cs o _ _)
    unfold P_s_l01Cur_text_3_0
    cases k with
    | zero =>
      refine Dr.bif (fun hc => ?_) (fun _ => hF ca cs o h0 (by omega) h2 h3 hb (by omega))
      simp at hc
    | succ k =>
      refine Dr.must (decide_eq_true (by omega)) ?_
      refine Dr.b3 (b_s_l01Cur_rune _ _ _ (curB_iff.2 ⟨hf, by omega, by omega, by omega, by omega⟩)) (fun y a s hy => ?_)
      have hle := encD_len4 y
      refine Dr.must (Nat.ble_eq_true_of_le (by omega)) ?_
      rw [show IntKind.wrap .i64 (((k + 1 : Nat) : Int) - 1) = (k : Int) by rw [wrap_in (by omega) (by omega)]; omega]
      refine text_loop hf m k a s (o ++ encD y) (by omega) (by omega) (by omega) (by omega) (by omega) (byteL_app hb (encD_byte y)) (by rw [List.length_append]; omega) (fun a' s' o' q1 q2 q3 q4 q5 q6 => hF a' s' o' q1 (by omega) q3 q4 q5 ?_)
      rw [List.length_append] at q6
      omega
theorem x_s_l01Cur_text (cc : List Int) (ca : Int) (cs : Int) (n : Int) (h : (curB 2000000000000000000 cc ca cs && (decide (0 ≤ n) && decide (n ≤ 1000))) = true) : ∃ (y : List Int) (a : Int) (s : Int), ((fitB y = true ∧ ((y.length : Nat) : Int) ≤ n) ∧ 0 ≤ a ∧ a ≤ ca + (1 + 3 * n) ∧ 0 ≤ s ∧ s < 65536) ∧ ∀ K : Ret → Option Ret, T_s_l01Cur_text cc ca cs n K = K (.l .deep bytesR y, [.io [.l .no bytesR cc, .s (.int .i64 a), .s (.int .i64 s)]]) := by
  suffices hd : Dr (fun r : Ret => ∃ (y : List Int) (a : Int) (s : Int), ((fitB y = true ∧ ((y.length : Nat) : Int) ≤ n) ∧ 0 ≤ a ∧ a ≤ ca + (1 + 3 * n) ∧ 0 ≤ s ∧ s < 65536) ∧ r = (.l .deep bytesR y, [.io [.l .no bytesR cc, .s (.int .i64 a), .s (.int .i64 s)]])) (fun K : Ret → Option Ret => T_s_l01Cur_text cc ca cs n K) by
    obtain ⟨_, ⟨y, a, s, hp, rfl⟩, hk⟩ := hd
    exact ⟨y, a, s, hp, hk⟩
  obtain ⟨h, hpre⟩ := (Bool.and_eq_true _ _).mp h
  obtain ⟨hf, h2, h3, h4, h5⟩ := curB_iff.1 h
  have hl := fitB_len hf
  unfold T_s_l01Cur_text
  simp only [Bool.and_eq_true, decide_eq_true_eq] at hpre
  refine Dr.b3 (b_s_l01Cur_size _ _ _ _ ((Bool.and_eq_true _ _).mpr ⟨curB_iff.2 ⟨hf, by omega, by omega, by omega, by omega⟩, by simp only [Bool.and_eq_true, decide_eq_true_eq]; omega⟩)) (fun y0 a0 s0 hy => ?_)
  obtain ⟨k, rfl⟩ : ∃ k : Nat, y0 = k := ⟨y0.toNat, by omega⟩
  unfold R_s_l01Cur_text_3_0
  refine text_loop hf (F := fun y6 y7 y8 y9 y10 K => (bif (decide ((((List.length y7) : Nat) : Int) > y6)) then
   K ((.l .deep bytesR ([] : List Int)), [(.io [(.l .no bytesR y8), (.s (.int .i64 y9)), (.s (.int .i64 y10))])])
   else K ((.l .deep bytesR y7), [(.io [(.l .no bytesR y8), (.s (.int .i64 y9)), (.s (.int .i64 y10))])]))) _ k a0 s0 [] (by omega) (by omega) (by omega) (by omega) (by omega) byteL_nil (by rw [List.length_nil]; omega) (fun a s o q1 q2 q3 q4 q5 q6 => ?_)
  simp only [List.length_nil] at q6
  refine Dr.bif (fun _ => Dr.leaf ⟨_, _, _, ⟨⟨rfl, ?_⟩, by omega, by omega, by omega, by omega⟩, rfl⟩) (fun hc => ?_)
  · simp only [List.length_nil]; omega
  · simp only [decide_eq_false_iff_not] at hc
    exact Dr.leaf ⟨_, _, _, ⟨⟨byteL_fit q5 (by omega), by omega⟩, by omega, by omega, by omega, by omega⟩, rfl⟩
noncomputable def g_s_l01Cur_text (cc : List Int) (ca : Int) (cs : Int) (n : Int) : List Int × Int × Int := Classical.epsilon fun g => ((fitB (g).1 = true ∧ (((g).1.length : Nat) : Int) ≤ n) ∧ 0 ≤ (g).2.1 ∧ (g).2.1 ≤ ca + (1 + 3 * n) ∧ 0 ≤ (g).2.2 ∧ (g).2.2 < 65536) ∧ ∀ K : Ret → Option Ret, T_s_l01Cur_text cc ca cs n K = K (.l .deep bytesR (g).1, [.io [.l .no bytesR cc, .s (.int .i64 (g).2.1), .s (.int .i64 (g).2.2)]])
theorem gs_s_l01Cur_text (cc : List Int) (ca : Int) (cs : Int) (n : Int) (h : (curB 2000000000000000000 cc ca cs && (decide (0 ≤ n) && decide (n ≤ 1000))) = true) : ((fitB (g_s_l01Cur_text cc ca cs n).1 = true ∧ (((g_s_l01Cur_text cc ca cs n).1.length : Nat) : Int) ≤ n) ∧ 0 ≤ (g_s_l01Cur_text cc ca cs n).2.1 ∧ (g_s_l01Cur_text cc ca cs n).2.1 ≤ ca + (1 + 3 * n) ∧ 0 ≤ (g_s_l01Cur_text cc ca cs n).2.2 ∧ (g_s_l01Cur_text cc ca cs n).2.2 < 65536) ∧ ∀ K : Ret → Option Ret, T_s_l01Cur_text cc ca cs n K = K (.l .deep bytesR (g_s_l01Cur_text cc ca cs n).1, [.io [.l .no bytesR cc, .s (.int .i64 (g_s_l01Cur_text cc ca cs n).2.1), .s (.int .i64 (g_s_l01Cur_text cc ca cs n).2.2)]]) := by
  obtain ⟨y, a, s, hy, hk⟩ := x_s_l01Cur_text cc ca cs n h
  exact Classical.epsilon_spec (p := fun g : List Int × Int × Int => ((fitB (g).1 = true ∧ (((g).1.length : Nat) : Int) ≤ n) ∧ 0 ≤ (g).2.1 ∧ (g).2.1 ≤ ca + (1 + 3 * n) ∧ 0 ≤ (g).2.2 ∧ (g).2.2 < 65536) ∧ ∀ K : Ret → Option Ret, T_s_l01Cur_text cc ca cs n K = K (.l .deep bytesR (g).1, [.io [.l .no bytesR cc, .s (.int .i64 (g).2.1), .s (.int .i64 (g).2.2)]])) ⟨⟨y, a, s⟩, hy, hk⟩
noncomputable def B_s_l01Cur_text (cc : List Int) (ca : Int) (cs : Int) (n : Int) (k : (List Int) → (Int) → (Int) → Option Ret) : Option Ret := bif curB 2000000000000000000 cc ca cs && (decide (0 ≤ n) && decide (n ≤ 1000)) then k (g_s_l01Cur_text cc ca cs n).1 (g_s_l01Cur_text cc ca cs n).2.1 (g_s_l01Cur_text cc ca cs n).2.2 else none
theorem b_s_l01Cur_text (cc : List Int) (ca : Int) (cs : Int) (n : Int) (h : (curB 2000000000000000000 cc ca cs && (decide (0 ≤ n) && decide (n ≤ 1000))) = true) : ∃ (y : List Int) (a : Int) (s : Int), ((fitB y = true ∧ ((y.length : Nat) : Int) ≤ n) ∧ 0 ≤ a ∧ a ≤ ca + (1 + 3 * n) ∧ 0 ≤ s ∧ s < 65536) ∧ ∀ k, B_s_l01Cur_text cc ca cs n k = k y a s :=
  ⟨(g_s_l01Cur_text cc ca cs n).1, (g_s_l01Cur_text cc ca cs n).2.1, (g_s_l01Cur_text cc ca cs n).2.2, (gs_s_l01Cur_text cc ca cs n h).1, fun k => by unfold B_s_l01Cur_text; rw [h]; rfl⟩
def SB_s_l01Cur_text (B : (List Int) → (Int) → (Int) → (Int) → ((List Int) → (Int) → (Int) → Option Ret) → Option Ret) : Sm := S_B [.sh (.io (.cons (.l .no bytesR) (.cons (.int .i64) (.cons (.int .i64) .nil)))), .i] (fun d K => B d.1.1 d.1.2.1 d.1.2.2.1 d.2.1 (fun y a s => K (.l .deep bytesR y, [.io [.l .no bytesR d.1.1, .s (.int .i64 a), .s (.int .i64 s)]])))
theorem okS_s_l01Cur_text : OkFn prog I N.s_l01Cur_text false (SB_s_l01Cur_text B_s_l01Cur_text) := okN (ok_fn (memc okS_s_l01Cur_size (memc okS_s_l01Cur_rune (memc okS_s_RuneBytes mem0))) (l := ls_s_l01Cur_text) (p := []) (ls := [(3, [0,1,5,6], [1,4,5], W_s_l01Cur_text_3)]) (lend := []) (focus := false) (fuel := 0) (give := []) (fn := F.s_l01Cur_text) (by kernel_rfl) (by kernel_rfl) (by kernel_rfl) (by kernel_rfl) (cs := [bodyOf F.s_l01Cur_text 3]) (by kernel_rfl) (loopsc loopK_s_l01Cur_text_3 loops0)) (S_B_of fun d K q hq => by
  refine (e_s_l01Cur_text d.1.1 d.1.2.1 d.1.2.2.1 d.2.1 K).trans ?_
  unfold B_s_l01Cur_text at hq
  cases hp : (curB 2000000000000000000 d.1.1 d.1.2.1 d.1.2.2.1 && (decide (0 ≤ d.2.1) && decide (d.2.1 ≤ 1000))) with
  | false => rw [hp] at hq; cases hq
  | true =>
    rw [hp] at hq
    exact ((gs_s_l01Cur_text d.1.1 d.1.2.1 d.1.2.2.1 d.2.1 hp).2 K).trans hq)
end Go.Ev.Seat
end
section
/- s_l01Cur_once: its contract. -/
namespace Go.Ev.Seat
open Go.RowKit
set_option maxRecDepth 100000
set_option linter.unusedVariables false
set_option linter.unusedSimpArgs false
noncomputable abbrev ls_s_l01Cur_once : List (Nat × Bool × Sm) := [(N.s_l01Cur_pick, false, (SB_s_l01Cur_pick B_s_l01Cur_pick))]
noncomputable abbrev E_s_l01Cur_once : Env := En ls_s_l01Cur_once [] [] [] false 0 []
noncomputable def T_s_l01Cur_once (cc : List Int) (ca : Int) (cs : Int) (n : Int) (K : Ret → Option Ret) : Option Ret := (B_s_l01Cur_pick cc ca cs n (fun y0 y1 y2 => K ((.s (.bool (y0 == (IntKind.wrap .i64 (n - (1 : Int)))))), [(.io [(.l .no bytesR cc), (.s (.int .i64 y1)), (.s (.int .i64 y2))])])))
theorem e_s_l01Cur_once (cc : List Int) (ca : Int) (cs : Int) (n : Int) (K : Ret → Option Ret) : evF E_s_l01Cur_once false F.s_l01Cur_once [.io [.l .no bytesR cc, .s (.int .i64 ca), .s (.int .i64 cs)], .s (.int .i64 n)] K = T_s_l01Cur_once cc ca cs n K := by kernel_rfl
theorem x_s_l01Cur_once (cc : List Int) (ca : Int) (cs : Int) (n : Int) (h : (curB 3000000000000000000 cc ca cs) = true) : ∃ (y : Bool) (a : Int) (s : Int), (0 ≤ a ∧ a ≤ ca + 1 ∧ 0 ≤ s ∧ s < 65536) ∧ ∀ K : Ret → Option Ret, T_s_l01Cur_once cc ca cs n K = K (.s (.bool y), [.io [.l .no bytesR cc, .s (.int .i64 a), .s (.int .i64 s)]]) := by
  suffices hd : Dr (fun r : Ret => ∃ (y : Bool) (a : Int) (s : Int), (0 ≤ a ∧ a ≤ ca + 1 ∧ 0 ≤ s ∧ s < 65536) ∧ r = (.s (.bool y), [.io [.l .no bytesR cc, .s (.int .i64 a), .s (.int .i64 s)]])) (fun K : Ret → Option Ret => T_s_l01Cur_once cc ca cs n K) by
    obtain ⟨_, ⟨y, a, s, hp, rfl⟩, hk⟩ := hd
    exact ⟨y, a, s, hp, hk⟩
  obtain ⟨hf, h2, h3, h4, h5⟩ := curB_iff.1 h
  have hl := fitB_len hf
  unfold T_s_l01Cur_once
  repeat' first
    | exact Dr.leaf ⟨_, _, _, ⟨by omega, by omega, by omega, by omega⟩, rfl⟩
    | refine Dr.b3 (b_s_l01Cur_pick _ _ _ _ (curB_iff.2 ⟨hf, by omega, by omega, by omega, by omega⟩)) (fun _ _ _ hy => ?_)
    | refine Dr.meet ?_
    | simp (disch := omega) only [wrap_in]
    | refine Dr.must (by first | rfl | (simp only [List.length_cons, List.length_nil, BEq.rfl, Bool.true_and, Bool.and_eq_true, decide_eq_true_eq]; omega)) ?_
    | refine Dr.bif (fun hb => ?_) (fun hb => ?_)
noncomputable def g_s_l01Cur_once (cc : List Int) (ca : Int) (cs : Int) (n : Int) : Bool × Int × Int := Classical.epsilon fun g => (0 ≤ (g).2.1 ∧ (g).2.1 ≤ ca + 1 ∧ 0 ≤ (g).2.2 ∧ (g).2.2 < 65536) ∧ ∀ K : Ret → Option Ret, T_s_l01Cur_once cc ca cs n K = K (.s (.bool (g).1), [.io [.l .no bytesR cc, .s (.int .i64 (g).2.1), .s (.int .i64 (g).2.2)]])
theorem gs_s_l01Cur_once (cc : List Int) (ca : Int) (cs : Int) (n : Int) (h : (curB 3000000000000000000 cc ca cs) = true) : (0 ≤ (g_s_l01Cur_once cc ca cs n).2.1 ∧ (g_s_l01Cur_once cc ca cs n).2.1 ≤ ca + 1 ∧ 0 ≤ (g_s_l01Cur_once cc ca cs n).2.2 ∧ (g_s_l01Cur_once cc ca cs n).2.2 < 65536) ∧ ∀ K : Ret → Option Ret, T_s_l01Cur_once cc ca cs n K = K (.s (.bool (g_s_l01Cur_once cc ca cs n).1), [.io [.l .no bytesR cc, .s (.int .i64 (g_s_l01Cur_once cc ca cs n).2.1), .s (.int .i64 (g_s_l01Cur_once cc ca cs n).2.2)]]) := by
  obtain ⟨y, a, s, hy, hk⟩ := x_s_l01Cur_once cc ca cs n h
  exact Classical.epsilon_spec (p := fun g : Bool × Int × Int => (0 ≤ (g).2.1 ∧ (g).2.1 ≤ ca + 1 ∧ 0 ≤ (g).2.2 ∧ (g).2.2 < 65536) ∧ ∀ K : Ret → Option Ret, T_s_l01Cur_once cc ca cs n K = K (.s (.bool (g).1), [.io [.l .no bytesR cc, .s (.int .i64 (g).2.1), .s (.int .i64 (g).2.2)]])) ⟨⟨y, a, s⟩, hy, hk⟩
noncomputable def B_s_l01Cur_once (cc : List Int) (ca : Int) (cs : Int) (n : Int) (k : (Bool) → (Int) → (Int) → Option Ret) : Option Ret := bif curB 3000000000000000000 cc ca cs then k (g_s_l01Cur_once cc ca cs n).1 (g_s_l01Cur_once cc ca cs n).2.1 (g_s_l01Cur_once cc ca cs n).2.2 else none
theorem b_s_l01Cur_once (cc : List Int) (ca : Int) (cs : Int) (n : Int) (h : (curB 3000000000000000000 cc ca cs) = true) : ∃ (y : Bool) (a : Int) (s : Int), (0 ≤ a ∧ a ≤ ca + 1 ∧ 0 ≤ s ∧ s < 65536) ∧ ∀ k, B_s_l01Cur_once cc ca cs n k = k y a s :=
  ⟨(g_s_l01Cur_once cc ca cs n).1, (g_s_l01Cur_once cc ca cs n).2.1, (g_s_l01Cur_once cc ca cs n).2.2, (gs_s_l01Cur_once cc ca cs n h).1, fun k => by unfold B_s_l01Cur_once; rw [h]; rfl⟩
def SB_s_l01Cur_once (B : (List Int) → (Int) → (Int) → (Int) → ((Bool) → (Int) → (Int) → Option Ret) → Option Ret) : Sm := S_B [.sh (.io (.cons (.l .no bytesR) (.cons (.int .i64) (.cons (.int .i64) .nil)))), .i] (fun d K => B d.1.1 d.1.2.1 d.1.2.2.1 d.2.1 (fun y a s => K (.s (.bool y), [.io [.l .no bytesR d.1.1, .s (.int .i64 a), .s (.int .i64 s)]])))
theorem okS_s_l01Cur_once : OkFn prog I N.s_l01Cur_once false (SB_s_l01Cur_once B_s_l01Cur_once) := okN (ok_fn (memc okS_s_l01Cur_pick mem0) (l := ls_s_l01Cur_once) (p := []) (ls := []) (lend := []) (focus := false) (fuel := 0) (give := []) (fn := F.s_l01Cur_once) (by kernel_rfl) (by kernel_rfl) (by kernel_rfl) (by kernel_rfl) (cs := []) (by kernel_rfl) loops0) (S_B_of fun d K q hq => by
  refine (e_s_l01Cur_once d.1.1 d.1.2.1 d.1.2.2.1 d.2.1 K).trans ?_
  unfold B_s_l01Cur_once at hq
  cases hp : (curB 3000000000000000000 d.1.1 d.1.2.1 d.1.2.2.1) with
  | false => rw [hp] at hq; cases hq
  | true =>
    rw [hp] at hq
    exact ((gs_s_l01Cur_once d.1.1 d.1.2.1 d.1.2.2.1 d.2.1 hp).2 K).trans hq)
end Go.Ev.Seat
end
section
/- s_l01Cur_badText: its contract. -/
namespace Go.Ev.Seat
open Go.RowKit
set_option maxRecDepth 100000
set_option linter.unusedVariables false
set_option linter.unusedSimpArgs false
noncomputable abbrev ls_s_l01Cur_badText : List (Nat × Bool × Sm) := [(N.s_l01Cur_text, false, (SB_s_l01Cur_text B_s_l01Cur_text)), (N.s_l01Cur_pick, false, (SB_s_l01Cur_pick B_s_l01Cur_pick)), (N.s_l01Cur_once, false, (SB_s_l01Cur_once B_s_l01Cur_once))]
noncomputable abbrev E_s_l01Cur_badText : Env := En ls_s_l01Cur_badText [] [] [] false 0 []
noncomputable def T_s_l01Cur_badText (cc : List Int) (ca : Int) (cs : Int) (n : Int) (K : Ret → Option Ret) : Option Ret := (B_s_l01Cur_text cc ca cs n (fun y0 y1 y2 => (B_s_l01Cur_pick cc y1 y2 (9 : Int) (fun y3 y4 y5 => (bif (y3 == (0 : Int)) then (bif (decide ((((List.length y0) : Nat) : Int) > (0 : Int))) then (B_s_l01Cur_pick cc y4 y5 (if (((List.length y0) : Nat) : Int) < (256 : Int) then (((List.length y0) : Nat) : Int) else (256 : Int)) (fun y6 y7 y8 => (B_s_l01Cur_pick cc y7 y8 (256 : Int) (fun y9 y10 y11 => (B_s_l01Cur_pick cc y10 y11 (10 : Int) (fun y12 y13 y14 => (bif ((decide ((0 : Int) ≤ y12)) && (decide (y12 < (((List.length ((128 : Int) :: ((192 : Int) :: ((193 : Int) :: ((224 : Int) :: ((237 : Int) :: ((240 : Int) :: ((244 : Int) :: ((245 : Int) :: ((255 : Int) :: (y9 :: ([] : List Int)))))))))))) : Nat) : Int)))) then (bif ((decide ((0 : Int) ≤ y6)) && (decide (y6 < (((List.length y0) : Nat) : Int)))) then K ((.l .deep bytesR (List.set y0 (Int.toNat y6) (IntKind.wrap .u8 (List.getD ((128 : Int) :: ((192 : Int) :: ((193 : Int) :: ((224 : Int) :: ((237 : Int) :: ((240 : Int) :: ((244 : Int) :: ((245 : Int) :: ((255 : Int) :: (y9 :: ([] : List Int))))))))))) (Int.toNat y12) (0 : Int))))), [(.io [(.l .no bytesR cc), (.s (.int .i64 y13)), (.s (.int .i64 y14))])]) else none) else none))))))) else K ((.l .deep bytesR y0), [(.io [(.l .no bytesR cc), (.s (.int .i64 y4)), (.s (.int .i64 y5))])])) else (bif (y3 == (1 : Int)) then (B_s_l01Cur_pick cc y4 y5 (3 : Int) (fun y15 y16 y17 => (bif ((decide ((0 : Int) ≤ y15)) && (decide (y15 < (((List.length ((195 : Int) :: ((226 : Int) :: ((240 : Int) :: ([] : List Int))))) : Nat) : Int)))) then (bif (Nat.ble (((List.length y0) + (List.length ((List.getD ((195 : Int) :: ((226 : Int) :: ((240 : Int) :: ([] : List Int)))) (Int.toNat y15) (0 : Int)) :: ([] : List Int)))) * 1) 140737488355328) then K ((.l .deep bytesR (y0 ++ ((List.getD ((195 : Int) :: ((226 : Int) :: ((240 : Int) :: ([] : List Int)))) (Int.toNat y15) (0 : Int)) :: ([] : List Int)))), [(.io [(.l .no bytesR cc), (.s (.int .i64 y16)), (.s (.int .i64 y17))])]) else none) else none))) else (bif (y3 == (2 : Int)) then (B_s_l01Cur_once cc y4 y5 (5 : Int) (fun y18 y19 y20 => (bif y18 then (B_s_l01Cur_pick cc y19 y20 (2 : Int) (fun y21 y22 y23 => (bif (((((IntKind.wrap .i64 ((400 : Int) + y21)) == (IntKind.wrap .i64 ((400 : Int) + y21))) && (decide ((0 : Int) ≤ (IntKind.wrap .i64 ((400 : Int) + y21))))) && (decide (((Int.toNat (IntKind.wrap .i64 ((400 : Int) + y21))) * 1) ≤ 140737488355328))) && (decide ((IntKind.wrap .i64 ((400 : Int) + y21)) ≤ (4611686018427387904 : Int)))) then K ((.l .deep bytesR (List.replicate (Int.toNat (IntKind.wrap .i64 ((400 : Int) + y21))) (0 : Int))), [(.io [(.l .no bytesR cc), (.s (.int .i64 y22)), (.s (.int .i64 y23))])]) else none))) else K ((.l .deep bytesR y0), [(.io [(.l .no bytesR cc), (.s (.int .i64 y19)), (.s (.int .i64 y20))])])))) else K ((.l .deep bytesR y0), [(.io [(.l .no bytesR cc), (.s (.int .i64 y4)), (.s (.int .i64 y5))])]))))))))
theorem e_s_l01Cur_badText (cc : List Int) (ca : Int) (cs : Int) (n : Int) (K : Ret → Option Ret) : evF E_s_l01Cur_badText false F.s_l01Cur_badText [.io [.l .no bytesR cc, .s (.int .i64 ca), .s (.int .i64 cs)], .s (.int .i64 n)] K = T_s_l01Cur_badText cc ca cs n K := by kernel_rfl
theorem x_s_l01Cur_badText (cc : List Int) (ca : Int) (cs : Int) (n : Int) (h : (curB 1000000000000000000 cc ca cs && (decide (0 ≤ n) && decide (n ≤ 1000))) = true) : ∃ (y : List Int) (a : Int) (s : Int), ((fitB y = true ∧ ((y.length : Nat) : Int) ≤ n + 402) ∧ 0 ≤ a ∧ a ≤ ca + (8 + 3 * n) ∧ 0 ≤ s ∧ s < 65536) ∧ ∀ K : Ret → Option Ret, T_s_l01Cur_badText cc ca cs n K = K (.l .deep bytesR y, [.io [.l .no bytesR cc, .s (.int .i64 a), .s (.int .i64 s)]]) := by
  suffices hd : Dr (fun r : Ret => ∃ (y : List Int) (a : Int) (s : Int), ((fitB y = true ∧ ((y.length : Nat) : Int) ≤ n + 402) ∧ 0 ≤ a ∧ a ≤ ca + (8 + 3 * n) ∧ 0 ≤ s ∧ s < 65536) ∧ r = (.l .deep bytesR y, [.io [.l .no bytesR cc, .s (.int .i64 a), .s (.int .i64 s)]])) (fun K : Ret → Option Ret => T_s_l01Cur_badText cc ca cs n K) by
    obtain ⟨_, ⟨y, a, s, hp, rfl⟩, hk⟩ := hd
    exact ⟨y, a, s, hp, hk⟩
  obtain ⟨h, hpre⟩ := (Bool.and_eq_true _ _).mp h
  obtain ⟨hf, h2, h3, h4, h5⟩ := curB_iff.1 h
  have hl := fitB_len hf
  unfold T_s_l01Cur_badText
  simp only [Bool.and_eq_true, decide_eq_true_eq] at hpre
  refine Dr.b3 (b_s_l01Cur_text _ _ _ _ ((Bool.and_eq_true _ _).mpr ⟨(curB_iff.2 ⟨hf, by omega, by omega, by omega, by omega⟩), by simp only [Bool.and_eq_true, decide_eq_true_eq]; omega⟩)) (fun y0 a0 s0 hy => ?_)
  obtain ⟨⟨hq1, hq2⟩, hq3⟩ := hy
  refine Dr.b3 (b_s_l01Cur_pick _ _ _ _ (curB_iff.2 ⟨hf, by omega, by omega, by omega, by omega⟩)) (fun y1 a1 s1 h1 => ?_)
  refine Dr.bif (fun _ => ?_) (fun _ => Dr.bif (fun _ => ?_) (fun _ => Dr.bif (fun _ => ?_) (fun _ => ?_)))
  · refine Dr.bif (fun hc => ?_) (fun _ => ?_)
    · simp only [decide_eq_true_eq] at hc
      obtain ⟨m, hm, hm1, hm2⟩ : ∃ m : Int, (if (((List.length y0) : Nat) : Int) < (256 : Int) then (((List.length y0) : Nat) : Int) else (256 : Int)) = m ∧ 1 ≤ m ∧ m ≤ (((List.length y0) : Nat) : Int) := by
        by_cases q : (((List.length y0) : Nat) : Int) < 256
        · rw [if_pos q]; exact ⟨_, rfl, by omega, by omega⟩
        · rw [if_neg q]; exact ⟨_, rfl, by omega, by omega⟩
      rw [hm]
      refine Dr.b3 (b_s_l01Cur_pick _ _ _ _ (curB_iff.2 ⟨hf, by omega, by omega, by omega, by omega⟩)) (fun y2 a2 s2 h2 => ?_)
      refine Dr.b3 (b_s_l01Cur_pick _ _ _ _ (curB_iff.2 ⟨hf, by omega, by omega, by omega, by omega⟩)) (fun y3 a3 s3 h3 => ?_)
      refine Dr.b3 (b_s_l01Cur_pick _ _ _ _ (curB_iff.2 ⟨hf, by omega, by omega, by omega, by omega⟩)) (fun y4 a4 s4 h4 => ?_)
      refine Dr.must (by simp only [List.length_cons, List.length_nil, Bool.and_eq_true, decide_eq_true_eq]; omega) (Dr.must (by simp only [Bool.and_eq_true, decide_eq_true_eq]; omega) ?_)
      exact Dr.leaf ⟨_, _, _, ⟨⟨fitB_set hq1 (wrap8_range _), by rw [List.length_set]; omega⟩, by omega, by omega, by omega, by omega⟩, rfl⟩
    · exact Dr.leaf ⟨_, _, _, ⟨⟨hq1, by omega⟩, by omega, by omega, by omega, by omega⟩, rfl⟩
  · refine Dr.b3 (b_s_l01Cur_pick _ _ _ _ (curB_iff.2 ⟨hf, by omega, by omega, by omega, by omega⟩)) (fun y2 a2 s2 h2 => ?_)
    refine Dr.must (by simp only [List.length_cons, List.length_nil, Bool.and_eq_true, decide_eq_true_eq]; omega) (Dr.must (Nat.ble_eq_true_of_le (by simp only [List.length_cons, List.length_nil]; omega)) ?_)
    exact Dr.leaf ⟨_, _, _, ⟨⟨fitB_append hq1 (fitB_one (fitB_get (xs := [195, 226, 240]) rfl _)) (by simp; omega), by simp only [List.length_append, List.length_cons, List.length_nil]; omega⟩, by omega, by omega, by omega, by omega⟩, rfl⟩
  · refine Dr.b3 (b_s_l01Cur_once _ _ _ _ (curB_iff.2 ⟨hf, by omega, by omega, by omega, by omega⟩)) (fun y2 a2 s2 h2 => ?_)
    refine Dr.bif (fun _ => ?_) (fun _ => ?_)
    · refine Dr.b3 (b_s_l01Cur_pick _ _ _ _ (curB_iff.2 ⟨hf, by omega, by omega, by omega, by omega⟩)) (fun y3 a3 s3 h3 => ?_)
      rw [wrap_in (n := 400 + y3) (by omega) (by omega)]
      refine Dr.must (by simp only [beq_self_eq_true, Bool.true_and, Bool.and_eq_true, decide_eq_true_eq]; omega) ?_
      exact Dr.leaf ⟨_, _, _, ⟨⟨fitB_rep (by omega), by rw [List.length_replicate]; omega⟩, by omega, by omega, by omega, by omega⟩, rfl⟩
    · exact Dr.leaf ⟨_, _, _, ⟨⟨hq1, by omega⟩, by omega, by omega, by omega, by omega⟩, rfl⟩
  · exact Dr.leaf ⟨_, _, _, ⟨⟨hq1, by omega⟩, by omega, by omega, by omega, by omega⟩, rfl⟩
noncomputable def g_s_l01Cur_badText (cc : List Int) (ca : Int) (cs : Int) (n : Int) : List Int × Int × Int := Classical.epsilon fun g => ((fitB (g).1 = true ∧ (((g).1.length : Nat) : Int) ≤ n + 402) ∧ 0 ≤ (g).2.1 ∧ (g).2.1 ≤ ca + (8 + 3 * n) ∧ 0 ≤ (g).2.2 ∧ (g).2.2 < 65536) ∧ ∀ K : Ret → Option Ret, T_s_l01Cur_badText cc ca cs n K = K (.l .deep bytesR (g).1, [.io [.l .no bytesR cc, .s (.int .i64 (g).2.1), .s (.int .i64 (g).2.2)]])
theorem gs_s_l01Cur_badText (cc : List Int) (ca : Int) (cs : Int) (n : Int) (h : (curB 1000000000000000000 cc ca cs && (decide (0 ≤ n) && decide (n ≤ 1000))) = true) : ((fitB (g_s_l01Cur_badText cc ca cs n).1 = true ∧ (((g_s_l01Cur_badText cc ca cs n).1.length : Nat) : Int) ≤ n + 402) ∧ 0 ≤ (g_s_l01Cur_badText cc ca cs n).2.1 ∧ (g_s_l01Cur_badText cc ca cs n).2.1 ≤ ca + (8 + 3 * n) ∧ 0 ≤ (g_s_l01Cur_badText cc ca cs n).2.2 ∧ (g_s_l01Cur_badText cc ca cs n).2.2 < 65536) ∧ ∀ K : Ret → Option Ret, T_s_l01Cur_badText cc ca cs n K = K (.l .deep bytesR (g_s_l01Cur_badText cc ca cs n).1, [.io [.l .no bytesR cc, .s (.int .i64 (g_s_l01Cur_badText cc ca cs n).2.1), .s (.int .i64 (g_s_l01Cur_badText cc ca cs n).2.2)]]) := by
  obtain ⟨y, a, s, hy, hk⟩ := x_s_l01Cur_badText cc ca cs n h
  exact Classical.epsilon_spec (p := fun g : List Int × Int × Int => ((fitB (g).1 = true ∧ (((g).1.length : Nat) : Int) ≤ n + 402) ∧ 0 ≤ (g).2.1 ∧ (g).2.1 ≤ ca + (8 + 3 * n) ∧ 0 ≤ (g).2.2 ∧ (g).2.2 < 65536) ∧ ∀ K : Ret → Option Ret, T_s_l01Cur_badText cc ca cs n K = K (.l .deep bytesR (g).1, [.io [.l .no bytesR cc, .s (.int .i64 (g).2.1), .s (.int .i64 (g).2.2)]])) ⟨⟨y, a, s⟩, hy, hk⟩
noncomputable def B_s_l01Cur_badText (cc : List Int) (ca : Int) (cs : Int) (n : Int) (k : (List Int) → (Int) → (Int) → Option Ret) : Option Ret := bif curB 1000000000000000000 cc ca cs && (decide (0 ≤ n) && decide (n ≤ 1000)) then k (g_s_l01Cur_badText cc ca cs n).1 (g_s_l01Cur_badText cc ca cs n).2.1 (g_s_l01Cur_badText cc ca cs n).2.2 else none
theorem b_s_l01Cur_badText (cc : List Int) (ca : Int) (cs : Int) (n : Int) (h : (curB 1000000000000000000 cc ca cs && (decide (0 ≤ n) && decide (n ≤ 1000))) = true) : ∃ (y : List Int) (a : Int) (s : Int), ((fitB y = true ∧ ((y.length : Nat) : Int) ≤ n + 402) ∧ 0 ≤ a ∧ a ≤ ca + (8 + 3 * n) ∧ 0 ≤ s ∧ s < 65536) ∧ ∀ k, B_s_l01Cur_badText cc ca cs n k = k y a s :=
  ⟨(g_s_l01Cur_badText cc ca cs n).1, (g_s_l01Cur_badText cc ca cs n).2.1, (g_s_l01Cur_badText cc ca cs n).2.2, (gs_s_l01Cur_badText cc ca cs n h).1, fun k => by unfold B_s_l01Cur_badText; rw [h]; rfl⟩
def SB_s_l01Cur_badText (B : (List Int) → (Int) → (Int) → (Int) → ((List Int) → (Int) → (Int) → Option Ret) → Option Ret) : Sm := S_B [.sh (.io (.cons (.l .no bytesR) (.cons (.int .i64) (.cons (.int .i64) .nil)))), .i] (fun d K => B d.1.1 d.1.2.1 d.1.2.2.1 d.2.1 (fun y a s => K (.l .deep bytesR y, [.io [.l .no bytesR d.1.1, .s (.int .i64 a), .s (.int .i64 s)]])))
theorem okS_s_l01Cur_badText : OkFn prog I N.s_l01Cur_badText false (SB_s_l01Cur_badText B_s_l01Cur_badText) := okN (ok_fn (memc okS_s_l01Cur_text (memc okS_s_l01Cur_pick (memc okS_s_l01Cur_once mem0))) (l := ls_s_l01Cur_badText) (p := []) (ls := []) (lend := []) (focus := false) (fuel := 0) (give := []) (fn := F.s_l01Cur_badText) (by kernel_rfl) (by kernel_rfl) (by kernel_rfl) (by kernel_rfl) (cs := []) (by kernel_rfl) loops0) (S_B_of fun d K q hq => by
  refine (e_s_l01Cur_badText d.1.1 d.1.2.1 d.1.2.2.1 d.2.1 K).trans ?_
  unfold B_s_l01Cur_badText at hq
  cases hp : (curB 1000000000000000000 d.1.1 d.1.2.1 d.1.2.2.1 && (decide (0 ≤ d.2.1) && decide (d.2.1 ≤ 1000))) with
  | false => rw [hp] at hq; cases hq
  | true =>
    rw [hp] at hq
    exact ((gs_s_l01Cur_badText d.1.1 d.1.2.1 d.1.2.2.1 d.2.1 hp).2 K).trans hq)
end Go.Ev.Seat
end
section
/- s_l01Cur_place: its contract. -/
namespace Go.Ev.Seat
open Go.RowKit
set_option maxRecDepth 100000
set_option linter.unusedVariables false
set_option linter.unusedSimpArgs false
noncomputable abbrev ls_s_l01Cur_place : List (Nat × Bool × Sm) := [(N.s_l01Cur_pick, false, (SB_s_l01Cur_pick B_s_l01Cur_pick)), (N.s_l01Cur_raw, false, (SB_s_l01Cur_raw B_s_l01Cur_raw))]
noncomputable abbrev E_s_l01Cur_place : Env := En ls_s_l01Cur_place [] [] [] false 0 []
noncomputable def T_s_l01Cur_place (cc : List Int) (ca : Int) (cs : Int) (n : Int) (K : Ret → Option Ret) : Option Ret := (B_s_l01Cur_pick cc ca cs (if (IntKind.wrap .i64 (n + (1 : Int))) > (1 : Int) then (IntKind.wrap .i64 (n + (1 : Int))) else (1 : Int)) (fun y0 y1 y2 => (B_s_l01Cur_pick cc y1 y2 (if (IntKind.wrap .i64 (n + (1 : Int))) > (1 : Int) then (IntKind.wrap .i64 (n + (1 : Int))) else (1 : Int)) (fun y3 y4 y5 => (B_s_l01Cur_raw cc y4 y5 (fun y6 y7 y8 => (B_s_l01Cur_pick cc y7 y8 (5 : Int) (fun y9 y10 y11 => (bif ((decide ((0 : Int) ≤ y9)) && (decide (y9 < (((List.length (y0 :: (y3 :: (n :: ((IntKind.wrap .i64 (n + (1 : Int))) :: (y6 :: ([] : List Int))))))) : Nat) : Int)))) then K ((.s (.int .i64 (List.getD (y0 :: (y3 :: (n :: ((IntKind.wrap .i64 (n + (1 : Int))) :: (y6 :: ([] : List Int)))))) (Int.toNat y9) (0 : Int)))), [(.io [(.l .no bytesR cc), (.s (.int .i64 y10)), (.s (.int .i64 y11))])]) else none)))))))))
theorem e_s_l01Cur_place (cc : List Int) (ca : Int) (cs : Int) (n : Int) (K : Ret → Option Ret) : evF E_s_l01Cur_place false F.s_l01Cur_place [.io [.l .no bytesR cc, .s (.int .i64 ca), .s (.int .i64 cs)], .s (.int .i64 n)] K = T_s_l01Cur_place cc ca cs n K := by kernel_rfl
theorem x_s_l01Cur_place (cc : List Int) (ca : Int) (cs : Int) (n : Int) (h : (curB 2000000000000000000 cc ca cs && (decide (0 ≤ n) && decide (n ≤ 1000))) = true) : ∃ (y : Int) (a : Int) (s : Int), (0 ≤ a ∧ a ≤ ca + 6 ∧ 0 ≤ s ∧ s < 65536) ∧ ∀ K : Ret → Option Ret, T_s_l01Cur_place cc ca cs n K = K (.s (.int .i64 y), [.io [.l .no bytesR cc, .s (.int .i64 a), .s (.int .i64 s)]]) := by
  suffices hd : Dr (fun r : Ret => ∃ (y : Int) (a : Int) (s : Int), (0 ≤ a ∧ a ≤ ca + 6 ∧ 0 ≤ s ∧ s < 65536) ∧ r = (.s (.int .i64 y), [.io [.l .no bytesR cc, .s (.int .i64 a), .s (.int .i64 s)]])) (fun K : Ret → Option Ret => T_s_l01Cur_place cc ca cs n K) by
    obtain ⟨_, ⟨y, a, s, hp, rfl⟩, hk⟩ := hd
    exact ⟨y, a, s, hp, hk⟩
  obtain ⟨h, hpre⟩ := (Bool.and_eq_true _ _).mp h
  obtain ⟨hf, h2, h3, h4, h5⟩ := curB_iff.1 h
  have hl := fitB_len hf
  unfold T_s_l01Cur_place
  simp only [Bool.and_eq_true, decide_eq_true_eq] at hpre
  rw [wrap_in (n := n + 1) (by omega) (by omega)]
  obtain ⟨m, hm, hm1, hm2⟩ : ∃ m : Int, (if n + 1 > (1 : Int) then n + 1 else (1 : Int)) = m ∧ 1 ≤ m ∧ m ≤ n + 1 := by
    by_cases q : n + 1 > (1 : Int)
    · rw [if_pos q]; exact ⟨_, rfl, by omega, by omega⟩
    · rw [if_neg q]; exact ⟨_, rfl, by omega, by omega⟩
  rw [hm]
  refine Dr.b3 (b_s_l01Cur_pick _ _ _ _ (curB_iff.2 ⟨hf, by omega, by omega, by omega, by omega⟩)) (fun y0 a0 s0 h0 => ?_)
  refine Dr.b3 (b_s_l01Cur_pick _ _ _ _ (curB_iff.2 ⟨hf, by omega, by omega, by omega, by omega⟩)) (fun y1 a1 s1 h1 => ?_)
  refine Dr.b3 (b_s_l01Cur_raw _ _ _ (curB_iff.2 ⟨hf, by omega, by omega, by omega, by omega⟩)) (fun y2 a2 s2 h2 => ?_)
  refine Dr.b3 (b_s_l01Cur_pick _ _ _ _ (curB_iff.2 ⟨hf, by omega, by omega, by omega, by omega⟩)) (fun y3 a3 s3 h3 => ?_)
  refine Dr.must (by simp only [List.length_cons, List.length_nil, Bool.and_eq_true, decide_eq_true_eq]; omega) ?_
  exact Dr.leaf ⟨_, _, _, ⟨by omega, by omega, by omega, by omega⟩, rfl⟩
noncomputable def g_s_l01Cur_place (cc : List Int) (ca : Int) (cs : Int) (n : Int) : Int × Int × Int := Classical.epsilon fun g => (0 ≤ (g).2.1 ∧ (g).2.1 ≤ ca + 6 ∧ 0 ≤ (g).2.2 ∧ (g).2.2 < 65536) ∧ ∀ K : Ret → Option Ret, T_s_l01Cur_place cc ca cs n K = K (.s (.int .i64 (g).1), [.io [.l .no bytesR cc, .s (.int .i64 (g).2.1), .s (.int .i64 (g).2.2)]])
theorem gs_s_l01Cur_place (cc : List Int) (ca : Int) (cs : Int) (n : Int) (h : (curB 2000000000000000000 cc ca cs && (decide (0 ≤ n) && decide (n ≤ 1000))) = true) : (0 ≤ (g_s_l01Cur_place cc ca cs n).2.1 ∧ (g_s_l01Cur_place cc ca cs n).2.1 ≤ ca + 6 ∧ 0 ≤ (g_s_l01Cur_place cc ca cs n).2.2 ∧ (g_s_l01Cur_place cc ca cs n).2.2 < 65536) ∧ ∀ K : Ret → Option Ret, T_s_l01Cur_place cc ca cs n K = K (.s (.int .i64 (g_s_l01Cur_place cc ca cs n).1), [.io [.l .no bytesR cc, .s (.int .i64 (g_s_l01Cur_place cc ca cs n).2.1), .s (.int .i64 (g_s_l01Cur_place cc ca cs n).2.2)]]) := by
  obtain ⟨y, a, s, hy, hk⟩ := x_s_l01Cur_place cc ca cs n h
  exact Classical.epsilon_spec (p := fun g : Int × Int × Int => (0 ≤ (g).2.1 ∧ (g).2.1 ≤ ca + 6 ∧ 0 ≤ (g).2.2 ∧ (g).2.2 < 65536) ∧ ∀ K : Ret → Option Ret, T_s_l01Cur_place cc ca cs n K = K (.s (.int .i64 (g).1), [.io [.l .no bytesR cc, .s (.int .i64 (g).2.1), .s (.int .i64 (g).2.2)]])) ⟨⟨y, a, s⟩, hy, hk⟩
noncomputable def B_s_l01Cur_place (cc : List Int) (ca : Int) (cs : Int) (n : Int) (k : (Int) → (Int) → (Int) → Option Ret) : Option Ret := bif curB 2000000000000000000 cc ca cs && (decide (0 ≤ n) && decide (n ≤ 1000)) then k (g_s_l01Cur_place cc ca cs n).1 (g_s_l01Cur_place cc ca cs n).2.1 (g_s_l01Cur_place cc ca cs n).2.2 else none
theorem b_s_l01Cur_place (cc : List Int) (ca : Int) (cs : Int) (n : Int) (h : (curB 2000000000000000000 cc ca cs && (decide (0 ≤ n) && decide (n ≤ 1000))) = true) : ∃ (y : Int) (a : Int) (s : Int), (0 ≤ a ∧ a ≤ ca + 6 ∧ 0 ≤ s ∧ s < 65536) ∧ ∀ k, B_s_l01Cur_place cc ca cs n k = k y a s :=
  ⟨(g_s_l01Cur_place cc ca cs n).1, (g_s_l01Cur_place cc ca cs n).2.1, (g_s_l01Cur_place cc ca cs n).2.2, (gs_s_l01Cur_place cc ca cs n h).1, fun k => by unfold B_s_l01Cur_place; rw [h]; rfl⟩
def SB_s_l01Cur_place (B : (List Int) → (Int) → (Int) → (Int) → ((Int) → (Int) → (Int) → Option Ret) → Option Ret) : Sm := S_B [.sh (.io (.cons (.l .no bytesR) (.cons (.int .i64) (.cons (.int .i64) .nil)))), .i] (fun d K => B d.1.1 d.1.2.1 d.1.2.2.1 d.2.1 (fun y a s => K (.s (.int .i64 y), [.io [.l .no bytesR d.1.1, .s (.int .i64 a), .s (.int .i64 s)]])))
theorem okS_s_l01Cur_place : OkFn prog I N.s_l01Cur_place false (SB_s_l01Cur_place B_s_l01Cur_place) := okN (ok_fn (memc okS_s_l01Cur_pick (memc okS_s_l01Cur_raw mem0)) (l := ls_s_l01Cur_place) (p := []) (ls := []) (lend := []) (focus := false) (fuel := 0) (give := []) (fn := F.s_l01Cur_place) (by kernel_rfl) (by kernel_rfl) (by kernel_rfl) (by kernel_rfl) (cs := []) (by kernel_rfl) loops0) (S_B_of fun d K q hq => by
  refine (e_s_l01Cur_place d.1.1 d.1.2.1 d.1.2.2.1 d.2.1 K).trans ?_
  unfold B_s_l01Cur_place at hq
  cases hp : (curB 2000000000000000000 d.1.1 d.1.2.1 d.1.2.2.1 && (decide (0 ≤ d.2.1) && decide (d.2.1 ≤ 1000))) with
  | false => rw [hp] at hq; cases hq
  | true =>
    rw [hp] at hq
    exact ((gs_s_l01Cur_place d.1.1 d.1.2.1 d.1.2.2.1 d.2.1 hp).2 K).trans hq)
end Go.Ev.Seat
end
section
/- s_DrawRuneAt: its contract. -/
namespace Go.Ev.Seat
open Go.RowKit
set_option maxRecDepth 100000
set_option linter.unusedVariables false
set_option linter.unusedSimpArgs false
noncomputable abbrev ls_s_DrawRuneAt : List (Nat × Bool × Sm) := [(N.s_l01Open, false, S_s_l01Open), (N.s_l01Cur_badText, false, (SB_s_l01Cur_badText B_s_l01Cur_badText)), (N.s_l01Cur_place, false, (SB_s_l01Cur_place B_s_l01Cur_place))]
noncomputable abbrev E_s_DrawRuneAt : Env := En ls_s_DrawRuneAt [] [] [] false 0 []
noncomputable def T_s_DrawRuneAt (code : List Int) (K : Ret → Option Ret) : Option Ret := (bif (fitB code) then (B_s_l01Cur_badText code (0 : Int) (seedD code) (30 : Int) (fun y0 y1 y2 => (B_s_l01Cur_place code y1 y2 (if (((List.length y0) : Nat) : Int) < (200 : Int) then (((List.length y0) : Nat) : Int) else (200 : Int)) (fun y3 y4 y5 => K ((.t [(.l .deep bytesR y0), (.s (.int .i64 y3))]), []))))) else none)
theorem e_s_DrawRuneAt (code : List Int) (K : Ret → Option Ret) : evF E_s_DrawRuneAt false F.s_DrawRuneAt [.l .no bytesR code] K = T_s_DrawRuneAt code K := by kernel_rfl
theorem x_s_DrawRuneAt (code : List Int) (h : (fitB code) = true) : ∃ (t : List Int) (u : Int), (fitB t = true ∧ t.length ≤ 432) ∧ ∀ K : Ret → Option Ret, T_s_DrawRuneAt code K = K (.t [.l .deep bytesR t, .s (.int .i64 u)], []) := by
  suffices hd : Dr (fun r : Ret => ∃ (t : List Int) (u : Int), (fitB t = true ∧ t.length ≤ 432) ∧ r = (.t [.l .deep bytesR t, .s (.int .i64 u)], [])) (fun K : Ret → Option Ret => T_s_DrawRuneAt code K) by
    obtain ⟨_, ⟨t, u, hp, rfl⟩, hk⟩ := hd
    exact ⟨t, u, hp, hk⟩
  have hs : 0 ≤ seedD code ∧ seedD code < 65536 := by unfold seedD; omega
  have hl := fitB_len h
  unfold T_s_DrawRuneAt
  refine Dr.must h ?_
  refine Dr.b3 (b_s_l01Cur_badText _ _ _ _ ((Bool.and_eq_true _ _).mpr ⟨curB_iff.2 ⟨h, by omega, by omega, by omega, by omega⟩, by simp only [Bool.and_eq_true, decide_eq_true_eq]; omega⟩)) (fun v0_0 a0 s0 hy0 => ?_)
  obtain ⟨m, hm, hm1, hm2⟩ : ∃ m : Int, (if (((List.length v0_0) : Nat) : Int) < (200 : Int) then (((List.length v0_0) : Nat) : Int) else (200 : Int)) = m ∧ 0 ≤ m ∧ m ≤ 200 := by
    by_cases q : (((List.length v0_0) : Nat) : Int) < 200
    · rw [if_pos q]; exact ⟨_, rfl, by omega, by omega⟩
    · rw [if_neg q]; exact ⟨_, rfl, by omega, by omega⟩
  rw [hm]
  refine Dr.b3 (b_s_l01Cur_place _ _ _ _ ((Bool.and_eq_true _ _).mpr ⟨curB_iff.2 ⟨h, by omega, by omega, by omega, by omega⟩, by simp only [Bool.and_eq_true, decide_eq_true_eq]; omega⟩)) (fun u a3 s3 hy3 => ?_)
  exact Dr.leaf ⟨_, _, ⟨hy0.1.1, by omega⟩, rfl⟩
noncomputable def g_s_DrawRuneAt (code : List Int) : List Int × Int := Classical.epsilon fun g => (fitB (g).1 = true ∧ (g).1.length ≤ 432) ∧ ∀ K : Ret → Option Ret, T_s_DrawRuneAt code K = K (.t [.l .deep bytesR (g).1, .s (.int .i64 (g).2)], [])
theorem gs_s_DrawRuneAt (code : List Int) (h : (fitB code) = true) : (fitB (g_s_DrawRuneAt code).1 = true ∧ (g_s_DrawRuneAt code).1.length ≤ 432) ∧ ∀ K : Ret → Option Ret, T_s_DrawRuneAt code K = K (.t [.l .deep bytesR (g_s_DrawRuneAt code).1, .s (.int .i64 (g_s_DrawRuneAt code).2)], []) := by
  obtain ⟨t, u, hy, hk⟩ := x_s_DrawRuneAt code h
  exact Classical.epsilon_spec (p := fun g : List Int × Int => (fitB (g).1 = true ∧ (g).1.length ≤ 432) ∧ ∀ K : Ret → Option Ret, T_s_DrawRuneAt code K = K (.t [.l .deep bytesR (g).1, .s (.int .i64 (g).2)], [])) ⟨⟨t, u⟩, hy, hk⟩
noncomputable def B_s_DrawRuneAt (code : List Int) (k : (List Int) → (Int) → Option Ret) : Option Ret := bif fitB code then k (g_s_DrawRuneAt code).1 (g_s_DrawRuneAt code).2 else none
theorem b_s_DrawRuneAt (code : List Int) (h : (fitB code) = true) : ∃ (t : List Int) (u : Int), (fitB t = true ∧ t.length ≤ 432) ∧ ∀ k, B_s_DrawRuneAt code k = k t u :=
  ⟨(g_s_DrawRuneAt code).1, (g_s_DrawRuneAt code).2, (gs_s_DrawRuneAt code h).1, fun k => by unfold B_s_DrawRuneAt; rw [h]; rfl⟩
def SB_s_DrawRuneAt (B : (List Int) → ((List Int) → (Int) → Option Ret) → Option Ret) : Sm := S_B [.l bytesR] (fun d K => B d.1 (fun t u => K (.t [.l .deep bytesR t, .s (.int .i64 u)], [])))
theorem okS_s_DrawRuneAt : OkFn prog I N.s_DrawRuneAt false (SB_s_DrawRuneAt B_s_DrawRuneAt) := okN (ok_fn (memc okS_s_l01Open (memc okS_s_l01Cur_badText (memc okS_s_l01Cur_place mem0))) (l := ls_s_DrawRuneAt) (p := []) (ls := []) (lend := []) (focus := false) (fuel := 0) (give := []) (fn := F.s_DrawRuneAt) (by kernel_rfl) (by kernel_rfl) (by kernel_rfl) (by kernel_rfl) (cs := []) (by kernel_rfl) loops0) (S_B_of fun d K q hq => by
  refine (e_s_DrawRuneAt d.1 K).trans ?_
  unfold B_s_DrawRuneAt at hq
  cases hp : (fitB d.1) with
  | false => rw [hp] at hq; cases hq
  | true =>
    rw [hp] at hq
    exact ((gs_s_DrawRuneAt d.1 hp).2 K).trans hq)
end Go.Ev.Seat
end
section
/- s_l01Rune: its contract. -/
namespace Go.Ev.Seat
open Go.RowKit
set_option maxRecDepth 100000
set_option linter.unusedVariables false
set_option linter.unusedSimpArgs false
def z_s_l01Rune_18_0 (x0 : List Int) (x1 : Int) (x7 : Int) (x8 : Int) : St := { tm := ([(.l .no bytesR x0), (.s (.int .i64 x1)), .x, .x, .x, .x, .x, (.s (.int .i64 x7)), (.s (.int .i64 x8))] ++ List.replicate 65 .x), ob := [], nx := 0, io := [] }
def sh_s_l01Rune_18_0 : Ss := { tm := (.cons (.l .no bytesR) (.cons (.int .i64) (.cons (.x) (.cons (.x) (.cons (.x) (.cons (.x) (.cons (.x) (.cons (.int .i64) (.cons (.int .i64) (.cons (.int .i64) (xsh 64))))))))))), ob := .nil, nx := 0, io := .nil }
def d_s_l01Rune_18_0 (x0 : List Int) (x1 : Int) (x7 : Int) (x8 : Int) (x9 : Int) : sh_s_l01Rune_18_0.T := ((x0, (x1, ((), ((), ((), ((), ((), (x7, (x8, (x9, xd 64)))))))))), (), ())
def s_s_l01Rune_18_0 (x0 : List Int) (x1 : Int) (x7 : Int) (x8 : Int) (x9 : Int) : St := { tm := ([(.l .no bytesR x0), (.s (.int .i64 x1)), .x, .x, .x, .x, .x, (.s (.int .i64 x7)), (.s (.int .i64 x8)), (.s (.int .i64 x9))] ++ List.replicate 64 .x), ob := [], nx := 0, io := [] }
theorem se_s_l01Rune_18_0 (x0 : List Int) (x1 : Int) (x7 : Int) (x8 : Int) (x9 : Int) : sh_s_l01Rune_18_0.mk' (d_s_l01Rune_18_0 x0 x1 x7 x8 x9) = (s_s_l01Rune_18_0 x0 x1 x7 x8 x9) := by kernel_rfl
def w_s_l01Rune_18_0 (d : sh_s_l01Rune_18_0.T) (f : (List Int) → Int → Int → Int → Int → Option Ret) : Option Ret := match d with | ((x0, (x1, (_, (_, (_, (_, (_, (x7, (x8, (x9, _)))))))))), _, _) => f x0 x1 x7 x8 x9
noncomputable def P_s_l01Rune_18_0 (x0 : List Int) (x1 : Int) (x7 : Int) (x8 : Int) (x9 : Int) (nx0 : (List Int) → Int → Int → Int → Int → Option Ret) (k0 : (List Int) → Int → Int → Int → Option Ret) : Option Ret := (bif (decide (x9 < x7)) then (bif ((decide ((0 : Int) ≤ (IntKind.wrap .i64 (x1 + x9)))) && (decide ((IntKind.wrap .i64 (x1 + x9)) < (((List.length x0) : Nat) : Int)))) then (nx0 x0 x1 x7 (IntKind.wrap .i64 ((IntKind.wrap .i64 ((IntKind.wrap .i64 ((64 : Int) * x8)) + (IntKind.wrap .i64 (List.getD x0 (Int.toNat (IntKind.wrap .i64 (x1 + x9))) (0 : Int))))) - (128 : Int))) (IntKind.wrap .i64 (x9 + (1 : Int)))) else none) else (k0 x0 x1 x7 x8))
noncomputable def Q_s_l01Rune_18_0 : Nat → (List Int) → Int → Int → Int → Int → ((List Int) → Int → Int → Int → Option Ret) → Option Ret
  | 0, _, _, _, _, _, _ => none
  | m + 1, x0, x1, x7, x8, x9, k0 => P_s_l01Rune_18_0 x0 x1 x7 x8 x9 (fun x0 x1 x7 x8 x9 => (Q_s_l01Rune_18_0 m x0 x1 x7 x8 x9 k0)) k0
noncomputable def R_s_l01Rune_18_0 (x0 : List Int) (x1 : Int) (x7 : Int) (x8 : Int) (x9 : Int) (k0 : (List Int) → Int → Int → Int → Option Ret) : Option Ret := Q_s_l01Rune_18_0 (List.length x0 + x1.toNat + x7.toNat + x8.toNat + x9.toNat + 2) x0 x1 x7 x8 x9 k0
noncomputable def W_s_l01Rune_18 : LoopFn := (fun (σ : St) (K : Ex → St → Option Ret) => (match sh_s_l01Rune_18_0.un σ with | some d => w_s_l01Rune_18_0 d (fun x0 x1 x7 x8 x9 => R_s_l01Rune_18_0 x0 x1 x7 x8 x9 (fun x0 x1 x7 x8 => (K (.ext 1) (z_s_l01Rune_18_0 x0 x1 x7 x8)))) | none => none))
noncomputable abbrev pl_s_l01Rune : List (Nat × Plan × List Nat) := [(21, takeB [0, 3, 4, 5, 6, 7, 8] (.fork (.more 1 (.fork (.more 2 (.fork (.one 9 (takes [10]))) (.one 9 (.fork (.one 2 (takes [10])))))) (.one 9 (.fork (.one 1 (.fork (.one 2 (takes [10])))))))), [])]
noncomputable abbrev ls_s_l01Rune : List (Nat × Bool × Sm) := [(N.s_RuneBytes, true, S_s_RuneBytes)]
noncomputable abbrev E_s_l01Rune : Env := En ls_s_l01Rune pl_s_l01Rune [(18, [0,1,7,8,9], [0,1,4,5,7,8], W_s_l01Rune_18)] [] false 0 []
noncomputable abbrev U_s_l01Rune_18 := rounds (run E_s_l01Rune (bodyOf F.s_l01Rune 18)) [0,1,7,8,9] [0,1,4,5,7,8]
theorem st_s_l01Rune_18_0 (m : Nat) (x0 : List Int) (x1 : Int) (x7 : Int) (x8 : Int) (x9 : Int) (K : Ex → St → Option Ret) : U_s_l01Rune_18 (m + 1) (s_s_l01Rune_18_0 x0 x1 x7 x8 x9) K = P_s_l01Rune_18_0 x0 x1 x7 x8 x9 (fun x0 x1 x7 x8 x9 => (U_s_l01Rune_18 m (s_s_l01Rune_18_0 x0 x1 x7 x8 x9) K)) (fun x0 x1 x7 x8 => (K (.ext 1) (z_s_l01Rune_18_0 x0 x1 x7 x8))) := by kernel_rfl
theorem q_s_l01Rune_18 (K : Ex → St → Option Ret) : ∀ m : Nat, (∀ (x0 : List Int) (x1 : Int) (x7 : Int) (x8 : Int) (x9 : Int), U_s_l01Rune_18 m (s_s_l01Rune_18_0 x0 x1 x7 x8 x9) K = Q_s_l01Rune_18_0 m x0 x1 x7 x8 x9 (fun x0 x1 x7 x8 => (K (.ext 1) (z_s_l01Rune_18_0 x0 x1 x7 x8))))
  | 0 => (fun _ _ _ _ _ => rfl)
  | m + 1 => (fun x0 x1 x7 x8 x9 => (by rw [st_s_l01Rune_18_0, show (fun x0 x1 x7 x8 x9 => (U_s_l01Rune_18 m (s_s_l01Rune_18_0 x0 x1 x7 x8 x9) K)) = (fun x0 x1 x7 x8 x9 => (Q_s_l01Rune_18_0 m x0 x1 x7 x8 x9 (fun x0 x1 x7 x8 => (K (.ext 1) (z_s_l01Rune_18_0 x0 x1 x7 x8))))) from funext fun x0 => funext fun x1 => funext fun x7 => funext fun x8 => funext fun x9 => (q_s_l01Rune_18 K m) x0 x1 x7 x8 x9]; rfl))
theorem loopK_s_l01Rune_18 : LoopOk E_s_l01Rune (bodyOf F.s_l01Rune 18) := by
  refine loopW_ok (n := 18) (F := W_s_l01Rune_18) (by kernel_rfl) rfl (li := [0,1,7,8,9]) (lo := [0,1,4,5,7,8]) rfl (fun σ K r hr => ?_)
  unfold W_s_l01Rune_18 at hr
  split at hr
  · rename_i d hd
    rw [Ss.un_mk hd]
    exact ⟨_, ((congrArg (fun z => U_s_l01Rune_18 _ z K) (se_s_l01Rune_18_0 _ _ _ _ _)).trans ((q_s_l01Rune_18 K _) _ _ _ _ _)).trans hr⟩
  · cases hr
noncomputable def T_s_l01Rune (d : List Int) (k : Int) (K : Ret → Option Ret) : Option Ret := (bif (decide (k < (0 : Int))) then K ((.t [(.s (.int .i64 (-(1 : Int)))), (.s (.int .i64 (0 : Int)))]), []) else (bif (decide (k ≥ (((List.length d) : Nat) : Int))) then K ((.t [(.s (.int .i64 (-(1 : Int)))), (.s (.int .i64 (0 : Int)))]), []) else (bif ((decide ((0 : Int) ≤ k)) && (decide (k < (((List.length d) : Nat) : Int)))) then (bif (decide ((IntKind.wrap .i64 (List.getD d (Int.toNat k) (0 : Int))) ≥ (240 : Int))) then (bif (decide ((4 : Int) > (IntKind.wrap .i64 ((((List.length d) : Nat) : Int) - k)))) then K ((.t [(.s (.int .i64 (-(1 : Int)))), (.s (.int .i64 (0 : Int)))]), []) else (R_s_l01Rune_18_0 d k (4 : Int) (IntKind.wrap .i64 ((IntKind.wrap .i64 (List.getD d (Int.toNat k) (0 : Int))) - (240 : Int))) (1 : Int) (fun y0 y1 y2 y3 => (bif (((decide ((0 : Int) ≤ y1)) && (decide (y1 ≤ (IntKind.wrap .i64 (y1 + y2))))) && (decide ((IntKind.wrap .i64 (y1 + y2)) ≤ (((List.length y0) : Nat) : Int)))) then (meet ((meet ((bif (!((ByteArray.toList (bstr (encD y3))) == (ByteArray.toList (bstr (List.drop (Int.toNat y1) (List.take (Int.toNat (IntKind.wrap .i64 (y1 + y2))) y0)))))) then K ((.t [(.s (.int .i64 (-(1 : Int)))), (.s (.int .i64 (0 : Int)))]), []) else K ((.t [(.s (.int .i64 y3)), (.s (.int .i64 y2))]), []))) ((bif (!((ByteArray.toList (bstr (encD y3))) == (ByteArray.toList (bstr (List.drop (Int.toNat y1) (List.take (Int.toNat (IntKind.wrap .i64 (y1 + y2))) y0)))))) then K ((.t [(.s (.int .i64 (-(1 : Int)))), (.s (.int .i64 (0 : Int)))]), []) else K ((.t [(.s (.int .i64 y3)), (.s (.int .i64 y2))]), []))))) ((bif (!((ByteArray.toList (bstr (encD y3))) == (ByteArray.toList (bstr (List.drop (Int.toNat y1) (List.take (Int.toNat (IntKind.wrap .i64 (y1 + y2))) y0)))))) then K ((.t [(.s (.int .i64 (-(1 : Int)))), (.s (.int .i64 (0 : Int)))]), []) else K ((.t [(.s (.int .i64 y3)), (.s (.int .i64 y2))]), [])))) else none)))) else (bif (decide ((IntKind.wrap .i64 (List.getD d (Int.toNat k) (0 : Int))) ≥ (224 : Int))) then (bif (decide ((3 : Int) > (IntKind.wrap .i64 ((((List.length d) : Nat) : Int) - k)))) then K ((.t [(.s (.int .i64 (-(1 : Int)))), (.s (.int .i64 (0 : Int)))]), []) else (R_s_l01Rune_18_0 d k (3 : Int) (IntKind.wrap .i64 ((IntKind.wrap .i64 (List.getD d (Int.toNat k) (0 : Int))) - (224 : Int))) (1 : Int) (fun y4 y5 y6 y7 => (bif (((decide ((0 : Int) ≤ y5)) && (decide (y5 ≤ (IntKind.wrap .i64 (y5 + y6))))) && (decide ((IntKind.wrap .i64 (y5 + y6)) ≤ (((List.length y4) : Nat) : Int)))) then (meet ((meet ((bif (!((ByteArray.toList (bstr (encD y7))) == (ByteArray.toList (bstr (List.drop (Int.toNat y5) (List.take (Int.toNat (IntKind.wrap .i64 (y5 + y6))) y4)))))) then K ((.t [(.s (.int .i64 (-(1 : Int)))), (.s (.int .i64 (0 : Int)))]), []) else K ((.t [(.s (.int .i64 y7)), (.s (.int .i64 y6))]), []))) ((bif (!((ByteArray.toList (bstr (encD y7))) == (ByteArray.toList (bstr (List.drop (Int.toNat y5) (List.take (Int.toNat (IntKind.wrap .i64 (y5 + y6))) y4)))))) then K ((.t [(.s (.int .i64 (-(1 : Int)))), (.s (.int .i64 (0 : Int)))]), []) else K ((.t [(.s (.int .i64 y7)), (.s (.int .i64 y6))]), []))))) ((bif (!((ByteArray.toList (bstr (encD y7))) == (ByteArray.toList (bstr (List.drop (Int.toNat y5) (List.take (Int.toNat (IntKind.wrap .i64 (y5 + y6))) y4)))))) then K ((.t [(.s (.int .i64 (-(1 : Int)))), (.s (.int .i64 (0 : Int)))]), []) else K ((.t [(.s (.int .i64 y7)), (.s (.int .i64 y6))]), [])))) else none)))) else (bif (decide ((IntKind.wrap .i64 (List.getD d (Int.toNat k) (0 : Int))) ≥ (192 : Int))) then (bif (decide ((2 : Int) > (IntKind.wrap .i64 ((((List.length d) : Nat) : Int) - k)))) then K ((.t [(.s (.int .i64 (-(1 : Int)))), (.s (.int .i64 (0 : Int)))]), []) else (R_s_l01Rune_18_0 d k (2 : Int) (IntKind.wrap .i64 ((IntKind.wrap .i64 (List.getD d (Int.toNat k) (0 : Int))) - (192 : Int))) (1 : Int) (fun y8 y9 y10 y11 => (bif (((decide ((0 : Int) ≤ y9)) && (decide (y9 ≤ (IntKind.wrap .i64 (y9 + y10))))) && (decide ((IntKind.wrap .i64 (y9 + y10)) ≤ (((List.length y8) : Nat) : Int)))) then (meet ((meet ((bif (!((ByteArray.toList (bstr (encD y11))) == (ByteArray.toList (bstr (List.drop (Int.toNat y9) (List.take (Int.toNat (IntKind.wrap .i64 (y9 + y10))) y8)))))) then K ((.t [(.s (.int .i64 (-(1 : Int)))), (.s (.int .i64 (0 : Int)))]), []) else K ((.t [(.s (.int .i64 y11)), (.s (.int .i64 y10))]), []))) ((bif (!((ByteArray.toList (bstr (encD y11))) == (ByteArray.toList (bstr (List.drop (Int.toNat y9) (List.take (Int.toNat (IntKind.wrap .i64 (y9 + y10))) y8)))))) then K ((.t [(.s (.int .i64 (-(1 : Int)))), (.s (.int .i64 (0 : Int)))]), []) else K ((.t [(.s (.int .i64 y11)), (.s (.int .i64 y10))]), []))))) ((bif (!((ByteArray.toList (bstr (encD y11))) == (ByteArray.toList (bstr (List.drop (Int.toNat y9) (List.take (Int.toNat (IntKind.wrap .i64 (y9 + y10))) y8)))))) then K ((.t [(.s (.int .i64 (-(1 : Int)))), (.s (.int .i64 (0 : Int)))]), []) else K ((.t [(.s (.int .i64 y11)), (.s (.int .i64 y10))]), [])))) else none)))) else (bif (decide ((1 : Int) > (IntKind.wrap .i64 ((((List.length d) : Nat) : Int) - k)))) then K ((.t [(.s (.int .i64 (-(1 : Int)))), (.s (.int .i64 (0 : Int)))]), []) else (R_s_l01Rune_18_0 d k (1 : Int) (IntKind.wrap .i64 (List.getD d (Int.toNat k) (0 : Int))) (1 : Int) (fun y12 y13 y14 y15 => (bif (((decide ((0 : Int) ≤ y13)) && (decide (y13 ≤ (IntKind.wrap .i64 (y13 + y14))))) && (decide ((IntKind.wrap .i64 (y13 + y14)) ≤ (((List.length y12) : Nat) : Int)))) then (meet ((meet ((bif (!((ByteArray.toList (bstr (encD y15))) == (ByteArray.toList (bstr (List.drop (Int.toNat y13) (List.take (Int.toNat (IntKind.wrap .i64 (y13 + y14))) y12)))))) then K ((.t [(.s (.int .i64 (-(1 : Int)))), (.s (.int .i64 (0 : Int)))]), []) else K ((.t [(.s (.int .i64 y15)), (.s (.int .i64 y14))]), []))) ((bif (!((ByteArray.toList (bstr (encD y15))) == (ByteArray.toList (bstr (List.drop (Int.toNat y13) (List.take (Int.toNat (IntKind.wrap .i64 (y13 + y14))) y12)))))) then K ((.t [(.s (.int .i64 (-(1 : Int)))), (.s (.int .i64 (0 : Int)))]), []) else K ((.t [(.s (.int .i64 y15)), (.s (.int .i64 y14))]), []))))) ((bif (!((ByteArray.toList (bstr (encD y15))) == (ByteArray.toList (bstr (List.drop (Int.toNat y13) (List.take (Int.toNat (IntKind.wrap .i64 (y13 + y14))) y12)))))) then K ((.t [(.s (.int .i64 (-(1 : Int)))), (.s (.int .i64 (0 : Int)))]), []) else K ((.t [(.s (.int .i64 y15)), (.s (.int .i64 y14))]), [])))) else none))))))) else none)))
theorem e_s_l01Rune (d : List Int) (k : Int) (K : Ret → Option Ret) : evF E_s_l01Rune true F.s_l01Rune [.l .no bytesR d, .s (.int .i64 k)] K = T_s_l01Rune d k K := by kernel_rfl
theorem rune_step {m : Nat} {d : List Int} {k n r i : Int} {k0 : List Int → Int → Int → Int → Option Ret} (hd : fitB d = true) (h0 : 0 ≤ k) (hi : 0 < i) (hn : i < n) (hl : k + i < ((d.length : Nat) : Int)) (hr : -1000000000 ≤ r ∧ r ≤ 1000000000) :
    Q_s_l01Rune_18_0 (m + 1) d k n r i k0 = Q_s_l01Rune_18_0 m d k n (64 * r + d.getD (k + i).toNat 0 - 128) (i + 1) k0 := by
  have hb := fitB_get hd (k + i).toNat
  have hlen := fitB_len hd
  show P_s_l01Rune_18_0 d k n r i _ k0 = _
  unfold P_s_l01Rune_18_0
  rw [decide_eq_true hn, wrap_in (n := k + i) (by omega) (by omega), decide_eq_true (show 0 ≤ k + i by omega), decide_eq_true hl, wrap_in (n := d.getD (k + i).toNat 0) (by omega) (by omega), wrap_in (n := 64 * r) (by omega) (by omega), wrap_in (n := 64 * r + d.getD (k + i).toNat 0) (by omega) (by omega), wrap_in (n := 64 * r + d.getD (k + i).toNat 0 - 128) (by omega) (by omega), wrap_in (n := i + 1) (by omega) (by omega)]
  rfl
theorem rune_end {m : Nat} {d : List Int} {k n r i : Int} {k0 : List Int → Int → Int → Int → Option Ret} (hn : ¬ i < n) : Q_s_l01Rune_18_0 (m + 1) d k n r i k0 = k0 d k n r := by
  show P_s_l01Rune_18_0 d k n r i _ k0 = _
  unfold P_s_l01Rune_18_0
  rw [decide_eq_false hn]; rfl
theorem rune_fin {K : Ret → Option Ret} {c : Prop} [Decidable c] {r n v s : Int} (h : (if c then (r, n) else (-1, 0)) = (v, s)) :
    (bif !(decide c) then K ((.t [(.s (.int .i64 (-(1 : Int)))), (.s (.int .i64 (0 : Int)))]), []) else K ((.t [(.s (.int .i64 r)), (.s (.int .i64 n))]), [])) = K (.t [sc v, sc s], []) := by
  by_cases hc : c
  · rw [if_pos hc] at h
    obtain ⟨rfl, rfl⟩ := Prod.mk.inj h
    rw [decide_eq_true hc]; rfl
  · rw [if_neg hc] at h
    obtain ⟨h1, h2⟩ := Prod.mk.inj h
    rw [decide_eq_false hc, ← h1, ← h2]; rfl
theorem rune_part (d : List Int) (k n : Nat) : List.drop k (List.take (k + n) d) = (d.drop k).take n := by
  rw [List.drop_take]; congr 1; omega
theorem rune_k {K : Ret → Option Ret} {d xs : List Int} {k r n v s : Int} (hd : fitB d = true) (h0 : 0 ≤ k) (hn0 : 0 ≤ n) (hn : n ≤ 4) (hl : k + n ≤ ((d.length : Nat) : Int)) (hx : (d.drop k.toNat).take n.toNat = xs) (h : (if encD r = xs then (r, n) else (-1, 0)) = (v, s)) :
    (bif (((decide ((0 : Int) ≤ k)) && (decide (k ≤ (IntKind.wrap .i64 (k + n))))) && (decide ((IntKind.wrap .i64 (k + n)) ≤ (((List.length d) : Nat) : Int)))) then
       (meet
        (meet
         (bif (!((ByteArray.toList (bstr (encD r))) == (ByteArray.toList (bstr (List.drop (Int.toNat k) (List.take (Int.toNat (IntKind.wrap .i64 (k + n))) d)))))) then
          K ((.t [(.s (.int .i64 (-(1 : Int)))), (.s (.int .i64 (0 : Int)))]), [])
          else K ((.t [(.s (.int .i64 r)), (.s (.int .i64 n))]), []))
         (bif (!((ByteArray.toList (bstr (encD r))) == (ByteArray.toList (bstr (List.drop (Int.toNat k) (List.take (Int.toNat (IntKind.wrap .i64 (k + n))) d)))))) then
          K ((.t [(.s (.int .i64 (-(1 : Int)))), (.s (.int .i64 (0 : Int)))]), [])
          else K ((.t [(.s (.int .i64 r)), (.s (.int .i64 n))]), [])))
        (bif (!((ByteArray.toList (bstr (encD r))) == (ByteArray.toList (bstr (List.drop (Int.toNat k) (List.take (Int.toNat (IntKind.wrap .i64 (k + n))) d)))))) then
         K ((.t [(.s (.int .i64 (-(1 : Int)))), (.s (.int .i64 (0 : Int)))]), [])
         else K ((.t [(.s (.int .i64 r)), (.s (.int .i64 n))]), [])))
       else none) = K (.t [sc v, sc s], []) := by
  have hlen := fitB_len hd
  rw [wrap_in (n := k + n) (by omega) (by omega), decide_eq_true h0, decide_eq_true (show k ≤ k + n by omega), decide_eq_true hl]
  rw [meet_self, meet_self]
  have e : List.drop (Int.toNat k) (List.take (Int.toNat (k + n)) d) = xs := by
    rw [← hx, show (k + n).toNat = k.toNat + n.toNat by omega]; exact rune_part d _ _
  rw [e, bstr_eq (encD_byte r) (fun y hy => by
    rw [← hx] at hy
    exact fitB_mem hd (List.mem_of_mem_drop (List.mem_of_mem_take hy)))]
  exact rune_fin h
theorem list1 {xs : List Int} (h : 1 ≤ xs.length) : ∃ a t, xs = a :: t := by
  cases xs with
  | nil => simp at h
  | cons a t => exact ⟨a, t, rfl⟩
def S_s_l01Rune : Sm := S_fnR [.l bytesR, .i] (fun d => fitB d.1) (fun d => (.t [sc (valAt d.1 d.2.1), sc (szAt d.1 d.2.1)], []))
theorem v_s_l01Rune (d : List Int) (k : Int) (h : (fitB d) = true) (K : Ret → Option Ret) : T_s_l01Rune d k K = K (.t [sc (valAt d k), sc (szAt d k)], []) := by
  unfold T_s_l01Rune valAt szAt inD
  have hlen := fitB_len h
  by_cases h1 : k < 0
  · rw [decide_eq_true h1, decide_eq_false (show ¬ 0 ≤ k by omega)]; rfl
  by_cases h2 : k ≥ ((d.length : Nat) : Int)
  · rw [decide_eq_false h1, decide_eq_true h2, decide_eq_true (show 0 ≤ k by omega), decide_eq_false (show ¬ k < ((d.length : Nat) : Int) by omega)]; rfl
  have hbk := fitB_get h k.toNat
  rw [decide_eq_false h1, decide_eq_false h2, decide_eq_true (show 0 ≤ k by omega), decide_eq_true (show k < ((d.length : Nat) : Int) by omega), wrap_in (n := d.getD k.toNat 0) (by omega) (by omega), wrap_in (n := ((d.length : Nat) : Int) - k) (by omega) (by omega)]
  simp only [Bool.and_true, cond_true, cond_false]
  have hg : ∀ i : Nat, (d.drop k.toNat).getD i 0 = d.getD (k + (i : Nat)).toNat 0 := fun i => by
    rw [getD_drop]; congr 1; omega
  have hg0 := hg 0
  rw [show (k + ((0 : Nat) : Int)).toNat = k.toNat by omega] at hg0
  have hdl : (d.drop k.toNat).length = d.length - k.toNat := by simp
  have hbytes := fun i => fitB_get (fitB_drop h k.toNat) i
  by_cases c4 : d.getD k.toNat 0 ≥ 240
  · rw [decide_eq_true c4]
    by_cases s4 : (4 : Int) > ((d.length : Nat) : Int) - k
    · rw [decide_eq_true s4]
      have e := runeSz0 (short4 (xs := d.drop k.toNat) (by rw [hg0]; exact c4) (by omega))
      obtain ⟨e1, e2⟩ := Prod.mk.inj e
      rw [e1, e2]; rfl
    · rw [decide_eq_false s4]
      unfold R_s_l01Rune_18_0
      rw [wrap_in (n := d.getD k.toNat 0 - 240) (by omega) (by omega)]
      obtain ⟨m, hm⟩ : ∃ m, List.length d + k.toNat + (4 : Int).toNat + (d.getD k.toNat 0 - 240).toNat + (1 : Int).toNat + 2 = m + 4 := ⟨List.length d + k.toNat + (4 : Int).toNat + (d.getD k.toNat 0 - 240).toNat + (1 : Int).toNat + 2 - 4, by omega⟩
      have b1 := fitB_get h (k + 1).toNat
      have b2 := fitB_get h (k + (1 + 1)).toNat
      rw [hm, rune_step h (by omega) (by omega) (by omega) (by omega) (by omega), rune_step h (by omega) (by omega) (by omega) (by omega) (by omega), rune_step h (by omega) (by omega) (by omega) (by omega) (by omega), rune_end (by omega)]
      refine rune_k h (by omega) (by omega) (by omega) (by omega) (xs := [(d.drop k.toNat).getD 0 0, (d.drop k.toNat).getD 1 0, (d.drop k.toNat).getD 2 0, (d.drop k.toNat).getD 3 0]) ?_ ?_
      · obtain ⟨a, t, e⟩ := list1 (xs := d.drop k.toNat) (by omega)
        obtain ⟨b, t2, e2⟩ := list1 (xs := t) (by rw [e] at hdl; simp at hdl; omega)
        obtain ⟨c, t3, e3⟩ := list1 (xs := t2) (by rw [e, e2] at hdl; simp at hdl; omega)
        obtain ⟨f, t4, e4⟩ := list1 (xs := t3) (by rw [e, e2, e3] at hdl; simp at hdl; omega)
        rw [e, e2, e3, e4]; rfl
      · obtain ⟨a, t, e⟩ := list1 (xs := d.drop k.toNat) (by omega)
        obtain ⟨b, t2, e2⟩ := list1 (xs := t) (by rw [e] at hdl; simp at hdl; omega)
        obtain ⟨c, t3, e3⟩ := list1 (xs := t2) (by rw [e, e2] at hdl; simp at hdl; omega)
        obtain ⟨f, t4, e4⟩ := list1 (xs := t3) (by rw [e, e2, e3] at hdl; simp at hdl; omega)
        have g1 := hg 1
        have g2 := hg 2
        have g3 := hg 3
        have q0 := hbytes 0
        have q1 := hbytes 1
        have q2 := hbytes 2
        have q3 := hbytes 3
        rw [e, e2, e3, e4] at hg0 g1 g2 g3 q0 q1 q2 q3 ⊢
        rw [show (k + 1).toNat = (k + ((1 : Nat) : Int)).toNat from rfl, show (k + (1 + 1)).toNat = (k + ((2 : Nat) : Int)).toNat by congr 1, show (k + (1 + 1 + 1)).toNat = (k + ((3 : Nat) : Int)).toNat by congr 1, ← g1, ← g2, ← g3, ← hg0]
        exact dec4 (by rw [← hg0] at c4; exact c4) q0.2 q1 q2 q3
  rw [decide_eq_false c4]
  by_cases c3 : d.getD k.toNat 0 ≥ 224
  · rw [decide_eq_true c3]
    by_cases s3 : (3 : Int) > ((d.length : Nat) : Int) - k
    · rw [decide_eq_true s3]
      have e := runeSz0 (short3 (xs := d.drop k.toNat) (by rw [hg0]; exact c3) (by rw [hg0]; omega) (by omega))
      obtain ⟨e1, e2⟩ := Prod.mk.inj e
      rw [e1, e2]; rfl
    · rw [decide_eq_false s3]
      unfold R_s_l01Rune_18_0
      rw [wrap_in (n := d.getD k.toNat 0 - 224) (by omega) (by omega)]
      obtain ⟨m, hm⟩ : ∃ m, List.length d + k.toNat + (3 : Int).toNat + (d.getD k.toNat 0 - 224).toNat + (1 : Int).toNat + 2 = m + 3 := ⟨List.length d + k.toNat + (3 : Int).toNat + (d.getD k.toNat 0 - 224).toNat + (1 : Int).toNat + 2 - 3, by omega⟩
      have b1 := fitB_get h (k + 1).toNat
      rw [hm]
      simp only [cond_false, cond_true]
      rw [rune_step h (by omega) (by omega) (by omega) (by omega) (by omega), rune_step h (by omega) (by omega) (by omega) (by omega) (by omega), rune_end (by omega)]
      refine rune_k h (by omega) (by omega) (by omega) (by omega) (xs := [(d.drop k.toNat).getD 0 0, (d.drop k.toNat).getD 1 0, (d.drop k.toNat).getD 2 0]) ?_ ?_
      · obtain ⟨a, t, e⟩ := list1 (xs := d.drop k.toNat) (by omega)
        obtain ⟨b, t2, e2⟩ := list1 (xs := t) (by rw [e] at hdl; simp at hdl; omega)
        obtain ⟨c, t3, e3⟩ := list1 (xs := t2) (by rw [e, e2] at hdl; simp at hdl; omega)
        rw [e, e2, e3]; rfl
      · obtain ⟨a, t, e⟩ := list1 (xs := d.drop k.toNat) (by omega)
        obtain ⟨b, t2, e2⟩ := list1 (xs := t) (by rw [e] at hdl; simp at hdl; omega)
        obtain ⟨c, t3, e3⟩ := list1 (xs := t2) (by rw [e, e2] at hdl; simp at hdl; omega)
        have g1 := hg 1
        have g2 := hg 2
        have q0 := hbytes 0
        have q1 := hbytes 1
        have q2 := hbytes 2
        rw [e, e2, e3] at hg0 g1 g2 q0 q1 q2 ⊢
        rw [show (k + 1).toNat = (k + ((1 : Nat) : Int)).toNat from rfl, show (k + (1 + 1)).toNat = (k + ((2 : Nat) : Int)).toNat by congr 1, ← g1, ← g2, ← hg0]
        exact dec3 (by rw [← hg0] at c3; exact c3) (by rw [← hg0] at c4; exact Int.not_le.1 c4) q1 q2
  rw [decide_eq_false c3]
  by_cases c2 : d.getD k.toNat 0 ≥ 192
  · rw [decide_eq_true c2]
    by_cases s2 : (2 : Int) > ((d.length : Nat) : Int) - k
    · rw [decide_eq_true s2]
      have e := runeSz0 (short2 (xs := d.drop k.toNat) (by rw [hg0]; exact c2) (by rw [hg0]; omega) (by omega))
      obtain ⟨e1, e2⟩ := Prod.mk.inj e
      rw [e1, e2]; rfl
    · rw [decide_eq_false s2]
      unfold R_s_l01Rune_18_0
      rw [wrap_in (n := d.getD k.toNat 0 - 192) (by omega) (by omega)]
      obtain ⟨m, hm⟩ : ∃ m, List.length d + k.toNat + (2 : Int).toNat + (d.getD k.toNat 0 - 192).toNat + (1 : Int).toNat + 2 = m + 2 := ⟨List.length d + k.toNat + (2 : Int).toNat + (d.getD k.toNat 0 - 192).toNat + (1 : Int).toNat + 2 - 2, by omega⟩
      rw [hm]
      simp only [cond_false, cond_true]
      rw [rune_step h (by omega) (by omega) (by omega) (by omega) (by omega), rune_end (by omega)]
      refine rune_k h (by omega) (by omega) (by omega) (by omega) (xs := [(d.drop k.toNat).getD 0 0, (d.drop k.toNat).getD 1 0]) ?_ ?_
      · obtain ⟨a, t, e⟩ := list1 (xs := d.drop k.toNat) (by omega)
        obtain ⟨b, t2, e2⟩ := list1 (xs := t) (by rw [e] at hdl; simp at hdl; omega)
        rw [e, e2]; rfl
      · obtain ⟨a, t, e⟩ := list1 (xs := d.drop k.toNat) (by omega)
        obtain ⟨b, t2, e2⟩ := list1 (xs := t) (by rw [e] at hdl; simp at hdl; omega)
        have g1 := hg 1
        have q0 := hbytes 0
        have q1 := hbytes 1
        rw [e, e2] at hg0 g1 q0 q1 ⊢
        rw [show (k + 1).toNat = (k + ((1 : Nat) : Int)).toNat from rfl, ← g1, ← hg0]
        exact dec2 (by rw [← hg0] at c2; exact c2) (by rw [← hg0] at c3; exact Int.not_le.1 c3) q1
  rw [decide_eq_false c2, decide_eq_false (show ¬ (1 : Int) > ((d.length : Nat) : Int) - k by omega)]
  unfold R_s_l01Rune_18_0
  obtain ⟨m, hm⟩ : ∃ m, List.length d + k.toNat + (1 : Int).toNat + (d.getD k.toNat 0).toNat + (1 : Int).toNat + 2 = m + 1 := ⟨List.length d + k.toNat + (1 : Int).toNat + (d.getD k.toNat 0).toNat + (1 : Int).toNat + 2 - 1, by omega⟩
  rw [hm]
  simp only [cond_false, cond_true]
  rw [rune_end (by omega)]
  refine rune_k h (by omega) (by omega) (by omega) (by omega) (xs := [(d.drop k.toNat).getD 0 0]) ?_ ?_
  · obtain ⟨a, t, e⟩ := list1 (xs := d.drop k.toNat) (by omega)
    rw [e]; rfl
  · obtain ⟨a, t, e⟩ := list1 (xs := d.drop k.toNat) (by omega)
    have q0 := hbytes 0
    rw [e] at hg0 q0 ⊢
    rw [← hg0]
    exact dec1 q0.1 (by rw [← hg0] at c2; exact Int.not_le.1 c2)
theorem okS_s_l01Rune : OkFn prog I N.s_l01Rune true S_s_l01Rune := okN (ok_fn (memc okS_s_RuneBytes mem0) (l := ls_s_l01Rune) (p := pl_s_l01Rune) (ls := [(18, [0,1,7,8,9], [0,1,4,5,7,8], W_s_l01Rune_18)]) (lend := []) (focus := false) (fuel := 0) (give := []) (fn := F.s_l01Rune) (by kernel_rfl) (by kernel_rfl) (by kernel_rfl) (by kernel_rfl) (cs := [bodyOf F.s_l01Rune 18]) (by kernel_rfl) (loopsc loopK_s_l01Rune_18 loops0)) (S_fnR_of fun d K h => (e_s_l01Rune d.1 d.2.1 K).trans (v_s_l01Rune d.1 d.2.1 h K))
end Go.Ev.Seat
end
section
/- s_RuneSize: its contract. -/
namespace Go.Ev.Seat
open Go.RowKit
set_option maxRecDepth 100000
set_option linter.unusedVariables false
set_option linter.unusedSimpArgs false
noncomputable abbrev ls_s_RuneSize : List (Nat × Bool × Sm) := [(N.s_l01Rune, true, S_s_l01Rune)]
noncomputable abbrev E_s_RuneSize : Env := En ls_s_RuneSize [] [] [] false 0 []
noncomputable def T_s_RuneSize (d : List Int) (k : Int) (K : Ret → Option Ret) : Option Ret := (bif (fitB d) then K ((.s (.int .i64 (szAt d k))), []) else none)
theorem e_s_RuneSize (d : List Int) (k : Int) (K : Ret → Option Ret) : evF E_s_RuneSize true F.s_RuneSize [.l .no bytesR d, .s (.int .i64 k)] K = T_s_RuneSize d k K := by kernel_rfl
def S_s_RuneSize : Sm := S_fnR [.l bytesR, .i] (fun d => fitB d.1) (fun d => (sc (szAt d.1 d.2.1), []))
theorem v_s_RuneSize (d : List Int) (k : Int) (h : (fitB d) = true) (K : Ret → Option Ret) : T_s_RuneSize d k K = K (sc (szAt d k), []) := by
  unfold T_s_RuneSize; rw [h]; rfl
theorem okS_s_RuneSize : OkFn prog I N.s_RuneSize true S_s_RuneSize := okN (ok_fn (memc okS_s_l01Rune mem0) (l := ls_s_RuneSize) (p := []) (ls := []) (lend := []) (focus := false) (fuel := 0) (give := []) (fn := F.s_RuneSize) (by kernel_rfl) (by kernel_rfl) (by kernel_rfl) (by kernel_rfl) (cs := []) (by kernel_rfl) loops0) (S_fnR_of fun d K h => (e_s_RuneSize d.1 d.2.1 K).trans (v_s_RuneSize d.1 d.2.1 h K))
end Go.Ev.Seat
end
section
/- Encoding and decoding are inverse to each other. -/
set_option linter.unusedVariables false
namespace Go.Ev
open Go.RowKit
theorem rs1 {a : Int} {t : List Int} (h : a < 128) : runeSz (a :: t) = 1 := runeSz_ascii (by simp) h
theorem rs2 {a b : Int} {t : List Int} (h1 : 194 ≤ a) (h2 : a < 224) (h3 : 128 ≤ b) (h4 : b ≤ 191) : runeSz (a :: b :: t) = 2 := by
  unfold runeSz
  have e0 : (a :: b :: t).getD 0 0 = a := rfl
  have e1 : (a :: b :: t).getD 1 0 = b := rfl
  rw [e0, e1, if_neg (by simp), if_neg (by omega), if_neg (by omega), if_pos h2, if_pos ⟨by simp, h3, h4⟩]
theorem rs3 {a b c : Int} {t : List Int} (h1 : 224 ≤ a) (h2 : a < 240) (h3 : lo3 a ≤ b) (h4 : b ≤ hi3 a) (h5 : 128 ≤ c) (h6 : c ≤ 191) : runeSz (a :: b :: c :: t) = 3 := by
  unfold runeSz
  have e0 : (a :: b :: c :: t).getD 0 0 = a := rfl
  have e1 : (a :: b :: c :: t).getD 1 0 = b := rfl
  have e2 : (a :: b :: c :: t).getD 2 0 = c := rfl
  rw [e0, e1, e2, if_neg (by simp), if_neg (by omega), if_neg (by omega), if_neg (by omega), if_pos h2, if_pos ⟨by simp, h3, h4, h5, h6⟩]
theorem rs4 {a b c d : Int} {t : List Int} (h1 : 240 ≤ a) (h2 : a < 245) (h3 : lo4 a ≤ b) (h4 : b ≤ hi4 a) (h5 : 128 ≤ c) (h6 : c ≤ 191) (h7 : 128 ≤ d) (h8 : d ≤ 191) : runeSz (a :: b :: c :: d :: t) = 4 := by
  unfold runeSz
  have e0 : (a :: b :: c :: d :: t).getD 0 0 = a := rfl
  have e1 : (a :: b :: c :: d :: t).getD 1 0 = b := rfl
  have e2 : (a :: b :: c :: d :: t).getD 2 0 = c := rfl
  have e3 : (a :: b :: c :: d :: t).getD 3 0 = d := rfl
  rw [e0, e1, e2, e3, if_neg (by simp), if_neg (by omega), if_neg (by omega), if_neg (by omega), if_neg (by omega), if_pos h2, if_pos ⟨by simp, h3, h4, h5, h6, h7, h8⟩]
theorem enc_dec {r : Int} (h : encD r ≠ []) : runeSz (encD r) = (encD r).length ∧ runeVal (encD r) = r := by
  unfold encD at h ⊢
  by_cases c0 : r < 0 ∨ 1114111 < r ∨ (55296 ≤ r ∧ r ≤ 57343)
  · rw [if_pos c0] at h; exact absurd rfl h
  rw [if_neg c0]
  by_cases c1 : r < 128
  · rw [if_pos c1]
    have e := rs1 (t := []) c1
    exact ⟨e, (runeVal1 e).trans rfl⟩
  rw [if_neg c1]
  by_cases c2 : r < 2048
  · rw [if_pos c2]
    have e : runeSz [192 + r / 64, 128 + r % 64] = 2 := rs2 (by omega) (by omega) (by omega) (by omega)
    refine ⟨e, (runeVal2 e).trans ?_⟩
    show 64 * (192 + r / 64 - 192) + (128 + r % 64) - 128 = r
    omega
  rw [if_neg c2]
  by_cases c3 : r < 65536
  · rw [if_pos c3]
    have e : runeSz [224 + r / 4096, 128 + r / 64 % 64, 128 + r % 64] = 3 := rs3 (by omega) (by omega) (by unfold lo3; split <;> omega) (by unfold hi3; split <;> omega) (by omega) (by omega)
    refine ⟨e, (runeVal3 e).trans ?_⟩
    show 64 * (64 * (224 + r / 4096 - 224) + (128 + r / 64 % 64) - 128) + (128 + r % 64) - 128 = r
    omega
  · rw [if_neg c3]
    have e : runeSz [240 + r / 262144, 128 + r / 4096 % 64, 128 + r / 64 % 64, 128 + r % 64] = 4 := rs4 (by omega) (by omega) (by unfold lo4; split <;> omega) (by unfold hi4; split <;> omega) (by omega) (by omega) (by omega) (by omega)
    refine ⟨e, (runeVal4 e).trans ?_⟩
    show 64 * (64 * (64 * (240 + r / 262144 - 240) + (128 + r / 4096 % 64) - 128) + (128 + r / 64 % 64) - 128) + (128 + r % 64) - 128 = r
    omega
theorem enc_len (r : Int) : (encD r).length ≤ 4 := by
  unfold encD
  by_cases c0 : r < 0 ∨ 1114111 < r ∨ (55296 ≤ r ∧ r ≤ 57343)
  · rw [if_pos c0]; exact Nat.zero_le _
  rw [if_neg c0]
  by_cases c1 : r < 128
  · rw [if_pos c1]; exact Nat.le_of_ble_eq_true rfl
  rw [if_neg c1]
  by_cases c2 : r < 2048
  · rw [if_pos c2]; exact Nat.le_of_ble_eq_true rfl
  rw [if_neg c2]
  by_cases c3 : r < 65536
  · rw [if_pos c3]; exact Nat.le_of_ble_eq_true rfl
  · rw [if_neg c3]; exact Nat.le_of_ble_eq_true rfl
theorem enc_fit (r : Int) : fitB (encD r) = true := fitB_of (Nat.le_trans (enc_len r) (by omega)) (fun x hx => encD_byte r x hx)
theorem enc_text {r : Int} (h : encD r ≠ []) : textOk (encD r) = true := by
  have h1 := enc_dec h
  have h2 : runeSz (encD r) ≠ 0 := by rw [h1.1]; exact fun e => h (List.length_eq_zero_iff.1 e)
  have h3 := enc_len r
  rw [textOk_iff, valid_step h2, h1.1, List.drop_length]
  exact ⟨by omega, valid_nil⟩
theorem pair_if {c : Prop} [Decidable c] {v w : Int} {n m : Int} (h : (if c then (v, n) else (-1, 0)) = ((w, m) : Int × Int)) (hm : m ≠ 0) : c ∧ w = v ∧ m = n := by
  by_cases hc : c
  · rw [if_pos hc, Prod.mk.injEq] at h
    exact ⟨hc, h.1.symm, h.2.symm⟩
  · rw [if_neg hc, Prod.mk.injEq] at h
    exact absurd h.2.symm hm
theorem ev1 {a : Int} {t : List Int} (h0 : 0 ≤ a) (h : a < 192) (hz : runeSz (a :: t) ≠ 0) : encD (runeVal (a :: t)) = (a :: t).take (runeSz (a :: t)) := by
  obtain ⟨k1, k2, k3⟩ := pair_if (dec1 (b := a) (t := t) h0 h) (by omega)
  rw [k2, k1, show runeSz (a :: t) = 1 by omega]; rfl
theorem ev2 {a b : Int} {t : List Int} (h0 : 192 ≤ a) (h : a < 224) (hb : 0 ≤ b ∧ b ≤ 255) (hz : runeSz (a :: b :: t) ≠ 0) : encD (runeVal (a :: b :: t)) = (a :: b :: t).take (runeSz (a :: b :: t)) := by
  obtain ⟨k1, k2, k3⟩ := pair_if (dec2 (a := a) (b := b) (t := t) h0 h hb) (by omega)
  rw [k2, k1, show runeSz (a :: b :: t) = 2 by omega]; rfl
theorem ev3 {a b c : Int} {t : List Int} (h0 : 224 ≤ a) (h : a < 240) (hb : 0 ≤ b ∧ b ≤ 255) (hc : 0 ≤ c ∧ c ≤ 255) (hz : runeSz (a :: b :: c :: t) ≠ 0) : encD (runeVal (a :: b :: c :: t)) = (a :: b :: c :: t).take (runeSz (a :: b :: c :: t)) := by
  obtain ⟨k1, k2, k3⟩ := pair_if (dec3 (a := a) (b := b) (d := c) (t := t) h0 h hb hc) (by omega)
  rw [k2, k1, show runeSz (a :: b :: c :: t) = 3 by omega]; rfl
theorem ev4 {a b c d : Int} {t : List Int} (h0 : 240 ≤ a) (h : a ≤ 255) (hb : 0 ≤ b ∧ b ≤ 255) (hc : 0 ≤ c ∧ c ≤ 255) (hd : 0 ≤ d ∧ d ≤ 255) (hz : runeSz (a :: b :: c :: d :: t) ≠ 0) : encD (runeVal (a :: b :: c :: d :: t)) = (a :: b :: c :: d :: t).take (runeSz (a :: b :: c :: d :: t)) := by
  obtain ⟨k1, k2, k3⟩ := pair_if (dec4 (a := a) (b := b) (d := c) (f := d) (t := t) h0 h hb hc hd) (by omega)
  rw [k2, k1, show runeSz (a :: b :: c :: d :: t) = 4 by omega]; rfl
theorem enc_val : ∀ {q : List Int}, fitB q = true → runeSz q ≠ 0 → encD (runeVal q) = q.take (runeSz q)
  | [], _, h => absurd rfl h
  | [a], hf, h => by
    have ha := fitB_mem hf (x := a) (by simp)
    have e0 : ([a] : List Int).getD 0 0 = a := rfl
    by_cases c1 : a < 192
    · exact ev1 ha.1 c1 h
    by_cases c2 : a < 224
    · exact absurd (short2 (by omega) (by omega) (by simp)) h
    by_cases c3 : a < 240
    · exact absurd (short3 (by omega) (by omega) (by simp)) h
    · exact absurd (short4 (by omega) (by simp)) h
  | [a, b], hf, h => by
    have ha := fitB_mem hf (x := a) (by simp)
    have hb := fitB_mem hf (x := b) (by simp)
    have e0 : ([a, b] : List Int).getD 0 0 = a := rfl
    by_cases c1 : a < 192
    · exact ev1 ha.1 c1 h
    by_cases c2 : a < 224
    · exact ev2 (by omega) c2 hb h
    by_cases c3 : a < 240
    · exact absurd (short3 (by omega) (by omega) (by simp)) h
    · exact absurd (short4 (by omega) (by simp)) h
  | [a, b, c], hf, h => by
    have ha := fitB_mem hf (x := a) (by simp)
    have hb := fitB_mem hf (x := b) (by simp)
    have hc := fitB_mem hf (x := c) (by simp)
    have e0 : ([a, b, c] : List Int).getD 0 0 = a := rfl
    by_cases c1 : a < 192
    · exact ev1 ha.1 c1 h
    by_cases c2 : a < 224
    · exact ev2 (by omega) c2 hb h
    by_cases c3 : a < 240
    · exact ev3 (by omega) c3 hb hc h
    · exact absurd (short4 (by omega) (by simp)) h
  | a :: b :: c :: d :: t, hf, h => by
    have ha := fitB_mem hf (x := a) (by simp)
    have hb := fitB_mem hf (x := b) (by simp)
    have hc := fitB_mem hf (x := c) (by simp)
    have hd := fitB_mem hf (x := d) (by simp)
    by_cases c1 : a < 192
    · exact ev1 ha.1 c1 h
    by_cases c2 : a < 224
    · exact ev2 (by omega) c2 hb h
    by_cases c3 : a < 240
    · exact ev3 (by omega) c3 hb hc h
    · exact ev4 (by omega) ha.2 hb hc hd h
end Go.Ev
end
section
/- l_FnRuneBack: its contract. -/
namespace Go.Ev.Seat
open Go.RowKit
set_option maxRecDepth 100000
set_option linter.unusedVariables false
set_option linter.unusedSimpArgs false
noncomputable abbrev pl_l_FnRuneBack : List (Nat × Plan × List Nat) := [(13, takeB [0, 1, 2, 3, 4, 8, 9, 10, 11, 12, 13] (.fork (.more 5 (.fork (.more 6 (.fork (.more 7 (.fork (.one 14 (takes [15, 16, 17]))) (.one 14 (.fork (.one 7 (takes [15, 16, 17])))))) (.one 14 (.fork (.one 6 (.fork (.one 7 (takes [15, 16, 17])))))))) (.one 14 (.fork (.one 5 (.fork (.one 6 (.fork (.one 7 (takes [15, 16, 17])))))))))), [])]
noncomputable abbrev ls_l_FnRuneBack : List (Nat × Bool × Sm) := [(N.l_big, true, S_l_big), (N.s_DrawRuneBytes, false, (SB_s_DrawRuneBytes B_s_DrawRuneBytes)), (N.i_RuneBytes, true, S_i_RuneBytes), (N.s_RuneBytes, true, S_s_RuneBytes), (N.i_RuneAt, true, S_i_RuneAt), (N.i_RuneSize, true, S_i_RuneSize), (N.i_TextOk, true, S_i_TextOk), (N.s_DrawRuneAt, false, (SB_s_DrawRuneAt B_s_DrawRuneAt)), (N.s_RuneSize, true, S_s_RuneSize)]
noncomputable abbrev E_l_FnRuneBack : Env := En ls_l_FnRuneBack pl_l_FnRuneBack [] [] false 0 []
noncomputable def T_l_FnRuneBack (code : List Int) (K : Ret → Option Ret) : Option Ret := (bif (decide ((((List.length code) : Nat) : Int) > (1048576 : Int))) then K ((.s (.bool true)), []) else (B_s_DrawRuneBytes code (fun y0 => (bif ((((List.length (encD y0)) : Nat) : Int) != (((List.length (encD y0)) : Nat) : Int)) then K ((.s (.bool false)), []) else (bif (decide ((((List.length (encD y0)) : Nat) : Int) > (0 : Int))) then (bif (Nat.ble (((List.length ((97 : Int) :: ([] : List Int))) + (List.length (encD y0))) * 1) 140737488355328) then (bif (fitB (((97 : Int) :: ([] : List Int)) ++ (encD y0))) then (bif ((valAt (((97 : Int) :: ([] : List Int)) ++ (encD y0)) (1 : Int)) != y0) then K ((.s (.bool false)), []) else (bif (fitB (encD y0)) then (bif ((szAt (encD y0) (0 : Int)) != (((List.length (encD y0)) : Nat) : Int)) then K ((.s (.bool false)), []) else (bif (fitB (encD y0)) then (bif (!(textOk (encD y0))) then K ((.s (.bool false)), []) else (B_s_DrawRuneAt code (fun y1 y2 => (bif (fitB y1) then (bif (fitB y1) then (bif ((szAt y1 y2) != (szAt y1 y2)) then K ((.s (.bool false)), []) else (bif ((szAt y1 y2) == (0 : Int)) then (meet ((meet ((meet (K ((.s (.bool true)), [])) (K ((.s (.bool true)), [])))) (K ((.s (.bool true)), [])))) (K ((.s (.bool true)), []))) else (bif (((decide ((0 : Int) ≤ y2)) && (decide (y2 ≤ (IntKind.wrap .i64 (y2 + (szAt y1 y2)))))) && (decide ((IntKind.wrap .i64 (y2 + (szAt y1 y2))) ≤ (((List.length y1) : Nat) : Int)))) then (meet ((bif (fitB y1) then (meet ((meet (K ((.s (.bool ((ByteArray.toList (bstr (encD (valAt y1 y2)))) == (ByteArray.toList (bstr (List.take ((Int.toNat (IntKind.wrap .i64 (y2 + (szAt y1 y2)))) - (Int.toNat y2)) (List.drop (Int.toNat y2) y1))))))), [])) (K ((.s (.bool ((ByteArray.toList (bstr (encD (valAt y1 y2)))) == (ByteArray.toList (bstr (List.take ((Int.toNat (IntKind.wrap .i64 (y2 + (szAt y1 y2)))) - (Int.toNat y2)) (List.drop (Int.toNat y2) y1))))))), [])))) (K ((.s (.bool ((ByteArray.toList (bstr (encD (valAt y1 y2)))) == (ByteArray.toList (bstr (List.take ((Int.toNat (IntKind.wrap .i64 (y2 + (szAt y1 y2)))) - (Int.toNat y2)) (List.drop (Int.toNat y2) y1))))))), []))) else none)) ((bif (fitB y1) then K ((.s (.bool ((ByteArray.toList (bstr (encD (valAt y1 y2)))) == (ByteArray.toList (bstr (List.take ((Int.toNat (IntKind.wrap .i64 (y2 + (szAt y1 y2)))) - (Int.toNat y2)) (List.drop (Int.toNat y2) y1))))))), []) else none))) else none))) else none) else none)))) else none)) else none)) else none) else none) else (B_s_DrawRuneAt code (fun y3 y4 => (bif (fitB y3) then (bif (fitB y3) then (bif ((szAt y3 y4) != (szAt y3 y4)) then K ((.s (.bool false)), []) else (bif ((szAt y3 y4) == (0 : Int)) then (meet ((meet ((meet (K ((.s (.bool true)), [])) (K ((.s (.bool true)), [])))) (K ((.s (.bool true)), [])))) (K ((.s (.bool true)), []))) else (bif (((decide ((0 : Int) ≤ y4)) && (decide (y4 ≤ (IntKind.wrap .i64 (y4 + (szAt y3 y4)))))) && (decide ((IntKind.wrap .i64 (y4 + (szAt y3 y4))) ≤ (((List.length y3) : Nat) : Int)))) then (meet ((bif (fitB y3) then (meet ((meet (K ((.s (.bool ((ByteArray.toList (bstr (encD (valAt y3 y4)))) == (ByteArray.toList (bstr (List.take ((Int.toNat (IntKind.wrap .i64 (y4 + (szAt y3 y4)))) - (Int.toNat y4)) (List.drop (Int.toNat y4) y3))))))), [])) (K ((.s (.bool ((ByteArray.toList (bstr (encD (valAt y3 y4)))) == (ByteArray.toList (bstr (List.take ((Int.toNat (IntKind.wrap .i64 (y4 + (szAt y3 y4)))) - (Int.toNat y4)) (List.drop (Int.toNat y4) y3))))))), [])))) (K ((.s (.bool ((ByteArray.toList (bstr (encD (valAt y3 y4)))) == (ByteArray.toList (bstr (List.take ((Int.toNat (IntKind.wrap .i64 (y4 + (szAt y3 y4)))) - (Int.toNat y4)) (List.drop (Int.toNat y4) y3))))))), []))) else none)) ((bif (fitB y3) then K ((.s (.bool ((ByteArray.toList (bstr (encD (valAt y3 y4)))) == (ByteArray.toList (bstr (List.take ((Int.toNat (IntKind.wrap .i64 (y4 + (szAt y3 y4)))) - (Int.toNat y4)) (List.drop (Int.toNat y4) y3))))))), []) else none))) else none))) else none) else none))))))))
theorem e_l_FnRuneBack (code : List Int) (K : Ret → Option Ret) : evF E_l_FnRuneBack true F.l_FnRuneBack [.l .no bytesR code] K = T_l_FnRuneBack code K := by kernel_rfl
def S_l_FnRuneBack : Sm := S_fnR [.l bytesR] (fun d => d.1.all isB) (fun d => (bl true, []))
theorem v_l_FnRuneBack (code : List Int) (h : (code.all isB) = true) (K : Ret → Option Ret) : T_l_FnRuneBack code K = K (bl true, []) := by
  unfold T_l_FnRuneBack
  by_cases hc : ((code.length : Nat) : Int) > 1048576
  · rw [decide_eq_true hc]; rfl
  have hf : fitB code = true := by unfold fitB; rw [Bool.and_eq_true]; exact ⟨Nat.ble_eq_true_of_le (by omega), h⟩
  rw [decide_eq_false hc]
  obtain ⟨y, _, hk⟩ := b_s_DrawRuneBytes code hf
  obtain ⟨t, u, ⟨ht, htl⟩, hk2⟩ := b_s_DrawRuneAt code hf
  rw [cond_false, hk]
  simp only [hk2, ht, cond_true, bne_self_eq_false, cond_false, meet_self, enc_fit]
  have tail : (bif (szAt t u == (0 : Int)) then K ((.s (.bool true)), []) else (bif (((decide ((0 : Int) ≤ u)) && (decide (u ≤ (IntKind.wrap .i64 (u + (szAt t u)))))) && (decide ((IntKind.wrap .i64 (u + (szAt t u))) ≤ (((List.length t) : Nat) : Int)))) then K ((.s (.bool ((ByteArray.toList (bstr (encD (valAt t u)))) == (ByteArray.toList (bstr (List.take ((Int.toNat (IntKind.wrap .i64 (u + (szAt t u)))) - (Int.toNat u)) (List.drop (Int.toNat u) t))))))), []) else none)) = K (bl true, []) := by
    by_cases e : szAt t u = 0
    · rw [beq_iff_eq.2 e]; rfl
    rw [beq_eq_false_iff_ne.2 e, cond_false]
    have hin : inD t u = true := by
      cases hi : inD t u with
      | true => rfl
      | false => unfold szAt at e; rw [hi] at e; exact absurd rfl e
    have e1 : szAt t u = ((runeSz (t.drop u.toNat) : Nat) : Int) := by unfold szAt; rw [hin]; rfl
    have e2 : valAt t u = runeVal (t.drop u.toNat) := by unfold valAt; rw [hin]; rfl
    unfold inD at hin
    simp only [Bool.and_eq_true, decide_eq_true_eq] at hin
    have hle := runeSz_le (t.drop u.toNat)
    rw [List.length_drop] at hle
    have hfd := fitB_drop ht u.toNat
    rw [e1] at e ⊢
    rw [e2, enc_val hfd (by omega), wrap_in (by omega) (by omega), decide_eq_true hin.1, decide_eq_true (show u ≤ u + ((runeSz (t.drop u.toNat) : Nat) : Int) by omega), decide_eq_true (show u + ((runeSz (t.drop u.toNat) : Nat) : Int) ≤ ((t.length : Nat) : Int) by omega), show (u + ((runeSz (t.drop u.toNat) : Nat) : Int)).toNat - u.toNat = runeSz (t.drop u.toNat) by omega, beq_self_eq_true]
    rfl
  rw [tail]
  by_cases he : encD y = []
  · rw [he]; rfl
  have hd := enc_dec he
  have hlen : (encD y).length ≠ 0 := fun e => he (List.length_eq_zero_iff.1 e)
  have h4 := enc_len y
  rw [decide_eq_true (show (((encD y).length : Nat) : Int) > 0 by omega), Nat.ble_eq_true_of_le (by simp only [List.length_cons, List.length_nil]; omega), show fitB ((97 : Int) :: ([] : List Int) ++ encD y) = true from fitB_append (xs := [97]) rfl (enc_fit y) (by simp; omega), show valAt ((97 : Int) :: ([] : List Int) ++ encD y) 1 = y by
      unfold valAt inD
      rw [decide_eq_true (show (0 : Int) ≤ 1 by omega), decide_eq_true (show (1 : Int) < ((((97 : Int) :: ([] : List Int) ++ encD y).length : Nat) : Int) by simp; omega)]
      exact hd.2, show szAt (encD y) 0 = (((encD y).length : Nat) : Int) by
      rw [szAt_in (by omega) (by omega)]
      show ((runeSz (encD y) : Nat) : Int) = _
      rw [hd.1], bne_self_eq_false, bne_self_eq_false, enc_text he]
  rfl
theorem okS_l_FnRuneBack : OkFn prog I N.l_FnRuneBack true S_l_FnRuneBack := okN (ok_fn (memc okS_l_big (memc okS_s_DrawRuneBytes (memc okS_i_RuneBytes (memc okS_s_RuneBytes (memc okS_i_RuneAt (memc okS_i_RuneSize (memc okS_i_TextOk (memc okS_s_DrawRuneAt (memc okS_s_RuneSize mem0))))))))) (l := ls_l_FnRuneBack) (p := pl_l_FnRuneBack) (ls := []) (lend := []) (focus := false) (fuel := 0) (give := []) (fn := F.l_FnRuneBack) (by kernel_rfl) (by kernel_rfl) (by kernel_rfl) (by kernel_rfl) (cs := []) (by kernel_rfl) loops0) (S_fnR_of fun d K h => (e_l_FnRuneBack d.1 K).trans (v_l_FnRuneBack d.1 h K))
end Go.Ev.Seat
end
section
/- The law FnRuneBack: it answers true. Printed by lawrand.py. -/
namespace Go.Ev.Seat
open Go.RowKit
set_option linter.unusedVariables false
theorem ok_RuneBack (T : MText) : OkFn prog I N.l_FnRuneBack true S_l_FnRuneBack := okS_l_FnRuneBack
theorem law_RuneBack (T : MText) (code : List Int) (K : Ret → Option Ret) (hwf : (Cc.sl bytesR).wf code) : S_l_FnRuneBack [.l .no bytesR code] K = K (bl true, []) := by
  have hb : code.all isB = true := List.all_eq_true.2 (fun x hx => fitR_of bytesR x (hwf.2 x hx) rfl)
  show (bif code.all isB then K (bl true, []) else none) = _
  rw [hb]; rfl
end Go.Ev.Seat
end
section
/- Kinds of types that come in, checked by reckoning. -/
set_option linter.unusedVariables false
namespace Go.Ev
open Go.RowKit
mutual
def ccN (P : Program) : Nat → Cc → TypeId → Bool
  | 0, _, _ => false
  | n + 1, c, t => match c, P.underlying t with
    | .int k, some (.int k') => decide (k' = k)
    | .bool, some .bool => true
    | .str, some .string => true
    | .sl r, some (.slice e) => Nat.beq (P.cellsOf e) r.n && (match layN P n r.list e with
      | some [] => true
      | _ => false)
    | _, _ => false
/-- The cells of a type, taken off a list: what is left. -/
def layN (P : Program) : Nat → List Cc → TypeId → Option (List Cc)
  | 0, _, _ => none
  | n + 1, cs, t => match cs with
    | [] => none
    | c :: rest => bif ccN P n c t then some rest else match P.underlying t with
      | some (.struct fs) => fsN P n (c :: rest) 0 fs.toList
      | _ => none
def fsN (P : Program) : Nat → List Cc → Nat → List Field → Option (List Cc)
  | 0, _, _, _ => none
  | n + 1, cs, i, fs => match fs with
    | [] => some cs
    | f :: rest => bif Nat.beq f.offset i then (match layN P n cs f.type with
      | some cs' => bif Nat.beq (P.cellsOf f.type + cs'.length) cs.length then fsN P n cs' (i + P.cellsOf f.type) rest else none
      | none => none) else none
end
theorem kinds_ok {P : Program} : ∀ (n : Nat), (∀ c t, ccN P n c t = true → CcOk P c t) ∧ (∀ cs t rest, layN P n cs t = some rest → ∃ pre, cs = pre ++ rest ∧ LayOk P pre t) ∧ ∀ cs i fs rest, fsN P n cs i fs = some rest → ∃ pre, cs = pre ++ rest ∧ LayFs P pre i fs
  | 0 => ⟨fun _ _ h => by simp [ccN] at h, fun _ _ _ h => by simp [layN] at h, fun _ _ _ _ h => by simp [fsN] at h⟩
  | n + 1 => by
    obtain ⟨h1, h2, h3⟩ := kinds_ok (P := P) n
    refine ⟨fun c t h => ?_, fun cs t rest h => ?_, fun cs i fs rest h => ?_⟩
    · simp only [ccN] at h
      split at h
      · rename_i k k' hu
        have := of_decide_eq_true h
        subst this
        exact .int hu
      · rename_i hu; exact .bool hu
      · rename_i hu; exact .str hu
      · rename_i r e hu
        simp only [Bool.and_eq_true] at h
        obtain ⟨g1, g2⟩ := h
        split at g2
        · rename_i hl
          obtain ⟨pre, e1, e2⟩ := h2 _ _ _ hl
          rw [List.append_nil] at e1
          exact .sl hu (Nat.eq_of_beq_eq_true g1) (e1 ▸ e2)
        · cases g2
      · cases h
    · simp only [layN] at h
      split at h
      · cases h
      · rename_i c rest'
        cases hc : ccN P n c t with
        | true =>
          rw [hc] at h
          cases h
          exact ⟨[c], rfl, .one (h1 _ _ hc)⟩
        | false =>
          rw [hc] at h
          simp only [cond_false] at h
          split at h
          · rename_i fs hu
            obtain ⟨pre, e1, e2⟩ := h3 _ _ _ _ h
            exact ⟨pre, e1, .st hu e2⟩
          · cases h
    · simp only [fsN] at h
      split at h
      · cases h
        exact ⟨[], rfl, .nil⟩
      · rename_i f rest'
        cases ho : Nat.beq f.offset i with
        | false => rw [ho] at h; cases h
        | true =>
          rw [ho] at h
          simp only [cond_true] at h
          split at h
          · rename_i cs' hl
            obtain ⟨pre, e1, e2⟩ := h2 _ _ _ hl
            cases hb : Nat.beq (P.cellsOf f.type + cs'.length) cs.length with
            | false => rw [hb] at h; cases h
            | true =>
              rw [hb] at h
              simp only [cond_true] at h
              have hlen := Nat.eq_of_beq_eq_true hb
              have hp : P.cellsOf f.type = pre.length := by rw [e1, List.length_append] at hlen; omega
              obtain ⟨pre2, e3, e4⟩ := h3 _ _ _ _ h
              rw [hp] at e4
              refine ⟨pre ++ pre2, by rw [e1, e3, List.append_assoc], .cons (Nat.eq_of_beq_eq_true ho) hp e2 e4⟩
          · cases h
def ccB (P : Program) (c : Cc) (t : TypeId) : Bool := ccN P 100 c t
theorem ccB_ok {P : Program} (c : Cc) {t : TypeId} (h : ccB P c t = true) : CcOk P c t := (kinds_ok 100).1 c t h
end Go.Ev
end
section
/- An argument of one cell. -/
set_option linter.unusedVariables false
namespace Go.Ev
theorem cells_one {P : Program} {W : World} {r : Reach} {base : Nat} {c : Cc} {t : TypeId} {v : Value} (h : CcOk P c t) (ok : Value.okWide P W r base t v) : v.cells.toList = [v] := by
  cases v with
  | agg cs =>
    exfalso
    unfold Value.okWide at ok
    cases h with
    | int h => rw [h] at ok; simp [Cell.okWide, Cell.ok, h] at ok
    | bool h => rw [h] at ok; simp [Cell.okWide, Cell.ok, h] at ok
    | str h => rw [h] at ok; simp [Cell.okWide, Cell.ok, h] at ok
    | sl h _ _ => rw [h] at ok; simp [Cell.okWide, Cell.ok, h] at ok
  | _ => rfl
end Go.Ev
end
section
/- What a row's list gives of the tables of unicode/utf8. -/
set_option linter.unusedVariables false
namespace Go.Ev
open Go
variable {H : Type} {enc : TypeId × Value → H} {P : Program} {w : World} {base : Nat} {sp : Nat → Bool} {held : Bool}

/-- An array's cells, element by element. -/
theorem trod_arr {fuel : Nat} {t e : TypeId} {n m : Nat} {cs : List Value} {ds : List (DataW H)} {p : List MemPlace}
    (ht : P.underlying t = some (.array n e)) (hce : P.cellsOf e = m) (hct : P.cellsOf t = n * m)
    (h : DataW.trod enc P w base sp held fuel t cs = some (.agg ds, p)) :
    cs.length = n * m ∧ ds.length = n ∧ ∀ (i : Nat) (d : DataW H), ds[i]? = some d → ∃ f q, DataW.trod enc P w base sp held f e ((cs.drop (i * m)).take m) = some (d, q) := by
  cases fuel with
  | zero => simp [DataW.trod] at h
  | succ fuel =>
    simp only [DataW.trod, ht, hce, hct] at h
    split at h
    · rename_i hl
      obtain ⟨xs, hm, hx⟩ := Option.map_eq_some_iff.1 h
      have hxs : xs.map (·.1) = ds := by
        have := congrArg Prod.fst hx
        simpa using this
      have hxl : xs.length = n := by simpa using Lib.mapM_length hm
      refine ⟨by simpa using hl, by rw [← hxs]; simp [hxl], fun i d hd => ?_⟩
      rw [← hxs] at hd
      rw [List.getElem?_map, Option.map_eq_some_iff] at hd
      obtain ⟨b, hb, rfl⟩ := hd
      have hi : i < n := by
        have := (List.getElem?_eq_some_iff.1 hb).1
        omega
      obtain ⟨b', hb', hf⟩ := Lib.mapM_at hm i i (by simp [hi])
      obtain rfl := Option.some.inj (hb.symm.trans hb')
      exact ⟨fuel, b.2, hf⟩
    · cases h
theorem trod_u8 {fuel : Nat} {t : TypeId} {k : IntKind} {cs : List Value} {z : Int} {p : List MemPlace} (ht : P.underlying t = some (.int k))
    (h : DataW.trod enc P w base sp held fuel t cs = some (.lit (.int k z), p)) : cs = [.int k z] := by
  cases fuel with
  | zero => simp [DataW.trod] at h
  | succ fuel =>
    obtain ⟨z', hc, h2, _⟩ := DataW.trod_int ht h
    cases h2
    exact hc
/-- A struct of two small cells. -/
theorem trod_two {fuel : Nat} {t : TypeId} {fs : Array Field} {f g : Field} {k : IntKind} {cs : List Value} {x y : Int} {p : List MemPlace}
    (ht : P.underlying t = some (.struct fs)) (hfs : fs.toList = [f, g]) (hc : P.cellsOf t = 2) (hf0 : f.offset = 0) (hg0 : g.offset = 1) (hf : P.underlying f.type = some (.int k)) (hg : P.underlying g.type = some (.int k))
    (hcf : P.cellsOf f.type = 1) (hcg : P.cellsOf g.type = 1)
    (h : DataW.trod enc P w base sp held fuel t cs = some (.agg [.lit (.int k x), .lit (.int k y)], p)) : cs = [.int k x, .int k y] := by
  cases fuel with
  | zero => simp [DataW.trod] at h
  | succ fuel =>
    simp only [DataW.trod, ht, hfs, hc, hf0, hg0, hcf, hcg] at h
    split at h
    · rename_i hl
      obtain ⟨xs, hm, hx⟩ := Option.map_eq_some_iff.1 h
      have hxs : xs.map (·.1) = [.lit (.int k x), .lit (.int k y)] := by
        have := congrArg Prod.fst hx
        simpa using this
      obtain ⟨b0, hb0, h0⟩ := Lib.mapM_at hm 0 f rfl
      obtain ⟨b1, hb1, h1⟩ := Lib.mapM_at hm 1 g rfl
      have e0 : b0.1 = .lit (.int k x) := by
        have := congrArg (·[0]?) hxs
        simpa [hb0] using this
      have e1 : b1.1 = .lit (.int k y) := by
        have := congrArg (·[1]?) hxs
        simpa [hb1] using this
      obtain ⟨d0, q0⟩ := b0
      obtain ⟨d1, q1⟩ := b1
      simp only at e0 e1
      subst e0 e1
      rw [hf0, hcf] at h0
      rw [hg0, hcg] at h1
      have a0 := trod_u8 hf h0
      have a1 := trod_u8 hg h1
      match cs, hl, a0, a1 with
      | [u, v], _, a0, a1 =>
        simp at a0 a1
        rw [a0, a1]
      | [], hl, _, _ => simp at hl
      | [_], hl, _, _ => simp at hl
      | _ :: _ :: _ :: _, hl, _, _ => simp at hl
    · cases h
theorem laid_at {laid : List (String × DataW Unit)} {W : World} {ps : List MemPlace} (h : DataW.LaidVars P W laid ps) {i : Nat} {name : String} {d : DataW Unit} (hi : laid[i]? = some (name, d)) {g : Nat} {t : TypeId}
    (hg : P.globalNamed name = some g) (hty : (P.globals[g]?).map (·.type) = some t) : ∃ cs fuel p, W.var? P name = some cs ∧ DataW.trod (fun _ => ()) P W 0 (fun _ => true) false fuel t cs.toList = some (d, p) := by
  induction laid generalizing ps i with
  | nil => simp at hi
  | cons x rest ih =>
    obtain ⟨n, d'⟩ := x
    obtain ⟨g', t', cs, fuel, p, q, hg', ht', hvar, hd, hr, _⟩ := h
    cases i with
    | zero =>
      simp only [List.getElem?_cons_zero, Option.some.injEq, Prod.mk.injEq] at hi
      obtain ⟨rfl, rfl⟩ := hi
      obtain rfl := Option.some.inj (hg.symm.trans hg')
      obtain rfl := Option.some.inj (hty.symm.trans ht')
      exact ⟨cs, fuel, p, hvar, hd⟩
    | succ i => exact ih hr (by simpa using hi)
theorem var_lt {W : World} {name : String} {g : Nat} {cs : Array Value} (hg : P.globalNamed name = some g) (h : W.var? P name = some cs) : g < W.heap.size := by
  unfold World.var? at h
  rw [hg] at h
  simp only [Option.bind_some] at h
  split at h
  · rename_i hh
    exact (Array.getElem?_eq_some_iff.1 hh).1
  · cases h
/-- THE TWO TABLES, off the list of a row. -/
theorem globI_utf {W : World} {d0 d1 : DataW Unit} (hm : laidMet P [("unicode/utf8.acceptRanges", d1), ("unicode/utf8.first", d0)] W)
    (hd0 : d0 = .agg (utfFirst.map fun z => .lit (.int .u8 z))) (hd1 : d1 = .agg (utfAccept.map fun z => .agg [.lit (.int .u8 z.1), .lit (.int .u8 z.2)]))
    {t0 t1 e0 e1 : TypeId} (hg0 : P.globalNamed "unicode/utf8.first" = some 0) (hg1 : P.globalNamed "unicode/utf8.acceptRanges" = some 1)
    (hy0 : (P.globals[0]?).map (·.type) = some t0) (hy1 : (P.globals[1]?).map (·.type) = some t1)
    (ht0 : P.underlying t0 = some (.array 256 e0)) (ht1 : P.underlying t1 = some (.array 16 e1)) (he0 : P.underlying e0 = some (.int .u8))
    {fs : Array Field} {f g : Field} (he1 : P.underlying e1 = some (.struct fs)) (hfs : fs.toList = [f, g]) (hf0 : f.offset = 0) (hgo : g.offset = 1) (hf : P.underlying f.type = some (.int .u8)) (hg : P.underlying g.type = some (.int .u8))
    (hcf : P.cellsOf f.type = 1) (hcg : P.cellsOf g.type = 1) (hc0 : P.cellsOf t0 = 256) (hc1 : P.cellsOf t1 = 32) (hce0 : P.cellsOf e0 = 1) (hce1 : P.cellsOf e1 = 2) : GlobI utfGlob W.heap.size W := by
  obtain ⟨ps, hL, _⟩ := hm
  obtain ⟨cs1, fu1, p1, hv1, hr1⟩ := laid_at hL (i := 0) rfl hg1 hy1
  obtain ⟨cs0, fu0, p0, hv0, hr0⟩ := laid_at hL (i := 1) rfl hg0 hy0
  subst hd0 hd1
  obtain ⟨l0, n0, r0⟩ := trod_arr (n := 256) (m := 1) ht0 hce0 hc0 hr0
  obtain ⟨l1, n1, r1⟩ := trod_arr (n := 16) (m := 2) ht1 hce1 hc1 hr1
  intro gg r xs hgg
  unfold utfGlob at hgg
  by_cases h0 : gg = 0
  · subst h0
    simp only [Nat.beq, cond_true, Option.some.injEq, Sigma.mk.injEq] at hgg
    obtain ⟨rfl, hxs⟩ := hgg
    cases hxs
    refine ⟨var_lt hg0 hv0, fun i d hd => ?_⟩
    obtain ⟨f', q, hq⟩ := r0 i _ (by rw [List.getElem?_map, hd]; rfl)
    have hcs := trod_u8 he0 hq
    refine ⟨[.int .u8 d], rfl, fun j v hj => ?_, fun C w => ⟨.int .u8 d, [], rfl, ⟨rfl, rfl⟩, rfl⟩⟩
    match j, hj with
    | 0, hj =>
      cases hj
      rw [World.var?_cell hg0 hv0]
      have := congrArg (·[0]?) hcs
      simpa [Rw.n, List.getElem?_take, List.getElem?_drop] using this
    | j + 1, hj => simp at hj
  · by_cases h1 : gg = 1
    · subst h1
      simp only [Nat.beq, cond_true, cond_false, Option.some.injEq, Sigma.mk.injEq] at hgg
      obtain ⟨rfl, hxs⟩ := hgg
      cases hxs
      refine ⟨var_lt hg1 hv1, fun i d hd => ?_⟩
      obtain ⟨f', q, hq⟩ := r1 i _ (by rw [List.getElem?_map, hd]; rfl)
      have hcs := trod_two he1 hfs hce1 hf0 hgo hf hg hcf hcg hq
      refine ⟨[.int .u8 d.1, .int .u8 d.2], rfl, fun j v hj => ?_, fun C w => ⟨.int .u8 d.1, [.int .u8 d.2], rfl, ⟨rfl, rfl⟩, ⟨.int .u8 d.2, [], rfl, ⟨rfl, rfl⟩, rfl⟩⟩⟩
      match j, hj with
      | 0, hj =>
        cases hj
        rw [World.var?_cell hg1 hv1]
        have := congrArg (·[0]?) hcs
        simpa [Rw.n, List.getElem?_take, List.getElem?_drop] using this
      | 1, hj =>
        cases hj
        rw [World.var?_cell hg1 hv1]
        have := congrArg (·[1]?) hcs
        simpa [Rw.n, List.getElem?_take, List.getElem?_drop] using this
      | j + 2, hj => simp at hj
    · exfalso
      match gg, h0, h1 with
      | 0, h0, _ => exact h0 rfl
      | 1, _, h1 => exact h1 rfl
      | n + 2, _, _ => simp [Nat.beq] at hgg
def u8B (P : Program) (t : TypeId) : Bool := match P.underlying t with
  | some (.int .u8) => P.cellsOf t == 1
  | _ => false
theorem u8B_ok {t : TypeId} (h : u8B P t = true) : P.underlying t = some (.int .u8) ∧ P.cellsOf t = 1 := by
  unfold u8B at h
  split at h
  · rename_i e; exact ⟨e, by simpa using h⟩
  · cases h
def twoB (P : Program) (t : TypeId) : Bool := match P.underlying t with
  | some (.struct fs) => match fs.toList with
    | [f, g] => f.offset == 0 && g.offset == 1 && u8B P f.type && u8B P g.type && P.cellsOf t == 2
    | _ => false
  | _ => false
/-- The two tables' types, looked at. -/
def tabB (P : Program) (t0 t1 e0 e1 : TypeId) : Bool :=
  P.globalNamed "unicode/utf8.first" == some 0 && P.globalNamed "unicode/utf8.acceptRanges" == some 1 && (P.globals[0]?).map (·.type) == some t0 && (P.globals[1]?).map (·.type) == some t1 &&
  P.cellsOf t0 == 256 && P.cellsOf t1 == 32 && u8B P e0 && twoB P e1
theorem globI_utfB {W : World} {d0 d1 : DataW Unit} (hm : laidMet P [("unicode/utf8.acceptRanges", d1), ("unicode/utf8.first", d0)] W)
    (hd0 : d0 = .agg (utfFirst.map fun z => .lit (.int .u8 z))) (hd1 : d1 = .agg (utfAccept.map fun z => .agg [.lit (.int .u8 z.1), .lit (.int .u8 z.2)]))
    (t0 t1 e0 e1 : TypeId) (hB : tabB P t0 t1 e0 e1 = true) (ht0 : P.underlying t0 = some (.array 256 e0)) (ht1 : P.underlying t1 = some (.array 16 e1)) : GlobI utfGlob W.heap.size W := by
  unfold tabB at hB
  simp only [Bool.and_eq_true, beq_iff_eq] at hB
  obtain ⟨⟨⟨⟨⟨⟨⟨a1, a2⟩, a3⟩, a4⟩, a5⟩, a6⟩, a7⟩, a8⟩ := hB
  unfold twoB at a8
  split at a8
  · rename_i fs hfs
    split at a8
    · rename_i f g hfg
      simp only [Bool.and_eq_true, beq_iff_eq] at a8
      obtain ⟨⟨⟨⟨b1, b2⟩, b3⟩, b4⟩, b5⟩ := a8
      obtain ⟨c1, c2⟩ := u8B_ok b3
      obtain ⟨c3, c4⟩ := u8B_ok b4
      obtain ⟨c5, c6⟩ := u8B_ok a7
      exact globI_utf hm hd0 hd1 a1 a2 a3 a4 ht0 ht1 c5 hfs hfg b1 b2 c1 c3 c2 c4 a5 a6 c6 b5
    · cases a8
  · cases a8
def lay (xs : List Value) : Obj → Obj
  | .cells _ t frozen => .cells xs.toArray t frozen
  | o => o
/-- What the tables' initialisers lay. -/
def layUtf (h : Array Obj) : Array Obj := (h.modify 0 (lay (utfFirst.map fun z => .int .u8 z))).modify 1 (lay (utfAccept.flatMap fun z => [.int .u8 z.1, .int .u8 z.2]))
end Go.Ev
end
