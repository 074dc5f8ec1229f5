/- EditDo: parts FiisText Fiin Futf8RuneStart FiisCut FiisEdit EvGrow EvConc FiEditdo FiEditDo PReq EvFit EvLEditDo EvKind EvOne EvTab, packed by squash.py. -/
import Derived.Shelf.Spec.SlicesGrow
import Derived.Laws.AppendOwn
import GoSem.ClaimWide
import Derived.Lib.LaidTab
import GoSem.PinnedTables
import Derived.Test.YtiinphgjeafpnaaDoorZEditDo0
import Derived.Test.YtiinphgjeafpnaaDoorZEditDo1
import Derived.Test.YtiinphgjeafpnaaDoorZEditDo2
import Derived.Test.YtiinphgjeafpnaaDoorZEditDo3
set_option linter.unusedVariables false
set_option linter.unusedSimpArgs false
section
/- i_isText: its contract. -/
namespace Go.Ev.Seat
open Go.RowKit
set_option maxRecDepth 100000
set_option linter.unusedVariables false
set_option linter.unusedSimpArgs false
noncomputable abbrev E_i_isText : Env := En [(N.utf8_Valid, true, S_utf8_Valid)] [] [] [] false 0 []
noncomputable def T_i_isText (t : List Int) (K : Ret → Option Ret) : Option Ret :=
 (bif (decide ((((List.length t) : Nat) : Int) ≤ (400 : Int))) then
 (bif (fitB t) then
  K ((.s (.bool (valid t))), [])
  else none)
 else K ((.s (.bool false)), []))
theorem e_i_isText (t : List Int) (K : Ret → Option Ret) : evF E_i_isText true F.i_isText [.l .no bytesR t] K = T_i_isText t K := by kernel_rfl
def S_i_isText : Sm := S_fn [.l bytesR] (fun d => fitB d.1) (fun d => bl (textOk d.1))
theorem v_i_isText (t : List Int) (h : (fitB t) = true) (K : Ret → Option Ret) : T_i_isText t K = K (bl (textOk t), []) := by
  unfold T_i_isText textOk
  rw [h]
  by_cases hl : t.length ≤ 400
  · rw [decide_eq_true (show ((t.length : Nat) : Int) ≤ 400 by omega), Nat.ble_eq_true_of_le hl]; rfl
  · rw [decide_eq_false (show ¬ ((t.length : Nat) : Int) ≤ 400 by omega), Bool.eq_false_iff.2 (fun h => hl (Nat.le_of_ble_eq_true h))]; rfl
theorem okS_i_isText : OkFn prog I N.i_isText true S_i_isText := okW (ok_fn (memc okS_utf8_Valid mem0) (l := [(N.utf8_Valid, true, S_utf8_Valid)]) (p := []) (ls := []) (lend := []) (focus := false) (fuel := 0) (give := []) (fn := F.i_isText) (by kernel_rfl) (by kernel_rfl) (by kernel_rfl) (by kernel_rfl) (cs := []) (by kernel_rfl) loops0) (S_fn_of fun d K h => (e_i_isText d.1 K).trans (v_i_isText d.1 h K))
end Go.Ev.Seat
end
section
/- i_in: its contract. -/
namespace Go.Ev.Seat
open Go.RowKit
set_option maxRecDepth 100000
set_option linter.unusedVariables false
set_option linter.unusedSimpArgs false
noncomputable abbrev E_i_in : Env := En [] [] [] [] false 0 []
noncomputable def T_i_in (n : Int) (low : Int) (high : Int) (K : Ret → Option Ret) : Option Ret :=
 (bif (decide (low ≤ n)) then
 K ((.s (.bool (decide (n ≤ high)))), [])
 else K ((.s (.bool false)), []))
theorem e_i_in (n : Int) (low : Int) (high : Int) (K : Ret → Option Ret) : evF E_i_in true F.i_in [.s (.int .i64 n), .s (.int .i64 low), .s (.int .i64 high)] K = T_i_in n low high K := by kernel_rfl
def S_i_in : Sm := S_fn [.i, .i, .i] (fun d => true) (fun d => bl (decide (d.2.1 ≤ d.1) && decide (d.1 ≤ d.2.2.1)))
theorem v_i_in (n : Int) (low : Int) (high : Int) (K : Ret → Option Ret) : T_i_in n low high K = K (bl (decide (low ≤ n) && decide (n ≤ high)), []) := by
  unfold T_i_in; cases decide (low ≤ n) <;> rfl
theorem okS_i_in : OkFn prog I N.i_in true S_i_in := okW (ok_fn mem0 (l := []) (p := []) (ls := []) (lend := []) (focus := false) (fuel := 0) (give := []) (fn := F.i_in) (by kernel_rfl) (by kernel_rfl) (by kernel_rfl) (by kernel_rfl) (cs := []) (by kernel_rfl) loops0) (S_fn_of fun d K h => (e_i_in d.1 d.2.1 d.2.2.1 K).trans (v_i_in d.1 d.2.1 d.2.2.1 K))
end Go.Ev.Seat
end
section
/- utf8_RuneStart: its contract. -/
namespace Go.Ev.Seat
open Go.RowKit
set_option maxRecDepth 100000
set_option linter.unusedVariables false
set_option linter.unusedSimpArgs false
noncomputable abbrev E_utf8_RuneStart : Env := En [] [] [] [] false 0 []
noncomputable def T_utf8_RuneStart (b : Int) (K : Ret → Option Ret) : Option Ret :=
 K ((.s (.bool ((band .u8 b (192 : Int)) != (128 : Int)))), [])
theorem e_utf8_RuneStart (b : Int) (K : Ret → Option Ret) : evF E_utf8_RuneStart true F.utf8_RuneStart [.s (.int .u8 b)] K = T_utf8_RuneStart b K := by kernel_rfl
def S_utf8_RuneStart : Sm := S_fn [.sc1 (.int .u8)] (fun d => true) (fun d => bl (band .u8 d.1 192 != 128))
theorem v_utf8_RuneStart (b : Int) (K : Ret → Option Ret) : T_utf8_RuneStart b K = K (bl (band .u8 b 192 != 128), []) := rfl
theorem okS_utf8_RuneStart : OkFn prog I N.utf8_RuneStart true S_utf8_RuneStart := okW (ok_fn mem0 (l := []) (p := []) (ls := []) (lend := []) (focus := false) (fuel := 0) (give := []) (fn := F.utf8_RuneStart) (by kernel_rfl) (by kernel_rfl) (by kernel_rfl) (by kernel_rfl) (cs := []) (by kernel_rfl) loops0) (S_fn_of fun d K h => (e_utf8_RuneStart d.1 K).trans (v_utf8_RuneStart d.1 K))
end Go.Ev.Seat
end
section
/- i_isCut: its contract. -/
namespace Go.Ev.Seat
open Go.RowKit
set_option maxRecDepth 100000
set_option linter.unusedVariables false
set_option linter.unusedSimpArgs false
noncomputable abbrev E_i_isCut : Env := En [(N.i_in, true, S_i_in), (N.utf8_RuneStart, true, S_utf8_RuneStart)] [] [] [] false 0 []
noncomputable def T_i_isCut (t : List Int) (k : Int) (K : Ret → Option Ret) : Option Ret :=
 (bif (k == (((List.length t) : Nat) : Int)) then
 K ((.s (.bool true)), [])
 else (bif ((decide ((0 : Int) ≤ k)) && (decide (k ≤ (IntKind.wrap .i64 ((((List.length t) : Nat) : Int) - (1 : Int)))))) then
  (bif ((decide ((0 : Int) ≤ k)) && (decide (k < (((List.length t) : Nat) : Int)))) then
   K ((.s (.bool ((band .u8 (List.getD t (Int.toNat k) (0 : Int)) (192 : Int)) != (128 : Int)))), [])
   else none)
  else K ((.s (.bool false)), [])))
theorem e_i_isCut (t : List Int) (k : Int) (K : Ret → Option Ret) : evF E_i_isCut true F.i_isCut [.l .no bytesR t, .s (.int .i64 k)] K = T_i_isCut t k K := by kernel_rfl
def S_i_isCut : Sm := S_fn [.l bytesR, .i] (fun d => fitB d.1) (fun d => bl (isCutD d.1 d.2.1))
theorem v_i_isCut (t : List Int) (k : Int) (h : (fitB t) = true) (K : Ret → Option Ret) : T_i_isCut t k K = K (bl (isCutD t k), []) := by
  unfold T_i_isCut isCutD
  have hl := fitB_len h
  by_cases e : k = ((t.length : Nat) : Int)
  · rw [beq_iff_eq.2 e]; rfl
  · rw [beq_eq_false_iff_ne.2 e, wrap_in (by omega) (by omega)]
    simp only [cond_false, Bool.false_or]
    by_cases h1 : 0 ≤ k
    · by_cases h2 : k < ((t.length : Nat) : Int)
      · rw [decide_eq_true h1, decide_eq_true h2, decide_eq_true (show k ≤ ((t.length : Nat) : Int) - 1 by omega)]
        have hb := fitB_get h k.toNat
        rw [cont_at hb.1 hb.2]; rfl
      · rw [decide_eq_true h1, decide_eq_false h2, decide_eq_false (show ¬ k ≤ ((t.length : Nat) : Int) - 1 by omega)]; rfl
    · rw [decide_eq_false h1]; rfl
theorem okS_i_isCut : OkFn prog I N.i_isCut true S_i_isCut := okW (ok_fn (memc okS_i_in (memc okS_utf8_RuneStart mem0)) (l := [(N.i_in, true, S_i_in), (N.utf8_RuneStart, true, S_utf8_RuneStart)]) (p := []) (ls := []) (lend := []) (focus := false) (fuel := 0) (give := []) (fn := F.i_isCut) (by kernel_rfl) (by kernel_rfl) (by kernel_rfl) (by kernel_rfl) (cs := []) (by kernel_rfl) loops0) (S_fn_of fun d K h => (e_i_isCut d.1 d.2.1 K).trans (v_i_isCut d.1 d.2.1 h K))
end Go.Ev.Seat
end
section
/- i_isEdit: its contract. -/
namespace Go.Ev.Seat
open Go.RowKit
set_option maxRecDepth 100000
set_option linter.unusedVariables false
set_option linter.unusedSimpArgs false
noncomputable abbrev E_i_isEdit : Env := En [(N.i_isText, true, S_i_isText), (N.i_isCut, true, S_i_isCut), (N.i_in, true, S_i_in)] [] [] [] false 0 []
noncomputable def T_i_isEdit (t : List Int) (e : T_Edit) (K : Ret → Option Ret) : Option Ret :=
 (bif (fitB t) then
 (bif (textOk t) then
  (bif (fitB t) then
   (bif (isCutD t e.1) then
    (bif ((decide ((0 : Int) ≤ e.2.1)) && (decide (e.2.1 ≤ (IntKind.wrap .i64 ((((List.length t) : Nat) : Int) - e.1))))) then
     (bif (fitB t) then
      (bif (isCutD t (IntKind.wrap .i64 (e.1 + e.2.1))) then
       (bif (fitB e.2.2) then
        (bif (textOk e.2.2) then
         K ((.s (.bool (decide ((IntKind.wrap .i64 ((IntKind.wrap .i64 ((((List.length t) : Nat) : Int) - e.2.1)) + (((List.length e.2.2) : Nat) : Int))) ≤ (400 : Int))))), [])
         else K ((.s (.bool false)), []))
        else none)
       else K ((.s (.bool false)), []))
      else none)
     else K ((.s (.bool false)), []))
    else K ((.s (.bool false)), []))
   else none)
  else K ((.s (.bool false)), []))
 else none)
theorem e_i_isEdit (t : List Int) (e : T_Edit) (K : Ret → Option Ret) : evF E_i_isEdit true F.i_isEdit [.l .no bytesR t, .a (editR.cells .no e)] K = T_i_isEdit t e K := by kernel_rfl
def S_i_isEdit : Sm := S_fn [.l bytesR, .a editR] (fun d => fitB d.1 && fitB d.2.1.2.2) (fun d => bl (editOkD d.1 d.2.1))
theorem v_i_isEdit (t : List Int) (e : T_Edit) (h : (fitB t && fitB e.2.2) = true) (K : Ret → Option Ret) : T_i_isEdit t e K = K (bl (editOkD t e), []) := by
  rw [Bool.and_eq_true] at h
  obtain ⟨ht, he⟩ := h
  unfold T_i_isEdit editOkD
  rw [ht, he]
  cases c1 : textOk t with
  | false => rfl
  | true =>
  have hl := textOk_len c1
  cases c2 : isCutD t e.1 with
  | false => rfl
  | true =>
  have hr := isCutD_range c2
  simp only [Bool.true_and, Bool.not_true, cond_true, cond_false]
  by_cases d1 : 0 ≤ e.2.1
  case neg => rw [decide_eq_false d1]; rfl
  rw [decide_eq_true d1, wrap_in (n := ((t.length : Nat) : Int) - e.1) (by omega) (by omega)]
  by_cases d2 : e.2.1 ≤ ((t.length : Nat) : Int) - e.1
  case neg => rw [decide_eq_false d2]; rfl
  rw [decide_eq_true d2, wrap_in (n := e.1 + e.2.1) (by omega) (by omega)]
  cases c3 : isCutD t (e.1 + e.2.1) with
  | false => rfl
  | true =>
  cases c4 : textOk e.2.2 with
  | false => rfl
  | true =>
  have hl2 := textOk_len c4
  rw [wrap_in (n := ((t.length : Nat) : Int) - e.2.1) (by omega) (by omega), wrap_in (n := ((t.length : Nat) : Int) - e.2.1 + ((List.length e.2.2 : Nat) : Int)) (by omega) (by omega)]
  rfl
theorem okS_i_isEdit : OkFn prog I N.i_isEdit true S_i_isEdit := okW (ok_fn (memc okS_i_isText (memc okS_i_isCut (memc okS_i_in mem0))) (l := [(N.i_isText, true, S_i_isText), (N.i_isCut, true, S_i_isCut), (N.i_in, true, S_i_in)]) (p := []) (ls := []) (lend := []) (focus := false) (fuel := 0) (give := []) (fn := F.i_isEdit) (by kernel_rfl) (by kernel_rfl) (by kernel_rfl) (by kernel_rfl) (cs := []) (by kernel_rfl) loops0) (S_fn_of fun d K h => (e_i_isEdit d.1 d.2.1 K).trans (v_i_isEdit d.1 d.2.1 h K))
end Go.Ev.Seat
end
section
/- slices.Grow of a nil slice: room and nothing else. -/
set_option linter.unusedVariables false
namespace Go.Ev
open Go.RowKit Go.Shelf Go.Proofs
def S_growN (r : Rw) : Sm := fun vs K => match vs with
  | [.nl, .s (.int .i64 n)] => bif decide (0 ≤ n) && decide (n ≤ 1099511627776) then K (.l .deep r [], []) else none
  | _ => none
variable {P : Program} {I : Nat → World → Prop}
theorem grow_ok {ρ : Ren} (L : Lays8.n4 P ρ) (hent : ∀ (args : Array Value) (w : World), (callFunc (ρ.f 4) args).run P w = .ok (.enter (ρ.f 4) args) w) {r : Rw} {i0 : TypeInfo} {z : Value} (hi0 : P.info? (ρ.t 25) = some i0) (hz0 : i0.zero = some z) (hs0 : 0 < i0.size) (hb : i0.bytes ≤ 64) (hn : z.cells.size = r.n) : OkFn P I (ρ.f 4) true (S_growN r) := by
  refine ⟨hent, fun ws K q hq B0 w0 w N vs O M H hI hbel hB hargs hnd hO hM hH hN => ?_⟩
  unfold S_growN at hq
  split at hq
  · rename_i n
    cases hc : (decide (0 ≤ n) && decide (n ≤ 1099511627776)) with
    | false => rw [hc] at hq; cases hq
    | true =>
      rw [hc] at hq
      simp only [Bool.and_eq_true, decide_eq_true_eq] at hc
      obtain ⟨h0, h1⟩ := hc
      have hq' : K (.l .deep r [], []) = some q := hq
      obtain ⟨v1, vs1, O1, O2, M1, M2, H1, H2, rfl, rfl, rfl, rfl, a1, b1⟩ := hargs
      obtain ⟨v2, vs2, O3, O4, M3, M4, H3, H4, rfl, rfl, rfl, rfl, a2, b2⟩ := b1
      obtain ⟨rfl, rfl, rfl, rfl⟩ := b2
      have e1 : v1 = .slice none 0 0 := a1.1
      have e2 : v2 = .int .i64 n := a2.1.1
      subst e1 e2
      obtain ⟨k, rfl⟩ : ∃ k : Nat, n = (k : Int) := ⟨n.toNat, by omega⟩
      by_cases hk : k = 0
      · subst hk
        refine Calls.mono (Any8.slices_Grow_room L none 0 0 0 w (Nat.le_refl _) (by omega) (by omega) (by omega)) ?_
        rintro e w' ⟨rfl, rfl⟩
        refine ⟨_, hq', ⟨⟨[], [], [], [], [], [], ⟨.inl ⟨rfl, rfl, none, 0, rfl, fun _ => ⟨rfl, rfl⟩⟩, rfl, rfl⟩, ⟨rfl, rfl, rfl, rfl⟩, List.nodup_nil, by simp, by simp, by simp⟩, hbel, Nat.le_refl _, fun _ _ _ => rfl⟩⟩
      · have hmul : (0 + k) * i0.bytes ≤ 1099511627776 * 64 := Nat.mul_le_mul (by omega) hb
        refine Calls.mono (Any8.slices_Grow_grow L i0 z hi0 hz0 hs0 none 0 0 k [] w (Nat.le_refl _) (by omega) (by omega) (by omega) (by simp) (fun _ => rfl) (fun a h => nomatch h)) ?_
        rintro e w' ⟨rfl, rfl⟩
        have hsz : ∀ cs t, (w.drew.alloc (.cells cs t)).heap.size = w.heap.size + 1 := fun cs t => alloc_size w.drew _
        have hnew : ∀ cs t, (w.drew.alloc (.cells cs t)).heap[w.heap.size]? = some (.cells cs t (0, 0)) := fun cs t => alloc_new w.drew _
        refine ⟨_, hq', ⟨⟨[w.heap.size], [], [w.heap.size], [], [], [], ⟨.inr ⟨w.heap.size, 0, _, [], rfl, Nat.zero_le _, rfl, by rw [hsz]; omega, fun _ => ⟨_, _, hnew _ _, ?_⟩, rfl⟩, rfl, rfl⟩, ⟨rfl, rfl, rfl, rfl⟩, by simp, ?_, by simp, ?_⟩, (hbel.drew).alloc hB _, by rw [hsz]; omega, fun x hx _ => alloc_old w.drew _ x hx⟩⟩
        · simp only [Array.size_append, size_zeroCells, hn]
          have : ∀ c : Nat, 0 + c * r.n ≤ ([] : List Value).toArray.size + (0 + k - 0) * r.n + (c - (0 + k)) * r.n := fun c => by
            rw [Nat.add_assoc, ← Nat.add_mul]
            have : c * r.n ≤ (0 + k - 0 + (c - (0 + k))) * r.n := Nat.mul_le_mul_right _ (by omega)
            omega
          exact this _
        · intro x hx
          simp at hx
          subst hx
          exact ⟨.inr (Nat.le_refl _), by rw [hsz]; omega⟩
        · intro x hx
          simp at hx
          subst hx
          exact ⟨by simp, fun h => by have := hN _ h; omega⟩
  · cases hq
end Go.Ev
namespace Go.Proofs
open Go.Shelf
def Tryd.grow_ren : Go.Shelf.Ren := ⟨fun | 4 => 131 | n => n, fun | 22 => 22 | 25 => 5 | 3 => 3 | 4 => 4 | 9 => 9 | 20 => 20 | 0 => 0 | n => n, fun | n => n⟩
theorem Tryd.grow : Go.Proofs.Lays8.n4 Tryd.prog Tryd.grow_ren := {
  mixed := by kernel_rfl
  f4 := ⟨Tryd.f131.name, by decide, Tryd.func131.trans (congrArg some (by kernel_rfl))⟩
  t0 := Tryd.underlying0
  a0 := Tryd.isAgg0
  z0 := Tryd.sizeOf0
  v0 := Tryd.zeroValue0
  t3 := Tryd.underlying3
  a3 := Tryd.isAgg3
  z3 := Tryd.sizeOf3
  v3 := Tryd.zeroValue3
  t4 := Tryd.underlying4
  a4 := Tryd.isAgg4
  z4 := Tryd.sizeOf4
  v4 := Tryd.zeroValue4
  t9 := Tryd.underlying9
  a9 := Tryd.isAgg9
  z9 := Tryd.sizeOf9
  v9 := Tryd.zeroValue9
  t20 := Tryd.underlying20
  a20 := Tryd.isAgg20
  z20 := Tryd.sizeOf20
  v20 := Tryd.zeroValue20
  t22 := Tryd.underlying22
  a22 := Tryd.isAgg22
  z22 := Tryd.sizeOf22
  v22 := Tryd.zeroValue22 }
end Go.Proofs
namespace Go.Ev.Seat
open Go.RowKit
set_option maxRecDepth 100000
theorem okS_Grow : OkFn prog I N.slices_Grow_bytes_byte true (S_growN bytesR) := by
  refine grow_ok (i0 := (prog.info? 5).getD default) (z := .int .u8 0) Go.Proofs.Tryd.grow (ok_fn (l := []) (p := []) (ls := []) (lend := []) (focus := false) (fuel := 0) (give := []) (fresh := true) mem0 (g := N.slices_Grow_bytes_byte) (fn := F.slices_Grow_bytes_byte) (by kernel_rfl) (by kernel_rfl) (by kernel_rfl) (by kernel_rfl) (cs := []) (by kernel_rfl) loops0).1 (by kernel_rfl) (by kernel_rfl) (Nat.le_of_ble_eq_true (by kernel_rfl)) (Nat.le_of_ble_eq_true (by kernel_rfl)) rfl
end Go.Ev.Seat
end
section
/- slices.Clone and slices.Concat of bytes. -/
namespace Go.Ev.Seat
open Go.RowKit
set_option maxRecDepth 100000
set_option linter.unusedVariables false
-- Clone
noncomputable def G_Clone := evF (En []) true F.slices_Clone_bytes_byte
theorem ok_Clone : OkFn prog I N.slices_Clone_bytes_byte true G_Clone := ok_fn mem0 (by kernel_rfl) (by kernel_rfl) (by kernel_rfl) (by kernel_rfl) (cs := []) (by kernel_rfl) loops0
theorem okS_Clone : OkFn prog I N.slices_Clone_bytes_byte true (S_toL bytesR) := okW ok_Clone (S_toL_of fun xs K h => by
  have e : G_Clone [.l .no bytesR xs] K = (bif (Nat.beq (List.length xs) 0) then meet (K (.l .deep bytesR [], [])) (bif (Nat.ble (((List.length ([] : List Int)) + (List.length xs)) * 1) 140737488355328) then K ((.l .deep bytesR ([] ++ xs)), []) else none)
    else (bif (Nat.ble (((List.length ([] : List Int)) + (List.length xs)) * 1) 140737488355328) then K ((.l .deep bytesR ([] ++ xs)), []) else none)) := by kernel_rfl
  rw [e]
  simp only [Cc.lim, Bool.and_eq_true] at h
  have h1 : xs.length ≤ 1048576 := Nat.le_of_ble_eq_true h.1
  have h2 : Nat.ble (((List.length ([] : List Int)) + (List.length xs)) * 1) 140737488355328 = true := Nat.ble_eq_true_of_le (by simp; omega)
  rw [h2]
  cases xs with
  | nil => exact meet_self _
  | cons x xs => rfl)
-- Concat
def sh_cc1 : Ss := { tm := (.cons (.l .no pieceR) (.cons (.x) (.cons (.x) (.cons (.int .i64) (.cons (.x) (.cons (.x) (.cons (.x) (.cons (.x) (.cons (.x) (.cons (.l .no pieceR) (.cons (.int .i64) (.cons (.int .i64) (xsh 24))))))))))))), ob := .nil, nx := 0, io := .nil }
def d_cc1 (x0 : List (List (Int))) (x3 : Int) (x9 : List (List (Int))) (x10 : Int) (x11 : Int) : sh_cc1.T := ((x0, ((), ((), (x3, ((), ((), ((), ((), ((), (x9, (x10, (x11, xd 24)))))))))))), (), ())
def z_cc1 (x0 : List (List Int)) (x3 : Int) : St := { tm := ([(.l .no pieceR x0), .x, .x, (.s (.int .i64 x3))] ++ List.replicate 32 .x), ob := [], nx := 0, io := [] }
def R_cc1 (d : sh_cc1.T) (K : Ex → St → Option Ret) : Option Ret := match d with
  | ((x0, (_, (_, (x3, (_, (_, (_, (_, (_, (x9, (x10, (x11, _)))))))))))), _, _) => bif (x11 == 0) && (x3 == 0) && (x10 == ((x9.length : Nat) : Int)) && Nat.ble x9.length 4611686018427387904 && Nat.ble (sumW List.length x9) 1099511627776 then K (.ext 0) (z_cc1 x0 ((sumW List.length x9 : Nat) : Int)) else none
def sh_cc2 : Ss := { tm := (.cons (.x) (.cons (.x) (.cons (.x) (.cons (.x) (.cons (.x) (.cons (.x) (.cons (.w 0) (.cons (.x) (.cons (.x) (.cons (.x) (.cons (.x) (.cons (.x) (.cons (.x) (.cons (.x) (.cons (.x) (.cons (.x) (.cons (.x) (.cons (.x) (.cons (.x) (.cons (.x) (.cons (.x) (.cons (.x) (.cons (.x) (.cons (.x) (.cons (.x) (.cons (.l .no pieceR) (.cons (.int .i64) (.cons (.int .i64) (xsh 8))))))))))))))))))))))))))))), ob := (.arr true true bytesR .nil), nx := 1, io := .nil }
def d_cc2 (x25 : List (List (Int))) (x26 : Int) (x27 : Int) (o0 : List (Int)) : sh_cc2.T := (((), ((), ((), ((), ((), ((), ((), ((), ((), ((), ((), ((), ((), ((), ((), ((), ((), ((), ((), ((), ((), ((), ((), ((), ((), (x25, (x26, (x27, xd 8)))))))))))))))))))))))))))), (o0, ()), ())
def z_cc2 (o0 : List Int) : St := { tm := ([.x, .x, .x, .x, .x, .x, (.w 0)] ++ List.replicate 29 .x), ob := [(0, (.arr true true bytesR o0))], nx := 1, io := [] }
def R_cc2 (d : sh_cc2.T) (K : Ex → St → Option Ret) : Option Ret := match d with
  | ((_, (_, (_, (_, (_, (_, (_, (_, (_, (_, (_, (_, (_, (_, (_, (_, (_, (_, (_, (_, (_, (_, (_, (_, (_, (x25, (x26, (x27, _)))))))))))))))))))))))))))), (o0, _), _) => bif (x27 == 0) && (x26 == ((x25.length : Nat) : Int)) && Nat.ble x25.length 4611686018427387904 && Nat.beq o0.length 0 && Nat.ble (sumW List.length x25) 1099511627776 then K (.ext 2) (z_cc2 x25.flatten) else none
noncomputable def E_cc : Env := En [(N.slices_Grow_bytes_byte, true, S_growN bytesR)] [] [(3, [0,3,9,10,11], [0,3], loopF sh_cc1 R_cc1), (11, [6,25,26,27], [6], loopF sh_cc2 R_cc2)]
noncomputable abbrev L_cc1 (n : Nat) (x0 : List (List Int)) (x3 : Int) (x9 : List (List (Int))) (x10 x11 : Int) (K : Ex → St → Option Ret) : Option Ret := rounds (run E_cc (bodyOf F.slices_Concat_bytes_byte 3)) [0,3,9,10,11] [0,3] n (sh_cc1.mk' (d_cc1 x0 x3 x9 x10 x11)) K
noncomputable abbrev L_cc2 (n : Nat) (x25 : List (List (Int))) (x26 x27 : Int) (o0 : List Int) (K : Ex → St → Option Ret) : Option Ret := rounds (run E_cc (bodyOf F.slices_Concat_bytes_byte 11)) [6,25,26,27] [6] n (sh_cc2.mk' (d_cc2 x25 x26 x27 o0)) K
theorem step_cc1 (n : Nat) (x0 : List (List (Int))) (x3 : Int) (x9 : List (List (Int))) (x10 : Int) (x11 : Int) (K : Ex → St → Option Ret) : L_cc1 (n + 1) x0 x3 x9 x10 x11 K =
 (bif decide (x11 < x10) then
 (bif (decide ((0 : Int) ≤ x11) && decide (x11 < (((List.length x9) : Nat) : Int))) then
  (bif decide ((IntKind.wrap .i64 (x3 + (((List.length (List.getD x9 (Int.toNat x11) (pieceR.dflt))) : Nat) : Int))) < (0 : Int)) then
   none
   else L_cc1 n x0 (IntKind.wrap .i64 (x3 + (((List.length (List.getD x9 (Int.toNat x11) (pieceR.dflt))) : Nat) : Int))) x9 x10 (IntKind.wrap .i64 (x11 + (1 : Int))) K)
  else none)
 else K (.ext 0) (z_cc1 x0 x3)) := by kernel_rfl
theorem step_cc2 (n : Nat) (x25 : List (List (Int))) (x26 : Int) (x27 : Int) (o0 : List (Int)) (K : Ex → St → Option Ret) : L_cc2 (n + 1) x25 x26 x27 o0 K =
 (bif decide (x27 < x26) then
 (bif (decide ((0 : Int) ≤ x27) && decide (x27 < (((List.length x25) : Nat) : Int))) then
  (bif (Nat.ble (((List.length o0) + (List.length (List.getD x25 (Int.toNat x27) (pieceR.dflt)))) * 1) 140737488355328) then
   L_cc2 n x25 x26 (IntKind.wrap .i64 (x27 + (1 : Int))) (o0 ++ (List.getD x25 (Int.toNat x27) (pieceR.dflt))) K
   else none)
  else none)
 else K (.ext 2) (z_cc2 o0)) := by kernel_rfl
theorem go_cc1 (x0 x9 : List (List Int)) (K : Ex → St → Option Ret) (h1 : x9.length ≤ 4611686018427387904) (h2 : sumW List.length x9 ≤ 1099511627776) : L_cc1 (x9.length + 1) x0 0 x9 ((x9.length : Nat) : Int) 0 K = K (.ext 0) (z_cc1 x0 ((sumW List.length x9 : Nat) : Int)) := by
  have := loop_idx (R := fun n i (s : Int) => L_cc1 n x0 s x9 ((x9.length : Nat) : Int) i K) (k := K (.ext 0) (z_cc1 x0 ((sumW List.length x9 : Nat) : Int))) (f := fun i => ((sumW List.length (x9.take i) : Nat) : Int)) x9.length (fun m i hi => by
    show L_cc1 (m + 1) x0 _ x9 _ i K = L_cc1 m x0 ((sumW List.length (x9.take (i + 1)) : Nat) : Int) x9 _ ((i + 1 : Nat) : Int) K
    have hs := sumW_take (g := List.length) (z := (pieceR.dflt : List Int)) hi
    have hs' : sumW List.length (List.take (i + 1) x9) = sumW List.length (List.take i x9) + List.length (x9.getD i pieceR.dflt) := hs
    have hle : sumW List.length (x9.take (i + 1)) ≤ sumW List.length x9 := sumW_take_le
    rw [step_cc1, decide_eq_true (show ((i : Nat) : Int) < ((x9.length : Nat) : Int) by omega), decide_eq_true (show (0 : Int) ≤ ((i : Nat) : Int) by omega), wrap_nat (show i ≤ 4611686018427387904 by omega), Int.toNat_natCast, wrap_id (by omega) (by omega), hs', decide_eq_false (show ¬ ((((sumW List.length (List.take i x9) : Nat) : Int) + ((List.length (x9.getD i pieceR.dflt) : Nat) : Int)) < 0) by omega), Int.natCast_add]
    rfl) (fun m => by
    show L_cc1 (m + 1) x0 _ x9 _ _ K = _
    rw [step_cc1, decide_eq_false (show ¬ ((x9.length : Nat) : Int) < ((x9.length : Nat) : Int) by omega), List.take_length]; rfl)
  exact this
theorem go_cc2 (x25 : List (List Int)) (K : Ex → St → Option Ret) (h1 : x25.length ≤ 4611686018427387904) (h2 : sumW List.length x25 ≤ 1099511627776) : L_cc2 (x25.length + 1) x25 ((x25.length : Nat) : Int) 0 [] K = K (.ext 2) (z_cc2 x25.flatten) := by
  have := loop_idx (R := fun n i (s : List Int) => L_cc2 n x25 ((x25.length : Nat) : Int) i s K) (k := K (.ext 2) (z_cc2 x25.flatten)) (f := fun i => (x25.take i).flatten) x25.length (fun m i hi => by
    show L_cc2 (m + 1) x25 _ i _ K = L_cc2 m x25 _ ((i + 1 : Nat) : Int) (x25.take (i + 1)).flatten K
    have hs := sumW_take (g := List.length) (z := (pieceR.dflt : List Int)) hi
    have hs' : sumW List.length (List.take (i + 1) x25) = sumW List.length (List.take i x25) + List.length (x25.getD i pieceR.dflt) := hs
    have hle : sumW List.length (x25.take (i + 1)) ≤ sumW List.length x25 := sumW_take_le
    have hfl := sumW_flatten (x25.take i)
    rw [step_cc2, decide_eq_true (show ((i : Nat) : Int) < ((x25.length : Nat) : Int) by omega), decide_eq_true (show (0 : Int) ≤ ((i : Nat) : Int) by omega), wrap_nat (show i ≤ 4611686018427387904 by omega), Int.toNat_natCast, Nat.ble_eq_true_of_le (show (((x25.take i).flatten.length + (x25.getD i pieceR.dflt).length) * 1) ≤ 140737488355328 by omega)]
    show L_cc2 m x25 _ _ ((x25.take i).flatten ++ x25.getD i pieceR.dflt) K = _
    have hf2 : (x25.take (i + 1)).flatten = (x25.take i).flatten ++ x25.getD i pieceR.dflt := flatten_take hi
    rw [hf2]) (fun m => by
    show L_cc2 (m + 1) x25 _ _ _ K = _
    rw [step_cc2, decide_eq_false (show ¬ ((x25.length : Nat) : Int) < ((x25.length : Nat) : Int) by omega), List.take_length]; rfl)
  exact this
theorem loop_cc1 : LoopOk E_cc (bodyOf F.slices_Concat_bytes_byte 3) := by
  refine loopF_ok (n := 3) (sh := sh_cc1) (R := R_cc1) (by kernel_rfl) rfl rfl (fun d K r hr => ?_)
  obtain ⟨⟨x0, u1, u2, x3, u4, u5, u6, u7, u8, x9, x10, x11, u12⟩, u13, u14⟩ := d
  unfold R_cc1 at hr
  simp only at hr
  cases hc : ((x11 == 0) && (x3 == 0) && (x10 == ((x9.length : Nat) : Int)) && Nat.ble x9.length 4611686018427387904 && Nat.ble (sumW List.length x9) 1099511627776) with
  | false => rw [hc] at hr; cases hr
  | true =>
    rw [hc] at hr
    simp only [Bool.and_eq_true, beq_iff_eq] at hc
    obtain ⟨⟨⟨⟨rfl, rfl⟩, rfl⟩, h1⟩, h2⟩ := hc
    exact ⟨x9.length + 1, (go_cc1 x0 x9 K (Nat.le_of_ble_eq_true h1) (Nat.le_of_ble_eq_true h2)).trans hr⟩
theorem loop_cc2 : LoopOk E_cc (bodyOf F.slices_Concat_bytes_byte 11) := by
  refine loopF_ok (n := 11) (sh := sh_cc2) (R := R_cc2) (by kernel_rfl) rfl rfl (fun d K r hr => ?_)
  obtain ⟨⟨_, _, _, _, _, _, _, _, _, _, _, _, _, _, _, _, _, _, _, _, _, _, _, _, _, x25, x26, x27, u12⟩, ⟨o0, u13⟩, u14⟩ := d
  unfold R_cc2 at hr
  simp only at hr
  cases hc : ((x27 == 0) && (x26 == ((x25.length : Nat) : Int)) && Nat.ble x25.length 4611686018427387904 && Nat.beq o0.length 0 && Nat.ble (sumW List.length x25) 1099511627776) with
  | false => rw [hc] at hr; cases hr
  | true =>
    rw [hc] at hr
    simp only [Bool.and_eq_true, beq_iff_eq] at hc
    obtain ⟨⟨⟨⟨rfl, rfl⟩, h1⟩, h3⟩, h2⟩ := hc
    have h3' : o0 = [] := List.eq_nil_of_length_eq_zero (Nat.eq_of_beq_eq_true h3)
    subst h3'
    exact ⟨x25.length + 1, (go_cc2 x25 K (Nat.le_of_ble_eq_true h1) (Nat.le_of_ble_eq_true h2)).trans hr⟩
noncomputable def G_Concat := evF E_cc true F.slices_Concat_bytes_byte
theorem ok_Concat : OkFn prog I N.slices_Concat_bytes_byte true G_Concat := ok_fn (memc okS_Grow mem0) (by kernel_rfl) (by kernel_rfl) (by kernel_rfl) (by kernel_rfl) (cs := [bodyOf F.slices_Concat_bytes_byte 3, bodyOf F.slices_Concat_bytes_byte 11]) (by kernel_rfl) (loopsc loop_cc1 (loopsc loop_cc2 loops0))
def S_concat : Sm := fun vs K => match vs with
  | [v] => match (Cc.sl pieceR).dec v with
    | some (xs : List (List Int)) => bif Nat.ble xs.length 4611686018427387904 && Nat.ble (sumW List.length xs) 1099511627776 then K (.l .deep bytesR xs.flatten, []) else none
    | none => none
  | _ => none
theorem okS_Concat : OkFn prog I N.slices_Concat_bytes_byte true S_concat := okW ok_Concat (by
  intro ws K q hr
  unfold S_concat at hr
  split at hr
  · split at hr
    · rename_i xs hx
      rw [Cc.dec_ok _ hx]
      have e : G_Concat [.l .no pieceR xs] K = (bif ((0 : Int) == 0) && ((0 : Int) == 0) && (((List.length xs : Nat) : Int) == ((List.length xs : Nat) : Int)) && Nat.ble (List.length xs) 4611686018427387904 && Nat.ble (sumW List.length xs) 1099511627776 then
        (bif decide (0 ≤ ((sumW List.length xs : Nat) : Int)) && decide (((sumW List.length xs : Nat) : Int) ≤ 1099511627776) then
         (bif ((0 : Int) == 0) && (((List.length xs : Nat) : Int) == ((List.length xs : Nat) : Int)) && Nat.ble (List.length xs) 4611686018427387904 && Nat.beq 0 0 && Nat.ble (sumW List.length xs) 1099511627776 then K (.l .deep bytesR (List.flatten xs), []) else none)
         else none) else none) := by kernel_rfl
      cases hl : (Nat.ble xs.length 4611686018427387904 && Nat.ble (sumW List.length xs) 1099511627776) with
      | false => rw [hl] at hr; cases hr
      | true =>
        rw [hl] at hr
        simp only [Bool.and_eq_true] at hl
        refine e.trans (Eq.trans ?_ hr)
        rw [hl.1, hl.2, beq_self_eq_true, beq_self_eq_true, decide_eq_true (show (0 : Int) ≤ ((sumW List.length xs : Nat) : Int) by omega), decide_eq_true (show ((sumW List.length xs : Nat) : Int) ≤ 1099511627776 by have := Nat.le_of_ble_eq_true hl.2; omega)]
        rfl
    · cases hr
  · cases hr)
end Go.Ev.Seat
end
section
/- i_Edit_do: its contract. -/
namespace Go.Ev.Seat
open Go.RowKit
set_option maxRecDepth 100000
set_option linter.unusedVariables false
set_option linter.unusedSimpArgs false
noncomputable abbrev E_i_Edit_do : Env := En [(N.slices_Concat_bytes_byte, true, S_concat)] [(1, takeB [0, 1, 2, 3, 4, 5, 6, 7, 8, 9, 10, 11, 12] (.fork (.one 13 (.fork (.one 14 (takes [15]))))), [])] [] [] false 0 []
noncomputable def T_i_Edit_do (e : T_Edit) (t : List Int) (K : Ret → Option Ret) : Option Ret :=
 (bif ((decide ((0 : Int) ≤ e.1)) && (decide (e.1 ≤ (((List.length t) : Nat) : Int)))) then
 (bif ((decide ((0 : Int) ≤ (IntKind.wrap .i64 (e.1 + e.2.1)))) && (decide ((IntKind.wrap .i64 (e.1 + e.2.1)) ≤ (((List.length t) : Nat) : Int)))) then
  (bif (Nat.ble (sumW List.length ((List.take (Int.toNat e.1) t) :: (e.2.2 :: ((List.drop (Int.toNat (IntKind.wrap .i64 (e.1 + e.2.1))) t) :: [])))) 1099511627776) then
   K ((.l .deep bytesR (List.flatten ((List.take (Int.toNat e.1) t) :: (e.2.2 :: ((List.drop (Int.toNat (IntKind.wrap .i64 (e.1 + e.2.1))) t) :: []))))), [])
   else none)
  else none)
 else none)
theorem e_i_Edit_do (e : T_Edit) (t : List Int) (K : Ret → Option Ret) : evF E_i_Edit_do true F.i_Edit_do [.a (editR.cells .no e), .l .no bytesR t] K = T_i_Edit_do e t K := by kernel_rfl
def S_i_Edit_do : Sm := S_fn [.a editR, .l bytesR] (fun d => decide (0 ≤ d.1.1) && decide (0 ≤ d.1.2.1) && decide (d.1.1 + d.1.2.1 ≤ ((d.2.1.length : Nat) : Int)) && Nat.ble d.2.1.length 1048576 && Nat.ble d.1.2.2.length 1048576) (fun d => .l .deep bytesR (doD d.1 d.2.1))
theorem v_i_Edit_do (e : T_Edit) (t : List Int) (h : (decide (0 ≤ e.1) && decide (0 ≤ e.2.1) && decide (e.1 + e.2.1 ≤ ((t.length : Nat) : Int)) && Nat.ble t.length 1048576 && Nat.ble e.2.2.length 1048576) = true) (K : Ret → Option Ret) : T_i_Edit_do e t K = K (.l .deep bytesR (doD e t), []) := by
  simp only [Bool.and_eq_true, decide_eq_true_eq] at h
  obtain ⟨⟨⟨⟨h0, h1⟩, h2⟩, h3⟩, h4⟩ := h
  have h3' := Nat.le_of_ble_eq_true h3
  have h4' := Nat.le_of_ble_eq_true h4
  unfold T_i_Edit_do
  rw [wrap_in (n := e.1 + e.2.1) (by omega) (by omega), decide_eq_true h0, decide_eq_true (show e.1 ≤ ((t.length : Nat) : Int) by omega), decide_eq_true (show 0 ≤ e.1 + e.2.1 by omega), decide_eq_true h2]
  have hs : Nat.ble (sumW List.length [List.take (Int.toNat e.1) t, e.2.2, List.drop (Int.toNat (e.1 + e.2.1)) t]) 1099511627776 = true := Nat.ble_eq_true_of_le (by
    have e1 : (List.take (Int.toNat e.1) t).length ≤ 1048576 := by simp; omega
    have e2 : (List.drop (Int.toNat (e.1 + e.2.1)) t).length ≤ 1048576 := by simp; omega
    show _ + (_ + (_ + 0)) ≤ _
    omega)
  rw [hs]
  simp only [Bool.and_self, cond_true]
  rw [show [List.take (Int.toNat e.1) t, e.2.2, List.drop (Int.toNat (e.1 + e.2.1)) t].flatten = doD e t by simp [doD]]
theorem okS_i_Edit_do : OkFn prog I N.i_Edit_do true S_i_Edit_do := okW (ok_fn (memc okS_Concat mem0) (l := [(N.slices_Concat_bytes_byte, true, S_concat)]) (p := [(1, takeB [0, 1, 2, 3, 4, 5, 6, 7, 8, 9, 10, 11, 12] (.fork (.one 13 (.fork (.one 14 (takes [15]))))), [])]) (ls := []) (lend := []) (focus := false) (fuel := 0) (give := []) (fn := F.i_Edit_do) (by kernel_rfl) (by kernel_rfl) (by kernel_rfl) (by kernel_rfl) (cs := []) (by kernel_rfl) loops0) (S_fn_of fun d K h => (e_i_Edit_do d.1 d.2.1 K).trans (v_i_Edit_do d.1 d.2.1 h K))
end Go.Ev.Seat
end
section
/- i_EditDo: its contract. -/
namespace Go.Ev.Seat
open Go.RowKit
set_option maxRecDepth 100000
set_option linter.unusedVariables false
set_option linter.unusedSimpArgs false
noncomputable abbrev E_i_EditDo : Env := En [(N.i_isEdit, true, S_i_isEdit), (N.i_Edit_do, true, S_i_Edit_do)] [] [] [] false 0 []
noncomputable def T_i_EditDo (t : List Int) (e : T_Edit) (K : Ret → Option Ret) : Option Ret :=
 (bif ((fitB t) && (fitB e.2.2)) then
 (bif (!(editOkD t e)) then
  K ((.t [(.l .deep bytesR ([] : List Int)), (.s (.bool false))]), [])
  else (bif (((((decide ((0 : Int) ≤ e.1)) && (decide ((0 : Int) ≤ e.2.1))) && (decide ((e.1 + e.2.1) ≤ (((List.length t) : Nat) : Int)))) && (Nat.ble (List.length t) 1048576)) && (Nat.ble (List.length e.2.2) 1048576)) then
   K ((.t [(.l .deep bytesR (doD e t)), (.s (.bool true))]), [])
   else none))
 else none)
theorem e_i_EditDo (t : List Int) (e : T_Edit) (K : Ret → Option Ret) : evF E_i_EditDo true F.i_EditDo [.l .no bytesR t, .a (editR.cells .no e)] K = T_i_EditDo t e K := by kernel_rfl
def S_i_EditDo : Sm := S_fn [.l bytesR, .a editR] (fun d => fitB d.1 && fitB d.2.1.2.2) (fun d => .t [.l .deep bytesR (editDoD d.1 d.2.1), bl (editOkD d.1 d.2.1)])
theorem v_i_EditDo (t : List Int) (e : T_Edit) (h : (fitB t && fitB e.2.2) = true) (K : Ret → Option Ret) : T_i_EditDo t e K = K (.t [.l .deep bytesR (editDoD t e), bl (editOkD t e)], []) := by
  unfold T_i_EditDo editDoD
  rw [h]
  cases hk : editOkD t e with
  | false => rfl
  | true =>
  have q := editOkD_iff.1 hk
  have r1 := isCutD_range q.a
  have r2 := isCutD_range q.b
  have c0 := q.c0
  have l1 := textOk_len q.tx
  have l2 := textOk_len q.p
  rw [decide_eq_true r1.1, decide_eq_true c0, decide_eq_true r2.2, Nat.ble_eq_true_of_le (by omega), Nat.ble_eq_true_of_le (by omega)]
  rfl
theorem okS_i_EditDo : OkFn prog I N.i_EditDo true S_i_EditDo := okW (ok_fn (memc okS_i_isEdit (memc okS_i_Edit_do mem0)) (l := [(N.i_isEdit, true, S_i_isEdit), (N.i_Edit_do, true, S_i_Edit_do)]) (p := []) (ls := []) (lend := []) (focus := false) (fuel := 0) (give := []) (fn := F.i_EditDo) (by kernel_rfl) (by kernel_rfl) (by kernel_rfl) (by kernel_rfl) (cs := []) (by kernel_rfl) loops0) (S_fn_of fun d K h => (e_i_EditDo d.1 d.2.1 K).trans (v_i_EditDo d.1 d.2.1 h K))
end Go.Ev.Seat
end
section
/- Requests and replies, as numbers and lists. -/
set_option linter.unusedVariables false
namespace Go.Ev
open Go.RowKit
def isWordD (n : Int) : Bool := decide (0 ≤ n) && decide (n ≤ 65535)
def wordD (n : Int) : List Int := [n / 256, n % 256]
theorem isWordD_iff {n : Int} : isWordD n = true ↔ 0 ≤ n ∧ n ≤ 65535 := by unfold isWordD; rw [Bool.and_eq_true, decide_eq_true_iff, decide_eq_true_iff]
theorem wrap8_mod (n : Int) : IntKind.u8.wrap n = n % 256 := by
  simp only [IntKind.wrap, IntKind.bits, IntKind.signed]; simp
theorem shr8 (n : Int) : shrI .i64 n 8 = n / 256 := by
  unfold shrI
  show Int.fdiv n (2 ^ 8) = _
  rw [Int.fdiv_eq_ediv_of_nonneg _ (by decide)]; rfl
theorem wordD_fit {n : Int} (h : isWordD n = true) : ∀ x ∈ wordD n, 0 ≤ x ∧ x ≤ 255 := by
  have := isWordD_iff.1 h
  intro x hx
  simp only [wordD, List.mem_cons, List.not_mem_nil, or_false] at hx
  rcases hx with rfl | rfl <;> omega
theorem bifK {K : Ret → Option Ret} (p u v : Bool) : (bif p then K ((.s (.bool u)), []) else K ((.s (.bool v)), [])) = K ((.s (.bool (bif p then u else v))), []) := by cases p <;> rfl
theorem kinds {k : Int} (h1 : 1 ≤ k) (h2 : k ≤ 16) : k = 1 ∨ k = 2 ∨ k = 3 ∨ k = 4 ∨ k = 5 ∨ k = 6 ∨ k = 7 ∨ k = 8 ∨ k = 9 ∨ k = 10 ∨ k = 11 ∨ k = 12 ∨ k = 13 ∨ k = 14 ∨ k = 15 ∨ k = 16 := by omega
abbrev P4 : Type := Int × Int × Int × List Int
def replyOkD (r : P4) : Bool := decide (0 ≤ r.1) && decide (r.1 ≤ 10) && isWordD r.2.1 && isWordD r.2.2.1 && textOk r.2.2.2 && (r.1 == 0 || r.2.1 == 0 && r.2.2.1 == 0 && (((r.2.2.2.length : Nat) : Int) == 0))
def replyBytesD (r : P4) : List Int := bif replyOkD r then [r.1] ++ wordD r.2.1 ++ wordD r.2.2.1 ++ wordD ((r.2.2.2.length : Nat) : Int) ++ r.2.2.2 else []
theorem replyBytesD_len (r : P4) : (replyBytesD r).length ≤ 407 := by
  unfold replyBytesD
  cases h : replyOkD r with
  | false => simp
  | true =>
    unfold replyOkD at h
    simp only [Bool.and_eq_true] at h
    have := (textOk_iff.1 h.1.2).1
    simp [wordD]; omega
/-- How many numbers a kind of request has. -/
def usedD (k : Int) : Int := bif k == 3 || k == 7 || k == 8 || k == 9 then 1 else bif k == 4 || k == 5 || k == 6 || k == 10 || k == 11 || k == 14 then 2 else bif k == 12 || k == 13 then 3 else 0
abbrev P6 : Type := Int × Int × Int × Int × Int × List Int
def reqKindD (k n : Int) : Bool := bif k == 3 || k == 5 then true else bif k == 7 || k == 8 then decide (n > 0) else !decide (n > 0)
def reqOkD (r : P6) : Bool := decide (1 ≤ r.1) && decide (r.1 ≤ 16) && (decide (1 ≤ r.2.1) && decide (r.2.1 ≤ 8)) && (decide (((r.2.2.2.2.2.length : Nat) : Int) ≤ 100) && textOk r.2.2.2.2.2) &&
  isWordD r.2.2.1 && isWordD r.2.2.2.1 && isWordD r.2.2.2.2.1 && ((decide (0 < usedD r.1) || r.2.2.1 == 0) && (decide (1 < usedD r.1) || r.2.2.2.1 == 0) && (decide (2 < usedD r.1) || r.2.2.2.2.1 == 0) && reqKindD r.1 ((r.2.2.2.2.2.length : Nat) : Int))
def reqBytesL (r : P6) : List Int := [r.1, r.2.1] ++ wordD r.2.2.1 ++ wordD r.2.2.2.1 ++ wordD r.2.2.2.2.1 ++ [((r.2.2.2.2.2.length : Nat) : Int)] ++ r.2.2.2.2.2
def reqBytesD (r : P6) : List Int := bif reqOkD r then reqBytesL r else []
/-- The text that a document starts with. -/
def startD (t : List Int) : List Int := bif textOk t then t else []
def docNewD {α β γ : Type} (t : List Int) : List Int × List Int × List α × Int × List β × List γ := (startD t, startD t, [], 0, [], [])
theorem startD_len (t : List Int) : (startD t).length ≤ 400 := by
  unfold startD
  cases h : textOk t with
  | false => exact Nat.zero_le _
  | true => exact (textOk_iff.1 h).1
end Go.Ev
end
section
/- What is known of an argument: bytes are bytes, and it is small. -/
set_option linter.unusedVariables false
namespace Go.Ev.Seat
open Go.RowKit
mutual
def fitC : (c : Cc) → c.T → Bool
  | .int .u8, n => isB n
  | .int _, _ => true
  | .bool, _ => true
  | .str, _ => true
  | .sl r, xs => Nat.ble xs.length 1048576 && xs.all (fitR r)
def fitR : (r : Rw) → r.T → Bool
  | .one c, d => fitC c d
  | .cons c r, d => fitC c d.1 && fitR r d.2
end
mutual
theorem fitC_of : (c : Cc) → (d : c.T) → c.wf d → c.lim d = true → fitC c d = true
  | .int k, n, h, _ => by
    cases k <;> simp only [fitC]
    have h' : (Lit.int .u8 n).wf = true := h
    simp only [Lit.wf, Bool.and_eq_true, decide_eq_true_eq] at h'
    have a : IntKind.u8.min = 0 := rfl
    have b : IntKind.u8.max = 255 := rfl
    rw [a, b] at h'
    simp only [isB, Bool.and_eq_true, decide_eq_true_eq]
    exact h'
  | .bool, _, _, _ => rfl
  | .str, _, _, _ => rfl
  | .sl r, xs, h, g => by
    simp only [Cc.lim, Bool.and_eq_true, List.all_eq_true] at g
    simp only [fitC, Bool.and_eq_true, List.all_eq_true]
    exact ⟨g.1, fun x hx => fitR_of r x (h.2 x hx) (g.2 x hx)⟩
theorem fitR_of : (r : Rw) → (d : r.T) → r.wf d → r.lim d = true → fitR r d = true
  | .one c, d, h, g => fitC_of c d h g
  | .cons c r, d, h, g => by
    simp only [Rw.lim, Bool.and_eq_true] at g
    simp only [fitR, Bool.and_eq_true]
    exact ⟨fitC_of c d.1 h.1 g.1, fitR_of r d.2 h.2 g.2⟩
end
theorem fitB_fit {b : List Int} (h : fitC (.sl bytesR) b = true) : fitB b = true := h
theorem fitR_snd {c : Cc} {r : Rw} {d : (Rw.cons c r).T} (h : fitR (.cons c r) d = true) : fitR r d.2 = true := ((Bool.and_eq_true _ _).mp h).2
theorem fitR_fst {c : Cc} {r : Rw} {d : (Rw.cons c r).T} (h : fitR (.cons c r) d = true) : fitC c d.1 = true := ((Bool.and_eq_true _ _).mp h).1
theorem fitC_mem {r : Rw} {l : List r.T} (h : fitC (.sl r) l = true) {x : r.T} (hx : x ∈ l) : fitR r x = true := by
  simp only [fitC, Bool.and_eq_true, List.all_eq_true] at h
  exact h.2 x hx
theorem fitC_len {r : Rw} {l : List r.T} (h : fitC (.sl r) l = true) : l.length ≤ 1048576 := by
  simp only [fitC, Bool.and_eq_true] at h
  exact Nat.le_of_ble_eq_true h.1
theorem bytes_w0 : ∀ (b : List Int), sumW (Rw.one (.int .u8)).w b = 0
  | [] => rfl
  | x :: b => by simp only [sumW, bytes_w0 b]; rfl
theorem bytes_w (b : List Int) : (Cc.sl bytesR).w b = b.length := by
  show b.length + sumW (Rw.one (.int .u8)).w b = _
  rw [bytes_w0 b]; rfl
theorem bytes_lim {b : List Int} (h : b.length ≤ 1048576) : (Cc.sl bytesR).lim b = true := by
  simp only [Cc.lim, Bool.and_eq_true, List.all_eq_true]
  exact ⟨Nat.ble_eq_true_of_le h, fun _ _ => rfl⟩
theorem lw_len {xs : List Int} {Z R : Option Ret} (h : xs.length ≤ 1048576 → R = Z) : (bif decide (((xs.length : Nat) : Int) > 1048576) then Z else R) = Z := by
  by_cases q : ((xs.length : Nat) : Int) > 1048576
  · rw [decide_eq_true q]; rfl
  · rw [decide_eq_false q]; exact h (by omega)
theorem bytes_le {b : List Int} {n : Nat} (h : b.length ≤ n) (hn : n ≤ 1099511627776) : (Cc.sl bytesR).w b ≤ 1099511627776 := by
  rw [bytes_w]; omega
theorem docNew_w (t : List Int) : docR.w (docNewD t) ≤ 1099511627776 := by
  have h := startD_len t
  show (Cc.sl bytesR).w (startD t) + ((Cc.sl bytesR).w (startD t) + 0) ≤ _
  rw [bytes_w]; omega
theorem machNew_w (t : List Int) : machR.w (startD t, startD t, [], 0, [], [], []) ≤ 1099511627776 := by
  have h := startD_len t
  show (Cc.sl bytesR).w (startD t) + ((Cc.sl bytesR).w (startD t) + 0) ≤ _
  rw [bytes_w]; omega
end Go.Ev.Seat
end
section
/- The law FnExactEditDo. Printed by laws.py. -/
namespace Go.Ev.Seat
open Go.RowKit
set_option maxRecDepth 100000
set_option linter.unusedVariables false
noncomputable abbrev ls_EditDo (T : MText) : List (Nat × Bool × Sm) := [(N.s_EditDo, true, S_s_EditDo), (N.i_EditDo, true, S_i_EditDo), (N.l_toByteS, true, S_toL bytesR), (N.l_eqByteS, true, S_eq bytesR), (N.l_markByteS, true, S_markL T bytesR), (N.l_toEdit, true, S_toA editR), (N.l_eqEdit, true, S_eqA editR), (N.l_szEdit, true, S_szA editR), (N.l_markEdit, true, S_markA T editR), (N.l_heldByteS, true, S_heldL T bytesR)]
noncomputable abbrev pl_EditDo : List (Nat × Plan × List Nat) := [(7, takeB [0, 2] (.fork (.one 1 (.fork (.one 3 (.fork (.one 4 (takes [5, 6, 7, 8, 9]))))))), []), (15, takeB [0, 1] (.fork (.one 2 (.fork (.one 3 (takes [4]))))), []), (30, takeB [0, 2] (.fork (.one 1 (.fork (.one 3 (.fork (.one 4 (takes [5, 6, 7, 8, 9]))))))), [])]
noncomputable def G_EditDo (T : MText) := evF (En (ls_EditDo T) pl_EditDo [] [N.l_markByteS, N.l_markEdit] true) true F.l_FnExactEditDo
theorem ok_EditDo (T : MText) : OkFn prog I N.l_FnExactEditDo true (G_EditDo T) := ok_fn (l := ls_EditDo T) (memc okS_s_EditDo (memc okS_i_EditDo (memc okS_toByteS (memc okS_eqByteS (memc (okS_markByteS T) (memc okS_toEdit (memc okS_eqEdit (memc okS_szEdit (memc (okS_markEdit T) (memc (okS_heldByteS T) mem0)))))))))) (by kernel_rfl) (by kernel_rfl) (by kernel_rfl) (by kernel_rfl) (cs := []) (by kernel_rfl) loops0
noncomputable def L1_EditDo (T : MText) (t : List Int) (a : T_Edit) (K : Ret → Option Ret) : Option Ret := (bif (Cc.sl bytesR).cnt (editDoD t a) then (bif !(eqD ((editDoD t a) : List Int) (editDoD t a)) then K (bl false, []) else (bif !((editOkD t a) == (editOkD t a)) then K (bl false, []) else (bif (eqD ((Cc.sl bytesR).mark T ((Cc.sl bytesR).mark T (editDoD t a) (1 : Int)).1 (1 : Int)).1 ((Cc.sl bytesR).mark T (editDoD t a) (1 : Int)).1) && ((Cc.sl bytesR).cnt ((Cc.sl bytesR).mark T (editDoD t a) (1 : Int)).1 && decide ((0 : Int) ≤ (1 : Int)) && decide ((1 : Int) + (((Cc.sl bytesR).marks ((Cc.sl bytesR).mark T (editDoD t a) (1 : Int)).1 : Nat) : Int) ≤ 4611686018427387904)) then (bif decide (((Cc.sl bytesR).mark T ((Cc.sl bytesR).mark T (editDoD t a) (1 : Int)).1 (1 : Int)).2 < 0) then K (bl false, []) else (bif ((Cc.sl bytesR).mark T ((Cc.sl bytesR).mark T (editDoD t a) (1 : Int)).1 (1 : Int)).2 != ((Cc.sl bytesR).mark T (editDoD t a) (1 : Int)).2 then K (bl false, []) else K (bl true, []))) else none))) else none)
noncomputable def L0_EditDo (T : MText) (t : List Int) (a : T_Edit) (K : Ret → Option Ret) : Option Ret := (bif (Cc.sl bytesR).lim t then (bif editR.lim a then (bif (fitB t && fitB a.2.2) then (bif (Cc.sl bytesR).cnt (editDoD t a) then (bif !(eqD ((editDoD t a) : List Int) (editDoD t a)) then K (bl false, []) else (bif !((editOkD t a) == (editOkD t a)) then K (bl false, []) else (bif (Cc.sl bytesR).lim t then (bif (Cc.sl bytesR).cnt t then (bif !(eqD (t : List Int) t) then K (bl false, []) else (bif editR.lim a then (bif editR.cnt a then (bif !(eqD (a : T_Edit) a) then K (bl false, []) else (bif (Cc.sl bytesR).cnt t then (bif editR.cnt a then (bif decide ((editR.markA T a ((Cc.sl bytesR).mark T t (1 : Int)).2).2 < 0) then K (bl false, []) else (bif (Cc.sl bytesR).cnt (editDoD t a) then (bif !(eqD ((editDoD t a) : List Int) (editDoD t a)) then K (bl false, []) else (bif !((editOkD t a) == (editOkD t a)) then K (bl false, []) else (bif (Cc.sl bytesR).cnt (editDoD t a) then (bif (eqD ((Cc.sl bytesR).mark T ((Cc.sl bytesR).mark T (editDoD t a) (1 : Int)).1 (1 : Int)).1 ((Cc.sl bytesR).mark T (editDoD t a) (1 : Int)).1) && ((Cc.sl bytesR).cnt ((Cc.sl bytesR).mark T (editDoD t a) (1 : Int)).1 && decide ((0 : Int) ≤ (1 : Int)) && decide ((1 : Int) + (((Cc.sl bytesR).marks ((Cc.sl bytesR).mark T (editDoD t a) (1 : Int)).1 : Nat) : Int) ≤ 4611686018427387904)) then (bif decide (((Cc.sl bytesR).mark T ((Cc.sl bytesR).mark T (editDoD t a) (1 : Int)).1 (1 : Int)).2 < 0) then K (bl false, []) else (bif ((Cc.sl bytesR).mark T ((Cc.sl bytesR).mark T (editDoD t a) (1 : Int)).1 (1 : Int)).2 != ((Cc.sl bytesR).mark T (editDoD t a) (1 : Int)).2 then K (bl false, []) else (bif (Cc.sl bytesR).lim t then (bif editR.lim a then (bif (fitB t && fitB a.2.2) then (L1_EditDo T t a K) else none) else none) else none))) else none) else none))) else none)) else none) else none)) else none) else none)) else none) else none))) else none) else none) else none) else none)
theorem law_EditDo (T : MText) (t : List Int) (a : T_Edit) (K : Ret → Option Ret) (hwf0 : (Cc.sl bytesR).wf t) (hwf1 : editR.wf a) : G_EditDo T [.l .no bytesR t, .a (editR.cells .no a)] K = K (bl true, []) := by
  have e : G_EditDo T [.l .no bytesR t, .a (editR.cells .no a)] K = (bif decide (((List.length t : Nat) : Int) > 1048576) then K (bl true, []) else (bif szOk (1048576 : Int) && editR.cnz a then (bif decide (szN (editR.w a) (1048576 : Int) < 0) then K (bl true, []) else (bif (Cc.sl bytesR).lim t then (bif editR.lim a then (bif (fitB t && fitB a.2.2) then (L0_EditDo T t a K) else none) else none) else none)) else none)) := by kernel_rfl
  refine e.trans ?_
  have hz0 : (Cc.sl bytesR).cnz t = true := Cc.cnz_of_wf (.sl bytesR) t hwf0
  have hz1 : editR.cnz a = true := Rw.cnz_of_wf editR a hwf1
  refine lw_len (fun q0 => ?_)
  refine lw_sz (show szOk 1048576 = true by rfl) hz1 (fun n0 e0 s0 => ?_)
  have hw0 : (Cc.sl bytesR).w t ≤ 1048576 := Nat.le_trans (Nat.le_of_eq (bytes_w t)) q0
  have lim0 : (Cc.sl bytesR).lim t = true := bytes_lim q0
  have cnt0 : (Cc.sl bytesR).cnt t = true := Cc.cnt_of_lim (.sl bytesR) t lim0
  have mk0 : (Cc.sl bytesR).marks t ≤ 32 * (Cc.sl bytesR).w t := Cc.marksA_le (.sl bytesR) rfl t
  have hw1 : editR.w a ≤ 1048576 := by omega
  have lim1 : editR.lim a = true := Rw.lim_ok editR a hw1
  have cnt1 : editR.cnt a = true := Rw.cnt_of_lim editR a lim1
  have mk1 : editR.marksA a ≤ 32 * editR.w a := Rw.marksA_le editR rfl a
  have hpre : (fitB t && fitB a.2.2) = true := (Bool.and_eq_true _ _).mpr ⟨fitB_fit (fitC_of (.sl bytesR) t hwf0 lim0), fitB_fit (fitR_snd (fitR_snd (fitR_of editR a hwf1 lim1)))⟩
  have rw0 : (Cc.sl bytesR).w (editDoD t a) ≤ 1099511627776 := bytes_le (editDoD_len t a) (by omega)
  have rcnt0 : (Cc.sl bytesR).cnt (editDoD t a) = true := Cc.cnt_of_w (.sl bytesR) (editDoD t a) (by omega)
  have rmk0 : (Cc.sl bytesR).marks (editDoD t a) ≤ 32 * (Cc.sl bytesR).w (editDoD t a) := Cc.marksA_le (.sl bytesR) rfl (editDoD t a)
  have k0 := Cc.mark_cnt T (.sl bytesR) t (1 : Int) (by omega) (by omega)
  have k1 := Rw.markA_cnt T editR a ((Cc.sl bytesR).mark T t (1 : Int)).2 (by omega) (by omega)
  have pk2 : 0 ≤ (editR.markA T a ((Cc.sl bytesR).mark T t (1 : Int)).2).2 := by omega
  have mm0 := Cc.mark_cnt T (.sl bytesR) (editDoD t a) (1 : Int) (by omega) (by omega)
  have hq0 : (1 : Int) = 1 := rfl
  have id0 : (Cc.sl bytesR).mark T ((Cc.sl bytesR).mark T (editDoD t a) (1 : Int)).1 (1 : Int) = (Cc.sl bytesR).mark T (editDoD t a) (1 : Int) := Cc.mark_idem T (.sl bytesR) (editDoD t a) (1 : Int)
  have hq1 : ((Cc.sl bytesR).mark T ((Cc.sl bytesR).mark T (editDoD t a) (1 : Int)).1 (1 : Int)).2 = ((Cc.sl bytesR).mark T (editDoD t a) (1 : Int)).2 := congrArg Prod.snd id0
  have hg0 : eqD ((Cc.sl bytesR).mark T ((Cc.sl bytesR).mark T (editDoD t a) (1 : Int)).1 (1 : Int)).1 ((Cc.sl bytesR).mark T (editDoD t a) (1 : Int)).1 = true := eqD_iff.2 (congrArg Prod.fst id0)
  have gcnt0 : (Cc.sl bytesR).cnt ((Cc.sl bytesR).mark T (editDoD t a) (1 : Int)).1 = true := (Cc.markA_w T (.sl bytesR) (editDoD t a) (1 : Int)).trans rcnt0
  have gmk0 : (Cc.sl bytesR).marks ((Cc.sl bytesR).mark T (editDoD t a) (1 : Int)).1 = (Cc.sl bytesR).marks (editDoD t a) := Cc.markA_marks T (.sl bytesR) (editDoD t a) (1 : Int)
  have pq0 : 0 ≤ (1 : Int) := by omega
  have bq0 : (1 : Int) + (((Cc.sl bytesR).marks ((Cc.sl bytesR).mark T (editDoD t a) (1 : Int)).1 : Nat) : Int) ≤ 4611686018427387904 := by omega
  have pq1 : 0 ≤ ((Cc.sl bytesR).mark T ((Cc.sl bytesR).mark T (editDoD t a) (1 : Int)).1 (1 : Int)).2 := by omega
  have t1 : L1_EditDo T t a K = K (bl true, []) := by
    unfold L1_EditDo
    exact (lw_eq rcnt0 (lw_bool (lw_held hg0 gcnt0 pq0 bq0 (lw_lt pq1 (lw_int2 hq1 rfl)))))
  have t0 : L0_EditDo T t a K = K (bl true, []) := by
    unfold L0_EditDo
    exact (to_step lim0 (to_step lim1 (to_step hpre (lw_eq rcnt0 (lw_bool (to_step lim0 (lw_eq cnt0 (to_step lim1 (lw_eq cnt1 (to_step cnt0 (to_step cnt1 (lw_lt pk2 (lw_eq rcnt0 (lw_bool (to_step rcnt0 (lw_held hg0 gcnt0 pq0 bq0 (lw_lt pq1 (lw_int2 hq1 (to_step lim0 (to_step lim1 (to_step hpre t1)))))))))))))))))))))
  exact (to_step lim0 (to_step lim1 (to_step hpre t0)))
end Go.Ev.Seat
end
section
/- Kinds of types that come in, checked by reckoning. -/
set_option linter.unusedVariables false
namespace Go.Ev
open Go.RowKit
mutual
def ccN (P : Program) : Nat → Cc → TypeId → Bool
  | 0, _, _ => false
  | n + 1, c, t => match c, P.underlying t with
    | .int k, some (.int k') => decide (k' = k)
    | .bool, some .bool => true
    | .str, some .string => true
    | .sl r, some (.slice e) => Nat.beq (P.cellsOf e) r.n && (match layN P n r.list e with
      | some [] => true
      | _ => false)
    | _, _ => false
/-- The cells of a type, taken off a list: what is left. -/
def layN (P : Program) : Nat → List Cc → TypeId → Option (List Cc)
  | 0, _, _ => none
  | n + 1, cs, t => match cs with
    | [] => none
    | c :: rest => bif ccN P n c t then some rest else match P.underlying t with
      | some (.struct fs) => fsN P n (c :: rest) 0 fs.toList
      | _ => none
def fsN (P : Program) : Nat → List Cc → Nat → List Field → Option (List Cc)
  | 0, _, _, _ => none
  | n + 1, cs, i, fs => match fs with
    | [] => some cs
    | f :: rest => bif Nat.beq f.offset i then (match layN P n cs f.type with
      | some cs' => bif Nat.beq (P.cellsOf f.type + cs'.length) cs.length then fsN P n cs' (i + P.cellsOf f.type) rest else none
      | none => none) else none
end
theorem kinds_ok {P : Program} : ∀ (n : Nat), (∀ c t, ccN P n c t = true → CcOk P c t) ∧ (∀ cs t rest, layN P n cs t = some rest → ∃ pre, cs = pre ++ rest ∧ LayOk P pre t) ∧ ∀ cs i fs rest, fsN P n cs i fs = some rest → ∃ pre, cs = pre ++ rest ∧ LayFs P pre i fs
  | 0 => ⟨fun _ _ h => by simp [ccN] at h, fun _ _ _ h => by simp [layN] at h, fun _ _ _ _ h => by simp [fsN] at h⟩
  | n + 1 => by
    obtain ⟨h1, h2, h3⟩ := kinds_ok (P := P) n
    refine ⟨fun c t h => ?_, fun cs t rest h => ?_, fun cs i fs rest h => ?_⟩
    · simp only [ccN] at h
      split at h
      · rename_i k k' hu
        have := of_decide_eq_true h
        subst this
        exact .int hu
      · rename_i hu; exact .bool hu
      · rename_i hu; exact .str hu
      · rename_i r e hu
        simp only [Bool.and_eq_true] at h
        obtain ⟨g1, g2⟩ := h
        split at g2
        · rename_i hl
          obtain ⟨pre, e1, e2⟩ := h2 _ _ _ hl
          rw [List.append_nil] at e1
          exact .sl hu (Nat.eq_of_beq_eq_true g1) (e1 ▸ e2)
        · cases g2
      · cases h
    · simp only [layN] at h
      split at h
      · cases h
      · rename_i c rest'
        cases hc : ccN P n c t with
        | true =>
          rw [hc] at h
          cases h
          exact ⟨[c], rfl, .one (h1 _ _ hc)⟩
        | false =>
          rw [hc] at h
          simp only [cond_false] at h
          split at h
          · rename_i fs hu
            obtain ⟨pre, e1, e2⟩ := h3 _ _ _ _ h
            exact ⟨pre, e1, .st hu e2⟩
          · cases h
    · simp only [fsN] at h
      split at h
      · cases h
        exact ⟨[], rfl, .nil⟩
      · rename_i f rest'
        cases ho : Nat.beq f.offset i with
        | false => rw [ho] at h; cases h
        | true =>
          rw [ho] at h
          simp only [cond_true] at h
          split at h
          · rename_i cs' hl
            obtain ⟨pre, e1, e2⟩ := h2 _ _ _ hl
            cases hb : Nat.beq (P.cellsOf f.type + cs'.length) cs.length with
            | false => rw [hb] at h; cases h
            | true =>
              rw [hb] at h
              simp only [cond_true] at h
              have hlen := Nat.eq_of_beq_eq_true hb
              have hp : P.cellsOf f.type = pre.length := by rw [e1, List.length_append] at hlen; omega
              obtain ⟨pre2, e3, e4⟩ := h3 _ _ _ _ h
              rw [hp] at e4
              refine ⟨pre ++ pre2, by rw [e1, e3, List.append_assoc], .cons (Nat.eq_of_beq_eq_true ho) hp e2 e4⟩
          · cases h
def ccB (P : Program) (c : Cc) (t : TypeId) : Bool := ccN P 100 c t
def rwB (P : Program) (r : Rw) (t : TypeId) : Bool := match layN P 100 r.list t with
  | some [] => true
  | _ => false
theorem ccB_ok {P : Program} (c : Cc) {t : TypeId} (h : ccB P c t = true) : CcOk P c t := (kinds_ok 100).1 c t h
theorem rwB_ok {P : Program} (r : Rw) {t : TypeId} (h : rwB P r t = true) : RwOk P r t := by
  unfold rwB at h
  split at h
  · rename_i hl
    obtain ⟨pre, e1, e2⟩ := (kinds_ok 100).2.1 _ _ _ hl
    rw [List.append_nil] at e1
    show LayOk P r.list t
    rw [e1]; exact e2
  · cases h
end Go.Ev
end
section
/- An argument of one cell. -/
set_option linter.unusedVariables false
namespace Go.Ev
theorem cells_one {P : Program} {W : World} {r : Reach} {base : Nat} {c : Cc} {t : TypeId} {v : Value} (h : CcOk P c t) (ok : Value.okWide P W r base t v) : v.cells.toList = [v] := by
  cases v with
  | agg cs =>
    exfalso
    unfold Value.okWide at ok
    cases h with
    | int h => rw [h] at ok; simp [Cell.okWide, Cell.ok, h] at ok
    | bool h => rw [h] at ok; simp [Cell.okWide, Cell.ok, h] at ok
    | str h => rw [h] at ok; simp [Cell.okWide, Cell.ok, h] at ok
    | sl h _ _ => rw [h] at ok; simp [Cell.okWide, Cell.ok, h] at ok
  | _ => rfl
end Go.Ev
end
section
/- What a row's list gives of the tables of unicode/utf8. -/
set_option linter.unusedVariables false
namespace Go.Ev
open Go
variable {H : Type} {enc : TypeId × Value → H} {P : Program} {w : World} {base : Nat} {sp : Nat → Bool} {held : Bool}

/-- An array's cells, element by element. -/
theorem trod_arr {fuel : Nat} {t e : TypeId} {n m : Nat} {cs : List Value} {ds : List (DataW H)} {p : List MemPlace}
    (ht : P.underlying t = some (.array n e)) (hce : P.cellsOf e = m) (hct : P.cellsOf t = n * m)
    (h : DataW.trod enc P w base sp held fuel t cs = some (.agg ds, p)) :
    cs.length = n * m ∧ ds.length = n ∧ ∀ (i : Nat) (d : DataW H), ds[i]? = some d → ∃ f q, DataW.trod enc P w base sp held f e ((cs.drop (i * m)).take m) = some (d, q) := by
  cases fuel with
  | zero => simp [DataW.trod] at h
  | succ fuel =>
    simp only [DataW.trod, ht, hce, hct] at h
    split at h
    · rename_i hl
      obtain ⟨xs, hm, hx⟩ := Option.map_eq_some_iff.1 h
      have hxs : xs.map (·.1) = ds := by
        have := congrArg Prod.fst hx
        simpa using this
      have hxl : xs.length = n := by simpa using Lib.mapM_length hm
      refine ⟨by simpa using hl, by rw [← hxs]; simp [hxl], fun i d hd => ?_⟩
      rw [← hxs] at hd
      rw [List.getElem?_map, Option.map_eq_some_iff] at hd
      obtain ⟨b, hb, rfl⟩ := hd
      have hi : i < n := by
        have := (List.getElem?_eq_some_iff.1 hb).1
        omega
      obtain ⟨b', hb', hf⟩ := Lib.mapM_at hm i i (by simp [hi])
      obtain rfl := Option.some.inj (hb.symm.trans hb')
      exact ⟨fuel, b.2, hf⟩
    · cases h
theorem trod_u8 {fuel : Nat} {t : TypeId} {k : IntKind} {cs : List Value} {z : Int} {p : List MemPlace} (ht : P.underlying t = some (.int k))
    (h : DataW.trod enc P w base sp held fuel t cs = some (.lit (.int k z), p)) : cs = [.int k z] := by
  cases fuel with
  | zero => simp [DataW.trod] at h
  | succ fuel =>
    obtain ⟨z', hc, h2, _⟩ := DataW.trod_int ht h
    cases h2
    exact hc
/-- A struct of two small cells. -/
theorem trod_two {fuel : Nat} {t : TypeId} {fs : Array Field} {f g : Field} {k : IntKind} {cs : List Value} {x y : Int} {p : List MemPlace}
    (ht : P.underlying t = some (.struct fs)) (hfs : fs.toList = [f, g]) (hc : P.cellsOf t = 2) (hf0 : f.offset = 0) (hg0 : g.offset = 1) (hf : P.underlying f.type = some (.int k)) (hg : P.underlying g.type = some (.int k))
    (hcf : P.cellsOf f.type = 1) (hcg : P.cellsOf g.type = 1)
    (h : DataW.trod enc P w base sp held fuel t cs = some (.agg [.lit (.int k x), .lit (.int k y)], p)) : cs = [.int k x, .int k y] := by
  cases fuel with
  | zero => simp [DataW.trod] at h
  | succ fuel =>
    simp only [DataW.trod, ht, hfs, hc, hf0, hg0, hcf, hcg] at h
    split at h
    · rename_i hl
      obtain ⟨xs, hm, hx⟩ := Option.map_eq_some_iff.1 h
      have hxs : xs.map (·.1) = [.lit (.int k x), .lit (.int k y)] := by
        have := congrArg Prod.fst hx
        simpa using this
      obtain ⟨b0, hb0, h0⟩ := Lib.mapM_at hm 0 f rfl
      obtain ⟨b1, hb1, h1⟩ := Lib.mapM_at hm 1 g rfl
      have e0 : b0.1 = .lit (.int k x) := by
        have := congrArg (·[0]?) hxs
        simpa [hb0] using this
      have e1 : b1.1 = .lit (.int k y) := by
        have := congrArg (·[1]?) hxs
        simpa [hb1] using this
      obtain ⟨d0, q0⟩ := b0
      obtain ⟨d1, q1⟩ := b1
      simp only at e0 e1
      subst e0 e1
      rw [hf0, hcf] at h0
      rw [hg0, hcg] at h1
      have a0 := trod_u8 hf h0
      have a1 := trod_u8 hg h1
      match cs, hl, a0, a1 with
      | [u, v], _, a0, a1 =>
        simp at a0 a1
        rw [a0, a1]
      | [], hl, _, _ => simp at hl
      | [_], hl, _, _ => simp at hl
      | _ :: _ :: _ :: _, hl, _, _ => simp at hl
    · cases h
theorem laid_at {laid : List (String × DataW Unit)} {W : World} {ps : List MemPlace} (h : DataW.LaidVars P W laid ps) {i : Nat} {name : String} {d : DataW Unit} (hi : laid[i]? = some (name, d)) {g : Nat} {t : TypeId}
    (hg : P.globalNamed name = some g) (hty : (P.globals[g]?).map (·.type) = some t) : ∃ cs fuel p, W.var? P name = some cs ∧ DataW.trod (fun _ => ()) P W 0 (fun _ => true) false fuel t cs.toList = some (d, p) := by
  induction laid generalizing ps i with
  | nil => simp at hi
  | cons x rest ih =>
    obtain ⟨n, d'⟩ := x
    obtain ⟨g', t', cs, fuel, p, q, hg', ht', hvar, hd, hr, _⟩ := h
    cases i with
    | zero =>
      simp only [List.getElem?_cons_zero, Option.some.injEq, Prod.mk.injEq] at hi
      obtain ⟨rfl, rfl⟩ := hi
      obtain rfl := Option.some.inj (hg.symm.trans hg')
      obtain rfl := Option.some.inj (hty.symm.trans ht')
      exact ⟨cs, fuel, p, hvar, hd⟩
    | succ i => exact ih hr (by simpa using hi)
theorem var_lt {W : World} {name : String} {g : Nat} {cs : Array Value} (hg : P.globalNamed name = some g) (h : W.var? P name = some cs) : g < W.heap.size := by
  unfold World.var? at h
  rw [hg] at h
  simp only [Option.bind_some] at h
  split at h
  · rename_i hh
    exact (Array.getElem?_eq_some_iff.1 hh).1
  · cases h
/-- THE TWO TABLES, off the list of a row. -/
theorem globI_utf {W : World} {d0 d1 : DataW Unit} (hm : laidMet P [("unicode/utf8.acceptRanges", d1), ("unicode/utf8.first", d0)] W)
    (hd0 : d0 = .agg (utfFirst.map fun z => .lit (.int .u8 z))) (hd1 : d1 = .agg (utfAccept.map fun z => .agg [.lit (.int .u8 z.1), .lit (.int .u8 z.2)]))
    {t0 t1 e0 e1 : TypeId} (hg0 : P.globalNamed "unicode/utf8.first" = some 0) (hg1 : P.globalNamed "unicode/utf8.acceptRanges" = some 1)
    (hy0 : (P.globals[0]?).map (·.type) = some t0) (hy1 : (P.globals[1]?).map (·.type) = some t1)
    (ht0 : P.underlying t0 = some (.array 256 e0)) (ht1 : P.underlying t1 = some (.array 16 e1)) (he0 : P.underlying e0 = some (.int .u8))
    {fs : Array Field} {f g : Field} (he1 : P.underlying e1 = some (.struct fs)) (hfs : fs.toList = [f, g]) (hf0 : f.offset = 0) (hgo : g.offset = 1) (hf : P.underlying f.type = some (.int .u8)) (hg : P.underlying g.type = some (.int .u8))
    (hcf : P.cellsOf f.type = 1) (hcg : P.cellsOf g.type = 1) (hc0 : P.cellsOf t0 = 256) (hc1 : P.cellsOf t1 = 32) (hce0 : P.cellsOf e0 = 1) (hce1 : P.cellsOf e1 = 2) : GlobI utfGlob W.heap.size W := by
  obtain ⟨ps, hL, _⟩ := hm
  obtain ⟨cs1, fu1, p1, hv1, hr1⟩ := laid_at hL (i := 0) rfl hg1 hy1
  obtain ⟨cs0, fu0, p0, hv0, hr0⟩ := laid_at hL (i := 1) rfl hg0 hy0
  subst hd0 hd1
  obtain ⟨l0, n0, r0⟩ := trod_arr (n := 256) (m := 1) ht0 hce0 hc0 hr0
  obtain ⟨l1, n1, r1⟩ := trod_arr (n := 16) (m := 2) ht1 hce1 hc1 hr1
  intro gg r xs hgg
  unfold utfGlob at hgg
  by_cases h0 : gg = 0
  · subst h0
    simp only [Nat.beq, cond_true, Option.some.injEq, Sigma.mk.injEq] at hgg
    obtain ⟨rfl, hxs⟩ := hgg
    cases hxs
    refine ⟨var_lt hg0 hv0, fun i d hd => ?_⟩
    obtain ⟨f', q, hq⟩ := r0 i _ (by rw [List.getElem?_map, hd]; rfl)
    have hcs := trod_u8 he0 hq
    refine ⟨[.int .u8 d], rfl, fun j v hj => ?_, fun C w => ⟨.int .u8 d, [], rfl, ⟨rfl, rfl⟩, rfl⟩⟩
    match j, hj with
    | 0, hj =>
      cases hj
      rw [World.var?_cell hg0 hv0]
      have := congrArg (·[0]?) hcs
      simpa [Rw.n, List.getElem?_take, List.getElem?_drop] using this
    | j + 1, hj => simp at hj
  · by_cases h1 : gg = 1
    · subst h1
      simp only [Nat.beq, cond_true, cond_false, Option.some.injEq, Sigma.mk.injEq] at hgg
      obtain ⟨rfl, hxs⟩ := hgg
      cases hxs
      refine ⟨var_lt hg1 hv1, fun i d hd => ?_⟩
      obtain ⟨f', q, hq⟩ := r1 i _ (by rw [List.getElem?_map, hd]; rfl)
      have hcs := trod_two he1 hfs hce1 hf0 hgo hf hg hcf hcg hq
      refine ⟨[.int .u8 d.1, .int .u8 d.2], rfl, fun j v hj => ?_, fun C w => ⟨.int .u8 d.1, [.int .u8 d.2], rfl, ⟨rfl, rfl⟩, ⟨.int .u8 d.2, [], rfl, ⟨rfl, rfl⟩, rfl⟩⟩⟩
      match j, hj with
      | 0, hj =>
        cases hj
        rw [World.var?_cell hg1 hv1]
        have := congrArg (·[0]?) hcs
        simpa [Rw.n, List.getElem?_take, List.getElem?_drop] using this
      | 1, hj =>
        cases hj
        rw [World.var?_cell hg1 hv1]
        have := congrArg (·[1]?) hcs
        simpa [Rw.n, List.getElem?_take, List.getElem?_drop] using this
      | j + 2, hj => simp at hj
    · exfalso
      match gg, h0, h1 with
      | 0, h0, _ => exact h0 rfl
      | 1, _, h1 => exact h1 rfl
      | n + 2, _, _ => simp [Nat.beq] at hgg
def u8B (P : Program) (t : TypeId) : Bool := match P.underlying t with
  | some (.int .u8) => P.cellsOf t == 1
  | _ => false
theorem u8B_ok {t : TypeId} (h : u8B P t = true) : P.underlying t = some (.int .u8) ∧ P.cellsOf t = 1 := by
  unfold u8B at h
  split at h
  · rename_i e; exact ⟨e, by simpa using h⟩
  · cases h
def twoB (P : Program) (t : TypeId) : Bool := match P.underlying t with
  | some (.struct fs) => match fs.toList with
    | [f, g] => f.offset == 0 && g.offset == 1 && u8B P f.type && u8B P g.type && P.cellsOf t == 2
    | _ => false
  | _ => false
/-- The two tables' types, looked at. -/
def tabB (P : Program) (t0 t1 e0 e1 : TypeId) : Bool :=
  P.globalNamed "unicode/utf8.first" == some 0 && P.globalNamed "unicode/utf8.acceptRanges" == some 1 && (P.globals[0]?).map (·.type) == some t0 && (P.globals[1]?).map (·.type) == some t1 &&
  P.cellsOf t0 == 256 && P.cellsOf t1 == 32 && u8B P e0 && twoB P e1
theorem globI_utfB {W : World} {d0 d1 : DataW Unit} (hm : laidMet P [("unicode/utf8.acceptRanges", d1), ("unicode/utf8.first", d0)] W)
    (hd0 : d0 = .agg (utfFirst.map fun z => .lit (.int .u8 z))) (hd1 : d1 = .agg (utfAccept.map fun z => .agg [.lit (.int .u8 z.1), .lit (.int .u8 z.2)]))
    (t0 t1 e0 e1 : TypeId) (hB : tabB P t0 t1 e0 e1 = true) (ht0 : P.underlying t0 = some (.array 256 e0)) (ht1 : P.underlying t1 = some (.array 16 e1)) : GlobI utfGlob W.heap.size W := by
  unfold tabB at hB
  simp only [Bool.and_eq_true, beq_iff_eq] at hB
  obtain ⟨⟨⟨⟨⟨⟨⟨a1, a2⟩, a3⟩, a4⟩, a5⟩, a6⟩, a7⟩, a8⟩ := hB
  unfold twoB at a8
  split at a8
  · rename_i fs hfs
    split at a8
    · rename_i f g hfg
      simp only [Bool.and_eq_true, beq_iff_eq] at a8
      obtain ⟨⟨⟨⟨b1, b2⟩, b3⟩, b4⟩, b5⟩ := a8
      obtain ⟨c1, c2⟩ := u8B_ok b3
      obtain ⟨c3, c4⟩ := u8B_ok b4
      obtain ⟨c5, c6⟩ := u8B_ok a7
      exact globI_utf hm hd0 hd1 a1 a2 a3 a4 ht0 ht1 c5 hfs hfg b1 b2 c1 c3 c2 c4 a5 a6 c6 b5
    · cases a8
  · cases a8
def lay (xs : List Value) : Obj → Obj
  | .cells _ t frozen => .cells xs.toArray t frozen
  | o => o
/-- What the tables' initialisers lay. -/
def layUtf (h : Array Obj) : Array Obj := (h.modify 0 (lay (utfFirst.map fun z => .int .u8 z))).modify 1 (lay (utfAccept.flatMap fun z => [.int .u8 z.1, .int .u8 z.2]))
end Go.Ev
end
