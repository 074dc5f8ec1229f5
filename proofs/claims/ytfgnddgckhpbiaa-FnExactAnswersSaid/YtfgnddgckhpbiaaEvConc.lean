/- slices.Clone and slices.Concat of bytes. -/
import Derived.Test.YtfgnddgckhpbiaaEvGrow
import Derived.Test.YtfgnddgckhpbiaaEvRows
import Derived.Test.YtfgnddgckhpbiaaEvBytes
namespace Go.Ev.Seat
open Go.RowKit
set_option maxRecDepth 100000
set_option linter.unusedVariables false
-- Clone
noncomputable def G_Clone := evF (En []) true F.slices_Clone_bytes_byte
theorem ok_Clone {I : Nat → World → Prop} : OkFn prog I N.slices_Clone_bytes_byte true G_Clone := ok_fn mem0 (by kernel_rfl) (by kernel_rfl) (by kernel_rfl) (by kernel_rfl) (cs := []) (by kernel_rfl) loops0
theorem okS_Clone {I : Nat → World → Prop} : OkFn prog I N.slices_Clone_bytes_byte true (S_toL bytesR) := okW ok_Clone (S_toL_of fun xs K h => by
  have e : G_Clone [.l .no bytesR xs] K = (bif (Nat.beq (List.length xs) 0) then meet (K (.l .deep bytesR [], [])) (bif (Nat.ble (((List.length ([] : List Int)) + (List.length xs)) * 1) 140737488355328) then K ((.l .deep bytesR ([] ++ xs)), []) else none)
    else (bif (Nat.ble (((List.length ([] : List Int)) + (List.length xs)) * 1) 140737488355328) then K ((.l .deep bytesR ([] ++ xs)), []) else none)) := by kernel_rfl
  rw [e]
  simp only [Cc.lim, Bool.and_eq_true] at h
  have h1 : xs.length ≤ 1048576 := Nat.le_of_ble_eq_true h.1
  have h2 : Nat.ble (((List.length ([] : List Int)) + (List.length xs)) * 1) 140737488355328 = true := Nat.ble_eq_true_of_le (by simp; omega)
  rw [h2]
  cases xs with
  | nil => exact meet_self _
  | cons x xs => rfl)
-- Concat
def sh_cc1 : Ss := { tm := (.cons (.l .no pieceR) (.cons (.x) (.cons (.x) (.cons (.int .i64) (.cons (.x) (.cons (.x) (.cons (.x) (.cons (.x) (.cons (.x) (.cons (.l .no pieceR) (.cons (.int .i64) (.cons (.int .i64) (xsh 24))))))))))))), ob := .nil, nx := 0, io := .nil }
def d_cc1 (x0 : List (List (Int))) (x3 : Int) (x9 : List (List (Int))) (x10 : Int) (x11 : Int) : sh_cc1.T := ((x0, ((), ((), (x3, ((), ((), ((), ((), ((), (x9, (x10, (x11, xd 24)))))))))))), (), ())
def z_cc1 (x0 : List (List Int)) (x3 : Int) : St := { tm := ([(.l .no pieceR x0), .x, .x, (.s (.int .i64 x3))] ++ List.replicate 32 .x), ob := [], nx := 0, io := [] }
def R_cc1 (d : sh_cc1.T) (K : Ex → St → Option Ret) : Option Ret := match d with
  | ((x0, (_, (_, (x3, (_, (_, (_, (_, (_, (x9, (x10, (x11, _)))))))))))), _, _) => bif (x11 == 0) && (x3 == 0) && (x10 == ((x9.length : Nat) : Int)) && Nat.ble x9.length 4611686018427387904 && Nat.ble (sumW List.length x9) 1099511627776 then K (.ext 0) (z_cc1 x0 ((sumW List.length x9 : Nat) : Int)) else none
def sh_cc2 : Ss := { tm := (.cons (.x) (.cons (.x) (.cons (.x) (.cons (.x) (.cons (.x) (.cons (.x) (.cons (.w 0) (.cons (.x) (.cons (.x) (.cons (.x) (.cons (.x) (.cons (.x) (.cons (.x) (.cons (.x) (.cons (.x) (.cons (.x) (.cons (.x) (.cons (.x) (.cons (.x) (.cons (.x) (.cons (.x) (.cons (.x) (.cons (.x) (.cons (.x) (.cons (.x) (.cons (.l .no pieceR) (.cons (.int .i64) (.cons (.int .i64) (xsh 8))))))))))))))))))))))))))))), ob := (.arr true true bytesR .nil), nx := 1, io := .nil }
def d_cc2 (x25 : List (List (Int))) (x26 : Int) (x27 : Int) (o0 : List (Int)) : sh_cc2.T := (((), ((), ((), ((), ((), ((), ((), ((), ((), ((), ((), ((), ((), ((), ((), ((), ((), ((), ((), ((), ((), ((), ((), ((), ((), (x25, (x26, (x27, xd 8)))))))))))))))))))))))))))), (o0, ()), ())
def z_cc2 (o0 : List Int) : St := { tm := ([.x, .x, .x, .x, .x, .x, (.w 0)] ++ List.replicate 29 .x), ob := [(0, (.arr true true bytesR o0))], nx := 1, io := [] }
def R_cc2 (d : sh_cc2.T) (K : Ex → St → Option Ret) : Option Ret := match d with
  | ((_, (_, (_, (_, (_, (_, (_, (_, (_, (_, (_, (_, (_, (_, (_, (_, (_, (_, (_, (_, (_, (_, (_, (_, (_, (x25, (x26, (x27, _)))))))))))))))))))))))))))), (o0, _), _) => bif (x27 == 0) && (x26 == ((x25.length : Nat) : Int)) && Nat.ble x25.length 4611686018427387904 && Nat.beq o0.length 0 && Nat.ble (sumW List.length x25) 1099511627776 then K (.ext 2) (z_cc2 x25.flatten) else none
noncomputable def E_cc : Env := En [(N.slices_Grow_bytes_byte, true, S_growN bytesR)] [] [(3, [0,3,9,10,11], [0,3], loopF sh_cc1 R_cc1), (11, [6,25,26,27], [6], loopF sh_cc2 R_cc2)]
noncomputable abbrev L_cc1 (n : Nat) (x0 : List (List Int)) (x3 : Int) (x9 : List (List (Int))) (x10 x11 : Int) (K : Ex → St → Option Ret) : Option Ret := rounds (run E_cc (bodyOf F.slices_Concat_bytes_byte 3)) [0,3,9,10,11] [0,3] n (sh_cc1.mk' (d_cc1 x0 x3 x9 x10 x11)) K
noncomputable abbrev L_cc2 (n : Nat) (x25 : List (List (Int))) (x26 x27 : Int) (o0 : List Int) (K : Ex → St → Option Ret) : Option Ret := rounds (run E_cc (bodyOf F.slices_Concat_bytes_byte 11)) [6,25,26,27] [6] n (sh_cc2.mk' (d_cc2 x25 x26 x27 o0)) K
theorem step_cc1 (n : Nat) (x0 : List (List (Int))) (x3 : Int) (x9 : List (List (Int))) (x10 : Int) (x11 : Int) (K : Ex → St → Option Ret) : L_cc1 (n + 1) x0 x3 x9 x10 x11 K =
 (bif decide (x11 < x10) then
 (bif (decide ((0 : Int) ≤ x11) && decide (x11 < (((List.length x9) : Nat) : Int))) then
  (bif decide ((IntKind.wrap .i64 (x3 + (((List.length (List.getD x9 (Int.toNat x11) (pieceR.dflt))) : Nat) : Int))) < (0 : Int)) then
   none
   else L_cc1 n x0 (IntKind.wrap .i64 (x3 + (((List.length (List.getD x9 (Int.toNat x11) (pieceR.dflt))) : Nat) : Int))) x9 x10 (IntKind.wrap .i64 (x11 + (1 : Int))) K)
  else none)
 else K (.ext 0) (z_cc1 x0 x3)) := by kernel_rfl
theorem step_cc2 (n : Nat) (x25 : List (List (Int))) (x26 : Int) (x27 : Int) (o0 : List (Int)) (K : Ex → St → Option Ret) : L_cc2 (n + 1) x25 x26 x27 o0 K =
 (bif decide (x27 < x26) then
 (bif (decide ((0 : Int) ≤ x27) && decide (x27 < (((List.length x25) : Nat) : Int))) then
  (bif (Nat.ble (((List.length o0) + (List.length (List.getD x25 (Int.toNat x27) (pieceR.dflt)))) * 1) 140737488355328) then
   L_cc2 n x25 x26 (IntKind.wrap .i64 (x27 + (1 : Int))) (o0 ++ (List.getD x25 (Int.toNat x27) (pieceR.dflt))) K
   else none)
  else none)
 else K (.ext 2) (z_cc2 o0)) := by kernel_rfl
theorem go_cc1 (x0 x9 : List (List Int)) (K : Ex → St → Option Ret) (h1 : x9.length ≤ 4611686018427387904) (h2 : sumW List.length x9 ≤ 1099511627776) : L_cc1 (x9.length + 1) x0 0 x9 ((x9.length : Nat) : Int) 0 K = K (.ext 0) (z_cc1 x0 ((sumW List.length x9 : Nat) : Int)) := by
  have := loop_idx (R := fun n i (s : Int) => L_cc1 n x0 s x9 ((x9.length : Nat) : Int) i K) (k := K (.ext 0) (z_cc1 x0 ((sumW List.length x9 : Nat) : Int))) (f := fun i => ((sumW List.length (x9.take i) : Nat) : Int)) x9.length (fun m i hi => by
    show L_cc1 (m + 1) x0 _ x9 _ i K = L_cc1 m x0 ((sumW List.length (x9.take (i + 1)) : Nat) : Int) x9 _ ((i + 1 : Nat) : Int) K
    have hs := sumW_take (g := List.length) (z := (pieceR.dflt : List Int)) hi
    have hs' : sumW List.length (List.take (i + 1) x9) = sumW List.length (List.take i x9) + List.length (x9.getD i pieceR.dflt) := hs
    have hle : sumW List.length (x9.take (i + 1)) ≤ sumW List.length x9 := sumW_take_le
    rw [step_cc1, decide_eq_true (show ((i : Nat) : Int) < ((x9.length : Nat) : Int) by omega), decide_eq_true (show (0 : Int) ≤ ((i : Nat) : Int) by omega), wrap_nat (show i ≤ 4611686018427387904 by omega), Int.toNat_natCast, wrap_id (by omega) (by omega), hs', decide_eq_false (show ¬ ((((sumW List.length (List.take i x9) : Nat) : Int) + ((List.length (x9.getD i pieceR.dflt) : Nat) : Int)) < 0) by omega), Int.natCast_add]
    rfl) (fun m => by
    show L_cc1 (m + 1) x0 _ x9 _ _ K = _
    rw [step_cc1, decide_eq_false (show ¬ ((x9.length : Nat) : Int) < ((x9.length : Nat) : Int) by omega), List.take_length]; rfl)
  exact this
theorem go_cc2 (x25 : List (List Int)) (K : Ex → St → Option Ret) (h1 : x25.length ≤ 4611686018427387904) (h2 : sumW List.length x25 ≤ 1099511627776) : L_cc2 (x25.length + 1) x25 ((x25.length : Nat) : Int) 0 [] K = K (.ext 2) (z_cc2 x25.flatten) := by
  have := loop_idx (R := fun n i (s : List Int) => L_cc2 n x25 ((x25.length : Nat) : Int) i s K) (k := K (.ext 2) (z_cc2 x25.flatten)) (f := fun i => (x25.take i).flatten) x25.length (fun m i hi => by
    show L_cc2 (m + 1) x25 _ i _ K = L_cc2 m x25 _ ((i + 1 : Nat) : Int) (x25.take (i + 1)).flatten K
    have hs := sumW_take (g := List.length) (z := (pieceR.dflt : List Int)) hi
    have hs' : sumW List.length (List.take (i + 1) x25) = sumW List.length (List.take i x25) + List.length (x25.getD i pieceR.dflt) := hs
    have hle : sumW List.length (x25.take (i + 1)) ≤ sumW List.length x25 := sumW_take_le
    have hfl := sumW_flatten (x25.take i)
    rw [step_cc2, decide_eq_true (show ((i : Nat) : Int) < ((x25.length : Nat) : Int) by omega), decide_eq_true (show (0 : Int) ≤ ((i : Nat) : Int) by omega), wrap_nat (show i ≤ 4611686018427387904 by omega), Int.toNat_natCast, Nat.ble_eq_true_of_le (show (((x25.take i).flatten.length + (x25.getD i pieceR.dflt).length) * 1) ≤ 140737488355328 by omega)]
    show L_cc2 m x25 _ _ ((x25.take i).flatten ++ x25.getD i pieceR.dflt) K = _
    have hf2 : (x25.take (i + 1)).flatten = (x25.take i).flatten ++ x25.getD i pieceR.dflt := flatten_take hi
    rw [hf2]) (fun m => by
    show L_cc2 (m + 1) x25 _ _ _ K = _
    rw [step_cc2, decide_eq_false (show ¬ ((x25.length : Nat) : Int) < ((x25.length : Nat) : Int) by omega), List.take_length]; rfl)
  exact this
theorem loop_cc1 : LoopOk E_cc (bodyOf F.slices_Concat_bytes_byte 3) := by
  refine loopF_ok (n := 3) (sh := sh_cc1) (R := R_cc1) (by kernel_rfl) rfl rfl (fun d K r hr => ?_)
  obtain ⟨⟨x0, u1, u2, x3, u4, u5, u6, u7, u8, x9, x10, x11, u12⟩, u13, u14⟩ := d
  unfold R_cc1 at hr
  simp only at hr
  cases hc : ((x11 == 0) && (x3 == 0) && (x10 == ((x9.length : Nat) : Int)) && Nat.ble x9.length 4611686018427387904 && Nat.ble (sumW List.length x9) 1099511627776) with
  | false => rw [hc] at hr; cases hr
  | true =>
    rw [hc] at hr
    simp only [Bool.and_eq_true, beq_iff_eq] at hc
    obtain ⟨⟨⟨⟨rfl, rfl⟩, rfl⟩, h1⟩, h2⟩ := hc
    exact ⟨x9.length + 1, (go_cc1 x0 x9 K (Nat.le_of_ble_eq_true h1) (Nat.le_of_ble_eq_true h2)).trans hr⟩
theorem loop_cc2 : LoopOk E_cc (bodyOf F.slices_Concat_bytes_byte 11) := by
  refine loopF_ok (n := 11) (sh := sh_cc2) (R := R_cc2) (by kernel_rfl) rfl rfl (fun d K r hr => ?_)
  obtain ⟨⟨_, _, _, _, _, _, _, _, _, _, _, _, _, _, _, _, _, _, _, _, _, _, _, _, _, x25, x26, x27, u12⟩, ⟨o0, u13⟩, u14⟩ := d
  unfold R_cc2 at hr
  simp only at hr
  cases hc : ((x27 == 0) && (x26 == ((x25.length : Nat) : Int)) && Nat.ble x25.length 4611686018427387904 && Nat.beq o0.length 0 && Nat.ble (sumW List.length x25) 1099511627776) with
  | false => rw [hc] at hr; cases hr
  | true =>
    rw [hc] at hr
    simp only [Bool.and_eq_true, beq_iff_eq] at hc
    obtain ⟨⟨⟨⟨rfl, rfl⟩, h1⟩, h3⟩, h2⟩ := hc
    have h3' : o0 = [] := List.eq_nil_of_length_eq_zero (Nat.eq_of_beq_eq_true h3)
    subst h3'
    exact ⟨x25.length + 1, (go_cc2 x25 K (Nat.le_of_ble_eq_true h1) (Nat.le_of_ble_eq_true h2)).trans hr⟩
noncomputable def G_Concat := evF E_cc true F.slices_Concat_bytes_byte
theorem ok_Concat {I : Nat → World → Prop} : OkFn prog I N.slices_Concat_bytes_byte true G_Concat := ok_fn (memc okS_Grow mem0) (by kernel_rfl) (by kernel_rfl) (by kernel_rfl) (by kernel_rfl) (cs := [bodyOf F.slices_Concat_bytes_byte 3, bodyOf F.slices_Concat_bytes_byte 11]) (by kernel_rfl) (loopsc loop_cc1 (loopsc loop_cc2 loops0))
def S_concat : Sm := fun vs K => match vs with
  | [v] => match (Cc.sl pieceR).dec v with
    | some (xs : List (List Int)) => bif Nat.ble xs.length 4611686018427387904 && Nat.ble (sumW List.length xs) 1099511627776 then K (.l .deep bytesR xs.flatten, []) else none
    | none => none
  | _ => none
theorem okS_Concat {I : Nat → World → Prop} : OkFn prog I N.slices_Concat_bytes_byte true S_concat := okW ok_Concat (by
  intro ws K q hr
  unfold S_concat at hr
  split at hr
  · split at hr
    · rename_i xs hx
      rw [Cc.dec_ok _ hx]
      have e : G_Concat [.l .no pieceR xs] K = (bif ((0 : Int) == 0) && ((0 : Int) == 0) && (((List.length xs : Nat) : Int) == ((List.length xs : Nat) : Int)) && Nat.ble (List.length xs) 4611686018427387904 && Nat.ble (sumW List.length xs) 1099511627776 then
        (bif decide (0 ≤ ((sumW List.length xs : Nat) : Int)) && decide (((sumW List.length xs : Nat) : Int) ≤ 1099511627776) then
         (bif ((0 : Int) == 0) && (((List.length xs : Nat) : Int) == ((List.length xs : Nat) : Int)) && Nat.ble (List.length xs) 4611686018427387904 && Nat.beq 0 0 && Nat.ble (sumW List.length xs) 1099511627776 then K (.l .deep bytesR (List.flatten xs), []) else none)
         else none) else none) := by kernel_rfl
      cases hl : (Nat.ble xs.length 4611686018427387904 && Nat.ble (sumW List.length xs) 1099511627776) with
      | false => rw [hl] at hr; cases hr
      | true =>
        rw [hl] at hr
        simp only [Bool.and_eq_true] at hl
        refine e.trans (Eq.trans ?_ hr)
        rw [hl.1, hl.2, beq_self_eq_true, beq_self_eq_true, decide_eq_true (show (0 : Int) ≤ ((sumW List.length xs : Nat) : Int) by omega), decide_eq_true (show ((sumW List.length xs : Nat) : Int) ≤ 1099511627776 by have := Nat.le_of_ble_eq_true hl.2; omega)]
        rfl
    · cases hr
  · cases hr)
end Go.Ev.Seat
