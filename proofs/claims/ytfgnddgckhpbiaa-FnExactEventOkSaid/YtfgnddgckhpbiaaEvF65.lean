import Derived.Test.YtfgnddgckhpbiaaEvLib
namespace Go.Ev.Seat
open Go.RowKit
set_option maxRecDepth 100000
set_option linter.unusedVariables false
def sh65 : Ss := { tm := .cons (.l bytesR) (.cons .x (.cons .x (.cons (.w 0) (.cons (.int .i64) (xsh 17))))), ob := .arr true true bytesR .nil, nx := 1, io := .nil }
def d65 (xs ys : List Int) (i : Int) : sh65.T := ((xs, (), (), (), i, xd 17), (ys, ()), ())
def F65 (σ : St) (K : Ex → St → Option Ret) : Option Ret :=
  match sh65.un σ with
  | none => none
  | some d => bif decide (0 ≤ d.1.2.2.2.2.1) && decide (d.1.2.2.2.2.1 ≤ (d.1.1.length : Int)) && Nat.beq d.2.1.1.length d.1.1.length && Nat.ble d.1.1.length 4611686018427387904 then
      K (.ext 0) (sh65.mk' (d65 d.1.1 (d.2.1.1.take d.1.2.2.2.2.1.toNat ++ d.1.1.drop d.1.2.2.2.2.1.toNat) d.1.1.length)) else none
noncomputable def Γ65 : Env := { ty := tys.get, fn := fun _ => none, hint := fun _ => ([0, 3, 4], [0, 3, 4]), plan := fun _ => none, sum := fun _ => some F65, fuel := 0 }
noncomputable def body65 : Code := ((Go.Proofs.Try.f65.body.bind loopOf).getD .skip)
abbrev L65 : List Nat := [0, 3, 4]
theorem step65 (n : Nat) (xs ys : List Int) (i : Int) (K : Ex → St → Option Ret) :
    rounds (run Γ65 body65) L65 L65 (n + 1) (sh65.mk' (d65 xs ys i)) K =
    (bif decide (i < (xs.length : Int)) then
      bif decide (0 ≤ i) && decide (i < (xs.length : Int)) then
        bif decide (0 ≤ i) && decide (i < (ys.length : Int)) then
          rounds (run Γ65 body65) L65 L65 n (sh65.mk' (d65 xs (ys.set i.toNat (xs.getD i.toNat 0)) (IntKind.i64.wrap (i + 1)))) K
        else none
      else none
    else K (.ext 0) (sh65.mk' (d65 xs ys i))) := by kernel_rfl
theorem loop65 (K : Ex → St → Option Ret) (xs : List Int) (hx : xs.length ≤ 4611686018427387904) : ∀ (k : Nat) (ys : List Int) (i : Int), 0 ≤ i → i ≤ xs.length → ys.length = xs.length → k = xs.length - i.toNat →
    rounds (run Γ65 body65) L65 L65 (k + 1) (sh65.mk' (d65 xs ys i)) K = K (.ext 0) (sh65.mk' (d65 xs (ys.take i.toNat ++ xs.drop i.toNat) xs.length))
  | 0, ys, i, h0, h1, hy, hk => by
    have hi : i = xs.length := by omega
    subst hi
    rw [step65, show decide ((xs.length : Int) < xs.length) = false by simp]
    simp only [cond_false]
    rw [show (xs.length : Int).toNat = xs.length by simp, ← hy, List.take_length, hy, List.drop_length, List.append_nil]
  | k + 1, ys, i, h0, h1, hy, hk => by
    have hi : i < xs.length := by omega
    rw [step65, show decide (i < (xs.length : Int)) = true by simpa using hi, show decide (0 ≤ i) = true by simpa using h0, show decide (i < (ys.length : Int)) = true by rw [hy]; simpa using hi]
    simp only [cond_true, Bool.and_self]
    rw [wrap_id (by omega) (by omega), loop65 K xs hx k _ (i + 1) (by omega) (by omega) (by simpa using hy) (by omega)]
    have e : (i + 1).toNat = i.toNat + 1 := by omega
    have hlt : i.toNat < xs.length := by omega
    have hly : i.toNat < ys.length := by omega
    have key : (ys.set i.toNat (xs.getD i.toNat 0)).take (i + 1).toNat ++ xs.drop (i + 1).toNat = ys.take i.toNat ++ xs.drop i.toNat := by
      rw [e, List.drop_eq_getElem_cons hlt, List.take_add_one, List.take_set, List.getElem?_set, if_pos rfl, if_pos hly, List.set_eq_of_length_le (by simp; exact Nat.min_le_left _ _)]
      rw [List.getD_eq_getElem?_getD, List.getElem?_eq_getElem hlt]
      simp
    rw [key]
theorem f65_body : Go.Proofs.Try.f65.body = some (Go.Proofs.Try.f65.body.getD .skip) := by kernel_rfl
def G65 : Sm := fun vs K => match vs with
  | [.l .no r xs] => if h : r = bytesR then (bif Nat.ble xs.length 140737488355328 then K (.l .deep bytesR (h ▸ xs), []) else none) else none
  | _ => none
theorem ev65 (xs : List Int) (h : xs.length ≤ 140737488355328) (o : Ow) (K : Ret → Option Ret) : evF Γ65 true Go.Proofs.Try.f65 [.l .no bytesR xs] K = K (.l .deep bytesR xs, []) := by
  have e1 : evF Γ65 true Go.Proofs.Try.f65 [.l .no bytesR xs] K =
    (bif ((xs.length : Int) == xs.length) && decide (0 ≤ (xs.length : Int)) && decide ((xs.length : Int).toNat * 1 ≤ boundBytes) && decide ((xs.length : Int) ≤ 4611686018427387904) then
      (bif decide ((xs.length : Int) ≥ 0) && Nat.beq (List.replicate (xs.length : Int).toNat (0:Int)).length xs.length && Nat.ble xs.length 4611686018427387904 then
        K (.l .deep bytesR xs, []) else none) else none) := by kernel_rfl
  rw [e1]
  have h1 : decide ((xs.length : Int).toNat * 1 ≤ boundBytes) = true := by simp [boundBytes]; exact h
  have h2 : decide ((xs.length : Int) ≤ 4611686018427387904) = true := by simp; omega
  have h3 : Nat.ble xs.length 4611686018427387904 = true := Nat.ble_eq_true_of_le (by omega)
  simp [h2, h3, boundBytes, h]
theorem loops65 : LoopsOk Γ65 (Go.Proofs.Try.f65.body.getD .skip) := by
  refine loopsOk_of _ (fun b hb => ?_)
  rw [show loopsIn (Go.Proofs.Try.f65.body.getD .skip) = [body65] by kernel_rfl] at hb
  simp only [List.mem_singleton] at hb
  subst hb
  intro n F _ hF σ K r hr
  have : F65 = F := Option.some.inj hF
  subst this
  unfold F65 at hr
  split at hr
  · cases hr
  · rename_i d hd
    rw [Ss.un_mk hd]
    obtain ⟨⟨xs, u1, u2, u3, i, u4⟩, ⟨ys, u5⟩, u6⟩ := d
    cases hc : (decide (0 ≤ i) && decide (i ≤ (xs.length : Int)) && Nat.beq ys.length xs.length && Nat.ble xs.length 4611686018427387904) with
    | false => simp only at hr; rw [hc] at hr; cases hr
    | true =>
      simp only at hr
      rw [hc] at hr
      simp only [Bool.and_eq_true, decide_eq_true_eq] at hc
      refine ⟨xs.length - i.toNat + 1, ?_⟩
      have := loop65 K xs (Nat.le_of_ble_eq_true hc.2) (xs.length - i.toNat) ys i hc.1.1.1 hc.1.1.2 (Nat.eq_of_beq_eq_true hc.1.2) rfl
      exact this.trans hr
theorem ok65 : OkFn Go.Proofs.Try.prog 65 true G65 :=
  have h := evF_ok (Γ := Γ65) mixed tysOk (fun g fresh G h => nomatch h) (g := 65) (fn := Go.Proofs.Try.f65) (by kernel_rfl) (by kernel_rfl) (c := Go.Proofs.Try.f65.body.getD .skip) f65_body (by kernel_rfl) loops65 (fresh := true)
  OkFn.weak (fun ws K r hr => ⟨_, h, by
    unfold G65 at hr
    split at hr
    · rename_i r' xs
      split at hr
      · rename_i hrr
        subst hrr
        cases hc : Nat.ble xs.length 140737488355328 with
        | false => rw [hc] at hr; cases hr
        | true =>
          rw [hc] at hr
          exact (ev65 xs (Nat.le_of_ble_eq_true hc) .no K).trans hr
      · cases hr
    · cases hr⟩) h.1
end Go.Ev.Seat
