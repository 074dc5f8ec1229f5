import Derived.Test.YtfgnddgckhpbiaaEvLib
namespace Go.Ev.Seat
open Go.RowKit
set_option maxRecDepth 100000
set_option linter.unusedVariables false
def sh67 : Ss := { tm := .cons (.l bytesR) (.cons (.l bytesR) (.cons .x (.cons .x (.cons .x (.cons (.int .i64) (xsh 20)))))), ob := .nil, nx := 0, io := .nil }
def d67 (xs ys : List Int) (i : Int) : sh67.T := ((xs, ys, (), (), (), i, xd 20), (), ())
def end67 : St := { tm := List.replicate 26 .x, ob := [], nx := 0 }
def ret67 : St := { tm := [.x, .x, .x, .x, .s (.bool false)] ++ List.replicate 21 .x, ob := [], nx := 0 }
def F67 (σ : St) (K : Ex → St → Option Ret) : Option Ret :=
  match sh67.un σ with
  | none => none
  | some d => bif decide (d.1.2.2.2.2.2.1 = 0) && Nat.beq d.1.1.length d.1.2.1.length && Nat.ble d.1.1.length 4611686018427387904 then
      (bif eqL d.1.1 d.1.2.1 then K (.ext 0) end67 else K .ret ret67) else none
noncomputable def Γ67 : Env := { ty := tys.get, fn := fun _ => none, hint := fun _ => ([0, 1, 5], [4]), plan := fun _ => some (takes [0, 1, 2, 3, 4, 5, 6, 7, 8], []), sum := fun _ => some F67, fuel := 0 }
noncomputable def body67 : Code := ((Go.Proofs.Try.f67.body.bind loopOf).getD .skip)
theorem step67 (n : Nat) (xs ys : List Int) (i : Int) (K : Ex → St → Option Ret) :
    rounds (run Γ67 body67) [0, 1, 5] [4] (n + 1) (sh67.mk' (d67 xs ys i)) K =
    (bif decide (i < (xs.length : Int)) then
      bif decide (0 ≤ i) && decide (i < (xs.length : Int)) then
        bif decide (0 ≤ i) && decide (i < (ys.length : Int)) then
          bif (xs.getD i.toNat 0 != ys.getD i.toNat 0) then K .ret ret67 else
          rounds (run Γ67 body67) [0, 1, 5] [4] n (sh67.mk' (d67 xs ys (IntKind.i64.wrap (i + 1)))) K
        else none
      else none
    else K (.ext 0) end67) := by kernel_rfl
theorem loop67 (K : Ex → St → Option Ret) (xs ys : List Int) (hx : xs.length ≤ 4611686018427387904) (hy : ys.length = xs.length) : ∀ (k : Nat) (i : Int), 0 ≤ i → i ≤ xs.length → k = xs.length - i.toNat →
    rounds (run Γ67 body67) [0, 1, 5] [4] (k + 1) (sh67.mk' (d67 xs ys i)) K = (bif eqL (xs.drop i.toNat) (ys.drop i.toNat) then K (.ext 0) end67 else K .ret ret67)
  | 0, i, h0, h1, hk => by
    have hi : i = xs.length := by omega
    subst hi
    rw [step67, show decide ((xs.length : Int) < xs.length) = false by simp]
    rw [show (xs.length : Int).toNat = xs.length by simp, List.drop_length, ← hy, List.drop_length]
    rfl
  | k + 1, i, h0, h1, hk => by
    have hi : i < xs.length := by omega
    have hlt : i.toNat < xs.length := by omega
    have hlt' : i.toNat < ys.length := by omega
    rw [step67, show decide (i < (xs.length : Int)) = true by simpa using hi, show decide (0 ≤ i) = true by simpa using h0, show decide (i < (ys.length : Int)) = true by rw [hy]; simpa using hi]
    simp only [cond_true, Bool.and_self]
    rw [wrap_id (by omega) (by omega), loop67 K xs ys hx hy k (i + 1) (by omega) (by omega) (by omega)]
    rw [show (i + 1).toNat = i.toNat + 1 by omega, List.drop_eq_getElem_cons hlt, List.drop_eq_getElem_cons hlt', List.getD_eq_getElem?_getD, List.getElem?_eq_getElem hlt, List.getD_eq_getElem?_getD, List.getElem?_eq_getElem hlt']
    simp only [Option.getD_some, eqL, List.cons.injEq]
    by_cases he : xs[i.toNat] = ys[i.toNat]
    · simp [he]
    · have hb : (xs[i.toNat] != ys[i.toNat]) = true := by simpa using he
      rw [hb]
      simp [he]
theorem loops67 : LoopsOk Γ67 (Go.Proofs.Try.f67.body.getD .skip) := by
  refine loopsOk_of _ (fun b hb => ?_)
  rw [show loopsIn (Go.Proofs.Try.f67.body.getD .skip) = [body67] by kernel_rfl] at hb
  simp only [List.mem_singleton] at hb
  subst hb
  intro n F _ hF σ K r hr
  have : F67 = F := Option.some.inj hF
  subst this
  unfold F67 at hr
  split at hr
  · cases hr
  · rename_i d hd
    rw [Ss.un_mk hd]
    obtain ⟨⟨xs, ys, u1, u2, u3, i, u4⟩, u5, u6⟩ := d
    cases hc : (decide (i = 0) && Nat.beq xs.length ys.length && Nat.ble xs.length 4611686018427387904) with
    | false => simp only at hr; rw [hc] at hr; cases hr
    | true =>
      simp only at hr
      rw [hc] at hr
      simp only [Bool.and_eq_true, decide_eq_true_eq] at hc
      obtain ⟨⟨rfl, h2⟩, h3⟩ := hc
      refine ⟨xs.length + 1, ?_⟩
      have := loop67 K xs ys (Nat.le_of_ble_eq_true h3) (Nat.eq_of_beq_eq_true h2).symm xs.length 0 (by omega) (by omega) rfl
      exact this.trans hr
def sa67 : ShL := .cons (.l bytesR) (.cons (.l bytesR) .nil)
def G67 : Sm := fun vs K => match sa67.un vs with
  | some d => bif Nat.ble d.1.length 4611686018427387904 then K (.s (.bool (eqL d.1 d.2.1)), []) else none
  | none => none
theorem ev67 (xs ys : List Int) (h : xs.length ≤ 4611686018427387904) (K : Ret → Option Ret) : evF Γ67 true Go.Proofs.Try.f67 [.l .no bytesR xs, .l .no bytesR ys] K = K (.s (.bool (eqL xs ys)), []) := by
  have e1 : evF Γ67 true Go.Proofs.Try.f67 [.l .no bytesR xs, .l .no bytesR ys] K =
    (bif ((xs.length : Int) != (ys.length : Int)) then K (.s (.bool false), []) else
      (bif Nat.beq xs.length ys.length && Nat.ble xs.length 4611686018427387904 then
        (bif eqL xs ys then K (.s (.bool true), []) else K (.s (.bool false), [])) else none)) := by kernel_rfl
  rw [e1]
  have h3 : Nat.ble xs.length 4611686018427387904 = true := Nat.ble_eq_true_of_le h
  rw [h3]
  by_cases hl : xs.length = ys.length
  · by_cases he : xs = ys
    · simp [he, eqL]
    · simp [hl, he, eqL]
  · have he : xs ≠ ys := fun e => hl (by rw [e])
    have : ((xs.length : Int) != (ys.length : Int)) = true := by simp; omega
    rw [this]; simp [he, eqL]
theorem f67_body : Go.Proofs.Try.f67.body = some (Go.Proofs.Try.f67.body.getD .skip) := by kernel_rfl
theorem ok67 : OkFn Go.Proofs.Try.prog 67 true G67 :=
  have h := evF_ok (Γ := Γ67) mixed tysOk (fun g fresh G h => nomatch h) (g := 67) (fn := Go.Proofs.Try.f67) (by kernel_rfl) (by kernel_rfl) (c := Go.Proofs.Try.f67.body.getD .skip) f67_body (by kernel_rfl) loops67 (fresh := true)
  OkFn.weak (fun ws K r hr => ⟨_, h, by
    unfold G67 at hr
    split at hr
    · rename_i d hd
      rw [ShL.un_mk _ hd]
      obtain ⟨xs, ys, u⟩ := d
      cases hc : Nat.ble xs.length 4611686018427387904 with
      | false => simp only at hr; rw [hc] at hr; cases hr
      | true =>
        simp only at hr
        rw [hc] at hr
        exact (ev67 xs ys (Nat.le_of_ble_eq_true hc) K).trans hr
    · cases hr⟩) h.1
end Go.Ev.Seat
