/- FnExactEventOk: the program's EventOk answers as the reference does. -/
import Derived.Test.YtfgnddgckhpbiaaEvF65
import Derived.Test.YtfgnddgckhpbiaaEvF67
set_option linter.unusedVariables false
namespace Go.Ev.Seat
open Go.RowKit
set_option maxRecDepth 100000
noncomputable def En0 (l : List (Nat × Bool × Sm)) (plan : Nat → Option (Plan × List Nat)) : Env := { ty := tys.get, fn := tab l, hint := fun _ => ([], []), plan := plan, fuel := 0 }
def noP : Nat → Option (Plan × List Nat) := fun _ => none
open Go.Proofs.Try
theorem fns_ok {l : List (Nat × Bool × Sm)} {p : Nat → Option (Plan × List Nat)} (h : ∀ q ∈ l, OkFn prog q.1 q.2.1 q.2.2) : FnsOk prog (En0 l p) := tab_ok h
theorem mem0 : ∀ q ∈ ([] : List (Nat × Bool × Sm)), OkFn prog q.1 q.2.1 q.2.2 := fun _ h => nomatch h
theorem memc {g : Nat} {b : Bool} {G : Sm} {l : List (Nat × Bool × Sm)} (h : OkFn prog g b G) (hl : ∀ q ∈ l, OkFn prog q.1 q.2.1 q.2.2) : ∀ q ∈ (g, b, G) :: l, OkFn prog q.1 q.2.1 q.2.2 := fun q hq => by
  rcases List.mem_cons.1 hq with rfl | hq
  · exact h
  · exact hl q hq
abbrev Event := Int × Int × Int × List Int
def evR : Rw := .cons (.int .i64) (.cons (.int .i64) (.cons (.int .i64) (.one (.sl bytesR))))
def bK (K : Ret → Option Ret) (b : Bool) : Option Ret := K (.s (.bool b), [])
noncomputable def G63 := evF (En0 [] noP) true f63
noncomputable def G13 := evF (En0 [(63, true, G63)] noP) true f13
noncomputable def G64 := evF (En0 [] noP) true f64
noncomputable def G14 := evF (En0 [(64, true, G64)] noP) true f14
noncomputable def G15 := evF (En0 [(65, true, G65)] noP) true f15
noncomputable def G108 := evF (En0 [] noP) true f108
noncomputable def G104 := evF (En0 [(108, true, G108)] noP) true f104
noncomputable def G105 := evF (En0 [(108, true, G108)] noP) true f105
noncomputable def G66 := evF (En0 [(104, true, G104), (105, true, G105)] noP) true f66
noncomputable def G16 := evF (En0 [(66, true, G66)] noP) true f16
noncomputable def G17 := evF (En0 [(67, true, G67)] noP) true f17
theorem ok63 : OkFn prog 63 true G63 := ok_plain (Γ := En0 [] noP) rfl (fns_ok mem0) (by kernel_rfl) (by kernel_rfl) (by kernel_rfl) (by kernel_rfl) (by kernel_rfl)
theorem ok13 : OkFn prog 13 true G13 := ok_plain (Γ := En0 [(63, true, G63)] noP) rfl (fns_ok (memc ok63 mem0)) (by kernel_rfl) (by kernel_rfl) (by kernel_rfl) (by kernel_rfl) (by kernel_rfl)
theorem ok64 : OkFn prog 64 true G64 := ok_plain (Γ := En0 [] noP) rfl (fns_ok mem0) (by kernel_rfl) (by kernel_rfl) (by kernel_rfl) (by kernel_rfl) (by kernel_rfl)
theorem ok14 : OkFn prog 14 true G14 := ok_plain (Γ := En0 [(64, true, G64)] noP) rfl (fns_ok (memc ok64 mem0)) (by kernel_rfl) (by kernel_rfl) (by kernel_rfl) (by kernel_rfl) (by kernel_rfl)
theorem ok15 : OkFn prog 15 true G15 := ok_plain (Γ := En0 [(65, true, G65)] noP) rfl (fns_ok (memc ok65 mem0)) (by kernel_rfl) (by kernel_rfl) (by kernel_rfl) (by kernel_rfl) (by kernel_rfl)
theorem ok108 : OkFn prog 108 true G108 := ok_plain (Γ := En0 [] noP) rfl (fns_ok mem0) (by kernel_rfl) (by kernel_rfl) (by kernel_rfl) (by kernel_rfl) (by kernel_rfl)
theorem ok104 : OkFn prog 104 true G104 := ok_plain (Γ := En0 [(108, true, G108)] noP) rfl (fns_ok (memc ok108 mem0)) (by kernel_rfl) (by kernel_rfl) (by kernel_rfl) (by kernel_rfl) (by kernel_rfl)
theorem ok105 : OkFn prog 105 true G105 := ok_plain (Γ := En0 [(108, true, G108)] noP) rfl (fns_ok (memc ok108 mem0)) (by kernel_rfl) (by kernel_rfl) (by kernel_rfl) (by kernel_rfl) (by kernel_rfl)
theorem ok66 : OkFn prog 66 true G66 := ok_plain (Γ := En0 [(104, true, G104), (105, true, G105)] noP) rfl (fns_ok (memc ok104 (memc ok105 mem0))) (by kernel_rfl) (by kernel_rfl) (by kernel_rfl) (by kernel_rfl) (by kernel_rfl)
theorem ok16 : OkFn prog 16 true G16 := ok_plain (Γ := En0 [(66, true, G66)] noP) rfl (fns_ok (memc ok66 mem0)) (by kernel_rfl) (by kernel_rfl) (by kernel_rfl) (by kernel_rfl) (by kernel_rfl)
theorem ok17 : OkFn prog 17 true G17 := ok_plain (Γ := En0 [(67, true, G67)] noP) rfl (fns_ok (memc ok67 mem0)) (by kernel_rfl) (by kernel_rfl) (by kernel_rfl) (by kernel_rfl) (by kernel_rfl)

theorem ev15 (e : Event) (K : Ret → Option Ret) : G15 [.a (evR.cells .no e)] K = (bif Nat.ble e.2.2.2.length 140737488355328 then K (.a (evR.cells .deep e), []) else none) := by kernel_rfl
theorem ev17 (e f : Event) (K : Ret → Option Ret) : G17 [.a (evR.cells .no e), .a (evR.cells .no f)] K =
  (bif e.1 != f.1 then bK K false else bif e.2.1 != f.2.1 then bK K false else bif e.2.2.1 != f.2.2.1 then bK K false else
    bif Nat.ble e.2.2.2.length 4611686018427387904 then (bif !eqL e.2.2.2 f.2.2.2 then bK K false else bK K true) else none) := by kernel_rfl
theorem ev14 (e : Event) (K : Ret → Option Ret) : G14 [.a (evR.cells .no e)] K =
  (bif e.1 == 1 then (bif e.2.1 == 0 then (bif e.2.2.1 == 0 then bK K (decide ((e.2.2.2.length : Int) ≤ 1000)) else bK K false) else bK K false)
   else bif e.1 == 2 then (bif decide (e.2.1 ≥ 1) then (bif decide (e.2.1 ≤ 8) then (bif e.2.2.1 == 0 then bK K ((e.2.2.2.length : Int) == 0) else bK K false) else bK K false) else bK K false)
   else bif e.1 == 3 then (bif e.2.1 == 0 then (bif decide (e.2.2.1 ≥ 1) then (bif decide (e.2.2.1 ≤ 1000) then bK K ((e.2.2.2.length : Int) == 0) else bK K false) else bK K false) else bK K false)
   else bK K false) := by kernel_rfl
theorem ev16 (e : Event) (K : Ret → Option Ret) : G16 [.a (evR.cells .no e)] K =
  (bif e.1 == 1 then (bif decide ((e.2.2.2.length : Int) ≤ 1000) then (bif e.2.1 == 0 then bK K (e.2.2.1 == 0) else bK K false) else bK K false)
   else bif e.1 == 2 then (bif decide (1 ≤ e.2.1) then (bif decide (e.2.1 ≤ 8) then (bif e.2.2.1 == 0 then bK K ((e.2.2.2.length : Int) == 0) else bK K false) else bK K false) else bK K false)
   else bif e.1 == 3 then (bif decide (1 ≤ e.2.2.1) then (bif decide (e.2.2.1 ≤ 1000) then (bif e.2.1 == 0 then bK K ((e.2.2.2.length : Int) == 0) else bK K false) else bK K false) else bK K false)
   else bK K false) := by kernel_rfl
def eventOk (e : Event) : Bool :=
  (e.1 == 1 && e.2.1 == 0 && e.2.2.1 == 0 && decide ((e.2.2.2.length : Int) ≤ 1000)) || (e.1 == 2 && decide (1 ≤ e.2.1) && decide (e.2.1 ≤ 8) && e.2.2.1 == 0 && (e.2.2.2.length : Int) == 0) ||
  (e.1 == 3 && e.2.1 == 0 && decide (1 ≤ e.2.2.1) && decide (e.2.2.1 ≤ 1000) && (e.2.2.2.length : Int) == 0)
theorem law14 (e : Event) (K : Ret → Option Ret) : G14 [.a (evR.cells .no e)] K = bK K (eventOk e) := by
  rw [ev14]
  obtain ⟨k, s, n, d⟩ := e
  simp only [eventOk]
  by_cases h1 : k = 1
  · subst h1
    cases hs : (s == 0) <;> cases hn : (n == 0) <;> simp
  · by_cases h2 : k = 2
    · subst h2
      cases hs : decide (1 ≤ s) <;> cases hs8 : decide (s ≤ 8) <;> cases hn : (n == 0) <;> simp_all
    · by_cases h3 : k = 3
      · subst h3
        cases hs : (s == 0) <;> cases hn : decide (1 ≤ n) <;> cases hn8 : decide (n ≤ 1000) <;> simp_all
      · rw [beq_eq_false_iff_ne.2 h1, beq_eq_false_iff_ne.2 h2, beq_eq_false_iff_ne.2 h3]; rfl
theorem law16 (e : Event) (K : Ret → Option Ret) : G16 [.a (evR.cells .no e)] K = bK K (eventOk e) := by
  rw [ev16]
  obtain ⟨k, s, n, d⟩ := e
  simp only [eventOk]
  by_cases h1 : k = 1
  · subst h1
    cases hs : (s == 0) <;> cases hn : (n == 0) <;> cases hd : decide ((d.length : Int) ≤ 1000) <;> simp
  · by_cases h2 : k = 2
    · subst h2
      cases hs : decide (1 ≤ s) <;> cases hs8 : decide (s ≤ 8) <;> cases hn : (n == 0) <;> simp_all
    · by_cases h3 : k = 3
      · subst h3
        cases hs : (s == 0) <;> cases hn : decide (1 ≤ n) <;> cases hn8 : decide (n ≤ 1000) <;> simp_all
      · rw [beq_eq_false_iff_ne.2 h1, beq_eq_false_iff_ne.2 h2, beq_eq_false_iff_ne.2 h3]; rfl

/-- The arguments' shape. -/
def shE : ShL := .cons (.a (.cons (.int .i64) (.cons (.int .i64) (.cons (.int .i64) (.cons (.l bytesR) .nil))))) .nil
def unE (vs : List V) : Option Event := match shE.un vs with
  | some d => some (d.1.1, d.1.2.1, d.1.2.2.1, d.1.2.2.2.1)
  | none => none
theorem unE_ok {vs : List V} {e : Event} (h : unE vs = some e) : vs = [.a (evR.cells .no e)] := by
  unfold unE at h
  split at h
  · rename_i d hd
    cases h
    rw [ShL.un_mk _ hd]
    rfl
  · cases h
def S14 : Sm := fun vs K => match unE vs with
  | some e => bK K (eventOk e)
  | none => none
theorem okS14 : OkFn prog 14 true S14 := OkFn.weak (fun ws K r hr => ⟨_, ok14, by
  unfold S14 at hr
  split at hr
  · rename_i e he
    rw [unE_ok he, law14]; exact hr
  · cases hr⟩) ok14.1
theorem okS16 : OkFn prog 16 true S14 := OkFn.weak (fun ws K r hr => ⟨_, ok16, by
  unfold S14 at hr
  split at hr
  · rename_i e he
    rw [unE_ok he, law16]; exact hr
  · cases hr⟩) ok16.1
def p3 : Plan := .take 0 (.take 1 (.fork (.one 2 (.fork (.one 3 (.take 4 .done))))))
noncomputable def Γ3 : Env := En0 [(13, true, G13), (14, true, S14), (15, true, G15), (16, true, S14), (17, true, G17)] (fun _ => some (p3, []))
noncomputable def G3 := evF Γ3 true f3
theorem ok3 : OkFn prog 3 true G3 := ok_plain (Γ := Γ3) rfl (fns_ok (memc ok13 (memc okS14 (memc ok15 (memc okS16 (memc ok17 mem0)))))) (by kernel_rfl) (by kernel_rfl) (by kernel_rfl) (by kernel_rfl) (by kernel_rfl)

theorem ev3 (e : Event) (K : Ret → Option Ret) : G3 [.a (evR.cells .no e)] K =
  (bif decide (IntKind.i64.wrap (1048576 - (e.2.2.2.length : Int)) < 0) then bK K true else
   bif decide (IntKind.i64.wrap (1048576 - (e.2.2.2.length : Int)) < 0) then bK K true else
   bif decide (IntKind.i64.wrap (1048576 - (e.2.2.2.length : Int)) < 0) then bK K true else
   bif Nat.ble e.2.2.2.length 140737488355328 then bif Nat.ble e.2.2.2.length 140737488355328 then
     bif !(eventOk e == eventOk e) then bK K false else
     bif Nat.ble e.2.2.2.length 140737488355328 then
       bif e.1 != e.1 then bK K false else bif e.2.1 != e.2.1 then bK K false else bif e.2.2.1 != e.2.2.1 then bK K false else
       bif Nat.ble e.2.2.2.length 4611686018427387904 then (bif !eqL e.2.2.2 e.2.2.2 then bK K false else bK K true) else none
     else none else none else none) := by kernel_rfl
theorem wrap_sub {n : Nat} (h : n ≤ 9223372036854775807) : IntKind.i64.wrap (1048576 - (n : Int)) = 1048576 - (n : Int) := by
  have : IntKind.i64.wrap (1048576 - (n : Int)) = Go.RowKit.wrap64 (1048576 - (n : Int)) := by
    simp only [IntKind.wrap, IntKind.bits, IntKind.signed, Go.RowKit.wrap64, Bool.true_and]
    split <;> simp_all <;> omega
  rw [this]; unfold Go.RowKit.wrap64; omega
theorem law3 (e : Event) (h : e.2.2.2.length ≤ maxLen) (K : Ret → Option Ret) : G3 [.a (evR.cells .no e)] K = K (.s (.bool true), []) := by
  rw [ev3]
  have hm : e.2.2.2.length ≤ 9223372036854775807 := h
  rw [wrap_sub hm]
  by_cases hc : (1048576 - (e.2.2.2.length : Int)) < 0
  · rw [show decide ((1048576 - (e.2.2.2.length : Int)) < 0) = true by simpa using hc]; rfl
  · rw [show decide ((1048576 - (e.2.2.2.length : Int)) < 0) = false by simpa using hc]
    have h1 : Nat.ble e.2.2.2.length 140737488355328 = true := Nat.ble_eq_true_of_le (by omega)
    have h2 : Nat.ble e.2.2.2.length 4611686018427387904 = true := Nat.ble_eq_true_of_le (by omega)
    simp only [cond_false, h1, h2, cond_true, beq_self_eq_true, Bool.not_true, bne_self_eq_false, eqL, decide_true]
    rfl
end Go.Ev.Seat
