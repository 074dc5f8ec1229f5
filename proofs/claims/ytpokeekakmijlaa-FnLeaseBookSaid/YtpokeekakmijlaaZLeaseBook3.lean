/- LeaseBook: parts EvShape EvLib EvGen EvSum EvSig EvWeak EvSigN EvRows EvUtf PUtf PEdit PReq PLoop PEvent PMove EvFit PMoveF Flbig PDraw Fsl01Open Fsl01Curpick Fsl01Cursize Fsl01Curlease PDoc Fsl07Right Fsl07Less FsLeasesOk Fsl07Clock Fsl07Meet Fsl07One PLease Fsl07At Fsl07Put FsLeaseTake EvSplit PDraw2 Fsl01Curraw Fsl01CurbadLease Fsl01Curleases Fsl01Curonce Fsl01CurleaseOf Fsl01Curnow, packed by squash.py. -/
import Derived.Lib.Strings
import Derived.Test.YtpokeekakmijlaaZLeaseBook0
import Derived.Test.YtpokeekakmijlaaZLeaseBook1
import Derived.Test.YtpokeekakmijlaaZLeaseBook2
set_option linter.unusedVariables false
set_option linter.unusedSimpArgs false
section
/- Shapes of states: which data stand where. -/
set_option linter.unusedVariables false
namespace Go.Ev

mutual
inductive Sh where
  | x | nl | int (k : IntKind) | bool | str | l (o : Ow) (r : Rw) | w (k : Nat) | pb (k c : Nat) | a (ss : ShL) | io (ss : ShL) | f (g : Nat) (ss : ShL) | qb (ss : ShL) (c : Nat) | lit (v : Value) | q (r : Rw) (c : Nat) | r (k : Nat) | pa (k c : Nat)
inductive ShL where
  | nil
  | cons (s : Sh) (ss : ShL)
end
mutual
@[reducible] def Sh.T : Sh → Type
  | .int _ => Int
  | .bool => Bool
  | .str => ByteArray
  | .l _ r => List r.T
  | .a ss => ss.T
  | .io ss => ss.T
  | .f _ ss => ss.T
  | .qb ss _ => ss.T
  | .q r _ => r.T
  | .r _ => Nat × Nat
  | .pa _ _ => Nat
  | _ => Unit
@[reducible] def ShL.T : ShL → Type
  | .nil => Unit
  | .cons s ss => s.T × ss.T
end
mutual
def Sh.mk : (s : Sh) → s.T → V
  | .x, _ => .x
  | .nl, _ => .nl
  | .int k, n => .s (.int k n)
  | .bool, b => .s (.bool b)
  | .str, b => .s (.string b)
  | .l o r, xs => .l o r xs
  | .w k, _ => .w k
  | .pb k c, _ => .pb k c
  | .a ss, d => .a (ss.mk d)
  | .io ss, d => .io (ss.mk d)
  | .f g ss, d => .f g (ss.mk d)
  | .qb ss c, d => .qb (ss.mk d) c
  | .lit v, _ => .s v
  | .q r c, d => .q r d c
  | .r k, d => .r k d.1 d.2
  | .pa k c, i => .pa k i c
def ShL.mk : (ss : ShL) → ss.T → List V
  | .nil, _ => []
  | .cons s ss, d => s.mk d.1 :: ss.mk d.2
end
mutual
def Sh.un : (s : Sh) → V → Option s.T
  | .x, .x => some ()
  | .nl, .nl => some ()
  | .int k, .s (.int k' n) => if k' = k then some n else none
  | .bool, .s (.bool b) => some b
  | .str, .s (.string b) => some b
  | .l o r, .l o' r' xs => if h : r' = r then (if o' = o then some (h ▸ xs) else none) else none
  | .w k, .w j => bif Nat.beq j k then some () else none
  | .pb k c, .pb j e => bif Nat.beq j k && Nat.beq e c then some () else none
  | .a ss, .a cs => ss.un cs
  | .io ss, .io cs => ss.un cs
  | .f g ss, .f g' cs => bif Nat.beq g' g then ss.un cs else none
  | .qb ss c, .qb cs c' => bif Nat.beq c' c then ss.un cs else none
  | .q r c, .q r' d c' => if h : r' = r then (bif Nat.beq c' c then some (h ▸ d) else none) else none
  | .r k, .r j off len => bif Nat.beq j k then some (off, len) else none
  | .pa k c, .pa j i e => bif Nat.beq j k && Nat.beq e c then some i else none
  | _, _ => none
def ShL.un : (ss : ShL) → List V → Option ss.T
  | .nil, [] => some ()
  | .cons s ss, v :: vs => match s.un v with
    | some d => match ss.un vs with
      | some e => some (d, e)
      | none => none
    | none => none
  | _, _ => none
end
mutual
theorem Sh.un_mk : (s : Sh) → {v : V} → {d : s.T} → s.un v = some d → v = s.mk d
  | .x, v, d, h => by cases v <;> simp [Sh.un] at h; rfl
  | .nl, v, d, h => by cases v <;> simp [Sh.un] at h; rfl
  | .int k, v, d, h => by
    cases v with
    | s u =>
      cases u with
      | int k' n =>
        simp only [Sh.un] at h
        split at h
        · rename_i hk; subst hk; cases h; rfl
        · cases h
      | _ => simp [Sh.un] at h
    | _ => simp [Sh.un] at h
  | .bool, v, d, h => by
    cases v with
    | s u =>
      cases u with
      | bool b => simp only [Sh.un] at h; cases h; rfl
      | _ => simp [Sh.un] at h
    | _ => simp [Sh.un] at h
  | .str, v, d, h => by
    cases v with
    | s u =>
      cases u with
      | string b => simp only [Sh.un] at h; cases h; rfl
      | _ => simp [Sh.un] at h
    | _ => simp [Sh.un] at h
  | .l o r, v, d, h => by
    cases v with
    | l o' r' xs =>
      simp only [Sh.un] at h
      split at h
      · rename_i hr
        subst hr
        split at h
        · rename_i ho; subst ho; cases h; rfl
        · cases h
      · cases h
    | _ => simp [Sh.un] at h
  | .lit u, v, d, h => by simp [Sh.un] at h
  | .io ss, v, d, h => by
    cases v with
    | io cs => simp only [Sh.un] at h; simp only [Sh.mk]; rw [ShL.un_mk ss h]
    | _ => simp [Sh.un] at h
  | .f g ss, v, d, h => by
    cases v with
    | f g' cs =>
      simp only [Sh.un] at h
      cases e : Nat.beq g' g with
      | true => rw [e] at h; simp only [Sh.mk]; rw [ShL.un_mk ss h, Nat.eq_of_beq_eq_true e]
      | false => rw [e] at h; cases h
    | _ => simp [Sh.un] at h
  | .qb ss c, v, d, h => by
    cases v with
    | qb cs c' =>
      simp only [Sh.un] at h
      cases e : Nat.beq c' c with
      | true => rw [e] at h; simp only [Sh.mk]; rw [ShL.un_mk ss h, Nat.eq_of_beq_eq_true e]
      | false => rw [e] at h; cases h
    | _ => simp [Sh.un] at h
  | .q r c, v, d, h => by
    cases v with
    | q r' e c' =>
      simp only [Sh.un] at h
      split at h
      · rename_i hr
        subst hr
        cases e1 : Nat.beq c' c with
        | true => rw [e1] at h; cases h; rw [Nat.eq_of_beq_eq_true e1]; rfl
        | false => rw [e1] at h; cases h
      · cases h
    | _ => simp [Sh.un] at h
  | .r k, v, d, h => by
    cases v with
    | r j off len =>
      simp only [Sh.un] at h
      cases e : Nat.beq j k with
      | true => rw [e] at h; cases h; rw [Nat.eq_of_beq_eq_true e]; rfl
      | false => rw [e] at h; cases h
    | _ => simp [Sh.un] at h
  | .pa k c, v, d, h => by
    cases v with
    | pa j i e =>
      simp only [Sh.un] at h
      cases e1 : (Nat.beq j k && Nat.beq e c) with
      | true =>
        rw [e1] at h
        simp only [Bool.and_eq_true] at e1
        cases h
        rw [Nat.eq_of_beq_eq_true e1.1, Nat.eq_of_beq_eq_true e1.2]; rfl
      | false => rw [e1] at h; cases h
    | _ => simp [Sh.un] at h
  | .w k, v, d, h => by
    cases v with
    | w j =>
      simp only [Sh.un] at h
      cases e : Nat.beq j k with
      | true => rw [Nat.eq_of_beq_eq_true e]; rfl
      | false => rw [e] at h; cases h
    | _ => simp [Sh.un] at h
  | .pb k c, v, d, h => by
    cases v with
    | pb j e =>
      simp only [Sh.un] at h
      cases e1 : (Nat.beq j k && Nat.beq e c) with
      | true =>
        simp only [Bool.and_eq_true] at e1
        rw [Nat.eq_of_beq_eq_true e1.1, Nat.eq_of_beq_eq_true e1.2]; rfl
      | false => rw [e1] at h; cases h
    | _ => simp [Sh.un] at h
  | .a ss, v, d, h => by
    cases v with
    | a cs => simp only [Sh.un] at h; simp only [Sh.mk]; rw [ShL.un_mk ss h]
    | _ => simp [Sh.un] at h
theorem ShL.un_mk : (ss : ShL) → {vs : List V} → {d : ss.T} → ss.un vs = some d → vs = ss.mk d
  | .nil, [], d, h => rfl
  | .nil, _ :: _, d, h => by simp [ShL.un] at h
  | .cons s ss, [], d, h => by simp [ShL.un] at h
  | .cons s ss, v :: vs, d, h => by
    simp only [ShL.un] at h
    split at h
    · rename_i e he
      split at h
      · rename_i f hf
        cases h
        simp only [ShL.mk]
        rw [← Sh.un_mk s he, ← ShL.un_mk ss hf]
      · cases h
    · cases h
end

/-- Objects, numbered from n on. -/
inductive Oh where
  | nil
  | arr (mu deep : Bool) (r : Rw) (o : Oh)
  | own (st : Bool) (r : Rw) (o : Oh)
  | box (ss : ShL) (o : Oh)
@[reducible] def Oh.T : Oh → Type
  | .nil => Unit
  | .arr _ _ r o => List r.T × o.T
  | .own _ r o => List r.T × o.T
  | .box ss o => ss.T × o.T
def Oh.mk : (o : Oh) → Nat → o.T → Obs
  | .nil, _, _ => []
  | .arr mu deep r o, n, d => (n, .arr mu deep r d.1) :: o.mk (n + 1) d.2
  | .own st r o, n, d => (n, .own st r d.1) :: o.mk (n + 1) d.2
  | .box ss o, n, d => (n, .box (ss.mk d.1)) :: o.mk (n + 1) d.2
def Oh.un : (o : Oh) → Nat → Obs → Option o.T
  | .nil, _, [] => some ()
  | .arr mu deep r o, n, (j, .arr mu' deep' r' xs) :: ob => if h : r' = r then (bif Nat.beq j n && (mu' == mu) && (deep' == deep) then (match o.un (n + 1) ob with
    | some e => some (h ▸ xs, e)
    | none => none) else none) else none
  | .own st r o, n, (j, .own st' r' xs) :: ob => if h : r' = r then (bif Nat.beq j n && (st' == st) then (match o.un (n + 1) ob with
    | some e => some (h ▸ xs, e)
    | none => none) else none) else none
  | .box ss o, n, (j, .box cs) :: ob => bif Nat.beq j n then (match ss.un cs with
    | some d => match o.un (n + 1) ob with
      | some e => some (d, e)
      | none => none
    | none => none) else none
  | _, _, _ => none
theorem Oh.un_mk : (o : Oh) → {n : Nat} → {ob : Obs} → {d : o.T} → o.un n ob = some d → ob = o.mk n d
  | .nil, n, [], d, h => rfl
  | .nil, n, _ :: _, d, h => by simp [Oh.un] at h
  | .arr mu deep r o, n, [], d, h => by simp [Oh.un] at h
  | .arr mu deep r o, n, (j, e) :: ob, d, h => by
    cases e with
    | arr mu' deep' r' xs =>
      simp only [Oh.un] at h
      split at h
      · rename_i hr
        subst hr
        cases e1 : (Nat.beq j n && (mu' == mu) && (deep' == deep)) with
        | true =>
          rw [e1] at h
          simp only [Bool.and_eq_true, beq_iff_eq] at e1
          obtain ⟨⟨h1, rfl⟩, rfl⟩ := e1
          have := Nat.eq_of_beq_eq_true h1
          subst this
          simp only [cond_true] at h
          split at h
          · rename_i f hf
            cases h
            simp only [Oh.mk]
            rw [← Oh.un_mk o hf]
          · cases h
        | false => rw [e1] at h; cases h
      · cases h
    | _ => simp [Oh.un] at h
  | .own st r o, n, [], d, h => by simp [Oh.un] at h
  | .own st r o, n, (j, e) :: ob, d, h => by
    cases e with
    | own st' r' xs =>
      simp only [Oh.un] at h
      split at h
      · rename_i hr
        subst hr
        cases e1 : (Nat.beq j n && (st' == st)) with
        | true =>
          rw [e1] at h
          simp only [Bool.and_eq_true, beq_iff_eq] at e1
          obtain ⟨h1, rfl⟩ := e1
          have := Nat.eq_of_beq_eq_true h1
          subst this
          simp only [cond_true] at h
          split at h
          · rename_i f hf
            cases h
            simp only [Oh.mk]
            rw [← Oh.un_mk o hf]
          · cases h
        | false => rw [e1] at h; cases h
      · cases h
    | _ => simp [Oh.un] at h
  | .box ss o, n, [], d, h => by simp [Oh.un] at h
  | .box ss o, n, (j, e) :: ob, d, h => by
    cases e with
    | box cs =>
      simp only [Oh.un] at h
      cases e1 : Nat.beq j n with
      | true =>
        rw [e1] at h
        have := Nat.eq_of_beq_eq_true e1
        subst this
        simp only [cond_true] at h
        split at h
        · rename_i f hf
          split at h
          · rename_i g hg
            cases h
            simp only [Oh.mk]
            rw [← ShL.un_mk ss hf, ← Oh.un_mk o hg]
          · cases h
        · cases h
      | false => rw [e1] at h; cases h
    | _ => simp [Oh.un] at h

structure Ss where
  tm : ShL
  ob : Oh
  nx : Nat
  io : ShL
abbrev Ss.T (s : Ss) : Type := s.tm.T × s.ob.T × s.io.T
def Ss.mk' (s : Ss) (d : s.T) : St := { tm := s.tm.mk d.1, ob := s.ob.mk 0 d.2.1, nx := s.nx, io := s.io.mk d.2.2 }
def Ss.un (s : Ss) (σ : St) : Option s.T :=
  match s.tm.un σ.tm with
  | none => none
  | some d => match s.ob.un 0 σ.ob with
    | none => none
    | some e => match s.io.un σ.io with
      | none => none
      | some f => bif Nat.beq σ.nx s.nx then some (d, e, f) else none
theorem Ss.un_mk {s : Ss} {σ : St} {d : s.T} (h : s.un σ = some d) : σ = s.mk' d := by
  unfold Ss.un at h
  split at h
  · cases h
  · rename_i d1 h1
    split at h
    · cases h
    · rename_i d2 h2
      split at h
      · cases h
      · rename_i d3 h3
        cases e : Nat.beq σ.nx s.nx with
        | false => rw [e] at h; cases h
        | true =>
          rw [e] at h
          cases h
          obtain ⟨tm, ob, nx, io⟩ := σ
          have := Nat.eq_of_beq_eq_true e
          simp only at h1 h2 h3 this
          subst this
          simp only [Ss.mk']
          rw [← ShL.un_mk _ h1, ← Oh.un_mk _ h2, ← ShL.un_mk _ h3]

/-! ### The loops of a piece of code -/
def loopsIn : Code → List Code
  | .seq a b => loopsIn a ++ loopsIn b
  | .cond _ a b => loopsIn a ++ loopsIn b
  | .block _ c => loopsIn c
  | .loop c => c :: loopsIn c
  | _ => []
def LoopOk (Γ : Env) (c : Code) : Prop := ∀ n F, firstRegion c = some n → Γ.sum n = some F → ∀ σ K r, F σ K = some r → ∃ m, rounds (run Γ c) (Γ.hint n).1 (Γ.hint n).2 m σ K = some r
theorem loopsOk_of {Γ : Env} : (c : Code) → (∀ b ∈ loopsIn c, LoopOk Γ b) → LoopsOk Γ c
  | .seq a b, h => ⟨loopsOk_of a (fun c hc => h c (by simp [loopsIn, hc])), loopsOk_of b (fun c hc => h c (by simp [loopsIn, hc]))⟩
  | .cond _ a b, h => ⟨loopsOk_of a (fun c hc => h c (by simp [loopsIn, hc])), loopsOk_of b (fun c hc => h c (by simp [loopsIn, hc]))⟩
  | .block _ c, h => loopsOk_of c (fun b hb => h b (by simpa [loopsIn] using hb))
  | .loop c, h => ⟨h c (by simp [loopsIn]), loopsOk_of c (fun b hb => h b (by simp [loopsIn, hb]))⟩
  | .skip, _ => trivial
  | .region _ _ _, _ => trivial
  | .exit _, _ => trivial
  | .goto _, _ => trivial
  | .label _, _ => trivial
  | .scope _, _ => trivial
  | .ret, _ => trivial
  | .rangeFunc _ _ _ _, _ => trivial
  | .refuse _, _ => trivial
end Go.Ev
end
section
/- What the functions' texts share. -/
namespace Go.Ev
set_option linter.unusedVariables false
abbrev LoopFn := St → (Ex → St → Option Ret) → Option Ret
theorem loopW_ok {Γ : Env} {c : Code} {n : Nat} {F : LoopFn} (hn : firstRegion c = some n) (hs : Γ.sum n = some F) {li lo : List Nat} (hh : Γ.hint n = (li, lo)) (h : ∀ σ K r, F σ K = some r → ∃ m, rounds (run Γ c) li lo m σ K = some r) : LoopOk Γ c := by
  intro n' F' hn' hF σ K r hr
  rw [hn] at hn'
  cases hn'
  rw [hs] at hF
  cases hF
  rw [hh]
  exact h σ K r hr
/-- The loops of a function: number, what lives at the head, at the exit, the summary. -/
def sumOf : List (Nat × List Nat × List Nat × LoopFn) → Nat → Option LoopFn
  | [], _ => none
  | (k, _, _, F) :: l, n => bif Nat.beq n k then some F else sumOf l n
def hintOf : List (Nat × List Nat × List Nat × LoopFn) → Nat → List Nat × List Nat
  | [], _ => ([], [])
  | (k, a, b, _) :: l, n => bif Nat.beq n k then (a, b) else hintOf l n
def planOf : List (Nat × Plan × List Nat) → Nat → Option (Plan × List Nat)
  | [], _ => none
  | (k, p, t) :: l, n => bif Nat.beq n k then some (p, t) else planOf l n
def memN (l : List Nat) (n : Nat) : Bool := l.any (Nat.beq n)
def xsh : Nat → ShL
  | 0 => .nil
  | n + 1 => .cons .x (xsh n)
def xd : (n : Nat) → (xsh n).T
  | 0 => ()
  | n + 1 => ((), xd n)
/-- The loop's body whose first region is n. -/
def bodyOf (f : Func) (n : Nat) : Code :=
  ((loopsIn (f.body.getD .skip)).find? (fun c => match firstRegion c with
    | some m => Nat.beq m n
    | none => false)).getD .skip
theorem wrap_id {n : Int} (h0 : 0 ≤ n) (h1 : n ≤ 4611686018427387905) : IntKind.i64.wrap n = n := by
  have : IntKind.i64.wrap n = Go.RowKit.wrap64 n := by
    simp only [IntKind.wrap, IntKind.bits, IntKind.signed, Go.RowKit.wrap64, Bool.true_and]
    split <;> simp_all <;> omega
  rw [this]; unfold Go.RowKit.wrap64; omega
theorem wrap_in {n : Int} (h0 : -9223372036854775808 ≤ n) (h1 : n ≤ 9223372036854775807) : IntKind.i64.wrap n = n := by
  have : IntKind.i64.wrap n = Go.RowKit.wrap64 n := by
    simp only [IntKind.wrap, IntKind.bits, IntKind.signed, Go.RowKit.wrap64, Bool.true_and]
    split <;> simp_all <;> omega
  rw [this]; unfold Go.RowKit.wrap64; omega
def takes : List Nat → Plan
  | [] => .done
  | i :: l => .take i (takes l)
def takeB : List Nat → Plan → Plan
  | [], p => p
  | i :: l, p => .take i (takeB l p)
section
variable {P : Program} {I : Nat → World → Prop}
theorem mem0 : ∀ q ∈ ([] : List (Nat × Bool × Sm)), OkFn P I q.1 q.2.1 q.2.2 := fun _ h => nomatch h
theorem memc {g : Nat} {b : Bool} {G : Sm} {l : List (Nat × Bool × Sm)} (h : OkFn P I g b G) (hl : ∀ q ∈ l, OkFn P I q.1 q.2.1 q.2.2) : ∀ q ∈ (g, b, G) :: l, OkFn P I q.1 q.2.1 q.2.2 := fun q hq => by
  rcases List.mem_cons.1 hq with rfl | hq
  · exact h
  · exact hl q hq
/-- All loops of a function, one after the other. -/
def LoopsAll (Γ : Env) (cs : List Code) : Prop := ∀ b ∈ cs, LoopOk Γ b
theorem loops0 {Γ : Env} : LoopsAll Γ [] := fun _ h => nomatch h
theorem loopsc {Γ : Env} {c : Code} {cs : List Code} (h : LoopOk Γ c) (hl : LoopsAll Γ cs) : LoopsAll Γ (c :: cs) := fun q hq => by
  rcases List.mem_cons.1 hq with rfl | hq
  · exact h
  · exact hl q hq
end
def shrI (k : IntKind) (a b : Int) : Int := a.fdiv (2 ^ (min b.toNat k.bits))
def nilsOf : List (Nat × List (Nat × Nat × Rw)) → Nat → List (Nat × Nat × Rw)
  | [], _ => []
  | (k, q) :: l, n => bif Nat.beq n k then q else nilsOf l n
/-- A table of types, contracts, plans and loops. -/
def mkE (ty : Nat → Option Ty) (l : List (Nat × Bool × Sm)) (p : List (Nat × Plan × List Nat) := []) (ls : List (Nat × List Nat × List Nat × LoopFn) := []) (lend : List Nat := []) (focus : Bool := false) (fuel : Nat := 0) (give : List Nat := []) (glob : Nat → Option ((r : Rw) × List r.T) := fun _ => none) (nils : List (Nat × List (Nat × Nat × Rw)) := []) : Env :=
  { ty := ty, fn := tab l, hint := hintOf ls, plan := planOf p, sum := sumOf ls, lend := ⟨memN lend, memN give⟩, focus := focus, fuel := fuel, glob := glob, nils := nilsOf nils }
end Go.Ev
namespace Go.Ev.Seat
open Go.RowKit
set_option maxRecDepth 100000
set_option linter.unusedVariables false
noncomputable abbrev prog := Go.Proofs.Try.prog
noncomputable abbrev En (l : List (Nat × Bool × Sm)) (p : List (Nat × Plan × List Nat) := []) (ls : List (Nat × List Nat × List Nat × LoopFn) := []) (lend : List Nat := []) (focus : Bool := false) (fuel : Nat := 0) (give : List Nat := []) (nils : List (Nat × List (Nat × Nat × Rw)) := []) : Env := mkE tys.get l p ls lend focus fuel give globs nils
/-- A function keeps its contract. -/
theorem ok_fn {l : List (Nat × Bool × Sm)} {p : List (Nat × Plan × List Nat)} {ls : List (Nat × List Nat × List Nat × LoopFn)} {lend : List Nat} {focus : Bool} {fuel : Nat} {give : List Nat} {nils : List (Nat × List (Nat × Nat × Rw))} (hl : ∀ q ∈ l, OkFn prog I q.1 q.2.1 q.2.2) {g : FuncId} {fn : Func} (hg : prog.funcs[g]? = some fn) (hname : (fn.name == "runtime.NumGoroutine") = false) (hb : fn.body = some (fn.body.getD .skip)) (hpl : plansOk (planOf p) (fn.body.getD .skip) = true) {cs : List Code} (hcs : loopsIn (fn.body.getD .skip) = cs) (hlo : LoopsAll (En l p ls lend focus fuel give nils) cs) {fresh : Bool} : OkFn prog I g fresh (evF (En l p ls lend focus fuel give nils) fresh fn) :=
  evF_ok (Γ := En l p ls lend focus fuel give nils) mixed tysOk ⟨fun g fresh G h => tab_ok hl g fresh G h, globOk rfl⟩ hg hname hb hpl (loopsOk_of _ (by rw [hcs]; exact hlo))
abbrev bytesR : Rw := .one (.int .u8)
abbrev intR : Rw := .one (.int .i64)
end Go.Ev.Seat
end
section
/- The laws' helpers, for all kinds of rows at once: how much lies there, equal, copied, marked, held. -/
set_option linter.unusedVariables false
namespace Go.Ev

/-! ### Marks -/
def markList {α : Type} (f : α → Int → α × Int) : List α → Int → List α × Int
  | [], k => ([], k)
  | x :: xs, k => ((f x k).1 :: (markList f xs (f x k).2).1, (markList f xs (f x k).2).2)
/-- The text of a mark; what it is does not matter here. -/
structure MText where
  t : Int → ByteArray
def markInt : IntKind → Int → Int
  | .i64, n => n
  | k, n => k.wrap n
mutual
def Cc.mark (T : MText) : (c : Cc) → c.T → Int → c.T × Int
  | .int k, _, n => (markInt k n, IntKind.i64.wrap (n + 1))
  | .bool, b, n => (b, n)
  | .str, _, n => (T.t n, IntKind.i64.wrap (n + 1))
  | .sl r, xs, n => markList (r.mark T) xs n
def Rw.mark (T : MText) : (r : Rw) → r.T → Int → r.T × Int
  | .one c, d, n => c.mark T d n
  | .cons c r, d, n => ((( c.mark T d.1 n).1, (r.mark T d.2 (c.mark T d.1 n).2).1), (r.mark T d.2 (c.mark T d.1 n).2).2)
end
theorem markList_len {α : Type} (f : α → Int → α × Int) : ∀ (xs : List α) (k : Int), (markList f xs k).1.length = xs.length
  | [], _ => rfl
  | x :: xs, k => by simp [markList, markList_len f xs]
theorem markList_idem {α : Type} {f : α → Int → α × Int} (h : ∀ x k, f (f x k).1 k = f x k) : ∀ (xs : List α) (k : Int), markList f (markList f xs k).1 k = markList f xs k
  | [], _ => rfl
  | x :: xs, k => by simp only [markList, h, markList_idem h xs]
mutual
theorem Cc.mark_idem (T : MText) : (c : Cc) → (d : c.T) → (k : Int) → c.mark T (c.mark T d k).1 k = c.mark T d k
  | .int _, _, _ => rfl
  | .bool, _, _ => rfl
  | .str, _, _ => rfl
  | .sl r, xs, k => by simp only [Cc.mark]; exact markList_idem (fun x k => Rw.mark_idem T r x k) xs k
theorem Rw.mark_idem (T : MText) : (r : Rw) → (d : r.T) → (k : Int) → r.mark T (r.mark T d k).1 k = r.mark T d k
  | .one c, d, k => Cc.mark_idem T c d k
  | .cons c r, d, k => by simp only [Rw.mark, Cc.mark_idem T c, Rw.mark_idem T r]
end
/-! ### How much -/
def sumW {α : Type} (f : α → Nat) : List α → Nat
  | [] => 0
  | x :: xs => f x + sumW f xs
mutual
def Cc.w : (c : Cc) → c.T → Nat
  | .int _, _ => 0
  | .bool, _ => 0
  | .str, s => s.size
  | .sl r, xs => xs.length + sumW r.w xs
def Rw.w : (r : Rw) → r.T → Nat
  | .one c, d => c.w d
  | .cons c r, d => c.w d.1 + r.w d.2
end
mutual
def Cc.marks : (c : Cc) → c.T → Nat
  | .int _, _ => 1
  | .bool, _ => 0
  | .str, _ => 1
  | .sl r, xs => sumW r.marks xs
def Rw.marks : (r : Rw) → r.T → Nat
  | .one c, d => c.marks d
  | .cons c r, d => c.marks d.1 + r.marks d.2
end
theorem markList_cnt {α : Type} {f : α → Int → α × Int} {m : α → Nat} (h : ∀ x (k : Int), 0 ≤ k → k + m x ≤ 4611686018427387904 → (f x k).2 = k + m x) : ∀ (xs : List α) (k : Int), 0 ≤ k → k + sumW m xs ≤ 4611686018427387904 → (markList f xs k).2 = k + sumW m xs
  | [], k, _, _ => by simp [markList, sumW]
  | x :: xs, k, h0, h1 => by
    simp only [markList, sumW] at h1 ⊢
    have e := h x k h0 (by omega)
    rw [markList_cnt h xs _ (by rw [e]; omega) (by rw [e]; omega), e]
    omega
mutual
theorem Cc.mark_cnt (T : MText) : (c : Cc) → (d : c.T) → (k : Int) → 0 ≤ k → k + c.marks d ≤ 4611686018427387904 → (c.mark T d k).2 = k + c.marks d
  | .int _, d, k, h0, h1 => by simp only [Cc.mark, Cc.marks] at h1 ⊢; rw [wrap_id (by omega) (by omega)]; rfl
  | .bool, d, k, h0, h1 => by simp [Cc.mark, Cc.marks]
  | .str, d, k, h0, h1 => by simp only [Cc.mark, Cc.marks] at h1 ⊢; rw [wrap_id (by omega) (by omega)]; rfl
  | .sl r, xs, k, h0, h1 => by simp only [Cc.mark, Cc.marks] at h1 ⊢; exact markList_cnt (fun x k => Rw.mark_cnt T r x k) xs k h0 h1
theorem Rw.mark_cnt (T : MText) : (r : Rw) → (d : r.T) → (k : Int) → 0 ≤ k → k + r.marks d ≤ 4611686018427387904 → (r.mark T d k).2 = k + r.marks d
  | .one c, d, k, h0, h1 => Cc.mark_cnt T c d k h0 h1
  | .cons c r, d, k, h0, h1 => by
    simp only [Rw.mark, Rw.marks] at h1 ⊢
    have e := Cc.mark_cnt T c d.1 k h0 (by omega)
    rw [Rw.mark_cnt T r d.2 _ (by rw [e]; omega) (by rw [e]; omega), e]
    omega
end
/-! ### Small enough to be copied -/
mutual
def Cc.lim : (c : Cc) → c.T → Bool
  | .int _, _ => true
  | .bool, _ => true
  | .str, _ => true
  | .sl r, xs => Nat.ble xs.length 1048576 && xs.all r.lim
def Rw.lim : (r : Rw) → r.T → Bool
  | .one c, d => c.lim d
  | .cons c r, d => c.lim d.1 && r.lim d.2
end
theorem sumW_mem {α : Type} {f : α → Nat} : ∀ {xs : List α} {x : α}, x ∈ xs → f x ≤ sumW f xs
  | y :: xs, x, h => by
    simp only [sumW]
    rcases List.mem_cons.1 h with rfl | h
    · omega
    · have := sumW_mem (f := f) h; omega
mutual
theorem Cc.lim_ok : (c : Cc) → (d : c.T) → c.w d ≤ 1048576 → c.lim d = true
  | .int _, _, _ => rfl
  | .bool, _, _ => rfl
  | .str, _, _ => rfl
  | .sl r, xs, h => by
    simp only [Cc.w] at h
    simp only [Cc.lim, Bool.and_eq_true, List.all_eq_true]
    refine ⟨Nat.ble_eq_true_of_le (by omega), fun x hx => ?_⟩
    have := sumW_mem (f := r.w) hx
    exact Rw.lim_ok r x (by omega)
theorem Rw.lim_ok : (r : Rw) → (d : r.T) → r.w d ≤ 1048576 → r.lim d = true
  | .one c, d, h => Cc.lim_ok c d h
  | .cons c r, d, h => by
    simp only [Rw.w] at h
    simp only [Rw.lim, Bool.and_eq_true]
    exact ⟨Cc.lim_ok c d.1 (by omega), Rw.lim_ok r d.2 (by omega)⟩
end
/-! ### Equality -/
/-! ### Rounds of loops over a list -/
section
variable {α β : Type} {ρ : Type}
end
end Go.Ev
end
section
/- The laws' helpers: their contracts, for all kinds of rows at once. -/
set_option linter.unusedVariables false
namespace Go.Ev

/-! ### What comes in, read as data -/
def Cc.dec : (c : Cc) → V → Option c.T
  | .int k, .s (.int k' n) => if k' = k then some n else none
  | .bool, .s (.bool b) => some b
  | .str, .s (.string b) => some b
  | .sl r, .l .no r' xs => if h : r' = r then some (h ▸ xs) else none
  | _, _ => none
def Rw.dec : (r : Rw) → List V → Option r.T
  | .one c, [v] => c.dec v
  | .cons c r, v :: vs => match c.dec v with
    | some d => match r.dec vs with
      | some e => some (d, e)
      | none => none
    | none => none
  | _, _ => none
theorem Cc.dec_ok : (c : Cc) → {v : V} → {d : c.T} → c.dec v = some d → v = c.cell .no d
  | .int k, v, d, h => by
    cases v with
    | s u =>
      cases u with
      | int k' n =>
        simp only [Cc.dec] at h
        split at h
        · rename_i hk; subst hk; cases h; rfl
        · cases h
      | _ => simp [Cc.dec] at h
    | _ => simp [Cc.dec] at h
  | .bool, v, d, h => by
    cases v with
    | s u => cases u <;> simp only [Cc.dec, reduceCtorEq, Option.some.injEq] at h; subst h; rfl
    | _ => simp [Cc.dec] at h
  | .str, v, d, h => by
    cases v with
    | s u => cases u <;> simp only [Cc.dec, reduceCtorEq, Option.some.injEq] at h; subst h; rfl
    | _ => simp [Cc.dec] at h
  | .sl r, v, d, h => by
    cases v with
    | l o r' xs =>
      cases o <;> simp only [Cc.dec, reduceCtorEq] at h
      split at h
      · rename_i hr; subst hr; cases h; rfl
      · cases h
    | _ => simp [Cc.dec] at h
theorem Rw.dec_ok : (r : Rw) → {vs : List V} → {d : r.T} → r.dec vs = some d → vs = r.cells .no d
  | .one c, [], d, h => by simp [Rw.dec] at h
  | .one c, [v], d, h => by
    simp only [Rw.dec] at h
    rw [Cc.dec_ok c h]; rfl
  | .one c, _ :: _ :: _, d, h => by simp [Rw.dec] at h
  | .cons c r, [], d, h => by simp [Rw.dec] at h
  | .cons c r, v :: vs, d, h => by
    simp only [Rw.dec] at h
    split at h
    · rename_i d1 e1
      split at h
      · rename_i d2 e2
        cases h
        rw [Cc.dec_ok c e1, Rw.dec_ok r e2]; rfl
      · cases h
    · cases h

def sc (n : Int) : V := .s (.int .i64 n)
def bl (b : Bool) : V := .s (.bool b)
/-! ### Contracts: of slices (L) and of structs (A) -/
mutual
/-- All lists short enough for a counter. -/
def Cc.cnt : (c : Cc) → c.T → Bool
  | .sl r, xs => Nat.ble xs.length 4611686018427387904 && xs.all r.cnt
  | _, _ => true
def Rw.cnt : (r : Rw) → r.T → Bool
  | .one c, d => c.cnt d
  | .cons c r, d => c.cnt d.1 && r.cnt d.2
end
mutual
/-- All lists as short as Go has them. -/
def Cc.cnz : (c : Cc) → c.T → Bool
  | .sl r, xs => Nat.ble xs.length 9223372036854775807 && xs.all r.cnz
  | _, _ => true
def Rw.cnz : (r : Rw) → r.T → Bool
  | .one c, d => c.cnz d
  | .cons c r, d => c.cnz d.1 && r.cnz d.2
end
mutual
theorem Cc.cnt_of_lim : (c : Cc) → (d : c.T) → c.lim d = true → c.cnt d = true
  | .int _, _, _ => rfl
  | .bool, _, _ => rfl
  | .str, _, _ => rfl
  | .sl r, xs, h => by
    simp only [Cc.lim, Cc.cnt, Bool.and_eq_true, List.all_eq_true] at h ⊢
    exact ⟨Nat.ble_eq_true_of_le (by have := Nat.le_of_ble_eq_true h.1; omega), fun x hx => Rw.cnt_of_lim r x (h.2 x hx)⟩
theorem Rw.cnt_of_lim : (r : Rw) → (d : r.T) → r.lim d = true → r.cnt d = true
  | .one c, d, h => Cc.cnt_of_lim c d h
  | .cons c r, d, h => by
    simp only [Rw.lim, Rw.cnt, Bool.and_eq_true] at h ⊢
    exact ⟨Cc.cnt_of_lim c d.1 h.1, Rw.cnt_of_lim r d.2 h.2⟩
end
mutual
def Cc.decO : (c : Cc) → V → Option c.T
  | .int k, .s (.int k' n) => if k' = k then some n else none
  | .bool, .s (.bool b) => some b
  | .str, .s (.string b) => some b
  | .sl r, .l .own r' xs => if h : r' = r then some (h ▸ xs) else none
  | _, _ => none
def Rw.decO : (r : Rw) → List V → Option r.T
  | .one c, [v] => c.decO v
  | .cons c r, v :: vs => match c.decO v with
    | some d => match r.decO vs with
      | some e => some (d, e)
      | none => none
    | none => none
  | _, _ => none
end
theorem wrap_nat {i : Nat} (h : i ≤ 4611686018427387904) : IntKind.i64.wrap (((i : Nat) : Int) + 1) = (((i + 1 : Nat)) : Int) := by
  rw [wrap_id (by omega) (by omega)]; rfl
/-! ### From a function's law to its contract -/
section
variable {P : Program} {I : Nat → World → Prop}
variable {r : Rw} {G : Sm} {T : MText}
end

/-! ### Chains in the structs' helpers -/
section
variable {ρ : Type}
end
end Go.Ev
end
section
/- Contracts by signature: what comes in is read as data; what goes out is a function of it. -/
set_option linter.unusedVariables false
namespace Go.Ev
inductive Ak where
  | sc1 (k : Cc)
  | a (r : Rw)
  | l (r : Rw)
  | i
  | b
  | sh (s : Sh)
abbrev Ak.T : Ak → Type
  | .a r => r.T
  | .l r => List r.T
  | .i => Int
  | .b => Bool
  | .sc1 k => k.T
  | .sh s => s.T
def Ak.v : (k : Ak) → k.T → V
  | .a r, d => .a (r.cells .no d)
  | .l r, d => .l .no r d
  | .i, n => .s (.int .i64 n)
  | .b, c => .s (.bool c)
  | .sc1 k, d => k.cell .no d
  | .sh s, d => s.mk d
def Ak.dec : (k : Ak) → V → Option k.T
  | .a r, .a cs => r.dec cs
  | .l r, v => (Cc.sl r).dec v
  | .i, .s (.int .i64 n) => some n
  | .b, .s (.bool c) => some c
  | .sc1 k, v => k.dec v
  | .sh s, v => s.un v
  | _, _ => none
theorem Ak.dec_ok : (k : Ak) → {v : V} → {d : k.T} → k.dec v = some d → v = k.v d
  | .a r, v, d, h => by
    cases v with
    | a cs => simp only [Ak.dec] at h; rw [Rw.dec_ok r h]; rfl
    | _ => simp [Ak.dec] at h
  | .l r, v, d, h => by
    have h' : (Cc.sl r).dec v = some d := by
      cases v <;> simpa [Ak.dec] using h
    rw [Cc.dec_ok (.sl r) h']; rfl
  | .i, v, d, h => by
    cases v with
    | s u =>
      cases u with
      | int k n => cases k <;> simp [Ak.dec] at h <;> subst h <;> rfl
      | _ => simp [Ak.dec] at h
    | _ => simp [Ak.dec] at h
  | .sc1 k, v, d, h => by
    have h' : k.dec v = some d := by
      cases v <;> simpa [Ak.dec] using h
    exact Cc.dec_ok k h'
  | .sh s, v, d, h => by
    have h' : s.un v = some d := by
      cases v <;> simpa [Ak.dec] using h
    exact Sh.un_mk s h'
  | .b, v, d, h => by
    cases v with
    | s u =>
      cases u with
      | bool c => simp [Ak.dec] at h; subst h; rfl
      | _ => simp [Ak.dec] at h
    | _ => simp [Ak.dec] at h
abbrev SgT : List Ak → Type
  | [] => Unit
  | k :: ks => k.T × SgT ks
def sgV : (ks : List Ak) → SgT ks → List V
  | [], _ => []
  | k :: ks, d => k.v d.1 :: sgV ks d.2
mutual
theorem Cc.cnz_of_wf : (c : Cc) → (d : c.T) → c.wf d → c.cnz d = true
  | .int _, _, _ => rfl
  | .bool, _, _ => rfl
  | .str, _, _ => rfl
  | .sl r, xs, h => by
    simp only [Cc.cnz, Bool.and_eq_true, List.all_eq_true]
    exact ⟨Nat.ble_eq_true_of_le h.1, fun x hx => Rw.cnz_of_wf r x (h.2 x hx)⟩
theorem Rw.cnz_of_wf : (r : Rw) → (d : r.T) → r.wf d → r.cnz d = true
  | .one c, d, h => Cc.cnz_of_wf c d h
  | .cons c r, d, h => by
    simp only [Rw.cnz, Bool.and_eq_true]
    exact ⟨Cc.cnz_of_wf c d.1 h.1, Rw.cnz_of_wf r d.2 h.2⟩
end

/-! ### How many marks -/
mutual
def Cc.mx : Cc → Bool
  | .sl r => Nat.ble r.sc 32 && r.mx
  | _ => true
def Rw.mx : Rw → Bool
  | .one c => c.mx
  | .cons c r => c.mx && r.mx
def Cc.sc : Cc → Nat
  | .sl _ => 0
  | _ => 1
def Rw.sc : Rw → Nat
  | .one c => c.sc
  | .cons c r => c.sc + r.sc
end
mutual
theorem Cc.marks_le : (c : Cc) → c.mx = true → (d : c.T) → c.marks d ≤ c.sc + 32 * c.w d
  | .int _, _, _ => by simp [Cc.marks, Cc.sc, Cc.w]
  | .bool, _, _ => by simp [Cc.marks, Cc.sc, Cc.w]
  | .str, _, d => by simp only [Cc.marks, Cc.sc, Cc.w]; omega
  | .sl r, h, xs => by
    simp only [Cc.mx, Bool.and_eq_true] at h
    have h1 : r.sc ≤ 32 := Nat.le_of_ble_eq_true h.1
    have key : ∀ ys : List r.T, sumW r.marks ys ≤ 32 * (ys.length + sumW r.w ys) := by
      intro ys
      induction ys with
      | nil => simp [sumW]
      | cons y ys ih =>
        have := Rw.marks_le r h.2 y
        simp only [sumW, List.length_cons]
        omega
    simp only [Cc.marks, Cc.sc, Cc.w]
    have := key xs
    omega
theorem Rw.marks_le : (r : Rw) → r.mx = true → (d : r.T) → r.marks d ≤ r.sc + 32 * r.w d
  | .one c, h, d => Cc.marks_le c h d
  | .cons c r, h, d => by
    simp only [Rw.mx, Bool.and_eq_true] at h
    have h1 := Cc.marks_le c h.1 d.1
    have h2 := Rw.marks_le r h.2 d.2
    simp only [Rw.marks, Rw.sc, Rw.w]
    omega
end
mutual
theorem Cc.cnt_of_w : (c : Cc) → (d : c.T) → c.w d ≤ 4611686018427387904 → c.cnt d = true
  | .int _, _, _ => rfl
  | .bool, _, _ => rfl
  | .str, _, _ => rfl
  | .sl r, xs, h => by
    simp only [Cc.w] at h
    simp only [Cc.cnt, Bool.and_eq_true, List.all_eq_true]
    refine ⟨Nat.ble_eq_true_of_le (by omega), fun x hx => ?_⟩
    have := sumW_mem (f := r.w) hx
    exact Rw.cnt_of_w r x (by omega)
theorem Rw.cnt_of_w : (r : Rw) → (d : r.T) → r.w d ≤ 4611686018427387904 → r.cnt d = true
  | .one c, d, h => Cc.cnt_of_w c d h
  | .cons c r, d, h => by
    simp only [Rw.w] at h
    simp only [Rw.cnt, Bool.and_eq_true]
    exact ⟨Cc.cnt_of_w c d.1 (by omega), Rw.cnt_of_w r d.2 (by omega)⟩
end
mutual
theorem Cc.mark_w (T : MText) : (c : Cc) → (d : c.T) → (k : Int) → c.cnt (c.mark T d k).1 = c.cnt d
  | .int _, _, _ => rfl
  | .bool, _, _ => rfl
  | .str, _, _ => rfl
  | .sl r, xs, k => by
    simp only [Cc.cnt, Cc.mark, markList_len]
    have key : ∀ (xs : List r.T) (k : Int), (markList (r.mark T) xs k).1.all r.cnt = xs.all r.cnt := by
      intro xs
      induction xs with
      | nil => intro k; rfl
      | cons x xs ih =>
        intro k
        simp only [markList, List.all_cons]
        rw [ih, Rw.mark_w T r x k]
    rw [key]
theorem Rw.mark_w (T : MText) : (r : Rw) → (d : r.T) → (k : Int) → r.cnt (r.mark T d k).1 = r.cnt d
  | .one c, d, k => Cc.mark_w T c d k
  | .cons c r, d, k => by simp only [Rw.cnt, Rw.mark]; rw [Cc.mark_w T c, Rw.mark_w T r]
end
mutual
theorem Cc.mark_marks (T : MText) : (c : Cc) → (d : c.T) → (k : Int) → c.marks (c.mark T d k).1 = c.marks d
  | .int _, _, _ => rfl
  | .bool, _, _ => rfl
  | .str, _, _ => rfl
  | .sl r, xs, k => by
    have key : ∀ (xs : List r.T) (k : Int), sumW r.marks (markList (r.mark T) xs k).1 = sumW r.marks xs := by
      intro xs
      induction xs with
      | nil => intro k; rfl
      | cons x xs ih =>
        intro k
        simp only [markList, sumW]
        rw [ih, Rw.mark_marks T r x k]
    exact key xs k
theorem Rw.mark_marks (T : MText) : (r : Rw) → (d : r.T) → (k : Int) → r.marks (r.mark T d k).1 = r.marks d
  | .one c, d, k => Cc.mark_marks T c d k
  | .cons c r, d, k => by simp only [Rw.marks, Rw.mark]; rw [Cc.mark_marks T c, Rw.mark_marks T r]
end
/-! ### The exact laws, step by step -/
section
variable {ρ : Type}
end
end Go.Ev
end
section
/- A result that is owned may be taken as one that is only read. -/
set_option linter.unusedVariables false
namespace Go.Ev
def noC : V → V
  | .l _ r xs => .l .no r xs
  | v => v
def noV : V → V
  | .a cs => .a (cs.map noC)
  | v => noC v
def noR : V → V
  | .t us => .t (us.map noV)
  | u => noV u
section
variable {w : World}
theorem vr_nO {r : Rw} {xs : List r.T} {c : Value} {F M : List Nat} {e e' : Bool} (h : SlT (RwR w e r) w e' r.n xs c F) (hM : ∀ b ∈ F, b ∈ M) : VR (Cx.ext (· ∈ M)) w (.l .no r xs) c :=
  ⟨F, h.loose, hM⟩
theorem CellR.no {v : V} {c : Value} {O M H : List Nat} (h : CellR w v c O M H) : ∃ M', CellR w (noC v) c [] M' [] ∧ ∀ x ∈ M', x ∈ M ∨ x ∈ O := by
  unfold CellR at h
  split at h
  · rename_i r xs
    obtain ⟨h1, _, _⟩ := h
    exact ⟨O, CellR.plain (vr_nO h1 (fun _ h => h)) (by simp [noC]) (by simp [noC]) (by simp [noC]), fun x hx => .inr hx⟩
  · rename_i r xs
    obtain ⟨F, h1, rfl, rfl, _⟩ := h
    refine ⟨F, CellR.plain (vr_nO h1 (fun _ h => h)) (by simp [noC]) (by simp [noC]) (by simp [noC]), fun x hx => ?_⟩
    cases F with
    | nil => cases hx
    | cons b F =>
      rcases List.mem_cons.1 hx with rfl | hx
      · exact .inr (by simp)
      · exact .inl (by simpa using hx)
  · rename_i r xs
    obtain ⟨h1, _, _⟩ := h
    exact ⟨O, CellR.plain (vr_nO h1 (fun _ h => h)) (by simp [noC]) (by simp [noC]) (by simp [noC]), fun x hx => .inr hx⟩
  · rename_i n1 n2 n3
    obtain ⟨h1, _, _⟩ := h
    cases v with
    | l o r xs =>
      cases o with
      | no => exact ⟨M, CellR.plain h1 (by simp [noC]) (by simp [noC]) (by simp [noC]), fun x hx => .inl hx⟩
      | deep => exact absurd rfl (n1 _ _)
      | top => exact absurd rfl (n2 _ _)
      | own => exact absurd rfl (n3 _ _)
    | _ => exact ⟨M, CellR.plain h1 (by simp [noC]) (by simp [noC]) (by simp [noC]), fun x hx => .inl hx⟩
theorem CellsR.no : ∀ {cs : List V} {vs : List Value} {O M H : List Nat}, CellsR w cs vs O M H → ∃ M', CellsR w (cs.map noC) vs [] M' [] ∧ ∀ x ∈ M', x ∈ M ∨ x ∈ O
  | [], _, _, _, _, ⟨h1, h2, h3, h4⟩ => ⟨[], ⟨h1, rfl, rfl, rfl⟩, fun _ h => (nomatch h)⟩
  | c :: cs, _, _, _, _, ⟨v, vs', O1, O2, M1, M2, H1, H2, h1, h2, h3, h4, h5, h6⟩ => by
    obtain ⟨A, a1, a2⟩ := h5.no
    obtain ⟨B, b1, b2⟩ := CellsR.no h6
    refine ⟨A ++ B, ⟨v, vs', [], [], A, B, [], [], h1, rfl, rfl, rfl, a1, b1⟩, fun x hx => ?_⟩
    rw [h2, h3]
    rcases List.mem_append.1 hx with hx | hx
    · rcases a2 x hx with h | h
      · exact .inl (List.mem_append.2 (.inl h))
      · exact .inr (List.mem_append.2 (.inl h))
    · rcases b2 x hx with h | h
      · exact .inl (List.mem_append.2 (.inr h))
      · exact .inr (List.mem_append.2 (.inr h))
def V.isIo : V → Bool
  | .io _ => true
  | _ => false
theorem ArgR.no {v : V} {c : Value} {O M H : List Nat} (h : ArgR w v c O M H) (hv : v.isIo = false) : ∃ M', ArgR w (noV v) c [] M' [] ∧ ∀ x ∈ M', x ∈ M ∨ x ∈ O := by
  unfold ArgR at h
  split at h
  · cases hv
  · rename_i cs
    obtain ⟨vs, rfl, h2⟩ := h
    obtain ⟨M', a1, a2⟩ := h2.no
    exact ⟨M', ⟨vs, rfl, a1⟩, a2⟩
  · rename_i n1 n2
    obtain ⟨M', a1, a2⟩ := h.no
    refine ⟨M', ?_, a2⟩
    cases v with
    | a cs => exact absurd rfl (n2 _)
    | io cs => exact absurd rfl (n1 _)
    | _ => exact a1
theorem ArgsR.no : ∀ {us : List V} {vs : List Value} {O M H : List Nat}, ArgsR w us vs O M H → us.all (fun u => !u.isIo) = true → ∃ M', ArgsR w (us.map noV) vs [] M' [] ∧ ∀ x ∈ M', x ∈ M ∨ x ∈ O
  | [], _, _, _, _, ⟨h1, h2, h3, h4⟩, _ => ⟨[], ⟨h1, rfl, rfl, rfl⟩, fun _ h => (nomatch h)⟩
  | c :: cs, _, _, _, _, ⟨v, vs', O1, O2, M1, M2, H1, H2, h1, h2, h3, h4, h5, h6⟩, hi => by
    simp only [List.all_cons, Bool.and_eq_true, Bool.not_eq_true'] at hi
    obtain ⟨A, a1, a2⟩ := h5.no hi.1
    obtain ⟨B, b1, b2⟩ := ArgsR.no h6 hi.2
    refine ⟨A ++ B, ⟨v, vs', [], [], A, B, [], [], h1, rfl, rfl, rfl, a1, b1⟩, fun x hx => ?_⟩
    rw [h2, h3]
    rcases List.mem_append.1 hx with hx | hx
    · rcases a2 x hx with h | h
      · exact .inl (List.mem_append.2 (.inl h))
      · exact .inr (List.mem_append.2 (.inl h))
    · rcases b2 x hx with h | h
      · exact .inl (List.mem_append.2 (.inr h))
      · exact .inr (List.mem_append.2 (.inr h))
def V.okNo : V → Bool
  | .t us => us.all (fun u => !u.isIo)
  | u => !u.isIo
theorem RetR.no {u : V} {c : Value} {O M H : List Nat} (h : RetR w u c O M H) (hu : u.okNo = true) : ∃ M', RetR w (noR u) c [] M' [] ∧ ∀ x ∈ M', x ∈ M ∨ x ∈ O := by
  unfold RetR at h
  split at h
  · obtain ⟨vs, rfl, h2⟩ := h
    obtain ⟨M', a1, a2⟩ := h2.no hu
    exact ⟨M', ⟨vs, rfl, a1⟩, a2⟩
  · rename_i n1
    cases u with
    | t us => exact absurd rfl (n1 _)
    | io cs => simp [V.okNo, V.isIo] at hu
    | a cs =>
      obtain ⟨M', a1, a2⟩ := ArgR.no h rfl
      exact ⟨M', a1, a2⟩
    | l o r xs =>
      obtain ⟨M', a1, a2⟩ := ArgR.no h rfl
      exact ⟨M', a1, a2⟩
    | _ =>
      obtain ⟨M', a1, a2⟩ := ArgR.no h rfl
      exact ⟨M', a1, a2⟩
end
theorem ArgsR.hsub' {w : World} {us : List V} {vs : List Value} {O M H : List Nat} (h : ArgsR w us vs O M H) : ∀ x ∈ H, x ∈ O := h.hsub
/-- The contract whose results are only read. -/
def S_no (G : Sm) : Sm := fun ws K => G ws fun q => bif q.1.okNo then K (noR q.1, q.2) else none
theorem OkFn.no {P : Program} {I : Nat → World → Prop} {g : FuncId} {f : Bool} {G : Sm} (h : OkFn P I g f G) : OkFn P I g false (S_no G) := by
  refine ⟨h.1, fun ws K r hr B0 w0 w N vs O M H hI hb hB hA hnd hO hM hH hN => ?_⟩
  refine Calls.mono (h.2 ws _ r hr B0 w0 w N vs O M H hI hb hB hA hnd hO hM hH hN) (fun e w' he => ?_)
  cases e with
  | returned c =>
    obtain ⟨q, hq, hk⟩ := he
    cases ho : q.1.okNo with
    | false => simp only [ho, cond_false] at hq; cases hq
    | true =>
      simp only [ho, cond_true] at hq
      refine ⟨_, hq, ?_⟩
      obtain ⟨⟨O1, M1, H1, O2, M2, H2, e1, e2, e3, e4, e5, e6⟩, k2, k3, k4⟩ := hk
      obtain ⟨M', a1, a2⟩ := e1.no ho
      refine ⟨⟨[], M', [], O2, M2, H2, a1, e2, ?_, fun x hx => e4 x (List.mem_append.2 (.inr (by simpa using hx))), fun x hx => ?_, fun x hx => ?_⟩, k2, k3, k4⟩
      · exact (List.nodup_append.1 e3).2.1
      · rcases List.mem_append.1 hx with hx | hx
        · rcases a2 x hx with hx | hx
          · obtain ⟨g1, g2, _⟩ := e5 x (List.mem_append.2 (.inl hx))
            exact ⟨g1, g2, fun h => by cases h⟩
          · obtain ⟨g1, g2⟩ := e4 x (List.mem_append.2 (.inl hx))
            exact ⟨.inr g1, g2, fun h => by cases h⟩
        · obtain ⟨g1, g2, _⟩ := e5 x (List.mem_append.2 (.inr hx))
          exact ⟨g1, g2, fun h => by cases h⟩
      · have hx' : x ∈ H2 := by simpa using hx
        obtain ⟨g1, g2⟩ := e6 x (List.mem_append.2 (.inr hx'))
        refine ⟨fun hm => ?_, g2⟩
        rcases List.mem_append.1 hm with hm | hm
        · rcases a2 x hm with hm | hm
          · exact g1 (List.mem_append.2 (.inl hm))
          · exact (List.nodup_append.1 e3).2.2 x hm x (e2.hsub' x hx') rfl
        · exact g1 (List.mem_append.2 (.inr hm))
  | _ => exact he
end Go.Ev
end
section
/- Contracts by signature, where a nil slice may stand for an empty one; results with what is handed back. -/
set_option linter.unusedVariables false
namespace Go.Ev
def Cc.decN : (c : Cc) → V → Option c.T
  | .sl _, .nl => some []
  | c, v => c.dec v
def Rw.decN : (r : Rw) → List V → Option r.T
  | .one c, [v] => c.decN v
  | .cons c r, v :: vs => match c.decN v with
    | some d => match r.decN vs with
      | some e => some (d, e)
      | none => none
    | none => none
  | _, _ => none
def Ak.decN : (k : Ak) → V → Option k.T
  | .a r, .a cs => r.decN cs
  | .l r, v => (Cc.sl r).decN v
  | k, v => k.dec v
def sgN : (ks : List Ak) → List V → Option (SgT ks)
  | [], [] => some ()
  | k :: ks, v :: vs => match k.decN v with
    | some d => match sgN ks vs with
      | some e => some (d, e)
      | none => none
    | none => none
  | _, _ => none
section
variable {w : World}
theorem CellR.nlN {r : Rw} {c : Value} {O M H : List Nat} (h : CellR w .nl c O M H) : CellR w (.l .no r []) c O M H := by
  obtain ⟨h1, h2, h3⟩ := h
  have h1' : c = .slice none 0 0 := h1
  exact ⟨⟨[], .inl ⟨rfl, rfl, none, 0, h1', fun _ => ⟨rfl, rfl⟩⟩, fun _ h => nomatch h⟩, h2, h3⟩
theorem Cc.decN_ok : (c : Cc) → {v : V} → {d : c.T} → c.decN v = some d → (v = .nl ∧ ∃ r, c.cell .no d = .l .no r []) ∨ v = c.cell .no d
  | .sl r, v, d, h => by
    cases v with
    | nl =>
      have h' : (some [] : Option (List r.T)) = some d := h
      cases h'
      exact .inl ⟨rfl, r, rfl⟩
    | _ => exact .inr (Cc.dec_ok (.sl r) h)
  | .int k, v, d, h => .inr (Cc.dec_ok (.int k) (by cases v <;> simpa [Cc.decN] using h))
  | .bool, v, d, h => .inr (Cc.dec_ok .bool (by cases v <;> simpa [Cc.decN] using h))
  | .str, v, d, h => .inr (Cc.dec_ok .str (by cases v <;> simpa [Cc.decN] using h))
theorem Cc.decN_R {c : Cc} {v : V} {d : c.T} (h : c.decN v = some d) {x : Value} {O M H : List Nat} (hc : CellR w v x O M H) : CellR w (c.cell .no d) x O M H := by
  rcases Cc.decN_ok c h with ⟨rfl, r, e⟩ | e
  · rw [e]; exact hc.nlN
  · rw [← e]; exact hc
theorem Rw.decN_R : (r : Rw) → {cs : List V} → {d : r.T} → r.decN cs = some d → ∀ {vs : List Value} {O M H : List Nat}, CellsR w cs vs O M H → CellsR w (r.cells .no d) vs O M H
  | .one c, cs, d, h, vs, O, M, H, hc => by
    match cs, h, hc with
    | [v], h, ⟨v1, vs', O1, O2, M1, M2, H1, H2, a1, a2, a3, a4, a5, a6⟩ =>
      exact ⟨v1, vs', O1, O2, M1, M2, H1, H2, a1, a2, a3, a4, Cc.decN_R (c := c) h a5, a6⟩
    | [], h, _ => simp [Rw.decN] at h
    | _ :: _ :: _, h, _ => simp [Rw.decN] at h
  | .cons c r, cs, d, h, vs, O, M, H, hc => by
    match cs, h, hc with
    | v :: us, h, ⟨v1, vs', O1, O2, M1, M2, H1, H2, a1, a2, a3, a4, a5, a6⟩ =>
      simp only [Rw.decN] at h
      split at h
      · rename_i d1 e1
        split at h
        · rename_i d2 e2
          cases h
          exact ⟨v1, vs', O1, O2, M1, M2, H1, H2, a1, a2, a3, a4, Cc.decN_R (c := c) e1 a5, Rw.decN_R r e2 a6⟩
        · cases h
      · cases h
    | [], h, _ => simp [Rw.decN] at h
theorem cell_argR {v : V} (h : ∀ cs, v ≠ .a cs) (h2 : ∀ cs, v ≠ .io cs) {x : Value} {O M H : List Nat} : ArgR w v x O M H ↔ CellR w v x O M H := by
  cases v with
  | a cs => exact absurd rfl (h cs)
  | io cs => exact absurd rfl (h2 cs)
  | _ => exact Iff.rfl
theorem Ak.decN_R : (k : Ak) → {v : V} → {d : k.T} → k.decN v = some d → ∀ {x : Value} {O M H : List Nat}, ArgR w v x O M H → ArgR w (k.v d) x O M H
  | .a r, v, d, h, x, O, M, H, ha => by
    cases v with
    | a cs =>
      obtain ⟨vs, h1, h2⟩ := ha
      exact ⟨vs, h1, Rw.decN_R r h h2⟩
    | _ => simp [Ak.decN, Ak.dec] at h
  | .l r, v, d, h, x, O, M, H, ha => by
    have h' : (Cc.sl r).decN v = some d := by cases v <;> simpa [Ak.decN] using h
    have hv : (∀ cs, v ≠ .a cs) ∧ (∀ cs, v ≠ .io cs) := by
      cases v with
      | a cs => simp [Cc.decN, Cc.dec] at h'
      | io cs => simp [Cc.decN, Cc.dec] at h'
      | _ => exact ⟨fun _ h => (nomatch h), fun _ h => (nomatch h)⟩
    exact (cell_argR (v := V.l .no r d) (fun _ h => nomatch h) (fun _ h => nomatch h)).2 (Cc.decN_R (c := .sl r) h' ((cell_argR hv.1 hv.2).1 ha))
  | .i, v, d, h, x, O, M, H, ha => by
    have h' : Ak.dec .i v = some d := by cases v <;> simpa [Ak.decN] using h
    rw [Ak.dec_ok .i h'] at ha; exact ha
  | .b, v, d, h, x, O, M, H, ha => by
    have h' : Ak.dec .b v = some d := by cases v <;> simpa [Ak.decN] using h
    rw [Ak.dec_ok .b h'] at ha; exact ha
  | .sc1 k, v, d, h, x, O, M, H, ha => by
    have h' : Ak.dec (.sc1 k) v = some d := by cases v <;> simpa [Ak.decN] using h
    rw [Ak.dec_ok (.sc1 k) h'] at ha; exact ha
  | .sh s, v, d, h, x, O, M, H, ha => by
    have h' : Ak.dec (.sh s) v = some d := by cases v <;> simpa [Ak.decN] using h
    rw [Ak.dec_ok (.sh s) h'] at ha; exact ha
theorem cell_noOwn (c : Cc) (d : c.T) : (c.cell .no d).isOwn = false := by cases c <;> rfl
theorem cells_noOwn : (r : Rw) → (d : r.T) → (r.cells .no d).any V.isOwn = false
  | .one c, d => by simp [Rw.cells, cell_noOwn]
  | .cons c r, d => by simp only [Rw.cells, List.any_cons, cell_noOwn, cells_noOwn r, Bool.or_self]
theorem Cc.decN_own {c : Cc} {v : V} {d : c.T} (h : c.decN v = some d) : v.isOwn = false := by
  rcases Cc.decN_ok c h with ⟨rfl, _⟩ | e
  · rfl
  · rw [e]; exact cell_noOwn c d
theorem Rw.decN_own : (r : Rw) → {cs : List V} → {d : r.T} → r.decN cs = some d → cs.any V.isOwn = false
  | .one c, cs, d, h => by
    match cs, h with
    | [v], h => simp only [List.any_cons, List.any_nil, Bool.or_false]; exact Cc.decN_own (c := c) h
    | [], h => simp [Rw.decN] at h
    | _ :: _ :: _, h => simp [Rw.decN] at h
  | .cons c r, cs, d, h => by
    match cs, h with
    | v :: us, h =>
      simp only [Rw.decN] at h
      split at h
      · rename_i d1 e1
        split at h
        · rename_i d2 e2
          simp only [List.any_cons, Cc.decN_own (c := c) e1, Rw.decN_own r e2, Bool.or_self]
        · cases h
      · cases h
    | [], h => simp [Rw.decN] at h
theorem Ak.decN_back (k : Ak) {v : V} {d : k.T} (h : k.decN v = some d) : v.back = (k.v d).back := by
  cases k with
  | a r =>
    cases v with
    | a cs =>
      have h' : r.decN cs = some d := h
      show cs.any V.isOwn = (r.cells .no d).any V.isOwn
      rw [Rw.decN_own r h', cells_noOwn]
    | _ => simp [Ak.decN, Ak.dec] at h
  | l r =>
    have h' : (Cc.sl r).decN v = some d := by cases v <;> simpa [Ak.decN] using h
    rcases Cc.decN_ok (.sl r) h' with ⟨rfl, _⟩ | e
    · rfl
    · rw [e]; rfl
  | i =>
    have h' : Ak.dec .i v = some d := by cases v <;> simpa [Ak.decN] using h
    rw [Ak.dec_ok .i h']
  | b =>
    have h' : Ak.dec .b v = some d := by cases v <;> simpa [Ak.decN] using h
    rw [Ak.dec_ok .b h']
  | sc1 k =>
    have h' : Ak.dec (.sc1 k) v = some d := by cases v <;> simpa [Ak.decN] using h
    rw [Ak.dec_ok (.sc1 k) h']
  | sh s =>
    have h' : Ak.dec (.sh s) v = some d := by cases v <;> simpa [Ak.decN] using h
    rw [Ak.dec_ok (.sh s) h']
end
/-- What holds of the one holds of the other, and the same comes back. -/
def NilLe (ws ws' : List V) : Prop := (∀ (w : World) (vs : List Value) (O M H : List Nat), ArgsR w ws vs O M H → ArgsR w ws' vs O M H) ∧ ∀ (vs : List Value), ptrs ws vs = ptrs ws' vs
theorem NilLe.rfl' (ws : List V) : NilLe ws ws := ⟨fun _ _ _ _ _ h => h, fun _ => rfl⟩
theorem sgN_le : (ks : List Ak) → {ws : List V} → {d : SgT ks} → sgN ks ws = some d → NilLe ws (sgV ks d)
  | [], [], d, h => NilLe.rfl' _
  | [], _ :: _, d, h => by simp [sgN] at h
  | k :: ks, [], d, h => by simp [sgN] at h
  | k :: ks, v :: ws, d, h => by
    simp only [sgN] at h
    split at h
    · rename_i d1 e1
      split at h
      · rename_i d2 e2
        cases h
        have ih := sgN_le ks e2
        refine ⟨fun w vs O M H ⟨x, xs, O1, O2, M1, M2, H1, H2, a1, a2, a3, a4, a5, a6⟩ => ⟨x, xs, O1, O2, M1, M2, H1, H2, a1, a2, a3, a4, Ak.decN_R k e1 a5, ih.1 w xs O2 M2 H2 a6⟩, fun vs => ?_⟩
        show ptrs (v :: ws) vs = ptrs (k.v d1 :: sgV ks d2) vs
        cases vs with
        | nil => rfl
        | cons x xs => simp only [ptrs, Ak.decN_back k e1, ih.2 xs]
      · cases h
    · cases h
theorem okN {P : Program} {I : Nat → World → Prop} {g : FuncId} {f : Bool} {S G : Sm} (hG : OkFn P I g f G) (h : ∀ ws K q, S ws K = some q → ∃ ws', NilLe ws ws' ∧ G ws' K = some q) : OkFn P I g f S :=
  ⟨hG.1, fun ws K r hr B0 w0 w N vs O M H hI hb hB hA => by
    obtain ⟨ws', hn, h3⟩ := h ws K r hr
    have := hG.2 ws' K r h3 B0 w0 w N vs O M H hI hb hB (hn.1 w vs O M H hA)
    rw [hn.2 vs]
    exact this⟩
/-- What goes on with a result that is only read. -/
def noK (K : Ret → Option Ret) : Ret → Option Ret := fun q => bif q.1.okNo then K (noR q.1, q.2) else none
def S_fnR (ks : List Ak) (pre : SgT ks → Bool) (f : SgT ks → Ret) : Sm := fun vs K => match sgN ks vs with
  | some d => bif pre d then K (f d) else none
  | none => none
theorem S_fnR_of {ks : List Ak} {pre : SgT ks → Bool} {f : SgT ks → Ret} {G : Sm} (h : ∀ d K, pre d = true → G (sgV ks d) K = K (f d)) : ∀ ws K q, S_fnR ks pre f ws K = some q → ∃ ws', NilLe ws ws' ∧ G ws' K = some q := by
  intro ws K q hr
  unfold S_fnR at hr
  split at hr
  · rename_i d hd
    cases hp : pre d with
    | false => rw [hp] at hr; cases hr
    | true => rw [hp] at hr; exact ⟨_, sgN_le ks hd, (h d K hp).trans hr⟩
  · cases hr
/-- A contract that hands its result on. -/
def S_B (ks : List Ak) (F : SgT ks → (Ret → Option Ret) → Option Ret) : Sm := fun vs K => match sgN ks vs with
  | some d => F d K
  | none => none
theorem S_B_of {ks : List Ak} {F : SgT ks → (Ret → Option Ret) → Option Ret} {G : Sm} (h : ∀ d K q, F d K = some q → G (sgV ks d) K = some q) : ∀ ws K q, S_B ks F ws K = some q → ∃ ws', NilLe ws ws' ∧ G ws' K = some q := by
  intro ws K q hr
  unfold S_B at hr
  split at hr
  · rename_i d hd
    exact ⟨_, sgN_le ks hd, h d K q hr⟩
  · cases hr
end Go.Ev
end
section
/- The rows of the structs. Printed by fam.py. -/
namespace Go.Ev.Seat
open Go.RowKit
abbrev leaseR : Rw := .cons (.int .i64) (.cons (.int .i64) (.cons (.int .i64) (.one (.int .i64))))
abbrev T_Lease : Type := Int × Int × Int × Int
end Go.Ev.Seat
end
section
/- The tables of unicode/utf8. -/
namespace Go.Ev
end Go.Ev
end
section
/- UTF-8, as lists of numbers. -/
set_option linter.unusedVariables false
namespace Go.Ev
open Go.RowKit
def isB (x : Int) : Bool := decide (0 ≤ x) && decide (x ≤ 255)
def fitB (xs : List Int) : Bool := Nat.ble xs.length 1048576 && xs.all isB
theorem fitB_len {xs : List Int} (h : fitB xs = true) : xs.length ≤ 1048576 := by
  unfold fitB at h; rw [Bool.and_eq_true] at h; exact Nat.le_of_ble_eq_true h.1
theorem fitB_mem {xs : List Int} (h : fitB xs = true) {x : Int} (hx : x ∈ xs) : 0 ≤ x ∧ x ≤ 255 := by
  unfold fitB at h; rw [Bool.and_eq_true, List.all_eq_true] at h
  have := h.2 x hx
  simpa [isB] using this
theorem fitB_get {xs : List Int} (h : fitB xs = true) (i : Nat) : 0 ≤ xs.getD i 0 ∧ xs.getD i 0 ≤ 255 := by
  rw [List.getD_eq_getElem?_getD]
  rcases Nat.lt_or_ge i xs.length with hi | hi
  · rw [List.getElem?_eq_getElem hi]; exact fitB_mem h (List.getElem_mem hi)
  · rw [List.getElem?_eq_none hi]; simp
/-! ### Bits -/
/-! ### Runes -/
def lo3 (b : Int) : Int := if b = 224 then 160 else 128
def hi3 (b : Int) : Int := if b = 237 then 159 else 191
def lo4 (b : Int) : Int := if b = 240 then 144 else 128
def hi4 (b : Int) : Int := if b = 244 then 143 else 191
/-- The size of the rune in front; 0 where there is none. -/
def runeSz (xs : List Int) : Nat :=
  if xs.length = 0 then 0
  else if xs.getD 0 0 < 128 then 1
  else if xs.getD 0 0 < 194 then 0
  else if xs.getD 0 0 < 224 then (if 2 ≤ xs.length ∧ 128 ≤ xs.getD 1 0 ∧ xs.getD 1 0 ≤ 191 then 2 else 0)
  else if xs.getD 0 0 < 240 then (if 3 ≤ xs.length ∧ lo3 (xs.getD 0 0) ≤ xs.getD 1 0 ∧ xs.getD 1 0 ≤ hi3 (xs.getD 0 0) ∧ 128 ≤ xs.getD 2 0 ∧ xs.getD 2 0 ≤ 191 then 3 else 0)
  else if xs.getD 0 0 < 245 then (if 4 ≤ xs.length ∧ lo4 (xs.getD 0 0) ≤ xs.getD 1 0 ∧ xs.getD 1 0 ≤ hi4 (xs.getD 0 0) ∧ 128 ≤ xs.getD 2 0 ∧ xs.getD 2 0 ≤ 191 ∧ 128 ≤ xs.getD 3 0 ∧ xs.getD 3 0 ≤ 191 then 4 else 0)
  else 0
theorem runeSz_le (xs : List Int) : runeSz xs ≤ xs.length := by
  unfold runeSz; repeat' split
  all_goals omega
def valid (xs : List Int) : Bool := if h : runeSz xs = 0 then xs.isEmpty else valid (xs.drop (runeSz xs))
termination_by xs.length
decreasing_by
  have := runeSz_le xs
  simp; omega
def textOk (xs : List Int) : Bool := Nat.ble xs.length 400 && valid xs
def contB (b : Int) : Bool := decide (128 ≤ b) && decide (b ≤ 191)
/-- Is it a boundary of a text? -/
def isCutD (t : List Int) (k : Int) : Bool := k == ((t.length : Nat) : Int) || (decide (0 ≤ k) && decide (k < ((t.length : Nat) : Int)) && !contB (t.getD k.toNat 0))
end Go.Ev
end
section
/- Edits of texts, as lists of numbers. -/
set_option linter.unusedVariables false
namespace Go.Ev
open Go.RowKit
abbrev E3 : Type := Int × Int × List Int
structure EditOk (t : List Int) (e : E3) : Prop where
  tx : textOk t = true
  a : isCutD t e.1 = true
  c0 : 0 ≤ e.2.1
  c1 : e.2.1 ≤ ((t.length : Nat) : Int) - e.1
  b : isCutD t (e.1 + e.2.1) = true
  p : textOk e.2.2 = true
  l : ((t.length : Nat) : Int) - e.2.1 + ((e.2.2.length : Nat) : Int) ≤ 400
end Go.Ev
end
section
/- Requests and replies, as numbers and lists. -/
set_option linter.unusedVariables false
namespace Go.Ev
open Go.RowKit
end Go.Ev
end
section
/- Loops over lists, by index. -/
set_option linter.unusedVariables false
namespace Go.Ev
section
variable {α β ρ : Type}
theorem getD_lt {xs : List α} {i : Nat} (z : α) (h : i < xs.length) : xs.getD i z = xs[i] := by
  rw [List.getD_eq_getElem?_getD, List.getElem?_eq_getElem h]; rfl
theorem idx_find {R : Nat → Int → ρ} {p : α → Bool} {kt : ρ} {kf : Int → ρ} {xs : List α} {z : α}
    (hs : ∀ m (i : Nat), i < xs.length → R (m + 1) i = bif p (xs.getD i z) then kf i else R m ((i + 1 : Nat) : Int))
    (he : ∀ m, R (m + 1) (xs.length : Nat) = kt) : ∀ (m i : Nat), i ≤ xs.length → xs.length - i < m → R m i = (match (xs.drop i).findIdx? p with
      | some j => kf ((i + j : Nat) : Int)
      | none => kt)
  | 0, i, _, h => absurd h (by omega)
  | m + 1, i, hi, hm => by
    by_cases h : i < xs.length
    · rw [hs m i h, getD_lt z h, List.drop_eq_getElem_cons h, List.findIdx?_cons]
      cases hp : p xs[i] with
      | true => simp
      | false =>
        rw [cond_false, idx_find hs he m (i + 1) (by omega) (by omega)]
        simp only [Bool.false_eq_true, if_false]
        cases (xs.drop (i + 1)).findIdx? p with
        | none => rfl
        | some k => show kf ((i + 1 + k : Nat) : Int) = kf ((i + (k + 1) : Nat) : Int); congr 2; omega
    · have : i = xs.length := by omega
      subst this
      rw [he m, List.drop_length]; rfl
theorem idx_all {R : Nat → Int → ρ} {p : α → Bool} {kt kf : ρ} {xs : List α} {z : α}
    (hs : ∀ m (i : Nat), i < xs.length → R (m + 1) i = bif p (xs.getD i z) then R m ((i + 1 : Nat) : Int) else kf)
    (he : ∀ m, R (m + 1) (xs.length : Nat) = kt) : ∀ (m i : Nat), i ≤ xs.length → xs.length - i < m → R m i = bif (xs.drop i).all p then kt else kf
  | 0, i, _, h => absurd h (by omega)
  | m + 1, i, hi, hm => by
    by_cases h : i < xs.length
    · rw [hs m i h, getD_lt z h, List.drop_eq_getElem_cons h, List.all_cons]
      cases hp : p xs[i] with
      | true => rw [cond_true, idx_all hs he m (i + 1) (by omega) (by omega)]; rfl
      | false => rfl
    · have : i = xs.length := by omega
      subst this
      rw [he m, List.drop_length]; rfl
theorem idx_fold {R : Nat → Int → β → ρ} {f : β → α → β} {I : Nat → β → Prop} {kt : β → ρ} {xs : List α} {z : α}
    (hs : ∀ m (i : Nat) a, i < xs.length → I i a → R (m + 1) i a = R m ((i + 1 : Nat) : Int) (f a (xs.getD i z)))
    (hI : ∀ (i : Nat) a, i < xs.length → I i a → I (i + 1) (f a (xs.getD i z)))
    (he : ∀ m a, I xs.length a → R (m + 1) (xs.length : Nat) a = kt a) : ∀ (m i : Nat) (a : β), I i a → i ≤ xs.length → xs.length - i < m → R m i a = kt ((xs.drop i).foldl f a)
  | 0, i, _, _, _, h => absurd h (by omega)
  | m + 1, i, a, ha, hi, hm => by
    by_cases h : i < xs.length
    · rw [hs m i a h ha, idx_fold hs hI he m (i + 1) _ (hI i a h ha) (by omega) (by omega), List.drop_eq_getElem_cons h, List.foldl_cons, getD_lt z h]
    · have : i = xs.length := by omega
      subst this
      rw [he m a ha, List.drop_length]; rfl
theorem take_one {l : List α} {i : Nat} (z : α) (h : i < l.length) : l.take i ++ [l.getD i z] = l.take (i + 1) := by
  rw [List.take_add_one, List.getElem?_eq_getElem h, getD_lt z h]; rfl
/-- What is so, picked out. -/
theorem idx_filter {R : Nat → Int → List α → ρ} {kt : ρ} {l : List α} (p : α → Bool) (z : α)
    (hs : ∀ m (i : Nat), i < l.length → R (m + 1) i ((l.take i).filter p) = R m ((i + 1 : Nat) : Int) (bif p (l.getD i z) then (l.take i).filter p ++ [l.getD i z] else (l.take i).filter p))
    (he : ∀ m, R (m + 1) (l.length : Nat) (l.filter p) = kt) : ∀ (m i : Nat), i ≤ l.length → l.length - i < m → R m i ((l.take i).filter p) = kt
  | 0, i, _, h => absurd h (by omega)
  | m + 1, i, hi, hm => by
    by_cases h : i < l.length
    · have e : (bif p (l.getD i z) then (l.take i).filter p ++ [l.getD i z] else (l.take i).filter p) = (l.take (i + 1)).filter p := by
        rw [← take_one z h, List.filter_append]
        cases hp : p (l.getD i z) with
        | true => rw [cond_true, List.filter_cons_of_pos hp]; rfl
        | false => rw [cond_false, List.filter_cons_of_neg (by rw [hp]; simp)]; simp
      rw [hs m i h, e]
      exact idx_filter p z hs he m (i + 1) (by omega) (by omega)
    · obtain rfl : i = l.length := by omega
      rw [List.take_length]; exact he m
/-- Some elements written over, in place. -/
theorem idx_set {R : Nat → Int → List α → ρ} {kt : List α → ρ} {z y : α} {p : α → Bool} {n : Nat}
    (hs : ∀ m (i : Nat) (o : List α), o.length = n → i < n → R (m + 1) i o = R m ((i + 1 : Nat) : Int) (bif p (o.getD i z) then o.set i y else o))
    (he : ∀ m o, o.length = n → R (m + 1) (n : Nat) o = kt o) : ∀ (m i : Nat) (o : List α), o.length = n → i ≤ n → n - i < m → R m i o = kt (o.take i ++ (o.drop i).map (fun e => bif p e then y else e))
  | 0, i, o, _, _, h => absurd h (by omega)
  | m + 1, i, o, ho, hi, hm => by
    by_cases h : i < n
    · rw [hs m i o ho h, idx_set hs he m (i + 1) _ (by cases p (o.getD i z) <;> simp [ho]) (by omega) (by omega)]
      congr 1
      have h' : i < o.length := by omega
      rw [List.drop_eq_getElem_cons h', List.map_cons, getD_lt z h']
      cases hp : p o[i] with
      | true =>
        simp only [cond_true]
        rw [List.drop_set_of_lt (by omega), List.take_add_one, List.take_set_of_le (Nat.le_refl _)]
        simp [h']
      | false =>
        simp only [cond_false]
        rw [← take_one z h', getD_lt z h', List.append_assoc]; rfl
    · obtain rfl : i = n := by omega
      rw [he m o ho, List.take_of_length_le (by omega), List.drop_eq_nil_of_le (by omega)]
      simp
def idxF {α : Type} (p : α → Bool) (l : List α) : Int := match l.findIdx? p with
  | some i => (i : Nat)
  | none => -1
theorem idxF_any {α : Type} (p : α → Bool) (l : List α) : decide (idxF p l ≥ 0) = l.any p := by
  unfold idxF
  cases h : l.findIdx? p with
  | none =>
    rw [List.findIdx?_eq_none_iff] at h
    rw [show l.any p = false from List.any_eq_false.2 (fun x hx => by rw [h x hx]; simp)]; rfl
  | some i =>
    rw [List.findIdx?_eq_some_iff_getElem] at h
    obtain ⟨h1, h2, _⟩ := h
    rw [show l.any p = true from List.any_eq_true.2 ⟨l[i], List.getElem_mem h1, h2⟩]
    exact decide_eq_true (show ((i : Nat) : Int) ≥ 0 by omega)
end
end Go.Ev
end
section
/- Events and outputs, as numbers and lists. -/
set_option linter.unusedVariables false
namespace Go.Ev
open Go.RowKit
theorem idx_allN {ρ : Type} {R : Nat → Int → ρ} {p : Nat → Bool} {kt kf : ρ} {n : Nat}
    (hs : ∀ m (i : Nat), i < n → R (m + 1) i = bif p i then R m ((i + 1 : Nat) : Int) else kf)
    (he : ∀ m, R (m + 1) (n : Nat) = kt) : ∀ (m i : Nat), i ≤ n → n - i < m → R m i = bif (List.range' i (n - i)).all p then kt else kf
  | 0, i, _, h => absurd h (by omega)
  | m + 1, i, hi, hm => by
    by_cases h : i < n
    · rw [hs m i h, show n - i = (n - (i + 1)) + 1 by omega, List.range'_succ, List.all_cons]
      cases hp : p i with
      | true => rw [cond_true, idx_allN hs he m (i + 1) (by omega) (by omega)]; rfl
      | false => rfl
    · have : i = n := by omega
      subst this
      rw [he m, Nat.sub_self]; rfl
/-- For all numbers below n. -/
def allN (n : Nat) (p : Nat → Bool) : Bool := (List.range' 0 n).all p
theorem allN_iff {n : Nat} {p : Nat → Bool} : allN n p = true ↔ ∀ i, i < n → p i = true := by
  unfold allN
  rw [List.all_eq_true]
  constructor
  · intro h i hi; exact h i (by simpa using hi)
  · intro h i hi; exact h i (by simpa using hi)
def sessD (s : Int) : Bool := decide (1 ≤ s) && decide (s ≤ 8)
def tickD (n : Int) : Bool := decide (1 ≤ n) && decide (n ≤ 1000)
end Go.Ev
end
section
/- Positions, spans and edits after an edit; stacks. -/
set_option linter.unusedVariables false
namespace Go.Ev
open Go.RowKit
/-! ### Stacks -/
end Go.Ev
end
section
/- What is known of an argument: bytes are bytes, and it is small. -/
set_option linter.unusedVariables false
namespace Go.Ev.Seat
open Go.RowKit
mutual
def fitC : (c : Cc) → c.T → Bool
  | .int .u8, n => isB n
  | .int _, _ => true
  | .bool, _ => true
  | .str, _ => true
  | .sl r, xs => Nat.ble xs.length 1048576 && xs.all (fitR r)
def fitR : (r : Rw) → r.T → Bool
  | .one c, d => fitC c d
  | .cons c r, d => fitC c d.1 && fitR r d.2
end
mutual
theorem fitC_of : (c : Cc) → (d : c.T) → c.wf d → c.lim d = true → fitC c d = true
  | .int k, n, h, _ => by
    cases k <;> simp only [fitC]
    have h' : (Lit.int .u8 n).wf = true := h
    simp only [Lit.wf, Bool.and_eq_true, decide_eq_true_eq] at h'
    have a : IntKind.u8.min = 0 := rfl
    have b : IntKind.u8.max = 255 := rfl
    rw [a, b] at h'
    simp only [isB, Bool.and_eq_true, decide_eq_true_eq]
    exact h'
  | .bool, _, _, _ => rfl
  | .str, _, _, _ => rfl
  | .sl r, xs, h, g => by
    simp only [Cc.lim, Bool.and_eq_true, List.all_eq_true] at g
    simp only [fitC, Bool.and_eq_true, List.all_eq_true]
    exact ⟨g.1, fun x hx => fitR_of r x (h.2 x hx) (g.2 x hx)⟩
theorem fitR_of : (r : Rw) → (d : r.T) → r.wf d → r.lim d = true → fitR r d = true
  | .one c, d, h, g => fitC_of c d h g
  | .cons c r, d, h, g => by
    simp only [Rw.lim, Bool.and_eq_true] at g
    simp only [fitR, Bool.and_eq_true]
    exact ⟨fitC_of c d.1 h.1 g.1, fitR_of r d.2 h.2 g.2⟩
end
theorem take_snoc {α : Type} {l : List α} {i : Nat} (z : α) (hi : i < l.length) : l.take i ++ [l.getD i z] = l.take (i + 1) := by
  rw [List.take_add_one, List.getElem?_eq_getElem hi, List.getD_eq_getElem?_getD, List.getElem?_eq_getElem hi]; rfl
end Go.Ev.Seat
end
section
/- Stacks keep the form of their data. -/
set_option linter.unusedVariables false
namespace Go.Ev.Seat
open Go.RowKit
end Go.Ev.Seat
end
section
/- l_big: its contract. -/
namespace Go.Ev.Seat
open Go.RowKit
set_option maxRecDepth 100000
set_option linter.unusedVariables false
set_option linter.unusedSimpArgs false
noncomputable abbrev E_l_big : Env := En [] [] [] [] false 0 []
noncomputable def T_l_big (code : List Int) (K : Ret → Option Ret) : Option Ret := K ((.s (.bool (decide ((((List.length code) : Nat) : Int) > (1048576 : Int))))), [])
theorem e_l_big (code : List Int) (K : Ret → Option Ret) : evF E_l_big true F.l_big [.l .no bytesR code] K = T_l_big code K := by kernel_rfl
def S_l_big : Sm := S_fnR [.l bytesR] (fun d => true) (fun d => (bl (decide (((d.1.length : Nat) : Int) > 1048576)), []))
theorem v_l_big (code : List Int) (K : Ret → Option Ret) : T_l_big code K = K (bl (decide (((code.length : Nat) : Int) > 1048576)), []) := rfl
theorem okS_l_big : OkFn prog I N.l_big true S_l_big := okN (ok_fn mem0 (l := []) (p := []) (ls := []) (lend := []) (focus := false) (fuel := 0) (give := []) (fn := F.l_big) (by kernel_rfl) (by kernel_rfl) (by kernel_rfl) (by kernel_rfl) (cs := []) (by kernel_rfl) loops0) (S_fnR_of fun d K h => (e_l_big d.1 K).trans (v_l_big d.1 K))
end Go.Ev.Seat
end
section
/- What a drawing function answers: some result of which something holds. -/
set_option linter.unusedVariables false
namespace Go.Ev
section
variable {ρ σ : Type}
/-- Whatever goes on, it goes on with one result, of which P holds. -/
def Dr (P : ρ → Prop) (T : (ρ → σ) → σ) : Prop := ∃ r, P r ∧ ∀ K, T K = K r
variable {P : ρ → Prop}
theorem Dr.leaf {r : ρ} (h : P r) : Dr P (fun K : ρ → σ => K r) := ⟨r, h, fun _ => rfl⟩
theorem Dr.bif {c : Bool} {A B : (ρ → σ) → σ} (h1 : c = true → Dr P A) (h2 : c = false → Dr P B) : Dr P (fun K => bif c then A K else B K) := by
  cases c
  · exact h2 rfl
  · exact h1 rfl
theorem Dr.must {c : Bool} {A B : (ρ → σ) → σ} (h : c = true) (h1 : Dr P A) : Dr P (fun K => bif c then A K else B K) := Dr.bif (fun _ => h1) (fun e => by rw [h] at e; cases e)
theorem Dr.mono {Q : ρ → Prop} {A : (ρ → σ) → σ} (h : Dr P A) (hq : ∀ r, P r → Q r) : Dr Q A := by
  obtain ⟨r, h1, h2⟩ := h
  exact ⟨r, hq r h1, h2⟩
theorem Dr.eq {A B : (ρ → σ) → σ} (h : Dr P B) (e : ∀ K, A K = B K) : Dr P A := by
  obtain ⟨r, h1, h2⟩ := h
  exact ⟨r, h1, fun K => (e K).trans (h2 K)⟩
theorem Dr.b1 {α : Type} {p : α → Prop} {B : (α → σ) → σ} (h : ∃ a, p a ∧ ∀ k, B k = k a) {F : α → (ρ → σ) → σ} (hF : ∀ a, p a → Dr P (F a)) : Dr P (fun K => B (fun a => F a K)) := by
  obtain ⟨a, h1, h2⟩ := h
  exact (hF a h1).eq (fun K => h2 _)
theorem Dr.b2 {α β : Type} {p : α → β → Prop} {B : (α → β → σ) → σ} (h : ∃ a b, p a b ∧ ∀ k, B k = k a b) {F : α → β → (ρ → σ) → σ} (hF : ∀ a b, p a b → Dr P (F a b)) : Dr P (fun K => B (fun a b => F a b K)) := by
  obtain ⟨a, b, h1, h2⟩ := h
  exact (hF a b h1).eq (fun K => h2 _)
theorem Dr.b3 {α β γ : Type} {p : α → β → γ → Prop} {B : (α → β → γ → σ) → σ} (h : ∃ a b c, p a b c ∧ ∀ k, B k = k a b c) {F : α → β → γ → (ρ → σ) → σ} (hF : ∀ a b c, p a b c → Dr P (F a b c)) : Dr P (fun K => B (fun a b c => F a b c K)) := by
  obtain ⟨a, b, c, h1, h2⟩ := h
  exact (hF a b c h1).eq (fun K => h2 _)
theorem Dr.b6 {α β γ δ ε ζ : Type} {p : α → β → γ → δ → ε → ζ → Prop} {B : (α → β → γ → δ → ε → ζ → σ) → σ} (h : ∃ a b c d e f, p a b c d e f ∧ ∀ k, B k = k a b c d e f) {F : α → β → γ → δ → ε → ζ → (ρ → σ) → σ} (hF : ∀ a b c d e f, p a b c d e f → Dr P (F a b c d e f)) : Dr P (fun K => B (fun a b c d e f => F a b c d e f K)) := by
  obtain ⟨a, b, c, d, e, f, h1, h2⟩ := h
  exact (hF a b c d e f h1).eq (fun K => h2 _)
end
theorem Dr.meet {ρ : Type} {P : ρ → Prop} {A : (ρ → Option Ret) → Option Ret} (h : Dr P A) : Dr P (fun K => meet (A K) (A K)) := h.eq (fun K => by classical unfold Go.Ev.meet; rw [if_pos rfl])
/-- A code, a place in it and a seed, of which numbers are drawn; n: how many more may be. -/
def curB (n : Int) (cc : List Int) (ca cs : Int) : Bool := fitB cc && decide (0 ≤ ca) && decide (ca ≤ n) && decide (0 ≤ cs) && decide (cs < 65536)
theorem curB_iff {n : Int} {cc : List Int} {ca cs : Int} : curB n cc ca cs = true ↔ fitB cc = true ∧ 0 ≤ ca ∧ ca ≤ n ∧ 0 ≤ cs ∧ cs < 65536 := by
  unfold curB; simp only [Bool.and_eq_true, decide_eq_true_eq]
  exact ⟨fun ⟨⟨⟨⟨a, b⟩, c⟩, d⟩, e⟩ => ⟨a, b, c, d, e⟩, fun ⟨a, b, c, d, e⟩ => ⟨⟨⟨⟨a, b⟩, c⟩, d⟩, e⟩⟩
def seedD (c : List Int) : Int := 97 + ((c.length : Nat) : Int) % 1000
end Go.Ev
end
section
/- s_l01Open: its contract. -/
namespace Go.Ev.Seat
open Go.RowKit
set_option maxRecDepth 100000
set_option linter.unusedVariables false
set_option linter.unusedSimpArgs false
noncomputable abbrev E_s_l01Open : Env := En [] [] [] [] false 0 []
noncomputable def T_s_l01Open (c : List Int) (K : Ret → Option Ret) : Option Ret := K ((.io [(.l .no bytesR c), (.s (.int .i64 (0 : Int))), (.s (.int .i64 (IntKind.wrap .i64 ((97 : Int) + (Int.tmod (((List.length c) : Nat) : Int) (1000 : Int))))))]), [])
theorem e_s_l01Open (c : List Int) (K : Ret → Option Ret) : evF E_s_l01Open false F.s_l01Open [.l .no bytesR c] K = T_s_l01Open c K := by kernel_rfl
def S_s_l01Open : Sm := S_fnR [.l bytesR] (fun d => fitB d.1) (fun d => (.io [.l .no bytesR d.1, .s (.int .i64 0), .s (.int .i64 (seedD d.1))], []))
theorem v_s_l01Open (c : List Int) (h : (fitB c) = true) (K : Ret → Option Ret) : T_s_l01Open c K = K (.io [.l .no bytesR c, .s (.int .i64 0), .s (.int .i64 (seedD c))], []) := by
  have hl := fitB_len h
  unfold T_s_l01Open seedD
  rw [Int.tmod_eq_emod_of_nonneg (by omega), wrap_in (n := 97 + ((c.length : Nat) : Int) % 1000) (by omega) (by omega)]
theorem okS_s_l01Open : OkFn prog I N.s_l01Open false S_s_l01Open := okN (ok_fn mem0 (l := []) (p := []) (ls := []) (lend := []) (focus := false) (fuel := 0) (give := []) (fn := F.s_l01Open) (by kernel_rfl) (by kernel_rfl) (by kernel_rfl) (by kernel_rfl) (cs := []) (by kernel_rfl) loops0) (S_fnR_of fun d K h => (e_s_l01Open d.1 K).trans (v_s_l01Open d.1 h K))
end Go.Ev.Seat
end
section
/- s_l01Cur_pick: its contract. -/
namespace Go.Ev.Seat
open Go.RowKit
set_option maxRecDepth 100000
set_option linter.unusedVariables false
set_option linter.unusedSimpArgs false
noncomputable abbrev pl_s_l01Cur_pick : List (Nat × Plan × List Nat) := [(4, takes [0, 1, 2, 3, 4, 5, 6, 7, 8, 9], []), (5, takes [0, 1, 2, 3, 4, 5, 6, 7, 8, 9, 10, 11], []), (8, takes [0, 1, 2, 3, 4, 5, 6, 7, 8, 9, 10, 11, 12, 13, 14, 15, 16, 17, 18, 19, 20, 21, 22, 23], [])]
noncomputable abbrev E_s_l01Cur_pick : Env := En [] pl_s_l01Cur_pick [] [] false 0 []
noncomputable def T_s_l01Cur_pick (cc : List Int) (ca : Int) (cs : Int) (n : Int) (K : Ret → Option Ret) : Option Ret := (bif (decide (n < (2 : Int))) then K ((.s (.int .i64 (0 : Int))), [(.io [(.l .no bytesR cc), (.s (.int .i64 ca)), (.s (.int .i64 cs))])]) else (bif (decide (ca < (((List.length cc) : Nat) : Int))) then (bif ((decide ((0 : Int) ≤ ca)) && (decide (ca < (((List.length cc) : Nat) : Int)))) then (bif (!(n == (0 : Int))) then K ((.s (.int .i64 (Int.tmod (IntKind.wrap .i64 (List.getD cc (Int.toNat ca) (0 : Int))) n))), [(.io [(.l .no bytesR cc), (.s (.int .i64 (IntKind.wrap .i64 (ca + (1 : Int))))), (.s (.int .i64 cs))])]) else none) else none) else (bif (decide ((((List.length cc) : Nat) : Int) > (0 : Int))) then (bif (!((((List.length cc) : Nat) : Int) == (0 : Int))) then (bif ((decide ((0 : Int) ≤ (Int.tmod ca (((List.length cc) : Nat) : Int)))) && (decide ((Int.tmod ca (((List.length cc) : Nat) : Int)) < (((List.length cc) : Nat) : Int)))) then (bif (!(n == (0 : Int))) then K ((.s (.int .i64 (Int.tmod (IntKind.wrap .i64 ((IntKind.wrap .i64 (Int.tdiv (Int.tmod (IntKind.wrap .i64 ((IntKind.wrap .i64 (cs * (1103 : Int))) + (12345 : Int))) (65521 : Int)) (7 : Int))) + (IntKind.wrap .i64 (List.getD cc (Int.toNat (Int.tmod ca (((List.length cc) : Nat) : Int))) (0 : Int))))) n))), [(.io [(.l .no bytesR cc), (.s (.int .i64 (IntKind.wrap .i64 (ca + (1 : Int))))), (.s (.int .i64 (Int.tmod (IntKind.wrap .i64 ((IntKind.wrap .i64 (cs * (1103 : Int))) + (12345 : Int))) (65521 : Int))))])]) else none) else none) else none) else (bif (!(n == (0 : Int))) then K ((.s (.int .i64 (Int.tmod (0 : Int) n))), [(.io [(.l .no bytesR cc), (.s (.int .i64 (IntKind.wrap .i64 (ca + (1 : Int))))), (.s (.int .i64 (Int.tmod (IntKind.wrap .i64 ((IntKind.wrap .i64 (cs * (1103 : Int))) + (12345 : Int))) (65521 : Int))))])]) else none))))
theorem e_s_l01Cur_pick (cc : List Int) (ca : Int) (cs : Int) (n : Int) (K : Ret → Option Ret) : evF E_s_l01Cur_pick false F.s_l01Cur_pick [.io [.l .no bytesR cc, .s (.int .i64 ca), .s (.int .i64 cs)], .s (.int .i64 n)] K = T_s_l01Cur_pick cc ca cs n K := by kernel_rfl
theorem x_s_l01Cur_pick (cc : List Int) (ca : Int) (cs : Int) (n : Int) (h : (curB 4000000000000000000 cc ca cs) = true) : ∃ (y : Int) (a : Int) (s : Int), ((0 ≤ y ∧ (2 ≤ n → y < n) ∧ (n < 2 → y = 0)) ∧ 0 ≤ a ∧ a ≤ ca + 1 ∧ 0 ≤ s ∧ s < 65536) ∧ ∀ K : Ret → Option Ret, T_s_l01Cur_pick cc ca cs n K = K (.s (.int .i64 y), [.io [.l .no bytesR cc, .s (.int .i64 a), .s (.int .i64 s)]]) := by
  suffices hd : Dr (fun r : Ret => ∃ (y : Int) (a : Int) (s : Int), ((0 ≤ y ∧ (2 ≤ n → y < n) ∧ (n < 2 → y = 0)) ∧ 0 ≤ a ∧ a ≤ ca + 1 ∧ 0 ≤ s ∧ s < 65536) ∧ r = (.s (.int .i64 y), [.io [.l .no bytesR cc, .s (.int .i64 a), .s (.int .i64 s)]])) (fun K : Ret → Option Ret => T_s_l01Cur_pick cc ca cs n K) by
    obtain ⟨_, ⟨y, a, s, hp, rfl⟩, hk⟩ := hd
    exact ⟨y, a, s, hp, hk⟩
  obtain ⟨h1, h2, h3, h4, h5⟩ := curB_iff.1 h
  have hl := fitB_len h1
  have hb1 := fitB_get h1 ca.toNat
  have hb2 := fitB_get h1 (ca % ((cc.length : Nat) : Int)).toNat
  unfold T_s_l01Cur_pick
  refine Dr.bif (fun c1 => ?_) (fun c1 => ?_)
  · simp only [decide_eq_true_eq] at c1
    exact Dr.leaf ⟨0, ca, cs, ⟨⟨by omega, by omega, by omega⟩, by omega, by omega, by omega, by omega⟩, rfl⟩
  simp only [decide_eq_false_iff_not] at c1
  have e1 : IntKind.wrap .i64 (ca + 1) = ca + 1 := wrap_in (by omega) (by omega)
  have em : ∀ x : Int, 0 ≤ x → Int.tmod x n = x % n := fun x hx => Int.tmod_eq_emod_of_nonneg hx
  have hn : (!(n == (0 : Int))) = true := by simp; omega
  have es : Int.tmod (IntKind.wrap .i64 ((IntKind.wrap .i64 (cs * (1103 : Int))) + (12345 : Int))) (65521 : Int) = (cs * 1103 + 12345) % 65521 := by
    rw [wrap_in (n := cs * 1103) (by omega) (by omega), wrap_in (n := cs * 1103 + 12345) (by omega) (by omega), Int.tmod_eq_emod_of_nonneg (by omega)]
  have fin : ∀ (x s : Int), 0 ≤ x → 0 ≤ s → s < 65536 → (fun r : Ret => ∃ (y : Int) (a : Int) (s : Int), ((0 ≤ y ∧ (2 ≤ n → y < n) ∧ (n < 2 → y = 0)) ∧ 0 ≤ a ∧ a ≤ ca + 1 ∧ 0 ≤ s ∧ s < 65536) ∧ r = (.s (.int .i64 y), [.io [.l .no bytesR cc, .s (.int .i64 a), .s (.int .i64 s)]])) (.s (.int .i64 (x % n)), [.io [.l .no bytesR cc, .s (.int .i64 (ca + 1)), .s (.int .i64 s)]]) := fun x s hx h0 hs => by
    have := Int.emod_nonneg x (show n ≠ 0 by omega)
    have := Int.emod_lt_of_pos x (show 0 < n by omega)
    exact ⟨_, _, _, ⟨⟨by omega, by omega, by omega⟩, by omega, by omega, h0, hs⟩, rfl⟩
  rw [e1, es]
  refine Dr.bif (fun c2 => ?_) (fun c2 => ?_)
  · simp only [decide_eq_true_eq] at c2
    refine Dr.must (by simp; omega) (Dr.must hn ?_)
    rw [wrap_in (n := List.getD cc (Int.toNat ca) 0) (by omega) (by omega), em _ hb1.1]
    exact Dr.leaf (fin _ _ hb1.1 h4 h5)
  · refine Dr.bif (fun c3 => ?_) (fun c3 => ?_)
    · simp only [decide_eq_true_eq] at c3
      have el : Int.tmod ca (((List.length cc) : Nat) : Int) = ca % ((cc.length : Nat) : Int) := Int.tmod_eq_emod_of_nonneg h2
      have := Int.emod_nonneg ca (show ((cc.length : Nat) : Int) ≠ 0 by omega)
      have := Int.emod_lt_of_pos ca (show (0 : Int) < ((cc.length : Nat) : Int) by omega)
      rw [el]
      refine Dr.must (by simp; intro hc; rw [hc] at c3; simp at c3) (Dr.must (by simp; omega) (Dr.must hn ?_))
      rw [Int.tdiv_eq_ediv_of_nonneg (by omega), wrap_in (n := (cs * 1103 + 12345) % 65521 / 7) (by omega) (by omega), wrap_in (n := List.getD cc (Int.toNat (ca % ((cc.length : Nat) : Int))) 0) (by omega) (by omega), wrap_in (n := (cs * 1103 + 12345) % 65521 / 7 + List.getD cc (Int.toNat (ca % ((cc.length : Nat) : Int))) 0) (by omega) (by omega), em _ (by omega)]
      exact Dr.leaf (fin _ _ (by omega) (by omega) (by omega))
    · refine Dr.must hn ?_
      rw [em 0 (by omega)]
      exact Dr.leaf (fin _ _ (by omega) (by omega) (by omega))
noncomputable def g_s_l01Cur_pick (cc : List Int) (ca : Int) (cs : Int) (n : Int) : Int × Int × Int := Classical.epsilon fun g => ((0 ≤ (g).1 ∧ (2 ≤ n → (g).1 < n) ∧ (n < 2 → (g).1 = 0)) ∧ 0 ≤ (g).2.1 ∧ (g).2.1 ≤ ca + 1 ∧ 0 ≤ (g).2.2 ∧ (g).2.2 < 65536) ∧ ∀ K : Ret → Option Ret, T_s_l01Cur_pick cc ca cs n K = K (.s (.int .i64 (g).1), [.io [.l .no bytesR cc, .s (.int .i64 (g).2.1), .s (.int .i64 (g).2.2)]])
theorem gs_s_l01Cur_pick (cc : List Int) (ca : Int) (cs : Int) (n : Int) (h : (curB 4000000000000000000 cc ca cs) = true) : ((0 ≤ (g_s_l01Cur_pick cc ca cs n).1 ∧ (2 ≤ n → (g_s_l01Cur_pick cc ca cs n).1 < n) ∧ (n < 2 → (g_s_l01Cur_pick cc ca cs n).1 = 0)) ∧ 0 ≤ (g_s_l01Cur_pick cc ca cs n).2.1 ∧ (g_s_l01Cur_pick cc ca cs n).2.1 ≤ ca + 1 ∧ 0 ≤ (g_s_l01Cur_pick cc ca cs n).2.2 ∧ (g_s_l01Cur_pick cc ca cs n).2.2 < 65536) ∧ ∀ K : Ret → Option Ret, T_s_l01Cur_pick cc ca cs n K = K (.s (.int .i64 (g_s_l01Cur_pick cc ca cs n).1), [.io [.l .no bytesR cc, .s (.int .i64 (g_s_l01Cur_pick cc ca cs n).2.1), .s (.int .i64 (g_s_l01Cur_pick cc ca cs n).2.2)]]) := by
  obtain ⟨y, a, s, hy, hk⟩ := x_s_l01Cur_pick cc ca cs n h
  exact Classical.epsilon_spec (p := fun g : Int × Int × Int => ((0 ≤ (g).1 ∧ (2 ≤ n → (g).1 < n) ∧ (n < 2 → (g).1 = 0)) ∧ 0 ≤ (g).2.1 ∧ (g).2.1 ≤ ca + 1 ∧ 0 ≤ (g).2.2 ∧ (g).2.2 < 65536) ∧ ∀ K : Ret → Option Ret, T_s_l01Cur_pick cc ca cs n K = K (.s (.int .i64 (g).1), [.io [.l .no bytesR cc, .s (.int .i64 (g).2.1), .s (.int .i64 (g).2.2)]])) ⟨⟨y, a, s⟩, hy, hk⟩
noncomputable def B_s_l01Cur_pick (cc : List Int) (ca : Int) (cs : Int) (n : Int) (k : (Int) → (Int) → (Int) → Option Ret) : Option Ret := bif curB 4000000000000000000 cc ca cs then k (g_s_l01Cur_pick cc ca cs n).1 (g_s_l01Cur_pick cc ca cs n).2.1 (g_s_l01Cur_pick cc ca cs n).2.2 else none
theorem b_s_l01Cur_pick (cc : List Int) (ca : Int) (cs : Int) (n : Int) (h : (curB 4000000000000000000 cc ca cs) = true) : ∃ (y : Int) (a : Int) (s : Int), ((0 ≤ y ∧ (2 ≤ n → y < n) ∧ (n < 2 → y = 0)) ∧ 0 ≤ a ∧ a ≤ ca + 1 ∧ 0 ≤ s ∧ s < 65536) ∧ ∀ k, B_s_l01Cur_pick cc ca cs n k = k y a s :=
  ⟨(g_s_l01Cur_pick cc ca cs n).1, (g_s_l01Cur_pick cc ca cs n).2.1, (g_s_l01Cur_pick cc ca cs n).2.2, (gs_s_l01Cur_pick cc ca cs n h).1, fun k => by unfold B_s_l01Cur_pick; rw [h]; rfl⟩
def SB_s_l01Cur_pick (B : (List Int) → (Int) → (Int) → (Int) → ((Int) → (Int) → (Int) → Option Ret) → Option Ret) : Sm := S_B [.sh (.io (.cons (.l .no bytesR) (.cons (.int .i64) (.cons (.int .i64) .nil)))), .i] (fun d K => B d.1.1 d.1.2.1 d.1.2.2.1 d.2.1 (fun y a s => K (.s (.int .i64 y), [.io [.l .no bytesR d.1.1, .s (.int .i64 a), .s (.int .i64 s)]])))
theorem okS_s_l01Cur_pick : OkFn prog I N.s_l01Cur_pick false (SB_s_l01Cur_pick B_s_l01Cur_pick) := okN (ok_fn mem0 (l := []) (p := pl_s_l01Cur_pick) (ls := []) (lend := []) (focus := false) (fuel := 0) (give := []) (fn := F.s_l01Cur_pick) (by kernel_rfl) (by kernel_rfl) (by kernel_rfl) (by kernel_rfl) (cs := []) (by kernel_rfl) loops0) (S_B_of fun d K q hq => by
  refine (e_s_l01Cur_pick d.1.1 d.1.2.1 d.1.2.2.1 d.2.1 K).trans ?_
  unfold B_s_l01Cur_pick at hq
  cases hp : (curB 4000000000000000000 d.1.1 d.1.2.1 d.1.2.2.1) with
  | false => rw [hp] at hq; cases hq
  | true =>
    rw [hp] at hq
    exact ((gs_s_l01Cur_pick d.1.1 d.1.2.1 d.1.2.2.1 d.2.1 hp).2 K).trans hq)
end Go.Ev.Seat
end
section
/- s_l01Cur_size: its contract. -/
namespace Go.Ev.Seat
open Go.RowKit
set_option maxRecDepth 100000
set_option linter.unusedVariables false
set_option linter.unusedSimpArgs false
noncomputable abbrev ls_s_l01Cur_size : List (Nat × Bool × Sm) := [(N.s_l01Cur_pick, false, (SB_s_l01Cur_pick B_s_l01Cur_pick))]
noncomputable abbrev E_s_l01Cur_size : Env := En ls_s_l01Cur_size [] [] [] false 0 []
noncomputable def T_s_l01Cur_size (cc : List Int) (ca : Int) (cs : Int) (n : Int) (K : Ret → Option Ret) : Option Ret := (B_s_l01Cur_pick cc ca cs (IntKind.wrap .i64 ((if (IntKind.wrap .i64 ((1 : Int) + (IntKind.wrap .i64 (Int.tdiv (((List.length cc) : Nat) : Int) (8 : Int))))) < n then (IntKind.wrap .i64 ((1 : Int) + (IntKind.wrap .i64 (Int.tdiv (((List.length cc) : Nat) : Int) (8 : Int))))) else n) + (1 : Int))) (fun y0 y1 y2 => K ((.s (.int .i64 y0)), [(.io [(.l .no bytesR cc), (.s (.int .i64 y1)), (.s (.int .i64 y2))])])))
theorem e_s_l01Cur_size (cc : List Int) (ca : Int) (cs : Int) (n : Int) (K : Ret → Option Ret) : evF E_s_l01Cur_size false F.s_l01Cur_size [.io [.l .no bytesR cc, .s (.int .i64 ca), .s (.int .i64 cs)], .s (.int .i64 n)] K = T_s_l01Cur_size cc ca cs n K := by kernel_rfl
theorem x_s_l01Cur_size (cc : List Int) (ca : Int) (cs : Int) (n : Int) (h : (curB 3000000000000000000 cc ca cs && (decide (0 ≤ n) && decide (n ≤ 1000000))) = true) : ∃ (y : Int) (a : Int) (s : Int), ((0 ≤ y ∧ y ≤ n ∧ y ≤ 200000) ∧ 0 ≤ a ∧ a ≤ ca + 1 ∧ 0 ≤ s ∧ s < 65536) ∧ ∀ K : Ret → Option Ret, T_s_l01Cur_size cc ca cs n K = K (.s (.int .i64 y), [.io [.l .no bytesR cc, .s (.int .i64 a), .s (.int .i64 s)]]) := by
  suffices hd : Dr (fun r : Ret => ∃ (y : Int) (a : Int) (s : Int), ((0 ≤ y ∧ y ≤ n ∧ y ≤ 200000) ∧ 0 ≤ a ∧ a ≤ ca + 1 ∧ 0 ≤ s ∧ s < 65536) ∧ r = (.s (.int .i64 y), [.io [.l .no bytesR cc, .s (.int .i64 a), .s (.int .i64 s)]])) (fun K : Ret → Option Ret => T_s_l01Cur_size cc ca cs n K) by
    obtain ⟨_, ⟨y, a, s, hp, rfl⟩, hk⟩ := hd
    exact ⟨y, a, s, hp, hk⟩
  obtain ⟨h, hpre⟩ := (Bool.and_eq_true _ _).mp h
  obtain ⟨hf, h2, h3, h4, h5⟩ := curB_iff.1 h
  have hl := fitB_len hf
  simp only [Bool.and_eq_true, decide_eq_true_eq] at hpre
  have e8 : Int.tdiv (((List.length cc) : Nat) : Int) 8 = ((cc.length : Nat) : Int) / 8 := Int.tdiv_eq_ediv_of_nonneg (by omega)
  unfold T_s_l01Cur_size
  rw [e8, wrap_in (n := ((cc.length : Nat) : Int) / 8) (by omega) (by omega), wrap_in (n := 1 + ((cc.length : Nat) : Int) / 8) (by omega) (by omega)]
  obtain ⟨m, hm, hm0, hm1, hm2⟩ : ∃ m : Int, (if 1 + ((cc.length : Nat) : Int) / 8 < n then 1 + ((cc.length : Nat) : Int) / 8 else n) = m ∧ 0 ≤ m ∧ m ≤ n ∧ m ≤ 1 + ((cc.length : Nat) : Int) / 8 := by
    by_cases q : 1 + ((cc.length : Nat) : Int) / 8 < n
    · rw [if_pos q]; exact ⟨_, rfl, by omega, by omega, by omega⟩
    · rw [if_neg q]; exact ⟨_, rfl, by omega, by omega, by omega⟩
  rw [hm, wrap_in (n := m + 1) (by omega) (by omega)]
  repeat' first
    | exact Dr.leaf ⟨_, _, _, ⟨by omega, by omega, by omega, by omega, by omega⟩, rfl⟩
    | refine Dr.b3 (b_s_l01Cur_pick _ _ _ _ (curB_iff.2 ⟨hf, by omega, by omega, by omega, by omega⟩)) (fun _ _ _ hy => ?_)
    | refine Dr.meet ?_
    | simp (disch := omega) only [wrap_in]
    | refine Dr.must (by first | rfl | (simp only [List.length_cons, List.length_nil, BEq.rfl, Bool.true_and, Bool.and_eq_true, decide_eq_true_eq]; omega)) ?_
    | refine Dr.bif (fun hb => ?_) (fun hb => ?_)
noncomputable def g_s_l01Cur_size (cc : List Int) (ca : Int) (cs : Int) (n : Int) : Int × Int × Int := Classical.epsilon fun g => ((0 ≤ (g).1 ∧ (g).1 ≤ n ∧ (g).1 ≤ 200000) ∧ 0 ≤ (g).2.1 ∧ (g).2.1 ≤ ca + 1 ∧ 0 ≤ (g).2.2 ∧ (g).2.2 < 65536) ∧ ∀ K : Ret → Option Ret, T_s_l01Cur_size cc ca cs n K = K (.s (.int .i64 (g).1), [.io [.l .no bytesR cc, .s (.int .i64 (g).2.1), .s (.int .i64 (g).2.2)]])
theorem gs_s_l01Cur_size (cc : List Int) (ca : Int) (cs : Int) (n : Int) (h : (curB 3000000000000000000 cc ca cs && (decide (0 ≤ n) && decide (n ≤ 1000000))) = true) : ((0 ≤ (g_s_l01Cur_size cc ca cs n).1 ∧ (g_s_l01Cur_size cc ca cs n).1 ≤ n ∧ (g_s_l01Cur_size cc ca cs n).1 ≤ 200000) ∧ 0 ≤ (g_s_l01Cur_size cc ca cs n).2.1 ∧ (g_s_l01Cur_size cc ca cs n).2.1 ≤ ca + 1 ∧ 0 ≤ (g_s_l01Cur_size cc ca cs n).2.2 ∧ (g_s_l01Cur_size cc ca cs n).2.2 < 65536) ∧ ∀ K : Ret → Option Ret, T_s_l01Cur_size cc ca cs n K = K (.s (.int .i64 (g_s_l01Cur_size cc ca cs n).1), [.io [.l .no bytesR cc, .s (.int .i64 (g_s_l01Cur_size cc ca cs n).2.1), .s (.int .i64 (g_s_l01Cur_size cc ca cs n).2.2)]]) := by
  obtain ⟨y, a, s, hy, hk⟩ := x_s_l01Cur_size cc ca cs n h
  exact Classical.epsilon_spec (p := fun g : Int × Int × Int => ((0 ≤ (g).1 ∧ (g).1 ≤ n ∧ (g).1 ≤ 200000) ∧ 0 ≤ (g).2.1 ∧ (g).2.1 ≤ ca + 1 ∧ 0 ≤ (g).2.2 ∧ (g).2.2 < 65536) ∧ ∀ K : Ret → Option Ret, T_s_l01Cur_size cc ca cs n K = K (.s (.int .i64 (g).1), [.io [.l .no bytesR cc, .s (.int .i64 (g).2.1), .s (.int .i64 (g).2.2)]])) ⟨⟨y, a, s⟩, hy, hk⟩
noncomputable def B_s_l01Cur_size (cc : List Int) (ca : Int) (cs : Int) (n : Int) (k : (Int) → (Int) → (Int) → Option Ret) : Option Ret := bif curB 3000000000000000000 cc ca cs && (decide (0 ≤ n) && decide (n ≤ 1000000)) then k (g_s_l01Cur_size cc ca cs n).1 (g_s_l01Cur_size cc ca cs n).2.1 (g_s_l01Cur_size cc ca cs n).2.2 else none
theorem b_s_l01Cur_size (cc : List Int) (ca : Int) (cs : Int) (n : Int) (h : (curB 3000000000000000000 cc ca cs && (decide (0 ≤ n) && decide (n ≤ 1000000))) = true) : ∃ (y : Int) (a : Int) (s : Int), ((0 ≤ y ∧ y ≤ n ∧ y ≤ 200000) ∧ 0 ≤ a ∧ a ≤ ca + 1 ∧ 0 ≤ s ∧ s < 65536) ∧ ∀ k, B_s_l01Cur_size cc ca cs n k = k y a s :=
  ⟨(g_s_l01Cur_size cc ca cs n).1, (g_s_l01Cur_size cc ca cs n).2.1, (g_s_l01Cur_size cc ca cs n).2.2, (gs_s_l01Cur_size cc ca cs n h).1, fun k => by unfold B_s_l01Cur_size; rw [h]; rfl⟩
def SB_s_l01Cur_size (B : (List Int) → (Int) → (Int) → (Int) → ((Int) → (Int) → (Int) → Option Ret) → Option Ret) : Sm := S_B [.sh (.io (.cons (.l .no bytesR) (.cons (.int .i64) (.cons (.int .i64) .nil)))), .i] (fun d K => B d.1.1 d.1.2.1 d.1.2.2.1 d.2.1 (fun y a s => K (.s (.int .i64 y), [.io [.l .no bytesR d.1.1, .s (.int .i64 a), .s (.int .i64 s)]])))
theorem okS_s_l01Cur_size : OkFn prog I N.s_l01Cur_size false (SB_s_l01Cur_size B_s_l01Cur_size) := okN (ok_fn (memc okS_s_l01Cur_pick mem0) (l := ls_s_l01Cur_size) (p := []) (ls := []) (lend := []) (focus := false) (fuel := 0) (give := []) (fn := F.s_l01Cur_size) (by kernel_rfl) (by kernel_rfl) (by kernel_rfl) (by kernel_rfl) (cs := []) (by kernel_rfl) loops0) (S_B_of fun d K q hq => by
  refine (e_s_l01Cur_size d.1.1 d.1.2.1 d.1.2.2.1 d.2.1 K).trans ?_
  unfold B_s_l01Cur_size at hq
  cases hp : (curB 3000000000000000000 d.1.1 d.1.2.1 d.1.2.2.1 && (decide (0 ≤ d.2.1) && decide (d.2.1 ≤ 1000000))) with
  | false => rw [hp] at hq; cases hq
  | true =>
    rw [hp] at hq
    exact ((gs_s_l01Cur_size d.1.1 d.1.2.1 d.1.2.2.1 d.2.1 hp).2 K).trans hq)
end Go.Ev.Seat
end
section
/- s_l01Cur_lease: its contract. -/
namespace Go.Ev.Seat
open Go.RowKit
set_option maxRecDepth 100000
set_option linter.unusedVariables false
set_option linter.unusedSimpArgs false
noncomputable abbrev ls_s_l01Cur_lease : List (Nat × Bool × Sm) := [(N.s_l01Cur_pick, false, (SB_s_l01Cur_pick B_s_l01Cur_pick))]
noncomputable abbrev E_s_l01Cur_lease : Env := En ls_s_l01Cur_lease [] [] [] false 0 []
noncomputable def T_s_l01Cur_lease (cc : List Int) (ca : Int) (cs : Int) (K : Ret → Option Ret) : Option Ret := (B_s_l01Cur_pick cc ca cs (20 : Int) (fun y0 y1 y2 => (B_s_l01Cur_pick cc y1 y2 (6 : Int) (fun y3 y4 y5 => (B_s_l01Cur_pick cc y4 y5 (3 : Int) (fun y6 y7 y8 => (B_s_l01Cur_pick cc y7 y8 (12 : Int) (fun y9 y10 y11 => K ((.a [(.s (.int .i64 y0)), (.s (.int .i64 (IntKind.wrap .i64 ((IntKind.wrap .i64 (y0 + (1 : Int))) + y3)))), (.s (.int .i64 (IntKind.wrap .i64 ((1 : Int) + y6)))), (.s (.int .i64 (IntKind.wrap .i64 ((1 : Int) + y9))))]), [(.io [(.l .no bytesR cc), (.s (.int .i64 y10)), (.s (.int .i64 y11))])])))))))))
theorem e_s_l01Cur_lease (cc : List Int) (ca : Int) (cs : Int) (K : Ret → Option Ret) : evF E_s_l01Cur_lease false F.s_l01Cur_lease [.io [.l .no bytesR cc, .s (.int .i64 ca), .s (.int .i64 cs)]] K = T_s_l01Cur_lease cc ca cs K := by kernel_rfl
theorem x_s_l01Cur_lease (cc : List Int) (ca : Int) (cs : Int) (h : (curB 2000000000000000000 cc ca cs) = true) : ∃ (y0 : Int) (y1 : Int) (y2 : Int) (y3 : Int) (a : Int) (s : Int), (0 ≤ a ∧ a ≤ ca + 4 ∧ 0 ≤ s ∧ s < 65536) ∧ ∀ K : Ret → Option Ret, T_s_l01Cur_lease cc ca cs K = K (.a [.s (.int .i64 y0), .s (.int .i64 y1), .s (.int .i64 y2), .s (.int .i64 y3)], [.io [.l .no bytesR cc, .s (.int .i64 a), .s (.int .i64 s)]]) := by
  suffices hd : Dr (fun r : Ret => ∃ (y0 : Int) (y1 : Int) (y2 : Int) (y3 : Int) (a : Int) (s : Int), (0 ≤ a ∧ a ≤ ca + 4 ∧ 0 ≤ s ∧ s < 65536) ∧ r = (.a [.s (.int .i64 y0), .s (.int .i64 y1), .s (.int .i64 y2), .s (.int .i64 y3)], [.io [.l .no bytesR cc, .s (.int .i64 a), .s (.int .i64 s)]])) (fun K : Ret → Option Ret => T_s_l01Cur_lease cc ca cs K) by
    obtain ⟨_, ⟨y0, y1, y2, y3, a, s, hp, rfl⟩, hk⟩ := hd
    exact ⟨y0, y1, y2, y3, a, s, hp, hk⟩
  obtain ⟨hf, h2, h3, h4, h5⟩ := curB_iff.1 h
  have hl := fitB_len hf
  unfold T_s_l01Cur_lease
  repeat' first
    | exact Dr.leaf ⟨_, _, _, _, _, _, ⟨by omega, by omega, by omega, by omega⟩, rfl⟩
    | refine Dr.b3 (b_s_l01Cur_pick _ _ _ _ (curB_iff.2 ⟨hf, by omega, by omega, by omega, by omega⟩)) (fun _ _ _ hy => ?_)
    | refine Dr.meet ?_
    | simp (disch := omega) only [wrap_in]
    | refine Dr.must (by first | rfl | (simp only [List.length_cons, List.length_nil, BEq.rfl, Bool.true_and, Bool.and_eq_true, decide_eq_true_eq]; omega)) ?_
    | refine Dr.bif (fun hb => ?_) (fun hb => ?_)
noncomputable def g_s_l01Cur_lease (cc : List Int) (ca : Int) (cs : Int) : Int × Int × Int × Int × Int × Int := Classical.epsilon fun g => (0 ≤ (g).2.2.2.2.1 ∧ (g).2.2.2.2.1 ≤ ca + 4 ∧ 0 ≤ (g).2.2.2.2.2 ∧ (g).2.2.2.2.2 < 65536) ∧ ∀ K : Ret → Option Ret, T_s_l01Cur_lease cc ca cs K = K (.a [.s (.int .i64 (g).1), .s (.int .i64 (g).2.1), .s (.int .i64 (g).2.2.1), .s (.int .i64 (g).2.2.2.1)], [.io [.l .no bytesR cc, .s (.int .i64 (g).2.2.2.2.1), .s (.int .i64 (g).2.2.2.2.2)]])
theorem gs_s_l01Cur_lease (cc : List Int) (ca : Int) (cs : Int) (h : (curB 2000000000000000000 cc ca cs) = true) : (0 ≤ (g_s_l01Cur_lease cc ca cs).2.2.2.2.1 ∧ (g_s_l01Cur_lease cc ca cs).2.2.2.2.1 ≤ ca + 4 ∧ 0 ≤ (g_s_l01Cur_lease cc ca cs).2.2.2.2.2 ∧ (g_s_l01Cur_lease cc ca cs).2.2.2.2.2 < 65536) ∧ ∀ K : Ret → Option Ret, T_s_l01Cur_lease cc ca cs K = K (.a [.s (.int .i64 (g_s_l01Cur_lease cc ca cs).1), .s (.int .i64 (g_s_l01Cur_lease cc ca cs).2.1), .s (.int .i64 (g_s_l01Cur_lease cc ca cs).2.2.1), .s (.int .i64 (g_s_l01Cur_lease cc ca cs).2.2.2.1)], [.io [.l .no bytesR cc, .s (.int .i64 (g_s_l01Cur_lease cc ca cs).2.2.2.2.1), .s (.int .i64 (g_s_l01Cur_lease cc ca cs).2.2.2.2.2)]]) := by
  obtain ⟨y0, y1, y2, y3, a, s, hy, hk⟩ := x_s_l01Cur_lease cc ca cs h
  exact Classical.epsilon_spec (p := fun g : Int × Int × Int × Int × Int × Int => (0 ≤ (g).2.2.2.2.1 ∧ (g).2.2.2.2.1 ≤ ca + 4 ∧ 0 ≤ (g).2.2.2.2.2 ∧ (g).2.2.2.2.2 < 65536) ∧ ∀ K : Ret → Option Ret, T_s_l01Cur_lease cc ca cs K = K (.a [.s (.int .i64 (g).1), .s (.int .i64 (g).2.1), .s (.int .i64 (g).2.2.1), .s (.int .i64 (g).2.2.2.1)], [.io [.l .no bytesR cc, .s (.int .i64 (g).2.2.2.2.1), .s (.int .i64 (g).2.2.2.2.2)]])) ⟨⟨y0, y1, y2, y3, a, s⟩, hy, hk⟩
noncomputable def B_s_l01Cur_lease (cc : List Int) (ca : Int) (cs : Int) (k : (Int) → (Int) → (Int) → (Int) → (Int) → (Int) → Option Ret) : Option Ret := bif curB 2000000000000000000 cc ca cs then k (g_s_l01Cur_lease cc ca cs).1 (g_s_l01Cur_lease cc ca cs).2.1 (g_s_l01Cur_lease cc ca cs).2.2.1 (g_s_l01Cur_lease cc ca cs).2.2.2.1 (g_s_l01Cur_lease cc ca cs).2.2.2.2.1 (g_s_l01Cur_lease cc ca cs).2.2.2.2.2 else none
theorem b_s_l01Cur_lease (cc : List Int) (ca : Int) (cs : Int) (h : (curB 2000000000000000000 cc ca cs) = true) : ∃ (y0 : Int) (y1 : Int) (y2 : Int) (y3 : Int) (a : Int) (s : Int), (0 ≤ a ∧ a ≤ ca + 4 ∧ 0 ≤ s ∧ s < 65536) ∧ ∀ k, B_s_l01Cur_lease cc ca cs k = k y0 y1 y2 y3 a s :=
  ⟨(g_s_l01Cur_lease cc ca cs).1, (g_s_l01Cur_lease cc ca cs).2.1, (g_s_l01Cur_lease cc ca cs).2.2.1, (g_s_l01Cur_lease cc ca cs).2.2.2.1, (g_s_l01Cur_lease cc ca cs).2.2.2.2.1, (g_s_l01Cur_lease cc ca cs).2.2.2.2.2, (gs_s_l01Cur_lease cc ca cs h).1, fun k => by unfold B_s_l01Cur_lease; rw [h]; rfl⟩
def SB_s_l01Cur_lease (B : (List Int) → (Int) → (Int) → ((Int) → (Int) → (Int) → (Int) → (Int) → (Int) → Option Ret) → Option Ret) : Sm := S_B [.sh (.io (.cons (.l .no bytesR) (.cons (.int .i64) (.cons (.int .i64) .nil))))] (fun d K => B d.1.1 d.1.2.1 d.1.2.2.1 (fun y0 y1 y2 y3 a s => K (.a [.s (.int .i64 y0), .s (.int .i64 y1), .s (.int .i64 y2), .s (.int .i64 y3)], [.io [.l .no bytesR d.1.1, .s (.int .i64 a), .s (.int .i64 s)]])))
theorem okS_s_l01Cur_lease : OkFn prog I N.s_l01Cur_lease false (SB_s_l01Cur_lease B_s_l01Cur_lease) := okN (ok_fn (memc okS_s_l01Cur_pick mem0) (l := ls_s_l01Cur_lease) (p := []) (ls := []) (lend := []) (focus := false) (fuel := 0) (give := []) (fn := F.s_l01Cur_lease) (by kernel_rfl) (by kernel_rfl) (by kernel_rfl) (by kernel_rfl) (cs := []) (by kernel_rfl) loops0) (S_B_of fun d K q hq => by
  refine (e_s_l01Cur_lease d.1.1 d.1.2.1 d.1.2.2.1 K).trans ?_
  unfold B_s_l01Cur_lease at hq
  cases hp : (curB 2000000000000000000 d.1.1 d.1.2.1 d.1.2.2.1) with
  | false => rw [hp] at hq; cases hq
  | true =>
    rw [hp] at hq
    exact ((gs_s_l01Cur_lease d.1.1 d.1.2.1 d.1.2.2.1 hp).2 K).trans hq)
end Go.Ev.Seat
end
section
/- Leases and documents: when they are valid. -/
set_option linter.unusedVariables false
namespace Go.Ev
open Go.RowKit
abbrev L4 : Type := Int × Int × Int × Int
def leaseOkD (l : L4) : Bool := decide (0 ≤ l.1) && decide (l.1 ≤ l.2.1) && decide (l.2.1 ≤ 400) && sessD l.2.2.1 && tickD l.2.2.2
/-- Is a ahead of b? -/
def lessD (a b : L4) : Bool := bif a.1 != b.1 then decide (a.1 < b.1) else bif a.2.1 != b.2.1 then decide (a.2.1 < b.2.1) else decide (a.2.2.1 < b.2.2.1)
def sgn (a b : Int) : Int := bif decide (a < b) then -1 else bif decide (a > b) then 1 else 0
def cmpD (a b : L4) : Int := bif sgn a.1 b.1 != 0 then sgn a.1 b.1 else bif sgn a.2.1 b.2.1 != 0 then sgn a.2.1 b.2.1 else sgn a.2.2.1 b.2.2.1
theorem sgn_cases (a b : Int) : (a < b ∧ sgn a b = -1) ∨ (a = b ∧ sgn a b = 0) ∨ (b < a ∧ sgn a b = 1) := by
  unfold sgn
  by_cases h1 : a < b
  · rw [decide_eq_true h1]; exact .inl ⟨h1, rfl⟩
  · rw [decide_eq_false h1]
    by_cases h2 : a > b
    · rw [decide_eq_true h2]; exact .inr (.inr ⟨h2, rfl⟩)
    · rw [decide_eq_false h2]; exact .inr (.inl ⟨by omega, rfl⟩)
theorem bne_t {a b : Int} (h : a ≠ b) : (a != b) = true := bne_iff_ne.2 h
theorem bne_f {a b : Int} (h : a = b) : (a != b) = false := by simp [h]
theorem cmpD_neg (a b : L4) : decide (cmpD a b ≥ 0) = !lessD a b := by
  unfold cmpD lessD
  rcases sgn_cases a.1 b.1 with ⟨h1, e1⟩ | ⟨h1, e1⟩ | ⟨h1, e1⟩
  · rw [e1, bne_t (show a.1 ≠ b.1 by omega), decide_eq_true (show a.1 < b.1 from h1)]; rfl
  · rw [e1, bne_f h1]
    rcases sgn_cases a.2.1 b.2.1 with ⟨h2, e2⟩ | ⟨h2, e2⟩ | ⟨h2, e2⟩
    · rw [e2, bne_t (show a.2.1 ≠ b.2.1 by omega), decide_eq_true (show a.2.1 < b.2.1 from h2)]; rfl
    · rw [e2, bne_f h2]
      rcases sgn_cases a.2.2.1 b.2.2.1 with ⟨h3, e3⟩ | ⟨h3, e3⟩ | ⟨h3, e3⟩
      · rw [e3, decide_eq_true (show a.2.2.1 < b.2.2.1 from h3)]; rfl
      · rw [e3, decide_eq_false (show ¬ a.2.2.1 < b.2.2.1 by omega)]; rfl
      · rw [e3, decide_eq_false (show ¬ a.2.2.1 < b.2.2.1 by omega)]; rfl
    · rw [e2, bne_t (show a.2.1 ≠ b.2.1 by omega), decide_eq_false (show ¬ a.2.1 < b.2.1 by omega)]; rfl
  · rw [e1, bne_t (show a.1 ≠ b.1 by omega), decide_eq_false (show ¬ a.1 < b.1 by omega)]; rfl
def zeroL : L4 := (0, 0, 0, 0)
def leaseAtD (l : List L4) (i : Nat) : Bool := leaseOkD (l.getD i zeroL) && (Nat.beq i 0 || lessD (l.getD (i - 1) zeroL) (l.getD i zeroL))
def leasesOkD (l : List L4) : Bool := decide (((l.length : Nat) : Int) ≤ 12) && allN l.length (leaseAtD l)
def clockD (n : Int) : Bool := decide (0 ≤ n) && decide (n ≤ 1000)
/-- Have two leases a place in common? -/
def meetD (a b : L4) : Bool := decide (max a.1 b.1 < min a.2.1 b.2.1)
theorem meetD_four (a b : L4) : (decide (a.1 < b.2.1) && decide (b.1 < a.2.1) && decide (a.1 < a.2.1) && decide (b.1 < b.2.1)) = meetD a b := by
  unfold meetD
  rw [Bool.eq_iff_iff]
  simp only [Bool.and_eq_true, decide_eq_true_eq]
  omega
def orD (l : List Int) : Int := (l.find? (fun c => c != 0)).getD 0
end Go.Ev
end
section
/- s_l07Right: its contract. -/
namespace Go.Ev.Seat
open Go.RowKit
set_option maxRecDepth 100000
set_option linter.unusedVariables false
set_option linter.unusedSimpArgs false
noncomputable abbrev E_s_l07Right : Env := En [] [] [] [] false 0 []
noncomputable def T_s_l07Right (l : T_Lease) (K : Ret → Option Ret) : Option Ret := (bif (decide (l.1 ≥ (0 : Int))) then (bif (decide (l.1 ≤ l.2.1)) then (bif (decide (l.2.1 ≤ (400 : Int))) then (bif (decide (l.2.2.1 ≥ (1 : Int))) then (bif (decide (l.2.2.1 ≤ (8 : Int))) then (bif (decide (l.2.2.2 ≥ (1 : Int))) then K ((.s (.bool (decide (l.2.2.2 ≤ (1000 : Int))))), []) else K ((.s (.bool false)), [])) else K ((.s (.bool false)), [])) else K ((.s (.bool false)), [])) else K ((.s (.bool false)), [])) else K ((.s (.bool false)), [])) else K ((.s (.bool false)), []))
theorem e_s_l07Right (l : T_Lease) (K : Ret → Option Ret) : evF E_s_l07Right true F.s_l07Right [.a (leaseR.cells .no l)] K = T_s_l07Right l K := by kernel_rfl
def S_s_l07Right : Sm := S_fnR [.a leaseR] (fun d => true) (fun d => (bl (leaseOkD d.1), []))
theorem v_s_l07Right (l : T_Lease) (K : Ret → Option Ret) : T_s_l07Right l K = K (bl (leaseOkD l), []) := by
  unfold T_s_l07Right leaseOkD sessD tickD
  rw [show decide (l.1 ≥ 0) = decide (0 ≤ l.1) from rfl, show decide (l.2.2.1 ≥ 1) = decide (1 ≤ l.2.2.1) from rfl, show decide (l.2.2.2 ≥ 1) = decide (1 ≤ l.2.2.2) from rfl]
  cases decide (0 ≤ l.1) <;> cases decide (l.1 ≤ l.2.1) <;> cases decide (l.2.1 ≤ 400) <;> cases decide (1 ≤ l.2.2.1) <;> cases decide (l.2.2.1 ≤ 8) <;> cases decide (1 ≤ l.2.2.2) <;> rfl
theorem okS_s_l07Right : OkFn prog I N.s_l07Right true S_s_l07Right := okN (ok_fn mem0 (l := []) (p := []) (ls := []) (lend := []) (focus := false) (fuel := 0) (give := []) (fn := F.s_l07Right) (by kernel_rfl) (by kernel_rfl) (by kernel_rfl) (by kernel_rfl) (cs := []) (by kernel_rfl) loops0) (S_fnR_of fun d K h => (e_s_l07Right d.1 K).trans (v_s_l07Right d.1 K))
end Go.Ev.Seat
end
section
/- s_l07Less: its contract. -/
namespace Go.Ev.Seat
open Go.RowKit
set_option maxRecDepth 100000
set_option linter.unusedVariables false
set_option linter.unusedSimpArgs false
noncomputable abbrev E_s_l07Less : Env := En [] [] [] [] false 0 []
noncomputable def T_s_l07Less (a : T_Lease) (b : T_Lease) (K : Ret → Option Ret) : Option Ret := (bif (a.1 != b.1) then K ((.s (.bool (decide (a.1 < b.1)))), []) else (bif (a.2.1 != b.2.1) then K ((.s (.bool (decide (a.2.1 < b.2.1)))), []) else K ((.s (.bool (decide (a.2.2.1 < b.2.2.1)))), [])))
theorem e_s_l07Less (a : T_Lease) (b : T_Lease) (K : Ret → Option Ret) : evF E_s_l07Less true F.s_l07Less [.a (leaseR.cells .no a), .a (leaseR.cells .no b)] K = T_s_l07Less a b K := by kernel_rfl
def S_s_l07Less : Sm := S_fnR [.a leaseR, .a leaseR] (fun d => true) (fun d => (bl (lessD d.1 d.2.1), []))
theorem v_s_l07Less (a : T_Lease) (b : T_Lease) (K : Ret → Option Ret) : T_s_l07Less a b K = K (bl (lessD a b), []) := by
  unfold T_s_l07Less lessD
  cases (a.1 != b.1) <;> cases (a.2.1 != b.2.1) <;> rfl
theorem okS_s_l07Less : OkFn prog I N.s_l07Less true S_s_l07Less := okN (ok_fn mem0 (l := []) (p := []) (ls := []) (lend := []) (focus := false) (fuel := 0) (give := []) (fn := F.s_l07Less) (by kernel_rfl) (by kernel_rfl) (by kernel_rfl) (by kernel_rfl) (cs := []) (by kernel_rfl) loops0) (S_fnR_of fun d K h => (e_s_l07Less d.1 d.2.1 K).trans (v_s_l07Less d.1 d.2.1 K))
end Go.Ev.Seat
end
section
/- s_LeasesOk: its contract. -/
namespace Go.Ev.Seat
open Go.RowKit
set_option maxRecDepth 100000
set_option linter.unusedVariables false
set_option linter.unusedSimpArgs false
def z_s_LeasesOk_4_0 (x2 : Bool) : St := { tm := ([.x, .x, (.s (.bool x2))] ++ List.replicate 33 .x), ob := [], nx := 0, io := [] }
def z_s_LeasesOk_4_1 : St := { tm := ([] ++ List.replicate 36 .x), ob := [], nx := 0, io := [] }
def sh_s_LeasesOk_4_0 : Ss := { tm := (.cons (.l .no leaseR) (.cons (.x) (.cons (.x) (.cons (.int .i64) (xsh 32))))), ob := .nil, nx := 0, io := .nil }
def d_s_LeasesOk_4_0 (x0 : List T_Lease) (x3 : Int) : sh_s_LeasesOk_4_0.T := ((x0, ((), ((), (x3, xd 32)))), (), ())
def s_s_LeasesOk_4_0 (x0 : List T_Lease) (x3 : Int) : St := { tm := ([(.l .no leaseR x0), .x, .x, (.s (.int .i64 x3))] ++ List.replicate 32 .x), ob := [], nx := 0, io := [] }
theorem se_s_LeasesOk_4_0 (x0 : List T_Lease) (x3 : Int) : sh_s_LeasesOk_4_0.mk' (d_s_LeasesOk_4_0 x0 x3) = (s_s_LeasesOk_4_0 x0 x3) := by kernel_rfl
def w_s_LeasesOk_4_0 (d : sh_s_LeasesOk_4_0.T) (f : (List T_Lease) → Int → Option Ret) : Option Ret := match d with | ((x0, (_, (_, (x3, _)))), _, _) => f x0 x3
noncomputable def P_s_LeasesOk_4_0 (x0 : List T_Lease) (x3 : Int) (nx0 : (List T_Lease) → Int → Option Ret) (k0 : Bool → Option Ret) (k1 : Option Ret) : Option Ret := (bif (decide (x3 < (((List.length x0) : Nat) : Int))) then (bif ((decide ((0 : Int) ≤ x3)) && (decide (x3 < (((List.length x0) : Nat) : Int)))) then (bif (!(leaseOkD (List.getD x0 (Int.toNat x3) (leaseR.dflt)))) then (k0 false) else (bif (decide (x3 > (0 : Int))) then (bif ((decide ((0 : Int) ≤ (IntKind.wrap .i64 (x3 - (1 : Int))))) && (decide ((IntKind.wrap .i64 (x3 - (1 : Int))) < (((List.length x0) : Nat) : Int)))) then (bif ((decide ((0 : Int) ≤ x3)) && (decide (x3 < (((List.length x0) : Nat) : Int)))) then (bif (!(lessD (List.getD x0 (Int.toNat (IntKind.wrap .i64 (x3 - (1 : Int)))) (leaseR.dflt)) (List.getD x0 (Int.toNat x3) (leaseR.dflt)))) then (k0 false) else (nx0 x0 (IntKind.wrap .i64 (x3 + (1 : Int))))) else none) else none) else (nx0 x0 (IntKind.wrap .i64 (x3 + (1 : Int)))))) else none) else k1)
noncomputable def Q_s_LeasesOk_4_0 : Nat → (List T_Lease) → Int → (Bool → Option Ret) → (Option Ret) → Option Ret
  | 0, _, _, _, _ => none
  | m + 1, x0, x3, k0, k1 => P_s_LeasesOk_4_0 x0 x3 (fun x0 x3 => (Q_s_LeasesOk_4_0 m x0 x3 k0 k1)) k0 k1
noncomputable def R_s_LeasesOk_4_0 (x0 : List T_Lease) (x3 : Int) (k0 : Bool → Option Ret) (k1 : Option Ret) : Option Ret := Q_s_LeasesOk_4_0 (List.length x0 + x3.toNat + 2) x0 x3 k0 k1
noncomputable def W_s_LeasesOk_4 : LoopFn := (fun (σ : St) (K : Ex → St → Option Ret) => (match sh_s_LeasesOk_4_0.un σ with | some d => w_s_LeasesOk_4_0 d (fun x0 x3 => R_s_LeasesOk_4_0 x0 x3 (fun x2 => (K .ret (z_s_LeasesOk_4_0 x2))) (K (.ext 0) z_s_LeasesOk_4_1)) | none => none))
noncomputable abbrev pl_s_LeasesOk : List (Nat × Plan × List Nat) := [(6, takeB [0, 1, 2, 3] (.fork (.one 4 (takeB [5, 6, 7, 8, 9, 10, 11, 12, 13, 14, 15, 16, 17, 18] (.fork (.one 19 (takes [20, 21, 22])))))), [])]
noncomputable abbrev ls_s_LeasesOk : List (Nat × Bool × Sm) := [(N.s_l07Right, true, S_s_l07Right), (N.s_l07Less, true, S_s_l07Less)]
noncomputable abbrev E_s_LeasesOk : Env := En ls_s_LeasesOk pl_s_LeasesOk [(4, [0,3], [2], W_s_LeasesOk_4)] [] false 0 []
noncomputable abbrev U_s_LeasesOk_4 := rounds (run E_s_LeasesOk (bodyOf F.s_LeasesOk 4)) [0,3] [2]
theorem st_s_LeasesOk_4_0 (m : Nat) (x0 : List T_Lease) (x3 : Int) (K : Ex → St → Option Ret) : U_s_LeasesOk_4 (m + 1) (s_s_LeasesOk_4_0 x0 x3) K = P_s_LeasesOk_4_0 x0 x3 (fun x0 x3 => (U_s_LeasesOk_4 m (s_s_LeasesOk_4_0 x0 x3) K)) (fun x2 => (K .ret (z_s_LeasesOk_4_0 x2))) (K (.ext 0) z_s_LeasesOk_4_1) := by kernel_rfl
theorem q_s_LeasesOk_4 (K : Ex → St → Option Ret) : ∀ m : Nat, (∀ (x0 : List T_Lease) (x3 : Int), U_s_LeasesOk_4 m (s_s_LeasesOk_4_0 x0 x3) K = Q_s_LeasesOk_4_0 m x0 x3 (fun x2 => (K .ret (z_s_LeasesOk_4_0 x2))) (K (.ext 0) z_s_LeasesOk_4_1))
  | 0 => (fun _ _ => rfl)
  | m + 1 => (fun x0 x3 => (by rw [st_s_LeasesOk_4_0, show (fun x0 x3 => (U_s_LeasesOk_4 m (s_s_LeasesOk_4_0 x0 x3) K)) = (fun x0 x3 => (Q_s_LeasesOk_4_0 m x0 x3 (fun x2 => (K .ret (z_s_LeasesOk_4_0 x2))) (K (.ext 0) z_s_LeasesOk_4_1))) from funext fun x0 => funext fun x3 => (q_s_LeasesOk_4 K m) x0 x3]; rfl))
theorem loopK_s_LeasesOk_4 : LoopOk E_s_LeasesOk (bodyOf F.s_LeasesOk 4) := by
  refine loopW_ok (n := 4) (F := W_s_LeasesOk_4) (by kernel_rfl) rfl (li := [0,3]) (lo := [2]) rfl (fun σ K r hr => ?_)
  unfold W_s_LeasesOk_4 at hr
  split at hr
  · rename_i d hd
    rw [Ss.un_mk hd]
    exact ⟨_, ((congrArg (fun z => U_s_LeasesOk_4 _ z K) (se_s_LeasesOk_4_0 _ _)).trans ((q_s_LeasesOk_4 K _) _ _)).trans hr⟩
  · cases hr
noncomputable def T_s_LeasesOk (l : List T_Lease) (K : Ret → Option Ret) : Option Ret := (bif (decide ((((List.length l) : Nat) : Int) > (12 : Int))) then K ((.s (.bool false)), []) else (R_s_LeasesOk_4_0 l (0 : Int) (fun y0 => K ((.s (.bool y0)), [])) (K ((.s (.bool true)), []))))
theorem e_s_LeasesOk (l : List T_Lease) (K : Ret → Option Ret) : evF E_s_LeasesOk true F.s_LeasesOk [.l .no leaseR l] K = T_s_LeasesOk l K := by kernel_rfl
def S_s_LeasesOk : Sm := S_fnR [.l leaseR] (fun d => Nat.ble d.1.length 1048576) (fun d => (bl (leasesOkD d.1), []))
theorem v_s_LeasesOk (l : List T_Lease) (h : (Nat.ble l.length 1048576) = true) (K : Ret → Option Ret) : T_s_LeasesOk l K = K (bl (leasesOkD l), []) := by
  have hl := Nat.le_of_ble_eq_true h
  unfold T_s_LeasesOk leasesOkD
  by_cases h6 : ((l.length : Nat) : Int) ≤ 12
  case neg => rw [decide_eq_false h6, decide_eq_true (show ((l.length : Nat) : Int) > 12 by omega)]; rfl
  rw [decide_eq_true h6, decide_eq_false (show ¬ ((l.length : Nat) : Int) > 12 by omega)]
  have q := idx_allN (R := fun m i => Q_s_LeasesOk_4_0 m l i (fun y0 => K ((.s (.bool y0)), [])) (K ((.s (.bool true)), []))) (p := leaseAtD l) (n := l.length) (kt := K ((.s (.bool true)), [])) (kf := K ((.s (.bool false)), [])) (fun m i hi => by
      show P_s_LeasesOk_4_0 l ((i : Nat) : Int) _ _ _ = _
      unfold P_s_LeasesOk_4_0 leaseAtD
      rw [decide_eq_true (show ((i : Nat) : Int) < ((l.length : Nat) : Int) by omega), decide_eq_true (show (0 : Int) ≤ ((i : Nat) : Int) by omega), Int.toNat_natCast, wrap_nat (by omega), show l.getD i leaseR.dflt = l.getD i zeroL from rfl]
      cases i with
      | zero =>
        rw [decide_eq_false (show ¬ ((0 : Nat) : Int) > 0 by omega)]
        cases leaseOkD (l.getD 0 zeroL) <;> rfl
      | succ i =>
        rw [wrap_in (n := ((i + 1 : Nat) : Int) - 1) (by omega) (by omega), decide_eq_true (show ((i + 1 : Nat) : Int) > 0 by omega), show ((i + 1 : Nat) : Int) - 1 = ((i : Nat) : Int) by omega, decide_eq_true (show (0 : Int) ≤ ((i : Nat) : Int) by omega), decide_eq_true (show ((i : Nat) : Int) < ((l.length : Nat) : Int) by omega), Int.toNat_natCast, show i + 1 - 1 = i from rfl, show l.getD i leaseR.dflt = l.getD i zeroL from rfl]
        cases leaseOkD (l.getD (i + 1) zeroL) <;> cases lessD (l.getD i zeroL) (l.getD (i + 1) zeroL) <;> rfl) (fun m => by
      show P_s_LeasesOk_4_0 l ((l.length : Nat) : Int) _ _ _ = _
      unfold P_s_LeasesOk_4_0
      rw [decide_eq_false (show ¬ ((l.length : Nat) : Int) < ((l.length : Nat) : Int) by omega)]; rfl) (List.length l + (0 : Int).toNat + 2) 0 (by omega) (by omega)
  refine Eq.trans q ?_
  rw [Nat.sub_zero]
  show (bif allN l.length (leaseAtD l) then _ else _) = _
  cases allN l.length (leaseAtD l) <;> rfl
theorem okS_s_LeasesOk : OkFn prog I N.s_LeasesOk true S_s_LeasesOk := okN (ok_fn (memc okS_s_l07Right (memc okS_s_l07Less mem0)) (l := ls_s_LeasesOk) (p := pl_s_LeasesOk) (ls := [(4, [0,3], [2], W_s_LeasesOk_4)]) (lend := []) (focus := false) (fuel := 0) (give := []) (fn := F.s_LeasesOk) (by kernel_rfl) (by kernel_rfl) (by kernel_rfl) (by kernel_rfl) (cs := [bodyOf F.s_LeasesOk 4]) (by kernel_rfl) (loopsc loopK_s_LeasesOk_4 loops0)) (S_fnR_of fun d K h => (e_s_LeasesOk d.1 K).trans (v_s_LeasesOk d.1 h K))
end Go.Ev.Seat
end
section
/- s_l07Clock: its contract. -/
namespace Go.Ev.Seat
open Go.RowKit
set_option maxRecDepth 100000
set_option linter.unusedVariables false
set_option linter.unusedSimpArgs false
noncomputable abbrev E_s_l07Clock : Env := En [] [] [] [] false 0 []
noncomputable def T_s_l07Clock (n : Int) (K : Ret → Option Ret) : Option Ret := (bif (decide (n ≥ (0 : Int))) then K ((.s (.bool (decide (n ≤ (1000 : Int))))), []) else K ((.s (.bool false)), []))
theorem e_s_l07Clock (n : Int) (K : Ret → Option Ret) : evF E_s_l07Clock true F.s_l07Clock [.s (.int .i64 n)] K = T_s_l07Clock n K := by kernel_rfl
def S_s_l07Clock : Sm := S_fnR [.i] (fun d => true) (fun d => (bl (clockD d.1), []))
theorem v_s_l07Clock (n : Int) (K : Ret → Option Ret) : T_s_l07Clock n K = K (bl (clockD n), []) := by
  unfold T_s_l07Clock clockD
  rw [show decide (n ≥ 0) = decide (0 ≤ n) from rfl]
  cases decide (0 ≤ n) <;> rfl
theorem okS_s_l07Clock : OkFn prog I N.s_l07Clock true S_s_l07Clock := okN (ok_fn mem0 (l := []) (p := []) (ls := []) (lend := []) (focus := false) (fuel := 0) (give := []) (fn := F.s_l07Clock) (by kernel_rfl) (by kernel_rfl) (by kernel_rfl) (by kernel_rfl) (cs := []) (by kernel_rfl) loops0) (S_fnR_of fun d K h => (e_s_l07Clock d.1 K).trans (v_s_l07Clock d.1 K))
end Go.Ev.Seat
end
section
/- s_l07Meet: its contract. -/
namespace Go.Ev.Seat
open Go.RowKit
set_option maxRecDepth 100000
set_option linter.unusedVariables false
set_option linter.unusedSimpArgs false
noncomputable abbrev E_s_l07Meet : Env := En [] [] [] [] false 0 []
noncomputable def T_s_l07Meet (a : T_Lease) (b : T_Lease) (K : Ret → Option Ret) : Option Ret := (bif (decide (a.1 < b.2.1)) then (bif (decide (b.1 < a.2.1)) then (bif (decide (a.1 < a.2.1)) then K ((.s (.bool (decide (b.1 < b.2.1)))), []) else K ((.s (.bool false)), [])) else K ((.s (.bool false)), [])) else K ((.s (.bool false)), []))
theorem e_s_l07Meet (a : T_Lease) (b : T_Lease) (K : Ret → Option Ret) : evF E_s_l07Meet true F.s_l07Meet [.a (leaseR.cells .no a), .a (leaseR.cells .no b)] K = T_s_l07Meet a b K := by kernel_rfl
def S_s_l07Meet : Sm := S_fnR [.a leaseR, .a leaseR] (fun d => true) (fun d => (bl (meetD d.1 d.2.1), []))
theorem v_s_l07Meet (a : T_Lease) (b : T_Lease) (K : Ret → Option Ret) : T_s_l07Meet a b K = K (bl (meetD a b), []) := by
  unfold T_s_l07Meet
  rw [← meetD_four]
  cases decide (a.1 < b.2.1) <;> cases decide (b.1 < a.2.1) <;> cases decide (a.1 < a.2.1) <;> rfl
theorem okS_s_l07Meet : OkFn prog I N.s_l07Meet true S_s_l07Meet := okN (ok_fn mem0 (l := []) (p := []) (ls := []) (lend := []) (focus := false) (fuel := 0) (give := []) (fn := F.s_l07Meet) (by kernel_rfl) (by kernel_rfl) (by kernel_rfl) (by kernel_rfl) (cs := []) (by kernel_rfl) loops0) (S_fnR_of fun d K h => (e_s_l07Meet d.1 d.2.1 K).trans (v_s_l07Meet d.1 d.2.1 K))
end Go.Ev.Seat
end
section
/- s_l07One: its contract. -/
namespace Go.Ev.Seat
open Go.RowKit
set_option maxRecDepth 100000
set_option linter.unusedVariables false
set_option linter.unusedSimpArgs false
noncomputable abbrev E_s_l07One : Env := En [] [] [] [] false 0 []
noncomputable def T_s_l07One (a : T_Lease) (b : T_Lease) (K : Ret → Option Ret) : Option Ret := (bif (a.1 == b.1) then (bif (a.2.1 == b.2.1) then K ((.s (.bool (a.2.2.1 == b.2.2.1))), []) else K ((.s (.bool false)), [])) else K ((.s (.bool false)), []))
theorem e_s_l07One (a : T_Lease) (b : T_Lease) (K : Ret → Option Ret) : evF E_s_l07One true F.s_l07One [.a (leaseR.cells .no a), .a (leaseR.cells .no b)] K = T_s_l07One a b K := by kernel_rfl
def S_s_l07One : Sm := S_fnR [.a leaseR, .a leaseR] (fun d => true) (fun d => (bl (d.1.1 == d.2.1.1 && d.1.2.1 == d.2.1.2.1 && d.1.2.2.1 == d.2.1.2.2.1), []))
theorem v_s_l07One (a : T_Lease) (b : T_Lease) (K : Ret → Option Ret) : T_s_l07One a b K = K (bl (a.1 == b.1 && a.2.1 == b.2.1 && a.2.2.1 == b.2.2.1), []) := by
  unfold T_s_l07One
  cases (a.1 == b.1)
  · rfl
  cases (a.2.1 == b.2.1) <;> rfl
theorem okS_s_l07One : OkFn prog I N.s_l07One true S_s_l07One := okN (ok_fn mem0 (l := []) (p := []) (ls := []) (lend := []) (focus := false) (fuel := 0) (give := []) (fn := F.s_l07One) (by kernel_rfl) (by kernel_rfl) (by kernel_rfl) (by kernel_rfl) (cs := []) (by kernel_rfl) loops0) (S_fnR_of fun d K h => (e_s_l07One d.1 d.2.1 K).trans (v_s_l07One d.1 d.2.1 K))
end Go.Ev.Seat
end
section
/- Leases: one put into a list, taken. -/
set_option linter.unusedVariables false
namespace Go.Ev
def oneD (a b : L4) : Bool := a.1 == b.1 && a.2.1 == b.2.1 && a.2.2.1 == b.2.2.1
def putF (s : Bool × L4 × List L4) (e : L4) : Bool × L4 × List L4 :=
  bif oneD e s.2.1 then (s.1, (s.2.1.1, s.2.1.2.1, s.2.1.2.2.1, if e.2.2.2 > s.2.1.2.2.2 then e.2.2.2 else s.2.1.2.2.2), s.2.2)
  else bif !s.1 && lessD s.2.1 e then (true, s.2.1, s.2.2 ++ [zeroL] ++ [e]) else (s.1, s.2.1, s.2.2 ++ [e])
def putE (s : Bool × L4 × List L4) : List L4 := bif !s.1 then s.2.2 ++ [s.2.1] else s.2.2.map (fun e => bif e.2.2.1 == 0 then s.2.1 else e)
/-- A lease put where it belongs. -/
def putD (l : List L4) (x : L4) : List L4 := putE (l.foldl putF (false, x, []))
theorem putF_len (s : Bool × L4 × List L4) (e : L4) : (putF s e).2.2.length + (bif (putF s e).1 then 0 else 1) ≤ s.2.2.length + (bif s.1 then 0 else 1) + 1 := by
  unfold putF
  cases oneD e s.2.1 with
  | true => simp only [cond_true]; omega
  | false =>
    cases s.1 <;> cases lessD s.2.1 e <;> simp <;> omega
theorem putL_len : ∀ (l : List L4) (s : Bool × L4 × List L4), (l.foldl putF s).2.2.length + (bif (l.foldl putF s).1 then 0 else 1) ≤ s.2.2.length + (bif s.1 then 0 else 1) + l.length
  | [], s => by simp
  | e :: l, s => by
    have h1 := putL_len l (putF s e)
    have h2 := putF_len s e
    simp only [List.foldl_cons, List.length_cons]
    omega
theorem putD_len (l : List L4) (x : L4) : (putD l x).length ≤ l.length + 1 := by
  have h := putL_len l (false, x, [])
  unfold putD putE
  cases hs : (l.foldl putF (false, x, [])).1 with
  | false => rw [hs] at h; simp at h ⊢; omega
  | true => rw [hs] at h; simp at h ⊢; omega
def takeD (l : List L4) (x : L4) (n : Int) : List L4 × Int :=
  bif !(leasesOkD l && leaseOkD x && clockD n && (x.1 != x.2.1)) then ([], 1)
  else bif decide (x.2.2.2 ≤ n) then ([], 2)
  else bif l.any (fun o => (o.2.2.1 != x.2.2.1) && decide (o.2.2.2 > n) && meetD o x) then ([], 3)
  else bif decide (idxF (fun o => oneD o x) l ≥ 0) || (((l.length : Nat) : Int) == 12) then ([], 4)
  else (putD l x, 0)
theorem leasesOk_len {l : List L4} (h : leasesOkD l = true) : l.length ≤ 12 := by
  unfold leasesOkD at h
  rw [Bool.and_eq_true, decide_eq_true_iff] at h
  omega
theorem takeD_len (l : List L4) (x : L4) (n : Int) : (takeD l x n).1.length ≤ 13 := by
  unfold takeD
  cases h : leasesOkD l && leaseOkD x && clockD n && (x.1 != x.2.1) with
  | false => exact Nat.zero_le _
  | true =>
    simp only [Bool.and_eq_true] at h
    have hl := leasesOk_len h.1.1.1
    cases decide (x.2.2.2 ≤ n) with
    | true => exact Nat.zero_le _
    | false =>
    cases l.any (fun o => (o.2.2.1 != x.2.2.1) && decide (o.2.2.2 > n) && meetD o x) with
    | true => exact Nat.zero_le _
    | false =>
    cases decide (idxF (fun o => oneD o x) l ≥ 0) || (((l.length : Nat) : Int) == 12) with
    | true => exact Nat.zero_le _
    | false =>
      have := putD_len l x
      show (putD l x).length ≤ 13
      omega
end Go.Ev
end
section
/- s_l07At: its contract. -/
namespace Go.Ev.Seat
open Go.RowKit
set_option maxRecDepth 100000
set_option linter.unusedVariables false
set_option linter.unusedSimpArgs false
def z_s_l07At_2_0 (x4 : Int) : St := { tm := ([.x, .x, .x, .x, (.s (.int .i64 x4))] ++ List.replicate 14 .x), ob := [], nx := 0, io := [] }
def z_s_l07At_2_1 : St := { tm := ([] ++ List.replicate 19 .x), ob := [], nx := 0, io := [] }
def sh_s_l07At_2_0 : Ss := { tm := (.cons (.l .no leaseR) (.cons (.x) (.cons (.x) (.cons (.pb 0 0) (.cons (.x) (.cons (.int .i64) (xsh 13))))))), ob := (.box (.cons (.int .i64) (.cons (.int .i64) (.cons (.int .i64) (.cons (.int .i64) .nil)))) .nil), nx := 1, io := .nil }
def d_s_l07At_2_0 (x0 : List T_Lease) (x5 : Int) (b00 : Int) (b01 : Int) (b02 : Int) (b03 : Int) : sh_s_l07At_2_0.T := ((x0, ((), ((), ((), ((), (x5, xd 13)))))), ((b00, (b01, (b02, (b03, ())))), ()), ())
def s_s_l07At_2_0 (x0 : List T_Lease) (x5 : Int) (b00 : Int) (b01 : Int) (b02 : Int) (b03 : Int) : St := { tm := ([(.l .no leaseR x0), .x, .x, (.pb 0 0), .x, (.s (.int .i64 x5))] ++ List.replicate 13 .x), ob := [(0, (.box [(.s (.int .i64 b00)), (.s (.int .i64 b01)), (.s (.int .i64 b02)), (.s (.int .i64 b03))]))], nx := 1, io := [] }
theorem se_s_l07At_2_0 (x0 : List T_Lease) (x5 : Int) (b00 : Int) (b01 : Int) (b02 : Int) (b03 : Int) : sh_s_l07At_2_0.mk' (d_s_l07At_2_0 x0 x5 b00 b01 b02 b03) = (s_s_l07At_2_0 x0 x5 b00 b01 b02 b03) := by kernel_rfl
def w_s_l07At_2_0 (d : sh_s_l07At_2_0.T) (f : (List T_Lease) → Int → Int → Int → Int → Int → Option Ret) : Option Ret := match d with | ((x0, (_, (_, (_, (_, (x5, _)))))), ((b00, (b01, (b02, (b03, _)))), _), _) => f x0 x5 b00 b01 b02 b03
noncomputable def P_s_l07At_2_0 (x0 : List T_Lease) (x5 : Int) (b00 : Int) (b01 : Int) (b02 : Int) (b03 : Int) (nx0 : (List T_Lease) → Int → Int → Int → Int → Int → Option Ret) (k0 : Int → Option Ret) (k1 : Option Ret) : Option Ret := (bif (decide (x5 < (((List.length x0) : Nat) : Int))) then (bif ((decide ((0 : Int) ≤ x5)) && (decide (x5 < (((List.length x0) : Nat) : Int)))) then (bif ((((List.getD x0 (Int.toNat x5) (leaseR.dflt)).1 == b00) && ((List.getD x0 (Int.toNat x5) (leaseR.dflt)).2.1 == b01)) && ((List.getD x0 (Int.toNat x5) (leaseR.dflt)).2.2.1 == b02)) then (k0 x5) else (nx0 x0 (IntKind.wrap .i64 (x5 + (1 : Int))) b00 b01 b02 b03)) else none) else k1)
noncomputable def Q_s_l07At_2_0 : Nat → (List T_Lease) → Int → Int → Int → Int → Int → (Int → Option Ret) → (Option Ret) → Option Ret
  | 0, _, _, _, _, _, _, _, _ => none
  | m + 1, x0, x5, b00, b01, b02, b03, k0, k1 => P_s_l07At_2_0 x0 x5 b00 b01 b02 b03 (fun x0 x5 b00 b01 b02 b03 => (Q_s_l07At_2_0 m x0 x5 b00 b01 b02 b03 k0 k1)) k0 k1
noncomputable def R_s_l07At_2_0 (x0 : List T_Lease) (x5 : Int) (b00 : Int) (b01 : Int) (b02 : Int) (b03 : Int) (k0 : Int → Option Ret) (k1 : Option Ret) : Option Ret := Q_s_l07At_2_0 (List.length x0 + x5.toNat + b00.toNat + b01.toNat + b02.toNat + b03.toNat + 2) x0 x5 b00 b01 b02 b03 k0 k1
noncomputable def W_s_l07At_2 : LoopFn := (fun (σ : St) (K : Ex → St → Option Ret) => (match sh_s_l07At_2_0.un σ with | some d => w_s_l07At_2_0 d (fun x0 x5 b00 b01 b02 b03 => R_s_l07At_2_0 x0 x5 b00 b01 b02 b03 (fun x4 => (K .ret (z_s_l07At_2_0 x4))) (K (.ext 0) z_s_l07At_2_1)) | none => none))
noncomputable abbrev pl_s_l07At : List (Nat × Plan × List Nat) := [(4, takeB [0, 1, 2, 3, 4] (.fork (.one 5 (.done))), [])]
noncomputable abbrev ls_s_l07At : List (Nat × Bool × Sm) := [(N.s_l07One, true, S_s_l07One)]
noncomputable abbrev E_s_l07At : Env := En ls_s_l07At pl_s_l07At [(2, [0,3,5], [4], W_s_l07At_2)] [] false 0 []
noncomputable abbrev U_s_l07At_2 := rounds (run E_s_l07At (bodyOf F.s_l07At 2)) [0,3,5] [4]
theorem st_s_l07At_2_0 (m : Nat) (x0 : List T_Lease) (x5 : Int) (b00 : Int) (b01 : Int) (b02 : Int) (b03 : Int) (K : Ex → St → Option Ret) : U_s_l07At_2 (m + 1) (s_s_l07At_2_0 x0 x5 b00 b01 b02 b03) K = P_s_l07At_2_0 x0 x5 b00 b01 b02 b03 (fun x0 x5 b00 b01 b02 b03 => (U_s_l07At_2 m (s_s_l07At_2_0 x0 x5 b00 b01 b02 b03) K)) (fun x4 => (K .ret (z_s_l07At_2_0 x4))) (K (.ext 0) z_s_l07At_2_1) := by kernel_rfl
theorem q_s_l07At_2 (K : Ex → St → Option Ret) : ∀ m : Nat, (∀ (x0 : List T_Lease) (x5 : Int) (b00 : Int) (b01 : Int) (b02 : Int) (b03 : Int), U_s_l07At_2 m (s_s_l07At_2_0 x0 x5 b00 b01 b02 b03) K = Q_s_l07At_2_0 m x0 x5 b00 b01 b02 b03 (fun x4 => (K .ret (z_s_l07At_2_0 x4))) (K (.ext 0) z_s_l07At_2_1))
  | 0 => (fun _ _ _ _ _ _ => rfl)
  | m + 1 => (fun x0 x5 b00 b01 b02 b03 => (by rw [st_s_l07At_2_0, show (fun x0 x5 b00 b01 b02 b03 => (U_s_l07At_2 m (s_s_l07At_2_0 x0 x5 b00 b01 b02 b03) K)) = (fun x0 x5 b00 b01 b02 b03 => (Q_s_l07At_2_0 m x0 x5 b00 b01 b02 b03 (fun x4 => (K .ret (z_s_l07At_2_0 x4))) (K (.ext 0) z_s_l07At_2_1))) from funext fun x0 => funext fun x5 => funext fun b00 => funext fun b01 => funext fun b02 => funext fun b03 => (q_s_l07At_2 K m) x0 x5 b00 b01 b02 b03]; rfl))
theorem loopK_s_l07At_2 : LoopOk E_s_l07At (bodyOf F.s_l07At 2) := by
  refine loopW_ok (n := 2) (F := W_s_l07At_2) (by kernel_rfl) rfl (li := [0,3,5]) (lo := [4]) rfl (fun σ K r hr => ?_)
  unfold W_s_l07At_2 at hr
  split at hr
  · rename_i d hd
    rw [Ss.un_mk hd]
    exact ⟨_, ((congrArg (fun z => U_s_l07At_2 _ z K) (se_s_l07At_2_0 _ _ _ _ _ _)).trans ((q_s_l07At_2 K _) _ _ _ _ _ _)).trans hr⟩
  · cases hr
noncomputable def T_s_l07At (l : List T_Lease) (x : T_Lease) (K : Ret → Option Ret) : Option Ret := (R_s_l07At_2_0 l (0 : Int) x.1 x.2.1 x.2.2.1 x.2.2.2 (fun y0 => K ((.s (.int .i64 y0)), [])) (K ((.s (.int .i64 (-(1 : Int)))), [])))
theorem e_s_l07At (l : List T_Lease) (x : T_Lease) (K : Ret → Option Ret) : evF E_s_l07At true F.s_l07At [.l .no leaseR l, .a (leaseR.cells .no x)] K = T_s_l07At l x K := by kernel_rfl
def S_s_l07At : Sm := S_fnR [.l leaseR, .a leaseR] (fun d => Nat.ble d.1.length 1048576) (fun d => (.s (.int .i64 (idxF (fun o => oneD o d.2.1) d.1)), []))
theorem v_s_l07At (l : List T_Lease) (x : T_Lease) (h : (Nat.ble l.length 1048576) = true) (K : Ret → Option Ret) : T_s_l07At l x K = K (.s (.int .i64 (idxF (fun o => oneD o x) l)), []) := by
  have hl := Nat.le_of_ble_eq_true h
  unfold T_s_l07At
  refine Eq.trans (idx_find (R := fun m i => Q_s_l07At_2_0 m l i x.1 x.2.1 x.2.2.1 x.2.2.2 (fun y0 => K ((.s (.int .i64 y0)), [])) (K ((.s (.int .i64 (-(1 : Int)))), []))) (p := fun o => oneD o x) (xs := l) (z := leaseR.dflt) (kf := fun y0 => K ((.s (.int .i64 y0)), [])) (kt := K ((.s (.int .i64 (-(1 : Int)))), [])) (fun m i hi => by
    show P_s_l07At_2_0 l ((i : Nat) : Int) x.1 x.2.1 x.2.2.1 x.2.2.2 _ _ _ = _
    unfold P_s_l07At_2_0
    rw [decide_eq_true (show ((i : Nat) : Int) < ((l.length : Nat) : Int) by omega), decide_eq_true (show (0 : Int) ≤ ((i : Nat) : Int) by omega), Int.toNat_natCast, wrap_nat (by omega)]
    rfl) (fun m => by
    show P_s_l07At_2_0 l ((l.length : Nat) : Int) x.1 x.2.1 x.2.2.1 x.2.2.2 _ _ _ = _
    unfold P_s_l07At_2_0
    rw [decide_eq_false (show ¬ ((l.length : Nat) : Int) < ((l.length : Nat) : Int) by omega)]; rfl) _ 0 (by omega) (by omega)) ?_
  rw [List.drop_zero]
  unfold idxF
  cases l.findIdx? (fun o => oneD o x) with
  | none => rfl
  | some j => show K (.s (.int .i64 ((0 + j : Nat) : Int)), []) = _; rw [Nat.zero_add]
theorem okS_s_l07At : OkFn prog I N.s_l07At true S_s_l07At := okN (ok_fn (memc okS_s_l07One mem0) (l := ls_s_l07At) (p := pl_s_l07At) (ls := [(2, [0,3,5], [4], W_s_l07At_2)]) (lend := []) (focus := false) (fuel := 0) (give := []) (fn := F.s_l07At) (by kernel_rfl) (by kernel_rfl) (by kernel_rfl) (by kernel_rfl) (cs := [bodyOf F.s_l07At 2]) (by kernel_rfl) (loopsc loopK_s_l07At_2 loops0)) (S_fnR_of fun d K h => (e_s_l07At d.1 d.2.1 K).trans (v_s_l07At d.1 d.2.1 h K))
end Go.Ev.Seat
end
section
/- s_l07Put: its contract. -/
namespace Go.Ev.Seat
open Go.RowKit
set_option maxRecDepth 100000
set_option linter.unusedVariables false
set_option linter.unusedSimpArgs false
def z_s_l07Put_4_0 (x6 : Bool) (b00 : Int) (b01 : Int) (b02 : Int) (b03 : Int) (o1 : List T_Lease) : St := { tm := ([.x, .x, .x, (.pb 0 0), .x, (.w 1), (.s (.bool x6))] ++ List.replicate 68 .x), ob := [(0, (.box [(.s (.int .i64 b00)), (.s (.int .i64 b01)), (.s (.int .i64 b02)), (.s (.int .i64 b03))])), (1, (.arr true true leaseR o1))], nx := 2, io := [] }
def sh_s_l07Put_4_0 : Ss := { tm := (.cons (.l .no leaseR) (.cons (.x) (.cons (.x) (.cons (.pb 0 0) (.cons (.x) (.cons (.w 1) (.cons (.bool) (.cons (.int .i64) (xsh 67))))))))), ob := (.box (.cons (.int .i64) (.cons (.int .i64) (.cons (.int .i64) (.cons (.int .i64) .nil)))) (.arr true true leaseR .nil)), nx := 2, io := .nil }
def d_s_l07Put_4_0 (x0 : List T_Lease) (x6 : Bool) (x7 : Int) (b00 : Int) (b01 : Int) (b02 : Int) (b03 : Int) (o1 : List T_Lease) : sh_s_l07Put_4_0.T := ((x0, ((), ((), ((), ((), ((), (x6, (x7, xd 67)))))))), ((b00, (b01, (b02, (b03, ())))), (o1, ())), ())
def s_s_l07Put_4_0 (x0 : List T_Lease) (x6 : Bool) (x7 : Int) (b00 : Int) (b01 : Int) (b02 : Int) (b03 : Int) (o1 : List T_Lease) : St := { tm := ([(.l .no leaseR x0), .x, .x, (.pb 0 0), .x, (.w 1), (.s (.bool x6)), (.s (.int .i64 x7))] ++ List.replicate 67 .x), ob := [(0, (.box [(.s (.int .i64 b00)), (.s (.int .i64 b01)), (.s (.int .i64 b02)), (.s (.int .i64 b03))])), (1, (.arr true true leaseR o1))], nx := 2, io := [] }
theorem se_s_l07Put_4_0 (x0 : List T_Lease) (x6 : Bool) (x7 : Int) (b00 : Int) (b01 : Int) (b02 : Int) (b03 : Int) (o1 : List T_Lease) : sh_s_l07Put_4_0.mk' (d_s_l07Put_4_0 x0 x6 x7 b00 b01 b02 b03 o1) = (s_s_l07Put_4_0 x0 x6 x7 b00 b01 b02 b03 o1) := by kernel_rfl
def w_s_l07Put_4_0 (d : sh_s_l07Put_4_0.T) (f : (List T_Lease) → Bool → Int → Int → Int → Int → Int → (List T_Lease) → Option Ret) : Option Ret := match d with | ((x0, (_, (_, (_, (_, (_, (x6, (x7, _)))))))), ((b00, (b01, (b02, (b03, _)))), (o1, _)), _) => f x0 x6 x7 b00 b01 b02 b03 o1
noncomputable def P_s_l07Put_4_0 (x0 : List T_Lease) (x6 : Bool) (x7 : Int) (b00 : Int) (b01 : Int) (b02 : Int) (b03 : Int) (o1 : List T_Lease) (nx0 : (List T_Lease) → Bool → Int → Int → Int → Int → Int → (List T_Lease) → Option Ret) (k0 : Bool → Int → Int → Int → Int → (List T_Lease) → Option Ret) : Option Ret := (bif (decide (x7 < (((List.length x0) : Nat) : Int))) then (bif ((decide ((0 : Int) ≤ x7)) && (decide (x7 < (((List.length x0) : Nat) : Int)))) then (bif ((((List.getD x0 (Int.toNat x7) (leaseR.dflt)).1 == b00) && ((List.getD x0 (Int.toNat x7) (leaseR.dflt)).2.1 == b01)) && ((List.getD x0 (Int.toNat x7) (leaseR.dflt)).2.2.1 == b02)) then (bif ((decide ((0 : Int) ≤ x7)) && (decide (x7 < (((List.length x0) : Nat) : Int)))) then (nx0 x0 x6 (IntKind.wrap .i64 (x7 + (1 : Int))) b00 b01 b02 (if (List.getD x0 (Int.toNat x7) (leaseR.dflt)).2.2.2 > b03 then (List.getD x0 (Int.toNat x7) (leaseR.dflt)).2.2.2 else b03) o1) else none) else (bif (!x6) then (bif ((decide ((0 : Int) ≤ x7)) && (decide (x7 < (((List.length x0) : Nat) : Int)))) then (bif (lessD (b00, (b01, (b02, b03))) (List.getD x0 (Int.toNat x7) (leaseR.dflt))) then (bif (Nat.ble (((List.length o1) + (List.length (((0 : Int), ((0 : Int), ((0 : Int), (0 : Int)))) :: []))) * 32) 140737488355328) then (bif ((decide ((0 : Int) ≤ x7)) && (decide (x7 < (((List.length x0) : Nat) : Int)))) then (bif (Nat.ble (((List.length (o1 ++ (((0 : Int), ((0 : Int), ((0 : Int), (0 : Int)))) :: []))) + (List.length ((List.getD x0 (Int.toNat x7) (leaseR.dflt)) :: []))) * 32) 140737488355328) then (nx0 x0 true (IntKind.wrap .i64 (x7 + (1 : Int))) b00 b01 b02 b03 ((o1 ++ (((0 : Int), ((0 : Int), ((0 : Int), (0 : Int)))) :: [])) ++ ((List.getD x0 (Int.toNat x7) (leaseR.dflt)) :: []))) else none) else none) else none) else (bif ((decide ((0 : Int) ≤ x7)) && (decide (x7 < (((List.length x0) : Nat) : Int)))) then (bif (Nat.ble (((List.length o1) + (List.length ((List.getD x0 (Int.toNat x7) (leaseR.dflt)) :: []))) * 32) 140737488355328) then (nx0 x0 x6 (IntKind.wrap .i64 (x7 + (1 : Int))) b00 b01 b02 b03 (o1 ++ ((List.getD x0 (Int.toNat x7) (leaseR.dflt)) :: []))) else none) else none)) else none) else (bif ((decide ((0 : Int) ≤ x7)) && (decide (x7 < (((List.length x0) : Nat) : Int)))) then (bif (Nat.ble (((List.length o1) + (List.length ((List.getD x0 (Int.toNat x7) (leaseR.dflt)) :: []))) * 32) 140737488355328) then (nx0 x0 x6 (IntKind.wrap .i64 (x7 + (1 : Int))) b00 b01 b02 b03 (o1 ++ ((List.getD x0 (Int.toNat x7) (leaseR.dflt)) :: []))) else none) else none))) else none) else (k0 x6 b00 b01 b02 b03 o1))
noncomputable def Q_s_l07Put_4_0 : Nat → (List T_Lease) → Bool → Int → Int → Int → Int → Int → (List T_Lease) → (Bool → Int → Int → Int → Int → (List T_Lease) → Option Ret) → Option Ret
  | 0, _, _, _, _, _, _, _, _, _ => none
  | m + 1, x0, x6, x7, b00, b01, b02, b03, o1, k0 => P_s_l07Put_4_0 x0 x6 x7 b00 b01 b02 b03 o1 (fun x0 x6 x7 b00 b01 b02 b03 o1 => (Q_s_l07Put_4_0 m x0 x6 x7 b00 b01 b02 b03 o1 k0)) k0
noncomputable def R_s_l07Put_4_0 (x0 : List T_Lease) (x6 : Bool) (x7 : Int) (b00 : Int) (b01 : Int) (b02 : Int) (b03 : Int) (o1 : List T_Lease) (k0 : Bool → Int → Int → Int → Int → (List T_Lease) → Option Ret) : Option Ret := Q_s_l07Put_4_0 (List.length x0 + x7.toNat + b00.toNat + b01.toNat + b02.toNat + b03.toNat + List.length o1 + 2) x0 x6 x7 b00 b01 b02 b03 o1 k0
noncomputable def W_s_l07Put_4 : LoopFn := (fun (σ : St) (K : Ex → St → Option Ret) => (match sh_s_l07Put_4_0.un σ with | some d => w_s_l07Put_4_0 d (fun x0 x6 x7 b00 b01 b02 b03 o1 => R_s_l07Put_4_0 x0 x6 x7 b00 b01 b02 b03 o1 (fun x6 b00 b01 b02 b03 o1 => (K (.ext 0) (z_s_l07Put_4_0 x6 b00 b01 b02 b03 o1)))) | none => none))
def z_s_l07Put_15_0 (o0 : List T_Lease) : St := { tm := ([.x, .x, .x, .x, .x, (.w 0)] ++ List.replicate 69 .x), ob := [(0, (.arr true true leaseR o0))], nx := 1, io := [] }
def sh_s_l07Put_15_0 : Ss := { tm := (.cons (.x) (.cons (.x) (.cons (.x) (.cons (.pb 0 0) (.cons (.x) (.cons (.w 1) (.cons (.x) (.cons (.x) (.cons (.int .i64) (xsh 66)))))))))), ob := (.box (.cons (.int .i64) (.cons (.int .i64) (.cons (.int .i64) (.cons (.int .i64) .nil)))) (.arr true true leaseR .nil)), nx := 2, io := .nil }
def d_s_l07Put_15_0 (x8 : Int) (b00 : Int) (b01 : Int) (b02 : Int) (b03 : Int) (o1 : List T_Lease) : sh_s_l07Put_15_0.T := (((), ((), ((), ((), ((), ((), ((), ((), (x8, xd 66))))))))), ((b00, (b01, (b02, (b03, ())))), (o1, ())), ())
def s_s_l07Put_15_0 (x8 : Int) (b00 : Int) (b01 : Int) (b02 : Int) (b03 : Int) (o1 : List T_Lease) : St := { tm := ([.x, .x, .x, (.pb 0 0), .x, (.w 1), .x, .x, (.s (.int .i64 x8))] ++ List.replicate 66 .x), ob := [(0, (.box [(.s (.int .i64 b00)), (.s (.int .i64 b01)), (.s (.int .i64 b02)), (.s (.int .i64 b03))])), (1, (.arr true true leaseR o1))], nx := 2, io := [] }
theorem se_s_l07Put_15_0 (x8 : Int) (b00 : Int) (b01 : Int) (b02 : Int) (b03 : Int) (o1 : List T_Lease) : sh_s_l07Put_15_0.mk' (d_s_l07Put_15_0 x8 b00 b01 b02 b03 o1) = (s_s_l07Put_15_0 x8 b00 b01 b02 b03 o1) := by kernel_rfl
def w_s_l07Put_15_0 (d : sh_s_l07Put_15_0.T) (f : Int → Int → Int → Int → Int → (List T_Lease) → Option Ret) : Option Ret := match d with | ((_, (_, (_, (_, (_, (_, (_, (_, (x8, _))))))))), ((b00, (b01, (b02, (b03, _)))), (o1, _)), _) => f x8 b00 b01 b02 b03 o1
noncomputable def P_s_l07Put_15_0 (x8 : Int) (b00 : Int) (b01 : Int) (b02 : Int) (b03 : Int) (o1 : List T_Lease) (nx0 : Int → Int → Int → Int → Int → (List T_Lease) → Option Ret) (k0 : (List T_Lease) → Option Ret) : Option Ret := (bif (decide (x8 < (((List.length o1) : Nat) : Int))) then (bif ((decide ((0 : Int) ≤ x8)) && (decide (x8 < (((List.length o1) : Nat) : Int)))) then (bif ((List.getD o1 (Int.toNat x8) (leaseR.dflt)).2.2.1 == (0 : Int)) then (bif ((decide ((0 : Int) ≤ x8)) && (decide (x8 < (((List.length o1) : Nat) : Int)))) then (nx0 (IntKind.wrap .i64 (x8 + (1 : Int))) b00 b01 b02 b03 (List.set o1 (Int.toNat x8) (b00, (b01, (b02, b03))))) else none) else (nx0 (IntKind.wrap .i64 (x8 + (1 : Int))) b00 b01 b02 b03 o1)) else none) else (k0 o1))
noncomputable def Q_s_l07Put_15_0 : Nat → Int → Int → Int → Int → Int → (List T_Lease) → ((List T_Lease) → Option Ret) → Option Ret
  | 0, _, _, _, _, _, _, _ => none
  | m + 1, x8, b00, b01, b02, b03, o1, k0 => P_s_l07Put_15_0 x8 b00 b01 b02 b03 o1 (fun x8 b00 b01 b02 b03 o1 => (Q_s_l07Put_15_0 m x8 b00 b01 b02 b03 o1 k0)) k0
noncomputable def R_s_l07Put_15_0 (x8 : Int) (b00 : Int) (b01 : Int) (b02 : Int) (b03 : Int) (o1 : List T_Lease) (k0 : (List T_Lease) → Option Ret) : Option Ret := Q_s_l07Put_15_0 (x8.toNat + b00.toNat + b01.toNat + b02.toNat + b03.toNat + List.length o1 + 2) x8 b00 b01 b02 b03 o1 k0
noncomputable def W_s_l07Put_15 : LoopFn := (fun (σ : St) (K : Ex → St → Option Ret) => (match sh_s_l07Put_15_0.un σ with | some d => w_s_l07Put_15_0 d (fun x8 b00 b01 b02 b03 o1 => R_s_l07Put_15_0 x8 b00 b01 b02 b03 o1 (fun o0 => (K (.ext 2) (z_s_l07Put_15_0 o0)))) | none => none))
noncomputable abbrev pl_s_l07Put : List (Nat × Plan × List Nat) := [(6, takeB [0, 1, 2, 3, 4] (.fork (.one 5 (.done))), []), (7, takeB [0, 1, 2, 3, 4, 5, 6, 7, 8] (.fork (.one 9 (.done))), []), (8, takeB [0, 1, 2, 3, 4, 5, 6, 7] (.fork (.one 8 (takes [9]))), [])]
noncomputable abbrev ls_s_l07Put : List (Nat × Bool × Sm) := [(N.s_l07One, true, S_s_l07One), (N.s_l07Less, true, S_s_l07Less)]
noncomputable abbrev E_s_l07Put : Env := En ls_s_l07Put pl_s_l07Put [(4, [0,3,5,6,7], [3,4,5,6], W_s_l07Put_4), (15, [3,5,8], [4,5], W_s_l07Put_15)] [] false 0 []
noncomputable abbrev U_s_l07Put_4 := rounds (run E_s_l07Put (bodyOf F.s_l07Put 4)) [0,3,5,6,7] [3,4,5,6]
theorem st_s_l07Put_4_0 (m : Nat) (x0 : List T_Lease) (x6 : Bool) (x7 : Int) (b00 : Int) (b01 : Int) (b02 : Int) (b03 : Int) (o1 : List T_Lease) (K : Ex → St → Option Ret) : U_s_l07Put_4 (m + 1) (s_s_l07Put_4_0 x0 x6 x7 b00 b01 b02 b03 o1) K = P_s_l07Put_4_0 x0 x6 x7 b00 b01 b02 b03 o1 (fun x0 x6 x7 b00 b01 b02 b03 o1 => (U_s_l07Put_4 m (s_s_l07Put_4_0 x0 x6 x7 b00 b01 b02 b03 o1) K)) (fun x6 b00 b01 b02 b03 o1 => (K (.ext 0) (z_s_l07Put_4_0 x6 b00 b01 b02 b03 o1))) := by kernel_rfl
theorem q_s_l07Put_4 (K : Ex → St → Option Ret) : ∀ m : Nat, (∀ (x0 : List T_Lease) (x6 : Bool) (x7 : Int) (b00 : Int) (b01 : Int) (b02 : Int) (b03 : Int) (o1 : List T_Lease), U_s_l07Put_4 m (s_s_l07Put_4_0 x0 x6 x7 b00 b01 b02 b03 o1) K = Q_s_l07Put_4_0 m x0 x6 x7 b00 b01 b02 b03 o1 (fun x6 b00 b01 b02 b03 o1 => (K (.ext 0) (z_s_l07Put_4_0 x6 b00 b01 b02 b03 o1))))
  | 0 => (fun _ _ _ _ _ _ _ _ => rfl)
  | m + 1 => (fun x0 x6 x7 b00 b01 b02 b03 o1 => (by rw [st_s_l07Put_4_0, show (fun x0 x6 x7 b00 b01 b02 b03 o1 => (U_s_l07Put_4 m (s_s_l07Put_4_0 x0 x6 x7 b00 b01 b02 b03 o1) K)) = (fun x0 x6 x7 b00 b01 b02 b03 o1 => (Q_s_l07Put_4_0 m x0 x6 x7 b00 b01 b02 b03 o1 (fun x6 b00 b01 b02 b03 o1 => (K (.ext 0) (z_s_l07Put_4_0 x6 b00 b01 b02 b03 o1))))) from funext fun x0 => funext fun x6 => funext fun x7 => funext fun b00 => funext fun b01 => funext fun b02 => funext fun b03 => funext fun o1 => (q_s_l07Put_4 K m) x0 x6 x7 b00 b01 b02 b03 o1]; rfl))
theorem loopK_s_l07Put_4 : LoopOk E_s_l07Put (bodyOf F.s_l07Put 4) := by
  refine loopW_ok (n := 4) (F := W_s_l07Put_4) (by kernel_rfl) rfl (li := [0,3,5,6,7]) (lo := [3,4,5,6]) rfl (fun σ K r hr => ?_)
  unfold W_s_l07Put_4 at hr
  split at hr
  · rename_i d hd
    rw [Ss.un_mk hd]
    exact ⟨_, ((congrArg (fun z => U_s_l07Put_4 _ z K) (se_s_l07Put_4_0 _ _ _ _ _ _ _ _)).trans ((q_s_l07Put_4 K _) _ _ _ _ _ _ _ _)).trans hr⟩
  · cases hr
noncomputable abbrev U_s_l07Put_15 := rounds (run E_s_l07Put (bodyOf F.s_l07Put 15)) [3,5,8] [4,5]
theorem st_s_l07Put_15_0 (m : Nat) (x8 : Int) (b00 : Int) (b01 : Int) (b02 : Int) (b03 : Int) (o1 : List T_Lease) (K : Ex → St → Option Ret) : U_s_l07Put_15 (m + 1) (s_s_l07Put_15_0 x8 b00 b01 b02 b03 o1) K = P_s_l07Put_15_0 x8 b00 b01 b02 b03 o1 (fun x8 b00 b01 b02 b03 o1 => (U_s_l07Put_15 m (s_s_l07Put_15_0 x8 b00 b01 b02 b03 o1) K)) (fun o0 => (K (.ext 2) (z_s_l07Put_15_0 o0))) := by kernel_rfl
theorem q_s_l07Put_15 (K : Ex → St → Option Ret) : ∀ m : Nat, (∀ (x8 : Int) (b00 : Int) (b01 : Int) (b02 : Int) (b03 : Int) (o1 : List T_Lease), U_s_l07Put_15 m (s_s_l07Put_15_0 x8 b00 b01 b02 b03 o1) K = Q_s_l07Put_15_0 m x8 b00 b01 b02 b03 o1 (fun o0 => (K (.ext 2) (z_s_l07Put_15_0 o0))))
  | 0 => (fun _ _ _ _ _ _ => rfl)
  | m + 1 => (fun x8 b00 b01 b02 b03 o1 => (by rw [st_s_l07Put_15_0, show (fun x8 b00 b01 b02 b03 o1 => (U_s_l07Put_15 m (s_s_l07Put_15_0 x8 b00 b01 b02 b03 o1) K)) = (fun x8 b00 b01 b02 b03 o1 => (Q_s_l07Put_15_0 m x8 b00 b01 b02 b03 o1 (fun o0 => (K (.ext 2) (z_s_l07Put_15_0 o0))))) from funext fun x8 => funext fun b00 => funext fun b01 => funext fun b02 => funext fun b03 => funext fun o1 => (q_s_l07Put_15 K m) x8 b00 b01 b02 b03 o1]; rfl))
theorem loopK_s_l07Put_15 : LoopOk E_s_l07Put (bodyOf F.s_l07Put 15) := by
  refine loopW_ok (n := 15) (F := W_s_l07Put_15) (by kernel_rfl) rfl (li := [3,5,8]) (lo := [4,5]) rfl (fun σ K r hr => ?_)
  unfold W_s_l07Put_15 at hr
  split at hr
  · rename_i d hd
    rw [Ss.un_mk hd]
    exact ⟨_, ((congrArg (fun z => U_s_l07Put_15 _ z K) (se_s_l07Put_15_0 _ _ _ _ _ _)).trans ((q_s_l07Put_15 K _) _ _ _ _ _ _)).trans hr⟩
  · cases hr
noncomputable def T_s_l07Put (l : List T_Lease) (x : T_Lease) (K : Ret → Option Ret) : Option Ret := (R_s_l07Put_4_0 l false (0 : Int) x.1 x.2.1 x.2.2.1 x.2.2.2 [] (fun y0 y1 y2 y3 y4 y5 => (bif (!y0) then (bif (Nat.ble (((List.length y5) + (List.length ((y1, (y2, (y3, y4))) :: []))) * 32) 140737488355328) then K ((.l .deep leaseR (y5 ++ ((y1, (y2, (y3, y4))) :: []))), []) else none) else (R_s_l07Put_15_0 (0 : Int) y1 y2 y3 y4 y5 (fun y6 => K ((.l .deep leaseR y6), []))))))
theorem e_s_l07Put (l : List T_Lease) (x : T_Lease) (K : Ret → Option Ret) : evF E_s_l07Put true F.s_l07Put [.l .no leaseR l, .a (leaseR.cells .no x)] K = T_s_l07Put l x K := by kernel_rfl
def S_s_l07Put : Sm := S_fnR [.l leaseR, .a leaseR] (fun d => Nat.ble d.1.length 1048576) (fun d => (.l .deep leaseR (putD d.1 d.2.1), []))
theorem v_s_l07Put (l : List T_Lease) (x : T_Lease) (h : (Nat.ble l.length 1048576) = true) (K : Ret → Option Ret) : T_s_l07Put l x K = K (.l .deep leaseR (putD l x), []) := by
  have hl := Nat.le_of_ble_eq_true h
  unfold T_s_l07Put
  have q4 : ∀ (k0 : Bool → Int → Int → Int → Int → (List T_Lease) → Option Ret) (m : Nat), l.length < m → Q_s_l07Put_4_0 m l false ((0 : Nat) : Int) x.1 x.2.1 x.2.2.1 x.2.2.2 [] k0 = (fun (s : Bool × L4 × List L4) => k0 s.1 s.2.1.1 s.2.1.2.1 s.2.1.2.2.1 s.2.1.2.2.2 s.2.2) (l.foldl putF (false, x, [])) := by
    intro k0 m hm
    have := idx_fold (R := fun m i (s : Bool × L4 × List L4) => Q_s_l07Put_4_0 m l s.1 i s.2.1.1 s.2.1.2.1 s.2.1.2.2.1 s.2.1.2.2.2 s.2.2 k0) (f := putF) (I := fun i s => s.2.2.length ≤ i + 1 ∧ (s.1 = false → s.2.2.length ≤ i)) (kt := fun s => k0 s.1 s.2.1.1 s.2.1.2.1 s.2.1.2.2.1 s.2.1.2.2.2 s.2.2) (xs := l) (z := leaseR.dflt) (fun m i s hi hs => by
      show P_s_l07Put_4_0 l s.1 ((i : Nat) : Int) s.2.1.1 s.2.1.2.1 s.2.1.2.2.1 s.2.1.2.2.2 s.2.2 _ _ = _
      unfold P_s_l07Put_4_0
      obtain ⟨b, y, o⟩ := s
      obtain ⟨hs1, hs2⟩ := hs
      dsimp only at hs1 hs2 ⊢
      rw [decide_eq_true (show ((i : Nat) : Int) < ((l.length : Nat) : Int) by omega), decide_eq_true (show (0 : Int) ≤ ((i : Nat) : Int) by omega), Int.toNat_natCast, wrap_nat (by omega), Nat.ble_eq_true_of_le (by simp only [List.length_append, List.length_cons, List.length_nil]; omega), Nat.ble_eq_true_of_le (by simp only [List.length_append, List.length_cons, List.length_nil]; omega), Nat.ble_eq_true_of_le (by simp only [List.length_append, List.length_cons, List.length_nil]; omega)]
      unfold putF oneD
      dsimp only
      cases ((l.getD i leaseR.dflt).1 == y.1 && (l.getD i leaseR.dflt).2.1 == y.2.1 && (l.getD i leaseR.dflt).2.2.1 == y.2.2.1)
      · cases b
        · cases lessD (y.1, (y.2.1, (y.2.2.1, y.2.2.2))) (l.getD i leaseR.dflt) <;> rfl
        · rfl
      · rfl) (fun i s hi hs => by
      obtain ⟨hs1, hs2⟩ := hs
      unfold putF
      cases oneD (l.getD i leaseR.dflt) s.2.1 with
      | true => exact ⟨by simp only [cond_true]; omega, fun hb => by have := hs2 hb; simp only [cond_true]; omega⟩
      | false =>
        cases hb : s.1 with
        | true => exact ⟨by simp; omega, fun hh => by cases hh⟩
        | false =>
          have := hs2 hb
          cases lessD s.2.1 (l.getD i leaseR.dflt) with
          | true => exact ⟨by simp; omega, fun hh => by cases hh⟩
          | false => exact ⟨by simp; omega, fun _ => by simp; omega⟩) (fun m s hs => by
      show P_s_l07Put_4_0 l s.1 ((l.length : Nat) : Int) s.2.1.1 s.2.1.2.1 s.2.1.2.2.1 s.2.1.2.2.2 s.2.2 _ _ = _
      unfold P_s_l07Put_4_0
      rw [decide_eq_false (show ¬ ((l.length : Nat) : Int) < ((l.length : Nat) : Int) by omega)]; rfl) m 0 (false, x, []) ⟨Nat.zero_le _, fun _ => Nat.le_refl _⟩ (Nat.zero_le _) (by omega)
    rw [List.drop_zero] at this
    exact this
  have hlen := putL_len l (false, x, [])
  refine (q4 _ (List.length l + (0 : Int).toNat + x.1.toNat + x.2.1.toNat + x.2.2.1.toNat + x.2.2.2.toNat + List.length ([] : List T_Lease) + 2) (by omega)).trans ?_
  unfold putD
  generalize l.foldl putF (false, x, []) = s at *
  obtain ⟨b, y, o⟩ := s
  dsimp only [List.length_nil] at hlen ⊢
  unfold putE
  cases b with
  | false =>
    simp only [cond_false] at hlen
    rw [Nat.ble_eq_true_of_le (by simp only [List.length_cons, List.length_nil]; omega)]
    rfl
  | true =>
    simp only [cond_true, cond_false] at hlen
    have := idx_set (R := fun m i o => Q_s_l07Put_15_0 m i y.1 y.2.1 y.2.2.1 y.2.2.2 o (fun y6 => K ((.l .deep leaseR y6), []))) (kt := fun y6 => K ((.l .deep leaseR y6), [])) (z := leaseR.dflt) (y := y) (p := fun e : T_Lease => e.2.2.1 == 0) (n := o.length) (fun m i o' ho hi => by
      show P_s_l07Put_15_0 ((i : Nat) : Int) y.1 y.2.1 y.2.2.1 y.2.2.2 o' _ _ = _
      unfold P_s_l07Put_15_0
      rw [decide_eq_true (show ((i : Nat) : Int) < ((o'.length : Nat) : Int) by omega), decide_eq_true (show (0 : Int) ≤ ((i : Nat) : Int) by omega), Int.toNat_natCast, wrap_nat (by omega)]
      cases ((o'.getD i leaseR.dflt).2.2.1 == 0) <;> rfl) (fun m o' ho => by
      show P_s_l07Put_15_0 ((o.length : Nat) : Int) y.1 y.2.1 y.2.2.1 y.2.2.2 o' _ _ = _
      unfold P_s_l07Put_15_0
      rw [decide_eq_false (show ¬ ((o.length : Nat) : Int) < ((o'.length : Nat) : Int) by omega)]; rfl) ((0 : Int).toNat + y.1.toNat + y.2.1.toNat + y.2.2.1.toNat + y.2.2.2.toNat + List.length o + 2) 0 o rfl (Nat.zero_le _) (by omega)
    rw [List.take_zero, List.drop_zero, List.nil_append] at this
    exact this
theorem okS_s_l07Put : OkFn prog I N.s_l07Put true S_s_l07Put := okN (ok_fn (memc okS_s_l07One (memc okS_s_l07Less mem0)) (l := ls_s_l07Put) (p := pl_s_l07Put) (ls := [(4, [0,3,5,6,7], [3,4,5,6], W_s_l07Put_4), (15, [3,5,8], [4,5], W_s_l07Put_15)]) (lend := []) (focus := false) (fuel := 0) (give := []) (fn := F.s_l07Put) (by kernel_rfl) (by kernel_rfl) (by kernel_rfl) (by kernel_rfl) (cs := [bodyOf F.s_l07Put 4, bodyOf F.s_l07Put 15]) (by kernel_rfl) (loopsc loopK_s_l07Put_4 (loopsc loopK_s_l07Put_15 loops0))) (S_fnR_of fun d K h => (e_s_l07Put d.1 d.2.1 K).trans (v_s_l07Put d.1 d.2.1 h K))
end Go.Ev.Seat
end
section
/- s_LeaseTake: its contract. -/
namespace Go.Ev.Seat
open Go.RowKit
set_option maxRecDepth 100000
set_option linter.unusedVariables false
set_option linter.unusedSimpArgs false
def z_s_LeaseTake_6_0 (x0 : List T_Lease) (x7 : Int) (b00 : Int) (b01 : Int) (b02 : Int) (b03 : Int) : St := { tm := ([(.l .no leaseR x0), .x, .x, .x, (.pb 0 0), .x, .nl, (.s (.int .i64 x7))] ++ List.replicate 68 .x), ob := [(0, (.box [(.s (.int .i64 b00)), (.s (.int .i64 b01)), (.s (.int .i64 b02)), (.s (.int .i64 b03))]))], nx := 1, io := [] }
def z_s_LeaseTake_6_1 (x0 : List T_Lease) (b00 : Int) (b01 : Int) (b02 : Int) (b03 : Int) : St := { tm := ([(.l .no leaseR x0), .x, .x, .x, (.pb 0 0)] ++ List.replicate 71 .x), ob := [(0, (.box [(.s (.int .i64 b00)), (.s (.int .i64 b01)), (.s (.int .i64 b02)), (.s (.int .i64 b03))]))], nx := 1, io := [] }
def sh_s_LeaseTake_6_0 : Ss := { tm := (.cons (.l .no leaseR) (.cons (.x) (.cons (.int .i64) (.cons (.x) (.cons (.pb 0 0) (.cons (.x) (.cons (.x) (.cons (.x) (.cons (.int .i64) (xsh 67)))))))))), ob := (.box (.cons (.int .i64) (.cons (.int .i64) (.cons (.int .i64) (.cons (.int .i64) .nil)))) .nil), nx := 1, io := .nil }
def d_s_LeaseTake_6_0 (x0 : List T_Lease) (x2 : Int) (x8 : Int) (b00 : Int) (b01 : Int) (b02 : Int) (b03 : Int) : sh_s_LeaseTake_6_0.T := ((x0, ((), (x2, ((), ((), ((), ((), ((), (x8, xd 67))))))))), ((b00, (b01, (b02, (b03, ())))), ()), ())
def s_s_LeaseTake_6_0 (x0 : List T_Lease) (x2 : Int) (x8 : Int) (b00 : Int) (b01 : Int) (b02 : Int) (b03 : Int) : St := { tm := ([(.l .no leaseR x0), .x, (.s (.int .i64 x2)), .x, (.pb 0 0), .x, .x, .x, (.s (.int .i64 x8))] ++ List.replicate 67 .x), ob := [(0, (.box [(.s (.int .i64 b00)), (.s (.int .i64 b01)), (.s (.int .i64 b02)), (.s (.int .i64 b03))]))], nx := 1, io := [] }
theorem se_s_LeaseTake_6_0 (x0 : List T_Lease) (x2 : Int) (x8 : Int) (b00 : Int) (b01 : Int) (b02 : Int) (b03 : Int) : sh_s_LeaseTake_6_0.mk' (d_s_LeaseTake_6_0 x0 x2 x8 b00 b01 b02 b03) = (s_s_LeaseTake_6_0 x0 x2 x8 b00 b01 b02 b03) := by kernel_rfl
def w_s_LeaseTake_6_0 (d : sh_s_LeaseTake_6_0.T) (f : (List T_Lease) → Int → Int → Int → Int → Int → Int → Option Ret) : Option Ret := match d with | ((x0, (_, (x2, (_, (_, (_, (_, (_, (x8, _))))))))), ((b00, (b01, (b02, (b03, _)))), _), _) => f x0 x2 x8 b00 b01 b02 b03
noncomputable def P_s_LeaseTake_6_0 (x0 : List T_Lease) (x2 : Int) (x8 : Int) (b00 : Int) (b01 : Int) (b02 : Int) (b03 : Int) (nx0 : (List T_Lease) → Int → Int → Int → Int → Int → Int → Option Ret) (k0 : (List T_Lease) → Int → Int → Int → Int → Int → Option Ret) (k1 : (List T_Lease) → Int → Int → Int → Int → Option Ret) : Option Ret := (bif (decide (x8 < (((List.length x0) : Nat) : Int))) then (bif ((decide ((0 : Int) ≤ x8)) && (decide (x8 < (((List.length x0) : Nat) : Int)))) then (bif ((List.getD x0 (Int.toNat x8) (leaseR.dflt)).2.2.1 != b02) then (bif ((decide ((0 : Int) ≤ x8)) && (decide (x8 < (((List.length x0) : Nat) : Int)))) then (bif (decide ((List.getD x0 (Int.toNat x8) (leaseR.dflt)).2.2.2 > x2)) then (bif ((decide ((0 : Int) ≤ x8)) && (decide (x8 < (((List.length x0) : Nat) : Int)))) then (bif (meetD (List.getD x0 (Int.toNat x8) (leaseR.dflt)) (b00, (b01, (b02, b03)))) then (k0 x0 (3 : Int) b00 b01 b02 b03) else (nx0 x0 x2 (IntKind.wrap .i64 (x8 + (1 : Int))) b00 b01 b02 b03)) else none) else (nx0 x0 x2 (IntKind.wrap .i64 (x8 + (1 : Int))) b00 b01 b02 b03)) else none) else (nx0 x0 x2 (IntKind.wrap .i64 (x8 + (1 : Int))) b00 b01 b02 b03)) else none) else (k1 x0 b00 b01 b02 b03))
noncomputable def Q_s_LeaseTake_6_0 : Nat → (List T_Lease) → Int → Int → Int → Int → Int → Int → ((List T_Lease) → Int → Int → Int → Int → Int → Option Ret) → ((List T_Lease) → Int → Int → Int → Int → Option Ret) → Option Ret
  | 0, _, _, _, _, _, _, _, _, _ => none
  | m + 1, x0, x2, x8, b00, b01, b02, b03, k0, k1 => P_s_LeaseTake_6_0 x0 x2 x8 b00 b01 b02 b03 (fun x0 x2 x8 b00 b01 b02 b03 => (Q_s_LeaseTake_6_0 m x0 x2 x8 b00 b01 b02 b03 k0 k1)) k0 k1
noncomputable def R_s_LeaseTake_6_0 (x0 : List T_Lease) (x2 : Int) (x8 : Int) (b00 : Int) (b01 : Int) (b02 : Int) (b03 : Int) (k0 : (List T_Lease) → Int → Int → Int → Int → Int → Option Ret) (k1 : (List T_Lease) → Int → Int → Int → Int → Option Ret) : Option Ret := Q_s_LeaseTake_6_0 (List.length x0 + x2.toNat + x8.toNat + b00.toNat + b01.toNat + b02.toNat + b03.toNat + 2) x0 x2 x8 b00 b01 b02 b03 k0 k1
noncomputable def W_s_LeaseTake_6 : LoopFn := (fun (σ : St) (K : Ex → St → Option Ret) => (match sh_s_LeaseTake_6_0.un σ with | some d => w_s_LeaseTake_6_0 d (fun x0 x2 x8 b00 b01 b02 b03 => R_s_LeaseTake_6_0 x0 x2 x8 b00 b01 b02 b03 (fun x0 x7 b00 b01 b02 b03 => (K .ret (z_s_LeaseTake_6_0 x0 x7 b00 b01 b02 b03))) (fun x0 b00 b01 b02 b03 => (K (.ext 0) (z_s_LeaseTake_6_1 x0 b00 b01 b02 b03)))) | none => none))
noncomputable abbrev pl_s_LeaseTake : List (Nat × Plan × List Nat) := [(8, takeB [0, 1, 2, 3, 4, 5, 6, 7, 8, 9, 10, 11, 12, 13, 14, 15, 16, 17, 18, 19, 20, 21, 22] (.fork (.one 23 (takes [24]))), [])]
noncomputable abbrev ls_s_LeaseTake : List (Nat × Bool × Sm) := [(N.s_LeasesOk, true, S_s_LeasesOk), (N.s_l07Right, true, S_s_l07Right), (N.s_l07Clock, true, S_s_l07Clock), (N.s_l07Meet, true, S_s_l07Meet), (N.s_l07At, true, S_s_l07At), (N.s_l07Put, true, S_s_l07Put)]
noncomputable abbrev E_s_LeaseTake : Env := En ls_s_LeaseTake pl_s_LeaseTake [(6, [0,2,4,8], [0,4,6,7], W_s_LeaseTake_6)] [] false 0 []
noncomputable abbrev U_s_LeaseTake_6 := rounds (run E_s_LeaseTake (bodyOf F.s_LeaseTake 6)) [0,2,4,8] [0,4,6,7]
theorem st_s_LeaseTake_6_0 (m : Nat) (x0 : List T_Lease) (x2 : Int) (x8 : Int) (b00 : Int) (b01 : Int) (b02 : Int) (b03 : Int) (K : Ex → St → Option Ret) : U_s_LeaseTake_6 (m + 1) (s_s_LeaseTake_6_0 x0 x2 x8 b00 b01 b02 b03) K = P_s_LeaseTake_6_0 x0 x2 x8 b00 b01 b02 b03 (fun x0 x2 x8 b00 b01 b02 b03 => (U_s_LeaseTake_6 m (s_s_LeaseTake_6_0 x0 x2 x8 b00 b01 b02 b03) K)) (fun x0 x7 b00 b01 b02 b03 => (K .ret (z_s_LeaseTake_6_0 x0 x7 b00 b01 b02 b03))) (fun x0 b00 b01 b02 b03 => (K (.ext 0) (z_s_LeaseTake_6_1 x0 b00 b01 b02 b03))) := by kernel_rfl
theorem q_s_LeaseTake_6 (K : Ex → St → Option Ret) : ∀ m : Nat, (∀ (x0 : List T_Lease) (x2 : Int) (x8 : Int) (b00 : Int) (b01 : Int) (b02 : Int) (b03 : Int), U_s_LeaseTake_6 m (s_s_LeaseTake_6_0 x0 x2 x8 b00 b01 b02 b03) K = Q_s_LeaseTake_6_0 m x0 x2 x8 b00 b01 b02 b03 (fun x0 x7 b00 b01 b02 b03 => (K .ret (z_s_LeaseTake_6_0 x0 x7 b00 b01 b02 b03))) (fun x0 b00 b01 b02 b03 => (K (.ext 0) (z_s_LeaseTake_6_1 x0 b00 b01 b02 b03))))
  | 0 => (fun _ _ _ _ _ _ _ => rfl)
  | m + 1 => (fun x0 x2 x8 b00 b01 b02 b03 => (by rw [st_s_LeaseTake_6_0, show (fun x0 x2 x8 b00 b01 b02 b03 => (U_s_LeaseTake_6 m (s_s_LeaseTake_6_0 x0 x2 x8 b00 b01 b02 b03) K)) = (fun x0 x2 x8 b00 b01 b02 b03 => (Q_s_LeaseTake_6_0 m x0 x2 x8 b00 b01 b02 b03 (fun x0 x7 b00 b01 b02 b03 => (K .ret (z_s_LeaseTake_6_0 x0 x7 b00 b01 b02 b03))) (fun x0 b00 b01 b02 b03 => (K (.ext 0) (z_s_LeaseTake_6_1 x0 b00 b01 b02 b03))))) from funext fun x0 => funext fun x2 => funext fun x8 => funext fun b00 => funext fun b01 => funext fun b02 => funext fun b03 => (q_s_LeaseTake_6 K m) x0 x2 x8 b00 b01 b02 b03]; rfl))
theorem loopK_s_LeaseTake_6 : LoopOk E_s_LeaseTake (bodyOf F.s_LeaseTake 6) := by
  refine loopW_ok (n := 6) (F := W_s_LeaseTake_6) (by kernel_rfl) rfl (li := [0,2,4,8]) (lo := [0,4,6,7]) rfl (fun σ K r hr => ?_)
  unfold W_s_LeaseTake_6 at hr
  split at hr
  · rename_i d hd
    rw [Ss.un_mk hd]
    exact ⟨_, ((congrArg (fun z => U_s_LeaseTake_6 _ z K) (se_s_LeaseTake_6_0 _ _ _ _ _ _ _)).trans ((q_s_LeaseTake_6 K _) _ _ _ _ _ _ _)).trans hr⟩
  · cases hr
noncomputable def T_s_LeaseTake (l : List T_Lease) (x : T_Lease) (n : Int) (K : Ret → Option Ret) : Option Ret := (bif (Nat.ble (List.length l) 1048576) then (bif (!(leasesOkD l)) then K ((.t [(.l .deep leaseR []), (.s (.int .i64 (1 : Int)))]), []) else (bif (!(leaseOkD x)) then K ((.t [(.l .deep leaseR []), (.s (.int .i64 (1 : Int)))]), []) else (bif (!(clockD n)) then K ((.t [(.l .deep leaseR []), (.s (.int .i64 (1 : Int)))]), []) else (bif (x.1 == x.2.1) then K ((.t [(.l .deep leaseR []), (.s (.int .i64 (1 : Int)))]), []) else (bif (decide (x.2.2.2 ≤ n)) then K ((.t [(.l .deep leaseR []), (.s (.int .i64 (2 : Int)))]), []) else (R_s_LeaseTake_6_0 l n (0 : Int) x.1 x.2.1 x.2.2.1 x.2.2.2 (fun y0 y1 y2 y3 y4 y5 => K ((.t [(.l .deep leaseR []), (.s (.int .i64 y1))]), [])) (fun y6 y7 y8 y9 y10 => (bif (Nat.ble (List.length y6) 1048576) then (bif (decide ((idxF (fun o => (oneD o (y7, (y8, (y9, y10))))) y6) ≥ (0 : Int))) then K ((.t [(.l .deep leaseR []), (.s (.int .i64 (4 : Int)))]), []) else (bif ((((List.length y6) : Nat) : Int) == (12 : Int)) then K ((.t [(.l .deep leaseR []), (.s (.int .i64 (4 : Int)))]), []) else (bif (Nat.ble (List.length y6) 1048576) then K ((.t [(.l .deep leaseR (putD y6 (y7, (y8, (y9, y10))))), (.s (.int .i64 (0 : Int)))]), []) else none))) else none)))))))) else none)
theorem e_s_LeaseTake (l : List T_Lease) (x : T_Lease) (n : Int) (K : Ret → Option Ret) : evF E_s_LeaseTake true F.s_LeaseTake [.l .no leaseR l, .a (leaseR.cells .no x), .s (.int .i64 n)] K = T_s_LeaseTake l x n K := by kernel_rfl
def S_s_LeaseTake : Sm := S_fnR [.l leaseR, .a leaseR, .i] (fun d => Nat.ble d.1.length 1048576) (fun d => (.t [.l .deep leaseR (takeD d.1 d.2.1 d.2.2.1).1, .s (.int .i64 (takeD d.1 d.2.1 d.2.2.1).2)], []))
theorem v_s_LeaseTake (l : List T_Lease) (x : T_Lease) (n : Int) (h : (Nat.ble l.length 1048576) = true) (K : Ret → Option Ret) : T_s_LeaseTake l x n K = K (.t [.l .deep leaseR (takeD l x n).1, .s (.int .i64 (takeD l x n).2)], []) := by
  have hl := Nat.le_of_ble_eq_true h
  unfold T_s_LeaseTake takeD
  rw [h]
  cases leasesOkD l
  · rfl
  cases leaseOkD x
  · rfl
  cases clockD n
  · rfl
  cases hx : (x.1 == x.2.1) with
  | true => rw [show (x.1 != x.2.1) = false by unfold bne; rw [hx]; rfl]; rfl
  | false =>
  rw [show (x.1 != x.2.1) = true by unfold bne; rw [hx]; rfl]
  cases decide (x.2.2.2 ≤ n)
  case true => rfl
  have q := idx_all (R := fun m i => Q_s_LeaseTake_6_0 m l n i x.1 x.2.1 x.2.2.1 x.2.2.2 (fun y0 y1 y2 y3 y4 y5 => K ((.t [(.l .deep leaseR []), (.s (.int .i64 y1))]), [])) (fun y6 y7 y8 y9 y10 =>
       (bif (Nat.ble (List.length y6) 1048576) then
        (bif (decide ((idxF (fun o => (oneD o (y7, (y8, (y9, y10))))) y6) ≥ (0 : Int))) then
         K ((.t [(.l .deep leaseR []), (.s (.int .i64 (4 : Int)))]), [])
         else (bif ((((List.length y6) : Nat) : Int) == (12 : Int)) then
          K ((.t [(.l .deep leaseR []), (.s (.int .i64 (4 : Int)))]), [])
          else (bif (Nat.ble (List.length y6) 1048576) then
           K ((.t [(.l .deep leaseR (putD y6 (y7, (y8, (y9, y10))))), (.s (.int .i64 (0 : Int)))]), [])
           else none)))
        else none))) (p := fun o : T_Lease => !((o.2.2.1 != x.2.2.1) && decide (o.2.2.2 > n) && meetD o x)) (xs := l) (z := leaseR.dflt) (kf := K ((.t [(.l .deep leaseR []), (.s (.int .i64 3))]), [])) (kt := (bif (Nat.ble (List.length l) 1048576) then
        (bif (decide ((idxF (fun o => (oneD o x)) l) ≥ (0 : Int))) then
         K ((.t [(.l .deep leaseR []), (.s (.int .i64 (4 : Int)))]), [])
         else (bif ((((List.length l) : Nat) : Int) == (12 : Int)) then
          K ((.t [(.l .deep leaseR []), (.s (.int .i64 (4 : Int)))]), [])
          else (bif (Nat.ble (List.length l) 1048576) then
           K ((.t [(.l .deep leaseR (putD l x)), (.s (.int .i64 (0 : Int)))]), [])
           else none)))
        else none)) (fun m i hi => by
    show P_s_LeaseTake_6_0 l n ((i : Nat) : Int) x.1 x.2.1 x.2.2.1 x.2.2.2 _ _ _ = _
    unfold P_s_LeaseTake_6_0
    rw [decide_eq_true (show ((i : Nat) : Int) < ((l.length : Nat) : Int) by omega), decide_eq_true (show (0 : Int) ≤ ((i : Nat) : Int) by omega), Int.toNat_natCast, wrap_nat (by omega)]
    show _ = bif !(((l.getD i leaseR.dflt).2.2.1 != x.2.2.1) && decide ((l.getD i leaseR.dflt).2.2.2 > n) && meetD (l.getD i leaseR.dflt) (x.1, (x.2.1, (x.2.2.1, x.2.2.2)))) then _ else _
    cases ((l.getD i leaseR.dflt).2.2.1 != x.2.2.1)
    · rfl
    cases decide ((l.getD i leaseR.dflt).2.2.2 > n)
    · rfl
    cases meetD (l.getD i leaseR.dflt) (x.1, (x.2.1, (x.2.2.1, x.2.2.2))) <;> rfl) (fun m => by
    show P_s_LeaseTake_6_0 l n ((l.length : Nat) : Int) x.1 x.2.1 x.2.2.1 x.2.2.2 _ _ _ = _
    unfold P_s_LeaseTake_6_0
    rw [decide_eq_false (show ¬ ((l.length : Nat) : Int) < ((l.length : Nat) : Int) by omega)]; rfl) (List.length l + n.toNat + (0 : Int).toNat + x.1.toNat + x.2.1.toNat + x.2.2.1.toNat + x.2.2.2.toNat + 2) 0 (by omega) (by omega)
  refine Eq.trans q ?_
  rw [List.drop_zero, List.all_eq_not_any_not]
  simp only [Bool.not_not, h, cond_true]
  cases l.any (fun o => (o.2.2.1 != x.2.2.1) && decide (o.2.2.2 > n) && meetD o x)
  · cases decide (idxF (fun o => oneD o x) l ≥ 0)
    · cases (((l.length : Nat) : Int) == 12) <;> rfl
    · rfl
  · rfl
theorem okS_s_LeaseTake : OkFn prog I N.s_LeaseTake true S_s_LeaseTake := okN (ok_fn (memc okS_s_LeasesOk (memc okS_s_l07Right (memc okS_s_l07Clock (memc okS_s_l07Meet (memc okS_s_l07At (memc okS_s_l07Put mem0)))))) (l := ls_s_LeaseTake) (p := pl_s_LeaseTake) (ls := [(6, [0,2,4,8], [0,4,6,7], W_s_LeaseTake_6)]) (lend := []) (focus := false) (fuel := 0) (give := []) (fn := F.s_LeaseTake) (by kernel_rfl) (by kernel_rfl) (by kernel_rfl) (by kernel_rfl) (cs := [bodyOf F.s_LeaseTake 6]) (by kernel_rfl) (loopsc loopK_s_LeaseTake_6 loops0)) (S_fnR_of fun d K h => (e_s_LeaseTake d.1 d.2.1 d.2.2.1 K).trans (v_s_LeaseTake d.1 d.2.1 d.2.2.1 h K))
end Go.Ev.Seat
end
section
/- A function cut behind one of its regions: what comes after is looked at once. -/
set_option linter.unusedVariables false
namespace Go.Ev
open Go.RowKit
end Go.Ev
end
section
/- More about what is drawn. -/
set_option linter.unusedVariables false
namespace Go.Ev
open Go.RowKit
theorem rng_nil {i : Nat} : -9223372036854775808 ≤ ([] : List Int).getD i 0 ∧ ([] : List Int).getD i 0 ≤ 9223372036854775807 := by
  rw [List.getD_nil]; omega
theorem rng_cons {x : Int} {l : List Int} {i : Nat} (h : -9223372036854775808 ≤ x ∧ x ≤ 9223372036854775807) (hl : ∀ {i : Nat}, -9223372036854775808 ≤ l.getD i 0 ∧ l.getD i 0 ≤ 9223372036854775807) : -9223372036854775808 ≤ (x :: l).getD i 0 ∧ (x :: l).getD i 0 ≤ 9223372036854775807 := by
  cases i with
  | zero => exact h
  | succ i => exact hl
def rngB (l : List Int) : Bool := l.all fun x => decide (-9223372036854775808 ≤ x) && decide (x ≤ 9223372036854775807)
theorem rng_get : ∀ {l : List Int} {i : Nat}, rngB l = true → -9223372036854775808 ≤ l.getD i 0 ∧ l.getD i 0 ≤ 9223372036854775807
  | [], _, _ => rng_nil
  | x :: l, i, h => by
    unfold rngB at h
    rw [List.all_cons, Bool.and_eq_true, Bool.and_eq_true, decide_eq_true_eq, decide_eq_true_eq] at h
    exact rng_cons h.1 (fun {j} => rng_get (l := l) (i := j) h.2)
theorem Dr.leafN {P : Ret → Prop} {r : Ret} (h : P (noR r.1, r.2)) (hk : r.1.okNo = true) : Dr P (fun K : Ret → Option Ret => noK K r) := ⟨_, h, fun K => by unfold noK; rw [hk]; rfl⟩
end Go.Ev
end
section
/- s_l01Cur_raw: its contract. -/
namespace Go.Ev.Seat
open Go.RowKit
set_option maxRecDepth 100000
set_option linter.unusedVariables false
set_option linter.unusedSimpArgs false
noncomputable abbrev ls_s_l01Cur_raw : List (Nat × Bool × Sm) := [(N.s_l01Cur_pick, false, (SB_s_l01Cur_pick B_s_l01Cur_pick))]
noncomputable abbrev E_s_l01Cur_raw : Env := En ls_s_l01Cur_raw [] [] [] false 0 []
noncomputable def T_s_l01Cur_raw (cc : List Int) (ca : Int) (cs : Int) (K : Ret → Option Ret) : Option Ret := (B_s_l01Cur_pick cc ca cs (8 : Int) (fun y0 y1 y2 => (bif (y0 == (0 : Int)) then (B_s_l01Cur_pick cc y1 y2 (256 : Int) (fun y3 y4 y5 => K ((.s (.int .i64 (IntKind.wrap .i64 (y3 - (128 : Int))))), [(.io [(.l .no bytesR cc), (.s (.int .i64 y4)), (.s (.int .i64 y5))])]))) else (bif (y0 == (1 : Int)) then (B_s_l01Cur_pick cc y1 y2 (8 : Int) (fun y6 y7 y8 => (bif ((decide ((0 : Int) ≤ y6)) && (decide (y6 < (((List.length ((9223372036854775807 : Int) :: ((-(9223372036854775808 : Int)) :: ((4611686018427387904 : Int) :: ((55296 : Int) :: ((57343 : Int) :: ((65536 : Int) :: ((1114111 : Int) :: ((1114112 : Int) :: ([] : List Int)))))))))) : Nat) : Int)))) then K ((.s (.int .i64 (List.getD ((9223372036854775807 : Int) :: ((-(9223372036854775808 : Int)) :: ((4611686018427387904 : Int) :: ((55296 : Int) :: ((57343 : Int) :: ((65536 : Int) :: ((1114111 : Int) :: ((1114112 : Int) :: ([] : List Int))))))))) (Int.toNat y6) (0 : Int)))), [(.io [(.l .no bytesR cc), (.s (.int .i64 y7)), (.s (.int .i64 y8))])]) else none))) else (B_s_l01Cur_pick cc y1 y2 (14 : Int) (fun y9 y10 y11 => K ((.s (.int .i64 (IntKind.wrap .i64 (y9 - (3 : Int))))), [(.io [(.l .no bytesR cc), (.s (.int .i64 y10)), (.s (.int .i64 y11))])])))))))
theorem e_s_l01Cur_raw (cc : List Int) (ca : Int) (cs : Int) (K : Ret → Option Ret) : evF E_s_l01Cur_raw false F.s_l01Cur_raw [.io [.l .no bytesR cc, .s (.int .i64 ca), .s (.int .i64 cs)]] K = T_s_l01Cur_raw cc ca cs K := by kernel_rfl
theorem x_s_l01Cur_raw (cc : List Int) (ca : Int) (cs : Int) (h : (curB 3000000000000000000 cc ca cs) = true) : ∃ (y : Int) (a : Int) (s : Int), ((-9223372036854775808 ≤ y ∧ y ≤ 9223372036854775807) ∧ 0 ≤ a ∧ a ≤ ca + 2 ∧ 0 ≤ s ∧ s < 65536) ∧ ∀ K : Ret → Option Ret, T_s_l01Cur_raw cc ca cs K = K (.s (.int .i64 y), [.io [.l .no bytesR cc, .s (.int .i64 a), .s (.int .i64 s)]]) := by
  suffices hd : Dr (fun r : Ret => ∃ (y : Int) (a : Int) (s : Int), ((-9223372036854775808 ≤ y ∧ y ≤ 9223372036854775807) ∧ 0 ≤ a ∧ a ≤ ca + 2 ∧ 0 ≤ s ∧ s < 65536) ∧ r = (.s (.int .i64 y), [.io [.l .no bytesR cc, .s (.int .i64 a), .s (.int .i64 s)]])) (fun K : Ret → Option Ret => T_s_l01Cur_raw cc ca cs K) by
    obtain ⟨_, ⟨y, a, s, hp, rfl⟩, hk⟩ := hd
    exact ⟨y, a, s, hp, hk⟩
  obtain ⟨hf, h2, h3, h4, h5⟩ := curB_iff.1 h
  have hl := fitB_len hf
  unfold T_s_l01Cur_raw
  repeat' first
    | exact Dr.leaf ⟨_, _, _, ⟨by first | omega | exact rng_get rfl, by omega, by omega, by omega, by omega⟩, rfl⟩
    | refine Dr.b3 (b_s_l01Cur_pick _ _ _ _ (curB_iff.2 ⟨hf, by omega, by omega, by omega, by omega⟩)) (fun _ _ _ hy => ?_)
    | refine Dr.meet ?_
    | simp (disch := omega) only [wrap_in]
    | refine Dr.must (by first | rfl | (simp only [List.length_cons, List.length_nil, BEq.rfl, Bool.true_and, Bool.and_eq_true, decide_eq_true_eq]; omega)) ?_
    | refine Dr.bif (fun hb => ?_) (fun hb => ?_)
noncomputable def g_s_l01Cur_raw (cc : List Int) (ca : Int) (cs : Int) : Int × Int × Int := Classical.epsilon fun g => ((-9223372036854775808 ≤ (g).1 ∧ (g).1 ≤ 9223372036854775807) ∧ 0 ≤ (g).2.1 ∧ (g).2.1 ≤ ca + 2 ∧ 0 ≤ (g).2.2 ∧ (g).2.2 < 65536) ∧ ∀ K : Ret → Option Ret, T_s_l01Cur_raw cc ca cs K = K (.s (.int .i64 (g).1), [.io [.l .no bytesR cc, .s (.int .i64 (g).2.1), .s (.int .i64 (g).2.2)]])
theorem gs_s_l01Cur_raw (cc : List Int) (ca : Int) (cs : Int) (h : (curB 3000000000000000000 cc ca cs) = true) : ((-9223372036854775808 ≤ (g_s_l01Cur_raw cc ca cs).1 ∧ (g_s_l01Cur_raw cc ca cs).1 ≤ 9223372036854775807) ∧ 0 ≤ (g_s_l01Cur_raw cc ca cs).2.1 ∧ (g_s_l01Cur_raw cc ca cs).2.1 ≤ ca + 2 ∧ 0 ≤ (g_s_l01Cur_raw cc ca cs).2.2 ∧ (g_s_l01Cur_raw cc ca cs).2.2 < 65536) ∧ ∀ K : Ret → Option Ret, T_s_l01Cur_raw cc ca cs K = K (.s (.int .i64 (g_s_l01Cur_raw cc ca cs).1), [.io [.l .no bytesR cc, .s (.int .i64 (g_s_l01Cur_raw cc ca cs).2.1), .s (.int .i64 (g_s_l01Cur_raw cc ca cs).2.2)]]) := by
  obtain ⟨y, a, s, hy, hk⟩ := x_s_l01Cur_raw cc ca cs h
  exact Classical.epsilon_spec (p := fun g : Int × Int × Int => ((-9223372036854775808 ≤ (g).1 ∧ (g).1 ≤ 9223372036854775807) ∧ 0 ≤ (g).2.1 ∧ (g).2.1 ≤ ca + 2 ∧ 0 ≤ (g).2.2 ∧ (g).2.2 < 65536) ∧ ∀ K : Ret → Option Ret, T_s_l01Cur_raw cc ca cs K = K (.s (.int .i64 (g).1), [.io [.l .no bytesR cc, .s (.int .i64 (g).2.1), .s (.int .i64 (g).2.2)]])) ⟨⟨y, a, s⟩, hy, hk⟩
noncomputable def B_s_l01Cur_raw (cc : List Int) (ca : Int) (cs : Int) (k : (Int) → (Int) → (Int) → Option Ret) : Option Ret := bif curB 3000000000000000000 cc ca cs then k (g_s_l01Cur_raw cc ca cs).1 (g_s_l01Cur_raw cc ca cs).2.1 (g_s_l01Cur_raw cc ca cs).2.2 else none
theorem b_s_l01Cur_raw (cc : List Int) (ca : Int) (cs : Int) (h : (curB 3000000000000000000 cc ca cs) = true) : ∃ (y : Int) (a : Int) (s : Int), ((-9223372036854775808 ≤ y ∧ y ≤ 9223372036854775807) ∧ 0 ≤ a ∧ a ≤ ca + 2 ∧ 0 ≤ s ∧ s < 65536) ∧ ∀ k, B_s_l01Cur_raw cc ca cs k = k y a s :=
  ⟨(g_s_l01Cur_raw cc ca cs).1, (g_s_l01Cur_raw cc ca cs).2.1, (g_s_l01Cur_raw cc ca cs).2.2, (gs_s_l01Cur_raw cc ca cs h).1, fun k => by unfold B_s_l01Cur_raw; rw [h]; rfl⟩
def SB_s_l01Cur_raw (B : (List Int) → (Int) → (Int) → ((Int) → (Int) → (Int) → Option Ret) → Option Ret) : Sm := S_B [.sh (.io (.cons (.l .no bytesR) (.cons (.int .i64) (.cons (.int .i64) .nil))))] (fun d K => B d.1.1 d.1.2.1 d.1.2.2.1 (fun y a s => K (.s (.int .i64 y), [.io [.l .no bytesR d.1.1, .s (.int .i64 a), .s (.int .i64 s)]])))
theorem okS_s_l01Cur_raw : OkFn prog I N.s_l01Cur_raw false (SB_s_l01Cur_raw B_s_l01Cur_raw) := okN (ok_fn (memc okS_s_l01Cur_pick mem0) (l := ls_s_l01Cur_raw) (p := []) (ls := []) (lend := []) (focus := false) (fuel := 0) (give := []) (fn := F.s_l01Cur_raw) (by kernel_rfl) (by kernel_rfl) (by kernel_rfl) (by kernel_rfl) (cs := []) (by kernel_rfl) loops0) (S_B_of fun d K q hq => by
  refine (e_s_l01Cur_raw d.1.1 d.1.2.1 d.1.2.2.1 K).trans ?_
  unfold B_s_l01Cur_raw at hq
  cases hp : (curB 3000000000000000000 d.1.1 d.1.2.1 d.1.2.2.1) with
  | false => rw [hp] at hq; cases hq
  | true =>
    rw [hp] at hq
    exact ((gs_s_l01Cur_raw d.1.1 d.1.2.1 d.1.2.2.1 hp).2 K).trans hq)
end Go.Ev.Seat
end
section
/- s_l01Cur_badLease: its contract. -/
namespace Go.Ev.Seat
open Go.RowKit
set_option maxRecDepth 100000
set_option linter.unusedVariables false
set_option linter.unusedSimpArgs false
noncomputable abbrev pl_s_l01Cur_badLease : List (Nat × Plan × List Nat) := [(6, takeB [0, 2, 3, 5] (.fork (.one 1 (.fork (.more 4 (.fork (.one 6 (takeB [7] (.fork (.one 8 (takeB [9] (.fork (.one 10 (.done))))))))) (.one 6 (.fork (.one 4 (takeB [7] (.fork (.one 8 (takeB [9] (.fork (.one 10 (.done)))))))))))))), [0])]
noncomputable abbrev ls_s_l01Cur_badLease : List (Nat × Bool × Sm) := [(N.s_l01Cur_lease, false, (SB_s_l01Cur_lease B_s_l01Cur_lease)), (N.s_l01Cur_pick, false, (SB_s_l01Cur_pick B_s_l01Cur_pick)), (N.s_l01Cur_raw, false, (SB_s_l01Cur_raw B_s_l01Cur_raw))]
noncomputable abbrev E_s_l01Cur_badLease : Env := En ls_s_l01Cur_badLease pl_s_l01Cur_badLease [] [] false 0 []
noncomputable def T_s_l01Cur_badLease (cc : List Int) (ca : Int) (cs : Int) (K : Ret → Option Ret) : Option Ret := (B_s_l01Cur_lease cc ca cs (fun y0 y1 y2 y3 y4 y5 => (B_s_l01Cur_pick cc y4 y5 (14 : Int) (fun y6 y7 y8 => (bif (y6 == (0 : Int)) then (B_s_l01Cur_raw cc y7 y8 (fun y9 y10 y11 => K ((.a [(.s (.int .i64 y9)), (.s (.int .i64 y1)), (.s (.int .i64 y2)), (.s (.int .i64 y3))]), [(.io [(.l .no bytesR cc), (.s (.int .i64 y10)), (.s (.int .i64 y11))])]))) else (bif (y6 == (1 : Int)) then (B_s_l01Cur_raw cc y7 y8 (fun y12 y13 y14 => (meet ((B_s_l01Cur_pick cc y13 y14 (4 : Int) (fun y15 y16 y17 => (bif ((decide ((0 : Int) ≤ y15)) && (decide (y15 < (((List.length (y12 :: (y0 :: ((400 : Int) :: ((401 : Int) :: ([] : List Int)))))) : Nat) : Int)))) then K ((.a [(.s (.int .i64 y0)), (.s (.int .i64 (List.getD (y12 :: (y0 :: ((400 : Int) :: ((401 : Int) :: ([] : List Int))))) (Int.toNat y15) (0 : Int)))), (.s (.int .i64 y2)), (.s (.int .i64 y3))]), [(.io [(.l .no bytesR cc), (.s (.int .i64 y16)), (.s (.int .i64 y17))])]) else none)))) ((B_s_l01Cur_pick cc y13 y14 (4 : Int) (fun y18 y19 y20 => (bif ((decide ((0 : Int) ≤ y18)) && (decide (y18 < (((List.length (y12 :: (y0 :: ((400 : Int) :: ((401 : Int) :: ([] : List Int)))))) : Nat) : Int)))) then K ((.a [(.s (.int .i64 y0)), (.s (.int .i64 (List.getD (y12 :: (y0 :: ((400 : Int) :: ((401 : Int) :: ([] : List Int))))) (Int.toNat y18) (0 : Int)))), (.s (.int .i64 y2)), (.s (.int .i64 y3))]), [(.io [(.l .no bytesR cc), (.s (.int .i64 y19)), (.s (.int .i64 y20))])]) else none))))))) else (bif (y6 == (2 : Int)) then (B_s_l01Cur_raw cc y7 y8 (fun y21 y22 y23 => (B_s_l01Cur_pick cc y22 y23 (3 : Int) (fun y24 y25 y26 => (bif ((decide ((0 : Int) ≤ y24)) && (decide (y24 < (((List.length (y21 :: ((8 : Int) :: ((9 : Int) :: ([] : List Int))))) : Nat) : Int)))) then K ((.a [(.s (.int .i64 y0)), (.s (.int .i64 y1)), (.s (.int .i64 (List.getD (y21 :: ((8 : Int) :: ((9 : Int) :: ([] : List Int)))) (Int.toNat y24) (0 : Int)))), (.s (.int .i64 y3))]), [(.io [(.l .no bytesR cc), (.s (.int .i64 y25)), (.s (.int .i64 y26))])]) else none))))) else (bif (y6 == (3 : Int)) then (B_s_l01Cur_raw cc y7 y8 (fun y27 y28 y29 => (B_s_l01Cur_pick cc y28 y29 (3 : Int) (fun y30 y31 y32 => (bif ((decide ((0 : Int) ≤ y30)) && (decide (y30 < (((List.length (y27 :: ((1000 : Int) :: ((1001 : Int) :: ([] : List Int))))) : Nat) : Int)))) then K ((.a [(.s (.int .i64 y0)), (.s (.int .i64 y1)), (.s (.int .i64 y2)), (.s (.int .i64 (List.getD (y27 :: ((1000 : Int) :: ((1001 : Int) :: ([] : List Int)))) (Int.toNat y30) (0 : Int))))]), [(.io [(.l .no bytesR cc), (.s (.int .i64 y31)), (.s (.int .i64 y32))])]) else none))))) else K ((.a [(.s (.int .i64 y0)), (.s (.int .i64 y1)), (.s (.int .i64 y2)), (.s (.int .i64 y3))]), [(.io [(.l .no bytesR cc), (.s (.int .i64 y7)), (.s (.int .i64 y8))])])))))))))
theorem e_s_l01Cur_badLease (cc : List Int) (ca : Int) (cs : Int) (K : Ret → Option Ret) : evF E_s_l01Cur_badLease false F.s_l01Cur_badLease [.io [.l .no bytesR cc, .s (.int .i64 ca), .s (.int .i64 cs)]] K = T_s_l01Cur_badLease cc ca cs K := by kernel_rfl
theorem x_s_l01Cur_badLease (cc : List Int) (ca : Int) (cs : Int) (h : (curB 1000000000000000000 cc ca cs) = true) : ∃ (y0 : Int) (y1 : Int) (y2 : Int) (y3 : Int) (a : Int) (s : Int), (0 ≤ a ∧ a ≤ ca + 20 ∧ 0 ≤ s ∧ s < 65536) ∧ ∀ K : Ret → Option Ret, T_s_l01Cur_badLease cc ca cs K = K (.a [.s (.int .i64 y0), .s (.int .i64 y1), .s (.int .i64 y2), .s (.int .i64 y3)], [.io [.l .no bytesR cc, .s (.int .i64 a), .s (.int .i64 s)]]) := by
  suffices hd : Dr (fun r : Ret => ∃ (y0 : Int) (y1 : Int) (y2 : Int) (y3 : Int) (a : Int) (s : Int), (0 ≤ a ∧ a ≤ ca + 20 ∧ 0 ≤ s ∧ s < 65536) ∧ r = (.a [.s (.int .i64 y0), .s (.int .i64 y1), .s (.int .i64 y2), .s (.int .i64 y3)], [.io [.l .no bytesR cc, .s (.int .i64 a), .s (.int .i64 s)]])) (fun K : Ret → Option Ret => T_s_l01Cur_badLease cc ca cs K) by
    obtain ⟨_, ⟨y0, y1, y2, y3, a, s, hp, rfl⟩, hk⟩ := hd
    exact ⟨y0, y1, y2, y3, a, s, hp, hk⟩
  obtain ⟨hf, h2, h3, h4, h5⟩ := curB_iff.1 h
  have hl := fitB_len hf
  unfold T_s_l01Cur_badLease
  repeat' first
    | exact Dr.leaf ⟨_, _, _, _, _, _, ⟨by omega, by omega, by omega, by omega⟩, rfl⟩
    | refine Dr.b3 (b_s_l01Cur_pick _ _ _ _ (curB_iff.2 ⟨hf, by omega, by omega, by omega, by omega⟩)) (fun _ _ _ hy => ?_)
    | refine Dr.b3 (b_s_l01Cur_raw _ _ _ (curB_iff.2 ⟨hf, by omega, by omega, by omega, by omega⟩)) (fun _ _ _ hy => ?_)
    | refine Dr.b6 (b_s_l01Cur_lease _ _ _ (curB_iff.2 ⟨hf, by omega, by omega, by omega, by omega⟩)) (fun _ _ _ _ _ _ hy => ?_)
    | refine Dr.meet ?_
    | simp (disch := omega) only [wrap_in]
    | refine Dr.must (by first | rfl | (simp only [List.length_cons, List.length_nil, BEq.rfl, Bool.true_and, Bool.and_eq_true, decide_eq_true_eq]; omega)) ?_
    | refine Dr.bif (fun hb => ?_) (fun hb => ?_)
noncomputable def g_s_l01Cur_badLease (cc : List Int) (ca : Int) (cs : Int) : Int × Int × Int × Int × Int × Int := Classical.epsilon fun g => (0 ≤ (g).2.2.2.2.1 ∧ (g).2.2.2.2.1 ≤ ca + 20 ∧ 0 ≤ (g).2.2.2.2.2 ∧ (g).2.2.2.2.2 < 65536) ∧ ∀ K : Ret → Option Ret, T_s_l01Cur_badLease cc ca cs K = K (.a [.s (.int .i64 (g).1), .s (.int .i64 (g).2.1), .s (.int .i64 (g).2.2.1), .s (.int .i64 (g).2.2.2.1)], [.io [.l .no bytesR cc, .s (.int .i64 (g).2.2.2.2.1), .s (.int .i64 (g).2.2.2.2.2)]])
theorem gs_s_l01Cur_badLease (cc : List Int) (ca : Int) (cs : Int) (h : (curB 1000000000000000000 cc ca cs) = true) : (0 ≤ (g_s_l01Cur_badLease cc ca cs).2.2.2.2.1 ∧ (g_s_l01Cur_badLease cc ca cs).2.2.2.2.1 ≤ ca + 20 ∧ 0 ≤ (g_s_l01Cur_badLease cc ca cs).2.2.2.2.2 ∧ (g_s_l01Cur_badLease cc ca cs).2.2.2.2.2 < 65536) ∧ ∀ K : Ret → Option Ret, T_s_l01Cur_badLease cc ca cs K = K (.a [.s (.int .i64 (g_s_l01Cur_badLease cc ca cs).1), .s (.int .i64 (g_s_l01Cur_badLease cc ca cs).2.1), .s (.int .i64 (g_s_l01Cur_badLease cc ca cs).2.2.1), .s (.int .i64 (g_s_l01Cur_badLease cc ca cs).2.2.2.1)], [.io [.l .no bytesR cc, .s (.int .i64 (g_s_l01Cur_badLease cc ca cs).2.2.2.2.1), .s (.int .i64 (g_s_l01Cur_badLease cc ca cs).2.2.2.2.2)]]) := by
  obtain ⟨y0, y1, y2, y3, a, s, hy, hk⟩ := x_s_l01Cur_badLease cc ca cs h
  exact Classical.epsilon_spec (p := fun g : Int × Int × Int × Int × Int × Int => (0 ≤ (g).2.2.2.2.1 ∧ (g).2.2.2.2.1 ≤ ca + 20 ∧ 0 ≤ (g).2.2.2.2.2 ∧ (g).2.2.2.2.2 < 65536) ∧ ∀ K : Ret → Option Ret, T_s_l01Cur_badLease cc ca cs K = K (.a [.s (.int .i64 (g).1), .s (.int .i64 (g).2.1), .s (.int .i64 (g).2.2.1), .s (.int .i64 (g).2.2.2.1)], [.io [.l .no bytesR cc, .s (.int .i64 (g).2.2.2.2.1), .s (.int .i64 (g).2.2.2.2.2)]])) ⟨⟨y0, y1, y2, y3, a, s⟩, hy, hk⟩
noncomputable def B_s_l01Cur_badLease (cc : List Int) (ca : Int) (cs : Int) (k : (Int) → (Int) → (Int) → (Int) → (Int) → (Int) → Option Ret) : Option Ret := bif curB 1000000000000000000 cc ca cs then k (g_s_l01Cur_badLease cc ca cs).1 (g_s_l01Cur_badLease cc ca cs).2.1 (g_s_l01Cur_badLease cc ca cs).2.2.1 (g_s_l01Cur_badLease cc ca cs).2.2.2.1 (g_s_l01Cur_badLease cc ca cs).2.2.2.2.1 (g_s_l01Cur_badLease cc ca cs).2.2.2.2.2 else none
theorem b_s_l01Cur_badLease (cc : List Int) (ca : Int) (cs : Int) (h : (curB 1000000000000000000 cc ca cs) = true) : ∃ (y0 : Int) (y1 : Int) (y2 : Int) (y3 : Int) (a : Int) (s : Int), (0 ≤ a ∧ a ≤ ca + 20 ∧ 0 ≤ s ∧ s < 65536) ∧ ∀ k, B_s_l01Cur_badLease cc ca cs k = k y0 y1 y2 y3 a s :=
  ⟨(g_s_l01Cur_badLease cc ca cs).1, (g_s_l01Cur_badLease cc ca cs).2.1, (g_s_l01Cur_badLease cc ca cs).2.2.1, (g_s_l01Cur_badLease cc ca cs).2.2.2.1, (g_s_l01Cur_badLease cc ca cs).2.2.2.2.1, (g_s_l01Cur_badLease cc ca cs).2.2.2.2.2, (gs_s_l01Cur_badLease cc ca cs h).1, fun k => by unfold B_s_l01Cur_badLease; rw [h]; rfl⟩
def SB_s_l01Cur_badLease (B : (List Int) → (Int) → (Int) → ((Int) → (Int) → (Int) → (Int) → (Int) → (Int) → Option Ret) → Option Ret) : Sm := S_B [.sh (.io (.cons (.l .no bytesR) (.cons (.int .i64) (.cons (.int .i64) .nil))))] (fun d K => B d.1.1 d.1.2.1 d.1.2.2.1 (fun y0 y1 y2 y3 a s => K (.a [.s (.int .i64 y0), .s (.int .i64 y1), .s (.int .i64 y2), .s (.int .i64 y3)], [.io [.l .no bytesR d.1.1, .s (.int .i64 a), .s (.int .i64 s)]])))
theorem okS_s_l01Cur_badLease : OkFn prog I N.s_l01Cur_badLease false (SB_s_l01Cur_badLease B_s_l01Cur_badLease) := okN (ok_fn (memc okS_s_l01Cur_lease (memc okS_s_l01Cur_pick (memc okS_s_l01Cur_raw mem0))) (l := ls_s_l01Cur_badLease) (p := pl_s_l01Cur_badLease) (ls := []) (lend := []) (focus := false) (fuel := 0) (give := []) (fn := F.s_l01Cur_badLease) (by kernel_rfl) (by kernel_rfl) (by kernel_rfl) (by kernel_rfl) (cs := []) (by kernel_rfl) loops0) (S_B_of fun d K q hq => by
  refine (e_s_l01Cur_badLease d.1.1 d.1.2.1 d.1.2.2.1 K).trans ?_
  unfold B_s_l01Cur_badLease at hq
  cases hp : (curB 1000000000000000000 d.1.1 d.1.2.1 d.1.2.2.1) with
  | false => rw [hp] at hq; cases hq
  | true =>
    rw [hp] at hq
    exact ((gs_s_l01Cur_badLease d.1.1 d.1.2.1 d.1.2.2.1 hp).2 K).trans hq)
end Go.Ev.Seat
end
section
/- s_l01Cur_leases: its contract. -/
namespace Go.Ev.Seat
open Go.RowKit
set_option maxRecDepth 100000
set_option linter.unusedVariables false
set_option linter.unusedSimpArgs false
def z_s_l01Cur_leases_3_0 (b00 : List Int) (b01 : Int) (b02 : Int) (o1 : List T_Lease) : St := { tm := ([(.pb 0 0), .x, .x, (.w 1)] ++ List.replicate 59 .x), ob := [(0, (.box [(.l .no bytesR b00), (.s (.int .i64 b01)), (.s (.int .i64 b02))])), (1, (.arr true true leaseR o1))], nx := 2, io := [(.pb 0 0)] }
def sh_s_l01Cur_leases_3_0 : Ss := { tm := (.cons (.pb 0 0) (.cons (.x) (.cons (.x) (.cons (.w 1) (.cons (.int .i64) (xsh 58)))))), ob := (.box (.cons (.l .no bytesR) (.cons (.int .i64) (.cons (.int .i64) .nil))) (.arr true true leaseR .nil)), nx := 2, io := (.cons (.pb 0 0) .nil) }
def d_s_l01Cur_leases_3_0 (x4 : Int) (b00 : List Int) (b01 : Int) (b02 : Int) (o1 : List T_Lease) : sh_s_l01Cur_leases_3_0.T := (((), ((), ((), ((), (x4, xd 58))))), ((b00, (b01, (b02, ()))), (o1, ())), ((), ()))
def s_s_l01Cur_leases_3_0 (x4 : Int) (b00 : List Int) (b01 : Int) (b02 : Int) (o1 : List T_Lease) : St := { tm := ([(.pb 0 0), .x, .x, (.w 1), (.s (.int .i64 x4))] ++ List.replicate 58 .x), ob := [(0, (.box [(.l .no bytesR b00), (.s (.int .i64 b01)), (.s (.int .i64 b02))])), (1, (.arr true true leaseR o1))], nx := 2, io := [(.pb 0 0)] }
theorem se_s_l01Cur_leases_3_0 (x4 : Int) (b00 : List Int) (b01 : Int) (b02 : Int) (o1 : List T_Lease) : sh_s_l01Cur_leases_3_0.mk' (d_s_l01Cur_leases_3_0 x4 b00 b01 b02 o1) = (s_s_l01Cur_leases_3_0 x4 b00 b01 b02 o1) := by kernel_rfl
def w_s_l01Cur_leases_3_0 (d : sh_s_l01Cur_leases_3_0.T) (f : Int → (List Int) → Int → Int → (List T_Lease) → Option Ret) : Option Ret := match d with | ((_, (_, (_, (_, (x4, _))))), ((b00, (b01, (b02, _))), (o1, _)), (_, _)) => f x4 b00 b01 b02 o1
noncomputable def P_s_l01Cur_leases_3_0 (x4 : Int) (b00 : List Int) (b01 : Int) (b02 : Int) (o1 : List T_Lease) (nx0 : Int → (List Int) → Int → Int → (List T_Lease) → Option Ret) (k0 : (List Int) → Int → Int → (List T_Lease) → Option Ret) : Option Ret := (bif (decide (x4 > (0 : Int))) then (B_s_l01Cur_lease b00 b01 b02 (fun y0 y1 y2 y3 y4 y5 => (bif (Nat.ble (List.length o1) 1048576) then (bif ((takeD o1 (y0, (y1, (y2, y3))) (0 : Int)).2 == (0 : Int)) then (nx0 (IntKind.wrap .i64 (x4 - (1 : Int))) b00 y4 y5 (takeD o1 (y0, (y1, (y2, y3))) (0 : Int)).1) else (nx0 (IntKind.wrap .i64 (x4 - (1 : Int))) b00 y4 y5 o1)) else none))) else (k0 b00 b01 b02 o1))
noncomputable def Q_s_l01Cur_leases_3_0 : Nat → Int → (List Int) → Int → Int → (List T_Lease) → ((List Int) → Int → Int → (List T_Lease) → Option Ret) → Option Ret
  | 0, _, _, _, _, _, _ => none
  | m + 1, x4, b00, b01, b02, o1, k0 => P_s_l01Cur_leases_3_0 x4 b00 b01 b02 o1 (fun x4 b00 b01 b02 o1 => (Q_s_l01Cur_leases_3_0 m x4 b00 b01 b02 o1 k0)) k0
noncomputable def R_s_l01Cur_leases_3_0 (x4 : Int) (b00 : List Int) (b01 : Int) (b02 : Int) (o1 : List T_Lease) (k0 : (List Int) → Int → Int → (List T_Lease) → Option Ret) : Option Ret := Q_s_l01Cur_leases_3_0 (x4.toNat + List.length b00 + b01.toNat + b02.toNat + List.length o1 + 2) x4 b00 b01 b02 o1 k0
noncomputable def W_s_l01Cur_leases_3 : LoopFn := (fun (σ : St) (K : Ex → St → Option Ret) => (match sh_s_l01Cur_leases_3_0.un σ with | some d => w_s_l01Cur_leases_3_0 d (fun x4 b00 b01 b02 o1 => R_s_l01Cur_leases_3_0 x4 b00 b01 b02 o1 (fun b00 b01 b02 o1 => (K (.ext 0) (z_s_l01Cur_leases_3_0 b00 b01 b02 o1)))) | none => none))
def z_s_l01Cur_leases_16_0 (o0 : List T_Lease) (b10 : List Int) (b11 : Int) (b12 : Int) : St := { tm := ([.x, .x, .x, (.w 0)] ++ List.replicate 59 .x), ob := [(0, (.arr true true leaseR o0)), (1, (.box [(.l .no bytesR b10), (.s (.int .i64 b11)), (.s (.int .i64 b12))]))], nx := 2, io := [(.pb 1 0)] }
def sh_s_l01Cur_leases_16_0 : Ss := { tm := (.cons (.x) (.cons (.x) (.cons (.x) (.cons (.w 0) (.cons (.x) (.cons (.x) (.cons (.x) (.cons (.int .i64) (xsh 55))))))))), ob := (.arr true true leaseR (.box (.cons (.l .no bytesR) (.cons (.int .i64) (.cons (.int .i64) .nil))) .nil)), nx := 2, io := (.cons (.pb 1 0) .nil) }
def d_s_l01Cur_leases_16_0 (x7 : Int) (o0 : List T_Lease) (b10 : List Int) (b11 : Int) (b12 : Int) : sh_s_l01Cur_leases_16_0.T := (((), ((), ((), ((), ((), ((), ((), (x7, xd 55)))))))), (o0, ((b10, (b11, (b12, ()))), ())), ((), ()))
def s_s_l01Cur_leases_16_0 (x7 : Int) (o0 : List T_Lease) (b10 : List Int) (b11 : Int) (b12 : Int) : St := { tm := ([.x, .x, .x, (.w 0), .x, .x, .x, (.s (.int .i64 x7))] ++ List.replicate 55 .x), ob := [(0, (.arr true true leaseR o0)), (1, (.box [(.l .no bytesR b10), (.s (.int .i64 b11)), (.s (.int .i64 b12))]))], nx := 2, io := [(.pb 1 0)] }
theorem se_s_l01Cur_leases_16_0 (x7 : Int) (o0 : List T_Lease) (b10 : List Int) (b11 : Int) (b12 : Int) : sh_s_l01Cur_leases_16_0.mk' (d_s_l01Cur_leases_16_0 x7 o0 b10 b11 b12) = (s_s_l01Cur_leases_16_0 x7 o0 b10 b11 b12) := by kernel_rfl
def w_s_l01Cur_leases_16_0 (d : sh_s_l01Cur_leases_16_0.T) (f : Int → (List T_Lease) → (List Int) → Int → Int → Option Ret) : Option Ret := match d with | ((_, (_, (_, (_, (_, (_, (_, (x7, _)))))))), (o0, ((b10, (b11, (b12, _))), _)), (_, _)) => f x7 o0 b10 b11 b12
noncomputable def P_s_l01Cur_leases_16_0 (x7 : Int) (o0 : List T_Lease) (b10 : List Int) (b11 : Int) (b12 : Int) (nx0 : Int → (List T_Lease) → (List Int) → Int → Int → Option Ret) (k0 : (List T_Lease) → (List Int) → Int → Int → Option Ret) : Option Ret := (bif (decide ((((List.length o0) : Nat) : Int) < (12 : Int))) then (bif (Nat.ble (((List.length o0) + (List.length (((IntKind.wrap .i64 ((30 : Int) + x7)), ((IntKind.wrap .i64 ((31 : Int) + x7)), ((1 : Int), (9 : Int)))) :: []))) * 32) 140737488355328) then (nx0 (IntKind.wrap .i64 (x7 + (1 : Int))) (o0 ++ (((IntKind.wrap .i64 ((30 : Int) + x7)), ((IntKind.wrap .i64 ((31 : Int) + x7)), ((1 : Int), (9 : Int)))) :: [])) b10 b11 b12) else none) else (k0 o0 b10 b11 b12))
noncomputable def Q_s_l01Cur_leases_16_0 : Nat → Int → (List T_Lease) → (List Int) → Int → Int → ((List T_Lease) → (List Int) → Int → Int → Option Ret) → Option Ret
  | 0, _, _, _, _, _, _ => none
  | m + 1, x7, o0, b10, b11, b12, k0 => P_s_l01Cur_leases_16_0 x7 o0 b10 b11 b12 (fun x7 o0 b10 b11 b12 => (Q_s_l01Cur_leases_16_0 m x7 o0 b10 b11 b12 k0)) k0
noncomputable def R_s_l01Cur_leases_16_0 (x7 : Int) (o0 : List T_Lease) (b10 : List Int) (b11 : Int) (b12 : Int) (k0 : (List T_Lease) → (List Int) → Int → Int → Option Ret) : Option Ret := Q_s_l01Cur_leases_16_0 (20) x7 o0 b10 b11 b12 k0
noncomputable def W_s_l01Cur_leases_16 : LoopFn := (fun (σ : St) (K : Ex → St → Option Ret) => (match sh_s_l01Cur_leases_16_0.un σ with | some d => w_s_l01Cur_leases_16_0 d (fun x7 o0 b10 b11 b12 => R_s_l01Cur_leases_16_0 x7 o0 b10 b11 b12 (fun o0 b10 b11 b12 => (K (.ext 3) (z_s_l01Cur_leases_16_0 o0 b10 b11 b12)))) | none => none))
noncomputable abbrev ls_s_l01Cur_leases : List (Nat × Bool × Sm) := [(N.s_l01Cur_size, false, (SB_s_l01Cur_size B_s_l01Cur_size)), (N.s_l01Cur_lease, false, (SB_s_l01Cur_lease B_s_l01Cur_lease)), (N.s_LeaseTake, true, S_s_LeaseTake), (N.s_l01Cur_pick, false, (SB_s_l01Cur_pick B_s_l01Cur_pick)), (N.s_l01Cur_badLease, false, (SB_s_l01Cur_badLease B_s_l01Cur_badLease))]
noncomputable abbrev E_s_l01Cur_leases : Env := En ls_s_l01Cur_leases [] [(3, [0,3,4], [0,2,3], W_s_l01Cur_leases_3), (16, [3,7], [2,3], W_s_l01Cur_leases_16)] [] false 0 []
noncomputable abbrev U_s_l01Cur_leases_3 := rounds (run E_s_l01Cur_leases (bodyOf F.s_l01Cur_leases 3)) [0,3,4] [0,2,3]
theorem st_s_l01Cur_leases_3_0 (m : Nat) (x4 : Int) (b00 : List Int) (b01 : Int) (b02 : Int) (o1 : List T_Lease) (K : Ex → St → Option Ret) : U_s_l01Cur_leases_3 (m + 1) (s_s_l01Cur_leases_3_0 x4 b00 b01 b02 o1) K = P_s_l01Cur_leases_3_0 x4 b00 b01 b02 o1 (fun x4 b00 b01 b02 o1 => (U_s_l01Cur_leases_3 m (s_s_l01Cur_leases_3_0 x4 b00 b01 b02 o1) K)) (fun b00 b01 b02 o1 => (K (.ext 0) (z_s_l01Cur_leases_3_0 b00 b01 b02 o1))) := by kernel_rfl
theorem q_s_l01Cur_leases_3 (K : Ex → St → Option Ret) : ∀ m : Nat, (∀ (x4 : Int) (b00 : List Int) (b01 : Int) (b02 : Int) (o1 : List T_Lease), U_s_l01Cur_leases_3 m (s_s_l01Cur_leases_3_0 x4 b00 b01 b02 o1) K = Q_s_l01Cur_leases_3_0 m x4 b00 b01 b02 o1 (fun b00 b01 b02 o1 => (K (.ext 0) (z_s_l01Cur_leases_3_0 b00 b01 b02 o1))))
  | 0 => (fun _ _ _ _ _ => rfl)
  | m + 1 => (fun x4 b00 b01 b02 o1 => (by rw [st_s_l01Cur_leases_3_0, show (fun x4 b00 b01 b02 o1 => (U_s_l01Cur_leases_3 m (s_s_l01Cur_leases_3_0 x4 b00 b01 b02 o1) K)) = (fun x4 b00 b01 b02 o1 => (Q_s_l01Cur_leases_3_0 m x4 b00 b01 b02 o1 (fun b00 b01 b02 o1 => (K (.ext 0) (z_s_l01Cur_leases_3_0 b00 b01 b02 o1))))) from funext fun x4 => funext fun b00 => funext fun b01 => funext fun b02 => funext fun o1 => (q_s_l01Cur_leases_3 K m) x4 b00 b01 b02 o1]; rfl))
theorem loopK_s_l01Cur_leases_3 : LoopOk E_s_l01Cur_leases (bodyOf F.s_l01Cur_leases 3) := by
  refine loopW_ok (n := 3) (F := W_s_l01Cur_leases_3) (by kernel_rfl) rfl (li := [0,3,4]) (lo := [0,2,3]) rfl (fun σ K r hr => ?_)
  unfold W_s_l01Cur_leases_3 at hr
  split at hr
  · rename_i d hd
    rw [Ss.un_mk hd]
    exact ⟨_, ((congrArg (fun z => U_s_l01Cur_leases_3 _ z K) (se_s_l01Cur_leases_3_0 _ _ _ _ _)).trans ((q_s_l01Cur_leases_3 K _) _ _ _ _ _)).trans hr⟩
  · cases hr
noncomputable abbrev U_s_l01Cur_leases_16 := rounds (run E_s_l01Cur_leases (bodyOf F.s_l01Cur_leases 16)) [3,7] [2,3]
theorem st_s_l01Cur_leases_16_0 (m : Nat) (x7 : Int) (o0 : List T_Lease) (b10 : List Int) (b11 : Int) (b12 : Int) (K : Ex → St → Option Ret) : U_s_l01Cur_leases_16 (m + 1) (s_s_l01Cur_leases_16_0 x7 o0 b10 b11 b12) K = P_s_l01Cur_leases_16_0 x7 o0 b10 b11 b12 (fun x7 o0 b10 b11 b12 => (U_s_l01Cur_leases_16 m (s_s_l01Cur_leases_16_0 x7 o0 b10 b11 b12) K)) (fun o0 b10 b11 b12 => (K (.ext 3) (z_s_l01Cur_leases_16_0 o0 b10 b11 b12))) := by kernel_rfl
theorem q_s_l01Cur_leases_16 (K : Ex → St → Option Ret) : ∀ m : Nat, (∀ (x7 : Int) (o0 : List T_Lease) (b10 : List Int) (b11 : Int) (b12 : Int), U_s_l01Cur_leases_16 m (s_s_l01Cur_leases_16_0 x7 o0 b10 b11 b12) K = Q_s_l01Cur_leases_16_0 m x7 o0 b10 b11 b12 (fun o0 b10 b11 b12 => (K (.ext 3) (z_s_l01Cur_leases_16_0 o0 b10 b11 b12))))
  | 0 => (fun _ _ _ _ _ => rfl)
  | m + 1 => (fun x7 o0 b10 b11 b12 => (by rw [st_s_l01Cur_leases_16_0, show (fun x7 o0 b10 b11 b12 => (U_s_l01Cur_leases_16 m (s_s_l01Cur_leases_16_0 x7 o0 b10 b11 b12) K)) = (fun x7 o0 b10 b11 b12 => (Q_s_l01Cur_leases_16_0 m x7 o0 b10 b11 b12 (fun o0 b10 b11 b12 => (K (.ext 3) (z_s_l01Cur_leases_16_0 o0 b10 b11 b12))))) from funext fun x7 => funext fun o0 => funext fun b10 => funext fun b11 => funext fun b12 => (q_s_l01Cur_leases_16 K m) x7 o0 b10 b11 b12]; rfl))
theorem loopK_s_l01Cur_leases_16 : LoopOk E_s_l01Cur_leases (bodyOf F.s_l01Cur_leases 16) := by
  refine loopW_ok (n := 16) (F := W_s_l01Cur_leases_16) (by kernel_rfl) rfl (li := [3,7]) (lo := [2,3]) rfl (fun σ K r hr => ?_)
  unfold W_s_l01Cur_leases_16 at hr
  split at hr
  · rename_i d hd
    rw [Ss.un_mk hd]
    exact ⟨_, ((congrArg (fun z => U_s_l01Cur_leases_16 _ z K) (se_s_l01Cur_leases_16_0 _ _ _ _ _)).trans ((q_s_l01Cur_leases_16 K _) _ _ _ _ _)).trans hr⟩
  · cases hr
noncomputable def T_s_l01Cur_leases (cc : List Int) (ca : Int) (cs : Int) (K : Ret → Option Ret) : Option Ret := (B_s_l01Cur_size cc ca cs (16 : Int) (fun y6 y7 y8 => (R_s_l01Cur_leases_3_0 y6 cc y7 y8 [] (fun y9 y10 y11 y12 => (B_s_l01Cur_pick y9 y10 y11 (14 : Int) (fun y13 y14 y15 => (bif (y13 == (0 : Int)) then (B_s_l01Cur_badLease y9 y14 y15 (fun y16 y17 y18 y19 y20 y21 => (bif (Nat.ble (((List.length y12) + (List.length ((y16, (y17, (y18, y19))) :: []))) * 32) 140737488355328) then K ((.l .deep leaseR (y12 ++ ((y16, (y17, (y18, y19))) :: []))), [(.io [(.l .no bytesR y9), (.s (.int .i64 y20)), (.s (.int .i64 y21))])]) else none))) else (bif (y13 == (1 : Int)) then (bif (decide ((((List.length y12) : Nat) : Int) > (0 : Int))) then (B_s_l01Cur_pick y9 y14 y15 (((List.length y12) : Nat) : Int) (fun y22 y23 y24 => (B_s_l01Cur_badLease y9 y23 y24 (fun y25 y26 y27 y28 y29 y30 => (bif ((decide ((0 : Int) ≤ y22)) && (decide (y22 < (((List.length y12) : Nat) : Int)))) then K ((.l .deep leaseR (List.set y12 (Int.toNat y22) (y25, (y26, (y27, y28))))), [(.io [(.l .no bytesR y9), (.s (.int .i64 y29)), (.s (.int .i64 y30))])]) else none))))) else K ((.l .deep leaseR y12), [(.io [(.l .no bytesR y9), (.s (.int .i64 y14)), (.s (.int .i64 y15))])])) else (bif (y13 == (2 : Int)) then (R_s_l01Cur_leases_16_0 (0 : Int) y12 y9 y14 y15 (fun y31 y32 y33 y34 => K ((.l .deep leaseR y31), [(.io [(.l .no bytesR y32), (.s (.int .i64 y33)), (.s (.int .i64 y34))])]))) else K ((.l .deep leaseR y12), [(.io [(.l .no bytesR y9), (.s (.int .i64 y14)), (.s (.int .i64 y15))])]))))))))))
theorem e_s_l01Cur_leases (cc : List Int) (ca : Int) (cs : Int) (K : Ret → Option Ret) : evF E_s_l01Cur_leases false F.s_l01Cur_leases [.io [.l .no bytesR cc, .s (.int .i64 ca), .s (.int .i64 cs)]] K = T_s_l01Cur_leases cc ca cs K := by kernel_rfl
theorem leases_loop {P : Ret → Prop} {cc : List Int} (hf : fitB cc = true) {F : List Int → Int → Int → List T_Lease → (Ret → Option Ret) → Option Ret} : ∀ (m k : Nat) (ca cs : Int) (o : List T_Lease), k < m → 0 ≤ ca → ca + 4 * k ≤ 1900000000000000000 → 0 ≤ cs → cs < 65536 → o.length ≤ 13 →
    (∀ (a s : Int) (o' : List T_Lease), 0 ≤ a → a ≤ ca + 4 * k → 0 ≤ s → s < 65536 → o'.length ≤ 13 → Dr P (F cc a s o')) → Dr P (fun K => Q_s_l01Cur_leases_3_0 m (k : Int) cc ca cs o (fun a b c d => F a b c d K))
  | 0, k, ca, cs, o, h, _, _, _, _, _, _ => absurd h (by omega)
  | m + 1, k, ca, cs, o, h, h0, h1, h2, h3, hl, hF => by
    show Dr P (fun K => P_s_l01Cur_leases_3_0 (k : Int) cc ca cs o _ _)
    unfold P_s_l01Cur_leases_3_0
    cases k with
    | zero =>
      refine Dr.bif (fun hc => ?_) (fun _ => hF ca cs o h0 (by omega) h2 h3 hl)
      simp at hc
    | succ k =>
      refine Dr.must (decide_eq_true (by omega)) ?_
      refine Dr.b6 (b_s_l01Cur_lease _ _ _ (curB_iff.2 ⟨hf, by omega, by omega, by omega, by omega⟩)) (fun y0 y1 y2 y3 a s hy => ?_)
      refine Dr.must (Nat.ble_eq_true_of_le (by omega)) ?_
      rw [show IntKind.wrap .i64 (((k + 1 : Nat) : Int) - 1) = (k : Int) by rw [wrap_in (by omega) (by omega)]; omega]
      refine Dr.bif (fun _ => leases_loop hf m k a s _ (by omega) (by omega) (by omega) (by omega) (by omega) (takeD_len _ _ _) (fun a' s' o' q1 q2 q3 q4 q5 => hF a' s' o' q1 (by omega) q3 q4 q5)) (fun _ => leases_loop hf m k a s o (by omega) (by omega) (by omega) (by omega) (by omega) hl (fun a' s' o' q1 q2 q3 q4 q5 => hF a' s' o' q1 (by omega) q3 q4 q5))
theorem leases_fill {P : Ret → Prop} {cc : List Int} {ca cs : Int} {F : List T_Lease → List Int → Int → Int → (Ret → Option Ret) → Option Ret} : ∀ (m : Nat) (i : Int) (o : List T_Lease), 13 - o.length < m → o.length ≤ 13 → (∀ (o' : List T_Lease), o'.length ≤ 13 → Dr P (F o' cc ca cs)) → Dr P (fun K => Q_s_l01Cur_leases_16_0 m i o cc ca cs (fun a b c d => F a b c d K))
  | 0, i, o, h, _, _ => absurd h (by omega)
  | m + 1, i, o, h, hl, hF => by
    show Dr P (fun K => P_s_l01Cur_leases_16_0 i o cc ca cs _ _)
    unfold P_s_l01Cur_leases_16_0
    refine Dr.bif (fun hc => ?_) (fun _ => hF o hl)
    simp only [decide_eq_true_eq] at hc
    refine Dr.must (Nat.ble_eq_true_of_le (by simp only [List.length_cons, List.length_nil]; omega)) ?_
    exact leases_fill m _ _ (by rw [List.length_append]; simp only [List.length_cons, List.length_nil]; omega) (by rw [List.length_append]; simp only [List.length_cons, List.length_nil]; omega) hF
theorem x_s_l01Cur_leases (cc : List Int) (ca : Int) (cs : Int) (h : (curB 500000000000000000 cc ca cs) = true) : ∃ (l : List T_Lease) (a : Int) (s : Int), (l.length ≤ 14 ∧ 0 ≤ a ∧ a ≤ ca + 200 ∧ 0 ≤ s ∧ s < 65536) ∧ ∀ K : Ret → Option Ret, T_s_l01Cur_leases cc ca cs K = K (.l .deep leaseR l, [.io [.l .no bytesR cc, .s (.int .i64 a), .s (.int .i64 s)]]) := by
  suffices hd : Dr (fun r : Ret => ∃ (l : List T_Lease) (a : Int) (s : Int), (l.length ≤ 14 ∧ 0 ≤ a ∧ a ≤ ca + 200 ∧ 0 ≤ s ∧ s < 65536) ∧ r = (.l .deep leaseR l, [.io [.l .no bytesR cc, .s (.int .i64 a), .s (.int .i64 s)]])) (fun K : Ret → Option Ret => T_s_l01Cur_leases cc ca cs K) by
    obtain ⟨_, ⟨l, a, s, hp, rfl⟩, hk⟩ := hd
    exact ⟨l, a, s, hp, hk⟩
  obtain ⟨hf, h2, h3, h4, h5⟩ := curB_iff.1 h
  have hl := fitB_len hf
  unfold T_s_l01Cur_leases
  refine Dr.b3 (b_s_l01Cur_size _ _ _ _ ((Bool.and_eq_true _ _).mpr ⟨curB_iff.2 ⟨hf, by omega, by omega, by omega, by omega⟩, by rfl⟩)) (fun y0 a0 s0 hy => ?_)
  obtain ⟨k, rfl⟩ : ∃ k : Nat, y0 = k := ⟨y0.toNat, by omega⟩
  unfold R_s_l01Cur_leases_3_0
  refine leases_loop hf (F := fun y9 y10 y11 y12 K => (B_s_l01Cur_pick y9 y10 y11 (14 : Int) (fun y13 y14 y15 =>
   (bif (y13 == (0 : Int)) then
    (B_s_l01Cur_badLease y9 y14 y15 (fun y16 y17 y18 y19 y20 y21 =>
     (bif (Nat.ble (((List.length y12) + (List.length ((y16, (y17, (y18, y19))) :: []))) * 32) 140737488355328) then
      K ((.l .deep leaseR (y12 ++ ((y16, (y17, (y18, y19))) :: []))), [(.io [(.l .no bytesR y9), (.s (.int .i64 y20)), (.s (.int .i64 y21))])])
      else none)))
    else (bif (y13 == (1 : Int)) then
     (bif (decide ((((List.length y12) : Nat) : Int) > (0 : Int))) then
      (B_s_l01Cur_pick y9 y14 y15 (((List.length y12) : Nat) : Int) (fun y22 y23 y24 =>
       (B_s_l01Cur_badLease y9 y23 y24 (fun y25 y26 y27 y28 y29 y30 =>
        (bif ((decide ((0 : Int) ≤ y22)) && (decide (y22 < (((List.length y12) : Nat) : Int)))) then
         K ((.l .deep leaseR (List.set y12 (Int.toNat y22) (y25, (y26, (y27, y28))))), [(.io [(.l .no bytesR y9), (.s (.int .i64 y29)), (.s (.int .i64 y30))])])
         else none)))))
      else K ((.l .deep leaseR y12), [(.io [(.l .no bytesR y9), (.s (.int .i64 y14)), (.s (.int .i64 y15))])]))
     else (bif (y13 == (2 : Int)) then
      (R_s_l01Cur_leases_16_0 (0 : Int) y12 y9 y14 y15 (fun y31 y32 y33 y34 =>
       K ((.l .deep leaseR y31), [(.io [(.l .no bytesR y32), (.s (.int .i64 y33)), (.s (.int .i64 y34))])])))
      else K ((.l .deep leaseR y12), [(.io [(.l .no bytesR y9), (.s (.int .i64 y14)), (.s (.int .i64 y15))])])))))) ) _ k a0 s0 [] (by omega) (by omega) (by omega) (by omega) (by omega) (by simp) (fun a s o q1 q2 q3 q4 q5 => ?_)
  refine Dr.b3 (b_s_l01Cur_pick _ _ _ _ (curB_iff.2 ⟨hf, by omega, by omega, by omega, by omega⟩)) (fun y1 a1 s1 hy1 => ?_)
  refine Dr.bif (fun _ => ?_) (fun _ => Dr.bif (fun _ => ?_) (fun _ => Dr.bif (fun _ => ?_) (fun _ => Dr.leaf ⟨_, _, _, ⟨by omega, by omega, by omega, by omega, by omega⟩, rfl⟩)))
  · refine Dr.b6 (b_s_l01Cur_badLease _ _ _ (curB_iff.2 ⟨hf, by omega, by omega, by omega, by omega⟩)) (fun y0 y1 y2 y3 a s hy => ?_)
    refine Dr.must (Nat.ble_eq_true_of_le (by simp only [List.length_cons, List.length_nil]; omega)) ?_
    exact Dr.leaf ⟨_, _, _, ⟨by simp; omega, by omega, by omega, by omega, by omega⟩, rfl⟩
  · refine Dr.bif (fun hc => ?_) (fun _ => Dr.leaf ⟨_, _, _, ⟨by omega, by omega, by omega, by omega, by omega⟩, rfl⟩)
    simp only [decide_eq_true_eq] at hc
    refine Dr.b3 (b_s_l01Cur_pick _ _ _ _ (curB_iff.2 ⟨hf, by omega, by omega, by omega, by omega⟩)) (fun y2 a2 s2 hy2 => ?_)
    refine Dr.b6 (b_s_l01Cur_badLease _ _ _ (curB_iff.2 ⟨hf, by omega, by omega, by omega, by omega⟩)) (fun y0 y1 y2 y3 a s hy => ?_)
    refine Dr.must (by rw [Bool.and_eq_true, decide_eq_true_iff, decide_eq_true_iff]; omega) ?_
    exact Dr.leaf ⟨_, _, _, ⟨by simp; omega, by omega, by omega, by omega, by omega⟩, rfl⟩
  · unfold R_s_l01Cur_leases_16_0
    exact leases_fill (F := fun y31 y32 y33 y34 K => K ((.l .deep leaseR y31), [(.io [(.l .no bytesR y32), (.s (.int .i64 y33)), (.s (.int .i64 y34))])])) 20 0 o (by omega) (by omega) (fun o' ho => Dr.leaf ⟨_, _, _, ⟨by omega, by omega, by omega, by omega, by omega⟩, rfl⟩)
noncomputable def g_s_l01Cur_leases (cc : List Int) (ca : Int) (cs : Int) : List T_Lease × Int × Int := Classical.epsilon fun g => ((g).1.length ≤ 14 ∧ 0 ≤ (g).2.1 ∧ (g).2.1 ≤ ca + 200 ∧ 0 ≤ (g).2.2 ∧ (g).2.2 < 65536) ∧ ∀ K : Ret → Option Ret, T_s_l01Cur_leases cc ca cs K = K (.l .deep leaseR (g).1, [.io [.l .no bytesR cc, .s (.int .i64 (g).2.1), .s (.int .i64 (g).2.2)]])
theorem gs_s_l01Cur_leases (cc : List Int) (ca : Int) (cs : Int) (h : (curB 500000000000000000 cc ca cs) = true) : ((g_s_l01Cur_leases cc ca cs).1.length ≤ 14 ∧ 0 ≤ (g_s_l01Cur_leases cc ca cs).2.1 ∧ (g_s_l01Cur_leases cc ca cs).2.1 ≤ ca + 200 ∧ 0 ≤ (g_s_l01Cur_leases cc ca cs).2.2 ∧ (g_s_l01Cur_leases cc ca cs).2.2 < 65536) ∧ ∀ K : Ret → Option Ret, T_s_l01Cur_leases cc ca cs K = K (.l .deep leaseR (g_s_l01Cur_leases cc ca cs).1, [.io [.l .no bytesR cc, .s (.int .i64 (g_s_l01Cur_leases cc ca cs).2.1), .s (.int .i64 (g_s_l01Cur_leases cc ca cs).2.2)]]) := by
  obtain ⟨l, a, s, hy, hk⟩ := x_s_l01Cur_leases cc ca cs h
  exact Classical.epsilon_spec (p := fun g : List T_Lease × Int × Int => ((g).1.length ≤ 14 ∧ 0 ≤ (g).2.1 ∧ (g).2.1 ≤ ca + 200 ∧ 0 ≤ (g).2.2 ∧ (g).2.2 < 65536) ∧ ∀ K : Ret → Option Ret, T_s_l01Cur_leases cc ca cs K = K (.l .deep leaseR (g).1, [.io [.l .no bytesR cc, .s (.int .i64 (g).2.1), .s (.int .i64 (g).2.2)]])) ⟨⟨l, a, s⟩, hy, hk⟩
noncomputable def B_s_l01Cur_leases (cc : List Int) (ca : Int) (cs : Int) (k : (List T_Lease) → (Int) → (Int) → Option Ret) : Option Ret := bif curB 500000000000000000 cc ca cs then k (g_s_l01Cur_leases cc ca cs).1 (g_s_l01Cur_leases cc ca cs).2.1 (g_s_l01Cur_leases cc ca cs).2.2 else none
theorem b_s_l01Cur_leases (cc : List Int) (ca : Int) (cs : Int) (h : (curB 500000000000000000 cc ca cs) = true) : ∃ (l : List T_Lease) (a : Int) (s : Int), (l.length ≤ 14 ∧ 0 ≤ a ∧ a ≤ ca + 200 ∧ 0 ≤ s ∧ s < 65536) ∧ ∀ k, B_s_l01Cur_leases cc ca cs k = k l a s :=
  ⟨(g_s_l01Cur_leases cc ca cs).1, (g_s_l01Cur_leases cc ca cs).2.1, (g_s_l01Cur_leases cc ca cs).2.2, (gs_s_l01Cur_leases cc ca cs h).1, fun k => by unfold B_s_l01Cur_leases; rw [h]; rfl⟩
def SB_s_l01Cur_leases (B : (List Int) → (Int) → (Int) → ((List T_Lease) → (Int) → (Int) → Option Ret) → Option Ret) : Sm := S_B [.sh (.io (.cons (.l .no bytesR) (.cons (.int .i64) (.cons (.int .i64) .nil))))] (fun d K => B d.1.1 d.1.2.1 d.1.2.2.1 (fun l a s => K (.l .deep leaseR l, [.io [.l .no bytesR d.1.1, .s (.int .i64 a), .s (.int .i64 s)]])))
theorem okS_s_l01Cur_leases : OkFn prog I N.s_l01Cur_leases false (SB_s_l01Cur_leases B_s_l01Cur_leases) := okN (ok_fn (memc okS_s_l01Cur_size (memc okS_s_l01Cur_lease (memc okS_s_LeaseTake (memc okS_s_l01Cur_pick (memc okS_s_l01Cur_badLease mem0))))) (l := ls_s_l01Cur_leases) (p := []) (ls := [(3, [0,3,4], [0,2,3], W_s_l01Cur_leases_3), (16, [3,7], [2,3], W_s_l01Cur_leases_16)]) (lend := []) (focus := false) (fuel := 0) (give := []) (fn := F.s_l01Cur_leases) (by kernel_rfl) (by kernel_rfl) (by kernel_rfl) (by kernel_rfl) (cs := [bodyOf F.s_l01Cur_leases 3, bodyOf F.s_l01Cur_leases 16]) (by kernel_rfl) (loopsc loopK_s_l01Cur_leases_3 (loopsc loopK_s_l01Cur_leases_16 loops0))) (S_B_of fun d K q hq => by
  refine (e_s_l01Cur_leases d.1.1 d.1.2.1 d.1.2.2.1 K).trans ?_
  unfold B_s_l01Cur_leases at hq
  cases hp : (curB 500000000000000000 d.1.1 d.1.2.1 d.1.2.2.1) with
  | false => rw [hp] at hq; cases hq
  | true =>
    rw [hp] at hq
    exact ((gs_s_l01Cur_leases d.1.1 d.1.2.1 d.1.2.2.1 hp).2 K).trans hq)
end Go.Ev.Seat
end
section
/- s_l01Cur_once: its contract. -/
namespace Go.Ev.Seat
open Go.RowKit
set_option maxRecDepth 100000
set_option linter.unusedVariables false
set_option linter.unusedSimpArgs false
noncomputable abbrev ls_s_l01Cur_once : List (Nat × Bool × Sm) := [(N.s_l01Cur_pick, false, (SB_s_l01Cur_pick B_s_l01Cur_pick))]
noncomputable abbrev E_s_l01Cur_once : Env := En ls_s_l01Cur_once [] [] [] false 0 []
noncomputable def T_s_l01Cur_once (cc : List Int) (ca : Int) (cs : Int) (n : Int) (K : Ret → Option Ret) : Option Ret := (B_s_l01Cur_pick cc ca cs n (fun y0 y1 y2 => K ((.s (.bool (y0 == (IntKind.wrap .i64 (n - (1 : Int)))))), [(.io [(.l .no bytesR cc), (.s (.int .i64 y1)), (.s (.int .i64 y2))])])))
theorem e_s_l01Cur_once (cc : List Int) (ca : Int) (cs : Int) (n : Int) (K : Ret → Option Ret) : evF E_s_l01Cur_once false F.s_l01Cur_once [.io [.l .no bytesR cc, .s (.int .i64 ca), .s (.int .i64 cs)], .s (.int .i64 n)] K = T_s_l01Cur_once cc ca cs n K := by kernel_rfl
theorem x_s_l01Cur_once (cc : List Int) (ca : Int) (cs : Int) (n : Int) (h : (curB 3000000000000000000 cc ca cs) = true) : ∃ (y : Bool) (a : Int) (s : Int), (0 ≤ a ∧ a ≤ ca + 1 ∧ 0 ≤ s ∧ s < 65536) ∧ ∀ K : Ret → Option Ret, T_s_l01Cur_once cc ca cs n K = K (.s (.bool y), [.io [.l .no bytesR cc, .s (.int .i64 a), .s (.int .i64 s)]]) := by
  suffices hd : Dr (fun r : Ret => ∃ (y : Bool) (a : Int) (s : Int), (0 ≤ a ∧ a ≤ ca + 1 ∧ 0 ≤ s ∧ s < 65536) ∧ r = (.s (.bool y), [.io [.l .no bytesR cc, .s (.int .i64 a), .s (.int .i64 s)]])) (fun K : Ret → Option Ret => T_s_l01Cur_once cc ca cs n K) by
    obtain ⟨_, ⟨y, a, s, hp, rfl⟩, hk⟩ := hd
    exact ⟨y, a, s, hp, hk⟩
  obtain ⟨hf, h2, h3, h4, h5⟩ := curB_iff.1 h
  have hl := fitB_len hf
  unfold T_s_l01Cur_once
  repeat' first
    | exact Dr.leaf ⟨_, _, _, ⟨by omega, by omega, by omega, by omega⟩, rfl⟩
    | refine Dr.b3 (b_s_l01Cur_pick _ _ _ _ (curB_iff.2 ⟨hf, by omega, by omega, by omega, by omega⟩)) (fun _ _ _ hy => ?_)
    | refine Dr.meet ?_
    | simp (disch := omega) only [wrap_in]
    | refine Dr.must (by first | rfl | (simp only [List.length_cons, List.length_nil, BEq.rfl, Bool.true_and, Bool.and_eq_true, decide_eq_true_eq]; omega)) ?_
    | refine Dr.bif (fun hb => ?_) (fun hb => ?_)
noncomputable def g_s_l01Cur_once (cc : List Int) (ca : Int) (cs : Int) (n : Int) : Bool × Int × Int := Classical.epsilon fun g => (0 ≤ (g).2.1 ∧ (g).2.1 ≤ ca + 1 ∧ 0 ≤ (g).2.2 ∧ (g).2.2 < 65536) ∧ ∀ K : Ret → Option Ret, T_s_l01Cur_once cc ca cs n K = K (.s (.bool (g).1), [.io [.l .no bytesR cc, .s (.int .i64 (g).2.1), .s (.int .i64 (g).2.2)]])
theorem gs_s_l01Cur_once (cc : List Int) (ca : Int) (cs : Int) (n : Int) (h : (curB 3000000000000000000 cc ca cs) = true) : (0 ≤ (g_s_l01Cur_once cc ca cs n).2.1 ∧ (g_s_l01Cur_once cc ca cs n).2.1 ≤ ca + 1 ∧ 0 ≤ (g_s_l01Cur_once cc ca cs n).2.2 ∧ (g_s_l01Cur_once cc ca cs n).2.2 < 65536) ∧ ∀ K : Ret → Option Ret, T_s_l01Cur_once cc ca cs n K = K (.s (.bool (g_s_l01Cur_once cc ca cs n).1), [.io [.l .no bytesR cc, .s (.int .i64 (g_s_l01Cur_once cc ca cs n).2.1), .s (.int .i64 (g_s_l01Cur_once cc ca cs n).2.2)]]) := by
  obtain ⟨y, a, s, hy, hk⟩ := x_s_l01Cur_once cc ca cs n h
  exact Classical.epsilon_spec (p := fun g : Bool × Int × Int => (0 ≤ (g).2.1 ∧ (g).2.1 ≤ ca + 1 ∧ 0 ≤ (g).2.2 ∧ (g).2.2 < 65536) ∧ ∀ K : Ret → Option Ret, T_s_l01Cur_once cc ca cs n K = K (.s (.bool (g).1), [.io [.l .no bytesR cc, .s (.int .i64 (g).2.1), .s (.int .i64 (g).2.2)]])) ⟨⟨y, a, s⟩, hy, hk⟩
noncomputable def B_s_l01Cur_once (cc : List Int) (ca : Int) (cs : Int) (n : Int) (k : (Bool) → (Int) → (Int) → Option Ret) : Option Ret := bif curB 3000000000000000000 cc ca cs then k (g_s_l01Cur_once cc ca cs n).1 (g_s_l01Cur_once cc ca cs n).2.1 (g_s_l01Cur_once cc ca cs n).2.2 else none
theorem b_s_l01Cur_once (cc : List Int) (ca : Int) (cs : Int) (n : Int) (h : (curB 3000000000000000000 cc ca cs) = true) : ∃ (y : Bool) (a : Int) (s : Int), (0 ≤ a ∧ a ≤ ca + 1 ∧ 0 ≤ s ∧ s < 65536) ∧ ∀ k, B_s_l01Cur_once cc ca cs n k = k y a s :=
  ⟨(g_s_l01Cur_once cc ca cs n).1, (g_s_l01Cur_once cc ca cs n).2.1, (g_s_l01Cur_once cc ca cs n).2.2, (gs_s_l01Cur_once cc ca cs n h).1, fun k => by unfold B_s_l01Cur_once; rw [h]; rfl⟩
def SB_s_l01Cur_once (B : (List Int) → (Int) → (Int) → (Int) → ((Bool) → (Int) → (Int) → Option Ret) → Option Ret) : Sm := S_B [.sh (.io (.cons (.l .no bytesR) (.cons (.int .i64) (.cons (.int .i64) .nil)))), .i] (fun d K => B d.1.1 d.1.2.1 d.1.2.2.1 d.2.1 (fun y a s => K (.s (.bool y), [.io [.l .no bytesR d.1.1, .s (.int .i64 a), .s (.int .i64 s)]])))
theorem okS_s_l01Cur_once : OkFn prog I N.s_l01Cur_once false (SB_s_l01Cur_once B_s_l01Cur_once) := okN (ok_fn (memc okS_s_l01Cur_pick mem0) (l := ls_s_l01Cur_once) (p := []) (ls := []) (lend := []) (focus := false) (fuel := 0) (give := []) (fn := F.s_l01Cur_once) (by kernel_rfl) (by kernel_rfl) (by kernel_rfl) (by kernel_rfl) (cs := []) (by kernel_rfl) loops0) (S_B_of fun d K q hq => by
  refine (e_s_l01Cur_once d.1.1 d.1.2.1 d.1.2.2.1 d.2.1 K).trans ?_
  unfold B_s_l01Cur_once at hq
  cases hp : (curB 3000000000000000000 d.1.1 d.1.2.1 d.1.2.2.1) with
  | false => rw [hp] at hq; cases hq
  | true =>
    rw [hp] at hq
    exact ((gs_s_l01Cur_once d.1.1 d.1.2.1 d.1.2.2.1 d.2.1 hp).2 K).trans hq)
end Go.Ev.Seat
end
section
/- s_l01Cur_leaseOf: its contract. -/
namespace Go.Ev.Seat
open Go.RowKit
set_option maxRecDepth 100000
set_option linter.unusedVariables false
set_option linter.unusedSimpArgs false
noncomputable abbrev ls_s_l01Cur_leaseOf : List (Nat × Bool × Sm) := [(N.s_l01Cur_badLease, false, (SB_s_l01Cur_badLease B_s_l01Cur_badLease)), (N.s_l01Cur_once, false, (SB_s_l01Cur_once B_s_l01Cur_once)), (N.s_l01Cur_pick, false, (SB_s_l01Cur_pick B_s_l01Cur_pick))]
noncomputable abbrev E_s_l01Cur_leaseOf : Env := En ls_s_l01Cur_leaseOf [] [] [] false 0 []
noncomputable def T_s_l01Cur_leaseOf (cc : List Int) (ca : Int) (cs : Int) (l : List T_Lease) (K : Ret → Option Ret) : Option Ret := (B_s_l01Cur_badLease cc ca cs (fun y0 y1 y2 y3 y4 y5 => (bif (decide ((((List.length l) : Nat) : Int) > (0 : Int))) then (B_s_l01Cur_once cc y4 y5 (3 : Int) (fun y6 y7 y8 => (bif (!y6) then (B_s_l01Cur_pick cc y7 y8 (((List.length l) : Nat) : Int) (fun y9 y10 y11 => (bif ((decide ((0 : Int) ≤ y9)) && (decide (y9 < (((List.length l) : Nat) : Int)))) then (B_s_l01Cur_once cc y10 y11 (4 : Int) (fun y12 y13 y14 => (bif (!y12) then K ((.a [(.s (.int .i64 (List.getD l (Int.toNat y9) (leaseR.dflt)).1)), (.s (.int .i64 (List.getD l (Int.toNat y9) (leaseR.dflt)).2.1)), (.s (.int .i64 (List.getD l (Int.toNat y9) (leaseR.dflt)).2.2.1)), (.s (.int .i64 y3))]), [(.io [(.l .no bytesR cc), (.s (.int .i64 y13)), (.s (.int .i64 y14))])]) else K ((.a [(.s (.int .i64 (List.getD l (Int.toNat y9) (leaseR.dflt)).1)), (.s (.int .i64 (List.getD l (Int.toNat y9) (leaseR.dflt)).2.1)), (.s (.int .i64 y2)), (.s (.int .i64 y3))]), [(.io [(.l .no bytesR cc), (.s (.int .i64 y13)), (.s (.int .i64 y14))])])))) else none))) else K ((.a [(.s (.int .i64 y0)), (.s (.int .i64 y1)), (.s (.int .i64 y2)), (.s (.int .i64 y3))]), [(.io [(.l .no bytesR cc), (.s (.int .i64 y7)), (.s (.int .i64 y8))])])))) else K ((.a [(.s (.int .i64 y0)), (.s (.int .i64 y1)), (.s (.int .i64 y2)), (.s (.int .i64 y3))]), [(.io [(.l .no bytesR cc), (.s (.int .i64 y4)), (.s (.int .i64 y5))])]))))
theorem e_s_l01Cur_leaseOf (cc : List Int) (ca : Int) (cs : Int) (l : List T_Lease) (K : Ret → Option Ret) : evF E_s_l01Cur_leaseOf false F.s_l01Cur_leaseOf [.io [.l .no bytesR cc, .s (.int .i64 ca), .s (.int .i64 cs)], .l .no leaseR l] K = T_s_l01Cur_leaseOf cc ca cs l K := by kernel_rfl
theorem x_s_l01Cur_leaseOf (cc : List Int) (ca : Int) (cs : Int) (l : List T_Lease) (h : (curB 500000000000000000 cc ca cs && Nat.ble l.length 1000) = true) : ∃ (y0 : Int) (y1 : Int) (y2 : Int) (y3 : Int) (a : Int) (s : Int), (0 ≤ a ∧ a ≤ ca + 30 ∧ 0 ≤ s ∧ s < 65536) ∧ ∀ K : Ret → Option Ret, T_s_l01Cur_leaseOf cc ca cs l K = K (.a [.s (.int .i64 y0), .s (.int .i64 y1), .s (.int .i64 y2), .s (.int .i64 y3)], [.io [.l .no bytesR cc, .s (.int .i64 a), .s (.int .i64 s)]]) := by
  suffices hd : Dr (fun r : Ret => ∃ (y0 : Int) (y1 : Int) (y2 : Int) (y3 : Int) (a : Int) (s : Int), (0 ≤ a ∧ a ≤ ca + 30 ∧ 0 ≤ s ∧ s < 65536) ∧ r = (.a [.s (.int .i64 y0), .s (.int .i64 y1), .s (.int .i64 y2), .s (.int .i64 y3)], [.io [.l .no bytesR cc, .s (.int .i64 a), .s (.int .i64 s)]])) (fun K : Ret → Option Ret => T_s_l01Cur_leaseOf cc ca cs l K) by
    obtain ⟨_, ⟨y0, y1, y2, y3, a, s, hp, rfl⟩, hk⟩ := hd
    exact ⟨y0, y1, y2, y3, a, s, hp, hk⟩
  obtain ⟨h, hpre⟩ := (Bool.and_eq_true _ _).mp h
  have hpre := Nat.le_of_ble_eq_true hpre
  obtain ⟨hf, h2, h3, h4, h5⟩ := curB_iff.1 h
  have hl := fitB_len hf
  unfold T_s_l01Cur_leaseOf
  refine Dr.b6 (b_s_l01Cur_badLease _ _ _ (curB_iff.2 ⟨hf, by omega, by omega, by omega, by omega⟩)) (fun y0 y1 y2 y3 a0 s0 hy0 => ?_)
  refine Dr.bif (fun hc => ?_) (fun _ => Dr.leaf ⟨_, _, _, _, _, _, ⟨by omega, by omega, by omega, by omega⟩, rfl⟩)
  simp only [decide_eq_true_eq] at hc
  refine Dr.b3 (b_s_l01Cur_once _ _ _ _ (curB_iff.2 ⟨hf, by omega, by omega, by omega, by omega⟩)) (fun b a1 s1 h1 => ?_)
  refine Dr.bif (fun _ => ?_) (fun _ => Dr.leaf ⟨_, _, _, _, _, _, ⟨by omega, by omega, by omega, by omega⟩, rfl⟩)
  refine Dr.b3 (b_s_l01Cur_pick _ _ _ _ (curB_iff.2 ⟨hf, by omega, by omega, by omega, by omega⟩)) (fun k a2 s2 hk => ?_)
  refine Dr.must (by simp only [Bool.and_eq_true, decide_eq_true_eq]; omega) ?_
  refine Dr.b3 (b_s_l01Cur_once _ _ _ _ (curB_iff.2 ⟨hf, by omega, by omega, by omega, by omega⟩)) (fun b a3 s3 h3 => ?_)
  refine Dr.bif (fun _ => ?_) (fun _ => ?_)
  · exact Dr.leaf ⟨_, _, _, _, _, _, ⟨by omega, by omega, by omega, by omega⟩, rfl⟩
  · exact Dr.leaf ⟨_, _, _, _, _, _, ⟨by omega, by omega, by omega, by omega⟩, rfl⟩
noncomputable def g_s_l01Cur_leaseOf (cc : List Int) (ca : Int) (cs : Int) (l : List T_Lease) : Int × Int × Int × Int × Int × Int := Classical.epsilon fun g => (0 ≤ (g).2.2.2.2.1 ∧ (g).2.2.2.2.1 ≤ ca + 30 ∧ 0 ≤ (g).2.2.2.2.2 ∧ (g).2.2.2.2.2 < 65536) ∧ ∀ K : Ret → Option Ret, T_s_l01Cur_leaseOf cc ca cs l K = K (.a [.s (.int .i64 (g).1), .s (.int .i64 (g).2.1), .s (.int .i64 (g).2.2.1), .s (.int .i64 (g).2.2.2.1)], [.io [.l .no bytesR cc, .s (.int .i64 (g).2.2.2.2.1), .s (.int .i64 (g).2.2.2.2.2)]])
theorem gs_s_l01Cur_leaseOf (cc : List Int) (ca : Int) (cs : Int) (l : List T_Lease) (h : (curB 500000000000000000 cc ca cs && Nat.ble l.length 1000) = true) : (0 ≤ (g_s_l01Cur_leaseOf cc ca cs l).2.2.2.2.1 ∧ (g_s_l01Cur_leaseOf cc ca cs l).2.2.2.2.1 ≤ ca + 30 ∧ 0 ≤ (g_s_l01Cur_leaseOf cc ca cs l).2.2.2.2.2 ∧ (g_s_l01Cur_leaseOf cc ca cs l).2.2.2.2.2 < 65536) ∧ ∀ K : Ret → Option Ret, T_s_l01Cur_leaseOf cc ca cs l K = K (.a [.s (.int .i64 (g_s_l01Cur_leaseOf cc ca cs l).1), .s (.int .i64 (g_s_l01Cur_leaseOf cc ca cs l).2.1), .s (.int .i64 (g_s_l01Cur_leaseOf cc ca cs l).2.2.1), .s (.int .i64 (g_s_l01Cur_leaseOf cc ca cs l).2.2.2.1)], [.io [.l .no bytesR cc, .s (.int .i64 (g_s_l01Cur_leaseOf cc ca cs l).2.2.2.2.1), .s (.int .i64 (g_s_l01Cur_leaseOf cc ca cs l).2.2.2.2.2)]]) := by
  obtain ⟨y0, y1, y2, y3, a, s, hy, hk⟩ := x_s_l01Cur_leaseOf cc ca cs l h
  exact Classical.epsilon_spec (p := fun g : Int × Int × Int × Int × Int × Int => (0 ≤ (g).2.2.2.2.1 ∧ (g).2.2.2.2.1 ≤ ca + 30 ∧ 0 ≤ (g).2.2.2.2.2 ∧ (g).2.2.2.2.2 < 65536) ∧ ∀ K : Ret → Option Ret, T_s_l01Cur_leaseOf cc ca cs l K = K (.a [.s (.int .i64 (g).1), .s (.int .i64 (g).2.1), .s (.int .i64 (g).2.2.1), .s (.int .i64 (g).2.2.2.1)], [.io [.l .no bytesR cc, .s (.int .i64 (g).2.2.2.2.1), .s (.int .i64 (g).2.2.2.2.2)]])) ⟨⟨y0, y1, y2, y3, a, s⟩, hy, hk⟩
noncomputable def B_s_l01Cur_leaseOf (cc : List Int) (ca : Int) (cs : Int) (l : List T_Lease) (k : (Int) → (Int) → (Int) → (Int) → (Int) → (Int) → Option Ret) : Option Ret := bif curB 500000000000000000 cc ca cs && Nat.ble l.length 1000 then k (g_s_l01Cur_leaseOf cc ca cs l).1 (g_s_l01Cur_leaseOf cc ca cs l).2.1 (g_s_l01Cur_leaseOf cc ca cs l).2.2.1 (g_s_l01Cur_leaseOf cc ca cs l).2.2.2.1 (g_s_l01Cur_leaseOf cc ca cs l).2.2.2.2.1 (g_s_l01Cur_leaseOf cc ca cs l).2.2.2.2.2 else none
theorem b_s_l01Cur_leaseOf (cc : List Int) (ca : Int) (cs : Int) (l : List T_Lease) (h : (curB 500000000000000000 cc ca cs && Nat.ble l.length 1000) = true) : ∃ (y0 : Int) (y1 : Int) (y2 : Int) (y3 : Int) (a : Int) (s : Int), (0 ≤ a ∧ a ≤ ca + 30 ∧ 0 ≤ s ∧ s < 65536) ∧ ∀ k, B_s_l01Cur_leaseOf cc ca cs l k = k y0 y1 y2 y3 a s :=
  ⟨(g_s_l01Cur_leaseOf cc ca cs l).1, (g_s_l01Cur_leaseOf cc ca cs l).2.1, (g_s_l01Cur_leaseOf cc ca cs l).2.2.1, (g_s_l01Cur_leaseOf cc ca cs l).2.2.2.1, (g_s_l01Cur_leaseOf cc ca cs l).2.2.2.2.1, (g_s_l01Cur_leaseOf cc ca cs l).2.2.2.2.2, (gs_s_l01Cur_leaseOf cc ca cs l h).1, fun k => by unfold B_s_l01Cur_leaseOf; rw [h]; rfl⟩
def SB_s_l01Cur_leaseOf (B : (List Int) → (Int) → (Int) → (List T_Lease) → ((Int) → (Int) → (Int) → (Int) → (Int) → (Int) → Option Ret) → Option Ret) : Sm := S_B [.sh (.io (.cons (.l .no bytesR) (.cons (.int .i64) (.cons (.int .i64) .nil)))), .l leaseR] (fun d K => B d.1.1 d.1.2.1 d.1.2.2.1 d.2.1 (fun y0 y1 y2 y3 a s => K (.a [.s (.int .i64 y0), .s (.int .i64 y1), .s (.int .i64 y2), .s (.int .i64 y3)], [.io [.l .no bytesR d.1.1, .s (.int .i64 a), .s (.int .i64 s)]])))
theorem okS_s_l01Cur_leaseOf : OkFn prog I N.s_l01Cur_leaseOf false (SB_s_l01Cur_leaseOf B_s_l01Cur_leaseOf) := okN (ok_fn (memc okS_s_l01Cur_badLease (memc okS_s_l01Cur_once (memc okS_s_l01Cur_pick mem0))) (l := ls_s_l01Cur_leaseOf) (p := []) (ls := []) (lend := []) (focus := false) (fuel := 0) (give := []) (fn := F.s_l01Cur_leaseOf) (by kernel_rfl) (by kernel_rfl) (by kernel_rfl) (by kernel_rfl) (cs := []) (by kernel_rfl) loops0) (S_B_of fun d K q hq => by
  refine (e_s_l01Cur_leaseOf d.1.1 d.1.2.1 d.1.2.2.1 d.2.1 K).trans ?_
  unfold B_s_l01Cur_leaseOf at hq
  cases hp : (curB 500000000000000000 d.1.1 d.1.2.1 d.1.2.2.1 && Nat.ble d.2.1.length 1000) with
  | false => rw [hp] at hq; cases hq
  | true =>
    rw [hp] at hq
    exact ((gs_s_l01Cur_leaseOf d.1.1 d.1.2.1 d.1.2.2.1 d.2.1 hp).2 K).trans hq)
end Go.Ev.Seat
end
section
/- s_l01Cur_now: its contract. -/
namespace Go.Ev.Seat
open Go.RowKit
set_option maxRecDepth 100000
set_option linter.unusedVariables false
set_option linter.unusedSimpArgs false
noncomputable abbrev ls_s_l01Cur_now : List (Nat × Bool × Sm) := [(N.s_l01Cur_pick, false, (SB_s_l01Cur_pick B_s_l01Cur_pick)), (N.s_l01Cur_raw, false, (SB_s_l01Cur_raw B_s_l01Cur_raw))]
noncomputable abbrev E_s_l01Cur_now : Env := En ls_s_l01Cur_now [] [] [] false 0 []
noncomputable def T_s_l01Cur_now (cc : List Int) (ca : Int) (cs : Int) (K : Ret → Option Ret) : Option Ret := (B_s_l01Cur_pick cc ca cs (14 : Int) (fun y0 y1 y2 => (B_s_l01Cur_raw cc y1 y2 (fun y3 y4 y5 => (B_s_l01Cur_pick cc y4 y5 (5 : Int) (fun y6 y7 y8 => (bif ((decide ((0 : Int) ≤ y6)) && (decide (y6 < (((List.length ((0 : Int) :: (y0 :: (y3 :: ((1000 : Int) :: ((1001 : Int) :: ([] : List Int))))))) : Nat) : Int)))) then K ((.s (.int .i64 (List.getD ((0 : Int) :: (y0 :: (y3 :: ((1000 : Int) :: ((1001 : Int) :: ([] : List Int)))))) (Int.toNat y6) (0 : Int)))), [(.io [(.l .no bytesR cc), (.s (.int .i64 y7)), (.s (.int .i64 y8))])]) else none)))))))
theorem e_s_l01Cur_now (cc : List Int) (ca : Int) (cs : Int) (K : Ret → Option Ret) : evF E_s_l01Cur_now false F.s_l01Cur_now [.io [.l .no bytesR cc, .s (.int .i64 ca), .s (.int .i64 cs)]] K = T_s_l01Cur_now cc ca cs K := by kernel_rfl
theorem x_s_l01Cur_now (cc : List Int) (ca : Int) (cs : Int) (h : (curB 2000000000000000000 cc ca cs) = true) : ∃ (y : Int) (a : Int) (s : Int), (0 ≤ a ∧ a ≤ ca + 4 ∧ 0 ≤ s ∧ s < 65536) ∧ ∀ K : Ret → Option Ret, T_s_l01Cur_now cc ca cs K = K (.s (.int .i64 y), [.io [.l .no bytesR cc, .s (.int .i64 a), .s (.int .i64 s)]]) := by
  suffices hd : Dr (fun r : Ret => ∃ (y : Int) (a : Int) (s : Int), (0 ≤ a ∧ a ≤ ca + 4 ∧ 0 ≤ s ∧ s < 65536) ∧ r = (.s (.int .i64 y), [.io [.l .no bytesR cc, .s (.int .i64 a), .s (.int .i64 s)]])) (fun K : Ret → Option Ret => T_s_l01Cur_now cc ca cs K) by
    obtain ⟨_, ⟨y, a, s, hp, rfl⟩, hk⟩ := hd
    exact ⟨y, a, s, hp, hk⟩
  obtain ⟨hf, h2, h3, h4, h5⟩ := curB_iff.1 h
  have hl := fitB_len hf
  unfold T_s_l01Cur_now
  repeat' first
    | exact Dr.leaf ⟨_, _, _, ⟨by omega, by omega, by omega, by omega⟩, rfl⟩
    | refine Dr.b3 (b_s_l01Cur_pick _ _ _ _ (curB_iff.2 ⟨hf, by omega, by omega, by omega, by omega⟩)) (fun _ _ _ hy => ?_)
    | refine Dr.b3 (b_s_l01Cur_raw _ _ _ (curB_iff.2 ⟨hf, by omega, by omega, by omega, by omega⟩)) (fun _ _ _ hy => ?_)
    | refine Dr.meet ?_
    | simp (disch := omega) only [wrap_in]
    | refine Dr.must (by first | rfl | (simp only [List.length_cons, List.length_nil, BEq.rfl, Bool.true_and, Bool.and_eq_true, decide_eq_true_eq]; omega)) ?_
    | refine Dr.bif (fun hb => ?_) (fun hb => ?_)
noncomputable def g_s_l01Cur_now (cc : List Int) (ca : Int) (cs : Int) : Int × Int × Int := Classical.epsilon fun g => (0 ≤ (g).2.1 ∧ (g).2.1 ≤ ca + 4 ∧ 0 ≤ (g).2.2 ∧ (g).2.2 < 65536) ∧ ∀ K : Ret → Option Ret, T_s_l01Cur_now cc ca cs K = K (.s (.int .i64 (g).1), [.io [.l .no bytesR cc, .s (.int .i64 (g).2.1), .s (.int .i64 (g).2.2)]])
theorem gs_s_l01Cur_now (cc : List Int) (ca : Int) (cs : Int) (h : (curB 2000000000000000000 cc ca cs) = true) : (0 ≤ (g_s_l01Cur_now cc ca cs).2.1 ∧ (g_s_l01Cur_now cc ca cs).2.1 ≤ ca + 4 ∧ 0 ≤ (g_s_l01Cur_now cc ca cs).2.2 ∧ (g_s_l01Cur_now cc ca cs).2.2 < 65536) ∧ ∀ K : Ret → Option Ret, T_s_l01Cur_now cc ca cs K = K (.s (.int .i64 (g_s_l01Cur_now cc ca cs).1), [.io [.l .no bytesR cc, .s (.int .i64 (g_s_l01Cur_now cc ca cs).2.1), .s (.int .i64 (g_s_l01Cur_now cc ca cs).2.2)]]) := by
  obtain ⟨y, a, s, hy, hk⟩ := x_s_l01Cur_now cc ca cs h
  exact Classical.epsilon_spec (p := fun g : Int × Int × Int => (0 ≤ (g).2.1 ∧ (g).2.1 ≤ ca + 4 ∧ 0 ≤ (g).2.2 ∧ (g).2.2 < 65536) ∧ ∀ K : Ret → Option Ret, T_s_l01Cur_now cc ca cs K = K (.s (.int .i64 (g).1), [.io [.l .no bytesR cc, .s (.int .i64 (g).2.1), .s (.int .i64 (g).2.2)]])) ⟨⟨y, a, s⟩, hy, hk⟩
noncomputable def B_s_l01Cur_now (cc : List Int) (ca : Int) (cs : Int) (k : (Int) → (Int) → (Int) → Option Ret) : Option Ret := bif curB 2000000000000000000 cc ca cs then k (g_s_l01Cur_now cc ca cs).1 (g_s_l01Cur_now cc ca cs).2.1 (g_s_l01Cur_now cc ca cs).2.2 else none
theorem b_s_l01Cur_now (cc : List Int) (ca : Int) (cs : Int) (h : (curB 2000000000000000000 cc ca cs) = true) : ∃ (y : Int) (a : Int) (s : Int), (0 ≤ a ∧ a ≤ ca + 4 ∧ 0 ≤ s ∧ s < 65536) ∧ ∀ k, B_s_l01Cur_now cc ca cs k = k y a s :=
  ⟨(g_s_l01Cur_now cc ca cs).1, (g_s_l01Cur_now cc ca cs).2.1, (g_s_l01Cur_now cc ca cs).2.2, (gs_s_l01Cur_now cc ca cs h).1, fun k => by unfold B_s_l01Cur_now; rw [h]; rfl⟩
def SB_s_l01Cur_now (B : (List Int) → (Int) → (Int) → ((Int) → (Int) → (Int) → Option Ret) → Option Ret) : Sm := S_B [.sh (.io (.cons (.l .no bytesR) (.cons (.int .i64) (.cons (.int .i64) .nil))))] (fun d K => B d.1.1 d.1.2.1 d.1.2.2.1 (fun y a s => K (.s (.int .i64 y), [.io [.l .no bytesR d.1.1, .s (.int .i64 a), .s (.int .i64 s)]])))
theorem okS_s_l01Cur_now : OkFn prog I N.s_l01Cur_now false (SB_s_l01Cur_now B_s_l01Cur_now) := okN (ok_fn (memc okS_s_l01Cur_pick (memc okS_s_l01Cur_raw mem0)) (l := ls_s_l01Cur_now) (p := []) (ls := []) (lend := []) (focus := false) (fuel := 0) (give := []) (fn := F.s_l01Cur_now) (by kernel_rfl) (by kernel_rfl) (by kernel_rfl) (by kernel_rfl) (cs := []) (by kernel_rfl) loops0) (S_B_of fun d K q hq => by
  refine (e_s_l01Cur_now d.1.1 d.1.2.1 d.1.2.2.1 K).trans ?_
  unfold B_s_l01Cur_now at hq
  cases hp : (curB 2000000000000000000 d.1.1 d.1.2.1 d.1.2.2.1) with
  | false => rw [hp] at hq; cases hq
  | true =>
    rw [hp] at hq
    exact ((gs_s_l01Cur_now d.1.1 d.1.2.1 d.1.2.2.1 hp).2 K).trans hq)
end Go.Ev.Seat
end
