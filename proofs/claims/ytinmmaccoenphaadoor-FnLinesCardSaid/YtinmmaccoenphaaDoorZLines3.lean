/- Lines: parts EvShape EvLib EvGen EvSum EvSig EvWeak EvSigN EvRows PUtf PEdit PReq PLoop PEvent PMove EvFit PMoveF Flbig PDraw Fsl01Open Fsl01Curpick Fsl01Cursize Fsl01Currune FsRuneBytes Fsl01Curtext PDraw2 PRope Fsl01Curchunks Fsl01Curonce Fsl01Rune FsRuneSize Fsl01Cuts FsTextOk PUtf3 PUtf4 PUtf2 PUtf5 PUtf6 PChunk PChunk2, packed by squash.py. -/
import Derived.Lib.Strings
import Derived.Lib.RuneCountTail
import Derived.Lib.Bytealg
import Derived.Lib.Bytes
import Derived.Test.YtinmmaccoenphaaDoorZLines0
import Derived.Test.YtinmmaccoenphaaDoorZLines1
import Derived.Test.YtinmmaccoenphaaDoorZLines2
set_option linter.unusedVariables false
set_option linter.unusedSimpArgs false
section
/- Shapes of states: which data stand where. -/
set_option linter.unusedVariables false
namespace Go.Ev

mutual
inductive Sh where
  | x | nl | int (k : IntKind) | bool | str | l (o : Ow) (r : Rw) | w (k : Nat) | pb (k c : Nat) | a (ss : ShL) | io (ss : ShL) | f (g : Nat) (ss : ShL) | qb (ss : ShL) (c : Nat) | lit (v : Value) | q (r : Rw) (c : Nat) | r (k : Nat) | pa (k c : Nat)
inductive ShL where
  | nil
  | cons (s : Sh) (ss : ShL)
end
mutual
@[reducible] def Sh.T : Sh → Type
  | .int _ => Int
  | .bool => Bool
  | .str => ByteArray
  | .l _ r => List r.T
  | .a ss => ss.T
  | .io ss => ss.T
  | .f _ ss => ss.T
  | .qb ss _ => ss.T
  | .q r _ => r.T
  | .r _ => Nat × Nat
  | .pa _ _ => Nat
  | _ => Unit
@[reducible] def ShL.T : ShL → Type
  | .nil => Unit
  | .cons s ss => s.T × ss.T
end
mutual
def Sh.mk : (s : Sh) → s.T → V
  | .x, _ => .x
  | .nl, _ => .nl
  | .int k, n => .s (.int k n)
  | .bool, b => .s (.bool b)
  | .str, b => .s (.string b)
  | .l o r, xs => .l o r xs
  | .w k, _ => .w k
  | .pb k c, _ => .pb k c
  | .a ss, d => .a (ss.mk d)
  | .io ss, d => .io (ss.mk d)
  | .f g ss, d => .f g (ss.mk d)
  | .qb ss c, d => .qb (ss.mk d) c
  | .lit v, _ => .s v
  | .q r c, d => .q r d c
  | .r k, d => .r k d.1 d.2
  | .pa k c, i => .pa k i c
def ShL.mk : (ss : ShL) → ss.T → List V
  | .nil, _ => []
  | .cons s ss, d => s.mk d.1 :: ss.mk d.2
end
mutual
def Sh.un : (s : Sh) → V → Option s.T
  | .x, .x => some ()
  | .nl, .nl => some ()
  | .int k, .s (.int k' n) => if k' = k then some n else none
  | .bool, .s (.bool b) => some b
  | .str, .s (.string b) => some b
  | .l o r, .l o' r' xs => if h : r' = r then (if o' = o then some (h ▸ xs) else none) else none
  | .w k, .w j => bif Nat.beq j k then some () else none
  | .pb k c, .pb j e => bif Nat.beq j k && Nat.beq e c then some () else none
  | .a ss, .a cs => ss.un cs
  | .io ss, .io cs => ss.un cs
  | .f g ss, .f g' cs => bif Nat.beq g' g then ss.un cs else none
  | .qb ss c, .qb cs c' => bif Nat.beq c' c then ss.un cs else none
  | .q r c, .q r' d c' => if h : r' = r then (bif Nat.beq c' c then some (h ▸ d) else none) else none
  | .r k, .r j off len => bif Nat.beq j k then some (off, len) else none
  | .pa k c, .pa j i e => bif Nat.beq j k && Nat.beq e c then some i else none
  | _, _ => none
def ShL.un : (ss : ShL) → List V → Option ss.T
  | .nil, [] => some ()
  | .cons s ss, v :: vs => match s.un v with
    | some d => match ss.un vs with
      | some e => some (d, e)
      | none => none
    | none => none
  | _, _ => none
end
mutual
theorem Sh.un_mk : (s : Sh) → {v : V} → {d : s.T} → s.un v = some d → v = s.mk d
  | .x, v, d, h => by cases v <;> simp [Sh.un] at h; rfl
  | .nl, v, d, h => by cases v <;> simp [Sh.un] at h; rfl
  | .int k, v, d, h => by
    cases v with
    | s u =>
      cases u with
      | int k' n =>
        simp only [Sh.un] at h
        split at h
        · rename_i hk; subst hk; cases h; rfl
        · cases h
      | _ => simp [Sh.un] at h
    | _ => simp [Sh.un] at h
  | .bool, v, d, h => by
    cases v with
    | s u =>
      cases u with
      | bool b => simp only [Sh.un] at h; cases h; rfl
      | _ => simp [Sh.un] at h
    | _ => simp [Sh.un] at h
  | .str, v, d, h => by
    cases v with
    | s u =>
      cases u with
      | string b => simp only [Sh.un] at h; cases h; rfl
      | _ => simp [Sh.un] at h
    | _ => simp [Sh.un] at h
  | .l o r, v, d, h => by
    cases v with
    | l o' r' xs =>
      simp only [Sh.un] at h
      split at h
      · rename_i hr
        subst hr
        split at h
        · rename_i ho; subst ho; cases h; rfl
        · cases h
      · cases h
    | _ => simp [Sh.un] at h
  | .lit u, v, d, h => by simp [Sh.un] at h
  | .io ss, v, d, h => by
    cases v with
    | io cs => simp only [Sh.un] at h; simp only [Sh.mk]; rw [ShL.un_mk ss h]
    | _ => simp [Sh.un] at h
  | .f g ss, v, d, h => by
    cases v with
    | f g' cs =>
      simp only [Sh.un] at h
      cases e : Nat.beq g' g with
      | true => rw [e] at h; simp only [Sh.mk]; rw [ShL.un_mk ss h, Nat.eq_of_beq_eq_true e]
      | false => rw [e] at h; cases h
    | _ => simp [Sh.un] at h
  | .qb ss c, v, d, h => by
    cases v with
    | qb cs c' =>
      simp only [Sh.un] at h
      cases e : Nat.beq c' c with
      | true => rw [e] at h; simp only [Sh.mk]; rw [ShL.un_mk ss h, Nat.eq_of_beq_eq_true e]
      | false => rw [e] at h; cases h
    | _ => simp [Sh.un] at h
  | .q r c, v, d, h => by
    cases v with
    | q r' e c' =>
      simp only [Sh.un] at h
      split at h
      · rename_i hr
        subst hr
        cases e1 : Nat.beq c' c with
        | true => rw [e1] at h; cases h; rw [Nat.eq_of_beq_eq_true e1]; rfl
        | false => rw [e1] at h; cases h
      · cases h
    | _ => simp [Sh.un] at h
  | .r k, v, d, h => by
    cases v with
    | r j off len =>
      simp only [Sh.un] at h
      cases e : Nat.beq j k with
      | true => rw [e] at h; cases h; rw [Nat.eq_of_beq_eq_true e]; rfl
      | false => rw [e] at h; cases h
    | _ => simp [Sh.un] at h
  | .pa k c, v, d, h => by
    cases v with
    | pa j i e =>
      simp only [Sh.un] at h
      cases e1 : (Nat.beq j k && Nat.beq e c) with
      | true =>
        rw [e1] at h
        simp only [Bool.and_eq_true] at e1
        cases h
        rw [Nat.eq_of_beq_eq_true e1.1, Nat.eq_of_beq_eq_true e1.2]; rfl
      | false => rw [e1] at h; cases h
    | _ => simp [Sh.un] at h
  | .w k, v, d, h => by
    cases v with
    | w j =>
      simp only [Sh.un] at h
      cases e : Nat.beq j k with
      | true => rw [Nat.eq_of_beq_eq_true e]; rfl
      | false => rw [e] at h; cases h
    | _ => simp [Sh.un] at h
  | .pb k c, v, d, h => by
    cases v with
    | pb j e =>
      simp only [Sh.un] at h
      cases e1 : (Nat.beq j k && Nat.beq e c) with
      | true =>
        simp only [Bool.and_eq_true] at e1
        rw [Nat.eq_of_beq_eq_true e1.1, Nat.eq_of_beq_eq_true e1.2]; rfl
      | false => rw [e1] at h; cases h
    | _ => simp [Sh.un] at h
  | .a ss, v, d, h => by
    cases v with
    | a cs => simp only [Sh.un] at h; simp only [Sh.mk]; rw [ShL.un_mk ss h]
    | _ => simp [Sh.un] at h
theorem ShL.un_mk : (ss : ShL) → {vs : List V} → {d : ss.T} → ss.un vs = some d → vs = ss.mk d
  | .nil, [], d, h => rfl
  | .nil, _ :: _, d, h => by simp [ShL.un] at h
  | .cons s ss, [], d, h => by simp [ShL.un] at h
  | .cons s ss, v :: vs, d, h => by
    simp only [ShL.un] at h
    split at h
    · rename_i e he
      split at h
      · rename_i f hf
        cases h
        simp only [ShL.mk]
        rw [← Sh.un_mk s he, ← ShL.un_mk ss hf]
      · cases h
    · cases h
end

/-- Objects, numbered from n on. -/
inductive Oh where
  | nil
  | arr (mu deep : Bool) (r : Rw) (o : Oh)
  | own (st : Bool) (r : Rw) (o : Oh)
  | box (ss : ShL) (o : Oh)
@[reducible] def Oh.T : Oh → Type
  | .nil => Unit
  | .arr _ _ r o => List r.T × o.T
  | .own _ r o => List r.T × o.T
  | .box ss o => ss.T × o.T
def Oh.mk : (o : Oh) → Nat → o.T → Obs
  | .nil, _, _ => []
  | .arr mu deep r o, n, d => (n, .arr mu deep r d.1) :: o.mk (n + 1) d.2
  | .own st r o, n, d => (n, .own st r d.1) :: o.mk (n + 1) d.2
  | .box ss o, n, d => (n, .box (ss.mk d.1)) :: o.mk (n + 1) d.2
def Oh.un : (o : Oh) → Nat → Obs → Option o.T
  | .nil, _, [] => some ()
  | .arr mu deep r o, n, (j, .arr mu' deep' r' xs) :: ob => if h : r' = r then (bif Nat.beq j n && (mu' == mu) && (deep' == deep) then (match o.un (n + 1) ob with
    | some e => some (h ▸ xs, e)
    | none => none) else none) else none
  | .own st r o, n, (j, .own st' r' xs) :: ob => if h : r' = r then (bif Nat.beq j n && (st' == st) then (match o.un (n + 1) ob with
    | some e => some (h ▸ xs, e)
    | none => none) else none) else none
  | .box ss o, n, (j, .box cs) :: ob => bif Nat.beq j n then (match ss.un cs with
    | some d => match o.un (n + 1) ob with
      | some e => some (d, e)
      | none => none
    | none => none) else none
  | _, _, _ => none
theorem Oh.un_mk : (o : Oh) → {n : Nat} → {ob : Obs} → {d : o.T} → o.un n ob = some d → ob = o.mk n d
  | .nil, n, [], d, h => rfl
  | .nil, n, _ :: _, d, h => by simp [Oh.un] at h
  | .arr mu deep r o, n, [], d, h => by simp [Oh.un] at h
  | .arr mu deep r o, n, (j, e) :: ob, d, h => by
    cases e with
    | arr mu' deep' r' xs =>
      simp only [Oh.un] at h
      split at h
      · rename_i hr
        subst hr
        cases e1 : (Nat.beq j n && (mu' == mu) && (deep' == deep)) with
        | true =>
          rw [e1] at h
          simp only [Bool.and_eq_true, beq_iff_eq] at e1
          obtain ⟨⟨h1, rfl⟩, rfl⟩ := e1
          have := Nat.eq_of_beq_eq_true h1
          subst this
          simp only [cond_true] at h
          split at h
          · rename_i f hf
            cases h
            simp only [Oh.mk]
            rw [← Oh.un_mk o hf]
          · cases h
        | false => rw [e1] at h; cases h
      · cases h
    | _ => simp [Oh.un] at h
  | .own st r o, n, [], d, h => by simp [Oh.un] at h
  | .own st r o, n, (j, e) :: ob, d, h => by
    cases e with
    | own st' r' xs =>
      simp only [Oh.un] at h
      split at h
      · rename_i hr
        subst hr
        cases e1 : (Nat.beq j n && (st' == st)) with
        | true =>
          rw [e1] at h
          simp only [Bool.and_eq_true, beq_iff_eq] at e1
          obtain ⟨h1, rfl⟩ := e1
          have := Nat.eq_of_beq_eq_true h1
          subst this
          simp only [cond_true] at h
          split at h
          · rename_i f hf
            cases h
            simp only [Oh.mk]
            rw [← Oh.un_mk o hf]
          · cases h
        | false => rw [e1] at h; cases h
      · cases h
    | _ => simp [Oh.un] at h
  | .box ss o, n, [], d, h => by simp [Oh.un] at h
  | .box ss o, n, (j, e) :: ob, d, h => by
    cases e with
    | box cs =>
      simp only [Oh.un] at h
      cases e1 : Nat.beq j n with
      | true =>
        rw [e1] at h
        have := Nat.eq_of_beq_eq_true e1
        subst this
        simp only [cond_true] at h
        split at h
        · rename_i f hf
          split at h
          · rename_i g hg
            cases h
            simp only [Oh.mk]
            rw [← ShL.un_mk ss hf, ← Oh.un_mk o hg]
          · cases h
        · cases h
      | false => rw [e1] at h; cases h
    | _ => simp [Oh.un] at h

structure Ss where
  tm : ShL
  ob : Oh
  nx : Nat
  io : ShL
abbrev Ss.T (s : Ss) : Type := s.tm.T × s.ob.T × s.io.T
def Ss.mk' (s : Ss) (d : s.T) : St := { tm := s.tm.mk d.1, ob := s.ob.mk 0 d.2.1, nx := s.nx, io := s.io.mk d.2.2 }
def Ss.un (s : Ss) (σ : St) : Option s.T :=
  match s.tm.un σ.tm with
  | none => none
  | some d => match s.ob.un 0 σ.ob with
    | none => none
    | some e => match s.io.un σ.io with
      | none => none
      | some f => bif Nat.beq σ.nx s.nx then some (d, e, f) else none
theorem Ss.un_mk {s : Ss} {σ : St} {d : s.T} (h : s.un σ = some d) : σ = s.mk' d := by
  unfold Ss.un at h
  split at h
  · cases h
  · rename_i d1 h1
    split at h
    · cases h
    · rename_i d2 h2
      split at h
      · cases h
      · rename_i d3 h3
        cases e : Nat.beq σ.nx s.nx with
        | false => rw [e] at h; cases h
        | true =>
          rw [e] at h
          cases h
          obtain ⟨tm, ob, nx, io⟩ := σ
          have := Nat.eq_of_beq_eq_true e
          simp only at h1 h2 h3 this
          subst this
          simp only [Ss.mk']
          rw [← ShL.un_mk _ h1, ← Oh.un_mk _ h2, ← ShL.un_mk _ h3]

/-! ### The loops of a piece of code -/
def loopsIn : Code → List Code
  | .seq a b => loopsIn a ++ loopsIn b
  | .cond _ a b => loopsIn a ++ loopsIn b
  | .block _ c => loopsIn c
  | .loop c => c :: loopsIn c
  | _ => []
def LoopOk (Γ : Env) (c : Code) : Prop := ∀ n F, firstRegion c = some n → Γ.sum n = some F → ∀ σ K r, F σ K = some r → ∃ m, rounds (run Γ c) (Γ.hint n).1 (Γ.hint n).2 m σ K = some r
theorem loopsOk_of {Γ : Env} : (c : Code) → (∀ b ∈ loopsIn c, LoopOk Γ b) → LoopsOk Γ c
  | .seq a b, h => ⟨loopsOk_of a (fun c hc => h c (by simp [loopsIn, hc])), loopsOk_of b (fun c hc => h c (by simp [loopsIn, hc]))⟩
  | .cond _ a b, h => ⟨loopsOk_of a (fun c hc => h c (by simp [loopsIn, hc])), loopsOk_of b (fun c hc => h c (by simp [loopsIn, hc]))⟩
  | .block _ c, h => loopsOk_of c (fun b hb => h b (by simpa [loopsIn] using hb))
  | .loop c, h => ⟨h c (by simp [loopsIn]), loopsOk_of c (fun b hb => h b (by simp [loopsIn, hb]))⟩
  | .skip, _ => trivial
  | .region _ _ _, _ => trivial
  | .exit _, _ => trivial
  | .goto _, _ => trivial
  | .label _, _ => trivial
  | .scope _, _ => trivial
  | .ret, _ => trivial
  | .rangeFunc _ _ _ _, _ => trivial
  | .refuse _, _ => trivial
end Go.Ev
end
section
/- What the functions' texts share. -/
namespace Go.Ev
set_option linter.unusedVariables false
abbrev LoopFn := St → (Ex → St → Option Ret) → Option Ret
theorem loopW_ok {Γ : Env} {c : Code} {n : Nat} {F : LoopFn} (hn : firstRegion c = some n) (hs : Γ.sum n = some F) {li lo : List Nat} (hh : Γ.hint n = (li, lo)) (h : ∀ σ K r, F σ K = some r → ∃ m, rounds (run Γ c) li lo m σ K = some r) : LoopOk Γ c := by
  intro n' F' hn' hF σ K r hr
  rw [hn] at hn'
  cases hn'
  rw [hs] at hF
  cases hF
  rw [hh]
  exact h σ K r hr
/-- The loops of a function: number, what lives at the head, at the exit, the summary. -/
def sumOf : List (Nat × List Nat × List Nat × LoopFn) → Nat → Option LoopFn
  | [], _ => none
  | (k, _, _, F) :: l, n => bif Nat.beq n k then some F else sumOf l n
def hintOf : List (Nat × List Nat × List Nat × LoopFn) → Nat → List Nat × List Nat
  | [], _ => ([], [])
  | (k, a, b, _) :: l, n => bif Nat.beq n k then (a, b) else hintOf l n
def planOf : List (Nat × Plan × List Nat) → Nat → Option (Plan × List Nat)
  | [], _ => none
  | (k, p, t) :: l, n => bif Nat.beq n k then some (p, t) else planOf l n
def memN (l : List Nat) (n : Nat) : Bool := l.any (Nat.beq n)
def xsh : Nat → ShL
  | 0 => .nil
  | n + 1 => .cons .x (xsh n)
def xd : (n : Nat) → (xsh n).T
  | 0 => ()
  | n + 1 => ((), xd n)
/-- The loop's body whose first region is n. -/
def bodyOf (f : Func) (n : Nat) : Code :=
  ((loopsIn (f.body.getD .skip)).find? (fun c => match firstRegion c with
    | some m => Nat.beq m n
    | none => false)).getD .skip
theorem wrap_id {n : Int} (h0 : 0 ≤ n) (h1 : n ≤ 4611686018427387905) : IntKind.i64.wrap n = n := by
  have : IntKind.i64.wrap n = Go.RowKit.wrap64 n := by
    simp only [IntKind.wrap, IntKind.bits, IntKind.signed, Go.RowKit.wrap64, Bool.true_and]
    split <;> simp_all <;> omega
  rw [this]; unfold Go.RowKit.wrap64; omega
theorem wrap_in {n : Int} (h0 : -9223372036854775808 ≤ n) (h1 : n ≤ 9223372036854775807) : IntKind.i64.wrap n = n := by
  have : IntKind.i64.wrap n = Go.RowKit.wrap64 n := by
    simp only [IntKind.wrap, IntKind.bits, IntKind.signed, Go.RowKit.wrap64, Bool.true_and]
    split <;> simp_all <;> omega
  rw [this]; unfold Go.RowKit.wrap64; omega
def takes : List Nat → Plan
  | [] => .done
  | i :: l => .take i (takes l)
def takeB : List Nat → Plan → Plan
  | [], p => p
  | i :: l, p => .take i (takeB l p)
section
variable {P : Program} {I : Nat → World → Prop}
theorem mem0 : ∀ q ∈ ([] : List (Nat × Bool × Sm)), OkFn P I q.1 q.2.1 q.2.2 := fun _ h => nomatch h
theorem memc {g : Nat} {b : Bool} {G : Sm} {l : List (Nat × Bool × Sm)} (h : OkFn P I g b G) (hl : ∀ q ∈ l, OkFn P I q.1 q.2.1 q.2.2) : ∀ q ∈ (g, b, G) :: l, OkFn P I q.1 q.2.1 q.2.2 := fun q hq => by
  rcases List.mem_cons.1 hq with rfl | hq
  · exact h
  · exact hl q hq
/-- All loops of a function, one after the other. -/
def LoopsAll (Γ : Env) (cs : List Code) : Prop := ∀ b ∈ cs, LoopOk Γ b
theorem loops0 {Γ : Env} : LoopsAll Γ [] := fun _ h => nomatch h
theorem loopsc {Γ : Env} {c : Code} {cs : List Code} (h : LoopOk Γ c) (hl : LoopsAll Γ cs) : LoopsAll Γ (c :: cs) := fun q hq => by
  rcases List.mem_cons.1 hq with rfl | hq
  · exact h
  · exact hl q hq
end
/-- Operations on bits. -/
def band (k : IntKind) (a b : Int) : Int := k.wrap ((BitVec.ofInt k.bits a &&& BitVec.ofInt k.bits b).toNat : Int)
def bor (k : IntKind) (a b : Int) : Int := k.wrap ((BitVec.ofInt k.bits a ||| BitVec.ofInt k.bits b).toNat : Int)
def shlI (k : IntKind) (a b : Int) : Int := k.wrap (a * 2 ^ (min b.toNat k.bits))
def shrI (k : IntKind) (a b : Int) : Int := a.fdiv (2 ^ (min b.toNat k.bits))
def nilsOf : List (Nat × List (Nat × Nat × Rw)) → Nat → List (Nat × Nat × Rw)
  | [], _ => []
  | (k, q) :: l, n => bif Nat.beq n k then q else nilsOf l n
/-- A table of types, contracts, plans and loops. -/
def mkE (ty : Nat → Option Ty) (l : List (Nat × Bool × Sm)) (p : List (Nat × Plan × List Nat) := []) (ls : List (Nat × List Nat × List Nat × LoopFn) := []) (lend : List Nat := []) (focus : Bool := false) (fuel : Nat := 0) (give : List Nat := []) (glob : Nat → Option ((r : Rw) × List r.T) := fun _ => none) (nils : List (Nat × List (Nat × Nat × Rw)) := []) : Env :=
  { ty := ty, fn := tab l, hint := hintOf ls, plan := planOf p, sum := sumOf ls, lend := ⟨memN lend, memN give⟩, focus := focus, fuel := fuel, glob := glob, nils := nilsOf nils }
end Go.Ev
namespace Go.Ev.Seat
open Go.RowKit
set_option maxRecDepth 100000
set_option linter.unusedVariables false
noncomputable abbrev prog := Go.Proofs.Tryd.prog
noncomputable abbrev En (l : List (Nat × Bool × Sm)) (p : List (Nat × Plan × List Nat) := []) (ls : List (Nat × List Nat × List Nat × LoopFn) := []) (lend : List Nat := []) (focus : Bool := false) (fuel : Nat := 0) (give : List Nat := []) (nils : List (Nat × List (Nat × Nat × Rw)) := []) : Env := mkE tys.get l p ls lend focus fuel give globs nils
/-- A function keeps its contract. -/
theorem ok_fn {l : List (Nat × Bool × Sm)} {p : List (Nat × Plan × List Nat)} {ls : List (Nat × List Nat × List Nat × LoopFn)} {lend : List Nat} {focus : Bool} {fuel : Nat} {give : List Nat} {nils : List (Nat × List (Nat × Nat × Rw))} (hl : ∀ q ∈ l, OkFn prog I q.1 q.2.1 q.2.2) {g : FuncId} {fn : Func} (hg : prog.funcs[g]? = some fn) (hname : (fn.name == "runtime.NumGoroutine") = false) (hb : fn.body = some (fn.body.getD .skip)) (hpl : plansOk (planOf p) (fn.body.getD .skip) = true) {cs : List Code} (hcs : loopsIn (fn.body.getD .skip) = cs) (hlo : LoopsAll (En l p ls lend focus fuel give nils) cs) {fresh : Bool} : OkFn prog I g fresh (evF (En l p ls lend focus fuel give nils) fresh fn) :=
  evF_ok (Γ := En l p ls lend focus fuel give nils) mixed tysOk ⟨fun g fresh G h => tab_ok hl g fresh G h, globOk rfl⟩ hg hname hb hpl (loopsOk_of _ (by rw [hcs]; exact hlo))
abbrev bytesR : Rw := .one (.int .u8)
abbrev intR : Rw := .one (.int .i64)
end Go.Ev.Seat
end
section
/- The laws' helpers, for all kinds of rows at once: how much lies there, equal, copied, marked, held. -/
set_option linter.unusedVariables false
namespace Go.Ev

/-! ### Marks -/
def markList {α : Type} (f : α → Int → α × Int) : List α → Int → List α × Int
  | [], k => ([], k)
  | x :: xs, k => ((f x k).1 :: (markList f xs (f x k).2).1, (markList f xs (f x k).2).2)
/-- The text of a mark; what it is does not matter here. -/
structure MText where
  t : Int → ByteArray
def markInt : IntKind → Int → Int
  | .i64, n => n
  | k, n => k.wrap n
mutual
def Cc.mark (T : MText) : (c : Cc) → c.T → Int → c.T × Int
  | .int k, _, n => (markInt k n, IntKind.i64.wrap (n + 1))
  | .bool, b, n => (b, n)
  | .str, _, n => (T.t n, IntKind.i64.wrap (n + 1))
  | .sl r, xs, n => markList (r.mark T) xs n
def Rw.mark (T : MText) : (r : Rw) → r.T → Int → r.T × Int
  | .one c, d, n => c.mark T d n
  | .cons c r, d, n => ((( c.mark T d.1 n).1, (r.mark T d.2 (c.mark T d.1 n).2).1), (r.mark T d.2 (c.mark T d.1 n).2).2)
end
theorem markList_len {α : Type} (f : α → Int → α × Int) : ∀ (xs : List α) (k : Int), (markList f xs k).1.length = xs.length
  | [], _ => rfl
  | x :: xs, k => by simp [markList, markList_len f xs]
theorem markList_idem {α : Type} {f : α → Int → α × Int} (h : ∀ x k, f (f x k).1 k = f x k) : ∀ (xs : List α) (k : Int), markList f (markList f xs k).1 k = markList f xs k
  | [], _ => rfl
  | x :: xs, k => by simp only [markList, h, markList_idem h xs]
mutual
theorem Cc.mark_idem (T : MText) : (c : Cc) → (d : c.T) → (k : Int) → c.mark T (c.mark T d k).1 k = c.mark T d k
  | .int _, _, _ => rfl
  | .bool, _, _ => rfl
  | .str, _, _ => rfl
  | .sl r, xs, k => by simp only [Cc.mark]; exact markList_idem (fun x k => Rw.mark_idem T r x k) xs k
theorem Rw.mark_idem (T : MText) : (r : Rw) → (d : r.T) → (k : Int) → r.mark T (r.mark T d k).1 k = r.mark T d k
  | .one c, d, k => Cc.mark_idem T c d k
  | .cons c r, d, k => by simp only [Rw.mark, Cc.mark_idem T c, Rw.mark_idem T r]
end
/-! ### How much -/
def sumW {α : Type} (f : α → Nat) : List α → Nat
  | [] => 0
  | x :: xs => f x + sumW f xs
mutual
def Cc.w : (c : Cc) → c.T → Nat
  | .int _, _ => 0
  | .bool, _ => 0
  | .str, s => s.size
  | .sl r, xs => xs.length + sumW r.w xs
def Rw.w : (r : Rw) → r.T → Nat
  | .one c, d => c.w d
  | .cons c r, d => c.w d.1 + r.w d.2
end
mutual
def Cc.marks : (c : Cc) → c.T → Nat
  | .int _, _ => 1
  | .bool, _ => 0
  | .str, _ => 1
  | .sl r, xs => sumW r.marks xs
def Rw.marks : (r : Rw) → r.T → Nat
  | .one c, d => c.marks d
  | .cons c r, d => c.marks d.1 + r.marks d.2
end
theorem markList_cnt {α : Type} {f : α → Int → α × Int} {m : α → Nat} (h : ∀ x (k : Int), 0 ≤ k → k + m x ≤ 4611686018427387904 → (f x k).2 = k + m x) : ∀ (xs : List α) (k : Int), 0 ≤ k → k + sumW m xs ≤ 4611686018427387904 → (markList f xs k).2 = k + sumW m xs
  | [], k, _, _ => by simp [markList, sumW]
  | x :: xs, k, h0, h1 => by
    simp only [markList, sumW] at h1 ⊢
    have e := h x k h0 (by omega)
    rw [markList_cnt h xs _ (by rw [e]; omega) (by rw [e]; omega), e]
    omega
mutual
theorem Cc.mark_cnt (T : MText) : (c : Cc) → (d : c.T) → (k : Int) → 0 ≤ k → k + c.marks d ≤ 4611686018427387904 → (c.mark T d k).2 = k + c.marks d
  | .int _, d, k, h0, h1 => by simp only [Cc.mark, Cc.marks] at h1 ⊢; rw [wrap_id (by omega) (by omega)]; rfl
  | .bool, d, k, h0, h1 => by simp [Cc.mark, Cc.marks]
  | .str, d, k, h0, h1 => by simp only [Cc.mark, Cc.marks] at h1 ⊢; rw [wrap_id (by omega) (by omega)]; rfl
  | .sl r, xs, k, h0, h1 => by simp only [Cc.mark, Cc.marks] at h1 ⊢; exact markList_cnt (fun x k => Rw.mark_cnt T r x k) xs k h0 h1
theorem Rw.mark_cnt (T : MText) : (r : Rw) → (d : r.T) → (k : Int) → 0 ≤ k → k + r.marks d ≤ 4611686018427387904 → (r.mark T d k).2 = k + r.marks d
  | .one c, d, k, h0, h1 => Cc.mark_cnt T c d k h0 h1
  | .cons c r, d, k, h0, h1 => by
    simp only [Rw.mark, Rw.marks] at h1 ⊢
    have e := Cc.mark_cnt T c d.1 k h0 (by omega)
    rw [Rw.mark_cnt T r d.2 _ (by rw [e]; omega) (by rw [e]; omega), e]
    omega
end
/-! ### Small enough to be copied -/
mutual
def Cc.lim : (c : Cc) → c.T → Bool
  | .int _, _ => true
  | .bool, _ => true
  | .str, _ => true
  | .sl r, xs => Nat.ble xs.length 1048576 && xs.all r.lim
def Rw.lim : (r : Rw) → r.T → Bool
  | .one c, d => c.lim d
  | .cons c r, d => c.lim d.1 && r.lim d.2
end
theorem sumW_mem {α : Type} {f : α → Nat} : ∀ {xs : List α} {x : α}, x ∈ xs → f x ≤ sumW f xs
  | y :: xs, x, h => by
    simp only [sumW]
    rcases List.mem_cons.1 h with rfl | h
    · omega
    · have := sumW_mem (f := f) h; omega
mutual
theorem Cc.lim_ok : (c : Cc) → (d : c.T) → c.w d ≤ 1048576 → c.lim d = true
  | .int _, _, _ => rfl
  | .bool, _, _ => rfl
  | .str, _, _ => rfl
  | .sl r, xs, h => by
    simp only [Cc.w] at h
    simp only [Cc.lim, Bool.and_eq_true, List.all_eq_true]
    refine ⟨Nat.ble_eq_true_of_le (by omega), fun x hx => ?_⟩
    have := sumW_mem (f := r.w) hx
    exact Rw.lim_ok r x (by omega)
theorem Rw.lim_ok : (r : Rw) → (d : r.T) → r.w d ≤ 1048576 → r.lim d = true
  | .one c, d, h => Cc.lim_ok c d h
  | .cons c r, d, h => by
    simp only [Rw.w] at h
    simp only [Rw.lim, Bool.and_eq_true]
    exact ⟨Cc.lim_ok c d.1 (by omega), Rw.lim_ok r d.2 (by omega)⟩
end
/-! ### Equality -/
/-! ### Rounds of loops over a list -/
section
variable {α β : Type} {ρ : Type}
theorem sumW_take_le {α : Type} {g : α → Nat} {xs : List α} {i : Nat} : sumW g (xs.take i) ≤ sumW g xs := by
  have app : ∀ (ys zs : List α), sumW g (ys ++ zs) = sumW g ys + sumW g zs := fun ys zs => by
    induction ys with
    | nil => simp [sumW]
    | cons y ys ih => simp only [List.cons_append, sumW, ih]; omega
  have := app (xs.take i) (xs.drop i)
  rw [List.take_append_drop] at this
  omega
theorem flatten_take {α : Type} {xs : List (List α)} {i : Nat} {z : List α} (h : i < xs.length) : (xs.take (i + 1)).flatten = (xs.take i).flatten ++ xs.getD i z := by
  rw [List.take_add_one, List.flatten_append, List.getD_eq_getElem?_getD, List.getElem?_eq_getElem h]
  simp
end
end Go.Ev
end
section
/- The laws' helpers: their contracts, for all kinds of rows at once. -/
set_option linter.unusedVariables false
namespace Go.Ev

/-! ### What comes in, read as data -/
def Cc.dec : (c : Cc) → V → Option c.T
  | .int k, .s (.int k' n) => if k' = k then some n else none
  | .bool, .s (.bool b) => some b
  | .str, .s (.string b) => some b
  | .sl r, .l .no r' xs => if h : r' = r then some (h ▸ xs) else none
  | _, _ => none
def Rw.dec : (r : Rw) → List V → Option r.T
  | .one c, [v] => c.dec v
  | .cons c r, v :: vs => match c.dec v with
    | some d => match r.dec vs with
      | some e => some (d, e)
      | none => none
    | none => none
  | _, _ => none
theorem Cc.dec_ok : (c : Cc) → {v : V} → {d : c.T} → c.dec v = some d → v = c.cell .no d
  | .int k, v, d, h => by
    cases v with
    | s u =>
      cases u with
      | int k' n =>
        simp only [Cc.dec] at h
        split at h
        · rename_i hk; subst hk; cases h; rfl
        · cases h
      | _ => simp [Cc.dec] at h
    | _ => simp [Cc.dec] at h
  | .bool, v, d, h => by
    cases v with
    | s u => cases u <;> simp only [Cc.dec, reduceCtorEq, Option.some.injEq] at h; subst h; rfl
    | _ => simp [Cc.dec] at h
  | .str, v, d, h => by
    cases v with
    | s u => cases u <;> simp only [Cc.dec, reduceCtorEq, Option.some.injEq] at h; subst h; rfl
    | _ => simp [Cc.dec] at h
  | .sl r, v, d, h => by
    cases v with
    | l o r' xs =>
      cases o <;> simp only [Cc.dec, reduceCtorEq] at h
      split at h
      · rename_i hr; subst hr; cases h; rfl
      · cases h
    | _ => simp [Cc.dec] at h
theorem Rw.dec_ok : (r : Rw) → {vs : List V} → {d : r.T} → r.dec vs = some d → vs = r.cells .no d
  | .one c, [], d, h => by simp [Rw.dec] at h
  | .one c, [v], d, h => by
    simp only [Rw.dec] at h
    rw [Cc.dec_ok c h]; rfl
  | .one c, _ :: _ :: _, d, h => by simp [Rw.dec] at h
  | .cons c r, [], d, h => by simp [Rw.dec] at h
  | .cons c r, v :: vs, d, h => by
    simp only [Rw.dec] at h
    split at h
    · rename_i d1 e1
      split at h
      · rename_i d2 e2
        cases h
        rw [Cc.dec_ok c e1, Rw.dec_ok r e2]; rfl
      · cases h
    · cases h

def sc (n : Int) : V := .s (.int .i64 n)
def bl (b : Bool) : V := .s (.bool b)
/-! ### Contracts: of slices (L) and of structs (A) -/
mutual
/-- All lists short enough for a counter. -/
def Cc.cnt : (c : Cc) → c.T → Bool
  | .sl r, xs => Nat.ble xs.length 4611686018427387904 && xs.all r.cnt
  | _, _ => true
def Rw.cnt : (r : Rw) → r.T → Bool
  | .one c, d => c.cnt d
  | .cons c r, d => c.cnt d.1 && r.cnt d.2
end
mutual
/-- All lists as short as Go has them. -/
def Cc.cnz : (c : Cc) → c.T → Bool
  | .sl r, xs => Nat.ble xs.length 9223372036854775807 && xs.all r.cnz
  | _, _ => true
def Rw.cnz : (r : Rw) → r.T → Bool
  | .one c, d => c.cnz d
  | .cons c r, d => c.cnz d.1 && r.cnz d.2
end
mutual
theorem Cc.cnt_of_lim : (c : Cc) → (d : c.T) → c.lim d = true → c.cnt d = true
  | .int _, _, _ => rfl
  | .bool, _, _ => rfl
  | .str, _, _ => rfl
  | .sl r, xs, h => by
    simp only [Cc.lim, Cc.cnt, Bool.and_eq_true, List.all_eq_true] at h ⊢
    exact ⟨Nat.ble_eq_true_of_le (by have := Nat.le_of_ble_eq_true h.1; omega), fun x hx => Rw.cnt_of_lim r x (h.2 x hx)⟩
theorem Rw.cnt_of_lim : (r : Rw) → (d : r.T) → r.lim d = true → r.cnt d = true
  | .one c, d, h => Cc.cnt_of_lim c d h
  | .cons c r, d, h => by
    simp only [Rw.lim, Rw.cnt, Bool.and_eq_true] at h ⊢
    exact ⟨Cc.cnt_of_lim c d.1 h.1, Rw.cnt_of_lim r d.2 h.2⟩
end
mutual
def Cc.decO : (c : Cc) → V → Option c.T
  | .int k, .s (.int k' n) => if k' = k then some n else none
  | .bool, .s (.bool b) => some b
  | .str, .s (.string b) => some b
  | .sl r, .l .own r' xs => if h : r' = r then some (h ▸ xs) else none
  | _, _ => none
def Rw.decO : (r : Rw) → List V → Option r.T
  | .one c, [v] => c.decO v
  | .cons c r, v :: vs => match c.decO v with
    | some d => match r.decO vs with
      | some e => some (d, e)
      | none => none
    | none => none
  | _, _ => none
end
theorem wrap_nat {i : Nat} (h : i ≤ 4611686018427387904) : IntKind.i64.wrap (((i : Nat) : Int) + 1) = (((i + 1 : Nat)) : Int) := by
  rw [wrap_id (by omega) (by omega)]; rfl
/-! ### From a function's law to its contract -/
section
variable {P : Program} {I : Nat → World → Prop}
variable {r : Rw} {G : Sm} {T : MText}
end

/-! ### Chains in the structs' helpers -/
section
variable {ρ : Type}
end
end Go.Ev
end
section
/- Contracts by signature: what comes in is read as data; what goes out is a function of it. -/
set_option linter.unusedVariables false
namespace Go.Ev
inductive Ak where
  | sc1 (k : Cc)
  | a (r : Rw)
  | l (r : Rw)
  | i
  | b
  | sh (s : Sh)
abbrev Ak.T : Ak → Type
  | .a r => r.T
  | .l r => List r.T
  | .i => Int
  | .b => Bool
  | .sc1 k => k.T
  | .sh s => s.T
def Ak.v : (k : Ak) → k.T → V
  | .a r, d => .a (r.cells .no d)
  | .l r, d => .l .no r d
  | .i, n => .s (.int .i64 n)
  | .b, c => .s (.bool c)
  | .sc1 k, d => k.cell .no d
  | .sh s, d => s.mk d
def Ak.dec : (k : Ak) → V → Option k.T
  | .a r, .a cs => r.dec cs
  | .l r, v => (Cc.sl r).dec v
  | .i, .s (.int .i64 n) => some n
  | .b, .s (.bool c) => some c
  | .sc1 k, v => k.dec v
  | .sh s, v => s.un v
  | _, _ => none
theorem Ak.dec_ok : (k : Ak) → {v : V} → {d : k.T} → k.dec v = some d → v = k.v d
  | .a r, v, d, h => by
    cases v with
    | a cs => simp only [Ak.dec] at h; rw [Rw.dec_ok r h]; rfl
    | _ => simp [Ak.dec] at h
  | .l r, v, d, h => by
    have h' : (Cc.sl r).dec v = some d := by
      cases v <;> simpa [Ak.dec] using h
    rw [Cc.dec_ok (.sl r) h']; rfl
  | .i, v, d, h => by
    cases v with
    | s u =>
      cases u with
      | int k n => cases k <;> simp [Ak.dec] at h <;> subst h <;> rfl
      | _ => simp [Ak.dec] at h
    | _ => simp [Ak.dec] at h
  | .sc1 k, v, d, h => by
    have h' : k.dec v = some d := by
      cases v <;> simpa [Ak.dec] using h
    exact Cc.dec_ok k h'
  | .sh s, v, d, h => by
    have h' : s.un v = some d := by
      cases v <;> simpa [Ak.dec] using h
    exact Sh.un_mk s h'
  | .b, v, d, h => by
    cases v with
    | s u =>
      cases u with
      | bool c => simp [Ak.dec] at h; subst h; rfl
      | _ => simp [Ak.dec] at h
    | _ => simp [Ak.dec] at h
abbrev SgT : List Ak → Type
  | [] => Unit
  | k :: ks => k.T × SgT ks
def sgV : (ks : List Ak) → SgT ks → List V
  | [], _ => []
  | k :: ks, d => k.v d.1 :: sgV ks d.2
mutual
theorem Cc.cnz_of_wf : (c : Cc) → (d : c.T) → c.wf d → c.cnz d = true
  | .int _, _, _ => rfl
  | .bool, _, _ => rfl
  | .str, _, _ => rfl
  | .sl r, xs, h => by
    simp only [Cc.cnz, Bool.and_eq_true, List.all_eq_true]
    exact ⟨Nat.ble_eq_true_of_le h.1, fun x hx => Rw.cnz_of_wf r x (h.2 x hx)⟩
theorem Rw.cnz_of_wf : (r : Rw) → (d : r.T) → r.wf d → r.cnz d = true
  | .one c, d, h => Cc.cnz_of_wf c d h
  | .cons c r, d, h => by
    simp only [Rw.cnz, Bool.and_eq_true]
    exact ⟨Cc.cnz_of_wf c d.1 h.1, Rw.cnz_of_wf r d.2 h.2⟩
end

/-! ### How many marks -/
mutual
def Cc.mx : Cc → Bool
  | .sl r => Nat.ble r.sc 32 && r.mx
  | _ => true
def Rw.mx : Rw → Bool
  | .one c => c.mx
  | .cons c r => c.mx && r.mx
def Cc.sc : Cc → Nat
  | .sl _ => 0
  | _ => 1
def Rw.sc : Rw → Nat
  | .one c => c.sc
  | .cons c r => c.sc + r.sc
end
mutual
theorem Cc.marks_le : (c : Cc) → c.mx = true → (d : c.T) → c.marks d ≤ c.sc + 32 * c.w d
  | .int _, _, _ => by simp [Cc.marks, Cc.sc, Cc.w]
  | .bool, _, _ => by simp [Cc.marks, Cc.sc, Cc.w]
  | .str, _, d => by simp only [Cc.marks, Cc.sc, Cc.w]; omega
  | .sl r, h, xs => by
    simp only [Cc.mx, Bool.and_eq_true] at h
    have h1 : r.sc ≤ 32 := Nat.le_of_ble_eq_true h.1
    have key : ∀ ys : List r.T, sumW r.marks ys ≤ 32 * (ys.length + sumW r.w ys) := by
      intro ys
      induction ys with
      | nil => simp [sumW]
      | cons y ys ih =>
        have := Rw.marks_le r h.2 y
        simp only [sumW, List.length_cons]
        omega
    simp only [Cc.marks, Cc.sc, Cc.w]
    have := key xs
    omega
theorem Rw.marks_le : (r : Rw) → r.mx = true → (d : r.T) → r.marks d ≤ r.sc + 32 * r.w d
  | .one c, h, d => Cc.marks_le c h d
  | .cons c r, h, d => by
    simp only [Rw.mx, Bool.and_eq_true] at h
    have h1 := Cc.marks_le c h.1 d.1
    have h2 := Rw.marks_le r h.2 d.2
    simp only [Rw.marks, Rw.sc, Rw.w]
    omega
end
mutual
theorem Cc.cnt_of_w : (c : Cc) → (d : c.T) → c.w d ≤ 4611686018427387904 → c.cnt d = true
  | .int _, _, _ => rfl
  | .bool, _, _ => rfl
  | .str, _, _ => rfl
  | .sl r, xs, h => by
    simp only [Cc.w] at h
    simp only [Cc.cnt, Bool.and_eq_true, List.all_eq_true]
    refine ⟨Nat.ble_eq_true_of_le (by omega), fun x hx => ?_⟩
    have := sumW_mem (f := r.w) hx
    exact Rw.cnt_of_w r x (by omega)
theorem Rw.cnt_of_w : (r : Rw) → (d : r.T) → r.w d ≤ 4611686018427387904 → r.cnt d = true
  | .one c, d, h => Cc.cnt_of_w c d h
  | .cons c r, d, h => by
    simp only [Rw.w] at h
    simp only [Rw.cnt, Bool.and_eq_true]
    exact ⟨Cc.cnt_of_w c d.1 (by omega), Rw.cnt_of_w r d.2 (by omega)⟩
end
mutual
theorem Cc.mark_w (T : MText) : (c : Cc) → (d : c.T) → (k : Int) → c.cnt (c.mark T d k).1 = c.cnt d
  | .int _, _, _ => rfl
  | .bool, _, _ => rfl
  | .str, _, _ => rfl
  | .sl r, xs, k => by
    simp only [Cc.cnt, Cc.mark, markList_len]
    have key : ∀ (xs : List r.T) (k : Int), (markList (r.mark T) xs k).1.all r.cnt = xs.all r.cnt := by
      intro xs
      induction xs with
      | nil => intro k; rfl
      | cons x xs ih =>
        intro k
        simp only [markList, List.all_cons]
        rw [ih, Rw.mark_w T r x k]
    rw [key]
theorem Rw.mark_w (T : MText) : (r : Rw) → (d : r.T) → (k : Int) → r.cnt (r.mark T d k).1 = r.cnt d
  | .one c, d, k => Cc.mark_w T c d k
  | .cons c r, d, k => by simp only [Rw.cnt, Rw.mark]; rw [Cc.mark_w T c, Rw.mark_w T r]
end
mutual
theorem Cc.mark_marks (T : MText) : (c : Cc) → (d : c.T) → (k : Int) → c.marks (c.mark T d k).1 = c.marks d
  | .int _, _, _ => rfl
  | .bool, _, _ => rfl
  | .str, _, _ => rfl
  | .sl r, xs, k => by
    have key : ∀ (xs : List r.T) (k : Int), sumW r.marks (markList (r.mark T) xs k).1 = sumW r.marks xs := by
      intro xs
      induction xs with
      | nil => intro k; rfl
      | cons x xs ih =>
        intro k
        simp only [markList, sumW]
        rw [ih, Rw.mark_marks T r x k]
    exact key xs k
theorem Rw.mark_marks (T : MText) : (r : Rw) → (d : r.T) → (k : Int) → r.marks (r.mark T d k).1 = r.marks d
  | .one c, d, k => Cc.mark_marks T c d k
  | .cons c r, d, k => by simp only [Rw.marks, Rw.mark]; rw [Cc.mark_marks T c, Rw.mark_marks T r]
end
/-! ### The exact laws, step by step -/
section
variable {ρ : Type}
end
end Go.Ev
end
section
/- A result that is owned may be taken as one that is only read. -/
set_option linter.unusedVariables false
namespace Go.Ev
def noC : V → V
  | .l _ r xs => .l .no r xs
  | v => v
def noV : V → V
  | .a cs => .a (cs.map noC)
  | v => noC v
def noR : V → V
  | .t us => .t (us.map noV)
  | u => noV u
section
variable {w : World}
theorem vr_nO {r : Rw} {xs : List r.T} {c : Value} {F M : List Nat} {e e' : Bool} (h : SlT (RwR w e r) w e' r.n xs c F) (hM : ∀ b ∈ F, b ∈ M) : VR (Cx.ext (· ∈ M)) w (.l .no r xs) c :=
  ⟨F, h.loose, hM⟩
theorem CellR.no {v : V} {c : Value} {O M H : List Nat} (h : CellR w v c O M H) : ∃ M', CellR w (noC v) c [] M' [] ∧ ∀ x ∈ M', x ∈ M ∨ x ∈ O := by
  unfold CellR at h
  split at h
  · rename_i r xs
    obtain ⟨h1, _, _⟩ := h
    exact ⟨O, CellR.plain (vr_nO h1 (fun _ h => h)) (by simp [noC]) (by simp [noC]) (by simp [noC]), fun x hx => .inr hx⟩
  · rename_i r xs
    obtain ⟨F, h1, rfl, rfl, _⟩ := h
    refine ⟨F, CellR.plain (vr_nO h1 (fun _ h => h)) (by simp [noC]) (by simp [noC]) (by simp [noC]), fun x hx => ?_⟩
    cases F with
    | nil => cases hx
    | cons b F =>
      rcases List.mem_cons.1 hx with rfl | hx
      · exact .inr (by simp)
      · exact .inl (by simpa using hx)
  · rename_i r xs
    obtain ⟨h1, _, _⟩ := h
    exact ⟨O, CellR.plain (vr_nO h1 (fun _ h => h)) (by simp [noC]) (by simp [noC]) (by simp [noC]), fun x hx => .inr hx⟩
  · rename_i n1 n2 n3
    obtain ⟨h1, _, _⟩ := h
    cases v with
    | l o r xs =>
      cases o with
      | no => exact ⟨M, CellR.plain h1 (by simp [noC]) (by simp [noC]) (by simp [noC]), fun x hx => .inl hx⟩
      | deep => exact absurd rfl (n1 _ _)
      | top => exact absurd rfl (n2 _ _)
      | own => exact absurd rfl (n3 _ _)
    | _ => exact ⟨M, CellR.plain h1 (by simp [noC]) (by simp [noC]) (by simp [noC]), fun x hx => .inl hx⟩
theorem CellsR.no : ∀ {cs : List V} {vs : List Value} {O M H : List Nat}, CellsR w cs vs O M H → ∃ M', CellsR w (cs.map noC) vs [] M' [] ∧ ∀ x ∈ M', x ∈ M ∨ x ∈ O
  | [], _, _, _, _, ⟨h1, h2, h3, h4⟩ => ⟨[], ⟨h1, rfl, rfl, rfl⟩, fun _ h => (nomatch h)⟩
  | c :: cs, _, _, _, _, ⟨v, vs', O1, O2, M1, M2, H1, H2, h1, h2, h3, h4, h5, h6⟩ => by
    obtain ⟨A, a1, a2⟩ := h5.no
    obtain ⟨B, b1, b2⟩ := CellsR.no h6
    refine ⟨A ++ B, ⟨v, vs', [], [], A, B, [], [], h1, rfl, rfl, rfl, a1, b1⟩, fun x hx => ?_⟩
    rw [h2, h3]
    rcases List.mem_append.1 hx with hx | hx
    · rcases a2 x hx with h | h
      · exact .inl (List.mem_append.2 (.inl h))
      · exact .inr (List.mem_append.2 (.inl h))
    · rcases b2 x hx with h | h
      · exact .inl (List.mem_append.2 (.inr h))
      · exact .inr (List.mem_append.2 (.inr h))
def V.isIo : V → Bool
  | .io _ => true
  | _ => false
theorem ArgR.no {v : V} {c : Value} {O M H : List Nat} (h : ArgR w v c O M H) (hv : v.isIo = false) : ∃ M', ArgR w (noV v) c [] M' [] ∧ ∀ x ∈ M', x ∈ M ∨ x ∈ O := by
  unfold ArgR at h
  split at h
  · cases hv
  · rename_i cs
    obtain ⟨vs, rfl, h2⟩ := h
    obtain ⟨M', a1, a2⟩ := h2.no
    exact ⟨M', ⟨vs, rfl, a1⟩, a2⟩
  · rename_i n1 n2
    obtain ⟨M', a1, a2⟩ := h.no
    refine ⟨M', ?_, a2⟩
    cases v with
    | a cs => exact absurd rfl (n2 _)
    | io cs => exact absurd rfl (n1 _)
    | _ => exact a1
theorem ArgsR.no : ∀ {us : List V} {vs : List Value} {O M H : List Nat}, ArgsR w us vs O M H → us.all (fun u => !u.isIo) = true → ∃ M', ArgsR w (us.map noV) vs [] M' [] ∧ ∀ x ∈ M', x ∈ M ∨ x ∈ O
  | [], _, _, _, _, ⟨h1, h2, h3, h4⟩, _ => ⟨[], ⟨h1, rfl, rfl, rfl⟩, fun _ h => (nomatch h)⟩
  | c :: cs, _, _, _, _, ⟨v, vs', O1, O2, M1, M2, H1, H2, h1, h2, h3, h4, h5, h6⟩, hi => by
    simp only [List.all_cons, Bool.and_eq_true, Bool.not_eq_true'] at hi
    obtain ⟨A, a1, a2⟩ := h5.no hi.1
    obtain ⟨B, b1, b2⟩ := ArgsR.no h6 hi.2
    refine ⟨A ++ B, ⟨v, vs', [], [], A, B, [], [], h1, rfl, rfl, rfl, a1, b1⟩, fun x hx => ?_⟩
    rw [h2, h3]
    rcases List.mem_append.1 hx with hx | hx
    · rcases a2 x hx with h | h
      · exact .inl (List.mem_append.2 (.inl h))
      · exact .inr (List.mem_append.2 (.inl h))
    · rcases b2 x hx with h | h
      · exact .inl (List.mem_append.2 (.inr h))
      · exact .inr (List.mem_append.2 (.inr h))
def V.okNo : V → Bool
  | .t us => us.all (fun u => !u.isIo)
  | u => !u.isIo
theorem RetR.no {u : V} {c : Value} {O M H : List Nat} (h : RetR w u c O M H) (hu : u.okNo = true) : ∃ M', RetR w (noR u) c [] M' [] ∧ ∀ x ∈ M', x ∈ M ∨ x ∈ O := by
  unfold RetR at h
  split at h
  · obtain ⟨vs, rfl, h2⟩ := h
    obtain ⟨M', a1, a2⟩ := h2.no hu
    exact ⟨M', ⟨vs, rfl, a1⟩, a2⟩
  · rename_i n1
    cases u with
    | t us => exact absurd rfl (n1 _)
    | io cs => simp [V.okNo, V.isIo] at hu
    | a cs =>
      obtain ⟨M', a1, a2⟩ := ArgR.no h rfl
      exact ⟨M', a1, a2⟩
    | l o r xs =>
      obtain ⟨M', a1, a2⟩ := ArgR.no h rfl
      exact ⟨M', a1, a2⟩
    | _ =>
      obtain ⟨M', a1, a2⟩ := ArgR.no h rfl
      exact ⟨M', a1, a2⟩
end
theorem ArgsR.hsub' {w : World} {us : List V} {vs : List Value} {O M H : List Nat} (h : ArgsR w us vs O M H) : ∀ x ∈ H, x ∈ O := h.hsub
/-- The contract whose results are only read. -/
def S_no (G : Sm) : Sm := fun ws K => G ws fun q => bif q.1.okNo then K (noR q.1, q.2) else none
theorem OkFn.no {P : Program} {I : Nat → World → Prop} {g : FuncId} {f : Bool} {G : Sm} (h : OkFn P I g f G) : OkFn P I g false (S_no G) := by
  refine ⟨h.1, fun ws K r hr B0 w0 w N vs O M H hI hb hB hA hnd hO hM hH hN => ?_⟩
  refine Calls.mono (h.2 ws _ r hr B0 w0 w N vs O M H hI hb hB hA hnd hO hM hH hN) (fun e w' he => ?_)
  cases e with
  | returned c =>
    obtain ⟨q, hq, hk⟩ := he
    cases ho : q.1.okNo with
    | false => simp only [ho, cond_false] at hq; cases hq
    | true =>
      simp only [ho, cond_true] at hq
      refine ⟨_, hq, ?_⟩
      obtain ⟨⟨O1, M1, H1, O2, M2, H2, e1, e2, e3, e4, e5, e6⟩, k2, k3, k4⟩ := hk
      obtain ⟨M', a1, a2⟩ := e1.no ho
      refine ⟨⟨[], M', [], O2, M2, H2, a1, e2, ?_, fun x hx => e4 x (List.mem_append.2 (.inr (by simpa using hx))), fun x hx => ?_, fun x hx => ?_⟩, k2, k3, k4⟩
      · exact (List.nodup_append.1 e3).2.1
      · rcases List.mem_append.1 hx with hx | hx
        · rcases a2 x hx with hx | hx
          · obtain ⟨g1, g2, _⟩ := e5 x (List.mem_append.2 (.inl hx))
            exact ⟨g1, g2, fun h => by cases h⟩
          · obtain ⟨g1, g2⟩ := e4 x (List.mem_append.2 (.inl hx))
            exact ⟨.inr g1, g2, fun h => by cases h⟩
        · obtain ⟨g1, g2, _⟩ := e5 x (List.mem_append.2 (.inr hx))
          exact ⟨g1, g2, fun h => by cases h⟩
      · have hx' : x ∈ H2 := by simpa using hx
        obtain ⟨g1, g2⟩ := e6 x (List.mem_append.2 (.inr hx'))
        refine ⟨fun hm => ?_, g2⟩
        rcases List.mem_append.1 hm with hm | hm
        · rcases a2 x hm with hm | hm
          · exact g1 (List.mem_append.2 (.inl hm))
          · exact (List.nodup_append.1 e3).2.2 x hm x (e2.hsub' x hx') rfl
        · exact g1 (List.mem_append.2 (.inr hm))
  | _ => exact he
end Go.Ev
end
section
/- Contracts by signature, where a nil slice may stand for an empty one; results with what is handed back. -/
set_option linter.unusedVariables false
namespace Go.Ev
def Cc.decN : (c : Cc) → V → Option c.T
  | .sl _, .nl => some []
  | c, v => c.dec v
def Rw.decN : (r : Rw) → List V → Option r.T
  | .one c, [v] => c.decN v
  | .cons c r, v :: vs => match c.decN v with
    | some d => match r.decN vs with
      | some e => some (d, e)
      | none => none
    | none => none
  | _, _ => none
def Ak.decN : (k : Ak) → V → Option k.T
  | .a r, .a cs => r.decN cs
  | .l r, v => (Cc.sl r).decN v
  | k, v => k.dec v
def sgN : (ks : List Ak) → List V → Option (SgT ks)
  | [], [] => some ()
  | k :: ks, v :: vs => match k.decN v with
    | some d => match sgN ks vs with
      | some e => some (d, e)
      | none => none
    | none => none
  | _, _ => none
section
variable {w : World}
theorem CellR.nlN {r : Rw} {c : Value} {O M H : List Nat} (h : CellR w .nl c O M H) : CellR w (.l .no r []) c O M H := by
  obtain ⟨h1, h2, h3⟩ := h
  have h1' : c = .slice none 0 0 := h1
  exact ⟨⟨[], .inl ⟨rfl, rfl, none, 0, h1', fun _ => ⟨rfl, rfl⟩⟩, fun _ h => nomatch h⟩, h2, h3⟩
theorem Cc.decN_ok : (c : Cc) → {v : V} → {d : c.T} → c.decN v = some d → (v = .nl ∧ ∃ r, c.cell .no d = .l .no r []) ∨ v = c.cell .no d
  | .sl r, v, d, h => by
    cases v with
    | nl =>
      have h' : (some [] : Option (List r.T)) = some d := h
      cases h'
      exact .inl ⟨rfl, r, rfl⟩
    | _ => exact .inr (Cc.dec_ok (.sl r) h)
  | .int k, v, d, h => .inr (Cc.dec_ok (.int k) (by cases v <;> simpa [Cc.decN] using h))
  | .bool, v, d, h => .inr (Cc.dec_ok .bool (by cases v <;> simpa [Cc.decN] using h))
  | .str, v, d, h => .inr (Cc.dec_ok .str (by cases v <;> simpa [Cc.decN] using h))
theorem Cc.decN_R {c : Cc} {v : V} {d : c.T} (h : c.decN v = some d) {x : Value} {O M H : List Nat} (hc : CellR w v x O M H) : CellR w (c.cell .no d) x O M H := by
  rcases Cc.decN_ok c h with ⟨rfl, r, e⟩ | e
  · rw [e]; exact hc.nlN
  · rw [← e]; exact hc
theorem Rw.decN_R : (r : Rw) → {cs : List V} → {d : r.T} → r.decN cs = some d → ∀ {vs : List Value} {O M H : List Nat}, CellsR w cs vs O M H → CellsR w (r.cells .no d) vs O M H
  | .one c, cs, d, h, vs, O, M, H, hc => by
    match cs, h, hc with
    | [v], h, ⟨v1, vs', O1, O2, M1, M2, H1, H2, a1, a2, a3, a4, a5, a6⟩ =>
      exact ⟨v1, vs', O1, O2, M1, M2, H1, H2, a1, a2, a3, a4, Cc.decN_R (c := c) h a5, a6⟩
    | [], h, _ => simp [Rw.decN] at h
    | _ :: _ :: _, h, _ => simp [Rw.decN] at h
  | .cons c r, cs, d, h, vs, O, M, H, hc => by
    match cs, h, hc with
    | v :: us, h, ⟨v1, vs', O1, O2, M1, M2, H1, H2, a1, a2, a3, a4, a5, a6⟩ =>
      simp only [Rw.decN] at h
      split at h
      · rename_i d1 e1
        split at h
        · rename_i d2 e2
          cases h
          exact ⟨v1, vs', O1, O2, M1, M2, H1, H2, a1, a2, a3, a4, Cc.decN_R (c := c) e1 a5, Rw.decN_R r e2 a6⟩
        · cases h
      · cases h
    | [], h, _ => simp [Rw.decN] at h
theorem cell_argR {v : V} (h : ∀ cs, v ≠ .a cs) (h2 : ∀ cs, v ≠ .io cs) {x : Value} {O M H : List Nat} : ArgR w v x O M H ↔ CellR w v x O M H := by
  cases v with
  | a cs => exact absurd rfl (h cs)
  | io cs => exact absurd rfl (h2 cs)
  | _ => exact Iff.rfl
theorem Ak.decN_R : (k : Ak) → {v : V} → {d : k.T} → k.decN v = some d → ∀ {x : Value} {O M H : List Nat}, ArgR w v x O M H → ArgR w (k.v d) x O M H
  | .a r, v, d, h, x, O, M, H, ha => by
    cases v with
    | a cs =>
      obtain ⟨vs, h1, h2⟩ := ha
      exact ⟨vs, h1, Rw.decN_R r h h2⟩
    | _ => simp [Ak.decN, Ak.dec] at h
  | .l r, v, d, h, x, O, M, H, ha => by
    have h' : (Cc.sl r).decN v = some d := by cases v <;> simpa [Ak.decN] using h
    have hv : (∀ cs, v ≠ .a cs) ∧ (∀ cs, v ≠ .io cs) := by
      cases v with
      | a cs => simp [Cc.decN, Cc.dec] at h'
      | io cs => simp [Cc.decN, Cc.dec] at h'
      | _ => exact ⟨fun _ h => (nomatch h), fun _ h => (nomatch h)⟩
    exact (cell_argR (v := V.l .no r d) (fun _ h => nomatch h) (fun _ h => nomatch h)).2 (Cc.decN_R (c := .sl r) h' ((cell_argR hv.1 hv.2).1 ha))
  | .i, v, d, h, x, O, M, H, ha => by
    have h' : Ak.dec .i v = some d := by cases v <;> simpa [Ak.decN] using h
    rw [Ak.dec_ok .i h'] at ha; exact ha
  | .b, v, d, h, x, O, M, H, ha => by
    have h' : Ak.dec .b v = some d := by cases v <;> simpa [Ak.decN] using h
    rw [Ak.dec_ok .b h'] at ha; exact ha
  | .sc1 k, v, d, h, x, O, M, H, ha => by
    have h' : Ak.dec (.sc1 k) v = some d := by cases v <;> simpa [Ak.decN] using h
    rw [Ak.dec_ok (.sc1 k) h'] at ha; exact ha
  | .sh s, v, d, h, x, O, M, H, ha => by
    have h' : Ak.dec (.sh s) v = some d := by cases v <;> simpa [Ak.decN] using h
    rw [Ak.dec_ok (.sh s) h'] at ha; exact ha
theorem cell_noOwn (c : Cc) (d : c.T) : (c.cell .no d).isOwn = false := by cases c <;> rfl
theorem cells_noOwn : (r : Rw) → (d : r.T) → (r.cells .no d).any V.isOwn = false
  | .one c, d => by simp [Rw.cells, cell_noOwn]
  | .cons c r, d => by simp only [Rw.cells, List.any_cons, cell_noOwn, cells_noOwn r, Bool.or_self]
theorem Cc.decN_own {c : Cc} {v : V} {d : c.T} (h : c.decN v = some d) : v.isOwn = false := by
  rcases Cc.decN_ok c h with ⟨rfl, _⟩ | e
  · rfl
  · rw [e]; exact cell_noOwn c d
theorem Rw.decN_own : (r : Rw) → {cs : List V} → {d : r.T} → r.decN cs = some d → cs.any V.isOwn = false
  | .one c, cs, d, h => by
    match cs, h with
    | [v], h => simp only [List.any_cons, List.any_nil, Bool.or_false]; exact Cc.decN_own (c := c) h
    | [], h => simp [Rw.decN] at h
    | _ :: _ :: _, h => simp [Rw.decN] at h
  | .cons c r, cs, d, h => by
    match cs, h with
    | v :: us, h =>
      simp only [Rw.decN] at h
      split at h
      · rename_i d1 e1
        split at h
        · rename_i d2 e2
          simp only [List.any_cons, Cc.decN_own (c := c) e1, Rw.decN_own r e2, Bool.or_self]
        · cases h
      · cases h
    | [], h => simp [Rw.decN] at h
theorem Ak.decN_back (k : Ak) {v : V} {d : k.T} (h : k.decN v = some d) : v.back = (k.v d).back := by
  cases k with
  | a r =>
    cases v with
    | a cs =>
      have h' : r.decN cs = some d := h
      show cs.any V.isOwn = (r.cells .no d).any V.isOwn
      rw [Rw.decN_own r h', cells_noOwn]
    | _ => simp [Ak.decN, Ak.dec] at h
  | l r =>
    have h' : (Cc.sl r).decN v = some d := by cases v <;> simpa [Ak.decN] using h
    rcases Cc.decN_ok (.sl r) h' with ⟨rfl, _⟩ | e
    · rfl
    · rw [e]; rfl
  | i =>
    have h' : Ak.dec .i v = some d := by cases v <;> simpa [Ak.decN] using h
    rw [Ak.dec_ok .i h']
  | b =>
    have h' : Ak.dec .b v = some d := by cases v <;> simpa [Ak.decN] using h
    rw [Ak.dec_ok .b h']
  | sc1 k =>
    have h' : Ak.dec (.sc1 k) v = some d := by cases v <;> simpa [Ak.decN] using h
    rw [Ak.dec_ok (.sc1 k) h']
  | sh s =>
    have h' : Ak.dec (.sh s) v = some d := by cases v <;> simpa [Ak.decN] using h
    rw [Ak.dec_ok (.sh s) h']
end
/-- What holds of the one holds of the other, and the same comes back. -/
def NilLe (ws ws' : List V) : Prop := (∀ (w : World) (vs : List Value) (O M H : List Nat), ArgsR w ws vs O M H → ArgsR w ws' vs O M H) ∧ ∀ (vs : List Value), ptrs ws vs = ptrs ws' vs
theorem NilLe.rfl' (ws : List V) : NilLe ws ws := ⟨fun _ _ _ _ _ h => h, fun _ => rfl⟩
theorem sgN_le : (ks : List Ak) → {ws : List V} → {d : SgT ks} → sgN ks ws = some d → NilLe ws (sgV ks d)
  | [], [], d, h => NilLe.rfl' _
  | [], _ :: _, d, h => by simp [sgN] at h
  | k :: ks, [], d, h => by simp [sgN] at h
  | k :: ks, v :: ws, d, h => by
    simp only [sgN] at h
    split at h
    · rename_i d1 e1
      split at h
      · rename_i d2 e2
        cases h
        have ih := sgN_le ks e2
        refine ⟨fun w vs O M H ⟨x, xs, O1, O2, M1, M2, H1, H2, a1, a2, a3, a4, a5, a6⟩ => ⟨x, xs, O1, O2, M1, M2, H1, H2, a1, a2, a3, a4, Ak.decN_R k e1 a5, ih.1 w xs O2 M2 H2 a6⟩, fun vs => ?_⟩
        show ptrs (v :: ws) vs = ptrs (k.v d1 :: sgV ks d2) vs
        cases vs with
        | nil => rfl
        | cons x xs => simp only [ptrs, Ak.decN_back k e1, ih.2 xs]
      · cases h
    · cases h
theorem okN {P : Program} {I : Nat → World → Prop} {g : FuncId} {f : Bool} {S G : Sm} (hG : OkFn P I g f G) (h : ∀ ws K q, S ws K = some q → ∃ ws', NilLe ws ws' ∧ G ws' K = some q) : OkFn P I g f S :=
  ⟨hG.1, fun ws K r hr B0 w0 w N vs O M H hI hb hB hA => by
    obtain ⟨ws', hn, h3⟩ := h ws K r hr
    have := hG.2 ws' K r h3 B0 w0 w N vs O M H hI hb hB (hn.1 w vs O M H hA)
    rw [hn.2 vs]
    exact this⟩
/-- What goes on with a result that is only read. -/
def noK (K : Ret → Option Ret) : Ret → Option Ret := fun q => bif q.1.okNo then K (noR q.1, q.2) else none
def S_fnR (ks : List Ak) (pre : SgT ks → Bool) (f : SgT ks → Ret) : Sm := fun vs K => match sgN ks vs with
  | some d => bif pre d then K (f d) else none
  | none => none
theorem S_fnR_of {ks : List Ak} {pre : SgT ks → Bool} {f : SgT ks → Ret} {G : Sm} (h : ∀ d K, pre d = true → G (sgV ks d) K = K (f d)) : ∀ ws K q, S_fnR ks pre f ws K = some q → ∃ ws', NilLe ws ws' ∧ G ws' K = some q := by
  intro ws K q hr
  unfold S_fnR at hr
  split at hr
  · rename_i d hd
    cases hp : pre d with
    | false => rw [hp] at hr; cases hr
    | true => rw [hp] at hr; exact ⟨_, sgN_le ks hd, (h d K hp).trans hr⟩
  · cases hr
/-- A contract that hands its result on. -/
def S_B (ks : List Ak) (F : SgT ks → (Ret → Option Ret) → Option Ret) : Sm := fun vs K => match sgN ks vs with
  | some d => F d K
  | none => none
theorem S_B_of {ks : List Ak} {F : SgT ks → (Ret → Option Ret) → Option Ret} {G : Sm} (h : ∀ d K q, F d K = some q → G (sgV ks d) K = some q) : ∀ ws K q, S_B ks F ws K = some q → ∃ ws', NilLe ws ws' ∧ G ws' K = some q := by
  intro ws K q hr
  unfold S_B at hr
  split at hr
  · rename_i d hd
    exact ⟨_, sgN_le ks hd, h d K q hr⟩
  · cases hr
end Go.Ev
end
section
/- The rows of the structs. Printed by fam.py. -/
namespace Go.Ev.Seat
open Go.RowKit
abbrev chunkR : Rw := .one (.sl bytesR)
abbrev pieceR : Rw := .one (.sl bytesR)
abbrev ropeR : Rw := .one (.sl chunkR)
abbrev T_Chunk : Type := List Int
abbrev T_Piece : Type := List Int
abbrev T_Rope : Type := List T_Chunk
end Go.Ev.Seat
end
section
/- UTF-8, as lists of numbers. -/
set_option linter.unusedVariables false
namespace Go.Ev
open Go.RowKit
def isB (x : Int) : Bool := decide (0 ≤ x) && decide (x ≤ 255)
def fitB (xs : List Int) : Bool := Nat.ble xs.length 1048576 && xs.all isB
theorem fitB_len {xs : List Int} (h : fitB xs = true) : xs.length ≤ 1048576 := by
  unfold fitB at h; rw [Bool.and_eq_true] at h; exact Nat.le_of_ble_eq_true h.1
theorem fitB_mem {xs : List Int} (h : fitB xs = true) {x : Int} (hx : x ∈ xs) : 0 ≤ x ∧ x ≤ 255 := by
  unfold fitB at h; rw [Bool.and_eq_true, List.all_eq_true] at h
  have := h.2 x hx
  simpa [isB] using this
theorem fitB_get {xs : List Int} (h : fitB xs = true) (i : Nat) : 0 ≤ xs.getD i 0 ∧ xs.getD i 0 ≤ 255 := by
  rw [List.getD_eq_getElem?_getD]
  rcases Nat.lt_or_ge i xs.length with hi | hi
  · rw [List.getElem?_eq_getElem hi]; exact fitB_mem h (List.getElem_mem hi)
  · rw [List.getElem?_eq_none hi]; simp
theorem fitB_of {xs : List Int} (h1 : xs.length ≤ 1048576) (h2 : ∀ x ∈ xs, 0 ≤ x ∧ x ≤ 255) : fitB xs = true := by
  unfold fitB; rw [Bool.and_eq_true, List.all_eq_true]
  exact ⟨Nat.ble_eq_true_of_le h1, fun x hx => by simpa [isB] using h2 x hx⟩
theorem fitB_sub {xs ys : List Int} (h : fitB xs = true) (hl : ys.length ≤ xs.length) (hs : ∀ y ∈ ys, y ∈ xs) : fitB ys = true :=
  fitB_of (Nat.le_trans hl (fitB_len h)) (fun y hy => fitB_mem h (hs y hy))
theorem fitB_drop {xs : List Int} (h : fitB xs = true) (n : Nat) : fitB (xs.drop n) = true := fitB_sub h (by simp) (fun y hy => List.mem_of_mem_drop hy)
theorem fitB_take {xs : List Int} (h : fitB xs = true) (n : Nat) : fitB (xs.take n) = true := fitB_sub h (by simp; omega) (fun y hy => List.mem_of_mem_take hy)
theorem fitB_append {xs ys : List Int} (h1 : fitB xs = true) (h2 : fitB ys = true) (h : xs.length + ys.length ≤ 1048576) : fitB (xs ++ ys) = true :=
  fitB_of (by simpa using h) (fun y hy => (List.mem_append.1 hy).elim (fitB_mem h1) (fitB_mem h2))

/-! ### Bits -/
theorem wrap64 {n : Nat} (h : n < 18446744073709551616) : IntKind.u64.wrap (n : Int) = n := by
  have e : IntKind.u64.wrap (n : Int) = (n : Int) % 18446744073709551616 := by
    simp only [IntKind.wrap, IntKind.bits, IntKind.signed]; simp
  rw [e]; omega
theorem ofInt_nat (k n : Nat) : BitVec.ofInt k (n : Int) = BitVec.ofNat k n := by
  apply BitVec.eq_of_toNat_eq
  simp [BitVec.toNat_ofInt, BitVec.toNat_ofNat]
theorem bor64 {a b : Nat} (ha : a < 18446744073709551616) (hb : b < 18446744073709551616) : bor .u64 a b = ((a ||| b : Nat) : Int) := by
  unfold bor
  have e : (BitVec.ofInt IntKind.u64.bits (a : Int) ||| BitVec.ofInt IntKind.u64.bits (b : Int)).toNat = a ||| b := by
    show (BitVec.ofInt 64 (a : Int) ||| BitVec.ofInt 64 (b : Int)).toNat = _
    rw [ofInt_nat, ofInt_nat, BitVec.toNat_or, BitVec.toNat_ofNat, BitVec.toNat_ofNat, Nat.mod_eq_of_lt (by omega), Nat.mod_eq_of_lt (by omega)]
  rw [e]; exact wrap64 (Nat.or_lt_two_pow (n := 64) ha hb)
theorem band64 {a b : Nat} (ha : a < 18446744073709551616) (hb : b < 18446744073709551616) : band .u64 a b = ((a &&& b : Nat) : Int) := by
  unfold band
  have e : (BitVec.ofInt IntKind.u64.bits (a : Int) &&& BitVec.ofInt IntKind.u64.bits (b : Int)).toNat = a &&& b := by
    show (BitVec.ofInt 64 (a : Int) &&& BitVec.ofInt 64 (b : Int)).toNat = _
    rw [ofInt_nat, ofInt_nat, BitVec.toNat_and, BitVec.toNat_ofNat, BitVec.toNat_ofNat, Nat.mod_eq_of_lt (by omega), Nat.mod_eq_of_lt (by omega)]
  rw [e]; exact wrap64 (Nat.and_lt_two_pow (n := 64) a hb)
def M8 : Nat := 9259542123273814144
def hiTab : Bool := (List.range 256).all fun b => (List.range 8).all fun i => ((b * 2 ^ (8 * i)) &&& M8 == 0) == decide (b < 128)
theorem hiTab_ok : hiTab = true := by kernel_rfl
theorem hi_ok {b i : Nat} (hb : b < 256) (hi : i < 8) : (b * 2 ^ (8 * i)) &&& M8 = 0 ↔ b < 128 := by
  have h := hiTab_ok
  unfold hiTab at h
  rw [List.all_eq_true] at h
  have h1 := h b (List.mem_range.2 hb)
  rw [List.all_eq_true] at h1
  have h2 := h1 i (List.mem_range.2 hi)
  simp only [beq_iff_eq] at h2
  rw [Bool.eq_iff_iff] at h2
  simpa using h2
theorem or_mask (a b m : Nat) : (a ||| b) &&& m = 0 ↔ a &&& m = 0 ∧ b &&& m = 0 := by
  rw [Nat.and_or_distrib_right, Nat.or_eq_zero_iff]
theorem shl64 {b : Nat} {i : Nat} (hb : b < 256) (hi : i < 8) : shlI .u64 (IntKind.wrap .u64 (b : Int)) ((8 * i : Nat) : Int) = ((b * 2 ^ (8 * i) : Nat) : Int) := by
  unfold shlI
  rw [wrap64 (by omega)]
  have e : ((b : Int) * 2 ^ (min ((8 * i : Nat) : Int).toNat IntKind.u64.bits)) = ((b * 2 ^ (8 * i) : Nat) : Int) := by
    have : min ((8 * i : Nat) : Int).toNat IntKind.u64.bits = 8 * i := by
      show min _ 64 = _
      rw [Int.toNat_natCast]; omega
    rw [this]; push_cast; rfl
  rw [e]
  refine wrap64 ?_
  have : 2 ^ (8 * i) ≤ 2 ^ 56 := Nat.pow_le_pow_right (by omega) (by omega)
  have h2 : b * 2 ^ (8 * i) ≤ 255 * 2 ^ 56 := Nat.mul_le_mul (by omega) this
  have : (255 * 2 ^ 56 : Nat) < 18446744073709551616 := by decide
  omega
theorem shl_lt {b i : Nat} (hb : b < 256) (hi : i < 8) : b * 2 ^ (8 * i) < 18446744073709551616 := by
  have : 2 ^ (8 * i) ≤ 2 ^ 56 := Nat.pow_le_pow_right (by omega) (by omega)
  have h2 : b * 2 ^ (8 * i) ≤ 255 * 2 ^ 56 := Nat.mul_le_mul (by omega) this
  have : (255 * 2 ^ 56 : Nat) < 18446744073709551616 := by decide
  omega

/-! ### Runes -/
def lo3 (b : Int) : Int := if b = 224 then 160 else 128
def hi3 (b : Int) : Int := if b = 237 then 159 else 191
def lo4 (b : Int) : Int := if b = 240 then 144 else 128
def hi4 (b : Int) : Int := if b = 244 then 143 else 191
/-- The size of the rune in front; 0 where there is none. -/
def runeSz (xs : List Int) : Nat :=
  if xs.length = 0 then 0
  else if xs.getD 0 0 < 128 then 1
  else if xs.getD 0 0 < 194 then 0
  else if xs.getD 0 0 < 224 then (if 2 ≤ xs.length ∧ 128 ≤ xs.getD 1 0 ∧ xs.getD 1 0 ≤ 191 then 2 else 0)
  else if xs.getD 0 0 < 240 then (if 3 ≤ xs.length ∧ lo3 (xs.getD 0 0) ≤ xs.getD 1 0 ∧ xs.getD 1 0 ≤ hi3 (xs.getD 0 0) ∧ 128 ≤ xs.getD 2 0 ∧ xs.getD 2 0 ≤ 191 then 3 else 0)
  else if xs.getD 0 0 < 245 then (if 4 ≤ xs.length ∧ lo4 (xs.getD 0 0) ≤ xs.getD 1 0 ∧ xs.getD 1 0 ≤ hi4 (xs.getD 0 0) ∧ 128 ≤ xs.getD 2 0 ∧ xs.getD 2 0 ≤ 191 ∧ 128 ≤ xs.getD 3 0 ∧ xs.getD 3 0 ≤ 191 then 4 else 0)
  else 0
theorem runeSz_le (xs : List Int) : runeSz xs ≤ xs.length := by
  unfold runeSz; repeat' split
  all_goals omega
theorem runeSz_le4 (xs : List Int) : runeSz xs ≤ 4 := by
  unfold runeSz; repeat' split
  all_goals omega
def valid (xs : List Int) : Bool := if h : runeSz xs = 0 then xs.isEmpty else valid (xs.drop (runeSz xs))
termination_by xs.length
decreasing_by
  have := runeSz_le xs
  simp; omega
theorem valid_nil : valid [] = true := by unfold valid; rfl
theorem valid_stop {xs : List Int} (h : runeSz xs = 0) (hl : 0 < xs.length) : valid xs = false := by
  unfold valid; rw [dif_pos h]; cases xs with
  | nil => simp at hl
  | cons _ _ => rfl
theorem valid_step {xs : List Int} (h : runeSz xs ≠ 0) : valid xs = valid (xs.drop (runeSz xs)) := by
  conv => lhs; unfold valid
  rw [dif_neg h]
theorem runeSz_ascii {xs : List Int} (hl : 0 < xs.length) (h : xs.getD 0 0 < 128) : runeSz xs = 1 := by
  unfold runeSz; rw [if_neg (by omega), if_pos h]
theorem getD_drop (xs : List Int) (n i : Nat) : (xs.drop n).getD i 0 = xs.getD (n + i) 0 := by
  simp [List.getD_eq_getElem?_getD, List.getElem?_drop]
theorem valid_drop {xs : List Int} : ∀ (n : Nat), n ≤ xs.length → (∀ i, i < n → xs.getD i 0 < 128) → valid (xs.drop n) = valid xs
  | 0, _, _ => rfl
  | n + 1, hl, h => by
    have ih := valid_drop n (by omega) (fun i hi => h i (by omega))
    rw [← ih]
    have e : runeSz (xs.drop n) = 1 := runeSz_ascii (by simp; omega) (by rw [getD_drop]; exact h _ (by omega))
    rw [valid_step (xs := xs.drop n) (by rw [e]; omega), e, List.drop_drop]
def fsz (b : Int) : Int := IntKind.wrap .i64 (band .u8 (List.getD utfFirst (Int.toNat b) 0) 7)
def fsh (b : Int) : Int := shrI .u8 (List.getD utfFirst (Int.toNat b) 0) 4
def fac (b : Int) : Int × Int := List.getD utfAccept (Int.toNat (fsh b)) (0, 0)
def firstChk (b : Int) : Bool := decide (0 ≤ fsh b) && decide (fsh b < 16) &&
  (if b < 128 then true else if b < 194 ∨ 245 ≤ b then fsz b == 1 else if b < 224 then fsz b == 2 && fac b == (128, 191) else if b < 240 then fsz b == 3 && fac b == (lo3 b, hi3 b) else fsz b == 4 && fac b == (lo4 b, hi4 b))
theorem firstTab_ok : ((List.range 256).all fun n => firstChk n) = true := by kernel_rfl
theorem first_at {b : Int} (h0 : 0 ≤ b) (h1 : b ≤ 255) : firstChk b = true := by
  obtain ⟨n, rfl⟩ : ∃ n : Nat, b = n := ⟨b.toNat, by omega⟩
  have h := firstTab_ok
  rw [List.all_eq_true] at h
  exact h n (List.mem_range.2 (by omega))
theorem first_sh {b : Int} (h0 : 0 ≤ b) (h1 : b ≤ 255) : 0 ≤ fsh b ∧ fsh b < 16 := by
  have h := first_at h0 h1
  unfold firstChk at h
  simp only [Bool.and_eq_true, decide_eq_true_eq] at h
  exact h.1
theorem first_1 {b : Int} (h0 : 128 ≤ b) (h1 : b ≤ 255) (h2 : b < 194 ∨ 245 ≤ b) : fsz b = 1 := by
  have h := first_at (by omega) h1
  unfold firstChk at h
  rw [if_neg (by omega), if_pos h2] at h
  simp only [Bool.and_eq_true, beq_iff_eq] at h
  exact h.2
theorem first_2 {b : Int} (h0 : 194 ≤ b) (h1 : b < 224) : fsz b = 2 ∧ fac b = (128, 191) := by
  have h := first_at (b := b) (by omega) (by omega)
  unfold firstChk at h
  rw [if_neg (by omega), if_neg (by omega), if_pos h1] at h
  simp only [Bool.and_eq_true, beq_iff_eq] at h
  exact h.2
theorem first_3 {b : Int} (h0 : 224 ≤ b) (h1 : b < 240) : fsz b = 3 ∧ fac b = (lo3 b, hi3 b) := by
  have h := first_at (b := b) (by omega) (by omega)
  unfold firstChk at h
  rw [if_neg (by omega), if_neg (by omega), if_neg (by omega), if_pos h1] at h
  simp only [Bool.and_eq_true, beq_iff_eq] at h
  exact h.2
theorem first_4 {b : Int} (h0 : 240 ≤ b) (h1 : b < 245) : fsz b = 4 ∧ fac b = (lo4 b, hi4 b) := by
  have h := first_at (b := b) (by omega) (by omega)
  unfold firstChk at h
  rw [if_neg (by omega), if_neg (by omega), if_neg (by omega), if_neg (by omega)] at h
  simp only [Bool.and_eq_true, beq_iff_eq] at h
  exact h.2
theorem first_len : utfFirst.length = 256 := by kernel_rfl
theorem accept_len : utfAccept.length = 16 := by kernel_rfl
def textOk (xs : List Int) : Bool := Nat.ble xs.length 400 && valid xs
theorem wrap8 {n : Int} (h0 : 0 ≤ n) (h1 : n ≤ 255) : IntKind.u8.wrap n = n := by
  have e : IntKind.u8.wrap n = n % 256 := by
    simp only [IntKind.wrap, IntKind.bits, IntKind.signed]; simp
  rw [e]; omega
/-- The bytes of a rune. -/
def encD (r : Int) : List Int :=
  if r < 0 ∨ 1114111 < r ∨ (55296 ≤ r ∧ r ≤ 57343) then []
  else if r < 128 then [r]
  else if r < 2048 then [192 + r / 64, 128 + r % 64]
  else if r < 65536 then [224 + r / 4096, 128 + r / 64 % 64, 128 + r % 64]
  else [240 + r / 262144, 128 + r / 4096 % 64, 128 + r / 64 % 64, 128 + r % 64]
def contB (b : Int) : Bool := decide (128 ≤ b) && decide (b ≤ 191)
def contChk (b : Int) : Bool := (band .u8 b 192 != 128) == !contB b
theorem contTab_ok : ((List.range 256).all fun n => contChk n) = true := by kernel_rfl
theorem cont_at {b : Int} (h0 : 0 ≤ b) (h1 : b ≤ 255) : (band .u8 b 192 != 128) = !contB b := by
  obtain ⟨n, rfl⟩ : ∃ n : Nat, b = n := ⟨b.toNat, by omega⟩
  have h := contTab_ok
  rw [List.all_eq_true] at h
  have := h n (List.mem_range.2 (by omega))
  simpa [contChk] using this
/-- Is it a boundary of a text? -/
def isCutD (t : List Int) (k : Int) : Bool := k == ((t.length : Nat) : Int) || (decide (0 ≤ k) && decide (k < ((t.length : Nat) : Int)) && !contB (t.getD k.toNat 0))
/-- All boundaries, from here on. -/
def bounds (xs : List Int) (k : Int) : List Int := if h : runeSz xs = 0 then [k] else k :: bounds (xs.drop (runeSz xs)) (k + (runeSz xs : Nat))
termination_by xs.length
decreasing_by
  have := runeSz_le xs
  simp; omega
theorem bounds_stop {xs : List Int} (h : runeSz xs = 0) (k : Int) : bounds xs k = [k] := by unfold bounds; rw [dif_pos h]
theorem bounds_step {xs : List Int} (h : runeSz xs ≠ 0) (k : Int) : bounds xs k = k :: bounds (xs.drop (runeSz xs)) (k + (runeSz xs : Nat)) := by
  conv => lhs; unfold bounds
  rw [dif_neg h]
theorem rune_cont {xs : List Int} (h : runeSz xs ≠ 0) : contB (xs.getD 0 0) = false ∧ ∀ j, 0 < j → j < runeSz xs → contB (xs.getD j 0) = true := by
  have key : (xs.getD 0 0 < 128 ∨ 191 < xs.getD 0 0) ∧ (1 < runeSz xs → 128 ≤ xs.getD 1 0 ∧ xs.getD 1 0 ≤ 191) ∧ (2 < runeSz xs → 128 ≤ xs.getD 2 0 ∧ xs.getD 2 0 ≤ 191) ∧ (3 < runeSz xs → 128 ≤ xs.getD 3 0 ∧ xs.getD 3 0 ≤ 191) := by
    revert h
    unfold runeSz lo3 hi3 lo4 hi4
    repeat' split
    all_goals (intro h; first | omega | (refine ⟨?_, ?_, ?_, ?_⟩ <;> omega))
  obtain ⟨h0, h1, h2, h3⟩ := key
  refine ⟨?_, fun j hj0 hj => ?_⟩
  · unfold contB
    rcases h0 with h0 | h0
    · rw [decide_eq_false (show ¬ 128 ≤ xs.getD 0 0 by omega)]; rfl
    · rw [decide_eq_false (show ¬ xs.getD 0 0 ≤ 191 by omega), Bool.and_false]
  · have h4 := runeSz_le4 xs
    have hc : j = 1 ∨ j = 2 ∨ j = 3 := by omega
    unfold contB
    rcases hc with rfl | rfl | rfl
    · obtain ⟨a, b⟩ := h1 hj; rw [decide_eq_true a, decide_eq_true b]; rfl
    · obtain ⟨a, b⟩ := h2 hj; rw [decide_eq_true a, decide_eq_true b]; rfl
    · obtain ⟨a, b⟩ := h3 hj; rw [decide_eq_true a, decide_eq_true b]; rfl
theorem bounds_has (k : Int) : ∀ (n : Nat) (xs : List Int) (k0 : Int), xs.length ≤ n → valid xs = true → ((bounds xs k0).any (fun c => c == k)) = isCutD xs (k - k0)
  | n, xs, k0, hn, hv => by
    by_cases h : runeSz xs = 0
    · have hx : xs = [] := by
        cases xs with
        | nil => rfl
        | cons a l => rw [valid_stop h (by simp)] at hv; cases hv
      subst hx
      rw [bounds_stop h]
      unfold isCutD
      simp only [List.any_cons, List.any_nil, Bool.or_false, List.length_nil, Int.natCast_zero]
      by_cases e : k0 = k
      · subst e; simp
      · have e2 : ¬ k - k0 = 0 := by omega
        have e3 : ¬ (0 ≤ k - k0 ∧ k - k0 < 0) := by omega
        rw [beq_eq_false_iff_ne.2 e, beq_eq_false_iff_ne.2 e2]
        by_cases e4 : 0 ≤ k - k0
        · rw [decide_eq_false (show ¬ k - k0 < 0 by omega)]; simp
        · rw [decide_eq_false e4]; simp
    · have hle := runeSz_le xs
      obtain ⟨c0, cj⟩ := rune_cont h
      rw [valid_step h] at hv
      cases n with
      | zero => omega
      | succ n =>
      rw [bounds_step h, List.any_cons, bounds_has k n (xs.drop (runeSz xs)) (k0 + (runeSz xs : Nat)) (by simp; omega) hv]
      unfold isCutD
      rw [List.length_drop, getD_drop]
      by_cases e : k0 = k
      · subst e
        rw [Int.sub_self, decide_eq_true (show (0 : Int) ≤ 0 by omega), decide_eq_true (show (0 : Int) < ((xs.length : Nat) : Int) by omega), show (0 : Int).toNat = 0 from rfl, c0]
        simp
      · rw [beq_eq_false_iff_ne.2 e, Bool.false_or]
        by_cases e1 : k - k0 < 0
        · rw [decide_eq_false (show ¬ 0 ≤ k - k0 by omega), decide_eq_false (show ¬ 0 ≤ k - (k0 + (runeSz xs : Nat)) by omega), beq_eq_false_iff_ne.2 (show ¬ k - k0 = ((xs.length : Nat) : Int) by omega), beq_eq_false_iff_ne.2 (show ¬ k - (k0 + (runeSz xs : Nat)) = ((xs.length - runeSz xs : Nat) : Int) by omega)]; rfl
        by_cases e2 : k - k0 < (runeSz xs : Nat)
        · have hc := cj (k - k0).toNat (by omega) (by omega)
          rw [decide_eq_false (show ¬ 0 ≤ k - (k0 + (runeSz xs : Nat)) by omega), hc, beq_eq_false_iff_ne.2 (show ¬ k - k0 = ((xs.length : Nat) : Int) by omega), beq_eq_false_iff_ne.2 (show ¬ k - (k0 + (runeSz xs : Nat)) = ((xs.length - runeSz xs : Nat) : Int) by omega)]
          simp
        · have ei : runeSz xs + (k - (k0 + (runeSz xs : Nat))).toNat = (k - k0).toNat := by omega
          rw [ei, decide_eq_true (show 0 ≤ k - (k0 + (runeSz xs : Nat)) by omega), decide_eq_true (show 0 ≤ k - k0 by omega)]
          have e5 : (k - (k0 + (runeSz xs : Nat)) == ((xs.length - runeSz xs : Nat) : Int)) = (k - k0 == ((xs.length : Nat) : Int)) := by
            rw [Bool.eq_iff_iff, beq_iff_eq, beq_iff_eq]; omega
          have e6 : decide (k - (k0 + (runeSz xs : Nat)) < ((xs.length - runeSz xs : Nat) : Int)) = decide (k - k0 < ((xs.length : Nat) : Int)) := by
            rw [Bool.eq_iff_iff, decide_eq_true_iff, decide_eq_true_iff]; omega
          rw [e5, e6]
  termination_by n => n
def cutsD (xs : List Int) : List Int := bif textOk xs then bounds xs 0 else []
def cutOk (xs : List Int) (k : Int) : Bool := textOk xs && isCutD xs k
theorem cutsD_has (xs : List Int) (k : Int) : (cutsD xs).any (fun c => c == k) = cutOk xs k := by
  unfold cutsD cutOk
  cases h : textOk xs with
  | false => rfl
  | true =>
    unfold textOk at h
    rw [Bool.and_eq_true] at h
    have := bounds_has k _ xs 0 (Nat.le_refl _) h.2
    rw [Int.sub_zero] at this
    exact this
theorem bounds_ne (xs : List Int) (k : Int) : 0 < (bounds xs k).length := by
  by_cases h : runeSz xs = 0
  · rw [bounds_stop h]; simp
  · rw [bounds_step h]; simp
def runeVal (xs : List Int) : Int :=
  if runeSz xs = 0 then -1
  else if runeSz xs = 1 then xs.getD 0 0
  else if runeSz xs = 2 then 64 * (xs.getD 0 0 - 192) + xs.getD 1 0 - 128
  else if runeSz xs = 3 then 64 * (64 * (xs.getD 0 0 - 224) + xs.getD 1 0 - 128) + xs.getD 2 0 - 128
  else 64 * (64 * (64 * (xs.getD 0 0 - 240) + xs.getD 1 0 - 128) + xs.getD 2 0 - 128) + xs.getD 3 0 - 128
theorem bstr_toList (xs : List Int) : (bstr xs).toList = xs.map (fun n => UInt8.ofNat n.toNat) := by
  rw [Lib.toList_data]; rfl
theorem u8_inj {a b : Int} (ha : 0 ≤ a ∧ a ≤ 255) (hb : 0 ≤ b ∧ b ≤ 255) (h : UInt8.ofNat a.toNat = UInt8.ofNat b.toNat) : a = b := by
  have h1 := congrArg UInt8.toNat h
  rw [UInt8.toNat_ofNat', UInt8.toNat_ofNat'] at h1
  omega
theorem map_u8_inj : ∀ {xs ys : List Int}, (∀ x ∈ xs, 0 ≤ x ∧ x ≤ 255) → (∀ y ∈ ys, 0 ≤ y ∧ y ≤ 255) → xs.map (fun n => UInt8.ofNat n.toNat) = ys.map (fun n => UInt8.ofNat n.toNat) → xs = ys
  | [], [], _, _, _ => rfl
  | [], _ :: _, _, _, h => by simp at h
  | _ :: _, [], _, _, h => by simp at h
  | x :: xs, y :: ys, hx, hy, h => by
    simp only [List.map_cons, List.cons.injEq] at h
    rw [u8_inj (hx x (by simp)) (hy y (by simp)) h.1, map_u8_inj (fun a ha => hx a (by simp [ha])) (fun a ha => hy a (by simp [ha])) h.2]
/-- Two strings of bytes are equal if the bytes are. -/
theorem bstr_eq {xs ys : List Int} (hx : ∀ x ∈ xs, 0 ≤ x ∧ x ≤ 255) (hy : ∀ y ∈ ys, 0 ≤ y ∧ y ≤ 255) : ((bstr xs).toList == (bstr ys).toList) = decide (xs = ys) := by
  rw [Bool.eq_iff_iff, beq_iff_eq, decide_eq_true_iff, bstr_toList, bstr_toList]
  exact ⟨map_u8_inj hx hy, fun h => by rw [h]⟩
theorem encD_byte (r : Int) : ∀ x ∈ encD r, 0 ≤ x ∧ x ≤ 255 := by
  intro x hx
  unfold encD at hx
  split at hx
  · cases hx
  split at hx
  · simp at hx; omega
  split at hx
  · simp at hx; rcases hx with rfl | rfl <;> omega
  split at hx
  · simp at hx; rcases hx with rfl | rfl | rfl <;> omega
  · simp at hx; rcases hx with rfl | rfl | rfl | rfl <;> omega
theorem runeSz0 {xs : List Int} (h : runeSz xs = 0) : ((runeVal xs, ((runeSz xs : Nat) : Int)) : Int × Int) = (-1, 0) := by
  unfold runeVal; rw [h]; rfl
theorem runeVal1 {xs : List Int} (h : runeSz xs = 1) : runeVal xs = xs.getD 0 0 := by
  unfold runeVal; rw [h, if_neg (by omega), if_pos rfl]
theorem runeVal2 {xs : List Int} (h : runeSz xs = 2) : runeVal xs = 64 * (xs.getD 0 0 - 192) + xs.getD 1 0 - 128 := by
  unfold runeVal; rw [h, if_neg (by omega), if_neg (by omega), if_pos rfl]
theorem runeVal3 {xs : List Int} (h : runeSz xs = 3) : runeVal xs = 64 * (64 * (xs.getD 0 0 - 224) + xs.getD 1 0 - 128) + xs.getD 2 0 - 128 := by
  unfold runeVal; rw [h, if_neg (by omega), if_neg (by omega), if_neg (by omega), if_pos rfl]
theorem runeVal4 {xs : List Int} (h : runeSz xs = 4) : runeVal xs = 64 * (64 * (64 * (xs.getD 0 0 - 240) + xs.getD 1 0 - 128) + xs.getD 2 0 - 128) + xs.getD 3 0 - 128 := by
  unfold runeVal; rw [h, if_neg (by omega), if_neg (by omega), if_neg (by omega), if_neg (by omega)]
theorem dec1 {b : Int} {t : List Int} (h0 : 0 ≤ b) (h : b < 192) : (if encD b = [b] then (b, (1 : Int)) else (-1, 0)) = (runeVal (b :: t), ((runeSz (b :: t) : Nat) : Int)) := by
  have e : runeSz (b :: t) = if b < 128 then 1 else 0 := by
    unfold runeSz
    rw [if_neg (by simp)]
    show (if b < 128 then 1 else if b < 194 then 0 else _) = _
    by_cases c : b < 128
    · rw [if_pos c, if_pos c]
    · rw [if_neg c, if_neg c, if_pos (by omega)]
  by_cases c : b < 128
  · rw [if_pos c] at e
    rw [runeVal1 e, e, if_pos (by unfold encD; rw [if_neg (by omega), if_pos c])]; rfl
  · rw [if_neg c] at e
    rw [runeSz0 e, if_neg]
    unfold encD
    rw [if_neg (by omega), if_neg c, if_pos (by omega)]
    simp
theorem dec2 {a b : Int} {t : List Int} (h0 : 192 ≤ a) (h : a < 224) (hb : 0 ≤ b ∧ b ≤ 255) : (if encD (64 * (a - 192) + b - 128) = [a, b] then (64 * (a - 192) + b - 128, (2 : Int)) else (-1, 0)) = (runeVal (a :: b :: t), ((runeSz (a :: b :: t) : Nat) : Int)) := by
  have e : runeSz (a :: b :: t) = if 194 ≤ a ∧ 128 ≤ b ∧ b ≤ 191 then 2 else 0 := by
    unfold runeSz
    rw [if_neg (by simp)]
    show (if a < 128 then 1 else if a < 194 then 0 else if a < 224 then (if 2 ≤ (a :: b :: t).length ∧ 128 ≤ b ∧ b ≤ 191 then 2 else 0) else _) = _
    rw [if_neg (by omega)]
    by_cases c : a < 194
    · rw [if_pos c, if_neg (by omega)]
    · rw [if_neg c, if_pos h]
      by_cases c2 : 128 ≤ b ∧ b ≤ 191
      · rw [if_pos ⟨by simp, c2⟩, if_pos ⟨by omega, c2⟩]
      · rw [if_neg (fun h => c2 h.2), if_neg (fun h => c2 h.2)]
  by_cases c : 194 ≤ a ∧ 128 ≤ b ∧ b ≤ 191
  · rw [if_pos c] at e
    rw [runeVal2 e, e, if_pos]; rfl
    unfold encD
    rw [if_neg (by omega), if_neg (by omega), if_pos (by omega)]
    congr 1
    · omega
    · congr 1; omega
  · rw [if_neg c] at e
    rw [runeSz0 e, if_neg]
    intro he
    unfold encD at he
    split at he
    · cases he
    split at he
    · simp at he
    split at he
    · simp only [List.cons.injEq, and_true] at he; omega
    split at he
    · simp at he
    · simp at he
theorem dec3 {a b d : Int} {t : List Int} (h0 : 224 ≤ a) (h : a < 240) (hb : 0 ≤ b ∧ b ≤ 255) (hd : 0 ≤ d ∧ d ≤ 255) : (if encD (64 * (64 * (a - 224) + b - 128) + d - 128) = [a, b, d] then (64 * (64 * (a - 224) + b - 128) + d - 128, (3 : Int)) else (-1, 0)) = (runeVal (a :: b :: d :: t), ((runeSz (a :: b :: d :: t) : Nat) : Int)) := by
  have e : runeSz (a :: b :: d :: t) = if lo3 a ≤ b ∧ b ≤ hi3 a ∧ 128 ≤ d ∧ d ≤ 191 then 3 else 0 := by
    unfold runeSz
    rw [if_neg (by simp)]
    show (if a < 128 then 1 else if a < 194 then 0 else if a < 224 then _ else if a < 240 then (if 3 ≤ (a :: b :: d :: t).length ∧ lo3 a ≤ b ∧ b ≤ hi3 a ∧ 128 ≤ d ∧ d ≤ 191 then 3 else 0) else _) = _
    rw [if_neg (by omega), if_neg (by omega), if_neg (by omega), if_pos h]
    by_cases c2 : lo3 a ≤ b ∧ b ≤ hi3 a ∧ 128 ≤ d ∧ d ≤ 191
    · rw [if_pos ⟨by simp, c2⟩, if_pos c2]
    · rw [if_neg (fun h => c2 h.2), if_neg c2]
  by_cases c : lo3 a ≤ b ∧ b ≤ hi3 a ∧ 128 ≤ d ∧ d ≤ 191
  · rw [if_pos c] at e
    have hlh : 128 ≤ b ∧ b ≤ 191 ∧ (a = 224 → 160 ≤ b) ∧ (a = 237 → b ≤ 159) := by
      unfold lo3 hi3 at c
      split at c <;> split at c <;> omega
    rw [runeVal3 e, e, if_pos]; rfl
    unfold encD
    rw [if_neg (by omega), if_neg (by omega), if_neg (by omega), if_pos (by omega)]
    congr 1
    · omega
    · congr 1
      · omega
      · congr 1; omega
  · rw [if_neg c] at e
    rw [runeSz0 e, if_neg]
    intro he
    unfold encD at he
    split at he
    · cases he
    split at he
    · simp at he
    split at he
    · simp at he
    split at he
    · simp only [List.cons.injEq, and_true] at he
      apply c
      unfold lo3 hi3
      split <;> split <;> omega
    · simp at he
theorem dec4 {a b d f : Int} {t : List Int} (h0 : 240 ≤ a) (h : a ≤ 255) (hb : 0 ≤ b ∧ b ≤ 255) (hd : 0 ≤ d ∧ d ≤ 255) (hf : 0 ≤ f ∧ f ≤ 255) : (if encD (64 * (64 * (64 * (a - 240) + b - 128) + d - 128) + f - 128) = [a, b, d, f] then (64 * (64 * (64 * (a - 240) + b - 128) + d - 128) + f - 128, (4 : Int)) else (-1, 0)) = (runeVal (a :: b :: d :: f :: t), ((runeSz (a :: b :: d :: f :: t) : Nat) : Int)) := by
  have e : runeSz (a :: b :: d :: f :: t) = if a < 245 ∧ lo4 a ≤ b ∧ b ≤ hi4 a ∧ 128 ≤ d ∧ d ≤ 191 ∧ 128 ≤ f ∧ f ≤ 191 then 4 else 0 := by
    unfold runeSz
    rw [if_neg (by simp)]
    show (if a < 128 then 1 else if a < 194 then 0 else if a < 224 then _ else if a < 240 then _ else if a < 245 then (if 4 ≤ (a :: b :: d :: f :: t).length ∧ lo4 a ≤ b ∧ b ≤ hi4 a ∧ 128 ≤ d ∧ d ≤ 191 ∧ 128 ≤ f ∧ f ≤ 191 then 4 else 0) else 0) = _
    rw [if_neg (by omega), if_neg (by omega), if_neg (by omega), if_neg (by omega)]
    by_cases c1 : a < 245
    · rw [if_pos c1]
      by_cases c2 : lo4 a ≤ b ∧ b ≤ hi4 a ∧ 128 ≤ d ∧ d ≤ 191 ∧ 128 ≤ f ∧ f ≤ 191
      · rw [if_pos ⟨by simp, c2⟩, if_pos ⟨c1, c2⟩]
      · rw [if_neg (fun h => c2 h.2), if_neg (fun h => c2 h.2)]
    · rw [if_neg c1, if_neg (fun h => c1 h.1)]
  by_cases c : a < 245 ∧ lo4 a ≤ b ∧ b ≤ hi4 a ∧ 128 ≤ d ∧ d ≤ 191 ∧ 128 ≤ f ∧ f ≤ 191
  · rw [if_pos c] at e
    have hlh : 128 ≤ b ∧ b ≤ 191 ∧ (a = 240 → 144 ≤ b) ∧ (a = 244 → b ≤ 143) := by
      unfold lo4 hi4 at c
      split at c <;> split at c <;> omega
    rw [runeVal4 e, e, if_pos]; rfl
    unfold encD
    rw [if_neg (by omega), if_neg (by omega), if_neg (by omega), if_neg (by omega)]
    congr 1
    · omega
    · congr 1
      · omega
      · congr 1
        · omega
        · congr 1; omega
  · rw [if_neg c] at e
    rw [runeSz0 e, if_neg]
    intro he
    unfold encD at he
    split at he
    · cases he
    split at he
    · simp at he
    split at he
    · simp at he
    split at he
    · simp at he
    · simp only [List.cons.injEq, and_true] at he
      apply c
      unfold lo4 hi4
      split <;> split <;> omega
theorem short4 {xs : List Int} (h : 240 ≤ xs.getD 0 0) (hl : xs.length < 4) : runeSz xs = 0 := by
  unfold runeSz; repeat' split
  all_goals omega
theorem short3 {xs : List Int} (h : 224 ≤ xs.getD 0 0) (h2 : xs.getD 0 0 < 240) (hl : xs.length < 3) : runeSz xs = 0 := by
  unfold runeSz; repeat' split
  all_goals omega
theorem short2 {xs : List Int} (h : 192 ≤ xs.getD 0 0) (h2 : xs.getD 0 0 < 224) (hl : xs.length < 2) : runeSz xs = 0 := by
  unfold runeSz; repeat' split
  all_goals omega
def inD (d : List Int) (k : Int) : Bool := decide (0 ≤ k) && decide (k < ((d.length : Nat) : Int))
def szAt (d : List Int) (k : Int) : Int := bif inD d k then ((runeSz (d.drop k.toNat) : Nat) : Int) else 0
def valAt (d : List Int) (k : Int) : Int := bif inD d k then runeVal (d.drop k.toNat) else -1
theorem szAt_in {d : List Int} {k : Int} (h0 : 0 ≤ k) (h1 : k < ((d.length : Nat) : Int)) : szAt d k = ((runeSz (d.drop k.toNat) : Nat) : Int) := by
  unfold szAt inD; rw [decide_eq_true h0, decide_eq_true h1]; rfl
/-- The starts of the runes, from here on. -/
def starts (xs : List Int) (k : Int) : List Int := if h : runeSz xs = 0 then [] else k :: starts (xs.drop (runeSz xs)) (k + (runeSz xs : Nat))
termination_by xs.length
decreasing_by
  have := runeSz_le xs
  simp; omega
theorem starts_stop {xs : List Int} (h : runeSz xs = 0) (k : Int) : starts xs k = [] := by unfold starts; rw [dif_pos h]
theorem starts_step {xs : List Int} (h : runeSz xs ≠ 0) (k : Int) : starts xs k = k :: starts (xs.drop (runeSz xs)) (k + (runeSz xs : Nat)) := by
  conv => lhs; unfold starts
  rw [dif_neg h]
theorem valid_cases {xs : List Int} (h : valid xs = true) : xs = [] ∨ runeSz xs ≠ 0 ∧ valid (xs.drop (runeSz xs)) = true := by
  by_cases e : runeSz xs = 0
  · left
    cases xs with
    | nil => rfl
    | cons a l => rw [valid_stop e (by simp)] at h; cases h
  · right; exact ⟨e, by rw [← valid_step e]; exact h⟩
theorem bounds_starts : ∀ (n : Nat) (xs : List Int) (k : Int), xs.length ≤ n → valid xs = true → bounds xs k = starts xs k ++ [k + (xs.length : Nat)]
  | n, xs, k, hn, hv => by
    rcases valid_cases hv with rfl | ⟨h, hv'⟩
    · rw [bounds_stop (by rfl), starts_stop (by rfl)]; simp
    · have hle := runeSz_le xs
      cases n with
      | zero => omega
      | succ n =>
        rw [bounds_step h, starts_step h, bounds_starts n _ _ (by simp; omega) hv', List.cons_append, List.length_drop]
        congr 3; omega
  termination_by n => n
theorem starts_len : ∀ (n : Nat) (xs : List Int) (k : Int), xs.length ≤ n → (starts xs k).length ≤ xs.length
  | n, xs, k, hn => by
    by_cases h : runeSz xs = 0
    · rw [starts_stop h]; simp
    · have hle := runeSz_le xs
      cases n with
      | zero => omega
      | succ n =>
        rw [starts_step h]
        have := starts_len n (xs.drop (runeSz xs)) (k + (runeSz xs : Nat)) (by simp; omega)
        simp at this ⊢; omega
  termination_by n => n
theorem textOk_iff {xs : List Int} : textOk xs = true ↔ xs.length ≤ 400 ∧ valid xs = true := by
  unfold textOk; rw [Bool.and_eq_true]
  exact ⟨fun h => ⟨Nat.le_of_ble_eq_true h.1, h.2⟩, fun h => ⟨Nat.ble_eq_true_of_le h.1, h.2⟩⟩
end Go.Ev
end
section
/- Edits of texts, as lists of numbers. -/
set_option linter.unusedVariables false
namespace Go.Ev
open Go.RowKit
abbrev E3 : Type := Int × Int × List Int
theorem isCutD_range {t : List Int} {k : Int} (h : isCutD t k = true) : 0 ≤ k ∧ k ≤ ((t.length : Nat) : Int) := by
  unfold isCutD at h
  rw [Bool.or_eq_true, beq_iff_eq, Bool.and_eq_true, Bool.and_eq_true, decide_eq_true_iff, decide_eq_true_iff] at h
  omega
structure EditOk (t : List Int) (e : E3) : Prop where
  tx : textOk t = true
  a : isCutD t e.1 = true
  c0 : 0 ≤ e.2.1
  c1 : e.2.1 ≤ ((t.length : Nat) : Int) - e.1
  b : isCutD t (e.1 + e.2.1) = true
  p : textOk e.2.2 = true
  l : ((t.length : Nat) : Int) - e.2.1 + ((e.2.2.length : Nat) : Int) ≤ 400
end Go.Ev
end
section
/- Requests and replies, as numbers and lists. -/
set_option linter.unusedVariables false
namespace Go.Ev
open Go.RowKit
theorem wrap8_mod (n : Int) : IntKind.u8.wrap n = n % 256 := by
  simp only [IntKind.wrap, IntKind.bits, IntKind.signed]; simp
end Go.Ev
end
section
/- Loops over lists, by index. -/
set_option linter.unusedVariables false
namespace Go.Ev
section
variable {α β ρ : Type}
theorem getD_lt {xs : List α} {i : Nat} (z : α) (h : i < xs.length) : xs.getD i z = xs[i] := by
  rw [List.getD_eq_getElem?_getD, List.getElem?_eq_getElem h]; rfl
theorem idx_find {R : Nat → Int → ρ} {p : α → Bool} {kt : ρ} {kf : Int → ρ} {xs : List α} {z : α}
    (hs : ∀ m (i : Nat), i < xs.length → R (m + 1) i = bif p (xs.getD i z) then kf i else R m ((i + 1 : Nat) : Int))
    (he : ∀ m, R (m + 1) (xs.length : Nat) = kt) : ∀ (m i : Nat), i ≤ xs.length → xs.length - i < m → R m i = (match (xs.drop i).findIdx? p with
      | some j => kf ((i + j : Nat) : Int)
      | none => kt)
  | 0, i, _, h => absurd h (by omega)
  | m + 1, i, hi, hm => by
    by_cases h : i < xs.length
    · rw [hs m i h, getD_lt z h, List.drop_eq_getElem_cons h, List.findIdx?_cons]
      cases hp : p xs[i] with
      | true => simp
      | false =>
        rw [cond_false, idx_find hs he m (i + 1) (by omega) (by omega)]
        simp only [Bool.false_eq_true, if_false]
        cases (xs.drop (i + 1)).findIdx? p with
        | none => rfl
        | some k => show kf ((i + 1 + k : Nat) : Int) = kf ((i + (k + 1) : Nat) : Int); congr 2; omega
    · have : i = xs.length := by omega
      subst this
      rw [he m, List.drop_length]; rfl
theorem take_one {l : List α} {i : Nat} (z : α) (h : i < l.length) : l.take i ++ [l.getD i z] = l.take (i + 1) := by
  rw [List.take_add_one, List.getElem?_eq_getElem h, getD_lt z h]; rfl
def idxOfD (l : List Int) (k : Int) : Int := match l.findIdx? (fun c => c == k) with
  | some i => (i : Nat)
  | none => -1
theorem idxOfD_any (l : List Int) (k : Int) : decide (idxOfD l k ≥ 0) = l.any (fun c => c == k) := by
  unfold idxOfD
  cases h : l.findIdx? (fun c => c == k) with
  | none =>
    rw [List.findIdx?_eq_none_iff] at h
    rw [show l.any (fun c => c == k) = false from List.any_eq_false.2 (fun x hx => by rw [h x hx]; simp)]; rfl
  | some i =>
    rw [List.findIdx?_eq_some_iff_getElem] at h
    obtain ⟨h1, h2, _⟩ := h
    rw [show l.any (fun c => c == k) = true from List.any_eq_true.2 ⟨l[i], List.getElem_mem h1, h2⟩]
    exact decide_eq_true (show ((i : Nat) : Int) ≥ 0 by omega)
end
end Go.Ev
end
section
/- Events and outputs, as numbers and lists. -/
set_option linter.unusedVariables false
namespace Go.Ev
open Go.RowKit
end Go.Ev
end
section
/- Positions, spans and edits after an edit; stacks. -/
set_option linter.unusedVariables false
namespace Go.Ev
open Go.RowKit
/-! ### Stacks -/
end Go.Ev
end
section
/- What is known of an argument: bytes are bytes, and it is small. -/
set_option linter.unusedVariables false
namespace Go.Ev.Seat
open Go.RowKit
mutual
def fitC : (c : Cc) → c.T → Bool
  | .int .u8, n => isB n
  | .int _, _ => true
  | .bool, _ => true
  | .str, _ => true
  | .sl r, xs => Nat.ble xs.length 1048576 && xs.all (fitR r)
def fitR : (r : Rw) → r.T → Bool
  | .one c, d => fitC c d
  | .cons c r, d => fitC c d.1 && fitR r d.2
end
mutual
theorem fitC_of : (c : Cc) → (d : c.T) → c.wf d → c.lim d = true → fitC c d = true
  | .int k, n, h, _ => by
    cases k <;> simp only [fitC]
    have h' : (Lit.int .u8 n).wf = true := h
    simp only [Lit.wf, Bool.and_eq_true, decide_eq_true_eq] at h'
    have a : IntKind.u8.min = 0 := rfl
    have b : IntKind.u8.max = 255 := rfl
    rw [a, b] at h'
    simp only [isB, Bool.and_eq_true, decide_eq_true_eq]
    exact h'
  | .bool, _, _, _ => rfl
  | .str, _, _, _ => rfl
  | .sl r, xs, h, g => by
    simp only [Cc.lim, Bool.and_eq_true, List.all_eq_true] at g
    simp only [fitC, Bool.and_eq_true, List.all_eq_true]
    exact ⟨g.1, fun x hx => fitR_of r x (h.2 x hx) (g.2 x hx)⟩
theorem fitR_of : (r : Rw) → (d : r.T) → r.wf d → r.lim d = true → fitR r d = true
  | .one c, d, h, g => fitC_of c d h g
  | .cons c r, d, h, g => by
    simp only [Rw.lim, Bool.and_eq_true] at g
    simp only [fitR, Bool.and_eq_true]
    exact ⟨fitC_of c d.1 h.1 g.1, fitR_of r d.2 h.2 g.2⟩
end
theorem fitB_fit {b : List Int} (h : fitC (.sl bytesR) b = true) : fitB b = true := h
theorem fitC_mem {r : Rw} {l : List r.T} (h : fitC (.sl r) l = true) {x : r.T} (hx : x ∈ l) : fitR r x = true := by
  simp only [fitC, Bool.and_eq_true, List.all_eq_true] at h
  exact h.2 x hx
theorem fitC_len {r : Rw} {l : List r.T} (h : fitC (.sl r) l = true) : l.length ≤ 1048576 := by
  simp only [fitC, Bool.and_eq_true] at h
  exact Nat.le_of_ble_eq_true h.1
theorem fitC_mk {r : Rw} {l : List r.T} (hl : l.length ≤ 1048576) (hs : ∀ x ∈ l, fitR r x = true) : fitC (.sl r) l = true := by
  simp only [fitC, Bool.and_eq_true, List.all_eq_true]
  exact ⟨Nat.ble_eq_true_of_le hl, hs⟩
end Go.Ev.Seat
end
section
/- Stacks keep the form of their data. -/
set_option linter.unusedVariables false
namespace Go.Ev.Seat
open Go.RowKit
end Go.Ev.Seat
end
section
/- l_big: its contract. -/
namespace Go.Ev.Seat
open Go.RowKit
set_option maxRecDepth 100000
set_option linter.unusedVariables false
set_option linter.unusedSimpArgs false
noncomputable abbrev E_l_big : Env := En [] [] [] [] false 0 []
noncomputable def T_l_big (code : List Int) (K : Ret → Option Ret) : Option Ret := K ((.s (.bool (decide ((((List.length code) : Nat) : Int) > (1048576 : Int))))), [])
theorem e_l_big (code : List Int) (K : Ret → Option Ret) : evF E_l_big true F.l_big [.l .no bytesR code] K = T_l_big code K := by kernel_rfl
def S_l_big : Sm := S_fnR [.l bytesR] (fun d => true) (fun d => (bl (decide (((d.1.length : Nat) : Int) > 1048576)), []))
theorem v_l_big (code : List Int) (K : Ret → Option Ret) : T_l_big code K = K (bl (decide (((code.length : Nat) : Int) > 1048576)), []) := rfl
theorem okS_l_big : OkFn prog I N.l_big true S_l_big := okN (ok_fn mem0 (l := []) (p := []) (ls := []) (lend := []) (focus := false) (fuel := 0) (give := []) (fn := F.l_big) (by kernel_rfl) (by kernel_rfl) (by kernel_rfl) (by kernel_rfl) (cs := []) (by kernel_rfl) loops0) (S_fnR_of fun d K h => (e_l_big d.1 K).trans (v_l_big d.1 K))
end Go.Ev.Seat
end
section
/- What a drawing function answers: some result of which something holds. -/
set_option linter.unusedVariables false
namespace Go.Ev
section
variable {ρ σ : Type}
/-- Whatever goes on, it goes on with one result, of which P holds. -/
def Dr (P : ρ → Prop) (T : (ρ → σ) → σ) : Prop := ∃ r, P r ∧ ∀ K, T K = K r
variable {P : ρ → Prop}
theorem Dr.leaf {r : ρ} (h : P r) : Dr P (fun K : ρ → σ => K r) := ⟨r, h, fun _ => rfl⟩
theorem Dr.bif {c : Bool} {A B : (ρ → σ) → σ} (h1 : c = true → Dr P A) (h2 : c = false → Dr P B) : Dr P (fun K => bif c then A K else B K) := by
  cases c
  · exact h2 rfl
  · exact h1 rfl
theorem Dr.must {c : Bool} {A B : (ρ → σ) → σ} (h : c = true) (h1 : Dr P A) : Dr P (fun K => bif c then A K else B K) := Dr.bif (fun _ => h1) (fun e => by rw [h] at e; cases e)
theorem Dr.mono {Q : ρ → Prop} {A : (ρ → σ) → σ} (h : Dr P A) (hq : ∀ r, P r → Q r) : Dr Q A := by
  obtain ⟨r, h1, h2⟩ := h
  exact ⟨r, hq r h1, h2⟩
theorem Dr.eq {A B : (ρ → σ) → σ} (h : Dr P B) (e : ∀ K, A K = B K) : Dr P A := by
  obtain ⟨r, h1, h2⟩ := h
  exact ⟨r, h1, fun K => (e K).trans (h2 K)⟩
theorem Dr.b1 {α : Type} {p : α → Prop} {B : (α → σ) → σ} (h : ∃ a, p a ∧ ∀ k, B k = k a) {F : α → (ρ → σ) → σ} (hF : ∀ a, p a → Dr P (F a)) : Dr P (fun K => B (fun a => F a K)) := by
  obtain ⟨a, h1, h2⟩ := h
  exact (hF a h1).eq (fun K => h2 _)
theorem Dr.b2 {α β : Type} {p : α → β → Prop} {B : (α → β → σ) → σ} (h : ∃ a b, p a b ∧ ∀ k, B k = k a b) {F : α → β → (ρ → σ) → σ} (hF : ∀ a b, p a b → Dr P (F a b)) : Dr P (fun K => B (fun a b => F a b K)) := by
  obtain ⟨a, b, h1, h2⟩ := h
  exact (hF a b h1).eq (fun K => h2 _)
theorem Dr.b3 {α β γ : Type} {p : α → β → γ → Prop} {B : (α → β → γ → σ) → σ} (h : ∃ a b c, p a b c ∧ ∀ k, B k = k a b c) {F : α → β → γ → (ρ → σ) → σ} (hF : ∀ a b c, p a b c → Dr P (F a b c)) : Dr P (fun K => B (fun a b c => F a b c K)) := by
  obtain ⟨a, b, c, h1, h2⟩ := h
  exact (hF a b c h1).eq (fun K => h2 _)
theorem Dr.b4 {α β γ δ : Type} {p : α → β → γ → δ → Prop} {B : (α → β → γ → δ → σ) → σ} (h : ∃ a b c d, p a b c d ∧ ∀ k, B k = k a b c d) {F : α → β → γ → δ → (ρ → σ) → σ} (hF : ∀ a b c d, p a b c d → Dr P (F a b c d)) : Dr P (fun K => B (fun a b c d => F a b c d K)) := by
  obtain ⟨a, b, c, d, h1, h2⟩ := h
  exact (hF a b c d h1).eq (fun K => h2 _)
theorem Dr.b5 {α β γ δ ε : Type} {p : α → β → γ → δ → ε → Prop} {B : (α → β → γ → δ → ε → σ) → σ} (h : ∃ a b c d e, p a b c d e ∧ ∀ k, B k = k a b c d e) {F : α → β → γ → δ → ε → (ρ → σ) → σ} (hF : ∀ a b c d e, p a b c d e → Dr P (F a b c d e)) : Dr P (fun K => B (fun a b c d e => F a b c d e K)) := by
  obtain ⟨a, b, c, d, e, h1, h2⟩ := h
  exact (hF a b c d e h1).eq (fun K => h2 _)
end
theorem Dr.meet {ρ : Type} {P : ρ → Prop} {A : (ρ → Option Ret) → Option Ret} (h : Dr P A) : Dr P (fun K => meet (A K) (A K)) := h.eq (fun K => by classical unfold Go.Ev.meet; rw [if_pos rfl])
/-- A code, a place in it and a seed, of which numbers are drawn; n: how many more may be. -/
def curB (n : Int) (cc : List Int) (ca cs : Int) : Bool := fitB cc && decide (0 ≤ ca) && decide (ca ≤ n) && decide (0 ≤ cs) && decide (cs < 65536)
theorem curB_iff {n : Int} {cc : List Int} {ca cs : Int} : curB n cc ca cs = true ↔ fitB cc = true ∧ 0 ≤ ca ∧ ca ≤ n ∧ 0 ≤ cs ∧ cs < 65536 := by
  unfold curB; simp only [Bool.and_eq_true, decide_eq_true_eq]
  exact ⟨fun ⟨⟨⟨⟨a, b⟩, c⟩, d⟩, e⟩ => ⟨a, b, c, d, e⟩, fun ⟨a, b, c, d, e⟩ => ⟨⟨⟨⟨a, b⟩, c⟩, d⟩, e⟩⟩
/-- Bytes alone. -/
def byteL (xs : List Int) : Prop := ∀ x ∈ xs, 0 ≤ x ∧ x ≤ 255
theorem byteL_nil : byteL [] := fun _ h => nomatch h
theorem byteL_app {xs ys : List Int} (h1 : byteL xs) (h2 : byteL ys) : byteL (xs ++ ys) := fun x hx => (List.mem_append.1 hx).elim (h1 x) (h2 x)
theorem byteL_fit {xs : List Int} (h : byteL xs) (hl : xs.length ≤ 1048576) : fitB xs = true := fitB_of hl h
theorem encD_len4 (r : Int) : (encD r).length ≤ 4 := by
  unfold encD; repeat' split
  all_goals simp
theorem fitB_rep {n : Nat} (h : n ≤ 1048576) : fitB (List.replicate n 0) = true := fitB_of (by rw [List.length_replicate]; exact h) (fun x hx => by rw [(List.mem_replicate.1 hx).2]; omega)
def seedD (c : List Int) : Int := 97 + ((c.length : Nat) : Int) % 1000
end Go.Ev
end
section
/- s_l01Open: its contract. -/
namespace Go.Ev.Seat
open Go.RowKit
set_option maxRecDepth 100000
set_option linter.unusedVariables false
set_option linter.unusedSimpArgs false
noncomputable abbrev E_s_l01Open : Env := En [] [] [] [] false 0 []
noncomputable def T_s_l01Open (c : List Int) (K : Ret → Option Ret) : Option Ret := K ((.io [(.l .no bytesR c), (.s (.int .i64 (0 : Int))), (.s (.int .i64 (IntKind.wrap .i64 ((97 : Int) + (Int.tmod (((List.length c) : Nat) : Int) (1000 : Int))))))]), [])
theorem e_s_l01Open (c : List Int) (K : Ret → Option Ret) : evF E_s_l01Open false F.s_l01Open [.l .no bytesR c] K = T_s_l01Open c K := by kernel_rfl
def S_s_l01Open : Sm := S_fnR [.l bytesR] (fun d => fitB d.1) (fun d => (.io [.l .no bytesR d.1, .s (.int .i64 0), .s (.int .i64 (seedD d.1))], []))
theorem v_s_l01Open (c : List Int) (h : (fitB c) = true) (K : Ret → Option Ret) : T_s_l01Open c K = K (.io [.l .no bytesR c, .s (.int .i64 0), .s (.int .i64 (seedD c))], []) := by
  have hl := fitB_len h
  unfold T_s_l01Open seedD
  rw [Int.tmod_eq_emod_of_nonneg (by omega), wrap_in (n := 97 + ((c.length : Nat) : Int) % 1000) (by omega) (by omega)]
theorem okS_s_l01Open : OkFn prog I N.s_l01Open false S_s_l01Open := okN (ok_fn mem0 (l := []) (p := []) (ls := []) (lend := []) (focus := false) (fuel := 0) (give := []) (fn := F.s_l01Open) (by kernel_rfl) (by kernel_rfl) (by kernel_rfl) (by kernel_rfl) (cs := []) (by kernel_rfl) loops0) (S_fnR_of fun d K h => (e_s_l01Open d.1 K).trans (v_s_l01Open d.1 h K))
end Go.Ev.Seat
end
section
/- s_l01Cur_pick: its contract. -/
namespace Go.Ev.Seat
open Go.RowKit
set_option maxRecDepth 100000
set_option linter.unusedVariables false
set_option linter.unusedSimpArgs false
noncomputable abbrev pl_s_l01Cur_pick : List (Nat × Plan × List Nat) := [(4, takes [0, 1, 2, 3, 4, 5, 6, 7, 8, 9], []), (5, takes [0, 1, 2, 3, 4, 5, 6, 7, 8, 9, 10, 11], []), (8, takes [0, 1, 2, 3, 4, 5, 6, 7, 8, 9, 10, 11, 12, 13, 14, 15, 16, 17, 18, 19, 20, 21, 22, 23], [])]
noncomputable abbrev E_s_l01Cur_pick : Env := En [] pl_s_l01Cur_pick [] [] false 0 []
noncomputable def T_s_l01Cur_pick (cc : List Int) (ca : Int) (cs : Int) (n : Int) (K : Ret → Option Ret) : Option Ret := (bif (decide (n < (2 : Int))) then K ((.s (.int .i64 (0 : Int))), [(.io [(.l .no bytesR cc), (.s (.int .i64 ca)), (.s (.int .i64 cs))])]) else (bif (decide (ca < (((List.length cc) : Nat) : Int))) then (bif ((decide ((0 : Int) ≤ ca)) && (decide (ca < (((List.length cc) : Nat) : Int)))) then (bif (!(n == (0 : Int))) then K ((.s (.int .i64 (Int.tmod (IntKind.wrap .i64 (List.getD cc (Int.toNat ca) (0 : Int))) n))), [(.io [(.l .no bytesR cc), (.s (.int .i64 (IntKind.wrap .i64 (ca + (1 : Int))))), (.s (.int .i64 cs))])]) else none) else none) else (bif (decide ((((List.length cc) : Nat) : Int) > (0 : Int))) then (bif (!((((List.length cc) : Nat) : Int) == (0 : Int))) then (bif ((decide ((0 : Int) ≤ (Int.tmod ca (((List.length cc) : Nat) : Int)))) && (decide ((Int.tmod ca (((List.length cc) : Nat) : Int)) < (((List.length cc) : Nat) : Int)))) then (bif (!(n == (0 : Int))) then K ((.s (.int .i64 (Int.tmod (IntKind.wrap .i64 ((IntKind.wrap .i64 (Int.tdiv (Int.tmod (IntKind.wrap .i64 ((IntKind.wrap .i64 (cs * (1103 : Int))) + (12345 : Int))) (65521 : Int)) (7 : Int))) + (IntKind.wrap .i64 (List.getD cc (Int.toNat (Int.tmod ca (((List.length cc) : Nat) : Int))) (0 : Int))))) n))), [(.io [(.l .no bytesR cc), (.s (.int .i64 (IntKind.wrap .i64 (ca + (1 : Int))))), (.s (.int .i64 (Int.tmod (IntKind.wrap .i64 ((IntKind.wrap .i64 (cs * (1103 : Int))) + (12345 : Int))) (65521 : Int))))])]) else none) else none) else none) else (bif (!(n == (0 : Int))) then K ((.s (.int .i64 (Int.tmod (0 : Int) n))), [(.io [(.l .no bytesR cc), (.s (.int .i64 (IntKind.wrap .i64 (ca + (1 : Int))))), (.s (.int .i64 (Int.tmod (IntKind.wrap .i64 ((IntKind.wrap .i64 (cs * (1103 : Int))) + (12345 : Int))) (65521 : Int))))])]) else none))))
theorem e_s_l01Cur_pick (cc : List Int) (ca : Int) (cs : Int) (n : Int) (K : Ret → Option Ret) : evF E_s_l01Cur_pick false F.s_l01Cur_pick [.io [.l .no bytesR cc, .s (.int .i64 ca), .s (.int .i64 cs)], .s (.int .i64 n)] K = T_s_l01Cur_pick cc ca cs n K := by kernel_rfl
theorem x_s_l01Cur_pick (cc : List Int) (ca : Int) (cs : Int) (n : Int) (h : (curB 4000000000000000000 cc ca cs) = true) : ∃ (y : Int) (a : Int) (s : Int), ((0 ≤ y ∧ (2 ≤ n → y < n) ∧ (n < 2 → y = 0)) ∧ 0 ≤ a ∧ a ≤ ca + 1 ∧ 0 ≤ s ∧ s < 65536) ∧ ∀ K : Ret → Option Ret, T_s_l01Cur_pick cc ca cs n K = K (.s (.int .i64 y), [.io [.l .no bytesR cc, .s (.int .i64 a), .s (.int .i64 s)]]) := by
  suffices hd : Dr (fun r : Ret => ∃ (y : Int) (a : Int) (s : Int), ((0 ≤ y ∧ (2 ≤ n → y < n) ∧ (n < 2 → y = 0)) ∧ 0 ≤ a ∧ a ≤ ca + 1 ∧ 0 ≤ s ∧ s < 65536) ∧ r = (.s (.int .i64 y), [.io [.l .no bytesR cc, .s (.int .i64 a), .s (.int .i64 s)]])) (fun K : Ret → Option Ret => T_s_l01Cur_pick cc ca cs n K) by
    obtain ⟨_, ⟨y, a, s, hp, rfl⟩, hk⟩ := hd
    exact ⟨y, a, s, hp, hk⟩
  obtain ⟨h1, h2, h3, h4, h5⟩ := curB_iff.1 h
  have hl := fitB_len h1
  have hb1 := fitB_get h1 ca.toNat
  have hb2 := fitB_get h1 (ca % ((cc.length : Nat) : Int)).toNat
  unfold T_s_l01Cur_pick
  refine Dr.bif (fun c1 => ?_) (fun c1 => ?_)
  · simp only [decide_eq_true_eq] at c1
    exact Dr.leaf ⟨0, ca, cs, ⟨⟨by omega, by omega, by omega⟩, by omega, by omega, by omega, by omega⟩, rfl⟩
  simp only [decide_eq_false_iff_not] at c1
  have e1 : IntKind.wrap .i64 (ca + 1) = ca + 1 := wrap_in (by omega) (by omega)
  have em : ∀ x : Int, 0 ≤ x → Int.tmod x n = x % n := fun x hx => Int.tmod_eq_emod_of_nonneg hx
  have hn : (!(n == (0 : Int))) = true := by simp; omega
  have es : Int.tmod (IntKind.wrap .i64 ((IntKind.wrap .i64 (cs * (1103 : Int))) + (12345 : Int))) (65521 : Int) = (cs * 1103 + 12345) % 65521 := by
    rw [wrap_in (n := cs * 1103) (by omega) (by omega), wrap_in (n := cs * 1103 + 12345) (by omega) (by omega), Int.tmod_eq_emod_of_nonneg (by omega)]
  have fin : ∀ (x s : Int), 0 ≤ x → 0 ≤ s → s < 65536 → (fun r : Ret => ∃ (y : Int) (a : Int) (s : Int), ((0 ≤ y ∧ (2 ≤ n → y < n) ∧ (n < 2 → y = 0)) ∧ 0 ≤ a ∧ a ≤ ca + 1 ∧ 0 ≤ s ∧ s < 65536) ∧ r = (.s (.int .i64 y), [.io [.l .no bytesR cc, .s (.int .i64 a), .s (.int .i64 s)]])) (.s (.int .i64 (x % n)), [.io [.l .no bytesR cc, .s (.int .i64 (ca + 1)), .s (.int .i64 s)]]) := fun x s hx h0 hs => by
    have := Int.emod_nonneg x (show n ≠ 0 by omega)
    have := Int.emod_lt_of_pos x (show 0 < n by omega)
    exact ⟨_, _, _, ⟨⟨by omega, by omega, by omega⟩, by omega, by omega, h0, hs⟩, rfl⟩
  rw [e1, es]
  refine Dr.bif (fun c2 => ?_) (fun c2 => ?_)
  · simp only [decide_eq_true_eq] at c2
    refine Dr.must (by simp; omega) (Dr.must hn ?_)
    rw [wrap_in (n := List.getD cc (Int.toNat ca) 0) (by omega) (by omega), em _ hb1.1]
    exact Dr.leaf (fin _ _ hb1.1 h4 h5)
  · refine Dr.bif (fun c3 => ?_) (fun c3 => ?_)
    · simp only [decide_eq_true_eq] at c3
      have el : Int.tmod ca (((List.length cc) : Nat) : Int) = ca % ((cc.length : Nat) : Int) := Int.tmod_eq_emod_of_nonneg h2
      have := Int.emod_nonneg ca (show ((cc.length : Nat) : Int) ≠ 0 by omega)
      have := Int.emod_lt_of_pos ca (show (0 : Int) < ((cc.length : Nat) : Int) by omega)
      rw [el]
      refine Dr.must (by simp; intro hc; rw [hc] at c3; simp at c3) (Dr.must (by simp; omega) (Dr.must hn ?_))
      rw [Int.tdiv_eq_ediv_of_nonneg (by omega), wrap_in (n := (cs * 1103 + 12345) % 65521 / 7) (by omega) (by omega), wrap_in (n := List.getD cc (Int.toNat (ca % ((cc.length : Nat) : Int))) 0) (by omega) (by omega), wrap_in (n := (cs * 1103 + 12345) % 65521 / 7 + List.getD cc (Int.toNat (ca % ((cc.length : Nat) : Int))) 0) (by omega) (by omega), em _ (by omega)]
      exact Dr.leaf (fin _ _ (by omega) (by omega) (by omega))
    · refine Dr.must hn ?_
      rw [em 0 (by omega)]
      exact Dr.leaf (fin _ _ (by omega) (by omega) (by omega))
noncomputable def g_s_l01Cur_pick (cc : List Int) (ca : Int) (cs : Int) (n : Int) : Int × Int × Int := Classical.epsilon fun g => ((0 ≤ (g).1 ∧ (2 ≤ n → (g).1 < n) ∧ (n < 2 → (g).1 = 0)) ∧ 0 ≤ (g).2.1 ∧ (g).2.1 ≤ ca + 1 ∧ 0 ≤ (g).2.2 ∧ (g).2.2 < 65536) ∧ ∀ K : Ret → Option Ret, T_s_l01Cur_pick cc ca cs n K = K (.s (.int .i64 (g).1), [.io [.l .no bytesR cc, .s (.int .i64 (g).2.1), .s (.int .i64 (g).2.2)]])
theorem gs_s_l01Cur_pick (cc : List Int) (ca : Int) (cs : Int) (n : Int) (h : (curB 4000000000000000000 cc ca cs) = true) : ((0 ≤ (g_s_l01Cur_pick cc ca cs n).1 ∧ (2 ≤ n → (g_s_l01Cur_pick cc ca cs n).1 < n) ∧ (n < 2 → (g_s_l01Cur_pick cc ca cs n).1 = 0)) ∧ 0 ≤ (g_s_l01Cur_pick cc ca cs n).2.1 ∧ (g_s_l01Cur_pick cc ca cs n).2.1 ≤ ca + 1 ∧ 0 ≤ (g_s_l01Cur_pick cc ca cs n).2.2 ∧ (g_s_l01Cur_pick cc ca cs n).2.2 < 65536) ∧ ∀ K : Ret → Option Ret, T_s_l01Cur_pick cc ca cs n K = K (.s (.int .i64 (g_s_l01Cur_pick cc ca cs n).1), [.io [.l .no bytesR cc, .s (.int .i64 (g_s_l01Cur_pick cc ca cs n).2.1), .s (.int .i64 (g_s_l01Cur_pick cc ca cs n).2.2)]]) := by
  obtain ⟨y, a, s, hy, hk⟩ := x_s_l01Cur_pick cc ca cs n h
  exact Classical.epsilon_spec (p := fun g : Int × Int × Int => ((0 ≤ (g).1 ∧ (2 ≤ n → (g).1 < n) ∧ (n < 2 → (g).1 = 0)) ∧ 0 ≤ (g).2.1 ∧ (g).2.1 ≤ ca + 1 ∧ 0 ≤ (g).2.2 ∧ (g).2.2 < 65536) ∧ ∀ K : Ret → Option Ret, T_s_l01Cur_pick cc ca cs n K = K (.s (.int .i64 (g).1), [.io [.l .no bytesR cc, .s (.int .i64 (g).2.1), .s (.int .i64 (g).2.2)]])) ⟨⟨y, a, s⟩, hy, hk⟩
noncomputable def B_s_l01Cur_pick (cc : List Int) (ca : Int) (cs : Int) (n : Int) (k : (Int) → (Int) → (Int) → Option Ret) : Option Ret := bif curB 4000000000000000000 cc ca cs then k (g_s_l01Cur_pick cc ca cs n).1 (g_s_l01Cur_pick cc ca cs n).2.1 (g_s_l01Cur_pick cc ca cs n).2.2 else none
theorem b_s_l01Cur_pick (cc : List Int) (ca : Int) (cs : Int) (n : Int) (h : (curB 4000000000000000000 cc ca cs) = true) : ∃ (y : Int) (a : Int) (s : Int), ((0 ≤ y ∧ (2 ≤ n → y < n) ∧ (n < 2 → y = 0)) ∧ 0 ≤ a ∧ a ≤ ca + 1 ∧ 0 ≤ s ∧ s < 65536) ∧ ∀ k, B_s_l01Cur_pick cc ca cs n k = k y a s :=
  ⟨(g_s_l01Cur_pick cc ca cs n).1, (g_s_l01Cur_pick cc ca cs n).2.1, (g_s_l01Cur_pick cc ca cs n).2.2, (gs_s_l01Cur_pick cc ca cs n h).1, fun k => by unfold B_s_l01Cur_pick; rw [h]; rfl⟩
def SB_s_l01Cur_pick (B : (List Int) → (Int) → (Int) → (Int) → ((Int) → (Int) → (Int) → Option Ret) → Option Ret) : Sm := S_B [.sh (.io (.cons (.l .no bytesR) (.cons (.int .i64) (.cons (.int .i64) .nil)))), .i] (fun d K => B d.1.1 d.1.2.1 d.1.2.2.1 d.2.1 (fun y a s => K (.s (.int .i64 y), [.io [.l .no bytesR d.1.1, .s (.int .i64 a), .s (.int .i64 s)]])))
theorem okS_s_l01Cur_pick : OkFn prog I N.s_l01Cur_pick false (SB_s_l01Cur_pick B_s_l01Cur_pick) := okN (ok_fn mem0 (l := []) (p := pl_s_l01Cur_pick) (ls := []) (lend := []) (focus := false) (fuel := 0) (give := []) (fn := F.s_l01Cur_pick) (by kernel_rfl) (by kernel_rfl) (by kernel_rfl) (by kernel_rfl) (cs := []) (by kernel_rfl) loops0) (S_B_of fun d K q hq => by
  refine (e_s_l01Cur_pick d.1.1 d.1.2.1 d.1.2.2.1 d.2.1 K).trans ?_
  unfold B_s_l01Cur_pick at hq
  cases hp : (curB 4000000000000000000 d.1.1 d.1.2.1 d.1.2.2.1) with
  | false => rw [hp] at hq; cases hq
  | true =>
    rw [hp] at hq
    exact ((gs_s_l01Cur_pick d.1.1 d.1.2.1 d.1.2.2.1 d.2.1 hp).2 K).trans hq)
end Go.Ev.Seat
end
section
/- s_l01Cur_size: its contract. -/
namespace Go.Ev.Seat
open Go.RowKit
set_option maxRecDepth 100000
set_option linter.unusedVariables false
set_option linter.unusedSimpArgs false
noncomputable abbrev ls_s_l01Cur_size : List (Nat × Bool × Sm) := [(N.s_l01Cur_pick, false, (SB_s_l01Cur_pick B_s_l01Cur_pick))]
noncomputable abbrev E_s_l01Cur_size : Env := En ls_s_l01Cur_size [] [] [] false 0 []
noncomputable def T_s_l01Cur_size (cc : List Int) (ca : Int) (cs : Int) (n : Int) (K : Ret → Option Ret) : Option Ret := (B_s_l01Cur_pick cc ca cs (IntKind.wrap .i64 ((if (IntKind.wrap .i64 ((1 : Int) + (IntKind.wrap .i64 (Int.tdiv (((List.length cc) : Nat) : Int) (8 : Int))))) < n then (IntKind.wrap .i64 ((1 : Int) + (IntKind.wrap .i64 (Int.tdiv (((List.length cc) : Nat) : Int) (8 : Int))))) else n) + (1 : Int))) (fun y0 y1 y2 => K ((.s (.int .i64 y0)), [(.io [(.l .no bytesR cc), (.s (.int .i64 y1)), (.s (.int .i64 y2))])])))
theorem e_s_l01Cur_size (cc : List Int) (ca : Int) (cs : Int) (n : Int) (K : Ret → Option Ret) : evF E_s_l01Cur_size false F.s_l01Cur_size [.io [.l .no bytesR cc, .s (.int .i64 ca), .s (.int .i64 cs)], .s (.int .i64 n)] K = T_s_l01Cur_size cc ca cs n K := by kernel_rfl
theorem x_s_l01Cur_size (cc : List Int) (ca : Int) (cs : Int) (n : Int) (h : (curB 3000000000000000000 cc ca cs && (decide (0 ≤ n) && decide (n ≤ 1000000))) = true) : ∃ (y : Int) (a : Int) (s : Int), ((0 ≤ y ∧ y ≤ n ∧ y ≤ 200000) ∧ 0 ≤ a ∧ a ≤ ca + 1 ∧ 0 ≤ s ∧ s < 65536) ∧ ∀ K : Ret → Option Ret, T_s_l01Cur_size cc ca cs n K = K (.s (.int .i64 y), [.io [.l .no bytesR cc, .s (.int .i64 a), .s (.int .i64 s)]]) := by
  suffices hd : Dr (fun r : Ret => ∃ (y : Int) (a : Int) (s : Int), ((0 ≤ y ∧ y ≤ n ∧ y ≤ 200000) ∧ 0 ≤ a ∧ a ≤ ca + 1 ∧ 0 ≤ s ∧ s < 65536) ∧ r = (.s (.int .i64 y), [.io [.l .no bytesR cc, .s (.int .i64 a), .s (.int .i64 s)]])) (fun K : Ret → Option Ret => T_s_l01Cur_size cc ca cs n K) by
    obtain ⟨_, ⟨y, a, s, hp, rfl⟩, hk⟩ := hd
    exact ⟨y, a, s, hp, hk⟩
  obtain ⟨h, hpre⟩ := (Bool.and_eq_true _ _).mp h
  obtain ⟨hf, h2, h3, h4, h5⟩ := curB_iff.1 h
  have hl := fitB_len hf
  simp only [Bool.and_eq_true, decide_eq_true_eq] at hpre
  have e8 : Int.tdiv (((List.length cc) : Nat) : Int) 8 = ((cc.length : Nat) : Int) / 8 := Int.tdiv_eq_ediv_of_nonneg (by omega)
  unfold T_s_l01Cur_size
  rw [e8, wrap_in (n := ((cc.length : Nat) : Int) / 8) (by omega) (by omega), wrap_in (n := 1 + ((cc.length : Nat) : Int) / 8) (by omega) (by omega)]
  obtain ⟨m, hm, hm0, hm1, hm2⟩ : ∃ m : Int, (if 1 + ((cc.length : Nat) : Int) / 8 < n then 1 + ((cc.length : Nat) : Int) / 8 else n) = m ∧ 0 ≤ m ∧ m ≤ n ∧ m ≤ 1 + ((cc.length : Nat) : Int) / 8 := by
    by_cases q : 1 + ((cc.length : Nat) : Int) / 8 < n
    · rw [if_pos q]; exact ⟨_, rfl, by omega, by omega, by omega⟩
    · rw [if_neg q]; exact ⟨_, rfl, by omega, by omega, by omega⟩
  rw [hm, wrap_in (n := m + 1) (by omega) (by omega)]
  repeat' first
    | exact Dr.leaf ⟨_, _, _, ⟨by omega, by omega, by omega, by omega, by omega⟩, rfl⟩
    | refine Dr.b3 (b_s_l01Cur_pick _ _ _ _ (curB_iff.2 ⟨hf, by omega, by omega, by omega, by omega⟩)) (fun _ _ _ hy => ?_)
    | refine Dr.meet ?_
    | simp (disch := omega) only [wrap_in]
    | refine Dr.must (by first | rfl | (simp only [List.length_cons, List.length_nil, BEq.rfl, Bool.true_and, Bool.and_eq_true, decide_eq_true_eq]; omega)) ?_
    | refine Dr.bif (fun hb => ?_) (fun hb => ?_)
noncomputable def g_s_l01Cur_size (cc : List Int) (ca : Int) (cs : Int) (n : Int) : Int × Int × Int := Classical.epsilon fun g => ((0 ≤ (g).1 ∧ (g).1 ≤ n ∧ (g).1 ≤ 200000) ∧ 0 ≤ (g).2.1 ∧ (g).2.1 ≤ ca + 1 ∧ 0 ≤ (g).2.2 ∧ (g).2.2 < 65536) ∧ ∀ K : Ret → Option Ret, T_s_l01Cur_size cc ca cs n K = K (.s (.int .i64 (g).1), [.io [.l .no bytesR cc, .s (.int .i64 (g).2.1), .s (.int .i64 (g).2.2)]])
theorem gs_s_l01Cur_size (cc : List Int) (ca : Int) (cs : Int) (n : Int) (h : (curB 3000000000000000000 cc ca cs && (decide (0 ≤ n) && decide (n ≤ 1000000))) = true) : ((0 ≤ (g_s_l01Cur_size cc ca cs n).1 ∧ (g_s_l01Cur_size cc ca cs n).1 ≤ n ∧ (g_s_l01Cur_size cc ca cs n).1 ≤ 200000) ∧ 0 ≤ (g_s_l01Cur_size cc ca cs n).2.1 ∧ (g_s_l01Cur_size cc ca cs n).2.1 ≤ ca + 1 ∧ 0 ≤ (g_s_l01Cur_size cc ca cs n).2.2 ∧ (g_s_l01Cur_size cc ca cs n).2.2 < 65536) ∧ ∀ K : Ret → Option Ret, T_s_l01Cur_size cc ca cs n K = K (.s (.int .i64 (g_s_l01Cur_size cc ca cs n).1), [.io [.l .no bytesR cc, .s (.int .i64 (g_s_l01Cur_size cc ca cs n).2.1), .s (.int .i64 (g_s_l01Cur_size cc ca cs n).2.2)]]) := by
  obtain ⟨y, a, s, hy, hk⟩ := x_s_l01Cur_size cc ca cs n h
  exact Classical.epsilon_spec (p := fun g : Int × Int × Int => ((0 ≤ (g).1 ∧ (g).1 ≤ n ∧ (g).1 ≤ 200000) ∧ 0 ≤ (g).2.1 ∧ (g).2.1 ≤ ca + 1 ∧ 0 ≤ (g).2.2 ∧ (g).2.2 < 65536) ∧ ∀ K : Ret → Option Ret, T_s_l01Cur_size cc ca cs n K = K (.s (.int .i64 (g).1), [.io [.l .no bytesR cc, .s (.int .i64 (g).2.1), .s (.int .i64 (g).2.2)]])) ⟨⟨y, a, s⟩, hy, hk⟩
noncomputable def B_s_l01Cur_size (cc : List Int) (ca : Int) (cs : Int) (n : Int) (k : (Int) → (Int) → (Int) → Option Ret) : Option Ret := bif curB 3000000000000000000 cc ca cs && (decide (0 ≤ n) && decide (n ≤ 1000000)) then k (g_s_l01Cur_size cc ca cs n).1 (g_s_l01Cur_size cc ca cs n).2.1 (g_s_l01Cur_size cc ca cs n).2.2 else none
theorem b_s_l01Cur_size (cc : List Int) (ca : Int) (cs : Int) (n : Int) (h : (curB 3000000000000000000 cc ca cs && (decide (0 ≤ n) && decide (n ≤ 1000000))) = true) : ∃ (y : Int) (a : Int) (s : Int), ((0 ≤ y ∧ y ≤ n ∧ y ≤ 200000) ∧ 0 ≤ a ∧ a ≤ ca + 1 ∧ 0 ≤ s ∧ s < 65536) ∧ ∀ k, B_s_l01Cur_size cc ca cs n k = k y a s :=
  ⟨(g_s_l01Cur_size cc ca cs n).1, (g_s_l01Cur_size cc ca cs n).2.1, (g_s_l01Cur_size cc ca cs n).2.2, (gs_s_l01Cur_size cc ca cs n h).1, fun k => by unfold B_s_l01Cur_size; rw [h]; rfl⟩
def SB_s_l01Cur_size (B : (List Int) → (Int) → (Int) → (Int) → ((Int) → (Int) → (Int) → Option Ret) → Option Ret) : Sm := S_B [.sh (.io (.cons (.l .no bytesR) (.cons (.int .i64) (.cons (.int .i64) .nil)))), .i] (fun d K => B d.1.1 d.1.2.1 d.1.2.2.1 d.2.1 (fun y a s => K (.s (.int .i64 y), [.io [.l .no bytesR d.1.1, .s (.int .i64 a), .s (.int .i64 s)]])))
theorem okS_s_l01Cur_size : OkFn prog I N.s_l01Cur_size false (SB_s_l01Cur_size B_s_l01Cur_size) := okN (ok_fn (memc okS_s_l01Cur_pick mem0) (l := ls_s_l01Cur_size) (p := []) (ls := []) (lend := []) (focus := false) (fuel := 0) (give := []) (fn := F.s_l01Cur_size) (by kernel_rfl) (by kernel_rfl) (by kernel_rfl) (by kernel_rfl) (cs := []) (by kernel_rfl) loops0) (S_B_of fun d K q hq => by
  refine (e_s_l01Cur_size d.1.1 d.1.2.1 d.1.2.2.1 d.2.1 K).trans ?_
  unfold B_s_l01Cur_size at hq
  cases hp : (curB 3000000000000000000 d.1.1 d.1.2.1 d.1.2.2.1 && (decide (0 ≤ d.2.1) && decide (d.2.1 ≤ 1000000))) with
  | false => rw [hp] at hq; cases hq
  | true =>
    rw [hp] at hq
    exact ((gs_s_l01Cur_size d.1.1 d.1.2.1 d.1.2.2.1 d.2.1 hp).2 K).trans hq)
end Go.Ev.Seat
end
section
/- s_l01Cur_rune: its contract. -/
namespace Go.Ev.Seat
open Go.RowKit
set_option maxRecDepth 100000
set_option linter.unusedVariables false
set_option linter.unusedSimpArgs false
noncomputable abbrev ls_s_l01Cur_rune : List (Nat × Bool × Sm) := [(N.s_l01Cur_pick, false, (SB_s_l01Cur_pick B_s_l01Cur_pick))]
noncomputable abbrev E_s_l01Cur_rune : Env := En ls_s_l01Cur_rune [] [] [] false 0 []
noncomputable def T_s_l01Cur_rune (cc : List Int) (ca : Int) (cs : Int) (K : Ret → Option Ret) : Option Ret := (B_s_l01Cur_pick cc ca cs (3 : Int) (fun y0 y1 y2 => (B_s_l01Cur_pick cc y1 y2 (3 : Int) (fun y3 y4 y5 => (B_s_l01Cur_pick cc y4 y5 (14 : Int) (fun y6 y7 y8 => (bif ((decide ((0 : Int) ≤ y6)) && (decide (y6 < (((List.length ((IntKind.wrap .i64 ((97 : Int) + y0)) :: ((IntKind.wrap .i64 ((97 : Int) + y3)) :: ((10 : Int) :: ((32 : Int) :: ((233 : Int) :: ((8364 : Int) :: ((128578 : Int) :: ((127 : Int) :: ((128 : Int) :: ((2047 : Int) :: ((2048 : Int) :: ((65535 : Int) :: ((65536 : Int) :: ((0 : Int) :: ([] : List Int)))))))))))))))) : Nat) : Int)))) then K ((.s (.int .i64 (List.getD ((IntKind.wrap .i64 ((97 : Int) + y0)) :: ((IntKind.wrap .i64 ((97 : Int) + y3)) :: ((10 : Int) :: ((32 : Int) :: ((233 : Int) :: ((8364 : Int) :: ((128578 : Int) :: ((127 : Int) :: ((128 : Int) :: ((2047 : Int) :: ((2048 : Int) :: ((65535 : Int) :: ((65536 : Int) :: ((0 : Int) :: ([] : List Int))))))))))))))) (Int.toNat y6) (0 : Int)))), [(.io [(.l .no bytesR cc), (.s (.int .i64 y7)), (.s (.int .i64 y8))])]) else none)))))))
theorem e_s_l01Cur_rune (cc : List Int) (ca : Int) (cs : Int) (K : Ret → Option Ret) : evF E_s_l01Cur_rune false F.s_l01Cur_rune [.io [.l .no bytesR cc, .s (.int .i64 ca), .s (.int .i64 cs)]] K = T_s_l01Cur_rune cc ca cs K := by kernel_rfl
theorem x_s_l01Cur_rune (cc : List Int) (ca : Int) (cs : Int) (h : (curB 3000000000000000000 cc ca cs) = true) : ∃ (y : Int) (a : Int) (s : Int), (0 ≤ a ∧ a ≤ ca + 3 ∧ 0 ≤ s ∧ s < 65536) ∧ ∀ K : Ret → Option Ret, T_s_l01Cur_rune cc ca cs K = K (.s (.int .i64 y), [.io [.l .no bytesR cc, .s (.int .i64 a), .s (.int .i64 s)]]) := by
  suffices hd : Dr (fun r : Ret => ∃ (y : Int) (a : Int) (s : Int), (0 ≤ a ∧ a ≤ ca + 3 ∧ 0 ≤ s ∧ s < 65536) ∧ r = (.s (.int .i64 y), [.io [.l .no bytesR cc, .s (.int .i64 a), .s (.int .i64 s)]])) (fun K : Ret → Option Ret => T_s_l01Cur_rune cc ca cs K) by
    obtain ⟨_, ⟨y, a, s, hp, rfl⟩, hk⟩ := hd
    exact ⟨y, a, s, hp, hk⟩
  obtain ⟨hf, h2, h3, h4, h5⟩ := curB_iff.1 h
  have hl := fitB_len hf
  unfold T_s_l01Cur_rune
  repeat' first
    | exact Dr.leaf ⟨_, _, _, ⟨by omega, by omega, by omega, by omega⟩, rfl⟩
    | refine Dr.b3 (b_s_l01Cur_pick _ _ _ _ (curB_iff.2 ⟨hf, by omega, by omega, by omega, by omega⟩)) (fun _ _ _ hy => ?_)
    | refine Dr.meet ?_
    | simp (disch := omega) only [wrap_in]
    | refine Dr.must (by first | rfl | (simp only [List.length_cons, List.length_nil, BEq.rfl, Bool.true_and, Bool.and_eq_true, decide_eq_true_eq]; omega)) ?_
    | refine Dr.bif (fun hb => ?_) (fun hb => ?_)
noncomputable def g_s_l01Cur_rune (cc : List Int) (ca : Int) (cs : Int) : Int × Int × Int := Classical.epsilon fun g => (0 ≤ (g).2.1 ∧ (g).2.1 ≤ ca + 3 ∧ 0 ≤ (g).2.2 ∧ (g).2.2 < 65536) ∧ ∀ K : Ret → Option Ret, T_s_l01Cur_rune cc ca cs K = K (.s (.int .i64 (g).1), [.io [.l .no bytesR cc, .s (.int .i64 (g).2.1), .s (.int .i64 (g).2.2)]])
theorem gs_s_l01Cur_rune (cc : List Int) (ca : Int) (cs : Int) (h : (curB 3000000000000000000 cc ca cs) = true) : (0 ≤ (g_s_l01Cur_rune cc ca cs).2.1 ∧ (g_s_l01Cur_rune cc ca cs).2.1 ≤ ca + 3 ∧ 0 ≤ (g_s_l01Cur_rune cc ca cs).2.2 ∧ (g_s_l01Cur_rune cc ca cs).2.2 < 65536) ∧ ∀ K : Ret → Option Ret, T_s_l01Cur_rune cc ca cs K = K (.s (.int .i64 (g_s_l01Cur_rune cc ca cs).1), [.io [.l .no bytesR cc, .s (.int .i64 (g_s_l01Cur_rune cc ca cs).2.1), .s (.int .i64 (g_s_l01Cur_rune cc ca cs).2.2)]]) := by
  obtain ⟨y, a, s, hy, hk⟩ := x_s_l01Cur_rune cc ca cs h
  exact Classical.epsilon_spec (p := fun g : Int × Int × Int => (0 ≤ (g).2.1 ∧ (g).2.1 ≤ ca + 3 ∧ 0 ≤ (g).2.2 ∧ (g).2.2 < 65536) ∧ ∀ K : Ret → Option Ret, T_s_l01Cur_rune cc ca cs K = K (.s (.int .i64 (g).1), [.io [.l .no bytesR cc, .s (.int .i64 (g).2.1), .s (.int .i64 (g).2.2)]])) ⟨⟨y, a, s⟩, hy, hk⟩
noncomputable def B_s_l01Cur_rune (cc : List Int) (ca : Int) (cs : Int) (k : (Int) → (Int) → (Int) → Option Ret) : Option Ret := bif curB 3000000000000000000 cc ca cs then k (g_s_l01Cur_rune cc ca cs).1 (g_s_l01Cur_rune cc ca cs).2.1 (g_s_l01Cur_rune cc ca cs).2.2 else none
theorem b_s_l01Cur_rune (cc : List Int) (ca : Int) (cs : Int) (h : (curB 3000000000000000000 cc ca cs) = true) : ∃ (y : Int) (a : Int) (s : Int), (0 ≤ a ∧ a ≤ ca + 3 ∧ 0 ≤ s ∧ s < 65536) ∧ ∀ k, B_s_l01Cur_rune cc ca cs k = k y a s :=
  ⟨(g_s_l01Cur_rune cc ca cs).1, (g_s_l01Cur_rune cc ca cs).2.1, (g_s_l01Cur_rune cc ca cs).2.2, (gs_s_l01Cur_rune cc ca cs h).1, fun k => by unfold B_s_l01Cur_rune; rw [h]; rfl⟩
def SB_s_l01Cur_rune (B : (List Int) → (Int) → (Int) → ((Int) → (Int) → (Int) → Option Ret) → Option Ret) : Sm := S_B [.sh (.io (.cons (.l .no bytesR) (.cons (.int .i64) (.cons (.int .i64) .nil))))] (fun d K => B d.1.1 d.1.2.1 d.1.2.2.1 (fun y a s => K (.s (.int .i64 y), [.io [.l .no bytesR d.1.1, .s (.int .i64 a), .s (.int .i64 s)]])))
theorem okS_s_l01Cur_rune : OkFn prog I N.s_l01Cur_rune false (SB_s_l01Cur_rune B_s_l01Cur_rune) := okN (ok_fn (memc okS_s_l01Cur_pick mem0) (l := ls_s_l01Cur_rune) (p := []) (ls := []) (lend := []) (focus := false) (fuel := 0) (give := []) (fn := F.s_l01Cur_rune) (by kernel_rfl) (by kernel_rfl) (by kernel_rfl) (by kernel_rfl) (cs := []) (by kernel_rfl) loops0) (S_B_of fun d K q hq => by
  refine (e_s_l01Cur_rune d.1.1 d.1.2.1 d.1.2.2.1 K).trans ?_
  unfold B_s_l01Cur_rune at hq
  cases hp : (curB 3000000000000000000 d.1.1 d.1.2.1 d.1.2.2.1) with
  | false => rw [hp] at hq; cases hq
  | true =>
    rw [hp] at hq
    exact ((gs_s_l01Cur_rune d.1.1 d.1.2.1 d.1.2.2.1 hp).2 K).trans hq)
end Go.Ev.Seat
end
section
/- s_RuneBytes: its contract. -/
namespace Go.Ev.Seat
open Go.RowKit
set_option maxRecDepth 100000
set_option linter.unusedVariables false
set_option linter.unusedSimpArgs false
noncomputable abbrev E_s_RuneBytes : Env := En [] [] [] [] false 0 []
noncomputable def T_s_RuneBytes (r : Int) (K : Ret → Option Ret) : Option Ret := (bif (decide (r < (0 : Int))) then K ((.l .deep bytesR ([] : List Int)), []) else (bif (decide (r > (1114111 : Int))) then K ((.l .deep bytesR ([] : List Int)), []) else (bif (decide (r ≥ (55296 : Int))) then (bif (decide (r ≤ (57343 : Int))) then K ((.l .deep bytesR ([] : List Int)), []) else (bif (decide (r < (128 : Int))) then K ((.l .deep bytesR ((IntKind.wrap .u8 r) :: ([] : List Int))), []) else (bif (decide (r < (2048 : Int))) then K ((.l .deep bytesR ((IntKind.wrap .u8 (IntKind.wrap .i64 ((192 : Int) + (IntKind.wrap .i64 (Int.tdiv r (64 : Int)))))) :: ((IntKind.wrap .u8 (IntKind.wrap .i64 ((128 : Int) + (Int.tmod r (64 : Int))))) :: ([] : List Int)))), []) else (bif (decide (r < (65536 : Int))) then K ((.l .deep bytesR ((IntKind.wrap .u8 (IntKind.wrap .i64 ((224 : Int) + (IntKind.wrap .i64 (Int.tdiv r (4096 : Int)))))) :: ((IntKind.wrap .u8 (IntKind.wrap .i64 ((128 : Int) + (Int.tmod (IntKind.wrap .i64 (Int.tdiv r (64 : Int))) (64 : Int))))) :: ((IntKind.wrap .u8 (IntKind.wrap .i64 ((128 : Int) + (Int.tmod r (64 : Int))))) :: ([] : List Int))))), []) else K ((.l .deep bytesR ((IntKind.wrap .u8 (IntKind.wrap .i64 ((240 : Int) + (IntKind.wrap .i64 (Int.tdiv r (262144 : Int)))))) :: ((IntKind.wrap .u8 (IntKind.wrap .i64 ((128 : Int) + (Int.tmod (IntKind.wrap .i64 (Int.tdiv r (4096 : Int))) (64 : Int))))) :: ((IntKind.wrap .u8 (IntKind.wrap .i64 ((128 : Int) + (Int.tmod (IntKind.wrap .i64 (Int.tdiv r (64 : Int))) (64 : Int))))) :: ((IntKind.wrap .u8 (IntKind.wrap .i64 ((128 : Int) + (Int.tmod r (64 : Int))))) :: ([] : List Int)))))), []))))) else (bif (decide (r < (128 : Int))) then K ((.l .deep bytesR ((IntKind.wrap .u8 r) :: ([] : List Int))), []) else (bif (decide (r < (2048 : Int))) then K ((.l .deep bytesR ((IntKind.wrap .u8 (IntKind.wrap .i64 ((192 : Int) + (IntKind.wrap .i64 (Int.tdiv r (64 : Int)))))) :: ((IntKind.wrap .u8 (IntKind.wrap .i64 ((128 : Int) + (Int.tmod r (64 : Int))))) :: ([] : List Int)))), []) else (bif (decide (r < (65536 : Int))) then K ((.l .deep bytesR ((IntKind.wrap .u8 (IntKind.wrap .i64 ((224 : Int) + (IntKind.wrap .i64 (Int.tdiv r (4096 : Int)))))) :: ((IntKind.wrap .u8 (IntKind.wrap .i64 ((128 : Int) + (Int.tmod (IntKind.wrap .i64 (Int.tdiv r (64 : Int))) (64 : Int))))) :: ((IntKind.wrap .u8 (IntKind.wrap .i64 ((128 : Int) + (Int.tmod r (64 : Int))))) :: ([] : List Int))))), []) else K ((.l .deep bytesR ((IntKind.wrap .u8 (IntKind.wrap .i64 ((240 : Int) + (IntKind.wrap .i64 (Int.tdiv r (262144 : Int)))))) :: ((IntKind.wrap .u8 (IntKind.wrap .i64 ((128 : Int) + (Int.tmod (IntKind.wrap .i64 (Int.tdiv r (4096 : Int))) (64 : Int))))) :: ((IntKind.wrap .u8 (IntKind.wrap .i64 ((128 : Int) + (Int.tmod (IntKind.wrap .i64 (Int.tdiv r (64 : Int))) (64 : Int))))) :: ((IntKind.wrap .u8 (IntKind.wrap .i64 ((128 : Int) + (Int.tmod r (64 : Int))))) :: ([] : List Int)))))), [])))))))
theorem e_s_RuneBytes (r : Int) (K : Ret → Option Ret) : evF E_s_RuneBytes true F.s_RuneBytes [.s (.int .i64 r)] K = T_s_RuneBytes r K := by kernel_rfl
def S_s_RuneBytes : Sm := S_fnR [.i] (fun d => true) (fun d => (.l .deep bytesR (encD d.1), []))
theorem v_s_RuneBytes (r : Int) (K : Ret → Option Ret) : T_s_RuneBytes r K = K (.l .deep bytesR (encD r), []) := by
  unfold T_s_RuneBytes encD
  by_cases h1 : r < 0
  · rw [decide_eq_true h1, if_pos (by omega)]; rfl
  by_cases h2 : r > 1114111
  · rw [decide_eq_false h1, decide_eq_true h2, if_pos (by omega)]; rfl
  rw [decide_eq_false h1, decide_eq_false h2]
  have key : (bif (decide (r < (128 : Int))) then K ((.l .deep bytesR ((IntKind.wrap .u8 r) :: [])), []) else (bif (decide (r < (2048 : Int))) then
     K ((.l .deep bytesR ((IntKind.wrap .u8 (IntKind.wrap .i64 ((192 : Int) + (IntKind.wrap .i64 (Int.tdiv r (64 : Int)))))) :: ((IntKind.wrap .u8 (IntKind.wrap .i64 ((128 : Int) + (Int.tmod r (64 : Int))))) :: []))), [])
     else (bif (decide (r < (65536 : Int))) then
      K ((.l .deep bytesR ((IntKind.wrap .u8 (IntKind.wrap .i64 ((224 : Int) + (IntKind.wrap .i64 (Int.tdiv r (4096 : Int)))))) :: ((IntKind.wrap .u8 (IntKind.wrap .i64 ((128 : Int) + (Int.tmod (IntKind.wrap .i64 (Int.tdiv r (64 : Int))) (64 : Int))))) :: ((IntKind.wrap .u8 (IntKind.wrap .i64 ((128 : Int) + (Int.tmod r (64 : Int))))) :: [])))), [])
      else K ((.l .deep bytesR ((IntKind.wrap .u8 (IntKind.wrap .i64 ((240 : Int) + (IntKind.wrap .i64 (Int.tdiv r (262144 : Int)))))) :: ((IntKind.wrap .u8 (IntKind.wrap .i64 ((128 : Int) + (Int.tmod (IntKind.wrap .i64 (Int.tdiv r (4096 : Int))) (64 : Int))))) :: ((IntKind.wrap .u8 (IntKind.wrap .i64 ((128 : Int) + (Int.tmod (IntKind.wrap .i64 (Int.tdiv r (64 : Int))) (64 : Int))))) :: ((IntKind.wrap .u8 (IntKind.wrap .i64 ((128 : Int) + (Int.tmod r (64 : Int))))) :: []))))), [])))) = K (.l .deep bytesR (if r < 128 then [r] else if r < 2048 then [192 + r / 64, 128 + r % 64] else if r < 65536 then [224 + r / 4096, 128 + r / 64 % 64, 128 + r % 64] else [240 + r / 262144, 128 + r / 4096 % 64, 128 + r / 64 % 64, 128 + r % 64]), []) := by
    rw [Int.tdiv_eq_ediv_of_nonneg (by omega), Int.tdiv_eq_ediv_of_nonneg (by omega), Int.tdiv_eq_ediv_of_nonneg (by omega), Int.tmod_eq_emod_of_nonneg (by omega)]
    by_cases c1 : r < 128
    · rw [decide_eq_true c1, if_pos c1, wrap8 (by omega) (by omega)]; rfl
    rw [decide_eq_false c1, if_neg c1]
    by_cases c2 : r < 2048
    · rw [decide_eq_true c2, if_pos c2]
      simp (disch := omega) only [wrap_in, wrap8, cond_true, cond_false]
    rw [decide_eq_false c2, if_neg c2]
    by_cases c3 : r < 65536
    · rw [decide_eq_true c3, if_pos c3]
      simp (disch := omega) only [wrap_in, wrap8, Int.tmod_eq_emod_of_nonneg, cond_true, cond_false]
    · rw [decide_eq_false c3, if_neg c3]
      simp (disch := omega) only [wrap_in, wrap8, Int.tmod_eq_emod_of_nonneg, cond_true, cond_false]
  by_cases h3 : r ≥ 55296
  · by_cases h4 : r ≤ 57343
    · rw [decide_eq_true h3, decide_eq_true h4, if_pos (by omega)]; rfl
    · rw [decide_eq_true h3, decide_eq_false h4, if_neg (by omega)]; exact key
  · rw [decide_eq_false h3, if_neg (by omega)]; exact key
theorem okS_s_RuneBytes : OkFn prog I N.s_RuneBytes true S_s_RuneBytes := okN (ok_fn mem0 (l := []) (p := []) (ls := []) (lend := []) (focus := false) (fuel := 0) (give := []) (fn := F.s_RuneBytes) (by kernel_rfl) (by kernel_rfl) (by kernel_rfl) (by kernel_rfl) (cs := []) (by kernel_rfl) loops0) (S_fnR_of fun d K h => (e_s_RuneBytes d.1 K).trans (v_s_RuneBytes d.1 K))
end Go.Ev.Seat
end
section
/- s_l01Cur_text: its contract. -/
namespace Go.Ev.Seat
open Go.RowKit
set_option maxRecDepth 100000
set_option linter.unusedVariables false
set_option linter.unusedSimpArgs false
def z_s_l01Cur_text_3_0 (x1 : Int) (o0 : List Int) (b10 : List Int) (b11 : Int) (b12 : Int) : St := { tm := ([.x, (.s (.int .i64 x1)), .x, .x, .x, (.w 0)] ++ List.replicate 21 .x), ob := [(0, (.arr true true bytesR o0)), (1, (.box [(.l .no bytesR b10), (.s (.int .i64 b11)), (.s (.int .i64 b12))]))], nx := 2, io := [(.pb 1 0)] }
def sh_s_l01Cur_text_3_0 : Ss := { tm := (.cons (.pb 0 0) (.cons (.int .i64) (.cons (.x) (.cons (.x) (.cons (.x) (.cons (.w 1) (.cons (.int .i64) (xsh 20)))))))), ob := (.box (.cons (.l .no bytesR) (.cons (.int .i64) (.cons (.int .i64) .nil))) (.arr true true bytesR .nil)), nx := 2, io := (.cons (.pb 0 0) .nil) }
def d_s_l01Cur_text_3_0 (x1 : Int) (x6 : Int) (b00 : List Int) (b01 : Int) (b02 : Int) (o1 : List Int) : sh_s_l01Cur_text_3_0.T := (((), (x1, ((), ((), ((), ((), (x6, xd 20))))))), ((b00, (b01, (b02, ()))), (o1, ())), ((), ()))
def s_s_l01Cur_text_3_0 (x1 : Int) (x6 : Int) (b00 : List Int) (b01 : Int) (b02 : Int) (o1 : List Int) : St := { tm := ([(.pb 0 0), (.s (.int .i64 x1)), .x, .x, .x, (.w 1), (.s (.int .i64 x6))] ++ List.replicate 20 .x), ob := [(0, (.box [(.l .no bytesR b00), (.s (.int .i64 b01)), (.s (.int .i64 b02))])), (1, (.arr true true bytesR o1))], nx := 2, io := [(.pb 0 0)] }
theorem se_s_l01Cur_text_3_0 (x1 : Int) (x6 : Int) (b00 : List Int) (b01 : Int) (b02 : Int) (o1 : List Int) : sh_s_l01Cur_text_3_0.mk' (d_s_l01Cur_text_3_0 x1 x6 b00 b01 b02 o1) = (s_s_l01Cur_text_3_0 x1 x6 b00 b01 b02 o1) := by kernel_rfl
def w_s_l01Cur_text_3_0 (d : sh_s_l01Cur_text_3_0.T) (f : Int → Int → (List Int) → Int → Int → (List Int) → Option Ret) : Option Ret := match d with | ((_, (x1, (_, (_, (_, (_, (x6, _))))))), ((b00, (b01, (b02, _))), (o1, _)), (_, _)) => f x1 x6 b00 b01 b02 o1
noncomputable def P_s_l01Cur_text_3_0 (x1 : Int) (x6 : Int) (b00 : List Int) (b01 : Int) (b02 : Int) (o1 : List Int) (nx0 : Int → Int → (List Int) → Int → Int → (List Int) → Option Ret) (k0 : Int → (List Int) → (List Int) → Int → Int → Option Ret) : Option Ret := (bif (decide (x6 > (0 : Int))) then (B_s_l01Cur_rune b00 b01 b02 (fun y0 y1 y2 => (bif (Nat.ble (((List.length o1) + (List.length (encD y0))) * 1) 140737488355328) then (nx0 x1 (IntKind.wrap .i64 (x6 - (1 : Int))) b00 y1 y2 (o1 ++ (encD y0))) else none))) else (k0 x1 o1 b00 b01 b02))
noncomputable def Q_s_l01Cur_text_3_0 : Nat → Int → Int → (List Int) → Int → Int → (List Int) → (Int → (List Int) → (List Int) → Int → Int → Option Ret) → Option Ret
  | 0, _, _, _, _, _, _, _ => none
  | m + 1, x1, x6, b00, b01, b02, o1, k0 => P_s_l01Cur_text_3_0 x1 x6 b00 b01 b02 o1 (fun x1 x6 b00 b01 b02 o1 => (Q_s_l01Cur_text_3_0 m x1 x6 b00 b01 b02 o1 k0)) k0
noncomputable def R_s_l01Cur_text_3_0 (x1 : Int) (x6 : Int) (b00 : List Int) (b01 : Int) (b02 : Int) (o1 : List Int) (k0 : Int → (List Int) → (List Int) → Int → Int → Option Ret) : Option Ret := Q_s_l01Cur_text_3_0 (x1.toNat + x6.toNat + List.length b00 + b01.toNat + b02.toNat + List.length o1 + 2) x1 x6 b00 b01 b02 o1 k0
noncomputable def W_s_l01Cur_text_3 : LoopFn := (fun (σ : St) (K : Ex → St → Option Ret) => (match sh_s_l01Cur_text_3_0.un σ with | some d => w_s_l01Cur_text_3_0 d (fun x1 x6 b00 b01 b02 o1 => R_s_l01Cur_text_3_0 x1 x6 b00 b01 b02 o1 (fun x1 o0 b10 b11 b12 => (K (.ext 0) (z_s_l01Cur_text_3_0 x1 o0 b10 b11 b12)))) | none => none))
noncomputable abbrev ls_s_l01Cur_text : List (Nat × Bool × Sm) := [(N.s_l01Cur_size, false, (SB_s_l01Cur_size B_s_l01Cur_size)), (N.s_l01Cur_rune, false, (SB_s_l01Cur_rune B_s_l01Cur_rune)), (N.s_RuneBytes, true, S_s_RuneBytes)]
noncomputable abbrev E_s_l01Cur_text : Env := En ls_s_l01Cur_text [] [(3, [0,1,5,6], [1,4,5], W_s_l01Cur_text_3)] [] false 0 []
noncomputable abbrev U_s_l01Cur_text_3 := rounds (run E_s_l01Cur_text (bodyOf F.s_l01Cur_text 3)) [0,1,5,6] [1,4,5]
theorem st_s_l01Cur_text_3_0 (m : Nat) (x1 : Int) (x6 : Int) (b00 : List Int) (b01 : Int) (b02 : Int) (o1 : List Int) (K : Ex → St → Option Ret) : U_s_l01Cur_text_3 (m + 1) (s_s_l01Cur_text_3_0 x1 x6 b00 b01 b02 o1) K = P_s_l01Cur_text_3_0 x1 x6 b00 b01 b02 o1 (fun x1 x6 b00 b01 b02 o1 => (U_s_l01Cur_text_3 m (s_s_l01Cur_text_3_0 x1 x6 b00 b01 b02 o1) K)) (fun x1 o0 b10 b11 b12 => (K (.ext 0) (z_s_l01Cur_text_3_0 x1 o0 b10 b11 b12))) := by kernel_rfl
theorem q_s_l01Cur_text_3 (K : Ex → St → Option Ret) : ∀ m : Nat, (∀ (x1 : Int) (x6 : Int) (b00 : List Int) (b01 : Int) (b02 : Int) (o1 : List Int), U_s_l01Cur_text_3 m (s_s_l01Cur_text_3_0 x1 x6 b00 b01 b02 o1) K = Q_s_l01Cur_text_3_0 m x1 x6 b00 b01 b02 o1 (fun x1 o0 b10 b11 b12 => (K (.ext 0) (z_s_l01Cur_text_3_0 x1 o0 b10 b11 b12))))
  | 0 => (fun _ _ _ _ _ _ => rfl)
  | m + 1 => (fun x1 x6 b00 b01 b02 o1 => (by rw [st_s_l01Cur_text_3_0, show (fun x1 x6 b00 b01 b02 o1 => (U_s_l01Cur_text_3 m (s_s_l01Cur_text_3_0 x1 x6 b00 b01 b02 o1) K)) = (fun x1 x6 b00 b01 b02 o1 => (Q_s_l01Cur_text_3_0 m x1 x6 b00 b01 b02 o1 (fun x1 o0 b10 b11 b12 => (K (.ext 0) (z_s_l01Cur_text_3_0 x1 o0 b10 b11 b12))))) from funext fun x1 => funext fun x6 => funext fun b00 => funext fun b01 => funext fun b02 => funext fun o1 => (q_s_l01Cur_text_3 K m) x1 x6 b00 b01 b02 o1]; rfl))
theorem loopK_s_l01Cur_text_3 : LoopOk E_s_l01Cur_text (bodyOf F.s_l01Cur_text 3) := by
  refine loopW_ok (n := 3) (F := W_s_l01Cur_text_3) (by kernel_rfl) rfl (li := [0,1,5,6]) (lo := [1,4,5]) rfl (fun σ K r hr => ?_)
  unfold W_s_l01Cur_text_3 at hr
  split at hr
  · rename_i d hd
    rw [Ss.un_mk hd]
    exact ⟨_, ((congrArg (fun z => U_s_l01Cur_text_3 _ z K) (se_s_l01Cur_text_3_0 _ _ _ _ _ _)).trans ((q_s_l01Cur_text_3 K _) _ _ _ _ _ _)).trans hr⟩
  · cases hr
noncomputable def T_s_l01Cur_text (cc : List Int) (ca : Int) (cs : Int) (n : Int) (K : Ret → Option Ret) : Option Ret := (B_s_l01Cur_size cc ca cs n (fun y3 y4 y5 => (R_s_l01Cur_text_3_0 n y3 cc y4 y5 ([] : List Int) (fun y6 y7 y8 y9 y10 => (bif (decide ((((List.length y7) : Nat) : Int) > y6)) then K ((.l .deep bytesR ([] : List Int)), [(.io [(.l .no bytesR y8), (.s (.int .i64 y9)), (.s (.int .i64 y10))])]) else K ((.l .deep bytesR y7), [(.io [(.l .no bytesR y8), (.s (.int .i64 y9)), (.s (.int .i64 y10))])]))))))
theorem e_s_l01Cur_text (cc : List Int) (ca : Int) (cs : Int) (n : Int) (K : Ret → Option Ret) : evF E_s_l01Cur_text false F.s_l01Cur_text [.io [.l .no bytesR cc, .s (.int .i64 ca), .s (.int .i64 cs)], .s (.int .i64 n)] K = T_s_l01Cur_text cc ca cs n K := by kernel_rfl
theorem text_loop {P : Ret → Prop} {n : Int} {cc : List Int} (hf : fitB cc = true) {F : Int → List Int → List Int → Int → Int → (Ret → Option Ret) → Option Ret} : ∀ (m k : Nat) (ca cs : Int) (o : List Int), k < m → 0 ≤ ca → ca + 3 * k ≤ 2500000000000000000 → 0 ≤ cs → cs < 65536 → byteL o → o.length + 4 * k ≤ 100000 →
    (∀ (a s : Int) (o' : List Int), 0 ≤ a → a ≤ ca + 3 * k → 0 ≤ s → s < 65536 → byteL o' → o'.length ≤ o.length + 4 * k → Dr P (F n o' cc a s)) → Dr P (fun K => Q_s_l01Cur_text_3_0 m n (k : Int) cc ca cs o (fun a b c d e => F a b c d e K))
  | 0, k, ca, cs, o, h, _, _, _, _, _, _, _ => absurd h (by omega)
  | m + 1, k, ca, cs, o, h, h0, h1, h2, h3, hb, hl, hF => by
    show Dr P (fun K => P_s_l01Cur_text_3_0 n (k : Int) cc ca cs o _ _)
    unfold P_s_l01Cur_text_3_0
    cases k with
    | zero =>
      refine Dr.bif (fun hc => ?_) (fun _ => hF ca cs o h0 (by omega) h2 h3 hb (by omega))
      simp at hc
    | succ k =>
      refine Dr.must (decide_eq_true (by omega)) ?_
      refine Dr.b3 (b_s_l01Cur_rune _ _ _ (curB_iff.2 ⟨hf, by omega, by omega, by omega, by omega⟩)) (fun y a s hy => ?_)
      have hle := encD_len4 y
      refine Dr.must (Nat.ble_eq_true_of_le (by omega)) ?_
      rw [show IntKind.wrap .i64 (((k + 1 : Nat) : Int) - 1) = (k : Int) by rw [wrap_in (by omega) (by omega)]; omega]
      refine text_loop hf m k a s (o ++ encD y) (by omega) (by omega) (by omega) (by omega) (by omega) (byteL_app hb (encD_byte y)) (by rw [List.length_append]; omega) (fun a' s' o' q1 q2 q3 q4 q5 q6 => hF a' s' o' q1 (by omega) q3 q4 q5 ?_)
      rw [List.length_append] at q6
      omega
theorem x_s_l01Cur_text (cc : List Int) (ca : Int) (cs : Int) (n : Int) (h : (curB 2000000000000000000 cc ca cs && (decide (0 ≤ n) && decide (n ≤ 1000))) = true) : ∃ (y : List Int) (a : Int) (s : Int), ((fitB y = true ∧ ((y.length : Nat) : Int) ≤ n) ∧ 0 ≤ a ∧ a ≤ ca + (1 + 3 * n) ∧ 0 ≤ s ∧ s < 65536) ∧ ∀ K : Ret → Option Ret, T_s_l01Cur_text cc ca cs n K = K (.l .deep bytesR y, [.io [.l .no bytesR cc, .s (.int .i64 a), .s (.int .i64 s)]]) := by
  suffices hd : Dr (fun r : Ret => ∃ (y : List Int) (a : Int) (s : Int), ((fitB y = true ∧ ((y.length : Nat) : Int) ≤ n) ∧ 0 ≤ a ∧ a ≤ ca + (1 + 3 * n) ∧ 0 ≤ s ∧ s < 65536) ∧ r = (.l .deep bytesR y, [.io [.l .no bytesR cc, .s (.int .i64 a), .s (.int .i64 s)]])) (fun K : Ret → Option Ret => T_s_l01Cur_text cc ca cs n K) by
    obtain ⟨_, ⟨y, a, s, hp, rfl⟩, hk⟩ := hd
    exact ⟨y, a, s, hp, hk⟩
  obtain ⟨h, hpre⟩ := (Bool.and_eq_true _ _).mp h
  obtain ⟨hf, h2, h3, h4, h5⟩ := curB_iff.1 h
  have hl := fitB_len hf
  unfold T_s_l01Cur_text
  simp only [Bool.and_eq_true, decide_eq_true_eq] at hpre
  refine Dr.b3 (b_s_l01Cur_size _ _ _ _ ((Bool.and_eq_true _ _).mpr ⟨curB_iff.2 ⟨hf, by omega, by omega, by omega, by omega⟩, by simp only [Bool.and_eq_true, decide_eq_true_eq]; omega⟩)) (fun y0 a0 s0 hy => ?_)
  obtain ⟨k, rfl⟩ : ∃ k : Nat, y0 = k := ⟨y0.toNat, by omega⟩
  unfold R_s_l01Cur_text_3_0
  refine text_loop hf (F := fun y6 y7 y8 y9 y10 K => (bif (decide ((((List.length y7) : Nat) : Int) > y6)) then
   K ((.l .deep bytesR ([] : List Int)), [(.io [(.l .no bytesR y8), (.s (.int .i64 y9)), (.s (.int .i64 y10))])])
   else K ((.l .deep bytesR y7), [(.io [(.l .no bytesR y8), (.s (.int .i64 y9)), (.s (.int .i64 y10))])]))) _ k a0 s0 [] (by omega) (by omega) (by omega) (by omega) (by omega) byteL_nil (by rw [List.length_nil]; omega) (fun a s o q1 q2 q3 q4 q5 q6 => ?_)
  simp only [List.length_nil] at q6
  refine Dr.bif (fun _ => Dr.leaf ⟨_, _, _, ⟨⟨rfl, ?_⟩, by omega, by omega, by omega, by omega⟩, rfl⟩) (fun hc => ?_)
  · simp only [List.length_nil]; omega
  · simp only [decide_eq_false_iff_not] at hc
    exact Dr.leaf ⟨_, _, _, ⟨⟨byteL_fit q5 (by omega), by omega⟩, by omega, by omega, by omega, by omega⟩, rfl⟩
noncomputable def g_s_l01Cur_text (cc : List Int) (ca : Int) (cs : Int) (n : Int) : List Int × Int × Int := Classical.epsilon fun g => ((fitB (g).1 = true ∧ (((g).1.length : Nat) : Int) ≤ n) ∧ 0 ≤ (g).2.1 ∧ (g).2.1 ≤ ca + (1 + 3 * n) ∧ 0 ≤ (g).2.2 ∧ (g).2.2 < 65536) ∧ ∀ K : Ret → Option Ret, T_s_l01Cur_text cc ca cs n K = K (.l .deep bytesR (g).1, [.io [.l .no bytesR cc, .s (.int .i64 (g).2.1), .s (.int .i64 (g).2.2)]])
theorem gs_s_l01Cur_text (cc : List Int) (ca : Int) (cs : Int) (n : Int) (h : (curB 2000000000000000000 cc ca cs && (decide (0 ≤ n) && decide (n ≤ 1000))) = true) : ((fitB (g_s_l01Cur_text cc ca cs n).1 = true ∧ (((g_s_l01Cur_text cc ca cs n).1.length : Nat) : Int) ≤ n) ∧ 0 ≤ (g_s_l01Cur_text cc ca cs n).2.1 ∧ (g_s_l01Cur_text cc ca cs n).2.1 ≤ ca + (1 + 3 * n) ∧ 0 ≤ (g_s_l01Cur_text cc ca cs n).2.2 ∧ (g_s_l01Cur_text cc ca cs n).2.2 < 65536) ∧ ∀ K : Ret → Option Ret, T_s_l01Cur_text cc ca cs n K = K (.l .deep bytesR (g_s_l01Cur_text cc ca cs n).1, [.io [.l .no bytesR cc, .s (.int .i64 (g_s_l01Cur_text cc ca cs n).2.1), .s (.int .i64 (g_s_l01Cur_text cc ca cs n).2.2)]]) := by
  obtain ⟨y, a, s, hy, hk⟩ := x_s_l01Cur_text cc ca cs n h
  exact Classical.epsilon_spec (p := fun g : List Int × Int × Int => ((fitB (g).1 = true ∧ (((g).1.length : Nat) : Int) ≤ n) ∧ 0 ≤ (g).2.1 ∧ (g).2.1 ≤ ca + (1 + 3 * n) ∧ 0 ≤ (g).2.2 ∧ (g).2.2 < 65536) ∧ ∀ K : Ret → Option Ret, T_s_l01Cur_text cc ca cs n K = K (.l .deep bytesR (g).1, [.io [.l .no bytesR cc, .s (.int .i64 (g).2.1), .s (.int .i64 (g).2.2)]])) ⟨⟨y, a, s⟩, hy, hk⟩
noncomputable def B_s_l01Cur_text (cc : List Int) (ca : Int) (cs : Int) (n : Int) (k : (List Int) → (Int) → (Int) → Option Ret) : Option Ret := bif curB 2000000000000000000 cc ca cs && (decide (0 ≤ n) && decide (n ≤ 1000)) then k (g_s_l01Cur_text cc ca cs n).1 (g_s_l01Cur_text cc ca cs n).2.1 (g_s_l01Cur_text cc ca cs n).2.2 else none
theorem b_s_l01Cur_text (cc : List Int) (ca : Int) (cs : Int) (n : Int) (h : (curB 2000000000000000000 cc ca cs && (decide (0 ≤ n) && decide (n ≤ 1000))) = true) : ∃ (y : List Int) (a : Int) (s : Int), ((fitB y = true ∧ ((y.length : Nat) : Int) ≤ n) ∧ 0 ≤ a ∧ a ≤ ca + (1 + 3 * n) ∧ 0 ≤ s ∧ s < 65536) ∧ ∀ k, B_s_l01Cur_text cc ca cs n k = k y a s :=
  ⟨(g_s_l01Cur_text cc ca cs n).1, (g_s_l01Cur_text cc ca cs n).2.1, (g_s_l01Cur_text cc ca cs n).2.2, (gs_s_l01Cur_text cc ca cs n h).1, fun k => by unfold B_s_l01Cur_text; rw [h]; rfl⟩
def SB_s_l01Cur_text (B : (List Int) → (Int) → (Int) → (Int) → ((List Int) → (Int) → (Int) → Option Ret) → Option Ret) : Sm := S_B [.sh (.io (.cons (.l .no bytesR) (.cons (.int .i64) (.cons (.int .i64) .nil)))), .i] (fun d K => B d.1.1 d.1.2.1 d.1.2.2.1 d.2.1 (fun y a s => K (.l .deep bytesR y, [.io [.l .no bytesR d.1.1, .s (.int .i64 a), .s (.int .i64 s)]])))
theorem okS_s_l01Cur_text : OkFn prog I N.s_l01Cur_text false (SB_s_l01Cur_text B_s_l01Cur_text) := okN (ok_fn (memc okS_s_l01Cur_size (memc okS_s_l01Cur_rune (memc okS_s_RuneBytes mem0))) (l := ls_s_l01Cur_text) (p := []) (ls := [(3, [0,1,5,6], [1,4,5], W_s_l01Cur_text_3)]) (lend := []) (focus := false) (fuel := 0) (give := []) (fn := F.s_l01Cur_text) (by kernel_rfl) (by kernel_rfl) (by kernel_rfl) (by kernel_rfl) (cs := [bodyOf F.s_l01Cur_text 3]) (by kernel_rfl) (loopsc loopK_s_l01Cur_text_3 loops0)) (S_B_of fun d K q hq => by
  refine (e_s_l01Cur_text d.1.1 d.1.2.1 d.1.2.2.1 d.2.1 K).trans ?_
  unfold B_s_l01Cur_text at hq
  cases hp : (curB 2000000000000000000 d.1.1 d.1.2.1 d.1.2.2.1 && (decide (0 ≤ d.2.1) && decide (d.2.1 ≤ 1000))) with
  | false => rw [hp] at hq; cases hq
  | true =>
    rw [hp] at hq
    exact ((gs_s_l01Cur_text d.1.1 d.1.2.1 d.1.2.2.1 d.2.1 hp).2 K).trans hq)
end Go.Ev.Seat
end
section
/- More about what is drawn. -/
set_option linter.unusedVariables false
namespace Go.Ev
open Go.RowKit
theorem fitB_set {xs : List Int} (h : fitB xs = true) {i : Nat} {b : Int} (hb : 0 ≤ b ∧ b ≤ 255) : fitB (xs.set i b) = true :=
  fitB_of (by rw [List.length_set]; exact fitB_len h) (fun x hx => (List.mem_or_eq_of_mem_set hx).elim (fun h' => fitB_mem h h') (fun e => e ▸ hb))
theorem wrap8_range (n : Int) : 0 ≤ IntKind.u8.wrap n ∧ IntKind.u8.wrap n ≤ 255 := by
  rw [wrap8_mod]; omega
theorem fitB_one {b : Int} (hb : 0 ≤ b ∧ b ≤ 255) : fitB (b :: ([] : List Int)) = true :=
  fitB_of (by simp) (fun x hx => by rw [List.mem_singleton.1 hx]; exact hb)
theorem rng_nil {i : Nat} : -9223372036854775808 ≤ ([] : List Int).getD i 0 ∧ ([] : List Int).getD i 0 ≤ 9223372036854775807 := by
  rw [List.getD_nil]; omega
theorem rng_cons {x : Int} {l : List Int} {i : Nat} (h : -9223372036854775808 ≤ x ∧ x ≤ 9223372036854775807) (hl : ∀ {i : Nat}, -9223372036854775808 ≤ l.getD i 0 ∧ l.getD i 0 ≤ 9223372036854775807) : -9223372036854775808 ≤ (x :: l).getD i 0 ∧ (x :: l).getD i 0 ≤ 9223372036854775807 := by
  cases i with
  | zero => exact h
  | succ i => exact hl
def rngB (l : List Int) : Bool := l.all fun x => decide (-9223372036854775808 ≤ x) && decide (x ≤ 9223372036854775807)
theorem rng_get : ∀ {l : List Int} {i : Nat}, rngB l = true → -9223372036854775808 ≤ l.getD i 0 ∧ l.getD i 0 ≤ 9223372036854775807
  | [], _, _ => rng_nil
  | x :: l, i, h => by
    unfold rngB at h
    rw [List.all_cons, Bool.and_eq_true, Bool.and_eq_true, decide_eq_true_eq, decide_eq_true_eq] at h
    exact rng_cons h.1 (fun {j} => rng_get (l := l) (i := j) h.2)
theorem Dr.leafN {P : Ret → Prop} {r : Ret} (h : P (noR r.1, r.2)) (hk : r.1.okNo = true) : Dr P (fun K : Ret → Option Ret => noK K r) := ⟨_, h, fun K => by unfold noK; rw [hk]; rfl⟩
end Go.Ev
end
section
/- Chunks and ropes, as lists of lists of bytes. -/
set_option linter.unusedVariables false
namespace Go.Ev
open Go.RowKit
def chunkOkD (d : List Int) : Bool := decide (1 ≤ ((d.length : Nat) : Int)) && decide (((d.length : Nat) : Int) ≤ 16) && textOk d
def chunksOkL : List (List Int) → Nat → Bool
  | [], _ => true
  | d :: l, n => bif chunkOkD d then (bif decide (((n + d.length : Nat) : Int) > 400) then false else chunksOkL l (n + d.length)) else false
def chunksOkD (l : List (List Int)) : Bool := chunksOkL l 0
theorem chunkOkD_len {d : List Int} (h : chunkOkD d = true) : 1 ≤ d.length ∧ d.length ≤ 16 := by
  unfold chunkOkD at h
  simp only [Bool.and_eq_true, decide_eq_true_eq] at h
  omega
theorem chunksOkL_iff : ∀ (l : List (List Int)) (n : Nat), n ≤ 400 → (chunksOkL l n = true ↔ (∀ d ∈ l, chunkOkD d = true) ∧ n + sumW List.length l ≤ 400)
  | [], n, h => by simp [chunksOkL, sumW, h]
  | d :: l, n, h => by
    simp only [chunksOkL, sumW, List.mem_cons, forall_eq_or_imp]
    cases hd : chunkOkD d with
    | false => simp
    | true =>
      by_cases h4 : ((n + d.length : Nat) : Int) > 400
      · rw [decide_eq_true h4]
        simp only [cond_true, Bool.false_eq_true, false_iff, true_and, not_and]
        intro _; omega
      · rw [decide_eq_false h4]
        simp only [cond_true, cond_false, true_and]
        rw [chunksOkL_iff l (n + d.length) (by omega)]
        rw [Nat.add_assoc]
theorem chunksOkD_iff {l : List (List Int)} : chunksOkD l = true ↔ (∀ d ∈ l, chunkOkD d = true) ∧ sumW List.length l ≤ 400 := by
  unfold chunksOkD
  rw [chunksOkL_iff l 0 (by omega), Nat.zero_add]
theorem sumW_flat : ∀ (l : List (List Int)), l.flatten.length = sumW List.length l
  | [] => rfl
  | d :: l => by simp only [List.flatten_cons, List.length_append, sumW, sumW_flat l]
def chunksTextD (l : List (List Int)) : List Int := bif chunksOkD l then l.flatten else []
theorem chunksTextD_len (l : List (List Int)) : (chunksTextD l).length ≤ 400 := by
  unfold chunksTextD
  cases h : chunksOkD l with
  | false => simp
  | true => rw [cond_true, sumW_flat]; exact (chunksOkD_iff.1 h).2
end Go.Ev
end
section
/- s_l01Cur_chunks: its contract. -/
namespace Go.Ev.Seat
open Go.RowKit
set_option maxRecDepth 100000
set_option linter.unusedVariables false
set_option linter.unusedSimpArgs false
def z_s_l01Cur_chunks_3_0 (o0 : List T_Piece) (b10 : List Int) (b11 : Int) (b12 : Int) : St := { tm := ([.x, .x, .x, .x, .x, (.w 0)] ++ List.replicate 21 .x), ob := [(0, (.arr true true pieceR o0)), (1, (.box [(.l .no bytesR b10), (.s (.int .i64 b11)), (.s (.int .i64 b12))]))], nx := 2, io := [(.pb 1 0)] }
def sh_s_l01Cur_chunks_3_0 : Ss := { tm := (.cons (.pb 0 0) (.cons (.x) (.cons (.x) (.cons (.x) (.cons (.x) (.cons (.w 1) (.cons (.int .i64) (xsh 20)))))))), ob := (.box (.cons (.l .no bytesR) (.cons (.int .i64) (.cons (.int .i64) .nil))) (.arr true true pieceR .nil)), nx := 2, io := (.cons (.pb 0 0) .nil) }
def d_s_l01Cur_chunks_3_0 (x6 : Int) (b00 : List Int) (b01 : Int) (b02 : Int) (o1 : List T_Piece) : sh_s_l01Cur_chunks_3_0.T := (((), ((), ((), ((), ((), ((), (x6, xd 20))))))), ((b00, (b01, (b02, ()))), (o1, ())), ((), ()))
def s_s_l01Cur_chunks_3_0 (x6 : Int) (b00 : List Int) (b01 : Int) (b02 : Int) (o1 : List T_Piece) : St := { tm := ([(.pb 0 0), .x, .x, .x, .x, (.w 1), (.s (.int .i64 x6))] ++ List.replicate 20 .x), ob := [(0, (.box [(.l .no bytesR b00), (.s (.int .i64 b01)), (.s (.int .i64 b02))])), (1, (.arr true true pieceR o1))], nx := 2, io := [(.pb 0 0)] }
theorem se_s_l01Cur_chunks_3_0 (x6 : Int) (b00 : List Int) (b01 : Int) (b02 : Int) (o1 : List T_Piece) : sh_s_l01Cur_chunks_3_0.mk' (d_s_l01Cur_chunks_3_0 x6 b00 b01 b02 o1) = (s_s_l01Cur_chunks_3_0 x6 b00 b01 b02 o1) := by kernel_rfl
def w_s_l01Cur_chunks_3_0 (d : sh_s_l01Cur_chunks_3_0.T) (f : Int → (List Int) → Int → Int → (List T_Piece) → Option Ret) : Option Ret := match d with | ((_, (_, (_, (_, (_, (_, (x6, _))))))), ((b00, (b01, (b02, _))), (o1, _)), (_, _)) => f x6 b00 b01 b02 o1
noncomputable def P_s_l01Cur_chunks_3_0 (x6 : Int) (b00 : List Int) (b01 : Int) (b02 : Int) (o1 : List T_Piece) (nx0 : Int → (List Int) → Int → Int → (List T_Piece) → Option Ret) (k0 : (List T_Piece) → (List Int) → Int → Int → Option Ret) : Option Ret := (bif (decide (x6 > (0 : Int))) then (B_s_l01Cur_text b00 b01 b02 (12 : Int) (fun y0 y1 y2 => (bif (decide ((((List.length y0) : Nat) : Int) > (0 : Int))) then (bif (Nat.ble (((List.length o1) + (List.length (y0 :: []))) * 24) 140737488355328) then (nx0 (IntKind.wrap .i64 (x6 - (1 : Int))) b00 y1 y2 (o1 ++ (y0 :: []))) else none) else (nx0 (IntKind.wrap .i64 (x6 - (1 : Int))) b00 y1 y2 o1)))) else (k0 o1 b00 b01 b02))
noncomputable def Q_s_l01Cur_chunks_3_0 : Nat → Int → (List Int) → Int → Int → (List T_Piece) → ((List T_Piece) → (List Int) → Int → Int → Option Ret) → Option Ret
  | 0, _, _, _, _, _, _ => none
  | m + 1, x6, b00, b01, b02, o1, k0 => P_s_l01Cur_chunks_3_0 x6 b00 b01 b02 o1 (fun x6 b00 b01 b02 o1 => (Q_s_l01Cur_chunks_3_0 m x6 b00 b01 b02 o1 k0)) k0
noncomputable def R_s_l01Cur_chunks_3_0 (x6 : Int) (b00 : List Int) (b01 : Int) (b02 : Int) (o1 : List T_Piece) (k0 : (List T_Piece) → (List Int) → Int → Int → Option Ret) : Option Ret := Q_s_l01Cur_chunks_3_0 (x6.toNat + List.length b00 + b01.toNat + b02.toNat + List.length o1 + 2) x6 b00 b01 b02 o1 k0
noncomputable def W_s_l01Cur_chunks_3 : LoopFn := (fun (σ : St) (K : Ex → St → Option Ret) => (match sh_s_l01Cur_chunks_3_0.un σ with | some d => w_s_l01Cur_chunks_3_0 d (fun x6 b00 b01 b02 o1 => R_s_l01Cur_chunks_3_0 x6 b00 b01 b02 o1 (fun o0 b10 b11 b12 => (K (.ext 0) (z_s_l01Cur_chunks_3_0 o0 b10 b11 b12)))) | none => none))
noncomputable abbrev ls_s_l01Cur_chunks : List (Nat × Bool × Sm) := [(N.s_l01Cur_size, false, (SB_s_l01Cur_size B_s_l01Cur_size)), (N.s_l01Cur_text, false, (SB_s_l01Cur_text B_s_l01Cur_text))]
noncomputable abbrev E_s_l01Cur_chunks : Env := En ls_s_l01Cur_chunks [] [(3, [0,5,6], [4,5], W_s_l01Cur_chunks_3)] [] false 0 []
noncomputable abbrev U_s_l01Cur_chunks_3 := rounds (run E_s_l01Cur_chunks (bodyOf F.s_l01Cur_chunks 3)) [0,5,6] [4,5]
theorem st_s_l01Cur_chunks_3_0 (m : Nat) (x6 : Int) (b00 : List Int) (b01 : Int) (b02 : Int) (o1 : List T_Piece) (K : Ex → St → Option Ret) : U_s_l01Cur_chunks_3 (m + 1) (s_s_l01Cur_chunks_3_0 x6 b00 b01 b02 o1) K = P_s_l01Cur_chunks_3_0 x6 b00 b01 b02 o1 (fun x6 b00 b01 b02 o1 => (U_s_l01Cur_chunks_3 m (s_s_l01Cur_chunks_3_0 x6 b00 b01 b02 o1) K)) (fun o0 b10 b11 b12 => (K (.ext 0) (z_s_l01Cur_chunks_3_0 o0 b10 b11 b12))) := by kernel_rfl
theorem q_s_l01Cur_chunks_3 (K : Ex → St → Option Ret) : ∀ m : Nat, (∀ (x6 : Int) (b00 : List Int) (b01 : Int) (b02 : Int) (o1 : List T_Piece), U_s_l01Cur_chunks_3 m (s_s_l01Cur_chunks_3_0 x6 b00 b01 b02 o1) K = Q_s_l01Cur_chunks_3_0 m x6 b00 b01 b02 o1 (fun o0 b10 b11 b12 => (K (.ext 0) (z_s_l01Cur_chunks_3_0 o0 b10 b11 b12))))
  | 0 => (fun _ _ _ _ _ => rfl)
  | m + 1 => (fun x6 b00 b01 b02 o1 => (by rw [st_s_l01Cur_chunks_3_0, show (fun x6 b00 b01 b02 o1 => (U_s_l01Cur_chunks_3 m (s_s_l01Cur_chunks_3_0 x6 b00 b01 b02 o1) K)) = (fun x6 b00 b01 b02 o1 => (Q_s_l01Cur_chunks_3_0 m x6 b00 b01 b02 o1 (fun o0 b10 b11 b12 => (K (.ext 0) (z_s_l01Cur_chunks_3_0 o0 b10 b11 b12))))) from funext fun x6 => funext fun b00 => funext fun b01 => funext fun b02 => funext fun o1 => (q_s_l01Cur_chunks_3 K m) x6 b00 b01 b02 o1]; rfl))
theorem loopK_s_l01Cur_chunks_3 : LoopOk E_s_l01Cur_chunks (bodyOf F.s_l01Cur_chunks 3) := by
  refine loopW_ok (n := 3) (F := W_s_l01Cur_chunks_3) (by kernel_rfl) rfl (li := [0,5,6]) (lo := [4,5]) rfl (fun σ K r hr => ?_)
  unfold W_s_l01Cur_chunks_3 at hr
  split at hr
  · rename_i d hd
    rw [Ss.un_mk hd]
    exact ⟨_, ((congrArg (fun z => U_s_l01Cur_chunks_3 _ z K) (se_s_l01Cur_chunks_3_0 _ _ _ _ _)).trans ((q_s_l01Cur_chunks_3 K _) _ _ _ _ _)).trans hr⟩
  · cases hr
noncomputable def T_s_l01Cur_chunks (cc : List Int) (ca : Int) (cs : Int) (n : Int) (K : Ret → Option Ret) : Option Ret := (B_s_l01Cur_size cc ca cs n (fun y3 y4 y5 => (R_s_l01Cur_chunks_3_0 y3 cc y4 y5 [] (fun y6 y7 y8 y9 => K ((.l .deep pieceR y6), [(.io [(.l .no bytesR y7), (.s (.int .i64 y8)), (.s (.int .i64 y9))])])))))
theorem e_s_l01Cur_chunks (cc : List Int) (ca : Int) (cs : Int) (n : Int) (K : Ret → Option Ret) : evF E_s_l01Cur_chunks false F.s_l01Cur_chunks [.io [.l .no bytesR cc, .s (.int .i64 ca), .s (.int .i64 cs)], .s (.int .i64 n)] K = T_s_l01Cur_chunks cc ca cs n K := by kernel_rfl
theorem chunks_loop {P : Ret → Prop} {cc : List Int} (hf : fitB cc = true) {F : List T_Piece → List Int → Int → Int → (Ret → Option Ret) → Option Ret} : ∀ (m k : Nat) (ca cs : Int) (o : List T_Piece), k < m → 0 ≤ ca → ca + 37 * k ≤ 1500000000000000000 → 0 ≤ cs → cs < 65536 → (∀ d ∈ o, fitB d = true) → o.length + k ≤ 100000 →
    (∀ (a s : Int) (o' : List T_Piece), 0 ≤ a → a ≤ ca + 37 * k → 0 ≤ s → s < 65536 → (∀ d ∈ o', fitB d = true) → o'.length ≤ o.length + k → Dr P (F o' cc a s)) → Dr P (fun K => Q_s_l01Cur_chunks_3_0 m (k : Int) cc ca cs o (fun a b c d => F a b c d K))
  | 0, k, ca, cs, o, h, _, _, _, _, _, _, _ => absurd h (by omega)
  | m + 1, k, ca, cs, o, h, h0, h1, h2, h3, hb, hl, hF => by
    show Dr P (fun K => P_s_l01Cur_chunks_3_0 (k : Int) cc ca cs o _ _)
    unfold P_s_l01Cur_chunks_3_0
    cases k with
    | zero =>
      refine Dr.bif (fun hc => ?_) (fun _ => hF ca cs o h0 (by omega) h2 h3 hb (by omega))
      simp at hc
    | succ k =>
      refine Dr.must (decide_eq_true (by omega)) ?_
      refine Dr.b3 (b_s_l01Cur_text _ _ _ _ ((Bool.and_eq_true _ _).mpr ⟨curB_iff.2 ⟨hf, by omega, by omega, by omega, by omega⟩, by rfl⟩)) (fun y a s hy => ?_)
      rw [show IntKind.wrap .i64 (((k + 1 : Nat) : Int) - 1) = (k : Int) by rw [wrap_in (by omega) (by omega)]; omega]
      obtain ⟨⟨hy1, hy2⟩, hy3, hy4, hy5, hy6⟩ := hy
      refine Dr.bif (fun _ => ?_) (fun _ => ?_)
      · refine Dr.must (Nat.ble_eq_true_of_le (by simp only [List.length_cons, List.length_nil]; omega)) ?_
        refine chunks_loop hf m k a s (o ++ [y]) (by omega) (by omega) (by omega) (by omega) (by omega) (fun d hd => (List.mem_append.1 hd).elim (hb d) (fun hd => by rw [List.mem_singleton.1 hd]; exact hy1)) (by rw [List.length_append]; simp only [List.length_cons, List.length_nil]; omega) (fun a' s' o' q1 q2 q3 q4 q5 q6 => hF a' s' o' q1 (by omega) q3 q4 q5 ?_)
        rw [List.length_append] at q6
        simp only [List.length_cons, List.length_nil] at q6
        omega
      · exact chunks_loop hf m k a s o (by omega) (by omega) (by omega) (by omega) (by omega) hb (by omega) (fun a' s' o' q1 q2 q3 q4 q5 q6 => hF a' s' o' q1 (by omega) q3 q4 q5 (by omega))
theorem x_s_l01Cur_chunks (cc : List Int) (ca : Int) (cs : Int) (n : Int) (h : (curB 1000000000000000000 cc ca cs && (decide (0 ≤ n) && decide (n ≤ 1000))) = true) : ∃ (y : List T_Piece) (a : Int) (s : Int), (((∀ d ∈ y, fitB d = true) ∧ ((y.length : Nat) : Int) ≤ n) ∧ 0 ≤ a ∧ a ≤ ca + (1 + 37 * n) ∧ 0 ≤ s ∧ s < 65536) ∧ ∀ K : Ret → Option Ret, T_s_l01Cur_chunks cc ca cs n K = K (.l .deep pieceR y, [.io [.l .no bytesR cc, .s (.int .i64 a), .s (.int .i64 s)]]) := by
  suffices hd : Dr (fun r : Ret => ∃ (y : List T_Piece) (a : Int) (s : Int), (((∀ d ∈ y, fitB d = true) ∧ ((y.length : Nat) : Int) ≤ n) ∧ 0 ≤ a ∧ a ≤ ca + (1 + 37 * n) ∧ 0 ≤ s ∧ s < 65536) ∧ r = (.l .deep pieceR y, [.io [.l .no bytesR cc, .s (.int .i64 a), .s (.int .i64 s)]])) (fun K : Ret → Option Ret => T_s_l01Cur_chunks cc ca cs n K) by
    obtain ⟨_, ⟨y, a, s, hp, rfl⟩, hk⟩ := hd
    exact ⟨y, a, s, hp, hk⟩
  obtain ⟨h, hpre⟩ := (Bool.and_eq_true _ _).mp h
  obtain ⟨hf, h2, h3, h4, h5⟩ := curB_iff.1 h
  have hl := fitB_len hf
  unfold T_s_l01Cur_chunks
  simp only [Bool.and_eq_true, decide_eq_true_eq] at hpre
  refine Dr.b3 (b_s_l01Cur_size _ _ _ _ ((Bool.and_eq_true _ _).mpr ⟨(curB_iff.2 ⟨hf, by omega, by omega, by omega, by omega⟩), by simp only [Bool.and_eq_true, decide_eq_true_eq]; omega⟩)) (fun y0 a0 s0 hy => ?_)
  obtain ⟨k, rfl⟩ : ∃ k : Nat, y0 = k := ⟨y0.toNat, by omega⟩
  unfold R_s_l01Cur_chunks_3_0
  refine chunks_loop hf (F := fun y6 y7 y8 y9 K => K ((.l .deep pieceR y6), [(.io [(.l .no bytesR y7), (.s (.int .i64 y8)), (.s (.int .i64 y9))])])) _ k a0 s0 [] (by omega) (by omega) (by omega) (by omega) (by omega) (fun _ h => nomatch h) (by rw [List.length_nil]; omega) (fun a s o q1 q2 q3 q4 q5 q6 => ?_)
  simp only [List.length_nil] at q6
  exact Dr.leaf ⟨_, _, _, ⟨⟨q5, by omega⟩, by omega, by omega, by omega, by omega⟩, rfl⟩
noncomputable def g_s_l01Cur_chunks (cc : List Int) (ca : Int) (cs : Int) (n : Int) : List T_Piece × Int × Int := Classical.epsilon fun g => (((∀ d ∈ (g).1, fitB d = true) ∧ (((g).1.length : Nat) : Int) ≤ n) ∧ 0 ≤ (g).2.1 ∧ (g).2.1 ≤ ca + (1 + 37 * n) ∧ 0 ≤ (g).2.2 ∧ (g).2.2 < 65536) ∧ ∀ K : Ret → Option Ret, T_s_l01Cur_chunks cc ca cs n K = K (.l .deep pieceR (g).1, [.io [.l .no bytesR cc, .s (.int .i64 (g).2.1), .s (.int .i64 (g).2.2)]])
theorem gs_s_l01Cur_chunks (cc : List Int) (ca : Int) (cs : Int) (n : Int) (h : (curB 1000000000000000000 cc ca cs && (decide (0 ≤ n) && decide (n ≤ 1000))) = true) : (((∀ d ∈ (g_s_l01Cur_chunks cc ca cs n).1, fitB d = true) ∧ (((g_s_l01Cur_chunks cc ca cs n).1.length : Nat) : Int) ≤ n) ∧ 0 ≤ (g_s_l01Cur_chunks cc ca cs n).2.1 ∧ (g_s_l01Cur_chunks cc ca cs n).2.1 ≤ ca + (1 + 37 * n) ∧ 0 ≤ (g_s_l01Cur_chunks cc ca cs n).2.2 ∧ (g_s_l01Cur_chunks cc ca cs n).2.2 < 65536) ∧ ∀ K : Ret → Option Ret, T_s_l01Cur_chunks cc ca cs n K = K (.l .deep pieceR (g_s_l01Cur_chunks cc ca cs n).1, [.io [.l .no bytesR cc, .s (.int .i64 (g_s_l01Cur_chunks cc ca cs n).2.1), .s (.int .i64 (g_s_l01Cur_chunks cc ca cs n).2.2)]]) := by
  obtain ⟨y, a, s, hy, hk⟩ := x_s_l01Cur_chunks cc ca cs n h
  exact Classical.epsilon_spec (p := fun g : List T_Piece × Int × Int => (((∀ d ∈ (g).1, fitB d = true) ∧ (((g).1.length : Nat) : Int) ≤ n) ∧ 0 ≤ (g).2.1 ∧ (g).2.1 ≤ ca + (1 + 37 * n) ∧ 0 ≤ (g).2.2 ∧ (g).2.2 < 65536) ∧ ∀ K : Ret → Option Ret, T_s_l01Cur_chunks cc ca cs n K = K (.l .deep pieceR (g).1, [.io [.l .no bytesR cc, .s (.int .i64 (g).2.1), .s (.int .i64 (g).2.2)]])) ⟨⟨y, a, s⟩, hy, hk⟩
noncomputable def B_s_l01Cur_chunks (cc : List Int) (ca : Int) (cs : Int) (n : Int) (k : (List T_Piece) → (Int) → (Int) → Option Ret) : Option Ret := bif curB 1000000000000000000 cc ca cs && (decide (0 ≤ n) && decide (n ≤ 1000)) then k (g_s_l01Cur_chunks cc ca cs n).1 (g_s_l01Cur_chunks cc ca cs n).2.1 (g_s_l01Cur_chunks cc ca cs n).2.2 else none
theorem b_s_l01Cur_chunks (cc : List Int) (ca : Int) (cs : Int) (n : Int) (h : (curB 1000000000000000000 cc ca cs && (decide (0 ≤ n) && decide (n ≤ 1000))) = true) : ∃ (y : List T_Piece) (a : Int) (s : Int), (((∀ d ∈ y, fitB d = true) ∧ ((y.length : Nat) : Int) ≤ n) ∧ 0 ≤ a ∧ a ≤ ca + (1 + 37 * n) ∧ 0 ≤ s ∧ s < 65536) ∧ ∀ k, B_s_l01Cur_chunks cc ca cs n k = k y a s :=
  ⟨(g_s_l01Cur_chunks cc ca cs n).1, (g_s_l01Cur_chunks cc ca cs n).2.1, (g_s_l01Cur_chunks cc ca cs n).2.2, (gs_s_l01Cur_chunks cc ca cs n h).1, fun k => by unfold B_s_l01Cur_chunks; rw [h]; rfl⟩
def SB_s_l01Cur_chunks (B : (List Int) → (Int) → (Int) → (Int) → ((List T_Piece) → (Int) → (Int) → Option Ret) → Option Ret) : Sm := S_B [.sh (.io (.cons (.l .no bytesR) (.cons (.int .i64) (.cons (.int .i64) .nil)))), .i] (fun d K => B d.1.1 d.1.2.1 d.1.2.2.1 d.2.1 (fun y a s => K (.l .deep pieceR y, [.io [.l .no bytesR d.1.1, .s (.int .i64 a), .s (.int .i64 s)]])))
theorem okS_s_l01Cur_chunks : OkFn prog I N.s_l01Cur_chunks false (SB_s_l01Cur_chunks B_s_l01Cur_chunks) := okN (ok_fn (memc okS_s_l01Cur_size (memc okS_s_l01Cur_text mem0)) (l := ls_s_l01Cur_chunks) (p := []) (ls := [(3, [0,5,6], [4,5], W_s_l01Cur_chunks_3)]) (lend := []) (focus := false) (fuel := 0) (give := []) (fn := F.s_l01Cur_chunks) (by kernel_rfl) (by kernel_rfl) (by kernel_rfl) (by kernel_rfl) (cs := [bodyOf F.s_l01Cur_chunks 3]) (by kernel_rfl) (loopsc loopK_s_l01Cur_chunks_3 loops0)) (S_B_of fun d K q hq => by
  refine (e_s_l01Cur_chunks d.1.1 d.1.2.1 d.1.2.2.1 d.2.1 K).trans ?_
  unfold B_s_l01Cur_chunks at hq
  cases hp : (curB 1000000000000000000 d.1.1 d.1.2.1 d.1.2.2.1 && (decide (0 ≤ d.2.1) && decide (d.2.1 ≤ 1000))) with
  | false => rw [hp] at hq; cases hq
  | true =>
    rw [hp] at hq
    exact ((gs_s_l01Cur_chunks d.1.1 d.1.2.1 d.1.2.2.1 d.2.1 hp).2 K).trans hq)
end Go.Ev.Seat
end
section
/- s_l01Cur_once: its contract. -/
namespace Go.Ev.Seat
open Go.RowKit
set_option maxRecDepth 100000
set_option linter.unusedVariables false
set_option linter.unusedSimpArgs false
noncomputable abbrev ls_s_l01Cur_once : List (Nat × Bool × Sm) := [(N.s_l01Cur_pick, false, (SB_s_l01Cur_pick B_s_l01Cur_pick))]
noncomputable abbrev E_s_l01Cur_once : Env := En ls_s_l01Cur_once [] [] [] false 0 []
noncomputable def T_s_l01Cur_once (cc : List Int) (ca : Int) (cs : Int) (n : Int) (K : Ret → Option Ret) : Option Ret := (B_s_l01Cur_pick cc ca cs n (fun y0 y1 y2 => K ((.s (.bool (y0 == (IntKind.wrap .i64 (n - (1 : Int)))))), [(.io [(.l .no bytesR cc), (.s (.int .i64 y1)), (.s (.int .i64 y2))])])))
theorem e_s_l01Cur_once (cc : List Int) (ca : Int) (cs : Int) (n : Int) (K : Ret → Option Ret) : evF E_s_l01Cur_once false F.s_l01Cur_once [.io [.l .no bytesR cc, .s (.int .i64 ca), .s (.int .i64 cs)], .s (.int .i64 n)] K = T_s_l01Cur_once cc ca cs n K := by kernel_rfl
theorem x_s_l01Cur_once (cc : List Int) (ca : Int) (cs : Int) (n : Int) (h : (curB 3000000000000000000 cc ca cs) = true) : ∃ (y : Bool) (a : Int) (s : Int), (0 ≤ a ∧ a ≤ ca + 1 ∧ 0 ≤ s ∧ s < 65536) ∧ ∀ K : Ret → Option Ret, T_s_l01Cur_once cc ca cs n K = K (.s (.bool y), [.io [.l .no bytesR cc, .s (.int .i64 a), .s (.int .i64 s)]]) := by
  suffices hd : Dr (fun r : Ret => ∃ (y : Bool) (a : Int) (s : Int), (0 ≤ a ∧ a ≤ ca + 1 ∧ 0 ≤ s ∧ s < 65536) ∧ r = (.s (.bool y), [.io [.l .no bytesR cc, .s (.int .i64 a), .s (.int .i64 s)]])) (fun K : Ret → Option Ret => T_s_l01Cur_once cc ca cs n K) by
    obtain ⟨_, ⟨y, a, s, hp, rfl⟩, hk⟩ := hd
    exact ⟨y, a, s, hp, hk⟩
  obtain ⟨hf, h2, h3, h4, h5⟩ := curB_iff.1 h
  have hl := fitB_len hf
  unfold T_s_l01Cur_once
  repeat' first
    | exact Dr.leaf ⟨_, _, _, ⟨by omega, by omega, by omega, by omega⟩, rfl⟩
    | refine Dr.b3 (b_s_l01Cur_pick _ _ _ _ (curB_iff.2 ⟨hf, by omega, by omega, by omega, by omega⟩)) (fun _ _ _ hy => ?_)
    | refine Dr.meet ?_
    | simp (disch := omega) only [wrap_in]
    | refine Dr.must (by first | rfl | (simp only [List.length_cons, List.length_nil, BEq.rfl, Bool.true_and, Bool.and_eq_true, decide_eq_true_eq]; omega)) ?_
    | refine Dr.bif (fun hb => ?_) (fun hb => ?_)
noncomputable def g_s_l01Cur_once (cc : List Int) (ca : Int) (cs : Int) (n : Int) : Bool × Int × Int := Classical.epsilon fun g => (0 ≤ (g).2.1 ∧ (g).2.1 ≤ ca + 1 ∧ 0 ≤ (g).2.2 ∧ (g).2.2 < 65536) ∧ ∀ K : Ret → Option Ret, T_s_l01Cur_once cc ca cs n K = K (.s (.bool (g).1), [.io [.l .no bytesR cc, .s (.int .i64 (g).2.1), .s (.int .i64 (g).2.2)]])
theorem gs_s_l01Cur_once (cc : List Int) (ca : Int) (cs : Int) (n : Int) (h : (curB 3000000000000000000 cc ca cs) = true) : (0 ≤ (g_s_l01Cur_once cc ca cs n).2.1 ∧ (g_s_l01Cur_once cc ca cs n).2.1 ≤ ca + 1 ∧ 0 ≤ (g_s_l01Cur_once cc ca cs n).2.2 ∧ (g_s_l01Cur_once cc ca cs n).2.2 < 65536) ∧ ∀ K : Ret → Option Ret, T_s_l01Cur_once cc ca cs n K = K (.s (.bool (g_s_l01Cur_once cc ca cs n).1), [.io [.l .no bytesR cc, .s (.int .i64 (g_s_l01Cur_once cc ca cs n).2.1), .s (.int .i64 (g_s_l01Cur_once cc ca cs n).2.2)]]) := by
  obtain ⟨y, a, s, hy, hk⟩ := x_s_l01Cur_once cc ca cs n h
  exact Classical.epsilon_spec (p := fun g : Bool × Int × Int => (0 ≤ (g).2.1 ∧ (g).2.1 ≤ ca + 1 ∧ 0 ≤ (g).2.2 ∧ (g).2.2 < 65536) ∧ ∀ K : Ret → Option Ret, T_s_l01Cur_once cc ca cs n K = K (.s (.bool (g).1), [.io [.l .no bytesR cc, .s (.int .i64 (g).2.1), .s (.int .i64 (g).2.2)]])) ⟨⟨y, a, s⟩, hy, hk⟩
noncomputable def B_s_l01Cur_once (cc : List Int) (ca : Int) (cs : Int) (n : Int) (k : (Bool) → (Int) → (Int) → Option Ret) : Option Ret := bif curB 3000000000000000000 cc ca cs then k (g_s_l01Cur_once cc ca cs n).1 (g_s_l01Cur_once cc ca cs n).2.1 (g_s_l01Cur_once cc ca cs n).2.2 else none
theorem b_s_l01Cur_once (cc : List Int) (ca : Int) (cs : Int) (n : Int) (h : (curB 3000000000000000000 cc ca cs) = true) : ∃ (y : Bool) (a : Int) (s : Int), (0 ≤ a ∧ a ≤ ca + 1 ∧ 0 ≤ s ∧ s < 65536) ∧ ∀ k, B_s_l01Cur_once cc ca cs n k = k y a s :=
  ⟨(g_s_l01Cur_once cc ca cs n).1, (g_s_l01Cur_once cc ca cs n).2.1, (g_s_l01Cur_once cc ca cs n).2.2, (gs_s_l01Cur_once cc ca cs n h).1, fun k => by unfold B_s_l01Cur_once; rw [h]; rfl⟩
def SB_s_l01Cur_once (B : (List Int) → (Int) → (Int) → (Int) → ((Bool) → (Int) → (Int) → Option Ret) → Option Ret) : Sm := S_B [.sh (.io (.cons (.l .no bytesR) (.cons (.int .i64) (.cons (.int .i64) .nil)))), .i] (fun d K => B d.1.1 d.1.2.1 d.1.2.2.1 d.2.1 (fun y a s => K (.s (.bool y), [.io [.l .no bytesR d.1.1, .s (.int .i64 a), .s (.int .i64 s)]])))
theorem okS_s_l01Cur_once : OkFn prog I N.s_l01Cur_once false (SB_s_l01Cur_once B_s_l01Cur_once) := okN (ok_fn (memc okS_s_l01Cur_pick mem0) (l := ls_s_l01Cur_once) (p := []) (ls := []) (lend := []) (focus := false) (fuel := 0) (give := []) (fn := F.s_l01Cur_once) (by kernel_rfl) (by kernel_rfl) (by kernel_rfl) (by kernel_rfl) (cs := []) (by kernel_rfl) loops0) (S_B_of fun d K q hq => by
  refine (e_s_l01Cur_once d.1.1 d.1.2.1 d.1.2.2.1 d.2.1 K).trans ?_
  unfold B_s_l01Cur_once at hq
  cases hp : (curB 3000000000000000000 d.1.1 d.1.2.1 d.1.2.2.1) with
  | false => rw [hp] at hq; cases hq
  | true =>
    rw [hp] at hq
    exact ((gs_s_l01Cur_once d.1.1 d.1.2.1 d.1.2.2.1 d.2.1 hp).2 K).trans hq)
end Go.Ev.Seat
end
section
/- s_l01Rune: its contract. -/
namespace Go.Ev.Seat
open Go.RowKit
set_option maxRecDepth 100000
set_option linter.unusedVariables false
set_option linter.unusedSimpArgs false
def z_s_l01Rune_18_0 (x0 : List Int) (x1 : Int) (x7 : Int) (x8 : Int) : St := { tm := ([(.l .no bytesR x0), (.s (.int .i64 x1)), .x, .x, .x, .x, .x, (.s (.int .i64 x7)), (.s (.int .i64 x8))] ++ List.replicate 65 .x), ob := [], nx := 0, io := [] }
def sh_s_l01Rune_18_0 : Ss := { tm := (.cons (.l .no bytesR) (.cons (.int .i64) (.cons (.x) (.cons (.x) (.cons (.x) (.cons (.x) (.cons (.x) (.cons (.int .i64) (.cons (.int .i64) (.cons (.int .i64) (xsh 64))))))))))), ob := .nil, nx := 0, io := .nil }
def d_s_l01Rune_18_0 (x0 : List Int) (x1 : Int) (x7 : Int) (x8 : Int) (x9 : Int) : sh_s_l01Rune_18_0.T := ((x0, (x1, ((), ((), ((), ((), ((), (x7, (x8, (x9, xd 64)))))))))), (), ())
def s_s_l01Rune_18_0 (x0 : List Int) (x1 : Int) (x7 : Int) (x8 : Int) (x9 : Int) : St := { tm := ([(.l .no bytesR x0), (.s (.int .i64 x1)), .x, .x, .x, .x, .x, (.s (.int .i64 x7)), (.s (.int .i64 x8)), (.s (.int .i64 x9))] ++ List.replicate 64 .x), ob := [], nx := 0, io := [] }
theorem se_s_l01Rune_18_0 (x0 : List Int) (x1 : Int) (x7 : Int) (x8 : Int) (x9 : Int) : sh_s_l01Rune_18_0.mk' (d_s_l01Rune_18_0 x0 x1 x7 x8 x9) = (s_s_l01Rune_18_0 x0 x1 x7 x8 x9) := by kernel_rfl
def w_s_l01Rune_18_0 (d : sh_s_l01Rune_18_0.T) (f : (List Int) → Int → Int → Int → Int → Option Ret) : Option Ret := match d with | ((x0, (x1, (_, (_, (_, (_, (_, (x7, (x8, (x9, _)))))))))), _, _) => f x0 x1 x7 x8 x9
noncomputable def P_s_l01Rune_18_0 (x0 : List Int) (x1 : Int) (x7 : Int) (x8 : Int) (x9 : Int) (nx0 : (List Int) → Int → Int → Int → Int → Option Ret) (k0 : (List Int) → Int → Int → Int → Option Ret) : Option Ret := (bif (decide (x9 < x7)) then (bif ((decide ((0 : Int) ≤ (IntKind.wrap .i64 (x1 + x9)))) && (decide ((IntKind.wrap .i64 (x1 + x9)) < (((List.length x0) : Nat) : Int)))) then (nx0 x0 x1 x7 (IntKind.wrap .i64 ((IntKind.wrap .i64 ((IntKind.wrap .i64 ((64 : Int) * x8)) + (IntKind.wrap .i64 (List.getD x0 (Int.toNat (IntKind.wrap .i64 (x1 + x9))) (0 : Int))))) - (128 : Int))) (IntKind.wrap .i64 (x9 + (1 : Int)))) else none) else (k0 x0 x1 x7 x8))
noncomputable def Q_s_l01Rune_18_0 : Nat → (List Int) → Int → Int → Int → Int → ((List Int) → Int → Int → Int → Option Ret) → Option Ret
  | 0, _, _, _, _, _, _ => none
  | m + 1, x0, x1, x7, x8, x9, k0 => P_s_l01Rune_18_0 x0 x1 x7 x8 x9 (fun x0 x1 x7 x8 x9 => (Q_s_l01Rune_18_0 m x0 x1 x7 x8 x9 k0)) k0
noncomputable def R_s_l01Rune_18_0 (x0 : List Int) (x1 : Int) (x7 : Int) (x8 : Int) (x9 : Int) (k0 : (List Int) → Int → Int → Int → Option Ret) : Option Ret := Q_s_l01Rune_18_0 (List.length x0 + x1.toNat + x7.toNat + x8.toNat + x9.toNat + 2) x0 x1 x7 x8 x9 k0
noncomputable def W_s_l01Rune_18 : LoopFn := (fun (σ : St) (K : Ex → St → Option Ret) => (match sh_s_l01Rune_18_0.un σ with | some d => w_s_l01Rune_18_0 d (fun x0 x1 x7 x8 x9 => R_s_l01Rune_18_0 x0 x1 x7 x8 x9 (fun x0 x1 x7 x8 => (K (.ext 1) (z_s_l01Rune_18_0 x0 x1 x7 x8)))) | none => none))
noncomputable abbrev pl_s_l01Rune : List (Nat × Plan × List Nat) := [(21, takeB [0, 3, 4, 5, 6, 7, 8] (.fork (.more 1 (.fork (.more 2 (.fork (.one 9 (takes [10]))) (.one 9 (.fork (.one 2 (takes [10])))))) (.one 9 (.fork (.one 1 (.fork (.one 2 (takes [10])))))))), [])]
noncomputable abbrev ls_s_l01Rune : List (Nat × Bool × Sm) := [(N.s_RuneBytes, true, S_s_RuneBytes)]
noncomputable abbrev E_s_l01Rune : Env := En ls_s_l01Rune pl_s_l01Rune [(18, [0,1,7,8,9], [0,1,4,5,7,8], W_s_l01Rune_18)] [] false 0 []
noncomputable abbrev U_s_l01Rune_18 := rounds (run E_s_l01Rune (bodyOf F.s_l01Rune 18)) [0,1,7,8,9] [0,1,4,5,7,8]
theorem st_s_l01Rune_18_0 (m : Nat) (x0 : List Int) (x1 : Int) (x7 : Int) (x8 : Int) (x9 : Int) (K : Ex → St → Option Ret) : U_s_l01Rune_18 (m + 1) (s_s_l01Rune_18_0 x0 x1 x7 x8 x9) K = P_s_l01Rune_18_0 x0 x1 x7 x8 x9 (fun x0 x1 x7 x8 x9 => (U_s_l01Rune_18 m (s_s_l01Rune_18_0 x0 x1 x7 x8 x9) K)) (fun x0 x1 x7 x8 => (K (.ext 1) (z_s_l01Rune_18_0 x0 x1 x7 x8))) := by kernel_rfl
theorem q_s_l01Rune_18 (K : Ex → St → Option Ret) : ∀ m : Nat, (∀ (x0 : List Int) (x1 : Int) (x7 : Int) (x8 : Int) (x9 : Int), U_s_l01Rune_18 m (s_s_l01Rune_18_0 x0 x1 x7 x8 x9) K = Q_s_l01Rune_18_0 m x0 x1 x7 x8 x9 (fun x0 x1 x7 x8 => (K (.ext 1) (z_s_l01Rune_18_0 x0 x1 x7 x8))))
  | 0 => (fun _ _ _ _ _ => rfl)
  | m + 1 => (fun x0 x1 x7 x8 x9 => (by rw [st_s_l01Rune_18_0, show (fun x0 x1 x7 x8 x9 => (U_s_l01Rune_18 m (s_s_l01Rune_18_0 x0 x1 x7 x8 x9) K)) = (fun x0 x1 x7 x8 x9 => (Q_s_l01Rune_18_0 m x0 x1 x7 x8 x9 (fun x0 x1 x7 x8 => (K (.ext 1) (z_s_l01Rune_18_0 x0 x1 x7 x8))))) from funext fun x0 => funext fun x1 => funext fun x7 => funext fun x8 => funext fun x9 => (q_s_l01Rune_18 K m) x0 x1 x7 x8 x9]; rfl))
theorem loopK_s_l01Rune_18 : LoopOk E_s_l01Rune (bodyOf F.s_l01Rune 18) := by
  refine loopW_ok (n := 18) (F := W_s_l01Rune_18) (by kernel_rfl) rfl (li := [0,1,7,8,9]) (lo := [0,1,4,5,7,8]) rfl (fun σ K r hr => ?_)
  unfold W_s_l01Rune_18 at hr
  split at hr
  · rename_i d hd
    rw [Ss.un_mk hd]
    exact ⟨_, ((congrArg (fun z => U_s_l01Rune_18 _ z K) (se_s_l01Rune_18_0 _ _ _ _ _)).trans ((q_s_l01Rune_18 K _) _ _ _ _ _)).trans hr⟩
  · cases hr
noncomputable def T_s_l01Rune (d : List Int) (k : Int) (K : Ret → Option Ret) : Option Ret := (bif (decide (k < (0 : Int))) then K ((.t [(.s (.int .i64 (-(1 : Int)))), (.s (.int .i64 (0 : Int)))]), []) else (bif (decide (k ≥ (((List.length d) : Nat) : Int))) then K ((.t [(.s (.int .i64 (-(1 : Int)))), (.s (.int .i64 (0 : Int)))]), []) else (bif ((decide ((0 : Int) ≤ k)) && (decide (k < (((List.length d) : Nat) : Int)))) then (bif (decide ((IntKind.wrap .i64 (List.getD d (Int.toNat k) (0 : Int))) ≥ (240 : Int))) then (bif (decide ((4 : Int) > (IntKind.wrap .i64 ((((List.length d) : Nat) : Int) - k)))) then K ((.t [(.s (.int .i64 (-(1 : Int)))), (.s (.int .i64 (0 : Int)))]), []) else (R_s_l01Rune_18_0 d k (4 : Int) (IntKind.wrap .i64 ((IntKind.wrap .i64 (List.getD d (Int.toNat k) (0 : Int))) - (240 : Int))) (1 : Int) (fun y0 y1 y2 y3 => (bif (((decide ((0 : Int) ≤ y1)) && (decide (y1 ≤ (IntKind.wrap .i64 (y1 + y2))))) && (decide ((IntKind.wrap .i64 (y1 + y2)) ≤ (((List.length y0) : Nat) : Int)))) then (meet ((meet ((bif (!((ByteArray.toList (bstr (encD y3))) == (ByteArray.toList (bstr (List.drop (Int.toNat y1) (List.take (Int.toNat (IntKind.wrap .i64 (y1 + y2))) y0)))))) then K ((.t [(.s (.int .i64 (-(1 : Int)))), (.s (.int .i64 (0 : Int)))]), []) else K ((.t [(.s (.int .i64 y3)), (.s (.int .i64 y2))]), []))) ((bif (!((ByteArray.toList (bstr (encD y3))) == (ByteArray.toList (bstr (List.drop (Int.toNat y1) (List.take (Int.toNat (IntKind.wrap .i64 (y1 + y2))) y0)))))) then K ((.t [(.s (.int .i64 (-(1 : Int)))), (.s (.int .i64 (0 : Int)))]), []) else K ((.t [(.s (.int .i64 y3)), (.s (.int .i64 y2))]), []))))) ((bif (!((ByteArray.toList (bstr (encD y3))) == (ByteArray.toList (bstr (List.drop (Int.toNat y1) (List.take (Int.toNat (IntKind.wrap .i64 (y1 + y2))) y0)))))) then K ((.t [(.s (.int .i64 (-(1 : Int)))), (.s (.int .i64 (0 : Int)))]), []) else K ((.t [(.s (.int .i64 y3)), (.s (.int .i64 y2))]), [])))) else none)))) else (bif (decide ((IntKind.wrap .i64 (List.getD d (Int.toNat k) (0 : Int))) ≥ (224 : Int))) then (bif (decide ((3 : Int) > (IntKind.wrap .i64 ((((List.length d) : Nat) : Int) - k)))) then K ((.t [(.s (.int .i64 (-(1 : Int)))), (.s (.int .i64 (0 : Int)))]), []) else (R_s_l01Rune_18_0 d k (3 : Int) (IntKind.wrap .i64 ((IntKind.wrap .i64 (List.getD d (Int.toNat k) (0 : Int))) - (224 : Int))) (1 : Int) (fun y4 y5 y6 y7 => (bif (((decide ((0 : Int) ≤ y5)) && (decide (y5 ≤ (IntKind.wrap .i64 (y5 + y6))))) && (decide ((IntKind.wrap .i64 (y5 + y6)) ≤ (((List.length y4) : Nat) : Int)))) then (meet ((meet ((bif (!((ByteArray.toList (bstr (encD y7))) == (ByteArray.toList (bstr (List.drop (Int.toNat y5) (List.take (Int.toNat (IntKind.wrap .i64 (y5 + y6))) y4)))))) then K ((.t [(.s (.int .i64 (-(1 : Int)))), (.s (.int .i64 (0 : Int)))]), []) else K ((.t [(.s (.int .i64 y7)), (.s (.int .i64 y6))]), []))) ((bif (!((ByteArray.toList (bstr (encD y7))) == (ByteArray.toList (bstr (List.drop (Int.toNat y5) (List.take (Int.toNat (IntKind.wrap .i64 (y5 + y6))) y4)))))) then K ((.t [(.s (.int .i64 (-(1 : Int)))), (.s (.int .i64 (0 : Int)))]), []) else K ((.t [(.s (.int .i64 y7)), (.s (.int .i64 y6))]), []))))) ((bif (!((ByteArray.toList (bstr (encD y7))) == (ByteArray.toList (bstr (List.drop (Int.toNat y5) (List.take (Int.toNat (IntKind.wrap .i64 (y5 + y6))) y4)))))) then K ((.t [(.s (.int .i64 (-(1 : Int)))), (.s (.int .i64 (0 : Int)))]), []) else K ((.t [(.s (.int .i64 y7)), (.s (.int .i64 y6))]), [])))) else none)))) else (bif (decide ((IntKind.wrap .i64 (List.getD d (Int.toNat k) (0 : Int))) ≥ (192 : Int))) then (bif (decide ((2 : Int) > (IntKind.wrap .i64 ((((List.length d) : Nat) : Int) - k)))) then K ((.t [(.s (.int .i64 (-(1 : Int)))), (.s (.int .i64 (0 : Int)))]), []) else (R_s_l01Rune_18_0 d k (2 : Int) (IntKind.wrap .i64 ((IntKind.wrap .i64 (List.getD d (Int.toNat k) (0 : Int))) - (192 : Int))) (1 : Int) (fun y8 y9 y10 y11 => (bif (((decide ((0 : Int) ≤ y9)) && (decide (y9 ≤ (IntKind.wrap .i64 (y9 + y10))))) && (decide ((IntKind.wrap .i64 (y9 + y10)) ≤ (((List.length y8) : Nat) : Int)))) then (meet ((meet ((bif (!((ByteArray.toList (bstr (encD y11))) == (ByteArray.toList (bstr (List.drop (Int.toNat y9) (List.take (Int.toNat (IntKind.wrap .i64 (y9 + y10))) y8)))))) then K ((.t [(.s (.int .i64 (-(1 : Int)))), (.s (.int .i64 (0 : Int)))]), []) else K ((.t [(.s (.int .i64 y11)), (.s (.int .i64 y10))]), []))) ((bif (!((ByteArray.toList (bstr (encD y11))) == (ByteArray.toList (bstr (List.drop (Int.toNat y9) (List.take (Int.toNat (IntKind.wrap .i64 (y9 + y10))) y8)))))) then K ((.t [(.s (.int .i64 (-(1 : Int)))), (.s (.int .i64 (0 : Int)))]), []) else K ((.t [(.s (.int .i64 y11)), (.s (.int .i64 y10))]), []))))) ((bif (!((ByteArray.toList (bstr (encD y11))) == (ByteArray.toList (bstr (List.drop (Int.toNat y9) (List.take (Int.toNat (IntKind.wrap .i64 (y9 + y10))) y8)))))) then K ((.t [(.s (.int .i64 (-(1 : Int)))), (.s (.int .i64 (0 : Int)))]), []) else K ((.t [(.s (.int .i64 y11)), (.s (.int .i64 y10))]), [])))) else none)))) else (bif (decide ((1 : Int) > (IntKind.wrap .i64 ((((List.length d) : Nat) : Int) - k)))) then K ((.t [(.s (.int .i64 (-(1 : Int)))), (.s (.int .i64 (0 : Int)))]), []) else (R_s_l01Rune_18_0 d k (1 : Int) (IntKind.wrap .i64 (List.getD d (Int.toNat k) (0 : Int))) (1 : Int) (fun y12 y13 y14 y15 => (bif (((decide ((0 : Int) ≤ y13)) && (decide (y13 ≤ (IntKind.wrap .i64 (y13 + y14))))) && (decide ((IntKind.wrap .i64 (y13 + y14)) ≤ (((List.length y12) : Nat) : Int)))) then (meet ((meet ((bif (!((ByteArray.toList (bstr (encD y15))) == (ByteArray.toList (bstr (List.drop (Int.toNat y13) (List.take (Int.toNat (IntKind.wrap .i64 (y13 + y14))) y12)))))) then K ((.t [(.s (.int .i64 (-(1 : Int)))), (.s (.int .i64 (0 : Int)))]), []) else K ((.t [(.s (.int .i64 y15)), (.s (.int .i64 y14))]), []))) ((bif (!((ByteArray.toList (bstr (encD y15))) == (ByteArray.toList (bstr (List.drop (Int.toNat y13) (List.take (Int.toNat (IntKind.wrap .i64 (y13 + y14))) y12)))))) then K ((.t [(.s (.int .i64 (-(1 : Int)))), (.s (.int .i64 (0 : Int)))]), []) else K ((.t [(.s (.int .i64 y15)), (.s (.int .i64 y14))]), []))))) ((bif (!((ByteArray.toList (bstr (encD y15))) == (ByteArray.toList (bstr (List.drop (Int.toNat y13) (List.take (Int.toNat (IntKind.wrap .i64 (y13 + y14))) y12)))))) then K ((.t [(.s (.int .i64 (-(1 : Int)))), (.s (.int .i64 (0 : Int)))]), []) else K ((.t [(.s (.int .i64 y15)), (.s (.int .i64 y14))]), [])))) else none))))))) else none)))
theorem e_s_l01Rune (d : List Int) (k : Int) (K : Ret → Option Ret) : evF E_s_l01Rune true F.s_l01Rune [.l .no bytesR d, .s (.int .i64 k)] K = T_s_l01Rune d k K := by kernel_rfl
theorem rune_step {m : Nat} {d : List Int} {k n r i : Int} {k0 : List Int → Int → Int → Int → Option Ret} (hd : fitB d = true) (h0 : 0 ≤ k) (hi : 0 < i) (hn : i < n) (hl : k + i < ((d.length : Nat) : Int)) (hr : -1000000000 ≤ r ∧ r ≤ 1000000000) :
    Q_s_l01Rune_18_0 (m + 1) d k n r i k0 = Q_s_l01Rune_18_0 m d k n (64 * r + d.getD (k + i).toNat 0 - 128) (i + 1) k0 := by
  have hb := fitB_get hd (k + i).toNat
  have hlen := fitB_len hd
  show P_s_l01Rune_18_0 d k n r i _ k0 = _
  unfold P_s_l01Rune_18_0
  rw [decide_eq_true hn, wrap_in (n := k + i) (by omega) (by omega), decide_eq_true (show 0 ≤ k + i by omega), decide_eq_true hl, wrap_in (n := d.getD (k + i).toNat 0) (by omega) (by omega), wrap_in (n := 64 * r) (by omega) (by omega), wrap_in (n := 64 * r + d.getD (k + i).toNat 0) (by omega) (by omega), wrap_in (n := 64 * r + d.getD (k + i).toNat 0 - 128) (by omega) (by omega), wrap_in (n := i + 1) (by omega) (by omega)]
  rfl
theorem rune_end {m : Nat} {d : List Int} {k n r i : Int} {k0 : List Int → Int → Int → Int → Option Ret} (hn : ¬ i < n) : Q_s_l01Rune_18_0 (m + 1) d k n r i k0 = k0 d k n r := by
  show P_s_l01Rune_18_0 d k n r i _ k0 = _
  unfold P_s_l01Rune_18_0
  rw [decide_eq_false hn]; rfl
theorem rune_fin {K : Ret → Option Ret} {c : Prop} [Decidable c] {r n v s : Int} (h : (if c then (r, n) else (-1, 0)) = (v, s)) :
    (bif !(decide c) then K ((.t [(.s (.int .i64 (-(1 : Int)))), (.s (.int .i64 (0 : Int)))]), []) else K ((.t [(.s (.int .i64 r)), (.s (.int .i64 n))]), [])) = K (.t [sc v, sc s], []) := by
  by_cases hc : c
  · rw [if_pos hc] at h
    obtain ⟨rfl, rfl⟩ := Prod.mk.inj h
    rw [decide_eq_true hc]; rfl
  · rw [if_neg hc] at h
    obtain ⟨h1, h2⟩ := Prod.mk.inj h
    rw [decide_eq_false hc, ← h1, ← h2]; rfl
theorem rune_part (d : List Int) (k n : Nat) : List.drop k (List.take (k + n) d) = (d.drop k).take n := by
  rw [List.drop_take]; congr 1; omega
theorem rune_k {K : Ret → Option Ret} {d xs : List Int} {k r n v s : Int} (hd : fitB d = true) (h0 : 0 ≤ k) (hn0 : 0 ≤ n) (hn : n ≤ 4) (hl : k + n ≤ ((d.length : Nat) : Int)) (hx : (d.drop k.toNat).take n.toNat = xs) (h : (if encD r = xs then (r, n) else (-1, 0)) = (v, s)) :
    (bif (((decide ((0 : Int) ≤ k)) && (decide (k ≤ (IntKind.wrap .i64 (k + n))))) && (decide ((IntKind.wrap .i64 (k + n)) ≤ (((List.length d) : Nat) : Int)))) then
       (meet
        (meet
         (bif (!((ByteArray.toList (bstr (encD r))) == (ByteArray.toList (bstr (List.drop (Int.toNat k) (List.take (Int.toNat (IntKind.wrap .i64 (k + n))) d)))))) then
          K ((.t [(.s (.int .i64 (-(1 : Int)))), (.s (.int .i64 (0 : Int)))]), [])
          else K ((.t [(.s (.int .i64 r)), (.s (.int .i64 n))]), []))
         (bif (!((ByteArray.toList (bstr (encD r))) == (ByteArray.toList (bstr (List.drop (Int.toNat k) (List.take (Int.toNat (IntKind.wrap .i64 (k + n))) d)))))) then
          K ((.t [(.s (.int .i64 (-(1 : Int)))), (.s (.int .i64 (0 : Int)))]), [])
          else K ((.t [(.s (.int .i64 r)), (.s (.int .i64 n))]), [])))
        (bif (!((ByteArray.toList (bstr (encD r))) == (ByteArray.toList (bstr (List.drop (Int.toNat k) (List.take (Int.toNat (IntKind.wrap .i64 (k + n))) d)))))) then
         K ((.t [(.s (.int .i64 (-(1 : Int)))), (.s (.int .i64 (0 : Int)))]), [])
         else K ((.t [(.s (.int .i64 r)), (.s (.int .i64 n))]), [])))
       else none) = K (.t [sc v, sc s], []) := by
  have hlen := fitB_len hd
  rw [wrap_in (n := k + n) (by omega) (by omega), decide_eq_true h0, decide_eq_true (show k ≤ k + n by omega), decide_eq_true hl]
  rw [meet_self, meet_self]
  have e : List.drop (Int.toNat k) (List.take (Int.toNat (k + n)) d) = xs := by
    rw [← hx, show (k + n).toNat = k.toNat + n.toNat by omega]; exact rune_part d _ _
  rw [e, bstr_eq (encD_byte r) (fun y hy => by
    rw [← hx] at hy
    exact fitB_mem hd (List.mem_of_mem_drop (List.mem_of_mem_take hy)))]
  exact rune_fin h
theorem list1 {xs : List Int} (h : 1 ≤ xs.length) : ∃ a t, xs = a :: t := by
  cases xs with
  | nil => simp at h
  | cons a t => exact ⟨a, t, rfl⟩
def S_s_l01Rune : Sm := S_fnR [.l bytesR, .i] (fun d => fitB d.1) (fun d => (.t [sc (valAt d.1 d.2.1), sc (szAt d.1 d.2.1)], []))
theorem v_s_l01Rune (d : List Int) (k : Int) (h : (fitB d) = true) (K : Ret → Option Ret) : T_s_l01Rune d k K = K (.t [sc (valAt d k), sc (szAt d k)], []) := by
  unfold T_s_l01Rune valAt szAt inD
  have hlen := fitB_len h
  by_cases h1 : k < 0
  · rw [decide_eq_true h1, decide_eq_false (show ¬ 0 ≤ k by omega)]; rfl
  by_cases h2 : k ≥ ((d.length : Nat) : Int)
  · rw [decide_eq_false h1, decide_eq_true h2, decide_eq_true (show 0 ≤ k by omega), decide_eq_false (show ¬ k < ((d.length : Nat) : Int) by omega)]; rfl
  have hbk := fitB_get h k.toNat
  rw [decide_eq_false h1, decide_eq_false h2, decide_eq_true (show 0 ≤ k by omega), decide_eq_true (show k < ((d.length : Nat) : Int) by omega), wrap_in (n := d.getD k.toNat 0) (by omega) (by omega), wrap_in (n := ((d.length : Nat) : Int) - k) (by omega) (by omega)]
  simp only [Bool.and_true, cond_true, cond_false]
  have hg : ∀ i : Nat, (d.drop k.toNat).getD i 0 = d.getD (k + (i : Nat)).toNat 0 := fun i => by
    rw [getD_drop]; congr 1; omega
  have hg0 := hg 0
  rw [show (k + ((0 : Nat) : Int)).toNat = k.toNat by omega] at hg0
  have hdl : (d.drop k.toNat).length = d.length - k.toNat := by simp
  have hbytes := fun i => fitB_get (fitB_drop h k.toNat) i
  by_cases c4 : d.getD k.toNat 0 ≥ 240
  · rw [decide_eq_true c4]
    by_cases s4 : (4 : Int) > ((d.length : Nat) : Int) - k
    · rw [decide_eq_true s4]
      have e := runeSz0 (short4 (xs := d.drop k.toNat) (by rw [hg0]; exact c4) (by omega))
      obtain ⟨e1, e2⟩ := Prod.mk.inj e
      rw [e1, e2]; rfl
    · rw [decide_eq_false s4]
      unfold R_s_l01Rune_18_0
      rw [wrap_in (n := d.getD k.toNat 0 - 240) (by omega) (by omega)]
      obtain ⟨m, hm⟩ : ∃ m, List.length d + k.toNat + (4 : Int).toNat + (d.getD k.toNat 0 - 240).toNat + (1 : Int).toNat + 2 = m + 4 := ⟨List.length d + k.toNat + (4 : Int).toNat + (d.getD k.toNat 0 - 240).toNat + (1 : Int).toNat + 2 - 4, by omega⟩
      have b1 := fitB_get h (k + 1).toNat
      have b2 := fitB_get h (k + (1 + 1)).toNat
      rw [hm, rune_step h (by omega) (by omega) (by omega) (by omega) (by omega), rune_step h (by omega) (by omega) (by omega) (by omega) (by omega), rune_step h (by omega) (by omega) (by omega) (by omega) (by omega), rune_end (by omega)]
      refine rune_k h (by omega) (by omega) (by omega) (by omega) (xs := [(d.drop k.toNat).getD 0 0, (d.drop k.toNat).getD 1 0, (d.drop k.toNat).getD 2 0, (d.drop k.toNat).getD 3 0]) ?_ ?_
      · obtain ⟨a, t, e⟩ := list1 (xs := d.drop k.toNat) (by omega)
        obtain ⟨b, t2, e2⟩ := list1 (xs := t) (by rw [e] at hdl; simp at hdl; omega)
        obtain ⟨c, t3, e3⟩ := list1 (xs := t2) (by rw [e, e2] at hdl; simp at hdl; omega)
        obtain ⟨f, t4, e4⟩ := list1 (xs := t3) (by rw [e, e2, e3] at hdl; simp at hdl; omega)
        rw [e, e2, e3, e4]; rfl
      · obtain ⟨a, t, e⟩ := list1 (xs := d.drop k.toNat) (by omega)
        obtain ⟨b, t2, e2⟩ := list1 (xs := t) (by rw [e] at hdl; simp at hdl; omega)
        obtain ⟨c, t3, e3⟩ := list1 (xs := t2) (by rw [e, e2] at hdl; simp at hdl; omega)
        obtain ⟨f, t4, e4⟩ := list1 (xs := t3) (by rw [e, e2, e3] at hdl; simp at hdl; omega)
        have g1 := hg 1
        have g2 := hg 2
        have g3 := hg 3
        have q0 := hbytes 0
        have q1 := hbytes 1
        have q2 := hbytes 2
        have q3 := hbytes 3
        rw [e, e2, e3, e4] at hg0 g1 g2 g3 q0 q1 q2 q3 ⊢
        rw [show (k + 1).toNat = (k + ((1 : Nat) : Int)).toNat from rfl, show (k + (1 + 1)).toNat = (k + ((2 : Nat) : Int)).toNat by congr 1, show (k + (1 + 1 + 1)).toNat = (k + ((3 : Nat) : Int)).toNat by congr 1, ← g1, ← g2, ← g3, ← hg0]
        exact dec4 (by rw [← hg0] at c4; exact c4) q0.2 q1 q2 q3
  rw [decide_eq_false c4]
  by_cases c3 : d.getD k.toNat 0 ≥ 224
  · rw [decide_eq_true c3]
    by_cases s3 : (3 : Int) > ((d.length : Nat) : Int) - k
    · rw [decide_eq_true s3]
      have e := runeSz0 (short3 (xs := d.drop k.toNat) (by rw [hg0]; exact c3) (by rw [hg0]; omega) (by omega))
      obtain ⟨e1, e2⟩ := Prod.mk.inj e
      rw [e1, e2]; rfl
    · rw [decide_eq_false s3]
      unfold R_s_l01Rune_18_0
      rw [wrap_in (n := d.getD k.toNat 0 - 224) (by omega) (by omega)]
      obtain ⟨m, hm⟩ : ∃ m, List.length d + k.toNat + (3 : Int).toNat + (d.getD k.toNat 0 - 224).toNat + (1 : Int).toNat + 2 = m + 3 := ⟨List.length d + k.toNat + (3 : Int).toNat + (d.getD k.toNat 0 - 224).toNat + (1 : Int).toNat + 2 - 3, by omega⟩
      have b1 := fitB_get h (k + 1).toNat
      rw [hm]
      simp only [cond_false, cond_true]
      rw [rune_step h (by omega) (by omega) (by omega) (by omega) (by omega), rune_step h (by omega) (by omega) (by omega) (by omega) (by omega), rune_end (by omega)]
      refine rune_k h (by omega) (by omega) (by omega) (by omega) (xs := [(d.drop k.toNat).getD 0 0, (d.drop k.toNat).getD 1 0, (d.drop k.toNat).getD 2 0]) ?_ ?_
      · obtain ⟨a, t, e⟩ := list1 (xs := d.drop k.toNat) (by omega)
        obtain ⟨b, t2, e2⟩ := list1 (xs := t) (by rw [e] at hdl; simp at hdl; omega)
        obtain ⟨c, t3, e3⟩ := list1 (xs := t2) (by rw [e, e2] at hdl; simp at hdl; omega)
        rw [e, e2, e3]; rfl
      · obtain ⟨a, t, e⟩ := list1 (xs := d.drop k.toNat) (by omega)
        obtain ⟨b, t2, e2⟩ := list1 (xs := t) (by rw [e] at hdl; simp at hdl; omega)
        obtain ⟨c, t3, e3⟩ := list1 (xs := t2) (by rw [e, e2] at hdl; simp at hdl; omega)
        have g1 := hg 1
        have g2 := hg 2
        have q0 := hbytes 0
        have q1 := hbytes 1
        have q2 := hbytes 2
        rw [e, e2, e3] at hg0 g1 g2 q0 q1 q2 ⊢
        rw [show (k + 1).toNat = (k + ((1 : Nat) : Int)).toNat from rfl, show (k + (1 + 1)).toNat = (k + ((2 : Nat) : Int)).toNat by congr 1, ← g1, ← g2, ← hg0]
        exact dec3 (by rw [← hg0] at c3; exact c3) (by rw [← hg0] at c4; exact Int.not_le.1 c4) q1 q2
  rw [decide_eq_false c3]
  by_cases c2 : d.getD k.toNat 0 ≥ 192
  · rw [decide_eq_true c2]
    by_cases s2 : (2 : Int) > ((d.length : Nat) : Int) - k
    · rw [decide_eq_true s2]
      have e := runeSz0 (short2 (xs := d.drop k.toNat) (by rw [hg0]; exact c2) (by rw [hg0]; omega) (by omega))
      obtain ⟨e1, e2⟩ := Prod.mk.inj e
      rw [e1, e2]; rfl
    · rw [decide_eq_false s2]
      unfold R_s_l01Rune_18_0
      rw [wrap_in (n := d.getD k.toNat 0 - 192) (by omega) (by omega)]
      obtain ⟨m, hm⟩ : ∃ m, List.length d + k.toNat + (2 : Int).toNat + (d.getD k.toNat 0 - 192).toNat + (1 : Int).toNat + 2 = m + 2 := ⟨List.length d + k.toNat + (2 : Int).toNat + (d.getD k.toNat 0 - 192).toNat + (1 : Int).toNat + 2 - 2, by omega⟩
      rw [hm]
      simp only [cond_false, cond_true]
      rw [rune_step h (by omega) (by omega) (by omega) (by omega) (by omega), rune_end (by omega)]
      refine rune_k h (by omega) (by omega) (by omega) (by omega) (xs := [(d.drop k.toNat).getD 0 0, (d.drop k.toNat).getD 1 0]) ?_ ?_
      · obtain ⟨a, t, e⟩ := list1 (xs := d.drop k.toNat) (by omega)
        obtain ⟨b, t2, e2⟩ := list1 (xs := t) (by rw [e] at hdl; simp at hdl; omega)
        rw [e, e2]; rfl
      · obtain ⟨a, t, e⟩ := list1 (xs := d.drop k.toNat) (by omega)
        obtain ⟨b, t2, e2⟩ := list1 (xs := t) (by rw [e] at hdl; simp at hdl; omega)
        have g1 := hg 1
        have q0 := hbytes 0
        have q1 := hbytes 1
        rw [e, e2] at hg0 g1 q0 q1 ⊢
        rw [show (k + 1).toNat = (k + ((1 : Nat) : Int)).toNat from rfl, ← g1, ← hg0]
        exact dec2 (by rw [← hg0] at c2; exact c2) (by rw [← hg0] at c3; exact Int.not_le.1 c3) q1
  rw [decide_eq_false c2, decide_eq_false (show ¬ (1 : Int) > ((d.length : Nat) : Int) - k by omega)]
  unfold R_s_l01Rune_18_0
  obtain ⟨m, hm⟩ : ∃ m, List.length d + k.toNat + (1 : Int).toNat + (d.getD k.toNat 0).toNat + (1 : Int).toNat + 2 = m + 1 := ⟨List.length d + k.toNat + (1 : Int).toNat + (d.getD k.toNat 0).toNat + (1 : Int).toNat + 2 - 1, by omega⟩
  rw [hm]
  simp only [cond_false, cond_true]
  rw [rune_end (by omega)]
  refine rune_k h (by omega) (by omega) (by omega) (by omega) (xs := [(d.drop k.toNat).getD 0 0]) ?_ ?_
  · obtain ⟨a, t, e⟩ := list1 (xs := d.drop k.toNat) (by omega)
    rw [e]; rfl
  · obtain ⟨a, t, e⟩ := list1 (xs := d.drop k.toNat) (by omega)
    have q0 := hbytes 0
    rw [e] at hg0 q0 ⊢
    rw [← hg0]
    exact dec1 q0.1 (by rw [← hg0] at c2; exact Int.not_le.1 c2)
theorem okS_s_l01Rune : OkFn prog I N.s_l01Rune true S_s_l01Rune := okN (ok_fn (memc okS_s_RuneBytes mem0) (l := ls_s_l01Rune) (p := pl_s_l01Rune) (ls := [(18, [0,1,7,8,9], [0,1,4,5,7,8], W_s_l01Rune_18)]) (lend := []) (focus := false) (fuel := 0) (give := []) (fn := F.s_l01Rune) (by kernel_rfl) (by kernel_rfl) (by kernel_rfl) (by kernel_rfl) (cs := [bodyOf F.s_l01Rune 18]) (by kernel_rfl) (loopsc loopK_s_l01Rune_18 loops0)) (S_fnR_of fun d K h => (e_s_l01Rune d.1 d.2.1 K).trans (v_s_l01Rune d.1 d.2.1 h K))
end Go.Ev.Seat
end
section
/- s_RuneSize: its contract. -/
namespace Go.Ev.Seat
open Go.RowKit
set_option maxRecDepth 100000
set_option linter.unusedVariables false
set_option linter.unusedSimpArgs false
noncomputable abbrev ls_s_RuneSize : List (Nat × Bool × Sm) := [(N.s_l01Rune, true, S_s_l01Rune)]
noncomputable abbrev E_s_RuneSize : Env := En ls_s_RuneSize [] [] [] false 0 []
noncomputable def T_s_RuneSize (d : List Int) (k : Int) (K : Ret → Option Ret) : Option Ret := (bif (fitB d) then K ((.s (.int .i64 (szAt d k))), []) else none)
theorem e_s_RuneSize (d : List Int) (k : Int) (K : Ret → Option Ret) : evF E_s_RuneSize true F.s_RuneSize [.l .no bytesR d, .s (.int .i64 k)] K = T_s_RuneSize d k K := by kernel_rfl
def S_s_RuneSize : Sm := S_fnR [.l bytesR, .i] (fun d => fitB d.1) (fun d => (sc (szAt d.1 d.2.1), []))
theorem v_s_RuneSize (d : List Int) (k : Int) (h : (fitB d) = true) (K : Ret → Option Ret) : T_s_RuneSize d k K = K (sc (szAt d k), []) := by
  unfold T_s_RuneSize; rw [h]; rfl
theorem okS_s_RuneSize : OkFn prog I N.s_RuneSize true S_s_RuneSize := okN (ok_fn (memc okS_s_l01Rune mem0) (l := ls_s_RuneSize) (p := []) (ls := []) (lend := []) (focus := false) (fuel := 0) (give := []) (fn := F.s_RuneSize) (by kernel_rfl) (by kernel_rfl) (by kernel_rfl) (by kernel_rfl) (cs := []) (by kernel_rfl) loops0) (S_fnR_of fun d K h => (e_s_RuneSize d.1 d.2.1 K).trans (v_s_RuneSize d.1 d.2.1 h K))
end Go.Ev.Seat
end
section
/- s_l01Cuts: its contract. -/
namespace Go.Ev.Seat
open Go.RowKit
set_option maxRecDepth 100000
set_option linter.unusedVariables false
set_option linter.unusedSimpArgs false
def z_s_l01Cuts_5_0 (x4 : Int) (o0 : List Int) : St := { tm := ([.x, .x, .nl, (.w 0), (.s (.int .i64 x4))] ++ List.replicate 25 .x), ob := [(0, (.arr true true intR o0))], nx := 1, io := [] }
def z_s_l01Cuts_5_1 (x4 : Int) (o0 : List Int) : St := { tm := ([.x, .x, .x, (.w 0), (.s (.int .i64 x4))] ++ List.replicate 25 .x), ob := [(0, (.arr true true intR o0))], nx := 1, io := [] }
def sh_s_l01Cuts_5_0 : Ss := { tm := (.cons (.l .no bytesR) (.cons (.x) (.cons (.x) (.cons (.w 0) (.cons (.int .i64) (xsh 25)))))), ob := (.arr true true intR .nil), nx := 1, io := .nil }
def d_s_l01Cuts_5_0 (x0 : List Int) (x4 : Int) (o0 : List Int) : sh_s_l01Cuts_5_0.T := ((x0, ((), ((), ((), (x4, xd 25))))), (o0, ()), ())
def s_s_l01Cuts_5_0 (x0 : List Int) (x4 : Int) (o0 : List Int) : St := { tm := ([(.l .no bytesR x0), .x, .x, (.w 0), (.s (.int .i64 x4))] ++ List.replicate 25 .x), ob := [(0, (.arr true true intR o0))], nx := 1, io := [] }
theorem se_s_l01Cuts_5_0 (x0 : List Int) (x4 : Int) (o0 : List Int) : sh_s_l01Cuts_5_0.mk' (d_s_l01Cuts_5_0 x0 x4 o0) = (s_s_l01Cuts_5_0 x0 x4 o0) := by kernel_rfl
def w_s_l01Cuts_5_0 (d : sh_s_l01Cuts_5_0.T) (f : (List Int) → Int → (List Int) → Option Ret) : Option Ret := match d with | ((x0, (_, (_, (_, (x4, _))))), (o0, _), _) => f x0 x4 o0
noncomputable def P_s_l01Cuts_5_0 (x0 : List Int) (x4 : Int) (o0 : List Int) (nx0 : (List Int) → Int → (List Int) → Option Ret) (k0 : Int → (List Int) → Option Ret) (k1 : Int → (List Int) → Option Ret) : Option Ret := (bif (decide (x4 < (((List.length x0) : Nat) : Int))) then (bif (fitB x0) then (bif ((szAt x0 x4) == (0 : Int)) then (k0 x4 o0) else (bif (Nat.ble (((List.length o0) + (List.length (x4 :: ([] : List Int)))) * 8) 140737488355328) then (nx0 x0 (IntKind.wrap .i64 (x4 + (szAt x0 x4))) (o0 ++ (x4 :: ([] : List Int)))) else none)) else none) else (k1 x4 o0))
noncomputable def Q_s_l01Cuts_5_0 : Nat → (List Int) → Int → (List Int) → (Int → (List Int) → Option Ret) → (Int → (List Int) → Option Ret) → Option Ret
  | 0, _, _, _, _, _ => none
  | m + 1, x0, x4, o0, k0, k1 => P_s_l01Cuts_5_0 x0 x4 o0 (fun x0 x4 o0 => (Q_s_l01Cuts_5_0 m x0 x4 o0 k0 k1)) k0 k1
noncomputable def R_s_l01Cuts_5_0 (x0 : List Int) (x4 : Int) (o0 : List Int) (k0 : Int → (List Int) → Option Ret) (k1 : Int → (List Int) → Option Ret) : Option Ret := Q_s_l01Cuts_5_0 (List.length x0 + x4.toNat + List.length o0 + 2) x0 x4 o0 k0 k1
noncomputable def W_s_l01Cuts_5 : LoopFn := (fun (σ : St) (K : Ex → St → Option Ret) => (match sh_s_l01Cuts_5_0.un σ with | some d => w_s_l01Cuts_5_0 d (fun x0 x4 o0 => R_s_l01Cuts_5_0 x0 x4 o0 (fun x4 o0 => (K .ret (z_s_l01Cuts_5_0 x4 o0))) (fun x4 o0 => (K (.ext 0) (z_s_l01Cuts_5_1 x4 o0)))) | none => none))
noncomputable abbrev ls_s_l01Cuts : List (Nat × Bool × Sm) := [(N.s_RuneSize, true, S_s_RuneSize)]
noncomputable abbrev E_s_l01Cuts : Env := En ls_s_l01Cuts [] [(5, [0,3,4], [2,3,4], W_s_l01Cuts_5)] [] false 0 []
noncomputable abbrev U_s_l01Cuts_5 := rounds (run E_s_l01Cuts (bodyOf F.s_l01Cuts 5)) [0,3,4] [2,3,4]
theorem st_s_l01Cuts_5_0 (m : Nat) (x0 : List Int) (x4 : Int) (o0 : List Int) (K : Ex → St → Option Ret) : U_s_l01Cuts_5 (m + 1) (s_s_l01Cuts_5_0 x0 x4 o0) K = P_s_l01Cuts_5_0 x0 x4 o0 (fun x0 x4 o0 => (U_s_l01Cuts_5 m (s_s_l01Cuts_5_0 x0 x4 o0) K)) (fun x4 o0 => (K .ret (z_s_l01Cuts_5_0 x4 o0))) (fun x4 o0 => (K (.ext 0) (z_s_l01Cuts_5_1 x4 o0))) := by kernel_rfl
theorem q_s_l01Cuts_5 (K : Ex → St → Option Ret) : ∀ m : Nat, (∀ (x0 : List Int) (x4 : Int) (o0 : List Int), U_s_l01Cuts_5 m (s_s_l01Cuts_5_0 x0 x4 o0) K = Q_s_l01Cuts_5_0 m x0 x4 o0 (fun x4 o0 => (K .ret (z_s_l01Cuts_5_0 x4 o0))) (fun x4 o0 => (K (.ext 0) (z_s_l01Cuts_5_1 x4 o0))))
  | 0 => (fun _ _ _ => rfl)
  | m + 1 => (fun x0 x4 o0 => (by rw [st_s_l01Cuts_5_0, show (fun x0 x4 o0 => (U_s_l01Cuts_5 m (s_s_l01Cuts_5_0 x0 x4 o0) K)) = (fun x0 x4 o0 => (Q_s_l01Cuts_5_0 m x0 x4 o0 (fun x4 o0 => (K .ret (z_s_l01Cuts_5_0 x4 o0))) (fun x4 o0 => (K (.ext 0) (z_s_l01Cuts_5_1 x4 o0))))) from funext fun x0 => funext fun x4 => funext fun o0 => (q_s_l01Cuts_5 K m) x0 x4 o0]; rfl))
theorem loopK_s_l01Cuts_5 : LoopOk E_s_l01Cuts (bodyOf F.s_l01Cuts 5) := by
  refine loopW_ok (n := 5) (F := W_s_l01Cuts_5) (by kernel_rfl) rfl (li := [0,3,4]) (lo := [2,3,4]) rfl (fun σ K r hr => ?_)
  unfold W_s_l01Cuts_5 at hr
  split at hr
  · rename_i d hd
    rw [Ss.un_mk hd]
    exact ⟨_, ((congrArg (fun z => U_s_l01Cuts_5 _ z K) (se_s_l01Cuts_5_0 _ _ _)).trans ((q_s_l01Cuts_5 K _) _ _ _)).trans hr⟩
  · cases hr
noncomputable def T_s_l01Cuts (d : List Int) (K : Ret → Option Ret) : Option Ret := (bif (decide ((((List.length d) : Nat) : Int) > (400 : Int))) then K ((.l .deep intR ([] : List Int)), []) else (R_s_l01Cuts_5_0 d (0 : Int) ([] : List Int) (fun y0 y1 => K ((.l .deep intR ([] : List Int)), [])) (fun y2 y3 => (bif (Nat.ble (((List.length y3) + (List.length (y2 :: ([] : List Int)))) * 8) 140737488355328) then K ((.l .deep intR (y3 ++ (y2 :: ([] : List Int)))), []) else none))))
theorem e_s_l01Cuts (d : List Int) (K : Ret → Option Ret) : evF E_s_l01Cuts true F.s_l01Cuts [.l .no bytesR d] K = T_s_l01Cuts d K := by kernel_rfl
theorem cuts_loop {d : List Int} (hd : fitB d = true) (F : Option Ret) (k1 : Int → List Int → Option Ret) : ∀ (m n : Nat) (o : List Int), n ≤ d.length → d.length - n < m → o.length ≤ n →
    Q_s_l01Cuts_5_0 m d (n : Int) o (fun _ _ => F) k1 = bif valid (d.drop n) then k1 ((d.length : Nat) : Int) (o ++ starts (d.drop n) (n : Int)) else F
  | 0, n, o, _, h, _ => absurd h (by omega)
  | m + 1, n, o, hn, hm, ho => by
    have hlen := fitB_len hd
    show P_s_l01Cuts_5_0 d (n : Int) o _ _ k1 = _
    unfold P_s_l01Cuts_5_0
    by_cases hl : n < d.length
    · rw [decide_eq_true (show (n : Int) < ((d.length : Nat) : Int) by omega), hd, szAt_in (by omega) (by omega), Int.toNat_natCast]
      simp only [cond_true]
      have hle := runeSz_le (d.drop n)
      rw [List.length_drop] at hle
      by_cases h0 : runeSz (d.drop n) = 0
      · rw [h0, valid_stop h0 (by simp; omega)]; rfl
      · rw [beq_eq_false_iff_ne.2 (show ¬ ((runeSz (d.drop n) : Nat) : Int) = 0 by omega), Nat.ble_eq_true_of_le (show (o.length + [(n : Int)].length) * 8 ≤ 140737488355328 by simp; omega), wrap_in (n := (n : Int) + (runeSz (d.drop n) : Nat)) (by omega) (by omega)]
        have e : (n : Int) + ((runeSz (d.drop n) : Nat) : Int) = ((n + runeSz (d.drop n) : Nat) : Int) := by omega
        simp only [cond_false, cond_true]
        rw [e]
        refine (cuts_loop hd F k1 m (n + runeSz (d.drop n)) (o ++ [(n : Int)]) (by omega) (by omega) (by simp; omega)).trans ?_
        rw [valid_step h0, starts_step h0, List.drop_drop, List.append_assoc, List.singleton_append, e]
    · have : n = d.length := by omega
      subst this
      rw [decide_eq_false (show ¬ ((d.length : Nat) : Int) < ((d.length : Nat) : Int) by omega), List.drop_length, valid_nil, starts_stop (by rfl), List.append_nil]; rfl
def S_s_l01Cuts : Sm := S_fnR [.l bytesR] (fun d => fitB d.1) (fun d => (.l .deep intR (cutsD d.1), []))
theorem v_s_l01Cuts (d : List Int) (h : (fitB d) = true) (K : Ret → Option Ret) : T_s_l01Cuts d K = K (.l .deep intR (cutsD d), []) := by
  unfold T_s_l01Cuts cutsD
  by_cases h4 : ((d.length : Nat) : Int) > 400
  · rw [decide_eq_true h4, show textOk d = false from Bool.eq_false_iff.2 (fun he => by have := (textOk_iff.1 he).1; omega)]; rfl
  · rw [decide_eq_false h4]
    unfold R_s_l01Cuts_5_0
    have := cuts_loop h (K (.l .deep intR [], [])) (fun y2 y3 => (bif (Nat.ble (((List.length y3) + (List.length (y2 :: []))) * 8) 140737488355328) then K ((.l .deep intR (y3 ++ (y2 :: []))), []) else none)) (List.length d + (0 : Int).toNat + List.length ([] : List Int) + 2) 0 [] (by omega) (by omega) (by simp)
    refine Eq.trans this ?_
    rw [List.drop_zero]
    cases hv : valid d with
    | false => rw [show textOk d = false from Bool.eq_false_iff.2 (fun he => by have := (textOk_iff.1 he).2; rw [hv] at this; cases this)]; rfl
    | true =>
      rw [textOk_iff.2 ⟨by omega, hv⟩]
      have hs := starts_len _ d 0 (Nat.le_refl _)
      simp only [cond_true, List.nil_append]
      rw [Nat.ble_eq_true_of_le (by simp; omega), bounds_starts _ d 0 (Nat.le_refl _) hv, Int.zero_add]
      rfl
theorem okS_s_l01Cuts : OkFn prog I N.s_l01Cuts true S_s_l01Cuts := okN (ok_fn (memc okS_s_RuneSize mem0) (l := ls_s_l01Cuts) (p := []) (ls := [(5, [0,3,4], [2,3,4], W_s_l01Cuts_5)]) (lend := []) (focus := false) (fuel := 0) (give := []) (fn := F.s_l01Cuts) (by kernel_rfl) (by kernel_rfl) (by kernel_rfl) (by kernel_rfl) (cs := [bodyOf F.s_l01Cuts 5]) (by kernel_rfl) (loopsc loopK_s_l01Cuts_5 loops0)) (S_fnR_of fun d K h => (e_s_l01Cuts d.1 K).trans (v_s_l01Cuts d.1 h K))
end Go.Ev.Seat
end
section
/- s_TextOk: its contract. -/
namespace Go.Ev.Seat
open Go.RowKit
set_option maxRecDepth 100000
set_option linter.unusedVariables false
set_option linter.unusedSimpArgs false
noncomputable abbrev ls_s_TextOk : List (Nat × Bool × Sm) := [(N.s_l01Cuts, true, S_s_l01Cuts)]
noncomputable abbrev E_s_TextOk : Env := En ls_s_TextOk [] [] [] false 0 []
noncomputable def T_s_TextOk (d : List Int) (K : Ret → Option Ret) : Option Ret := (bif (fitB d) then K ((.s (.bool (decide ((((List.length (cutsD d)) : Nat) : Int) > (0 : Int))))), []) else none)
theorem e_s_TextOk (d : List Int) (K : Ret → Option Ret) : evF E_s_TextOk true F.s_TextOk [.l .no bytesR d] K = T_s_TextOk d K := by kernel_rfl
def S_s_TextOk : Sm := S_fnR [.l bytesR] (fun d => fitB d.1) (fun d => (bl (textOk d.1), []))
theorem v_s_TextOk (d : List Int) (h : (fitB d) = true) (K : Ret → Option Ret) : T_s_TextOk d K = K (bl (textOk d), []) := by
  unfold T_s_TextOk
  rw [h]
  have e : decide ((((List.length (cutsD d)) : Nat) : Int) > (0 : Int)) = textOk d := by
    unfold cutsD
    cases textOk d with
    | false => rfl
    | true => exact decide_eq_true (show (((bounds d 0).length : Nat) : Int) > 0 by have := bounds_ne d 0; omega)
  rw [e]; rfl
theorem okS_s_TextOk : OkFn prog I N.s_TextOk true S_s_TextOk := okN (ok_fn (memc okS_s_l01Cuts mem0) (l := ls_s_TextOk) (p := []) (ls := []) (lend := []) (focus := false) (fuel := 0) (give := []) (fn := F.s_TextOk) (by kernel_rfl) (by kernel_rfl) (by kernel_rfl) (by kernel_rfl) (cs := []) (by kernel_rfl) loops0) (S_fnR_of fun d K h => (e_s_TextOk d.1 K).trans (v_s_TextOk d.1 h K))
end Go.Ev.Seat
end
section
/- Decoding by bits. -/
set_option linter.unusedVariables false
namespace Go.Ev
open Go.RowKit
end Go.Ev
end
section
/- Encoding and decoding are inverse to each other. -/
set_option linter.unusedVariables false
namespace Go.Ev
open Go.RowKit
end Go.Ev
end
section
/- UTF-8: texts put together and cut. -/
set_option linter.unusedVariables false
namespace Go.Ev
open Go.RowKit
/-- The size of the rune in front hangs on its own bytes alone. -/
theorem runeSz_pre {xs ys : List Int} (h : runeSz xs ≠ 0) (hl : runeSz xs ≤ ys.length) (he : ∀ i, i < runeSz xs → ys.getD i 0 = xs.getD i 0) : runeSz ys = runeSz xs := by
  have e0 := he 0 (by omega)
  have l0 : ¬ ys.length = 0 := by omega
  by_cases n0 : xs.length = 0
  · exact absurd (by unfold runeSz; rw [if_pos n0]) h
  by_cases a1 : xs.getD 0 0 < 128
  · have s1 : runeSz xs = 1 := by unfold runeSz; rw [if_neg n0, if_pos a1]
    rw [s1]; unfold runeSz; rw [if_neg l0, e0, if_pos a1]
  by_cases a2 : xs.getD 0 0 < 194
  · exact absurd (by unfold runeSz; rw [if_neg n0, if_neg a1, if_pos a2]) h
  by_cases a3 : xs.getD 0 0 < 224
  · by_cases b : 2 ≤ xs.length ∧ 128 ≤ xs.getD 1 0 ∧ xs.getD 1 0 ≤ 191
    · have s1 : runeSz xs = 2 := by unfold runeSz; rw [if_neg n0, if_neg a1, if_neg a2, if_pos a3, if_pos b]
      have e1 := he 1 (by omega)
      rw [s1]; unfold runeSz; rw [if_neg l0, e0, if_neg a1, if_neg a2, if_pos a3, e1, if_pos ⟨by omega, b.2⟩]
    · exact absurd (by unfold runeSz; rw [if_neg n0, if_neg a1, if_neg a2, if_pos a3, if_neg b]) h
  by_cases a4 : xs.getD 0 0 < 240
  · by_cases b : 3 ≤ xs.length ∧ lo3 (xs.getD 0 0) ≤ xs.getD 1 0 ∧ xs.getD 1 0 ≤ hi3 (xs.getD 0 0) ∧ 128 ≤ xs.getD 2 0 ∧ xs.getD 2 0 ≤ 191
    · have s1 : runeSz xs = 3 := by unfold runeSz; rw [if_neg n0, if_neg a1, if_neg a2, if_neg a3, if_pos a4, if_pos b]
      have e1 := he 1 (by omega)
      have e2 := he 2 (by omega)
      rw [s1]; unfold runeSz; rw [if_neg l0, e0, if_neg a1, if_neg a2, if_neg a3, if_pos a4, e1, e2, if_pos ⟨by omega, b.2⟩]
    · exact absurd (by unfold runeSz; rw [if_neg n0, if_neg a1, if_neg a2, if_neg a3, if_pos a4, if_neg b]) h
  by_cases a5 : xs.getD 0 0 < 245
  · by_cases b : 4 ≤ xs.length ∧ lo4 (xs.getD 0 0) ≤ xs.getD 1 0 ∧ xs.getD 1 0 ≤ hi4 (xs.getD 0 0) ∧ 128 ≤ xs.getD 2 0 ∧ xs.getD 2 0 ≤ 191 ∧ 128 ≤ xs.getD 3 0 ∧ xs.getD 3 0 ≤ 191
    · have s1 : runeSz xs = 4 := by unfold runeSz; rw [if_neg n0, if_neg a1, if_neg a2, if_neg a3, if_neg a4, if_pos a5, if_pos b]
      have e1 := he 1 (by omega)
      have e2 := he 2 (by omega)
      have e3 := he 3 (by omega)
      rw [s1]; unfold runeSz; rw [if_neg l0, e0, if_neg a1, if_neg a2, if_neg a3, if_neg a4, if_pos a5, e1, e2, e3, if_pos ⟨by omega, b.2⟩]
    · exact absurd (by unfold runeSz; rw [if_neg n0, if_neg a1, if_neg a2, if_neg a3, if_neg a4, if_pos a5, if_neg b]) h
  · exact absurd (by unfold runeSz; rw [if_neg n0, if_neg a1, if_neg a2, if_neg a3, if_neg a4, if_neg a5]) h
theorem getD_app {xs ys : List Int} {i : Nat} (h : i < xs.length) : (xs ++ ys).getD i 0 = xs.getD i 0 := by
  rw [List.getD_eq_getElem?_getD, List.getD_eq_getElem?_getD, List.getElem?_append_left h]
theorem getD_take {xs : List Int} {i n : Nat} (h : i < n) : (xs.take n).getD i 0 = xs.getD i 0 := by
  rw [List.getD_eq_getElem?_getD, List.getD_eq_getElem?_getD, List.getElem?_take, if_pos h]
theorem runeSz_app {xs : List Int} (h : runeSz xs ≠ 0) (ys : List Int) : runeSz (xs ++ ys) = runeSz xs := by
  have := runeSz_le xs
  exact runeSz_pre h (by rw [List.length_append]; omega) (fun i hi => getD_app (by omega))
theorem runeSz_take {xs : List Int} (h : runeSz xs ≠ 0) {n : Nat} (hn : runeSz xs ≤ n) : runeSz (xs.take n) = runeSz xs := by
  have := runeSz_le xs
  exact runeSz_pre h (by rw [List.length_take]; omega) (fun i hi => getD_take (by omega))
theorem valid_app : ∀ (n : Nat) (xs ys : List Int), xs.length ≤ n → valid xs = true → valid (xs ++ ys) = valid ys
  | n, xs, ys, hn, hv => by
    rcases valid_cases hv with rfl | ⟨h, h2⟩
    · rfl
    · have hle := runeSz_le xs
      cases n with
      | zero => omega
      | succ n =>
        rw [valid_step (xs := xs ++ ys) (by rw [runeSz_app h]; exact h), runeSz_app h, List.drop_append_of_le_length hle]
        exact valid_app n (xs.drop (runeSz xs)) ys (by rw [List.length_drop]; omega) h2
theorem valid_append {xs ys : List Int} (h1 : valid xs = true) (h2 : valid ys = true) : valid (xs ++ ys) = true := by
  rw [valid_app xs.length xs ys (Nat.le_refl _) h1, h2]
theorem valid_cut : ∀ (n : Nat) (xs : List Int) (k : Nat), xs.length ≤ n → valid xs = true → isCutD xs ((k : Nat) : Int) = true → valid (xs.take k) = true ∧ valid (xs.drop k) = true
  | n, xs, k, hn, hv, hk => by
    by_cases k0 : k = 0
    · subst k0; exact ⟨valid_nil, hv⟩
    rcases valid_cases hv with rfl | ⟨h, h2⟩
    · simp [valid_nil]
    have hle := runeSz_le xs
    obtain ⟨c0, cj⟩ := rune_cont h
    have hr := isCutD_range hk
    cases n with
    | zero => omega
    | succ n =>
      have hks : runeSz xs ≤ k := by
        rcases Nat.lt_or_ge k (runeSz xs) with q | q
        · have := cj k (by omega) q
          unfold isCutD at hk
          rw [Bool.or_eq_true, beq_iff_eq, Bool.and_eq_true] at hk
          rcases hk with hk | ⟨_, hk⟩
          · omega
          · rw [Int.toNat_natCast, this] at hk; cases hk
        · exact q
      have hk2 : isCutD (xs.drop (runeSz xs)) ((k - runeSz xs : Nat) : Int) = true := by
        unfold isCutD at hk ⊢
        rw [List.length_drop, getD_drop]
        rw [Bool.or_eq_true, beq_iff_eq, Bool.and_eq_true, Bool.and_eq_true, decide_eq_true_iff, decide_eq_true_iff] at hk ⊢
        rcases hk with hk | ⟨⟨_, hk1⟩, hk2⟩
        · left; omega
        · right
          rw [Int.toNat_natCast] at hk2 ⊢
          rw [show runeSz xs + (k - runeSz xs) = k by omega]
          exact ⟨⟨by omega, by omega⟩, hk2⟩
      obtain ⟨i1, i2⟩ := valid_cut n (xs.drop (runeSz xs)) (k - runeSz xs) (by rw [List.length_drop]; omega) h2 hk2
      refine ⟨?_, ?_⟩
      · have ht : runeSz (xs.take k) = runeSz xs := runeSz_take h hks
        rw [valid_step (xs := xs.take k) (by rw [ht]; exact h), ht, List.drop_take]
        exact i1
      · rw [List.drop_drop, show runeSz xs + (k - runeSz xs) = k by omega] at i2
        exact i2
end Go.Ev
end
section
/- How many runes a text has. -/
set_option linter.unusedVariables false
namespace Go.Ev
open Go.RowKit
/-- The number of runes in front. -/
def cntR (xs : List Int) : Nat := (starts xs 0).length
theorem starts_cnt : ∀ (n : Nat) (xs : List Int) (k : Int), xs.length ≤ n → (starts xs k).length = cntR xs
  | n, xs, k, hn => by
    unfold cntR
    by_cases h : runeSz xs = 0
    · rw [starts_stop h, starts_stop h]
    · have hle := runeSz_le xs
      cases n with
      | zero => omega
      | succ n =>
        rw [starts_step h, starts_step h, List.length_cons, List.length_cons, starts_cnt n _ _ (by simp; omega), starts_cnt n _ (0 + _) (by simp; omega)]
  termination_by n => n
theorem cntR_nil : cntR [] = 0 := by unfold cntR; rw [starts_stop rfl]; rfl
theorem cntR_step {xs : List Int} (h : runeSz xs ≠ 0) : cntR xs = cntR (xs.drop (runeSz xs)) + 1 := by
  conv => lhs; unfold cntR
  rw [starts_step h, List.length_cons, starts_cnt _ _ _ (Nat.le_refl _)]
theorem cntR_le (xs : List Int) : cntR xs ≤ xs.length := starts_len _ xs 0 (Nat.le_refl _)
theorem cntR_app : ∀ (n : Nat) (xs ys : List Int), xs.length ≤ n → valid xs = true → cntR (xs ++ ys) = cntR xs + cntR ys
  | n, xs, ys, hn, hv => by
    rcases valid_cases hv with rfl | ⟨h, hv'⟩
    · rw [cntR_nil, List.nil_append, Nat.zero_add]
    · have hle := runeSz_le xs
      cases n with
      | zero => omega
      | succ n =>
        have e := runeSz_app h ys
        rw [cntR_step h, cntR_step (xs := xs ++ ys) (by rw [e]; exact h), e, List.drop_append_of_le_length hle, cntR_app n _ ys (by simp; omega) hv']
        omega
  termination_by n => n
theorem valid_dropn : ∀ (n : Nat) {xs : List Int}, (∀ i, i < n → xs.getD i 0 < 128) → n ≤ xs.length → cntR xs = n + cntR (xs.drop n)
  | 0, xs, _, _ => by rw [List.drop_zero, Nat.zero_add]
  | n + 1, xs, h, hl => by
    have e : runeSz xs = 1 := runeSz_ascii (by omega) (h 0 (by omega))
    rw [cntR_step (xs := xs) (by omega), e, valid_dropn n (xs := xs.drop 1) (fun i hi => by rw [getD_drop]; exact h _ (by omega)) (by simp; omega), List.drop_drop, Nat.add_comm 1 n]
    omega
theorem width_ok {q : List Int} (hf : fitB q = true) (h : runeSz q ≠ 0) : (Lib.decodeN q.length (q.getD 0 0).toNat (q.getD 1 0).toNat (q.getD 2 0).toNat (q.getD 3 0).toNat).2 = runeSz q := by
  have b0 := fitB_get hf 0
  have b1 := fitB_get hf 1
  have b2 := fitB_get hf 2
  have b3 := fitB_get hf 3
  revert h
  unfold runeSz Lib.decodeN
  generalize q.getD 0 0 = x0 at *
  generalize q.getD 1 0 = x1 at *
  generalize q.getD 2 0 = x2 at *
  generalize q.getD 3 0 = x3 at *
  generalize q.length = n at *
  intro h
  by_cases c0 : n = 0
  · rw [if_pos c0] at h; exact absurd rfl h
  rw [if_neg c0] at h ⊢
  by_cases c1 : x0 < 128
  · rw [if_pos c1, if_pos (by omega)]
  rw [if_neg c1] at h ⊢
  rw [if_neg (show ¬ x0.toNat < 128 by omega)]
  by_cases c2 : x0 < 194
  · rw [if_pos c2] at h; exact absurd rfl h
  rw [if_neg c2] at h ⊢
  by_cases c3 : x0 < 224
  · rw [if_pos c3] at h ⊢
    by_cases k : 2 ≤ n ∧ 128 ≤ x1 ∧ x1 ≤ 191
    · rw [if_pos k, if_pos (by omega), if_pos (by omega)]
    · rw [if_neg k] at h; exact absurd rfl h
  rw [if_neg c3] at h ⊢
  rw [if_neg (show ¬ (x0.toNat / 32 = 6 ∧ (1 < n ∧ x1.toNat / 64 = 2)) by omega)]
  by_cases c4 : x0 < 240
  · rw [if_pos c4] at h ⊢
    by_cases k : 3 ≤ n ∧ lo3 x0 ≤ x1 ∧ x1 ≤ hi3 x0 ∧ 128 ≤ x2 ∧ x2 ≤ 191
    · rw [if_pos k]
      unfold lo3 hi3 at k
      rw [if_pos (by split at k <;> split at k <;> omega), if_pos (by split at k <;> split at k <;> omega)]
    · rw [if_neg k] at h; exact absurd rfl h
  rw [if_neg c4] at h ⊢
  rw [if_neg (show ¬ (x0.toNat / 16 = 14 ∧ (1 < n ∧ x1.toNat / 64 = 2) ∧ (2 < n ∧ x2.toNat / 64 = 2)) by omega)]
  by_cases c5 : x0 < 245
  · rw [if_pos c5] at h ⊢
    by_cases k : 4 ≤ n ∧ lo4 x0 ≤ x1 ∧ x1 ≤ hi4 x0 ∧ 128 ≤ x2 ∧ x2 ≤ 191 ∧ 128 ≤ x3 ∧ x3 ≤ 191
    · rw [if_pos k]
      unfold lo4 hi4 at k
      rw [if_pos (by split at k <;> split at k <;> omega), if_pos (by split at k <;> split at k <;> omega)]
    · rw [if_neg k] at h; exact absurd rfl h
  · rw [if_neg c5] at h; exact absurd rfl h
theorem bstr_size (xs : List Int) : (bstr xs).size = xs.length := by
  show ((xs.map fun n => UInt8.ofNat n.toNat).toArray).size = _
  rw [List.size_toArray, List.length_map]
theorem bstr_get {xs : List Int} (hf : fitB xs = true) (i : Nat) : ((bstr xs).get! i).toNat = (xs.getD i 0).toNat := by
  rw [← Lib.getD_get!']
  have e : (bstr xs).data.toList = xs.map (fun n => UInt8.ofNat n.toNat) := rfl
  have hb := fitB_get hf i
  have e2 : (xs.map (fun n : Int => UInt8.ofNat n.toNat)).getD i 0 = UInt8.ofNat (xs.getD i 0).toNat := by
    rw [List.getD_eq_getElem?_getD, List.getD_eq_getElem?_getD, List.getElem?_map]
    cases xs[i]? <;> rfl
  rw [e, e2, UInt8.toNat_ofNat']
  omega
theorem decode_width {xs : List Int} (hf : fitB xs = true) {i : Nat} (h : runeSz (xs.drop i) ≠ 0) : (Utf8.decode (bstr xs) i).2 = runeSz (xs.drop i) := by
  have := width_ok (fitB_drop hf i) h
  rw [getD_drop, getD_drop, getD_drop, getD_drop, List.length_drop] at this
  rw [Lib.decode_at, bstr_size, bstr_get hf, bstr_get hf, bstr_get hf, bstr_get hf]
  exact this
theorem count_from {xs : List Int} (hf : fitB xs = true) : ∀ (fuel pos : Nat), xs.length - pos ≤ fuel → valid (xs.drop pos) = true → Lib.runeCountFrom (bstr xs) fuel pos = cntR (xs.drop pos)
  | 0, pos, hl, hv => by
    rw [List.drop_eq_nil_of_le (by omega), cntR_nil]; rfl
  | fuel + 1, pos, hl, hv => by
    unfold Lib.runeCountFrom
    rw [bstr_size]
    by_cases h : pos < xs.length
    · rcases valid_cases hv with e | ⟨hz, hv'⟩
      · have := congrArg List.length e
        simp at this; omega
      · rw [if_pos h, decode_width hf hz, cntR_step hz]
        rw [List.drop_drop] at hv' ⊢
        rw [count_from hf fuel _ (by omega) hv']
        omega
    · rw [if_neg h, List.drop_eq_nil_of_le (by omega), cntR_nil]
theorem runeCount_ok {xs : List Int} (hf : fitB xs = true) (hv : valid xs = true) : Lib.runeCount (bstr xs) = cntR xs := by
  unfold Lib.runeCount
  rw [bstr_size]
  exact count_from hf _ 0 (by omega) hv
end Go.Ev
end
section
/- Offsets and places of a text. -/
set_option linter.unusedVariables false
namespace Go.Ev
open Go.RowKit
theorem cut_step {xs : List Int} {k : Nat} (hv : valid xs = true) (hk : isCutD xs ((k : Nat) : Int) = true) (k0 : k ≠ 0) : runeSz xs ≠ 0 ∧ runeSz xs ≤ k ∧ k ≤ xs.length ∧ valid (xs.drop (runeSz xs)) = true ∧ isCutD (xs.drop (runeSz xs)) ((k - runeSz xs : Nat) : Int) = true := by
  have hr := isCutD_range hk
  rcases valid_cases hv with rfl | ⟨h, h2⟩
  · simp at hr; omega
  have hle := runeSz_le xs
  obtain ⟨c0, cj⟩ := rune_cont h
  have hks : runeSz xs ≤ k := by
    rcases Nat.lt_or_ge k (runeSz xs) with q | q
    · have := cj k (by omega) q
      unfold isCutD at hk
      rw [Bool.or_eq_true, beq_iff_eq, Bool.and_eq_true] at hk
      rcases hk with hk | ⟨_, hk⟩
      · omega
      · rw [Int.toNat_natCast, this] at hk; cases hk
    · exact q
  refine ⟨h, hks, by omega, h2, ?_⟩
  unfold isCutD at hk ⊢
  rw [List.length_drop, getD_drop]
  rw [Bool.or_eq_true, beq_iff_eq, Bool.and_eq_true, Bool.and_eq_true, decide_eq_true_iff, decide_eq_true_iff] at hk ⊢
  rcases hk with hk | ⟨⟨_, hk1⟩, hk2⟩
  · left; omega
  · right
    rw [Int.toNat_natCast] at hk2 ⊢
    rw [show runeSz xs + (k - runeSz xs) = k by omega]
    exact ⟨⟨by omega, by omega⟩, hk2⟩
theorem cut_len (t : List Int) : isCutD t ((t.length : Nat) : Int) = true := by unfold isCutD; rw [beq_self_eq_true]; rfl
end Go.Ev
end
section
/- Offsets in chunks. -/
set_option linter.unusedVariables false
namespace Go.Ev
open Go.RowKit
end Go.Ev
end
section
/- A text cut into chunks; the numbers of a text. -/
set_option linter.unusedVariables false
namespace Go.Ev
open Go.RowKit
/-- The greatest boundary up to n. -/
def lastCut (xs : List Int) : Nat → Nat
  | 0 => 0
  | n + 1 => bif isCutD xs ((n + 1 : Nat) : Int) then n + 1 else lastCut xs n
theorem lastCut_le (xs : List Int) : ∀ n, lastCut xs n ≤ n
  | 0 => Nat.le_refl _
  | n + 1 => by
    unfold lastCut
    cases isCutD xs ((n + 1 : Nat) : Int) with
    | true => exact Nat.le_refl _
    | false => have := lastCut_le xs n; rw [cond_false]; omega
theorem lastCut_cut {xs : List Int} (h0 : isCutD xs 0 = true) : ∀ n, isCutD xs ((lastCut xs n : Nat) : Int) = true
  | 0 => h0
  | n + 1 => by
    unfold lastCut
    cases h : isCutD xs ((n + 1 : Nat) : Int) with
    | true => rw [cond_true]; exact h
    | false => rw [cond_false]; exact lastCut_cut h0 n
theorem lastCut_max {xs : List Int} : ∀ (n k : Nat), k ≤ n → isCutD xs ((k : Nat) : Int) = true → k ≤ lastCut xs n
  | 0, k, hk, _ => by omega
  | n + 1, k, hk, hc => by
    unfold lastCut
    cases h : isCutD xs ((n + 1 : Nat) : Int) with
    | true => rw [cond_true]; exact hk
    | false =>
      rw [cond_false]
      by_cases e : k = n + 1
      · subst e; rw [h] at hc; cases hc
      · exact lastCut_max n k (by omega) hc
theorem cut_zero {xs : List Int} (hv : valid xs = true) : isCutD xs 0 = true := by
  rcases valid_cases hv with rfl | ⟨h, _⟩
  · rfl
  · have hle := runeSz_le xs
    unfold isCutD
    rw [decide_eq_true (show (0 : Int) ≤ 0 by omega), decide_eq_true (show (0 : Int) < ((xs.length : Nat) : Int) by omega), show Int.toNat 0 = 0 from rfl, (rune_cont h).1, Bool.or_eq_true]
    exact .inr rfl
theorem cut_add {xs : List Int} {c r : Nat} (hc : c ≤ xs.length) (h : isCutD (xs.drop c) ((r : Nat) : Int) = true) : isCutD xs ((c + r : Nat) : Int) = true := by
  unfold isCutD at h ⊢
  rw [List.length_drop, getD_drop, Int.toNat_natCast] at h
  rw [Int.toNat_natCast]
  rw [Bool.or_eq_true, beq_iff_eq, Bool.and_eq_true, Bool.and_eq_true, decide_eq_true_iff, decide_eq_true_iff] at h ⊢
  rcases h with h | ⟨⟨h1, h2⟩, h3⟩
  · left; omega
  · right; exact ⟨⟨by omega, by omega⟩, h3⟩
theorem cut_rune {xs : List Int} (hv : valid xs = true) (h : runeSz xs ≠ 0) : isCutD xs ((runeSz xs : Nat) : Int) = true := by
  have h2 : valid (xs.drop (runeSz xs)) = true := by rw [← valid_step h]; exact hv
  have := cut_add (r := 0) (runeSz_le xs) (cut_zero h2)
  rwa [Nat.add_zero] at this
theorem chunk_pos {xs : List Int} (hv : valid xs = true) (hx : xs ≠ []) : 1 ≤ lastCut xs (min 16 xs.length) := by
  rcases valid_cases hv with e | ⟨h, _⟩
  · exact absurd e hx
  · have h1 := runeSz_le xs
    have h2 := runeSz_le4 xs
    have := lastCut_max (xs := xs) (min 16 xs.length) (runeSz xs) (by omega) (cut_rune hv h)
    omega
def chunksL (xs : List Int) : List (List Int) := if h : lastCut xs (min 16 xs.length) = 0 then [] else xs.take (lastCut xs (min 16 xs.length)) :: chunksL (xs.drop (lastCut xs (min 16 xs.length)))
termination_by xs.length
decreasing_by
  have := lastCut_le xs (min 16 xs.length)
  simp; omega
theorem chunksL_nil : chunksL [] = [] := by unfold chunksL; rfl
theorem chunksL_step {xs : List Int} (hv : valid xs = true) (hx : xs ≠ []) : chunksL xs = xs.take (lastCut xs (min 16 xs.length)) :: chunksL (xs.drop (lastCut xs (min 16 xs.length))) := by
  have := chunk_pos hv hx
  conv => lhs; unfold chunksL
  rw [dif_neg (by omega)]
/-- Is there no room for the next rune? -/
def tightL : List (List Int) → Prop
  | a :: b :: l => 16 < a.length + runeSz b ∧ tightL (b :: l)
  | _ => True
theorem chunksL_ok : ∀ (n : Nat) (xs : List Int), xs.length ≤ n → valid xs = true → (chunksL xs).flatten = xs ∧ (∀ d ∈ chunksL xs, 1 ≤ d.length ∧ d.length ≤ 16 ∧ valid d = true) ∧ tightL (chunksL xs) ∧ (xs ≠ [] → runeSz ((chunksL xs).getD 0 []) = runeSz xs)
  | n, xs, hn, hv => by
    by_cases hx : xs = []
    · subst hx
      rw [chunksL_nil]
      exact ⟨rfl, fun _ h => (nomatch h), trivial, fun h => absurd rfl h⟩
    · have hp := chunk_pos hv hx
      have hle := lastCut_le xs (min 16 xs.length)
      have hc := lastCut_cut (cut_zero hv) (min 16 xs.length)
      have hm := lastCut_max (xs := xs) (min 16 xs.length)
      obtain ⟨v1, v2⟩ := valid_cut _ xs _ (Nat.le_refl _) hv hc
      have hz : runeSz xs ≠ 0 := by
        rcases valid_cases hv with e | ⟨h, _⟩
        · exact absurd e hx
        · exact h
      have hzc : runeSz xs ≤ lastCut xs (min 16 xs.length) := hm _ (by have := runeSz_le xs; have := runeSz_le4 xs; omega) (cut_rune hv hz)
      rw [chunksL_step hv hx]
      generalize lastCut xs (min 16 xs.length) = c at *
      cases n with
      | zero => exact absurd (List.length_eq_zero_iff.1 (by omega)) hx
      | succ n =>
        obtain ⟨i1, i2, i3, i4⟩ := chunksL_ok n (xs.drop c) (by rw [List.length_drop]; omega) v2
        refine ⟨by rw [List.flatten_cons, i1, List.take_append_drop], fun d hd => ?_, ?_, fun _ => ?_⟩
        · rcases List.mem_cons.1 hd with rfl | hd
          · rw [List.length_take]; exact ⟨by omega, by omega, v1⟩
          · exact i2 d hd
        · cases hb : chunksL (xs.drop c) with
          | nil => trivial
          | cons b l =>
            have hdn : xs.drop c ≠ [] := fun e => by rw [e, chunksL_nil] at hb; cases hb
            have h4 := i4 hdn
            rw [hb] at h4 i3
            refine ⟨?_, i3⟩
            have h4' : runeSz b = runeSz (xs.drop c) := h4
            have hz2 : runeSz (xs.drop c) ≠ 0 := by
              rcases valid_cases v2 with e | ⟨h, _⟩
              · exact absurd e hdn
              · exact h
            have hl2 := runeSz_le (xs.drop c)
            have hcut := cut_add (by omega) (cut_rune v2 hz2)
            rw [List.length_drop] at hl2
            rw [h4', List.length_take]
            have := hm (c + runeSz (xs.drop c))
            by_cases hq : c + runeSz (xs.drop c) ≤ 16
            · have := this (by omega) hcut
              omega
            · omega
        · exact runeSz_take hz hzc
  termination_by n => n
/-! ### Numbers of a text -/
def cntB (xs ys : List Int) : Nat := Lib.countByte (Lib.bytesOf xs) (ys.getD 0 0).toNat.toUInt8
theorem cntB_app (xs zs ys : List Int) : cntB (xs ++ zs) ys = cntB xs ys + cntB zs ys := by
  unfold cntB Lib.countByte Lib.bytesOf
  rw [List.map_append, List.count_append]
theorem cntB_le (xs ys : List Int) : cntB xs ys ≤ xs.length := by
  unfold cntB Lib.countByte Lib.bytesOf
  have := List.count_le_length (a := (ys.getD 0 0).toNat.toUInt8) (l := xs.map fun n => UInt8.ofNat n.toNat)
  rwa [List.length_map] at this
def measD (d : List Int) : Int × Int × Int := bif textOk d then (((d.length : Nat) : Int), ((cntR d : Nat) : Int), ((cntB d [10] : Nat) : Int)) else (0, 0, 0)
end Go.Ev
end
