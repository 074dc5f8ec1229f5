/- ReqBack: parts EvShape EvLib EvGen EvSum EvSig EvWeak EvSigN EvRows PUtf PEdit PReq PLoop PEvent PMove EvFit PMoveF Flbig PDraw Fsl01Open EvSplit Fsl01Curpick Fsl01Cursize Fsl01Currune FsRuneBytes Fsl01Curtext Fsl01Curonce PDraw2 Fsl01Curreq Fsl01Curraw, packed by squash.py. -/
import Derived.Lib.Strings
import Derived.Test.YtinmmaccoenphaaDoorZReqBack0
import Derived.Test.YtinmmaccoenphaaDoorZReqBack1
import Derived.Test.YtinmmaccoenphaaDoorZReqBack2
set_option linter.unusedVariables false
set_option linter.unusedSimpArgs false
section
/- Shapes of states: which data stand where. -/
set_option linter.unusedVariables false
namespace Go.Ev

mutual
inductive Sh where
  | x | nl | int (k : IntKind) | bool | str | l (o : Ow) (r : Rw) | w (k : Nat) | pb (k c : Nat) | a (ss : ShL) | io (ss : ShL) | f (g : Nat) (ss : ShL) | qb (ss : ShL) (c : Nat) | lit (v : Value) | q (r : Rw) (c : Nat) | r (k : Nat) | pa (k c : Nat)
inductive ShL where
  | nil
  | cons (s : Sh) (ss : ShL)
end
mutual
@[reducible] def Sh.T : Sh → Type
  | .int _ => Int
  | .bool => Bool
  | .str => ByteArray
  | .l _ r => List r.T
  | .a ss => ss.T
  | .io ss => ss.T
  | .f _ ss => ss.T
  | .qb ss _ => ss.T
  | .q r _ => r.T
  | .r _ => Nat × Nat
  | .pa _ _ => Nat
  | _ => Unit
@[reducible] def ShL.T : ShL → Type
  | .nil => Unit
  | .cons s ss => s.T × ss.T
end
mutual
def Sh.mk : (s : Sh) → s.T → V
  | .x, _ => .x
  | .nl, _ => .nl
  | .int k, n => .s (.int k n)
  | .bool, b => .s (.bool b)
  | .str, b => .s (.string b)
  | .l o r, xs => .l o r xs
  | .w k, _ => .w k
  | .pb k c, _ => .pb k c
  | .a ss, d => .a (ss.mk d)
  | .io ss, d => .io (ss.mk d)
  | .f g ss, d => .f g (ss.mk d)
  | .qb ss c, d => .qb (ss.mk d) c
  | .lit v, _ => .s v
  | .q r c, d => .q r d c
  | .r k, d => .r k d.1 d.2
  | .pa k c, i => .pa k i c
def ShL.mk : (ss : ShL) → ss.T → List V
  | .nil, _ => []
  | .cons s ss, d => s.mk d.1 :: ss.mk d.2
end
mutual
def Sh.un : (s : Sh) → V → Option s.T
  | .x, .x => some ()
  | .nl, .nl => some ()
  | .int k, .s (.int k' n) => if k' = k then some n else none
  | .bool, .s (.bool b) => some b
  | .str, .s (.string b) => some b
  | .l o r, .l o' r' xs => if h : r' = r then (if o' = o then some (h ▸ xs) else none) else none
  | .w k, .w j => bif Nat.beq j k then some () else none
  | .pb k c, .pb j e => bif Nat.beq j k && Nat.beq e c then some () else none
  | .a ss, .a cs => ss.un cs
  | .io ss, .io cs => ss.un cs
  | .f g ss, .f g' cs => bif Nat.beq g' g then ss.un cs else none
  | .qb ss c, .qb cs c' => bif Nat.beq c' c then ss.un cs else none
  | .q r c, .q r' d c' => if h : r' = r then (bif Nat.beq c' c then some (h ▸ d) else none) else none
  | .r k, .r j off len => bif Nat.beq j k then some (off, len) else none
  | .pa k c, .pa j i e => bif Nat.beq j k && Nat.beq e c then some i else none
  | _, _ => none
def ShL.un : (ss : ShL) → List V → Option ss.T
  | .nil, [] => some ()
  | .cons s ss, v :: vs => match s.un v with
    | some d => match ss.un vs with
      | some e => some (d, e)
      | none => none
    | none => none
  | _, _ => none
end
mutual
theorem Sh.un_mk : (s : Sh) → {v : V} → {d : s.T} → s.un v = some d → v = s.mk d
  | .x, v, d, h => by cases v <;> simp [Sh.un] at h; rfl
  | .nl, v, d, h => by cases v <;> simp [Sh.un] at h; rfl
  | .int k, v, d, h => by
    cases v with
    | s u =>
      cases u with
      | int k' n =>
        simp only [Sh.un] at h
        split at h
        · rename_i hk; subst hk; cases h; rfl
        · cases h
      | _ => simp [Sh.un] at h
    | _ => simp [Sh.un] at h
  | .bool, v, d, h => by
    cases v with
    | s u =>
      cases u with
      | bool b => simp only [Sh.un] at h; cases h; rfl
      | _ => simp [Sh.un] at h
    | _ => simp [Sh.un] at h
  | .str, v, d, h => by
    cases v with
    | s u =>
      cases u with
      | string b => simp only [Sh.un] at h; cases h; rfl
      | _ => simp [Sh.un] at h
    | _ => simp [Sh.un] at h
  | .l o r, v, d, h => by
    cases v with
    | l o' r' xs =>
      simp only [Sh.un] at h
      split at h
      · rename_i hr
        subst hr
        split at h
        · rename_i ho; subst ho; cases h; rfl
        · cases h
      · cases h
    | _ => simp [Sh.un] at h
  | .lit u, v, d, h => by simp [Sh.un] at h
  | .io ss, v, d, h => by
    cases v with
    | io cs => simp only [Sh.un] at h; simp only [Sh.mk]; rw [ShL.un_mk ss h]
    | _ => simp [Sh.un] at h
  | .f g ss, v, d, h => by
    cases v with
    | f g' cs =>
      simp only [Sh.un] at h
      cases e : Nat.beq g' g with
      | true => rw [e] at h; simp only [Sh.mk]; rw [ShL.un_mk ss h, Nat.eq_of_beq_eq_true e]
      | false => rw [e] at h; cases h
    | _ => simp [Sh.un] at h
  | .qb ss c, v, d, h => by
    cases v with
    | qb cs c' =>
      simp only [Sh.un] at h
      cases e : Nat.beq c' c with
      | true => rw [e] at h; simp only [Sh.mk]; rw [ShL.un_mk ss h, Nat.eq_of_beq_eq_true e]
      | false => rw [e] at h; cases h
    | _ => simp [Sh.un] at h
  | .q r c, v, d, h => by
    cases v with
    | q r' e c' =>
      simp only [Sh.un] at h
      split at h
      · rename_i hr
        subst hr
        cases e1 : Nat.beq c' c with
        | true => rw [e1] at h; cases h; rw [Nat.eq_of_beq_eq_true e1]; rfl
        | false => rw [e1] at h; cases h
      · cases h
    | _ => simp [Sh.un] at h
  | .r k, v, d, h => by
    cases v with
    | r j off len =>
      simp only [Sh.un] at h
      cases e : Nat.beq j k with
      | true => rw [e] at h; cases h; rw [Nat.eq_of_beq_eq_true e]; rfl
      | false => rw [e] at h; cases h
    | _ => simp [Sh.un] at h
  | .pa k c, v, d, h => by
    cases v with
    | pa j i e =>
      simp only [Sh.un] at h
      cases e1 : (Nat.beq j k && Nat.beq e c) with
      | true =>
        rw [e1] at h
        simp only [Bool.and_eq_true] at e1
        cases h
        rw [Nat.eq_of_beq_eq_true e1.1, Nat.eq_of_beq_eq_true e1.2]; rfl
      | false => rw [e1] at h; cases h
    | _ => simp [Sh.un] at h
  | .w k, v, d, h => by
    cases v with
    | w j =>
      simp only [Sh.un] at h
      cases e : Nat.beq j k with
      | true => rw [Nat.eq_of_beq_eq_true e]; rfl
      | false => rw [e] at h; cases h
    | _ => simp [Sh.un] at h
  | .pb k c, v, d, h => by
    cases v with
    | pb j e =>
      simp only [Sh.un] at h
      cases e1 : (Nat.beq j k && Nat.beq e c) with
      | true =>
        simp only [Bool.and_eq_true] at e1
        rw [Nat.eq_of_beq_eq_true e1.1, Nat.eq_of_beq_eq_true e1.2]; rfl
      | false => rw [e1] at h; cases h
    | _ => simp [Sh.un] at h
  | .a ss, v, d, h => by
    cases v with
    | a cs => simp only [Sh.un] at h; simp only [Sh.mk]; rw [ShL.un_mk ss h]
    | _ => simp [Sh.un] at h
theorem ShL.un_mk : (ss : ShL) → {vs : List V} → {d : ss.T} → ss.un vs = some d → vs = ss.mk d
  | .nil, [], d, h => rfl
  | .nil, _ :: _, d, h => by simp [ShL.un] at h
  | .cons s ss, [], d, h => by simp [ShL.un] at h
  | .cons s ss, v :: vs, d, h => by
    simp only [ShL.un] at h
    split at h
    · rename_i e he
      split at h
      · rename_i f hf
        cases h
        simp only [ShL.mk]
        rw [← Sh.un_mk s he, ← ShL.un_mk ss hf]
      · cases h
    · cases h
end

/-- Objects, numbered from n on. -/
inductive Oh where
  | nil
  | arr (mu deep : Bool) (r : Rw) (o : Oh)
  | own (st : Bool) (r : Rw) (o : Oh)
  | box (ss : ShL) (o : Oh)
@[reducible] def Oh.T : Oh → Type
  | .nil => Unit
  | .arr _ _ r o => List r.T × o.T
  | .own _ r o => List r.T × o.T
  | .box ss o => ss.T × o.T
def Oh.mk : (o : Oh) → Nat → o.T → Obs
  | .nil, _, _ => []
  | .arr mu deep r o, n, d => (n, .arr mu deep r d.1) :: o.mk (n + 1) d.2
  | .own st r o, n, d => (n, .own st r d.1) :: o.mk (n + 1) d.2
  | .box ss o, n, d => (n, .box (ss.mk d.1)) :: o.mk (n + 1) d.2
def Oh.un : (o : Oh) → Nat → Obs → Option o.T
  | .nil, _, [] => some ()
  | .arr mu deep r o, n, (j, .arr mu' deep' r' xs) :: ob => if h : r' = r then (bif Nat.beq j n && (mu' == mu) && (deep' == deep) then (match o.un (n + 1) ob with
    | some e => some (h ▸ xs, e)
    | none => none) else none) else none
  | .own st r o, n, (j, .own st' r' xs) :: ob => if h : r' = r then (bif Nat.beq j n && (st' == st) then (match o.un (n + 1) ob with
    | some e => some (h ▸ xs, e)
    | none => none) else none) else none
  | .box ss o, n, (j, .box cs) :: ob => bif Nat.beq j n then (match ss.un cs with
    | some d => match o.un (n + 1) ob with
      | some e => some (d, e)
      | none => none
    | none => none) else none
  | _, _, _ => none
theorem Oh.un_mk : (o : Oh) → {n : Nat} → {ob : Obs} → {d : o.T} → o.un n ob = some d → ob = o.mk n d
  | .nil, n, [], d, h => rfl
  | .nil, n, _ :: _, d, h => by simp [Oh.un] at h
  | .arr mu deep r o, n, [], d, h => by simp [Oh.un] at h
  | .arr mu deep r o, n, (j, e) :: ob, d, h => by
    cases e with
    | arr mu' deep' r' xs =>
      simp only [Oh.un] at h
      split at h
      · rename_i hr
        subst hr
        cases e1 : (Nat.beq j n && (mu' == mu) && (deep' == deep)) with
        | true =>
          rw [e1] at h
          simp only [Bool.and_eq_true, beq_iff_eq] at e1
          obtain ⟨⟨h1, rfl⟩, rfl⟩ := e1
          have := Nat.eq_of_beq_eq_true h1
          subst this
          simp only [cond_true] at h
          split at h
          · rename_i f hf
            cases h
            simp only [Oh.mk]
            rw [← Oh.un_mk o hf]
          · cases h
        | false => rw [e1] at h; cases h
      · cases h
    | _ => simp [Oh.un] at h
  | .own st r o, n, [], d, h => by simp [Oh.un] at h
  | .own st r o, n, (j, e) :: ob, d, h => by
    cases e with
    | own st' r' xs =>
      simp only [Oh.un] at h
      split at h
      · rename_i hr
        subst hr
        cases e1 : (Nat.beq j n && (st' == st)) with
        | true =>
          rw [e1] at h
          simp only [Bool.and_eq_true, beq_iff_eq] at e1
          obtain ⟨h1, rfl⟩ := e1
          have := Nat.eq_of_beq_eq_true h1
          subst this
          simp only [cond_true] at h
          split at h
          · rename_i f hf
            cases h
            simp only [Oh.mk]
            rw [← Oh.un_mk o hf]
          · cases h
        | false => rw [e1] at h; cases h
      · cases h
    | _ => simp [Oh.un] at h
  | .box ss o, n, [], d, h => by simp [Oh.un] at h
  | .box ss o, n, (j, e) :: ob, d, h => by
    cases e with
    | box cs =>
      simp only [Oh.un] at h
      cases e1 : Nat.beq j n with
      | true =>
        rw [e1] at h
        have := Nat.eq_of_beq_eq_true e1
        subst this
        simp only [cond_true] at h
        split at h
        · rename_i f hf
          split at h
          · rename_i g hg
            cases h
            simp only [Oh.mk]
            rw [← ShL.un_mk ss hf, ← Oh.un_mk o hg]
          · cases h
        · cases h
      | false => rw [e1] at h; cases h
    | _ => simp [Oh.un] at h

structure Ss where
  tm : ShL
  ob : Oh
  nx : Nat
  io : ShL
abbrev Ss.T (s : Ss) : Type := s.tm.T × s.ob.T × s.io.T
def Ss.mk' (s : Ss) (d : s.T) : St := { tm := s.tm.mk d.1, ob := s.ob.mk 0 d.2.1, nx := s.nx, io := s.io.mk d.2.2 }
def Ss.un (s : Ss) (σ : St) : Option s.T :=
  match s.tm.un σ.tm with
  | none => none
  | some d => match s.ob.un 0 σ.ob with
    | none => none
    | some e => match s.io.un σ.io with
      | none => none
      | some f => bif Nat.beq σ.nx s.nx then some (d, e, f) else none
theorem Ss.un_mk {s : Ss} {σ : St} {d : s.T} (h : s.un σ = some d) : σ = s.mk' d := by
  unfold Ss.un at h
  split at h
  · cases h
  · rename_i d1 h1
    split at h
    · cases h
    · rename_i d2 h2
      split at h
      · cases h
      · rename_i d3 h3
        cases e : Nat.beq σ.nx s.nx with
        | false => rw [e] at h; cases h
        | true =>
          rw [e] at h
          cases h
          obtain ⟨tm, ob, nx, io⟩ := σ
          have := Nat.eq_of_beq_eq_true e
          simp only at h1 h2 h3 this
          subst this
          simp only [Ss.mk']
          rw [← ShL.un_mk _ h1, ← Oh.un_mk _ h2, ← ShL.un_mk _ h3]

/-! ### The loops of a piece of code -/
def loopsIn : Code → List Code
  | .seq a b => loopsIn a ++ loopsIn b
  | .cond _ a b => loopsIn a ++ loopsIn b
  | .block _ c => loopsIn c
  | .loop c => c :: loopsIn c
  | _ => []
def LoopOk (Γ : Env) (c : Code) : Prop := ∀ n F, firstRegion c = some n → Γ.sum n = some F → ∀ σ K r, F σ K = some r → ∃ m, rounds (run Γ c) (Γ.hint n).1 (Γ.hint n).2 m σ K = some r
theorem loopsOk_of {Γ : Env} : (c : Code) → (∀ b ∈ loopsIn c, LoopOk Γ b) → LoopsOk Γ c
  | .seq a b, h => ⟨loopsOk_of a (fun c hc => h c (by simp [loopsIn, hc])), loopsOk_of b (fun c hc => h c (by simp [loopsIn, hc]))⟩
  | .cond _ a b, h => ⟨loopsOk_of a (fun c hc => h c (by simp [loopsIn, hc])), loopsOk_of b (fun c hc => h c (by simp [loopsIn, hc]))⟩
  | .block _ c, h => loopsOk_of c (fun b hb => h b (by simpa [loopsIn] using hb))
  | .loop c, h => ⟨h c (by simp [loopsIn]), loopsOk_of c (fun b hb => h b (by simp [loopsIn, hb]))⟩
  | .skip, _ => trivial
  | .region _ _ _, _ => trivial
  | .exit _, _ => trivial
  | .goto _, _ => trivial
  | .label _, _ => trivial
  | .scope _, _ => trivial
  | .ret, _ => trivial
  | .rangeFunc _ _ _ _, _ => trivial
  | .refuse _, _ => trivial
end Go.Ev
end
section
/- What the functions' texts share. -/
namespace Go.Ev
set_option linter.unusedVariables false
/-- A loop's summary out of a shape. -/
def loopF (sh : Ss) (R : sh.T → (Ex → St → Option Ret) → Option Ret) (σ : St) (K : Ex → St → Option Ret) : Option Ret :=
  match sh.un σ with
  | none => none
  | some d => R d K
theorem loopF_ok {Γ : Env} {c : Code} {n : Nat} {sh : Ss} {R : sh.T → (Ex → St → Option Ret) → Option Ret} (hn : firstRegion c = some n) (hs : Γ.sum n = some (loopF sh R)) {li lo : List Nat} (hh : Γ.hint n = (li, lo)) (h : ∀ d K r, R d K = some r → ∃ m, rounds (run Γ c) li lo m (sh.mk' d) K = some r) : LoopOk Γ c := by
  intro n' F hn' hF σ K r hr
  rw [hn] at hn'
  cases hn'
  rw [hs] at hF
  cases hF
  unfold loopF at hr
  split at hr
  · cases hr
  · rename_i d hd
    rw [Ss.un_mk hd, hh]
    exact h d K r hr
abbrev LoopFn := St → (Ex → St → Option Ret) → Option Ret
theorem loopW_ok {Γ : Env} {c : Code} {n : Nat} {F : LoopFn} (hn : firstRegion c = some n) (hs : Γ.sum n = some F) {li lo : List Nat} (hh : Γ.hint n = (li, lo)) (h : ∀ σ K r, F σ K = some r → ∃ m, rounds (run Γ c) li lo m σ K = some r) : LoopOk Γ c := by
  intro n' F' hn' hF σ K r hr
  rw [hn] at hn'
  cases hn'
  rw [hs] at hF
  cases hF
  rw [hh]
  exact h σ K r hr
/-- The loops of a function: number, what lives at the head, at the exit, the summary. -/
def sumOf : List (Nat × List Nat × List Nat × LoopFn) → Nat → Option LoopFn
  | [], _ => none
  | (k, _, _, F) :: l, n => bif Nat.beq n k then some F else sumOf l n
def hintOf : List (Nat × List Nat × List Nat × LoopFn) → Nat → List Nat × List Nat
  | [], _ => ([], [])
  | (k, a, b, _) :: l, n => bif Nat.beq n k then (a, b) else hintOf l n
def planOf : List (Nat × Plan × List Nat) → Nat → Option (Plan × List Nat)
  | [], _ => none
  | (k, p, t) :: l, n => bif Nat.beq n k then some (p, t) else planOf l n
def memN (l : List Nat) (n : Nat) : Bool := l.any (Nat.beq n)
def xsh : Nat → ShL
  | 0 => .nil
  | n + 1 => .cons .x (xsh n)
def xd : (n : Nat) → (xsh n).T
  | 0 => ()
  | n + 1 => ((), xd n)
/-- The loop's body whose first region is n. -/
def bodyOf (f : Func) (n : Nat) : Code :=
  ((loopsIn (f.body.getD .skip)).find? (fun c => match firstRegion c with
    | some m => Nat.beq m n
    | none => false)).getD .skip
theorem wrap_id {n : Int} (h0 : 0 ≤ n) (h1 : n ≤ 4611686018427387905) : IntKind.i64.wrap n = n := by
  have : IntKind.i64.wrap n = Go.RowKit.wrap64 n := by
    simp only [IntKind.wrap, IntKind.bits, IntKind.signed, Go.RowKit.wrap64, Bool.true_and]
    split <;> simp_all <;> omega
  rw [this]; unfold Go.RowKit.wrap64; omega
theorem wrap_in {n : Int} (h0 : -9223372036854775808 ≤ n) (h1 : n ≤ 9223372036854775807) : IntKind.i64.wrap n = n := by
  have : IntKind.i64.wrap n = Go.RowKit.wrap64 n := by
    simp only [IntKind.wrap, IntKind.bits, IntKind.signed, Go.RowKit.wrap64, Bool.true_and]
    split <;> simp_all <;> omega
  rw [this]; unfold Go.RowKit.wrap64; omega
def takes : List Nat → Plan
  | [] => .done
  | i :: l => .take i (takes l)
def takeB : List Nat → Plan → Plan
  | [], p => p
  | i :: l, p => .take i (takeB l p)
section
variable {P : Program} {I : Nat → World → Prop}
theorem mem0 : ∀ q ∈ ([] : List (Nat × Bool × Sm)), OkFn P I q.1 q.2.1 q.2.2 := fun _ h => nomatch h
theorem memc {g : Nat} {b : Bool} {G : Sm} {l : List (Nat × Bool × Sm)} (h : OkFn P I g b G) (hl : ∀ q ∈ l, OkFn P I q.1 q.2.1 q.2.2) : ∀ q ∈ (g, b, G) :: l, OkFn P I q.1 q.2.1 q.2.2 := fun q hq => by
  rcases List.mem_cons.1 hq with rfl | hq
  · exact h
  · exact hl q hq
/-- All loops of a function, one after the other. -/
def LoopsAll (Γ : Env) (cs : List Code) : Prop := ∀ b ∈ cs, LoopOk Γ b
theorem loops0 {Γ : Env} : LoopsAll Γ [] := fun _ h => nomatch h
theorem loopsc {Γ : Env} {c : Code} {cs : List Code} (h : LoopOk Γ c) (hl : LoopsAll Γ cs) : LoopsAll Γ (c :: cs) := fun q hq => by
  rcases List.mem_cons.1 hq with rfl | hq
  · exact h
  · exact hl q hq
end
/-- Operations on bits. -/
def band (k : IntKind) (a b : Int) : Int := k.wrap ((BitVec.ofInt k.bits a &&& BitVec.ofInt k.bits b).toNat : Int)
def bor (k : IntKind) (a b : Int) : Int := k.wrap ((BitVec.ofInt k.bits a ||| BitVec.ofInt k.bits b).toNat : Int)
def shlI (k : IntKind) (a b : Int) : Int := k.wrap (a * 2 ^ (min b.toNat k.bits))
def shrI (k : IntKind) (a b : Int) : Int := a.fdiv (2 ^ (min b.toNat k.bits))
def nilsOf : List (Nat × List (Nat × Nat × Rw)) → Nat → List (Nat × Nat × Rw)
  | [], _ => []
  | (k, q) :: l, n => bif Nat.beq n k then q else nilsOf l n
/-- A table of types, contracts, plans and loops. -/
def mkE (ty : Nat → Option Ty) (l : List (Nat × Bool × Sm)) (p : List (Nat × Plan × List Nat) := []) (ls : List (Nat × List Nat × List Nat × LoopFn) := []) (lend : List Nat := []) (focus : Bool := false) (fuel : Nat := 0) (give : List Nat := []) (glob : Nat → Option ((r : Rw) × List r.T) := fun _ => none) (nils : List (Nat × List (Nat × Nat × Rw)) := []) : Env :=
  { ty := ty, fn := tab l, hint := hintOf ls, plan := planOf p, sum := sumOf ls, lend := ⟨memN lend, memN give⟩, focus := focus, fuel := fuel, glob := glob, nils := nilsOf nils }
end Go.Ev
namespace Go.Ev.Seat
open Go.RowKit
set_option maxRecDepth 100000
set_option linter.unusedVariables false
noncomputable abbrev prog := Go.Proofs.Tryd.prog
noncomputable abbrev En (l : List (Nat × Bool × Sm)) (p : List (Nat × Plan × List Nat) := []) (ls : List (Nat × List Nat × List Nat × LoopFn) := []) (lend : List Nat := []) (focus : Bool := false) (fuel : Nat := 0) (give : List Nat := []) (nils : List (Nat × List (Nat × Nat × Rw)) := []) : Env := mkE tys.get l p ls lend focus fuel give globs nils
/-- A function keeps its contract. -/
theorem ok_fn {l : List (Nat × Bool × Sm)} {p : List (Nat × Plan × List Nat)} {ls : List (Nat × List Nat × List Nat × LoopFn)} {lend : List Nat} {focus : Bool} {fuel : Nat} {give : List Nat} {nils : List (Nat × List (Nat × Nat × Rw))} (hl : ∀ q ∈ l, OkFn prog I q.1 q.2.1 q.2.2) {g : FuncId} {fn : Func} (hg : prog.funcs[g]? = some fn) (hname : (fn.name == "runtime.NumGoroutine") = false) (hb : fn.body = some (fn.body.getD .skip)) (hpl : plansOk (planOf p) (fn.body.getD .skip) = true) {cs : List Code} (hcs : loopsIn (fn.body.getD .skip) = cs) (hlo : LoopsAll (En l p ls lend focus fuel give nils) cs) {fresh : Bool} : OkFn prog I g fresh (evF (En l p ls lend focus fuel give nils) fresh fn) :=
  evF_ok (Γ := En l p ls lend focus fuel give nils) mixed tysOk ⟨fun g fresh G h => tab_ok hl g fresh G h, globOk rfl⟩ hg hname hb hpl (loopsOk_of _ (by rw [hcs]; exact hlo))
abbrev bytesR : Rw := .one (.int .u8)
abbrev intR : Rw := .one (.int .i64)
end Go.Ev.Seat
end
section
/- The laws' helpers, for all kinds of rows at once: how much lies there, equal, copied, marked, held. -/
set_option linter.unusedVariables false
namespace Go.Ev

/-! ### Marks -/
def markList {α : Type} (f : α → Int → α × Int) : List α → Int → List α × Int
  | [], k => ([], k)
  | x :: xs, k => ((f x k).1 :: (markList f xs (f x k).2).1, (markList f xs (f x k).2).2)
/-- The text of a mark; what it is does not matter here. -/
structure MText where
  t : Int → ByteArray
def markInt : IntKind → Int → Int
  | .i64, n => n
  | k, n => k.wrap n
mutual
def Cc.mark (T : MText) : (c : Cc) → c.T → Int → c.T × Int
  | .int k, _, n => (markInt k n, IntKind.i64.wrap (n + 1))
  | .bool, b, n => (b, n)
  | .str, _, n => (T.t n, IntKind.i64.wrap (n + 1))
  | .sl r, xs, n => markList (r.mark T) xs n
def Rw.mark (T : MText) : (r : Rw) → r.T → Int → r.T × Int
  | .one c, d, n => c.mark T d n
  | .cons c r, d, n => ((( c.mark T d.1 n).1, (r.mark T d.2 (c.mark T d.1 n).2).1), (r.mark T d.2 (c.mark T d.1 n).2).2)
end
theorem markList_len {α : Type} (f : α → Int → α × Int) : ∀ (xs : List α) (k : Int), (markList f xs k).1.length = xs.length
  | [], _ => rfl
  | x :: xs, k => by simp [markList, markList_len f xs]
theorem markList_idem {α : Type} {f : α → Int → α × Int} (h : ∀ x k, f (f x k).1 k = f x k) : ∀ (xs : List α) (k : Int), markList f (markList f xs k).1 k = markList f xs k
  | [], _ => rfl
  | x :: xs, k => by simp only [markList, h, markList_idem h xs]
mutual
theorem Cc.mark_idem (T : MText) : (c : Cc) → (d : c.T) → (k : Int) → c.mark T (c.mark T d k).1 k = c.mark T d k
  | .int _, _, _ => rfl
  | .bool, _, _ => rfl
  | .str, _, _ => rfl
  | .sl r, xs, k => by simp only [Cc.mark]; exact markList_idem (fun x k => Rw.mark_idem T r x k) xs k
theorem Rw.mark_idem (T : MText) : (r : Rw) → (d : r.T) → (k : Int) → r.mark T (r.mark T d k).1 k = r.mark T d k
  | .one c, d, k => Cc.mark_idem T c d k
  | .cons c r, d, k => by simp only [Rw.mark, Cc.mark_idem T c, Rw.mark_idem T r]
end
/-! ### How much -/
def sumW {α : Type} (f : α → Nat) : List α → Nat
  | [] => 0
  | x :: xs => f x + sumW f xs
mutual
def Cc.w : (c : Cc) → c.T → Nat
  | .int _, _ => 0
  | .bool, _ => 0
  | .str, s => s.size
  | .sl r, xs => xs.length + sumW r.w xs
def Rw.w : (r : Rw) → r.T → Nat
  | .one c, d => c.w d
  | .cons c r, d => c.w d.1 + r.w d.2
end
mutual
def Cc.marks : (c : Cc) → c.T → Nat
  | .int _, _ => 1
  | .bool, _ => 0
  | .str, _ => 1
  | .sl r, xs => sumW r.marks xs
def Rw.marks : (r : Rw) → r.T → Nat
  | .one c, d => c.marks d
  | .cons c r, d => c.marks d.1 + r.marks d.2
end
theorem markList_cnt {α : Type} {f : α → Int → α × Int} {m : α → Nat} (h : ∀ x (k : Int), 0 ≤ k → k + m x ≤ 4611686018427387904 → (f x k).2 = k + m x) : ∀ (xs : List α) (k : Int), 0 ≤ k → k + sumW m xs ≤ 4611686018427387904 → (markList f xs k).2 = k + sumW m xs
  | [], k, _, _ => by simp [markList, sumW]
  | x :: xs, k, h0, h1 => by
    simp only [markList, sumW] at h1 ⊢
    have e := h x k h0 (by omega)
    rw [markList_cnt h xs _ (by rw [e]; omega) (by rw [e]; omega), e]
    omega
mutual
theorem Cc.mark_cnt (T : MText) : (c : Cc) → (d : c.T) → (k : Int) → 0 ≤ k → k + c.marks d ≤ 4611686018427387904 → (c.mark T d k).2 = k + c.marks d
  | .int _, d, k, h0, h1 => by simp only [Cc.mark, Cc.marks] at h1 ⊢; rw [wrap_id (by omega) (by omega)]; rfl
  | .bool, d, k, h0, h1 => by simp [Cc.mark, Cc.marks]
  | .str, d, k, h0, h1 => by simp only [Cc.mark, Cc.marks] at h1 ⊢; rw [wrap_id (by omega) (by omega)]; rfl
  | .sl r, xs, k, h0, h1 => by simp only [Cc.mark, Cc.marks] at h1 ⊢; exact markList_cnt (fun x k => Rw.mark_cnt T r x k) xs k h0 h1
theorem Rw.mark_cnt (T : MText) : (r : Rw) → (d : r.T) → (k : Int) → 0 ≤ k → k + r.marks d ≤ 4611686018427387904 → (r.mark T d k).2 = k + r.marks d
  | .one c, d, k, h0, h1 => Cc.mark_cnt T c d k h0 h1
  | .cons c r, d, k, h0, h1 => by
    simp only [Rw.mark, Rw.marks] at h1 ⊢
    have e := Cc.mark_cnt T c d.1 k h0 (by omega)
    rw [Rw.mark_cnt T r d.2 _ (by rw [e]; omega) (by rw [e]; omega), e]
    omega
end
/-! ### Small enough to be copied -/
mutual
def Cc.lim : (c : Cc) → c.T → Bool
  | .int _, _ => true
  | .bool, _ => true
  | .str, _ => true
  | .sl r, xs => Nat.ble xs.length 1048576 && xs.all r.lim
def Rw.lim : (r : Rw) → r.T → Bool
  | .one c, d => c.lim d
  | .cons c r, d => c.lim d.1 && r.lim d.2
end
theorem sumW_mem {α : Type} {f : α → Nat} : ∀ {xs : List α} {x : α}, x ∈ xs → f x ≤ sumW f xs
  | y :: xs, x, h => by
    simp only [sumW]
    rcases List.mem_cons.1 h with rfl | h
    · omega
    · have := sumW_mem (f := f) h; omega
mutual
theorem Cc.lim_ok : (c : Cc) → (d : c.T) → c.w d ≤ 1048576 → c.lim d = true
  | .int _, _, _ => rfl
  | .bool, _, _ => rfl
  | .str, _, _ => rfl
  | .sl r, xs, h => by
    simp only [Cc.w] at h
    simp only [Cc.lim, Bool.and_eq_true, List.all_eq_true]
    refine ⟨Nat.ble_eq_true_of_le (by omega), fun x hx => ?_⟩
    have := sumW_mem (f := r.w) hx
    exact Rw.lim_ok r x (by omega)
theorem Rw.lim_ok : (r : Rw) → (d : r.T) → r.w d ≤ 1048576 → r.lim d = true
  | .one c, d, h => Cc.lim_ok c d h
  | .cons c r, d, h => by
    simp only [Rw.w] at h
    simp only [Rw.lim, Bool.and_eq_true]
    exact ⟨Cc.lim_ok c d.1 (by omega), Rw.lim_ok r d.2 (by omega)⟩
end
/-! ### Equality -/
/-! ### Rounds of loops over a list -/
section
variable {α β : Type} {ρ : Type}
theorem loop_idx {ρ σ : Type} {R : Nat → Int → σ → ρ} {k : ρ} {f : Nat → σ} (n : Nat) (hs : ∀ m (i : Nat), i < n → R (m + 1) i (f i) = R m ((i + 1 : Nat) : Int) (f (i + 1))) (he : ∀ m, R (m + 1) (n : Nat) (f n) = k) : R (n + 1) 0 (f 0) = k := by
  have key : ∀ (j i : Nat), i + j = n → R (j + 1) i (f i) = k := by
    intro j
    induction j with
    | zero => intro i hi; have : i = n := by omega
              subst this; exact he 0
    | succ j ih => intro i hi; rw [hs _ i (by omega), ih (i + 1) (by omega)]
  exact key n 0 (by omega)
theorem sumW_take {α : Type} {g : α → Nat} {xs : List α} {i : Nat} {z : α} (h : i < xs.length) : sumW g (xs.take (i + 1)) = sumW g (xs.take i) + g (xs.getD i z) := by
  have app : ∀ (ys zs : List α), sumW g (ys ++ zs) = sumW g ys + sumW g zs := fun ys zs => by
    induction ys with
    | nil => simp [sumW]
    | cons y ys ih => simp only [List.cons_append, sumW, ih]; omega
  rw [List.take_add_one, app, List.getD_eq_getElem?_getD, List.getElem?_eq_getElem h]
  simp [sumW]
theorem sumW_take_le {α : Type} {g : α → Nat} {xs : List α} {i : Nat} : sumW g (xs.take i) ≤ sumW g xs := by
  have app : ∀ (ys zs : List α), sumW g (ys ++ zs) = sumW g ys + sumW g zs := fun ys zs => by
    induction ys with
    | nil => simp [sumW]
    | cons y ys ih => simp only [List.cons_append, sumW, ih]; omega
  have := app (xs.take i) (xs.drop i)
  rw [List.take_append_drop] at this
  omega
theorem flatten_take {α : Type} {xs : List (List α)} {i : Nat} {z : List α} (h : i < xs.length) : (xs.take (i + 1)).flatten = (xs.take i).flatten ++ xs.getD i z := by
  rw [List.take_add_one, List.flatten_append, List.getD_eq_getElem?_getD, List.getElem?_eq_getElem h]
  simp
theorem sumW_flatten {α : Type} (xs : List (List α)) : xs.flatten.length = sumW List.length xs := by
  induction xs with
  | nil => rfl
  | cons x xs ih => simp [sumW, ih]
end
end Go.Ev
end
section
/- The laws' helpers: their contracts, for all kinds of rows at once. -/
set_option linter.unusedVariables false
namespace Go.Ev

/-! ### What comes in, read as data -/
def Cc.dec : (c : Cc) → V → Option c.T
  | .int k, .s (.int k' n) => if k' = k then some n else none
  | .bool, .s (.bool b) => some b
  | .str, .s (.string b) => some b
  | .sl r, .l .no r' xs => if h : r' = r then some (h ▸ xs) else none
  | _, _ => none
def Rw.dec : (r : Rw) → List V → Option r.T
  | .one c, [v] => c.dec v
  | .cons c r, v :: vs => match c.dec v with
    | some d => match r.dec vs with
      | some e => some (d, e)
      | none => none
    | none => none
  | _, _ => none
theorem Cc.dec_ok : (c : Cc) → {v : V} → {d : c.T} → c.dec v = some d → v = c.cell .no d
  | .int k, v, d, h => by
    cases v with
    | s u =>
      cases u with
      | int k' n =>
        simp only [Cc.dec] at h
        split at h
        · rename_i hk; subst hk; cases h; rfl
        · cases h
      | _ => simp [Cc.dec] at h
    | _ => simp [Cc.dec] at h
  | .bool, v, d, h => by
    cases v with
    | s u => cases u <;> simp only [Cc.dec, reduceCtorEq, Option.some.injEq] at h; subst h; rfl
    | _ => simp [Cc.dec] at h
  | .str, v, d, h => by
    cases v with
    | s u => cases u <;> simp only [Cc.dec, reduceCtorEq, Option.some.injEq] at h; subst h; rfl
    | _ => simp [Cc.dec] at h
  | .sl r, v, d, h => by
    cases v with
    | l o r' xs =>
      cases o <;> simp only [Cc.dec, reduceCtorEq] at h
      split at h
      · rename_i hr; subst hr; cases h; rfl
      · cases h
    | _ => simp [Cc.dec] at h
theorem Rw.dec_ok : (r : Rw) → {vs : List V} → {d : r.T} → r.dec vs = some d → vs = r.cells .no d
  | .one c, [], d, h => by simp [Rw.dec] at h
  | .one c, [v], d, h => by
    simp only [Rw.dec] at h
    rw [Cc.dec_ok c h]; rfl
  | .one c, _ :: _ :: _, d, h => by simp [Rw.dec] at h
  | .cons c r, [], d, h => by simp [Rw.dec] at h
  | .cons c r, v :: vs, d, h => by
    simp only [Rw.dec] at h
    split at h
    · rename_i d1 e1
      split at h
      · rename_i d2 e2
        cases h
        rw [Cc.dec_ok c e1, Rw.dec_ok r e2]; rfl
      · cases h
    · cases h

def sc (n : Int) : V := .s (.int .i64 n)
def bl (b : Bool) : V := .s (.bool b)
/-! ### Contracts: of slices (L) and of structs (A) -/
mutual
/-- All lists short enough for a counter. -/
def Cc.cnt : (c : Cc) → c.T → Bool
  | .sl r, xs => Nat.ble xs.length 4611686018427387904 && xs.all r.cnt
  | _, _ => true
def Rw.cnt : (r : Rw) → r.T → Bool
  | .one c, d => c.cnt d
  | .cons c r, d => c.cnt d.1 && r.cnt d.2
end
mutual
/-- All lists as short as Go has them. -/
def Cc.cnz : (c : Cc) → c.T → Bool
  | .sl r, xs => Nat.ble xs.length 9223372036854775807 && xs.all r.cnz
  | _, _ => true
def Rw.cnz : (r : Rw) → r.T → Bool
  | .one c, d => c.cnz d
  | .cons c r, d => c.cnz d.1 && r.cnz d.2
end
mutual
theorem Cc.cnt_of_lim : (c : Cc) → (d : c.T) → c.lim d = true → c.cnt d = true
  | .int _, _, _ => rfl
  | .bool, _, _ => rfl
  | .str, _, _ => rfl
  | .sl r, xs, h => by
    simp only [Cc.lim, Cc.cnt, Bool.and_eq_true, List.all_eq_true] at h ⊢
    exact ⟨Nat.ble_eq_true_of_le (by have := Nat.le_of_ble_eq_true h.1; omega), fun x hx => Rw.cnt_of_lim r x (h.2 x hx)⟩
theorem Rw.cnt_of_lim : (r : Rw) → (d : r.T) → r.lim d = true → r.cnt d = true
  | .one c, d, h => Cc.cnt_of_lim c d h
  | .cons c r, d, h => by
    simp only [Rw.lim, Rw.cnt, Bool.and_eq_true] at h ⊢
    exact ⟨Cc.cnt_of_lim c d.1 h.1, Rw.cnt_of_lim r d.2 h.2⟩
end
mutual
def Cc.decO : (c : Cc) → V → Option c.T
  | .int k, .s (.int k' n) => if k' = k then some n else none
  | .bool, .s (.bool b) => some b
  | .str, .s (.string b) => some b
  | .sl r, .l .own r' xs => if h : r' = r then some (h ▸ xs) else none
  | _, _ => none
def Rw.decO : (r : Rw) → List V → Option r.T
  | .one c, [v] => c.decO v
  | .cons c r, v :: vs => match c.decO v with
    | some d => match r.decO vs with
      | some e => some (d, e)
      | none => none
    | none => none
  | _, _ => none
end
theorem wrap_nat {i : Nat} (h : i ≤ 4611686018427387904) : IntKind.i64.wrap (((i : Nat) : Int) + 1) = (((i + 1 : Nat)) : Int) := by
  rw [wrap_id (by omega) (by omega)]; rfl
/-! ### From a function's law to its contract -/
section
variable {P : Program} {I : Nat → World → Prop}
theorem okW {g : FuncId} {f : Bool} {S G : Sm} (hG : OkFn P I g f G) (h : ∀ ws K q, S ws K = some q → G ws K = some q) : OkFn P I g f S := OkFn.weak (fun ws K r hr => ⟨_, hG, h ws K r hr⟩) hG.1
variable {r : Rw} {G : Sm} {T : MText}
end

/-! ### Chains in the structs' helpers -/
section
variable {ρ : Type}
end
end Go.Ev
end
section
/- Contracts by signature: what comes in is read as data; what goes out is a function of it. -/
set_option linter.unusedVariables false
namespace Go.Ev
inductive Ak where
  | sc1 (k : Cc)
  | a (r : Rw)
  | l (r : Rw)
  | i
  | b
  | sh (s : Sh)
abbrev Ak.T : Ak → Type
  | .a r => r.T
  | .l r => List r.T
  | .i => Int
  | .b => Bool
  | .sc1 k => k.T
  | .sh s => s.T
def Ak.v : (k : Ak) → k.T → V
  | .a r, d => .a (r.cells .no d)
  | .l r, d => .l .no r d
  | .i, n => .s (.int .i64 n)
  | .b, c => .s (.bool c)
  | .sc1 k, d => k.cell .no d
  | .sh s, d => s.mk d
def Ak.dec : (k : Ak) → V → Option k.T
  | .a r, .a cs => r.dec cs
  | .l r, v => (Cc.sl r).dec v
  | .i, .s (.int .i64 n) => some n
  | .b, .s (.bool c) => some c
  | .sc1 k, v => k.dec v
  | .sh s, v => s.un v
  | _, _ => none
theorem Ak.dec_ok : (k : Ak) → {v : V} → {d : k.T} → k.dec v = some d → v = k.v d
  | .a r, v, d, h => by
    cases v with
    | a cs => simp only [Ak.dec] at h; rw [Rw.dec_ok r h]; rfl
    | _ => simp [Ak.dec] at h
  | .l r, v, d, h => by
    have h' : (Cc.sl r).dec v = some d := by
      cases v <;> simpa [Ak.dec] using h
    rw [Cc.dec_ok (.sl r) h']; rfl
  | .i, v, d, h => by
    cases v with
    | s u =>
      cases u with
      | int k n => cases k <;> simp [Ak.dec] at h <;> subst h <;> rfl
      | _ => simp [Ak.dec] at h
    | _ => simp [Ak.dec] at h
  | .sc1 k, v, d, h => by
    have h' : k.dec v = some d := by
      cases v <;> simpa [Ak.dec] using h
    exact Cc.dec_ok k h'
  | .sh s, v, d, h => by
    have h' : s.un v = some d := by
      cases v <;> simpa [Ak.dec] using h
    exact Sh.un_mk s h'
  | .b, v, d, h => by
    cases v with
    | s u =>
      cases u with
      | bool c => simp [Ak.dec] at h; subst h; rfl
      | _ => simp [Ak.dec] at h
    | _ => simp [Ak.dec] at h
abbrev SgT : List Ak → Type
  | [] => Unit
  | k :: ks => k.T × SgT ks
def sgV : (ks : List Ak) → SgT ks → List V
  | [], _ => []
  | k :: ks, d => k.v d.1 :: sgV ks d.2
def sgD : (ks : List Ak) → List V → Option (SgT ks)
  | [], [] => some ()
  | k :: ks, v :: vs => match k.dec v with
    | some d => match sgD ks vs with
      | some e => some (d, e)
      | none => none
    | none => none
  | _, _ => none
theorem sgD_ok : (ks : List Ak) → {vs : List V} → {d : SgT ks} → sgD ks vs = some d → vs = sgV ks d
  | [], [], d, h => rfl
  | [], _ :: _, d, h => by simp [sgD] at h
  | k :: ks, [], d, h => by simp [sgD] at h
  | k :: ks, v :: vs, d, h => by
    simp only [sgD] at h
    split at h
    · rename_i d1 e1
      split at h
      · rename_i d2 e2
        cases h
        rw [Ak.dec_ok k e1, sgD_ok ks e2]; rfl
      · cases h
    · cases h
def S_fn (ks : List Ak) (pre : SgT ks → Bool) (f : SgT ks → V) : Sm := fun vs K => match sgD ks vs with
  | some d => bif pre d then K (f d, []) else none
  | none => none
mutual
theorem Cc.cnz_of_wf : (c : Cc) → (d : c.T) → c.wf d → c.cnz d = true
  | .int _, _, _ => rfl
  | .bool, _, _ => rfl
  | .str, _, _ => rfl
  | .sl r, xs, h => by
    simp only [Cc.cnz, Bool.and_eq_true, List.all_eq_true]
    exact ⟨Nat.ble_eq_true_of_le h.1, fun x hx => Rw.cnz_of_wf r x (h.2 x hx)⟩
theorem Rw.cnz_of_wf : (r : Rw) → (d : r.T) → r.wf d → r.cnz d = true
  | .one c, d, h => Cc.cnz_of_wf c d h
  | .cons c r, d, h => by
    simp only [Rw.cnz, Bool.and_eq_true]
    exact ⟨Cc.cnz_of_wf c d.1 h.1, Rw.cnz_of_wf r d.2 h.2⟩
end

/-! ### How many marks -/
mutual
def Cc.mx : Cc → Bool
  | .sl r => Nat.ble r.sc 32 && r.mx
  | _ => true
def Rw.mx : Rw → Bool
  | .one c => c.mx
  | .cons c r => c.mx && r.mx
def Cc.sc : Cc → Nat
  | .sl _ => 0
  | _ => 1
def Rw.sc : Rw → Nat
  | .one c => c.sc
  | .cons c r => c.sc + r.sc
end
mutual
theorem Cc.marks_le : (c : Cc) → c.mx = true → (d : c.T) → c.marks d ≤ c.sc + 32 * c.w d
  | .int _, _, _ => by simp [Cc.marks, Cc.sc, Cc.w]
  | .bool, _, _ => by simp [Cc.marks, Cc.sc, Cc.w]
  | .str, _, d => by simp only [Cc.marks, Cc.sc, Cc.w]; omega
  | .sl r, h, xs => by
    simp only [Cc.mx, Bool.and_eq_true] at h
    have h1 : r.sc ≤ 32 := Nat.le_of_ble_eq_true h.1
    have key : ∀ ys : List r.T, sumW r.marks ys ≤ 32 * (ys.length + sumW r.w ys) := by
      intro ys
      induction ys with
      | nil => simp [sumW]
      | cons y ys ih =>
        have := Rw.marks_le r h.2 y
        simp only [sumW, List.length_cons]
        omega
    simp only [Cc.marks, Cc.sc, Cc.w]
    have := key xs
    omega
theorem Rw.marks_le : (r : Rw) → r.mx = true → (d : r.T) → r.marks d ≤ r.sc + 32 * r.w d
  | .one c, h, d => Cc.marks_le c h d
  | .cons c r, h, d => by
    simp only [Rw.mx, Bool.and_eq_true] at h
    have h1 := Cc.marks_le c h.1 d.1
    have h2 := Rw.marks_le r h.2 d.2
    simp only [Rw.marks, Rw.sc, Rw.w]
    omega
end
mutual
theorem Cc.cnt_of_w : (c : Cc) → (d : c.T) → c.w d ≤ 4611686018427387904 → c.cnt d = true
  | .int _, _, _ => rfl
  | .bool, _, _ => rfl
  | .str, _, _ => rfl
  | .sl r, xs, h => by
    simp only [Cc.w] at h
    simp only [Cc.cnt, Bool.and_eq_true, List.all_eq_true]
    refine ⟨Nat.ble_eq_true_of_le (by omega), fun x hx => ?_⟩
    have := sumW_mem (f := r.w) hx
    exact Rw.cnt_of_w r x (by omega)
theorem Rw.cnt_of_w : (r : Rw) → (d : r.T) → r.w d ≤ 4611686018427387904 → r.cnt d = true
  | .one c, d, h => Cc.cnt_of_w c d h
  | .cons c r, d, h => by
    simp only [Rw.w] at h
    simp only [Rw.cnt, Bool.and_eq_true]
    exact ⟨Cc.cnt_of_w c d.1 (by omega), Rw.cnt_of_w r d.2 (by omega)⟩
end
mutual
theorem Cc.mark_w (T : MText) : (c : Cc) → (d : c.T) → (k : Int) → c.cnt (c.mark T d k).1 = c.cnt d
  | .int _, _, _ => rfl
  | .bool, _, _ => rfl
  | .str, _, _ => rfl
  | .sl r, xs, k => by
    simp only [Cc.cnt, Cc.mark, markList_len]
    have key : ∀ (xs : List r.T) (k : Int), (markList (r.mark T) xs k).1.all r.cnt = xs.all r.cnt := by
      intro xs
      induction xs with
      | nil => intro k; rfl
      | cons x xs ih =>
        intro k
        simp only [markList, List.all_cons]
        rw [ih, Rw.mark_w T r x k]
    rw [key]
theorem Rw.mark_w (T : MText) : (r : Rw) → (d : r.T) → (k : Int) → r.cnt (r.mark T d k).1 = r.cnt d
  | .one c, d, k => Cc.mark_w T c d k
  | .cons c r, d, k => by simp only [Rw.cnt, Rw.mark]; rw [Cc.mark_w T c, Rw.mark_w T r]
end
mutual
theorem Cc.mark_marks (T : MText) : (c : Cc) → (d : c.T) → (k : Int) → c.marks (c.mark T d k).1 = c.marks d
  | .int _, _, _ => rfl
  | .bool, _, _ => rfl
  | .str, _, _ => rfl
  | .sl r, xs, k => by
    have key : ∀ (xs : List r.T) (k : Int), sumW r.marks (markList (r.mark T) xs k).1 = sumW r.marks xs := by
      intro xs
      induction xs with
      | nil => intro k; rfl
      | cons x xs ih =>
        intro k
        simp only [markList, sumW]
        rw [ih, Rw.mark_marks T r x k]
    exact key xs k
theorem Rw.mark_marks (T : MText) : (r : Rw) → (d : r.T) → (k : Int) → r.marks (r.mark T d k).1 = r.marks d
  | .one c, d, k => Cc.mark_marks T c d k
  | .cons c r, d, k => by simp only [Rw.marks, Rw.mark]; rw [Cc.mark_marks T c, Rw.mark_marks T r]
end
/-! ### The exact laws, step by step -/
section
variable {ρ : Type}
end
end Go.Ev
end
section
/- A result that is owned may be taken as one that is only read. -/
set_option linter.unusedVariables false
namespace Go.Ev
def noC : V → V
  | .l _ r xs => .l .no r xs
  | v => v
def noV : V → V
  | .a cs => .a (cs.map noC)
  | v => noC v
def noR : V → V
  | .t us => .t (us.map noV)
  | u => noV u
section
variable {w : World}
theorem vr_nO {r : Rw} {xs : List r.T} {c : Value} {F M : List Nat} {e e' : Bool} (h : SlT (RwR w e r) w e' r.n xs c F) (hM : ∀ b ∈ F, b ∈ M) : VR (Cx.ext (· ∈ M)) w (.l .no r xs) c :=
  ⟨F, h.loose, hM⟩
theorem CellR.no {v : V} {c : Value} {O M H : List Nat} (h : CellR w v c O M H) : ∃ M', CellR w (noC v) c [] M' [] ∧ ∀ x ∈ M', x ∈ M ∨ x ∈ O := by
  unfold CellR at h
  split at h
  · rename_i r xs
    obtain ⟨h1, _, _⟩ := h
    exact ⟨O, CellR.plain (vr_nO h1 (fun _ h => h)) (by simp [noC]) (by simp [noC]) (by simp [noC]), fun x hx => .inr hx⟩
  · rename_i r xs
    obtain ⟨F, h1, rfl, rfl, _⟩ := h
    refine ⟨F, CellR.plain (vr_nO h1 (fun _ h => h)) (by simp [noC]) (by simp [noC]) (by simp [noC]), fun x hx => ?_⟩
    cases F with
    | nil => cases hx
    | cons b F =>
      rcases List.mem_cons.1 hx with rfl | hx
      · exact .inr (by simp)
      · exact .inl (by simpa using hx)
  · rename_i r xs
    obtain ⟨h1, _, _⟩ := h
    exact ⟨O, CellR.plain (vr_nO h1 (fun _ h => h)) (by simp [noC]) (by simp [noC]) (by simp [noC]), fun x hx => .inr hx⟩
  · rename_i n1 n2 n3
    obtain ⟨h1, _, _⟩ := h
    cases v with
    | l o r xs =>
      cases o with
      | no => exact ⟨M, CellR.plain h1 (by simp [noC]) (by simp [noC]) (by simp [noC]), fun x hx => .inl hx⟩
      | deep => exact absurd rfl (n1 _ _)
      | top => exact absurd rfl (n2 _ _)
      | own => exact absurd rfl (n3 _ _)
    | _ => exact ⟨M, CellR.plain h1 (by simp [noC]) (by simp [noC]) (by simp [noC]), fun x hx => .inl hx⟩
theorem CellsR.no : ∀ {cs : List V} {vs : List Value} {O M H : List Nat}, CellsR w cs vs O M H → ∃ M', CellsR w (cs.map noC) vs [] M' [] ∧ ∀ x ∈ M', x ∈ M ∨ x ∈ O
  | [], _, _, _, _, ⟨h1, h2, h3, h4⟩ => ⟨[], ⟨h1, rfl, rfl, rfl⟩, fun _ h => (nomatch h)⟩
  | c :: cs, _, _, _, _, ⟨v, vs', O1, O2, M1, M2, H1, H2, h1, h2, h3, h4, h5, h6⟩ => by
    obtain ⟨A, a1, a2⟩ := h5.no
    obtain ⟨B, b1, b2⟩ := CellsR.no h6
    refine ⟨A ++ B, ⟨v, vs', [], [], A, B, [], [], h1, rfl, rfl, rfl, a1, b1⟩, fun x hx => ?_⟩
    rw [h2, h3]
    rcases List.mem_append.1 hx with hx | hx
    · rcases a2 x hx with h | h
      · exact .inl (List.mem_append.2 (.inl h))
      · exact .inr (List.mem_append.2 (.inl h))
    · rcases b2 x hx with h | h
      · exact .inl (List.mem_append.2 (.inr h))
      · exact .inr (List.mem_append.2 (.inr h))
def V.isIo : V → Bool
  | .io _ => true
  | _ => false
theorem ArgR.no {v : V} {c : Value} {O M H : List Nat} (h : ArgR w v c O M H) (hv : v.isIo = false) : ∃ M', ArgR w (noV v) c [] M' [] ∧ ∀ x ∈ M', x ∈ M ∨ x ∈ O := by
  unfold ArgR at h
  split at h
  · cases hv
  · rename_i cs
    obtain ⟨vs, rfl, h2⟩ := h
    obtain ⟨M', a1, a2⟩ := h2.no
    exact ⟨M', ⟨vs, rfl, a1⟩, a2⟩
  · rename_i n1 n2
    obtain ⟨M', a1, a2⟩ := h.no
    refine ⟨M', ?_, a2⟩
    cases v with
    | a cs => exact absurd rfl (n2 _)
    | io cs => exact absurd rfl (n1 _)
    | _ => exact a1
theorem ArgsR.no : ∀ {us : List V} {vs : List Value} {O M H : List Nat}, ArgsR w us vs O M H → us.all (fun u => !u.isIo) = true → ∃ M', ArgsR w (us.map noV) vs [] M' [] ∧ ∀ x ∈ M', x ∈ M ∨ x ∈ O
  | [], _, _, _, _, ⟨h1, h2, h3, h4⟩, _ => ⟨[], ⟨h1, rfl, rfl, rfl⟩, fun _ h => (nomatch h)⟩
  | c :: cs, _, _, _, _, ⟨v, vs', O1, O2, M1, M2, H1, H2, h1, h2, h3, h4, h5, h6⟩, hi => by
    simp only [List.all_cons, Bool.and_eq_true, Bool.not_eq_true'] at hi
    obtain ⟨A, a1, a2⟩ := h5.no hi.1
    obtain ⟨B, b1, b2⟩ := ArgsR.no h6 hi.2
    refine ⟨A ++ B, ⟨v, vs', [], [], A, B, [], [], h1, rfl, rfl, rfl, a1, b1⟩, fun x hx => ?_⟩
    rw [h2, h3]
    rcases List.mem_append.1 hx with hx | hx
    · rcases a2 x hx with h | h
      · exact .inl (List.mem_append.2 (.inl h))
      · exact .inr (List.mem_append.2 (.inl h))
    · rcases b2 x hx with h | h
      · exact .inl (List.mem_append.2 (.inr h))
      · exact .inr (List.mem_append.2 (.inr h))
def V.okNo : V → Bool
  | .t us => us.all (fun u => !u.isIo)
  | u => !u.isIo
theorem RetR.no {u : V} {c : Value} {O M H : List Nat} (h : RetR w u c O M H) (hu : u.okNo = true) : ∃ M', RetR w (noR u) c [] M' [] ∧ ∀ x ∈ M', x ∈ M ∨ x ∈ O := by
  unfold RetR at h
  split at h
  · obtain ⟨vs, rfl, h2⟩ := h
    obtain ⟨M', a1, a2⟩ := h2.no hu
    exact ⟨M', ⟨vs, rfl, a1⟩, a2⟩
  · rename_i n1
    cases u with
    | t us => exact absurd rfl (n1 _)
    | io cs => simp [V.okNo, V.isIo] at hu
    | a cs =>
      obtain ⟨M', a1, a2⟩ := ArgR.no h rfl
      exact ⟨M', a1, a2⟩
    | l o r xs =>
      obtain ⟨M', a1, a2⟩ := ArgR.no h rfl
      exact ⟨M', a1, a2⟩
    | _ =>
      obtain ⟨M', a1, a2⟩ := ArgR.no h rfl
      exact ⟨M', a1, a2⟩
end
theorem ArgsR.hsub' {w : World} {us : List V} {vs : List Value} {O M H : List Nat} (h : ArgsR w us vs O M H) : ∀ x ∈ H, x ∈ O := h.hsub
/-- The contract whose results are only read. -/
def S_no (G : Sm) : Sm := fun ws K => G ws fun q => bif q.1.okNo then K (noR q.1, q.2) else none
theorem OkFn.no {P : Program} {I : Nat → World → Prop} {g : FuncId} {f : Bool} {G : Sm} (h : OkFn P I g f G) : OkFn P I g false (S_no G) := by
  refine ⟨h.1, fun ws K r hr B0 w0 w N vs O M H hI hb hB hA hnd hO hM hH hN => ?_⟩
  refine Calls.mono (h.2 ws _ r hr B0 w0 w N vs O M H hI hb hB hA hnd hO hM hH hN) (fun e w' he => ?_)
  cases e with
  | returned c =>
    obtain ⟨q, hq, hk⟩ := he
    cases ho : q.1.okNo with
    | false => simp only [ho, cond_false] at hq; cases hq
    | true =>
      simp only [ho, cond_true] at hq
      refine ⟨_, hq, ?_⟩
      obtain ⟨⟨O1, M1, H1, O2, M2, H2, e1, e2, e3, e4, e5, e6⟩, k2, k3, k4⟩ := hk
      obtain ⟨M', a1, a2⟩ := e1.no ho
      refine ⟨⟨[], M', [], O2, M2, H2, a1, e2, ?_, fun x hx => e4 x (List.mem_append.2 (.inr (by simpa using hx))), fun x hx => ?_, fun x hx => ?_⟩, k2, k3, k4⟩
      · exact (List.nodup_append.1 e3).2.1
      · rcases List.mem_append.1 hx with hx | hx
        · rcases a2 x hx with hx | hx
          · obtain ⟨g1, g2, _⟩ := e5 x (List.mem_append.2 (.inl hx))
            exact ⟨g1, g2, fun h => by cases h⟩
          · obtain ⟨g1, g2⟩ := e4 x (List.mem_append.2 (.inl hx))
            exact ⟨.inr g1, g2, fun h => by cases h⟩
        · obtain ⟨g1, g2, _⟩ := e5 x (List.mem_append.2 (.inr hx))
          exact ⟨g1, g2, fun h => by cases h⟩
      · have hx' : x ∈ H2 := by simpa using hx
        obtain ⟨g1, g2⟩ := e6 x (List.mem_append.2 (.inr hx'))
        refine ⟨fun hm => ?_, g2⟩
        rcases List.mem_append.1 hm with hm | hm
        · rcases a2 x hm with hm | hm
          · exact g1 (List.mem_append.2 (.inl hm))
          · exact (List.nodup_append.1 e3).2.2 x hm x (e2.hsub' x hx') rfl
        · exact g1 (List.mem_append.2 (.inr hm))
  | _ => exact he
end Go.Ev
end
section
/- Contracts by signature, where a nil slice may stand for an empty one; results with what is handed back. -/
set_option linter.unusedVariables false
namespace Go.Ev
def Cc.decN : (c : Cc) → V → Option c.T
  | .sl _, .nl => some []
  | c, v => c.dec v
def Rw.decN : (r : Rw) → List V → Option r.T
  | .one c, [v] => c.decN v
  | .cons c r, v :: vs => match c.decN v with
    | some d => match r.decN vs with
      | some e => some (d, e)
      | none => none
    | none => none
  | _, _ => none
def Ak.decN : (k : Ak) → V → Option k.T
  | .a r, .a cs => r.decN cs
  | .l r, v => (Cc.sl r).decN v
  | k, v => k.dec v
def sgN : (ks : List Ak) → List V → Option (SgT ks)
  | [], [] => some ()
  | k :: ks, v :: vs => match k.decN v with
    | some d => match sgN ks vs with
      | some e => some (d, e)
      | none => none
    | none => none
  | _, _ => none
section
variable {w : World}
theorem CellR.nlN {r : Rw} {c : Value} {O M H : List Nat} (h : CellR w .nl c O M H) : CellR w (.l .no r []) c O M H := by
  obtain ⟨h1, h2, h3⟩ := h
  have h1' : c = .slice none 0 0 := h1
  exact ⟨⟨[], .inl ⟨rfl, rfl, none, 0, h1', fun _ => ⟨rfl, rfl⟩⟩, fun _ h => nomatch h⟩, h2, h3⟩
theorem Cc.decN_ok : (c : Cc) → {v : V} → {d : c.T} → c.decN v = some d → (v = .nl ∧ ∃ r, c.cell .no d = .l .no r []) ∨ v = c.cell .no d
  | .sl r, v, d, h => by
    cases v with
    | nl =>
      have h' : (some [] : Option (List r.T)) = some d := h
      cases h'
      exact .inl ⟨rfl, r, rfl⟩
    | _ => exact .inr (Cc.dec_ok (.sl r) h)
  | .int k, v, d, h => .inr (Cc.dec_ok (.int k) (by cases v <;> simpa [Cc.decN] using h))
  | .bool, v, d, h => .inr (Cc.dec_ok .bool (by cases v <;> simpa [Cc.decN] using h))
  | .str, v, d, h => .inr (Cc.dec_ok .str (by cases v <;> simpa [Cc.decN] using h))
theorem Cc.decN_R {c : Cc} {v : V} {d : c.T} (h : c.decN v = some d) {x : Value} {O M H : List Nat} (hc : CellR w v x O M H) : CellR w (c.cell .no d) x O M H := by
  rcases Cc.decN_ok c h with ⟨rfl, r, e⟩ | e
  · rw [e]; exact hc.nlN
  · rw [← e]; exact hc
theorem Rw.decN_R : (r : Rw) → {cs : List V} → {d : r.T} → r.decN cs = some d → ∀ {vs : List Value} {O M H : List Nat}, CellsR w cs vs O M H → CellsR w (r.cells .no d) vs O M H
  | .one c, cs, d, h, vs, O, M, H, hc => by
    match cs, h, hc with
    | [v], h, ⟨v1, vs', O1, O2, M1, M2, H1, H2, a1, a2, a3, a4, a5, a6⟩ =>
      exact ⟨v1, vs', O1, O2, M1, M2, H1, H2, a1, a2, a3, a4, Cc.decN_R (c := c) h a5, a6⟩
    | [], h, _ => simp [Rw.decN] at h
    | _ :: _ :: _, h, _ => simp [Rw.decN] at h
  | .cons c r, cs, d, h, vs, O, M, H, hc => by
    match cs, h, hc with
    | v :: us, h, ⟨v1, vs', O1, O2, M1, M2, H1, H2, a1, a2, a3, a4, a5, a6⟩ =>
      simp only [Rw.decN] at h
      split at h
      · rename_i d1 e1
        split at h
        · rename_i d2 e2
          cases h
          exact ⟨v1, vs', O1, O2, M1, M2, H1, H2, a1, a2, a3, a4, Cc.decN_R (c := c) e1 a5, Rw.decN_R r e2 a6⟩
        · cases h
      · cases h
    | [], h, _ => simp [Rw.decN] at h
theorem cell_argR {v : V} (h : ∀ cs, v ≠ .a cs) (h2 : ∀ cs, v ≠ .io cs) {x : Value} {O M H : List Nat} : ArgR w v x O M H ↔ CellR w v x O M H := by
  cases v with
  | a cs => exact absurd rfl (h cs)
  | io cs => exact absurd rfl (h2 cs)
  | _ => exact Iff.rfl
theorem Ak.decN_R : (k : Ak) → {v : V} → {d : k.T} → k.decN v = some d → ∀ {x : Value} {O M H : List Nat}, ArgR w v x O M H → ArgR w (k.v d) x O M H
  | .a r, v, d, h, x, O, M, H, ha => by
    cases v with
    | a cs =>
      obtain ⟨vs, h1, h2⟩ := ha
      exact ⟨vs, h1, Rw.decN_R r h h2⟩
    | _ => simp [Ak.decN, Ak.dec] at h
  | .l r, v, d, h, x, O, M, H, ha => by
    have h' : (Cc.sl r).decN v = some d := by cases v <;> simpa [Ak.decN] using h
    have hv : (∀ cs, v ≠ .a cs) ∧ (∀ cs, v ≠ .io cs) := by
      cases v with
      | a cs => simp [Cc.decN, Cc.dec] at h'
      | io cs => simp [Cc.decN, Cc.dec] at h'
      | _ => exact ⟨fun _ h => (nomatch h), fun _ h => (nomatch h)⟩
    exact (cell_argR (v := V.l .no r d) (fun _ h => nomatch h) (fun _ h => nomatch h)).2 (Cc.decN_R (c := .sl r) h' ((cell_argR hv.1 hv.2).1 ha))
  | .i, v, d, h, x, O, M, H, ha => by
    have h' : Ak.dec .i v = some d := by cases v <;> simpa [Ak.decN] using h
    rw [Ak.dec_ok .i h'] at ha; exact ha
  | .b, v, d, h, x, O, M, H, ha => by
    have h' : Ak.dec .b v = some d := by cases v <;> simpa [Ak.decN] using h
    rw [Ak.dec_ok .b h'] at ha; exact ha
  | .sc1 k, v, d, h, x, O, M, H, ha => by
    have h' : Ak.dec (.sc1 k) v = some d := by cases v <;> simpa [Ak.decN] using h
    rw [Ak.dec_ok (.sc1 k) h'] at ha; exact ha
  | .sh s, v, d, h, x, O, M, H, ha => by
    have h' : Ak.dec (.sh s) v = some d := by cases v <;> simpa [Ak.decN] using h
    rw [Ak.dec_ok (.sh s) h'] at ha; exact ha
theorem cell_noOwn (c : Cc) (d : c.T) : (c.cell .no d).isOwn = false := by cases c <;> rfl
theorem cells_noOwn : (r : Rw) → (d : r.T) → (r.cells .no d).any V.isOwn = false
  | .one c, d => by simp [Rw.cells, cell_noOwn]
  | .cons c r, d => by simp only [Rw.cells, List.any_cons, cell_noOwn, cells_noOwn r, Bool.or_self]
theorem Cc.decN_own {c : Cc} {v : V} {d : c.T} (h : c.decN v = some d) : v.isOwn = false := by
  rcases Cc.decN_ok c h with ⟨rfl, _⟩ | e
  · rfl
  · rw [e]; exact cell_noOwn c d
theorem Rw.decN_own : (r : Rw) → {cs : List V} → {d : r.T} → r.decN cs = some d → cs.any V.isOwn = false
  | .one c, cs, d, h => by
    match cs, h with
    | [v], h => simp only [List.any_cons, List.any_nil, Bool.or_false]; exact Cc.decN_own (c := c) h
    | [], h => simp [Rw.decN] at h
    | _ :: _ :: _, h => simp [Rw.decN] at h
  | .cons c r, cs, d, h => by
    match cs, h with
    | v :: us, h =>
      simp only [Rw.decN] at h
      split at h
      · rename_i d1 e1
        split at h
        · rename_i d2 e2
          simp only [List.any_cons, Cc.decN_own (c := c) e1, Rw.decN_own r e2, Bool.or_self]
        · cases h
      · cases h
    | [], h => simp [Rw.decN] at h
theorem Ak.decN_back (k : Ak) {v : V} {d : k.T} (h : k.decN v = some d) : v.back = (k.v d).back := by
  cases k with
  | a r =>
    cases v with
    | a cs =>
      have h' : r.decN cs = some d := h
      show cs.any V.isOwn = (r.cells .no d).any V.isOwn
      rw [Rw.decN_own r h', cells_noOwn]
    | _ => simp [Ak.decN, Ak.dec] at h
  | l r =>
    have h' : (Cc.sl r).decN v = some d := by cases v <;> simpa [Ak.decN] using h
    rcases Cc.decN_ok (.sl r) h' with ⟨rfl, _⟩ | e
    · rfl
    · rw [e]; rfl
  | i =>
    have h' : Ak.dec .i v = some d := by cases v <;> simpa [Ak.decN] using h
    rw [Ak.dec_ok .i h']
  | b =>
    have h' : Ak.dec .b v = some d := by cases v <;> simpa [Ak.decN] using h
    rw [Ak.dec_ok .b h']
  | sc1 k =>
    have h' : Ak.dec (.sc1 k) v = some d := by cases v <;> simpa [Ak.decN] using h
    rw [Ak.dec_ok (.sc1 k) h']
  | sh s =>
    have h' : Ak.dec (.sh s) v = some d := by cases v <;> simpa [Ak.decN] using h
    rw [Ak.dec_ok (.sh s) h']
end
/-- What holds of the one holds of the other, and the same comes back. -/
def NilLe (ws ws' : List V) : Prop := (∀ (w : World) (vs : List Value) (O M H : List Nat), ArgsR w ws vs O M H → ArgsR w ws' vs O M H) ∧ ∀ (vs : List Value), ptrs ws vs = ptrs ws' vs
theorem NilLe.rfl' (ws : List V) : NilLe ws ws := ⟨fun _ _ _ _ _ h => h, fun _ => rfl⟩
theorem sgN_le : (ks : List Ak) → {ws : List V} → {d : SgT ks} → sgN ks ws = some d → NilLe ws (sgV ks d)
  | [], [], d, h => NilLe.rfl' _
  | [], _ :: _, d, h => by simp [sgN] at h
  | k :: ks, [], d, h => by simp [sgN] at h
  | k :: ks, v :: ws, d, h => by
    simp only [sgN] at h
    split at h
    · rename_i d1 e1
      split at h
      · rename_i d2 e2
        cases h
        have ih := sgN_le ks e2
        refine ⟨fun w vs O M H ⟨x, xs, O1, O2, M1, M2, H1, H2, a1, a2, a3, a4, a5, a6⟩ => ⟨x, xs, O1, O2, M1, M2, H1, H2, a1, a2, a3, a4, Ak.decN_R k e1 a5, ih.1 w xs O2 M2 H2 a6⟩, fun vs => ?_⟩
        show ptrs (v :: ws) vs = ptrs (k.v d1 :: sgV ks d2) vs
        cases vs with
        | nil => rfl
        | cons x xs => simp only [ptrs, Ak.decN_back k e1, ih.2 xs]
      · cases h
    · cases h
theorem okN {P : Program} {I : Nat → World → Prop} {g : FuncId} {f : Bool} {S G : Sm} (hG : OkFn P I g f G) (h : ∀ ws K q, S ws K = some q → ∃ ws', NilLe ws ws' ∧ G ws' K = some q) : OkFn P I g f S :=
  ⟨hG.1, fun ws K r hr B0 w0 w N vs O M H hI hb hB hA => by
    obtain ⟨ws', hn, h3⟩ := h ws K r hr
    have := hG.2 ws' K r h3 B0 w0 w N vs O M H hI hb hB (hn.1 w vs O M H hA)
    rw [hn.2 vs]
    exact this⟩
/-- What goes on with a result that is only read. -/
def noK (K : Ret → Option Ret) : Ret → Option Ret := fun q => bif q.1.okNo then K (noR q.1, q.2) else none
def S_fnR (ks : List Ak) (pre : SgT ks → Bool) (f : SgT ks → Ret) : Sm := fun vs K => match sgN ks vs with
  | some d => bif pre d then K (f d) else none
  | none => none
theorem S_fnR_of {ks : List Ak} {pre : SgT ks → Bool} {f : SgT ks → Ret} {G : Sm} (h : ∀ d K, pre d = true → G (sgV ks d) K = K (f d)) : ∀ ws K q, S_fnR ks pre f ws K = some q → ∃ ws', NilLe ws ws' ∧ G ws' K = some q := by
  intro ws K q hr
  unfold S_fnR at hr
  split at hr
  · rename_i d hd
    cases hp : pre d with
    | false => rw [hp] at hr; cases hr
    | true => rw [hp] at hr; exact ⟨_, sgN_le ks hd, (h d K hp).trans hr⟩
  · cases hr
/-- A contract that hands its result on. -/
def S_B (ks : List Ak) (F : SgT ks → (Ret → Option Ret) → Option Ret) : Sm := fun vs K => match sgN ks vs with
  | some d => F d K
  | none => none
theorem S_B_of {ks : List Ak} {F : SgT ks → (Ret → Option Ret) → Option Ret} {G : Sm} (h : ∀ d K q, F d K = some q → G (sgV ks d) K = some q) : ∀ ws K q, S_B ks F ws K = some q → ∃ ws', NilLe ws ws' ∧ G ws' K = some q := by
  intro ws K q hr
  unfold S_B at hr
  split at hr
  · rename_i d hd
    exact ⟨_, sgN_le ks hd, h d K q hr⟩
  · cases hr
end Go.Ev
end
section
/- The rows of the structs. Printed by fam.py. -/
namespace Go.Ev.Seat
open Go.RowKit
abbrev pieceR : Rw := .one (.sl bytesR)
abbrev reqR : Rw := .cons (.int .i64) (.cons (.int .i64) (.cons (.int .i64) (.cons (.int .i64) (.cons (.int .i64) (.one (.sl bytesR))))))
abbrev replyR : Rw := .cons (.int .i64) (.cons (.int .i64) (.cons (.int .i64) (.one (.sl bytesR))))
abbrev T_Req : Type := Int × Int × Int × Int × Int × List Int
abbrev T_Reply : Type := Int × Int × Int × List Int
end Go.Ev.Seat
end
section
/- UTF-8, as lists of numbers. -/
set_option linter.unusedVariables false
namespace Go.Ev
open Go.RowKit
def isB (x : Int) : Bool := decide (0 ≤ x) && decide (x ≤ 255)
def fitB (xs : List Int) : Bool := Nat.ble xs.length 1048576 && xs.all isB
theorem fitB_len {xs : List Int} (h : fitB xs = true) : xs.length ≤ 1048576 := by
  unfold fitB at h; rw [Bool.and_eq_true] at h; exact Nat.le_of_ble_eq_true h.1
theorem fitB_mem {xs : List Int} (h : fitB xs = true) {x : Int} (hx : x ∈ xs) : 0 ≤ x ∧ x ≤ 255 := by
  unfold fitB at h; rw [Bool.and_eq_true, List.all_eq_true] at h
  have := h.2 x hx
  simpa [isB] using this
theorem fitB_get {xs : List Int} (h : fitB xs = true) (i : Nat) : 0 ≤ xs.getD i 0 ∧ xs.getD i 0 ≤ 255 := by
  rw [List.getD_eq_getElem?_getD]
  rcases Nat.lt_or_ge i xs.length with hi | hi
  · rw [List.getElem?_eq_getElem hi]; exact fitB_mem h (List.getElem_mem hi)
  · rw [List.getElem?_eq_none hi]; simp
theorem fitB_of {xs : List Int} (h1 : xs.length ≤ 1048576) (h2 : ∀ x ∈ xs, 0 ≤ x ∧ x ≤ 255) : fitB xs = true := by
  unfold fitB; rw [Bool.and_eq_true, List.all_eq_true]
  exact ⟨Nat.ble_eq_true_of_le h1, fun x hx => by simpa [isB] using h2 x hx⟩
theorem fitB_sub {xs ys : List Int} (h : fitB xs = true) (hl : ys.length ≤ xs.length) (hs : ∀ y ∈ ys, y ∈ xs) : fitB ys = true :=
  fitB_of (Nat.le_trans hl (fitB_len h)) (fun y hy => fitB_mem h (hs y hy))
theorem fitB_drop {xs : List Int} (h : fitB xs = true) (n : Nat) : fitB (xs.drop n) = true := fitB_sub h (by simp) (fun y hy => List.mem_of_mem_drop hy)
theorem fitB_append {xs ys : List Int} (h1 : fitB xs = true) (h2 : fitB ys = true) (h : xs.length + ys.length ≤ 1048576) : fitB (xs ++ ys) = true :=
  fitB_of (by simpa using h) (fun y hy => (List.mem_append.1 hy).elim (fitB_mem h1) (fitB_mem h2))

/-! ### Bits -/
theorem wrap64 {n : Nat} (h : n < 18446744073709551616) : IntKind.u64.wrap (n : Int) = n := by
  have e : IntKind.u64.wrap (n : Int) = (n : Int) % 18446744073709551616 := by
    simp only [IntKind.wrap, IntKind.bits, IntKind.signed]; simp
  rw [e]; omega
theorem ofInt_nat (k n : Nat) : BitVec.ofInt k (n : Int) = BitVec.ofNat k n := by
  apply BitVec.eq_of_toNat_eq
  simp [BitVec.toNat_ofInt, BitVec.toNat_ofNat]
theorem bor64 {a b : Nat} (ha : a < 18446744073709551616) (hb : b < 18446744073709551616) : bor .u64 a b = ((a ||| b : Nat) : Int) := by
  unfold bor
  have e : (BitVec.ofInt IntKind.u64.bits (a : Int) ||| BitVec.ofInt IntKind.u64.bits (b : Int)).toNat = a ||| b := by
    show (BitVec.ofInt 64 (a : Int) ||| BitVec.ofInt 64 (b : Int)).toNat = _
    rw [ofInt_nat, ofInt_nat, BitVec.toNat_or, BitVec.toNat_ofNat, BitVec.toNat_ofNat, Nat.mod_eq_of_lt (by omega), Nat.mod_eq_of_lt (by omega)]
  rw [e]; exact wrap64 (Nat.or_lt_two_pow (n := 64) ha hb)
theorem band64 {a b : Nat} (ha : a < 18446744073709551616) (hb : b < 18446744073709551616) : band .u64 a b = ((a &&& b : Nat) : Int) := by
  unfold band
  have e : (BitVec.ofInt IntKind.u64.bits (a : Int) &&& BitVec.ofInt IntKind.u64.bits (b : Int)).toNat = a &&& b := by
    show (BitVec.ofInt 64 (a : Int) &&& BitVec.ofInt 64 (b : Int)).toNat = _
    rw [ofInt_nat, ofInt_nat, BitVec.toNat_and, BitVec.toNat_ofNat, BitVec.toNat_ofNat, Nat.mod_eq_of_lt (by omega), Nat.mod_eq_of_lt (by omega)]
  rw [e]; exact wrap64 (Nat.and_lt_two_pow (n := 64) a hb)
def M8 : Nat := 9259542123273814144
def hiTab : Bool := (List.range 256).all fun b => (List.range 8).all fun i => ((b * 2 ^ (8 * i)) &&& M8 == 0) == decide (b < 128)
theorem hiTab_ok : hiTab = true := by kernel_rfl
theorem hi_ok {b i : Nat} (hb : b < 256) (hi : i < 8) : (b * 2 ^ (8 * i)) &&& M8 = 0 ↔ b < 128 := by
  have h := hiTab_ok
  unfold hiTab at h
  rw [List.all_eq_true] at h
  have h1 := h b (List.mem_range.2 hb)
  rw [List.all_eq_true] at h1
  have h2 := h1 i (List.mem_range.2 hi)
  simp only [beq_iff_eq] at h2
  rw [Bool.eq_iff_iff] at h2
  simpa using h2
theorem or_mask (a b m : Nat) : (a ||| b) &&& m = 0 ↔ a &&& m = 0 ∧ b &&& m = 0 := by
  rw [Nat.and_or_distrib_right, Nat.or_eq_zero_iff]
theorem shl64 {b : Nat} {i : Nat} (hb : b < 256) (hi : i < 8) : shlI .u64 (IntKind.wrap .u64 (b : Int)) ((8 * i : Nat) : Int) = ((b * 2 ^ (8 * i) : Nat) : Int) := by
  unfold shlI
  rw [wrap64 (by omega)]
  have e : ((b : Int) * 2 ^ (min ((8 * i : Nat) : Int).toNat IntKind.u64.bits)) = ((b * 2 ^ (8 * i) : Nat) : Int) := by
    have : min ((8 * i : Nat) : Int).toNat IntKind.u64.bits = 8 * i := by
      show min _ 64 = _
      rw [Int.toNat_natCast]; omega
    rw [this]; push_cast; rfl
  rw [e]
  refine wrap64 ?_
  have : 2 ^ (8 * i) ≤ 2 ^ 56 := Nat.pow_le_pow_right (by omega) (by omega)
  have h2 : b * 2 ^ (8 * i) ≤ 255 * 2 ^ 56 := Nat.mul_le_mul (by omega) this
  have : (255 * 2 ^ 56 : Nat) < 18446744073709551616 := by decide
  omega
theorem shl_lt {b i : Nat} (hb : b < 256) (hi : i < 8) : b * 2 ^ (8 * i) < 18446744073709551616 := by
  have : 2 ^ (8 * i) ≤ 2 ^ 56 := Nat.pow_le_pow_right (by omega) (by omega)
  have h2 : b * 2 ^ (8 * i) ≤ 255 * 2 ^ 56 := Nat.mul_le_mul (by omega) this
  have : (255 * 2 ^ 56 : Nat) < 18446744073709551616 := by decide
  omega

/-! ### Runes -/
def lo3 (b : Int) : Int := if b = 224 then 160 else 128
def hi3 (b : Int) : Int := if b = 237 then 159 else 191
def lo4 (b : Int) : Int := if b = 240 then 144 else 128
def hi4 (b : Int) : Int := if b = 244 then 143 else 191
/-- The size of the rune in front; 0 where there is none. -/
def runeSz (xs : List Int) : Nat :=
  if xs.length = 0 then 0
  else if xs.getD 0 0 < 128 then 1
  else if xs.getD 0 0 < 194 then 0
  else if xs.getD 0 0 < 224 then (if 2 ≤ xs.length ∧ 128 ≤ xs.getD 1 0 ∧ xs.getD 1 0 ≤ 191 then 2 else 0)
  else if xs.getD 0 0 < 240 then (if 3 ≤ xs.length ∧ lo3 (xs.getD 0 0) ≤ xs.getD 1 0 ∧ xs.getD 1 0 ≤ hi3 (xs.getD 0 0) ∧ 128 ≤ xs.getD 2 0 ∧ xs.getD 2 0 ≤ 191 then 3 else 0)
  else if xs.getD 0 0 < 245 then (if 4 ≤ xs.length ∧ lo4 (xs.getD 0 0) ≤ xs.getD 1 0 ∧ xs.getD 1 0 ≤ hi4 (xs.getD 0 0) ∧ 128 ≤ xs.getD 2 0 ∧ xs.getD 2 0 ≤ 191 ∧ 128 ≤ xs.getD 3 0 ∧ xs.getD 3 0 ≤ 191 then 4 else 0)
  else 0
theorem runeSz_le (xs : List Int) : runeSz xs ≤ xs.length := by
  unfold runeSz; repeat' split
  all_goals omega
def valid (xs : List Int) : Bool := if h : runeSz xs = 0 then xs.isEmpty else valid (xs.drop (runeSz xs))
termination_by xs.length
decreasing_by
  have := runeSz_le xs
  simp; omega
theorem valid_nil : valid [] = true := by unfold valid; rfl
theorem valid_stop {xs : List Int} (h : runeSz xs = 0) (hl : 0 < xs.length) : valid xs = false := by
  unfold valid; rw [dif_pos h]; cases xs with
  | nil => simp at hl
  | cons _ _ => rfl
theorem valid_step {xs : List Int} (h : runeSz xs ≠ 0) : valid xs = valid (xs.drop (runeSz xs)) := by
  conv => lhs; unfold valid
  rw [dif_neg h]
theorem runeSz_ascii {xs : List Int} (hl : 0 < xs.length) (h : xs.getD 0 0 < 128) : runeSz xs = 1 := by
  unfold runeSz; rw [if_neg (by omega), if_pos h]
theorem getD_drop (xs : List Int) (n i : Nat) : (xs.drop n).getD i 0 = xs.getD (n + i) 0 := by
  simp [List.getD_eq_getElem?_getD, List.getElem?_drop]
theorem valid_drop {xs : List Int} : ∀ (n : Nat), n ≤ xs.length → (∀ i, i < n → xs.getD i 0 < 128) → valid (xs.drop n) = valid xs
  | 0, _, _ => rfl
  | n + 1, hl, h => by
    have ih := valid_drop n (by omega) (fun i hi => h i (by omega))
    rw [← ih]
    have e : runeSz (xs.drop n) = 1 := runeSz_ascii (by simp; omega) (by rw [getD_drop]; exact h _ (by omega))
    rw [valid_step (xs := xs.drop n) (by rw [e]; omega), e, List.drop_drop]
def fsz (b : Int) : Int := IntKind.wrap .i64 (band .u8 (List.getD utfFirst (Int.toNat b) 0) 7)
def fsh (b : Int) : Int := shrI .u8 (List.getD utfFirst (Int.toNat b) 0) 4
def fac (b : Int) : Int × Int := List.getD utfAccept (Int.toNat (fsh b)) (0, 0)
def firstChk (b : Int) : Bool := decide (0 ≤ fsh b) && decide (fsh b < 16) &&
  (if b < 128 then true else if b < 194 ∨ 245 ≤ b then fsz b == 1 else if b < 224 then fsz b == 2 && fac b == (128, 191) else if b < 240 then fsz b == 3 && fac b == (lo3 b, hi3 b) else fsz b == 4 && fac b == (lo4 b, hi4 b))
theorem firstTab_ok : ((List.range 256).all fun n => firstChk n) = true := by kernel_rfl
theorem first_at {b : Int} (h0 : 0 ≤ b) (h1 : b ≤ 255) : firstChk b = true := by
  obtain ⟨n, rfl⟩ : ∃ n : Nat, b = n := ⟨b.toNat, by omega⟩
  have h := firstTab_ok
  rw [List.all_eq_true] at h
  exact h n (List.mem_range.2 (by omega))
theorem first_sh {b : Int} (h0 : 0 ≤ b) (h1 : b ≤ 255) : 0 ≤ fsh b ∧ fsh b < 16 := by
  have h := first_at h0 h1
  unfold firstChk at h
  simp only [Bool.and_eq_true, decide_eq_true_eq] at h
  exact h.1
theorem first_1 {b : Int} (h0 : 128 ≤ b) (h1 : b ≤ 255) (h2 : b < 194 ∨ 245 ≤ b) : fsz b = 1 := by
  have h := first_at (by omega) h1
  unfold firstChk at h
  rw [if_neg (by omega), if_pos h2] at h
  simp only [Bool.and_eq_true, beq_iff_eq] at h
  exact h.2
theorem first_2 {b : Int} (h0 : 194 ≤ b) (h1 : b < 224) : fsz b = 2 ∧ fac b = (128, 191) := by
  have h := first_at (b := b) (by omega) (by omega)
  unfold firstChk at h
  rw [if_neg (by omega), if_neg (by omega), if_pos h1] at h
  simp only [Bool.and_eq_true, beq_iff_eq] at h
  exact h.2
theorem first_3 {b : Int} (h0 : 224 ≤ b) (h1 : b < 240) : fsz b = 3 ∧ fac b = (lo3 b, hi3 b) := by
  have h := first_at (b := b) (by omega) (by omega)
  unfold firstChk at h
  rw [if_neg (by omega), if_neg (by omega), if_neg (by omega), if_pos h1] at h
  simp only [Bool.and_eq_true, beq_iff_eq] at h
  exact h.2
theorem first_4 {b : Int} (h0 : 240 ≤ b) (h1 : b < 245) : fsz b = 4 ∧ fac b = (lo4 b, hi4 b) := by
  have h := first_at (b := b) (by omega) (by omega)
  unfold firstChk at h
  rw [if_neg (by omega), if_neg (by omega), if_neg (by omega), if_neg (by omega)] at h
  simp only [Bool.and_eq_true, beq_iff_eq] at h
  exact h.2
theorem first_len : utfFirst.length = 256 := by kernel_rfl
theorem accept_len : utfAccept.length = 16 := by kernel_rfl
def textOk (xs : List Int) : Bool := Nat.ble xs.length 400 && valid xs
theorem wrap8 {n : Int} (h0 : 0 ≤ n) (h1 : n ≤ 255) : IntKind.u8.wrap n = n := by
  have e : IntKind.u8.wrap n = n % 256 := by
    simp only [IntKind.wrap, IntKind.bits, IntKind.signed]; simp
  rw [e]; omega
/-- The bytes of a rune. -/
def encD (r : Int) : List Int :=
  if r < 0 ∨ 1114111 < r ∨ (55296 ≤ r ∧ r ≤ 57343) then []
  else if r < 128 then [r]
  else if r < 2048 then [192 + r / 64, 128 + r % 64]
  else if r < 65536 then [224 + r / 4096, 128 + r / 64 % 64, 128 + r % 64]
  else [240 + r / 262144, 128 + r / 4096 % 64, 128 + r / 64 % 64, 128 + r % 64]
def contB (b : Int) : Bool := decide (128 ≤ b) && decide (b ≤ 191)
/-- Is it a boundary of a text? -/
def isCutD (t : List Int) (k : Int) : Bool := k == ((t.length : Nat) : Int) || (decide (0 ≤ k) && decide (k < ((t.length : Nat) : Int)) && !contB (t.getD k.toNat 0))
/-- All boundaries, from here on. -/
def bounds (xs : List Int) (k : Int) : List Int := if h : runeSz xs = 0 then [k] else k :: bounds (xs.drop (runeSz xs)) (k + (runeSz xs : Nat))
termination_by xs.length
decreasing_by
  have := runeSz_le xs
  simp; omega
theorem bounds_stop {xs : List Int} (h : runeSz xs = 0) (k : Int) : bounds xs k = [k] := by unfold bounds; rw [dif_pos h]
theorem bounds_step {xs : List Int} (h : runeSz xs ≠ 0) (k : Int) : bounds xs k = k :: bounds (xs.drop (runeSz xs)) (k + (runeSz xs : Nat)) := by
  conv => lhs; unfold bounds
  rw [dif_neg h]
def cutsD (xs : List Int) : List Int := bif textOk xs then bounds xs 0 else []
theorem bounds_ne (xs : List Int) (k : Int) : 0 < (bounds xs k).length := by
  by_cases h : runeSz xs = 0
  · rw [bounds_stop h]; simp
  · rw [bounds_step h]; simp
def runeVal (xs : List Int) : Int :=
  if runeSz xs = 0 then -1
  else if runeSz xs = 1 then xs.getD 0 0
  else if runeSz xs = 2 then 64 * (xs.getD 0 0 - 192) + xs.getD 1 0 - 128
  else if runeSz xs = 3 then 64 * (64 * (xs.getD 0 0 - 224) + xs.getD 1 0 - 128) + xs.getD 2 0 - 128
  else 64 * (64 * (64 * (xs.getD 0 0 - 240) + xs.getD 1 0 - 128) + xs.getD 2 0 - 128) + xs.getD 3 0 - 128
theorem bstr_toList (xs : List Int) : (bstr xs).toList = xs.map (fun n => UInt8.ofNat n.toNat) := by
  rw [Lib.toList_data]; rfl
theorem u8_inj {a b : Int} (ha : 0 ≤ a ∧ a ≤ 255) (hb : 0 ≤ b ∧ b ≤ 255) (h : UInt8.ofNat a.toNat = UInt8.ofNat b.toNat) : a = b := by
  have h1 := congrArg UInt8.toNat h
  rw [UInt8.toNat_ofNat', UInt8.toNat_ofNat'] at h1
  omega
theorem map_u8_inj : ∀ {xs ys : List Int}, (∀ x ∈ xs, 0 ≤ x ∧ x ≤ 255) → (∀ y ∈ ys, 0 ≤ y ∧ y ≤ 255) → xs.map (fun n => UInt8.ofNat n.toNat) = ys.map (fun n => UInt8.ofNat n.toNat) → xs = ys
  | [], [], _, _, _ => rfl
  | [], _ :: _, _, _, h => by simp at h
  | _ :: _, [], _, _, h => by simp at h
  | x :: xs, y :: ys, hx, hy, h => by
    simp only [List.map_cons, List.cons.injEq] at h
    rw [u8_inj (hx x (by simp)) (hy y (by simp)) h.1, map_u8_inj (fun a ha => hx a (by simp [ha])) (fun a ha => hy a (by simp [ha])) h.2]
/-- Two strings of bytes are equal if the bytes are. -/
theorem bstr_eq {xs ys : List Int} (hx : ∀ x ∈ xs, 0 ≤ x ∧ x ≤ 255) (hy : ∀ y ∈ ys, 0 ≤ y ∧ y ≤ 255) : ((bstr xs).toList == (bstr ys).toList) = decide (xs = ys) := by
  rw [Bool.eq_iff_iff, beq_iff_eq, decide_eq_true_iff, bstr_toList, bstr_toList]
  exact ⟨map_u8_inj hx hy, fun h => by rw [h]⟩
theorem encD_byte (r : Int) : ∀ x ∈ encD r, 0 ≤ x ∧ x ≤ 255 := by
  intro x hx
  unfold encD at hx
  split at hx
  · cases hx
  split at hx
  · simp at hx; omega
  split at hx
  · simp at hx; rcases hx with rfl | rfl <;> omega
  split at hx
  · simp at hx; rcases hx with rfl | rfl | rfl <;> omega
  · simp at hx; rcases hx with rfl | rfl | rfl | rfl <;> omega
theorem runeSz0 {xs : List Int} (h : runeSz xs = 0) : ((runeVal xs, ((runeSz xs : Nat) : Int)) : Int × Int) = (-1, 0) := by
  unfold runeVal; rw [h]; rfl
theorem runeVal1 {xs : List Int} (h : runeSz xs = 1) : runeVal xs = xs.getD 0 0 := by
  unfold runeVal; rw [h, if_neg (by omega), if_pos rfl]
theorem runeVal2 {xs : List Int} (h : runeSz xs = 2) : runeVal xs = 64 * (xs.getD 0 0 - 192) + xs.getD 1 0 - 128 := by
  unfold runeVal; rw [h, if_neg (by omega), if_neg (by omega), if_pos rfl]
theorem runeVal3 {xs : List Int} (h : runeSz xs = 3) : runeVal xs = 64 * (64 * (xs.getD 0 0 - 224) + xs.getD 1 0 - 128) + xs.getD 2 0 - 128 := by
  unfold runeVal; rw [h, if_neg (by omega), if_neg (by omega), if_neg (by omega), if_pos rfl]
theorem runeVal4 {xs : List Int} (h : runeSz xs = 4) : runeVal xs = 64 * (64 * (64 * (xs.getD 0 0 - 240) + xs.getD 1 0 - 128) + xs.getD 2 0 - 128) + xs.getD 3 0 - 128 := by
  unfold runeVal; rw [h, if_neg (by omega), if_neg (by omega), if_neg (by omega), if_neg (by omega)]
theorem dec1 {b : Int} {t : List Int} (h0 : 0 ≤ b) (h : b < 192) : (if encD b = [b] then (b, (1 : Int)) else (-1, 0)) = (runeVal (b :: t), ((runeSz (b :: t) : Nat) : Int)) := by
  have e : runeSz (b :: t) = if b < 128 then 1 else 0 := by
    unfold runeSz
    rw [if_neg (by simp)]
    show (if b < 128 then 1 else if b < 194 then 0 else _) = _
    by_cases c : b < 128
    · rw [if_pos c, if_pos c]
    · rw [if_neg c, if_neg c, if_pos (by omega)]
  by_cases c : b < 128
  · rw [if_pos c] at e
    rw [runeVal1 e, e, if_pos (by unfold encD; rw [if_neg (by omega), if_pos c])]; rfl
  · rw [if_neg c] at e
    rw [runeSz0 e, if_neg]
    unfold encD
    rw [if_neg (by omega), if_neg c, if_pos (by omega)]
    simp
theorem dec2 {a b : Int} {t : List Int} (h0 : 192 ≤ a) (h : a < 224) (hb : 0 ≤ b ∧ b ≤ 255) : (if encD (64 * (a - 192) + b - 128) = [a, b] then (64 * (a - 192) + b - 128, (2 : Int)) else (-1, 0)) = (runeVal (a :: b :: t), ((runeSz (a :: b :: t) : Nat) : Int)) := by
  have e : runeSz (a :: b :: t) = if 194 ≤ a ∧ 128 ≤ b ∧ b ≤ 191 then 2 else 0 := by
    unfold runeSz
    rw [if_neg (by simp)]
    show (if a < 128 then 1 else if a < 194 then 0 else if a < 224 then (if 2 ≤ (a :: b :: t).length ∧ 128 ≤ b ∧ b ≤ 191 then 2 else 0) else _) = _
    rw [if_neg (by omega)]
    by_cases c : a < 194
    · rw [if_pos c, if_neg (by omega)]
    · rw [if_neg c, if_pos h]
      by_cases c2 : 128 ≤ b ∧ b ≤ 191
      · rw [if_pos ⟨by simp, c2⟩, if_pos ⟨by omega, c2⟩]
      · rw [if_neg (fun h => c2 h.2), if_neg (fun h => c2 h.2)]
  by_cases c : 194 ≤ a ∧ 128 ≤ b ∧ b ≤ 191
  · rw [if_pos c] at e
    rw [runeVal2 e, e, if_pos]; rfl
    unfold encD
    rw [if_neg (by omega), if_neg (by omega), if_pos (by omega)]
    congr 1
    · omega
    · congr 1; omega
  · rw [if_neg c] at e
    rw [runeSz0 e, if_neg]
    intro he
    unfold encD at he
    split at he
    · cases he
    split at he
    · simp at he
    split at he
    · simp only [List.cons.injEq, and_true] at he; omega
    split at he
    · simp at he
    · simp at he
theorem dec3 {a b d : Int} {t : List Int} (h0 : 224 ≤ a) (h : a < 240) (hb : 0 ≤ b ∧ b ≤ 255) (hd : 0 ≤ d ∧ d ≤ 255) : (if encD (64 * (64 * (a - 224) + b - 128) + d - 128) = [a, b, d] then (64 * (64 * (a - 224) + b - 128) + d - 128, (3 : Int)) else (-1, 0)) = (runeVal (a :: b :: d :: t), ((runeSz (a :: b :: d :: t) : Nat) : Int)) := by
  have e : runeSz (a :: b :: d :: t) = if lo3 a ≤ b ∧ b ≤ hi3 a ∧ 128 ≤ d ∧ d ≤ 191 then 3 else 0 := by
    unfold runeSz
    rw [if_neg (by simp)]
    show (if a < 128 then 1 else if a < 194 then 0 else if a < 224 then _ else if a < 240 then (if 3 ≤ (a :: b :: d :: t).length ∧ lo3 a ≤ b ∧ b ≤ hi3 a ∧ 128 ≤ d ∧ d ≤ 191 then 3 else 0) else _) = _
    rw [if_neg (by omega), if_neg (by omega), if_neg (by omega), if_pos h]
    by_cases c2 : lo3 a ≤ b ∧ b ≤ hi3 a ∧ 128 ≤ d ∧ d ≤ 191
    · rw [if_pos ⟨by simp, c2⟩, if_pos c2]
    · rw [if_neg (fun h => c2 h.2), if_neg c2]
  by_cases c : lo3 a ≤ b ∧ b ≤ hi3 a ∧ 128 ≤ d ∧ d ≤ 191
  · rw [if_pos c] at e
    have hlh : 128 ≤ b ∧ b ≤ 191 ∧ (a = 224 → 160 ≤ b) ∧ (a = 237 → b ≤ 159) := by
      unfold lo3 hi3 at c
      split at c <;> split at c <;> omega
    rw [runeVal3 e, e, if_pos]; rfl
    unfold encD
    rw [if_neg (by omega), if_neg (by omega), if_neg (by omega), if_pos (by omega)]
    congr 1
    · omega
    · congr 1
      · omega
      · congr 1; omega
  · rw [if_neg c] at e
    rw [runeSz0 e, if_neg]
    intro he
    unfold encD at he
    split at he
    · cases he
    split at he
    · simp at he
    split at he
    · simp at he
    split at he
    · simp only [List.cons.injEq, and_true] at he
      apply c
      unfold lo3 hi3
      split <;> split <;> omega
    · simp at he
theorem dec4 {a b d f : Int} {t : List Int} (h0 : 240 ≤ a) (h : a ≤ 255) (hb : 0 ≤ b ∧ b ≤ 255) (hd : 0 ≤ d ∧ d ≤ 255) (hf : 0 ≤ f ∧ f ≤ 255) : (if encD (64 * (64 * (64 * (a - 240) + b - 128) + d - 128) + f - 128) = [a, b, d, f] then (64 * (64 * (64 * (a - 240) + b - 128) + d - 128) + f - 128, (4 : Int)) else (-1, 0)) = (runeVal (a :: b :: d :: f :: t), ((runeSz (a :: b :: d :: f :: t) : Nat) : Int)) := by
  have e : runeSz (a :: b :: d :: f :: t) = if a < 245 ∧ lo4 a ≤ b ∧ b ≤ hi4 a ∧ 128 ≤ d ∧ d ≤ 191 ∧ 128 ≤ f ∧ f ≤ 191 then 4 else 0 := by
    unfold runeSz
    rw [if_neg (by simp)]
    show (if a < 128 then 1 else if a < 194 then 0 else if a < 224 then _ else if a < 240 then _ else if a < 245 then (if 4 ≤ (a :: b :: d :: f :: t).length ∧ lo4 a ≤ b ∧ b ≤ hi4 a ∧ 128 ≤ d ∧ d ≤ 191 ∧ 128 ≤ f ∧ f ≤ 191 then 4 else 0) else 0) = _
    rw [if_neg (by omega), if_neg (by omega), if_neg (by omega), if_neg (by omega)]
    by_cases c1 : a < 245
    · rw [if_pos c1]
      by_cases c2 : lo4 a ≤ b ∧ b ≤ hi4 a ∧ 128 ≤ d ∧ d ≤ 191 ∧ 128 ≤ f ∧ f ≤ 191
      · rw [if_pos ⟨by simp, c2⟩, if_pos ⟨c1, c2⟩]
      · rw [if_neg (fun h => c2 h.2), if_neg (fun h => c2 h.2)]
    · rw [if_neg c1, if_neg (fun h => c1 h.1)]
  by_cases c : a < 245 ∧ lo4 a ≤ b ∧ b ≤ hi4 a ∧ 128 ≤ d ∧ d ≤ 191 ∧ 128 ≤ f ∧ f ≤ 191
  · rw [if_pos c] at e
    have hlh : 128 ≤ b ∧ b ≤ 191 ∧ (a = 240 → 144 ≤ b) ∧ (a = 244 → b ≤ 143) := by
      unfold lo4 hi4 at c
      split at c <;> split at c <;> omega
    rw [runeVal4 e, e, if_pos]; rfl
    unfold encD
    rw [if_neg (by omega), if_neg (by omega), if_neg (by omega), if_neg (by omega)]
    congr 1
    · omega
    · congr 1
      · omega
      · congr 1
        · omega
        · congr 1; omega
  · rw [if_neg c] at e
    rw [runeSz0 e, if_neg]
    intro he
    unfold encD at he
    split at he
    · cases he
    split at he
    · simp at he
    split at he
    · simp at he
    split at he
    · simp at he
    · simp only [List.cons.injEq, and_true] at he
      apply c
      unfold lo4 hi4
      split <;> split <;> omega
theorem short4 {xs : List Int} (h : 240 ≤ xs.getD 0 0) (hl : xs.length < 4) : runeSz xs = 0 := by
  unfold runeSz; repeat' split
  all_goals omega
theorem short3 {xs : List Int} (h : 224 ≤ xs.getD 0 0) (h2 : xs.getD 0 0 < 240) (hl : xs.length < 3) : runeSz xs = 0 := by
  unfold runeSz; repeat' split
  all_goals omega
theorem short2 {xs : List Int} (h : 192 ≤ xs.getD 0 0) (h2 : xs.getD 0 0 < 224) (hl : xs.length < 2) : runeSz xs = 0 := by
  unfold runeSz; repeat' split
  all_goals omega
def inD (d : List Int) (k : Int) : Bool := decide (0 ≤ k) && decide (k < ((d.length : Nat) : Int))
def szAt (d : List Int) (k : Int) : Int := bif inD d k then ((runeSz (d.drop k.toNat) : Nat) : Int) else 0
def valAt (d : List Int) (k : Int) : Int := bif inD d k then runeVal (d.drop k.toNat) else -1
theorem szAt_in {d : List Int} {k : Int} (h0 : 0 ≤ k) (h1 : k < ((d.length : Nat) : Int)) : szAt d k = ((runeSz (d.drop k.toNat) : Nat) : Int) := by
  unfold szAt inD; rw [decide_eq_true h0, decide_eq_true h1]; rfl
/-- The starts of the runes, from here on. -/
def starts (xs : List Int) (k : Int) : List Int := if h : runeSz xs = 0 then [] else k :: starts (xs.drop (runeSz xs)) (k + (runeSz xs : Nat))
termination_by xs.length
decreasing_by
  have := runeSz_le xs
  simp; omega
theorem starts_stop {xs : List Int} (h : runeSz xs = 0) (k : Int) : starts xs k = [] := by unfold starts; rw [dif_pos h]
theorem starts_step {xs : List Int} (h : runeSz xs ≠ 0) (k : Int) : starts xs k = k :: starts (xs.drop (runeSz xs)) (k + (runeSz xs : Nat)) := by
  conv => lhs; unfold starts
  rw [dif_neg h]
theorem valid_cases {xs : List Int} (h : valid xs = true) : xs = [] ∨ runeSz xs ≠ 0 ∧ valid (xs.drop (runeSz xs)) = true := by
  by_cases e : runeSz xs = 0
  · left
    cases xs with
    | nil => rfl
    | cons a l => rw [valid_stop e (by simp)] at h; cases h
  · right; exact ⟨e, by rw [← valid_step e]; exact h⟩
theorem bounds_starts : ∀ (n : Nat) (xs : List Int) (k : Int), xs.length ≤ n → valid xs = true → bounds xs k = starts xs k ++ [k + (xs.length : Nat)]
  | n, xs, k, hn, hv => by
    rcases valid_cases hv with rfl | ⟨h, hv'⟩
    · rw [bounds_stop (by rfl), starts_stop (by rfl)]; simp
    · have hle := runeSz_le xs
      cases n with
      | zero => omega
      | succ n =>
        rw [bounds_step h, starts_step h, bounds_starts n _ _ (by simp; omega) hv', List.cons_append, List.length_drop]
        congr 3; omega
  termination_by n => n
theorem starts_len : ∀ (n : Nat) (xs : List Int) (k : Int), xs.length ≤ n → (starts xs k).length ≤ xs.length
  | n, xs, k, hn => by
    by_cases h : runeSz xs = 0
    · rw [starts_stop h]; simp
    · have hle := runeSz_le xs
      cases n with
      | zero => omega
      | succ n =>
        rw [starts_step h]
        have := starts_len n (xs.drop (runeSz xs)) (k + (runeSz xs : Nat)) (by simp; omega)
        simp at this ⊢; omega
  termination_by n => n
theorem textOk_iff {xs : List Int} : textOk xs = true ↔ xs.length ≤ 400 ∧ valid xs = true := by
  unfold textOk; rw [Bool.and_eq_true]
  exact ⟨fun h => ⟨Nat.le_of_ble_eq_true h.1, h.2⟩, fun h => ⟨Nat.ble_eq_true_of_le h.1, h.2⟩⟩
end Go.Ev
end
section
/- Edits of texts, as lists of numbers. -/
set_option linter.unusedVariables false
namespace Go.Ev
open Go.RowKit
abbrev E3 : Type := Int × Int × List Int
structure EditOk (t : List Int) (e : E3) : Prop where
  tx : textOk t = true
  a : isCutD t e.1 = true
  c0 : 0 ≤ e.2.1
  c1 : e.2.1 ≤ ((t.length : Nat) : Int) - e.1
  b : isCutD t (e.1 + e.2.1) = true
  p : textOk e.2.2 = true
  l : ((t.length : Nat) : Int) - e.2.1 + ((e.2.2.length : Nat) : Int) ≤ 400
end Go.Ev
end
section
/- Requests and replies, as numbers and lists. -/
set_option linter.unusedVariables false
namespace Go.Ev
open Go.RowKit
def isWordD (n : Int) : Bool := decide (0 ≤ n) && decide (n ≤ 65535)
def wordD (n : Int) : List Int := [n / 256, n % 256]
theorem isWordD_iff {n : Int} : isWordD n = true ↔ 0 ≤ n ∧ n ≤ 65535 := by unfold isWordD; rw [Bool.and_eq_true, decide_eq_true_iff, decide_eq_true_iff]
theorem wrap8_mod (n : Int) : IntKind.u8.wrap n = n % 256 := by
  simp only [IntKind.wrap, IntKind.bits, IntKind.signed]; simp
theorem shr8 (n : Int) : shrI .i64 n 8 = n / 256 := by
  unfold shrI
  show Int.fdiv n (2 ^ 8) = _
  rw [Int.fdiv_eq_ediv_of_nonneg _ (by decide)]; rfl
theorem wordD_fit {n : Int} (h : isWordD n = true) : ∀ x ∈ wordD n, 0 ≤ x ∧ x ≤ 255 := by
  have := isWordD_iff.1 h
  intro x hx
  simp only [wordD, List.mem_cons, List.not_mem_nil, or_false] at hx
  rcases hx with rfl | rfl <;> omega
theorem bifK {K : Ret → Option Ret} (p u v : Bool) : (bif p then K ((.s (.bool u)), []) else K ((.s (.bool v)), [])) = K ((.s (.bool (bif p then u else v))), []) := by cases p <;> rfl
theorem kinds {k : Int} (h1 : 1 ≤ k) (h2 : k ≤ 16) : k = 1 ∨ k = 2 ∨ k = 3 ∨ k = 4 ∨ k = 5 ∨ k = 6 ∨ k = 7 ∨ k = 8 ∨ k = 9 ∨ k = 10 ∨ k = 11 ∨ k = 12 ∨ k = 13 ∨ k = 14 ∨ k = 15 ∨ k = 16 := by omega
abbrev P4 : Type := Int × Int × Int × List Int
def replyOkD (r : P4) : Bool := decide (0 ≤ r.1) && decide (r.1 ≤ 10) && isWordD r.2.1 && isWordD r.2.2.1 && textOk r.2.2.2 && (r.1 == 0 || r.2.1 == 0 && r.2.2.1 == 0 && (((r.2.2.2.length : Nat) : Int) == 0))
def replyBytesD (r : P4) : List Int := bif replyOkD r then [r.1] ++ wordD r.2.1 ++ wordD r.2.2.1 ++ wordD ((r.2.2.2.length : Nat) : Int) ++ r.2.2.2 else []
theorem replyBytesD_len (r : P4) : (replyBytesD r).length ≤ 407 := by
  unfold replyBytesD
  cases h : replyOkD r with
  | false => simp
  | true =>
    unfold replyOkD at h
    simp only [Bool.and_eq_true] at h
    have := (textOk_iff.1 h.1.2).1
    simp [wordD]; omega
/-- How many numbers a kind of request has. -/
def usedD (k : Int) : Int := bif k == 3 || k == 7 || k == 8 || k == 9 then 1 else bif k == 4 || k == 5 || k == 6 || k == 10 || k == 11 || k == 14 then 2 else bif k == 12 || k == 13 then 3 else 0
abbrev P6 : Type := Int × Int × Int × Int × Int × List Int
def reqKindD (k n : Int) : Bool := bif k == 3 || k == 5 then true else bif k == 7 || k == 8 then decide (n > 0) else !decide (n > 0)
def reqOkD (r : P6) : Bool := decide (1 ≤ r.1) && decide (r.1 ≤ 16) && (decide (1 ≤ r.2.1) && decide (r.2.1 ≤ 8)) && (decide (((r.2.2.2.2.2.length : Nat) : Int) ≤ 100) && textOk r.2.2.2.2.2) &&
  isWordD r.2.2.1 && isWordD r.2.2.2.1 && isWordD r.2.2.2.2.1 && ((decide (0 < usedD r.1) || r.2.2.1 == 0) && (decide (1 < usedD r.1) || r.2.2.2.1 == 0) && (decide (2 < usedD r.1) || r.2.2.2.2.1 == 0) && reqKindD r.1 ((r.2.2.2.2.2.length : Nat) : Int))
def reqBytesL (r : P6) : List Int := [r.1, r.2.1] ++ wordD r.2.2.1 ++ wordD r.2.2.2.1 ++ wordD r.2.2.2.2.1 ++ [((r.2.2.2.2.2.length : Nat) : Int)] ++ r.2.2.2.2.2
def reqBytesD (r : P6) : List Int := bif reqOkD r then reqBytesL r else []
theorem reqOkD_q {r : P6} (h : reqOkD r = true) : 0 ≤ r.1 ∧ r.1 < 256 ∧ 0 ≤ r.2.1 ∧ r.2.1 < 256 ∧ ((r.2.2.2.2.2.length : Nat) : Int) ≤ 100 ∧ isWordD r.2.2.1 = true ∧ isWordD r.2.2.2.1 = true ∧ isWordD r.2.2.2.2.1 = true := by
  unfold reqOkD at h
  simp only [Bool.and_eq_true, decide_eq_true_eq] at h
  obtain ⟨⟨⟨⟨⟨⟨⟨h1, h2⟩, h3⟩, h4⟩, h5⟩, h6⟩, h7⟩, _⟩ := h
  exact ⟨by omega, by omega, by omega, by omega, h4.1, h5, h6, h7⟩
theorem reqBytesD_len (r : P6) : (reqBytesD r).length ≤ 109 := by
  unfold reqBytesD
  cases h : reqOkD r with
  | false => exact Nat.zero_le _
  | true =>
    have := (reqOkD_q h).2.2.2.2.1
    simp [reqBytesL, wordD]; omega
def reqEqD (r o : P6) : Bool := (r.1 == o.1) && (r.2.1 == o.2.1) && (r.2.2.1 == o.2.2.1) && (r.2.2.2.1 == o.2.2.2.1) && (r.2.2.2.2.1 == o.2.2.2.2.1) && decide (r.2.2.2.2.2 = o.2.2.2.2.2)
def atD (d : List Int) (k : Int) : Int := 256 * d.getD k.toNat 0 + d.getD (k.toNat + 1) 0
theorem bor_word {a b : Nat} (ha : a < 256) (hb : b < 256) : bor .i64 (shlI .i64 (a : Int) 8) (b : Int) = ((256 * a + b : Nat) : Int) := by
  have e : shlI .i64 (a : Int) 8 = ((a * 256 : Nat) : Int) := by
    unfold shlI
    show IntKind.i64.wrap ((a : Int) * 2 ^ 8) = _
    rw [wrap_in (by omega) (by omega)]; omega
  rw [e]
  unfold bor
  rw [BitVec.toNat_or]
  have h1 : (BitVec.ofInt IntKind.i64.bits ((a * 256 : Nat) : Int)).toNat = a * 256 := by
    rw [BitVec.ofInt_natCast, BitVec.toNat_ofNat]
    exact Nat.mod_eq_of_lt (show a * 256 < 2 ^ 64 by omega)
  have h2 : (BitVec.ofInt IntKind.i64.bits (b : Int)).toNat = b := by
    rw [BitVec.ofInt_natCast, BitVec.toNat_ofNat]
    exact Nat.mod_eq_of_lt (show b < 2 ^ 64 by omega)
  rw [h1, h2]
  have h3 : a * 256 ||| b = a * 256 + b := by
    have := Nat.shiftLeft_add_eq_or_of_lt (i := 8) (b := b) hb a
    rw [Nat.shiftLeft_eq] at this
    exact this.symm
  rw [h3, wrap_in (by omega) (by omega)]; omega
theorem fitB_getD {d : List Int} (h : fitB d = true) (i : Nat) : 0 ≤ d.getD i 0 ∧ d.getD i 0 ≤ 255 := by
  by_cases hi : i < d.length
  · have e : d.getD i 0 = d[i] := by rw [List.getD_eq_getElem?_getD, List.getElem?_eq_getElem hi]; rfl
    rw [e]; exact fitB_mem h (List.getElem_mem hi)
  · have e : d.getD i 0 = 0 := by rw [List.getD_eq_getElem?_getD, List.getElem?_eq_none (by omega)]; rfl
    rw [e]; exact ⟨by omega, by omega⟩
/-- The request that lies in the bytes. -/
def reqOf (d : List Int) : P6 := (d.getD 0 0, d.getD 1 0, atD d 2, atD d 4, atD d 6, d.drop 9)
def reqParseD (d : List Int) : P6 × Bool := bif decide (((d.length : Nat) : Int) < 9) then ((0, 0, 0, 0, 0, []), false) else
  bif reqOkD (reqOf d) && decide (((d.length : Nat) : Int) = 9 + d.getD 8 0) then (reqOf d, true) else ((0, 0, 0, 0, 0, []), false)
theorem fitB_reqBytesL {r : P6} (h : fitB r.2.2.2.2.2 = true) (hk : reqOkD r = true) : ∀ x ∈ reqBytesL r, 0 ≤ x ∧ x ≤ 255 := by
  obtain ⟨a0, a1, s0, s1, l1, q1, q2, q3⟩ := reqOkD_q hk
  intro x hx
  unfold reqBytesL at hx
  simp only [List.mem_append, List.mem_cons, List.not_mem_nil, or_false] at hx
  rcases hx with ((((( rfl | rfl) | hx) | hx) | hx) | rfl) | hx
  · omega
  · omega
  · exact wordD_fit q1 x hx
  · exact wordD_fit q2 x hx
  · exact wordD_fit q3 x hx
  · omega
  · exact fitB_mem h hx
end Go.Ev
end
section
/- Loops over lists, by index. -/
set_option linter.unusedVariables false
namespace Go.Ev
section
variable {α β ρ : Type}
theorem getD_lt {xs : List α} {i : Nat} (z : α) (h : i < xs.length) : xs.getD i z = xs[i] := by
  rw [List.getD_eq_getElem?_getD, List.getElem?_eq_getElem h]; rfl
theorem idx_all {R : Nat → Int → ρ} {p : α → Bool} {kt kf : ρ} {xs : List α} {z : α}
    (hs : ∀ m (i : Nat), i < xs.length → R (m + 1) i = bif p (xs.getD i z) then R m ((i + 1 : Nat) : Int) else kf)
    (he : ∀ m, R (m + 1) (xs.length : Nat) = kt) : ∀ (m i : Nat), i ≤ xs.length → xs.length - i < m → R m i = bif (xs.drop i).all p then kt else kf
  | 0, i, _, h => absurd h (by omega)
  | m + 1, i, hi, hm => by
    by_cases h : i < xs.length
    · rw [hs m i h, getD_lt z h, List.drop_eq_getElem_cons h, List.all_cons]
      cases hp : p xs[i] with
      | true => rw [cond_true, idx_all hs he m (i + 1) (by omega) (by omega)]; rfl
      | false => rfl
    · have : i = xs.length := by omega
      subst this
      rw [he m, List.drop_length]; rfl
end
end Go.Ev
end
section
/- Events and outputs, as numbers and lists. -/
set_option linter.unusedVariables false
namespace Go.Ev
open Go.RowKit
end Go.Ev
end
section
/- Positions, spans and edits after an edit; stacks. -/
set_option linter.unusedVariables false
namespace Go.Ev
open Go.RowKit
/-! ### Stacks -/
end Go.Ev
end
section
/- What is known of an argument: bytes are bytes, and it is small. -/
set_option linter.unusedVariables false
namespace Go.Ev.Seat
open Go.RowKit
mutual
def fitC : (c : Cc) → c.T → Bool
  | .int .u8, n => isB n
  | .int _, _ => true
  | .bool, _ => true
  | .str, _ => true
  | .sl r, xs => Nat.ble xs.length 1048576 && xs.all (fitR r)
def fitR : (r : Rw) → r.T → Bool
  | .one c, d => fitC c d
  | .cons c r, d => fitC c d.1 && fitR r d.2
end
mutual
theorem fitC_of : (c : Cc) → (d : c.T) → c.wf d → c.lim d = true → fitC c d = true
  | .int k, n, h, _ => by
    cases k <;> simp only [fitC]
    have h' : (Lit.int .u8 n).wf = true := h
    simp only [Lit.wf, Bool.and_eq_true, decide_eq_true_eq] at h'
    have a : IntKind.u8.min = 0 := rfl
    have b : IntKind.u8.max = 255 := rfl
    rw [a, b] at h'
    simp only [isB, Bool.and_eq_true, decide_eq_true_eq]
    exact h'
  | .bool, _, _, _ => rfl
  | .str, _, _, _ => rfl
  | .sl r, xs, h, g => by
    simp only [Cc.lim, Bool.and_eq_true, List.all_eq_true] at g
    simp only [fitC, Bool.and_eq_true, List.all_eq_true]
    exact ⟨g.1, fun x hx => fitR_of r x (h.2 x hx) (g.2 x hx)⟩
theorem fitR_of : (r : Rw) → (d : r.T) → r.wf d → r.lim d = true → fitR r d = true
  | .one c, d, h, g => fitC_of c d h g
  | .cons c r, d, h, g => by
    simp only [Rw.lim, Bool.and_eq_true] at g
    simp only [fitR, Bool.and_eq_true]
    exact ⟨fitC_of c d.1 h.1 g.1, fitR_of r d.2 h.2 g.2⟩
end
theorem bytes_lim {b : List Int} (h : b.length ≤ 1048576) : (Cc.sl bytesR).lim b = true := by
  simp only [Cc.lim, Bool.and_eq_true, List.all_eq_true]
  exact ⟨Nat.ble_eq_true_of_le h, fun _ _ => rfl⟩
end Go.Ev.Seat
end
section
/- Stacks keep the form of their data. -/
set_option linter.unusedVariables false
namespace Go.Ev.Seat
open Go.RowKit
end Go.Ev.Seat
end
section
/- l_big: its contract. -/
namespace Go.Ev.Seat
open Go.RowKit
set_option maxRecDepth 100000
set_option linter.unusedVariables false
set_option linter.unusedSimpArgs false
noncomputable abbrev E_l_big : Env := En [] [] [] [] false 0 []
noncomputable def T_l_big (code : List Int) (K : Ret → Option Ret) : Option Ret := K ((.s (.bool (decide ((((List.length code) : Nat) : Int) > (1048576 : Int))))), [])
theorem e_l_big (code : List Int) (K : Ret → Option Ret) : evF E_l_big true F.l_big [.l .no bytesR code] K = T_l_big code K := by kernel_rfl
def S_l_big : Sm := S_fnR [.l bytesR] (fun d => true) (fun d => (bl (decide (((d.1.length : Nat) : Int) > 1048576)), []))
theorem v_l_big (code : List Int) (K : Ret → Option Ret) : T_l_big code K = K (bl (decide (((code.length : Nat) : Int) > 1048576)), []) := rfl
theorem okS_l_big : OkFn prog I N.l_big true S_l_big := okN (ok_fn mem0 (l := []) (p := []) (ls := []) (lend := []) (focus := false) (fuel := 0) (give := []) (fn := F.l_big) (by kernel_rfl) (by kernel_rfl) (by kernel_rfl) (by kernel_rfl) (cs := []) (by kernel_rfl) loops0) (S_fnR_of fun d K h => (e_l_big d.1 K).trans (v_l_big d.1 K))
end Go.Ev.Seat
end
section
/- What a drawing function answers: some result of which something holds. -/
set_option linter.unusedVariables false
namespace Go.Ev
section
variable {ρ σ : Type}
/-- Whatever goes on, it goes on with one result, of which P holds. -/
def Dr (P : ρ → Prop) (T : (ρ → σ) → σ) : Prop := ∃ r, P r ∧ ∀ K, T K = K r
variable {P : ρ → Prop}
theorem Dr.leaf {r : ρ} (h : P r) : Dr P (fun K : ρ → σ => K r) := ⟨r, h, fun _ => rfl⟩
theorem Dr.bif {c : Bool} {A B : (ρ → σ) → σ} (h1 : c = true → Dr P A) (h2 : c = false → Dr P B) : Dr P (fun K => bif c then A K else B K) := by
  cases c
  · exact h2 rfl
  · exact h1 rfl
theorem Dr.must {c : Bool} {A B : (ρ → σ) → σ} (h : c = true) (h1 : Dr P A) : Dr P (fun K => bif c then A K else B K) := Dr.bif (fun _ => h1) (fun e => by rw [h] at e; cases e)
theorem Dr.mono {Q : ρ → Prop} {A : (ρ → σ) → σ} (h : Dr P A) (hq : ∀ r, P r → Q r) : Dr Q A := by
  obtain ⟨r, h1, h2⟩ := h
  exact ⟨r, hq r h1, h2⟩
theorem Dr.eq {A B : (ρ → σ) → σ} (h : Dr P B) (e : ∀ K, A K = B K) : Dr P A := by
  obtain ⟨r, h1, h2⟩ := h
  exact ⟨r, h1, fun K => (e K).trans (h2 K)⟩
theorem Dr.b1 {α : Type} {p : α → Prop} {B : (α → σ) → σ} (h : ∃ a, p a ∧ ∀ k, B k = k a) {F : α → (ρ → σ) → σ} (hF : ∀ a, p a → Dr P (F a)) : Dr P (fun K => B (fun a => F a K)) := by
  obtain ⟨a, h1, h2⟩ := h
  exact (hF a h1).eq (fun K => h2 _)
theorem Dr.b2 {α β : Type} {p : α → β → Prop} {B : (α → β → σ) → σ} (h : ∃ a b, p a b ∧ ∀ k, B k = k a b) {F : α → β → (ρ → σ) → σ} (hF : ∀ a b, p a b → Dr P (F a b)) : Dr P (fun K => B (fun a b => F a b K)) := by
  obtain ⟨a, b, h1, h2⟩ := h
  exact (hF a b h1).eq (fun K => h2 _)
theorem Dr.b3 {α β γ : Type} {p : α → β → γ → Prop} {B : (α → β → γ → σ) → σ} (h : ∃ a b c, p a b c ∧ ∀ k, B k = k a b c) {F : α → β → γ → (ρ → σ) → σ} (hF : ∀ a b c, p a b c → Dr P (F a b c)) : Dr P (fun K => B (fun a b c => F a b c K)) := by
  obtain ⟨a, b, c, h1, h2⟩ := h
  exact (hF a b c h1).eq (fun K => h2 _)
theorem Dr.b4 {α β γ δ : Type} {p : α → β → γ → δ → Prop} {B : (α → β → γ → δ → σ) → σ} (h : ∃ a b c d, p a b c d ∧ ∀ k, B k = k a b c d) {F : α → β → γ → δ → (ρ → σ) → σ} (hF : ∀ a b c d, p a b c d → Dr P (F a b c d)) : Dr P (fun K => B (fun a b c d => F a b c d K)) := by
  obtain ⟨a, b, c, d, h1, h2⟩ := h
  exact (hF a b c d h1).eq (fun K => h2 _)
theorem Dr.b5 {α β γ δ ε : Type} {p : α → β → γ → δ → ε → Prop} {B : (α → β → γ → δ → ε → σ) → σ} (h : ∃ a b c d e, p a b c d e ∧ ∀ k, B k = k a b c d e) {F : α → β → γ → δ → ε → (ρ → σ) → σ} (hF : ∀ a b c d e, p a b c d e → Dr P (F a b c d e)) : Dr P (fun K => B (fun a b c d e => F a b c d e K)) := by
  obtain ⟨a, b, c, d, e, h1, h2⟩ := h
  exact (hF a b c d e h1).eq (fun K => h2 _)
theorem Dr.b6 {α β γ δ ε ζ : Type} {p : α → β → γ → δ → ε → ζ → Prop} {B : (α → β → γ → δ → ε → ζ → σ) → σ} (h : ∃ a b c d e f, p a b c d e f ∧ ∀ k, B k = k a b c d e f) {F : α → β → γ → δ → ε → ζ → (ρ → σ) → σ} (hF : ∀ a b c d e f, p a b c d e f → Dr P (F a b c d e f)) : Dr P (fun K => B (fun a b c d e f => F a b c d e f K)) := by
  obtain ⟨a, b, c, d, e, f, h1, h2⟩ := h
  exact (hF a b c d e f h1).eq (fun K => h2 _)
theorem Dr.b8 {α β γ δ ε ζ η θ : Type} {p : α → β → γ → δ → ε → ζ → η → θ → Prop} {B : (α → β → γ → δ → ε → ζ → η → θ → σ) → σ} (h : ∃ a b c d e f g i, p a b c d e f g i ∧ ∀ k, B k = k a b c d e f g i) {F : α → β → γ → δ → ε → ζ → η → θ → (ρ → σ) → σ} (hF : ∀ a b c d e f g i, p a b c d e f g i → Dr P (F a b c d e f g i)) : Dr P (fun K => B (fun a b c d e f g i => F a b c d e f g i K)) := by
  obtain ⟨a, b, c, d, e, f, g, i, h1, h2⟩ := h
  exact (hF a b c d e f g i h1).eq (fun K => h2 _)
end
theorem Dr.meet {ρ : Type} {P : ρ → Prop} {A : (ρ → Option Ret) → Option Ret} (h : Dr P A) : Dr P (fun K => meet (A K) (A K)) := h.eq (fun K => by classical unfold Go.Ev.meet; rw [if_pos rfl])
/-- A code, a place in it and a seed, of which numbers are drawn; n: how many more may be. -/
def curB (n : Int) (cc : List Int) (ca cs : Int) : Bool := fitB cc && decide (0 ≤ ca) && decide (ca ≤ n) && decide (0 ≤ cs) && decide (cs < 65536)
theorem curB_iff {n : Int} {cc : List Int} {ca cs : Int} : curB n cc ca cs = true ↔ fitB cc = true ∧ 0 ≤ ca ∧ ca ≤ n ∧ 0 ≤ cs ∧ cs < 65536 := by
  unfold curB; simp only [Bool.and_eq_true, decide_eq_true_eq]
  exact ⟨fun ⟨⟨⟨⟨a, b⟩, c⟩, d⟩, e⟩ => ⟨a, b, c, d, e⟩, fun ⟨a, b, c, d, e⟩ => ⟨⟨⟨⟨a, b⟩, c⟩, d⟩, e⟩⟩
/-- Bytes alone. -/
def byteL (xs : List Int) : Prop := ∀ x ∈ xs, 0 ≤ x ∧ x ≤ 255
theorem byteL_nil : byteL [] := fun _ h => nomatch h
theorem byteL_app {xs ys : List Int} (h1 : byteL xs) (h2 : byteL ys) : byteL (xs ++ ys) := fun x hx => (List.mem_append.1 hx).elim (h1 x) (h2 x)
theorem byteL_fit {xs : List Int} (h : byteL xs) (hl : xs.length ≤ 1048576) : fitB xs = true := fitB_of hl h
theorem encD_len4 (r : Int) : (encD r).length ≤ 4 := by
  unfold encD; repeat' split
  all_goals simp
theorem fitB_rep {n : Nat} (h : n ≤ 1048576) : fitB (List.replicate n 0) = true := fitB_of (by rw [List.length_replicate]; exact h) (fun x hx => by rw [(List.mem_replicate.1 hx).2]; omega)
def seedD (c : List Int) : Int := 97 + ((c.length : Nat) : Int) % 1000
end Go.Ev
end
section
/- s_l01Open: its contract. -/
namespace Go.Ev.Seat
open Go.RowKit
set_option maxRecDepth 100000
set_option linter.unusedVariables false
set_option linter.unusedSimpArgs false
noncomputable abbrev E_s_l01Open : Env := En [] [] [] [] false 0 []
noncomputable def T_s_l01Open (c : List Int) (K : Ret → Option Ret) : Option Ret := K ((.io [(.l .no bytesR c), (.s (.int .i64 (0 : Int))), (.s (.int .i64 (IntKind.wrap .i64 ((97 : Int) + (Int.tmod (((List.length c) : Nat) : Int) (1000 : Int))))))]), [])
theorem e_s_l01Open (c : List Int) (K : Ret → Option Ret) : evF E_s_l01Open false F.s_l01Open [.l .no bytesR c] K = T_s_l01Open c K := by kernel_rfl
def S_s_l01Open : Sm := S_fnR [.l bytesR] (fun d => fitB d.1) (fun d => (.io [.l .no bytesR d.1, .s (.int .i64 0), .s (.int .i64 (seedD d.1))], []))
theorem v_s_l01Open (c : List Int) (h : (fitB c) = true) (K : Ret → Option Ret) : T_s_l01Open c K = K (.io [.l .no bytesR c, .s (.int .i64 0), .s (.int .i64 (seedD c))], []) := by
  have hl := fitB_len h
  unfold T_s_l01Open seedD
  rw [Int.tmod_eq_emod_of_nonneg (by omega), wrap_in (n := 97 + ((c.length : Nat) : Int) % 1000) (by omega) (by omega)]
theorem okS_s_l01Open : OkFn prog I N.s_l01Open false S_s_l01Open := okN (ok_fn mem0 (l := []) (p := []) (ls := []) (lend := []) (focus := false) (fuel := 0) (give := []) (fn := F.s_l01Open) (by kernel_rfl) (by kernel_rfl) (by kernel_rfl) (by kernel_rfl) (cs := []) (by kernel_rfl) loops0) (S_fnR_of fun d K h => (e_s_l01Open d.1 K).trans (v_s_l01Open d.1 h K))
end Go.Ev.Seat
end
section
/- A function cut behind one of its regions: what comes after is looked at once. -/
set_option linter.unusedVariables false
namespace Go.Ev
open Go.RowKit
def isReg (n : Nat) : Code → Bool
  | .region m _ _ => Nat.beq m n
  | _ => false
/-- What comes behind region n. -/
def restOf (n : Nat) : Code → Code
  | .seq a b => bif isReg n a then b else restOf n b
  | c => c
noncomputable def runJ (Γ : Env) (n : Nat) (J : St → Option Ret) : Code → St → (Ex → St → Option Ret) → Option Ret
  | .seq a b, σ, K => run Γ a σ fun e σ' => match e with
    | .nrm => bif isReg n a then J σ' else runJ Γ n J b σ' K
    | e => K e σ'
  | c, σ, K => run Γ c σ K
theorem runJ_eq {Γ : Env} {n : Nat} {K : Ex → St → Option Ret} (c : Code) : ∀ (σ : St), runJ Γ n (fun σ => run Γ (restOf n c) σ K) c σ K = run Γ c σ K := by
  induction c with
  | seq a b _ ih =>
    intro σ
    simp only [runJ, run, restOf]
    congr 1
    funext e σ'
    cases e with
    | nrm =>
      dsimp only
      cases h : isReg n a with
      | true => rfl
      | false => exact ih σ'
    | ext j => rfl
    | ret => rfl
  | _ => intro σ; rfl
noncomputable def fin (Γ : Env) (fresh : Bool) (fn : Func) (K : Ret → Option Ret) : Ex → St → Option Ret := fun e σ => match e with
  | .ext _ => none
  | _ => match finish Γ fn σ with
    | some q => bif !fresh || (frshRet q.1 && q.2.all V.frsh) then K q else none
    | none => none
noncomputable def evFJ (Γ : Env) (fresh : Bool) (fn : Func) (n : Nat) (J : St → Option Ret) (vs : List V) (K : Ret → Option Ret) : Option Ret :=
  match fn.body with
  | none => none
  | some c =>
    bif vs.all V.slim && Nat.ble vs.length fn.ntmps then
      match takeAll 0 vs [] with
      | (tm, ob) => runJ Γ n J c { tm := tm ++ List.replicate (fn.ntmps - vs.length) .x, ob := ob, nx := 24 * vs.length, io := ptrs vs tm } (fin Γ fresh fn K)
    else none
theorem evFJ_eq {Γ : Env} {fresh : Bool} {fn : Func} {n : Nat} {vs : List V} {K : Ret → Option Ret} : evFJ Γ fresh fn n (fun σ => run Γ (restOf n (fn.body.getD .skip)) σ (fin Γ fresh fn K)) vs K = evF Γ fresh fn vs K := by
  unfold evFJ evF
  cases fn.body with
  | none => rfl
  | some c =>
    dsimp only [Option.getD]
    cases vs.all V.slim && Nat.ble vs.length fn.ntmps with
    | false => rfl
    | true =>
      simp only [cond_true]
      exact runJ_eq c _
/-- Two orders that come to the same. -/
noncomputable def mt (x : Option Ret) : Option Ret := meet x x
theorem mt_self (x : Option Ret) : mt x = x := meet_self x
end Go.Ev
end
section
/- s_l01Cur_pick: its contract. -/
namespace Go.Ev.Seat
open Go.RowKit
set_option maxRecDepth 100000
set_option linter.unusedVariables false
set_option linter.unusedSimpArgs false
noncomputable abbrev pl_s_l01Cur_pick : List (Nat × Plan × List Nat) := [(4, takes [0, 1, 2, 3, 4, 5, 6, 7, 8, 9], []), (5, takes [0, 1, 2, 3, 4, 5, 6, 7, 8, 9, 10, 11], []), (8, takes [0, 1, 2, 3, 4, 5, 6, 7, 8, 9, 10, 11, 12, 13, 14, 15, 16, 17, 18, 19, 20, 21, 22, 23], [])]
noncomputable abbrev E_s_l01Cur_pick : Env := En [] pl_s_l01Cur_pick [] [] false 0 []
noncomputable def T_s_l01Cur_pick (cc : List Int) (ca : Int) (cs : Int) (n : Int) (K : Ret → Option Ret) : Option Ret := (bif (decide (n < (2 : Int))) then K ((.s (.int .i64 (0 : Int))), [(.io [(.l .no bytesR cc), (.s (.int .i64 ca)), (.s (.int .i64 cs))])]) else (bif (decide (ca < (((List.length cc) : Nat) : Int))) then (bif ((decide ((0 : Int) ≤ ca)) && (decide (ca < (((List.length cc) : Nat) : Int)))) then (bif (!(n == (0 : Int))) then K ((.s (.int .i64 (Int.tmod (IntKind.wrap .i64 (List.getD cc (Int.toNat ca) (0 : Int))) n))), [(.io [(.l .no bytesR cc), (.s (.int .i64 (IntKind.wrap .i64 (ca + (1 : Int))))), (.s (.int .i64 cs))])]) else none) else none) else (bif (decide ((((List.length cc) : Nat) : Int) > (0 : Int))) then (bif (!((((List.length cc) : Nat) : Int) == (0 : Int))) then (bif ((decide ((0 : Int) ≤ (Int.tmod ca (((List.length cc) : Nat) : Int)))) && (decide ((Int.tmod ca (((List.length cc) : Nat) : Int)) < (((List.length cc) : Nat) : Int)))) then (bif (!(n == (0 : Int))) then K ((.s (.int .i64 (Int.tmod (IntKind.wrap .i64 ((IntKind.wrap .i64 (Int.tdiv (Int.tmod (IntKind.wrap .i64 ((IntKind.wrap .i64 (cs * (1103 : Int))) + (12345 : Int))) (65521 : Int)) (7 : Int))) + (IntKind.wrap .i64 (List.getD cc (Int.toNat (Int.tmod ca (((List.length cc) : Nat) : Int))) (0 : Int))))) n))), [(.io [(.l .no bytesR cc), (.s (.int .i64 (IntKind.wrap .i64 (ca + (1 : Int))))), (.s (.int .i64 (Int.tmod (IntKind.wrap .i64 ((IntKind.wrap .i64 (cs * (1103 : Int))) + (12345 : Int))) (65521 : Int))))])]) else none) else none) else none) else (bif (!(n == (0 : Int))) then K ((.s (.int .i64 (Int.tmod (0 : Int) n))), [(.io [(.l .no bytesR cc), (.s (.int .i64 (IntKind.wrap .i64 (ca + (1 : Int))))), (.s (.int .i64 (Int.tmod (IntKind.wrap .i64 ((IntKind.wrap .i64 (cs * (1103 : Int))) + (12345 : Int))) (65521 : Int))))])]) else none))))
theorem e_s_l01Cur_pick (cc : List Int) (ca : Int) (cs : Int) (n : Int) (K : Ret → Option Ret) : evF E_s_l01Cur_pick false F.s_l01Cur_pick [.io [.l .no bytesR cc, .s (.int .i64 ca), .s (.int .i64 cs)], .s (.int .i64 n)] K = T_s_l01Cur_pick cc ca cs n K := by kernel_rfl
theorem x_s_l01Cur_pick (cc : List Int) (ca : Int) (cs : Int) (n : Int) (h : (curB 4000000000000000000 cc ca cs) = true) : ∃ (y : Int) (a : Int) (s : Int), ((0 ≤ y ∧ (2 ≤ n → y < n) ∧ (n < 2 → y = 0)) ∧ 0 ≤ a ∧ a ≤ ca + 1 ∧ 0 ≤ s ∧ s < 65536) ∧ ∀ K : Ret → Option Ret, T_s_l01Cur_pick cc ca cs n K = K (.s (.int .i64 y), [.io [.l .no bytesR cc, .s (.int .i64 a), .s (.int .i64 s)]]) := by
  suffices hd : Dr (fun r : Ret => ∃ (y : Int) (a : Int) (s : Int), ((0 ≤ y ∧ (2 ≤ n → y < n) ∧ (n < 2 → y = 0)) ∧ 0 ≤ a ∧ a ≤ ca + 1 ∧ 0 ≤ s ∧ s < 65536) ∧ r = (.s (.int .i64 y), [.io [.l .no bytesR cc, .s (.int .i64 a), .s (.int .i64 s)]])) (fun K : Ret → Option Ret => T_s_l01Cur_pick cc ca cs n K) by
    obtain ⟨_, ⟨y, a, s, hp, rfl⟩, hk⟩ := hd
    exact ⟨y, a, s, hp, hk⟩
  obtain ⟨h1, h2, h3, h4, h5⟩ := curB_iff.1 h
  have hl := fitB_len h1
  have hb1 := fitB_get h1 ca.toNat
  have hb2 := fitB_get h1 (ca % ((cc.length : Nat) : Int)).toNat
  unfold T_s_l01Cur_pick
  refine Dr.bif (fun c1 => ?_) (fun c1 => ?_)
  · simp only [decide_eq_true_eq] at c1
    exact Dr.leaf ⟨0, ca, cs, ⟨⟨by omega, by omega, by omega⟩, by omega, by omega, by omega, by omega⟩, rfl⟩
  simp only [decide_eq_false_iff_not] at c1
  have e1 : IntKind.wrap .i64 (ca + 1) = ca + 1 := wrap_in (by omega) (by omega)
  have em : ∀ x : Int, 0 ≤ x → Int.tmod x n = x % n := fun x hx => Int.tmod_eq_emod_of_nonneg hx
  have hn : (!(n == (0 : Int))) = true := by simp; omega
  have es : Int.tmod (IntKind.wrap .i64 ((IntKind.wrap .i64 (cs * (1103 : Int))) + (12345 : Int))) (65521 : Int) = (cs * 1103 + 12345) % 65521 := by
    rw [wrap_in (n := cs * 1103) (by omega) (by omega), wrap_in (n := cs * 1103 + 12345) (by omega) (by omega), Int.tmod_eq_emod_of_nonneg (by omega)]
  have fin : ∀ (x s : Int), 0 ≤ x → 0 ≤ s → s < 65536 → (fun r : Ret => ∃ (y : Int) (a : Int) (s : Int), ((0 ≤ y ∧ (2 ≤ n → y < n) ∧ (n < 2 → y = 0)) ∧ 0 ≤ a ∧ a ≤ ca + 1 ∧ 0 ≤ s ∧ s < 65536) ∧ r = (.s (.int .i64 y), [.io [.l .no bytesR cc, .s (.int .i64 a), .s (.int .i64 s)]])) (.s (.int .i64 (x % n)), [.io [.l .no bytesR cc, .s (.int .i64 (ca + 1)), .s (.int .i64 s)]]) := fun x s hx h0 hs => by
    have := Int.emod_nonneg x (show n ≠ 0 by omega)
    have := Int.emod_lt_of_pos x (show 0 < n by omega)
    exact ⟨_, _, _, ⟨⟨by omega, by omega, by omega⟩, by omega, by omega, h0, hs⟩, rfl⟩
  rw [e1, es]
  refine Dr.bif (fun c2 => ?_) (fun c2 => ?_)
  · simp only [decide_eq_true_eq] at c2
    refine Dr.must (by simp; omega) (Dr.must hn ?_)
    rw [wrap_in (n := List.getD cc (Int.toNat ca) 0) (by omega) (by omega), em _ hb1.1]
    exact Dr.leaf (fin _ _ hb1.1 h4 h5)
  · refine Dr.bif (fun c3 => ?_) (fun c3 => ?_)
    · simp only [decide_eq_true_eq] at c3
      have el : Int.tmod ca (((List.length cc) : Nat) : Int) = ca % ((cc.length : Nat) : Int) := Int.tmod_eq_emod_of_nonneg h2
      have := Int.emod_nonneg ca (show ((cc.length : Nat) : Int) ≠ 0 by omega)
      have := Int.emod_lt_of_pos ca (show (0 : Int) < ((cc.length : Nat) : Int) by omega)
      rw [el]
      refine Dr.must (by simp; intro hc; rw [hc] at c3; simp at c3) (Dr.must (by simp; omega) (Dr.must hn ?_))
      rw [Int.tdiv_eq_ediv_of_nonneg (by omega), wrap_in (n := (cs * 1103 + 12345) % 65521 / 7) (by omega) (by omega), wrap_in (n := List.getD cc (Int.toNat (ca % ((cc.length : Nat) : Int))) 0) (by omega) (by omega), wrap_in (n := (cs * 1103 + 12345) % 65521 / 7 + List.getD cc (Int.toNat (ca % ((cc.length : Nat) : Int))) 0) (by omega) (by omega), em _ (by omega)]
      exact Dr.leaf (fin _ _ (by omega) (by omega) (by omega))
    · refine Dr.must hn ?_
      rw [em 0 (by omega)]
      exact Dr.leaf (fin _ _ (by omega) (by omega) (by omega))
noncomputable def g_s_l01Cur_pick (cc : List Int) (ca : Int) (cs : Int) (n : Int) : Int × Int × Int := Classical.epsilon fun g => ((0 ≤ (g).1 ∧ (2 ≤ n → (g).1 < n) ∧ (n < 2 → (g).1 = 0)) ∧ 0 ≤ (g).2.1 ∧ (g).2.1 ≤ ca + 1 ∧ 0 ≤ (g).2.2 ∧ (g).2.2 < 65536) ∧ ∀ K : Ret → Option Ret, T_s_l01Cur_pick cc ca cs n K = K (.s (.int .i64 (g).1), [.io [.l .no bytesR cc, .s (.int .i64 (g).2.1), .s (.int .i64 (g).2.2)]])
theorem gs_s_l01Cur_pick (cc : List Int) (ca : Int) (cs : Int) (n : Int) (h : (curB 4000000000000000000 cc ca cs) = true) : ((0 ≤ (g_s_l01Cur_pick cc ca cs n).1 ∧ (2 ≤ n → (g_s_l01Cur_pick cc ca cs n).1 < n) ∧ (n < 2 → (g_s_l01Cur_pick cc ca cs n).1 = 0)) ∧ 0 ≤ (g_s_l01Cur_pick cc ca cs n).2.1 ∧ (g_s_l01Cur_pick cc ca cs n).2.1 ≤ ca + 1 ∧ 0 ≤ (g_s_l01Cur_pick cc ca cs n).2.2 ∧ (g_s_l01Cur_pick cc ca cs n).2.2 < 65536) ∧ ∀ K : Ret → Option Ret, T_s_l01Cur_pick cc ca cs n K = K (.s (.int .i64 (g_s_l01Cur_pick cc ca cs n).1), [.io [.l .no bytesR cc, .s (.int .i64 (g_s_l01Cur_pick cc ca cs n).2.1), .s (.int .i64 (g_s_l01Cur_pick cc ca cs n).2.2)]]) := by
  obtain ⟨y, a, s, hy, hk⟩ := x_s_l01Cur_pick cc ca cs n h
  exact Classical.epsilon_spec (p := fun g : Int × Int × Int => ((0 ≤ (g).1 ∧ (2 ≤ n → (g).1 < n) ∧ (n < 2 → (g).1 = 0)) ∧ 0 ≤ (g).2.1 ∧ (g).2.1 ≤ ca + 1 ∧ 0 ≤ (g).2.2 ∧ (g).2.2 < 65536) ∧ ∀ K : Ret → Option Ret, T_s_l01Cur_pick cc ca cs n K = K (.s (.int .i64 (g).1), [.io [.l .no bytesR cc, .s (.int .i64 (g).2.1), .s (.int .i64 (g).2.2)]])) ⟨⟨y, a, s⟩, hy, hk⟩
noncomputable def B_s_l01Cur_pick (cc : List Int) (ca : Int) (cs : Int) (n : Int) (k : (Int) → (Int) → (Int) → Option Ret) : Option Ret := bif curB 4000000000000000000 cc ca cs then k (g_s_l01Cur_pick cc ca cs n).1 (g_s_l01Cur_pick cc ca cs n).2.1 (g_s_l01Cur_pick cc ca cs n).2.2 else none
theorem b_s_l01Cur_pick (cc : List Int) (ca : Int) (cs : Int) (n : Int) (h : (curB 4000000000000000000 cc ca cs) = true) : ∃ (y : Int) (a : Int) (s : Int), ((0 ≤ y ∧ (2 ≤ n → y < n) ∧ (n < 2 → y = 0)) ∧ 0 ≤ a ∧ a ≤ ca + 1 ∧ 0 ≤ s ∧ s < 65536) ∧ ∀ k, B_s_l01Cur_pick cc ca cs n k = k y a s :=
  ⟨(g_s_l01Cur_pick cc ca cs n).1, (g_s_l01Cur_pick cc ca cs n).2.1, (g_s_l01Cur_pick cc ca cs n).2.2, (gs_s_l01Cur_pick cc ca cs n h).1, fun k => by unfold B_s_l01Cur_pick; rw [h]; rfl⟩
def SB_s_l01Cur_pick (B : (List Int) → (Int) → (Int) → (Int) → ((Int) → (Int) → (Int) → Option Ret) → Option Ret) : Sm := S_B [.sh (.io (.cons (.l .no bytesR) (.cons (.int .i64) (.cons (.int .i64) .nil)))), .i] (fun d K => B d.1.1 d.1.2.1 d.1.2.2.1 d.2.1 (fun y a s => K (.s (.int .i64 y), [.io [.l .no bytesR d.1.1, .s (.int .i64 a), .s (.int .i64 s)]])))
theorem okS_s_l01Cur_pick : OkFn prog I N.s_l01Cur_pick false (SB_s_l01Cur_pick B_s_l01Cur_pick) := okN (ok_fn mem0 (l := []) (p := pl_s_l01Cur_pick) (ls := []) (lend := []) (focus := false) (fuel := 0) (give := []) (fn := F.s_l01Cur_pick) (by kernel_rfl) (by kernel_rfl) (by kernel_rfl) (by kernel_rfl) (cs := []) (by kernel_rfl) loops0) (S_B_of fun d K q hq => by
  refine (e_s_l01Cur_pick d.1.1 d.1.2.1 d.1.2.2.1 d.2.1 K).trans ?_
  unfold B_s_l01Cur_pick at hq
  cases hp : (curB 4000000000000000000 d.1.1 d.1.2.1 d.1.2.2.1) with
  | false => rw [hp] at hq; cases hq
  | true =>
    rw [hp] at hq
    exact ((gs_s_l01Cur_pick d.1.1 d.1.2.1 d.1.2.2.1 d.2.1 hp).2 K).trans hq)
end Go.Ev.Seat
end
section
/- s_l01Cur_size: its contract. -/
namespace Go.Ev.Seat
open Go.RowKit
set_option maxRecDepth 100000
set_option linter.unusedVariables false
set_option linter.unusedSimpArgs false
noncomputable abbrev ls_s_l01Cur_size : List (Nat × Bool × Sm) := [(N.s_l01Cur_pick, false, (SB_s_l01Cur_pick B_s_l01Cur_pick))]
noncomputable abbrev E_s_l01Cur_size : Env := En ls_s_l01Cur_size [] [] [] false 0 []
noncomputable def T_s_l01Cur_size (cc : List Int) (ca : Int) (cs : Int) (n : Int) (K : Ret → Option Ret) : Option Ret := (B_s_l01Cur_pick cc ca cs (IntKind.wrap .i64 ((if (IntKind.wrap .i64 ((1 : Int) + (IntKind.wrap .i64 (Int.tdiv (((List.length cc) : Nat) : Int) (8 : Int))))) < n then (IntKind.wrap .i64 ((1 : Int) + (IntKind.wrap .i64 (Int.tdiv (((List.length cc) : Nat) : Int) (8 : Int))))) else n) + (1 : Int))) (fun y0 y1 y2 => K ((.s (.int .i64 y0)), [(.io [(.l .no bytesR cc), (.s (.int .i64 y1)), (.s (.int .i64 y2))])])))
theorem e_s_l01Cur_size (cc : List Int) (ca : Int) (cs : Int) (n : Int) (K : Ret → Option Ret) : evF E_s_l01Cur_size false F.s_l01Cur_size [.io [.l .no bytesR cc, .s (.int .i64 ca), .s (.int .i64 cs)], .s (.int .i64 n)] K = T_s_l01Cur_size cc ca cs n K := by kernel_rfl
theorem x_s_l01Cur_size (cc : List Int) (ca : Int) (cs : Int) (n : Int) (h : (curB 3000000000000000000 cc ca cs && (decide (0 ≤ n) && decide (n ≤ 1000000))) = true) : ∃ (y : Int) (a : Int) (s : Int), ((0 ≤ y ∧ y ≤ n ∧ y ≤ 200000) ∧ 0 ≤ a ∧ a ≤ ca + 1 ∧ 0 ≤ s ∧ s < 65536) ∧ ∀ K : Ret → Option Ret, T_s_l01Cur_size cc ca cs n K = K (.s (.int .i64 y), [.io [.l .no bytesR cc, .s (.int .i64 a), .s (.int .i64 s)]]) := by
  suffices hd : Dr (fun r : Ret => ∃ (y : Int) (a : Int) (s : Int), ((0 ≤ y ∧ y ≤ n ∧ y ≤ 200000) ∧ 0 ≤ a ∧ a ≤ ca + 1 ∧ 0 ≤ s ∧ s < 65536) ∧ r = (.s (.int .i64 y), [.io [.l .no bytesR cc, .s (.int .i64 a), .s (.int .i64 s)]])) (fun K : Ret → Option Ret => T_s_l01Cur_size cc ca cs n K) by
    obtain ⟨_, ⟨y, a, s, hp, rfl⟩, hk⟩ := hd
    exact ⟨y, a, s, hp, hk⟩
  obtain ⟨h, hpre⟩ := (Bool.and_eq_true _ _).mp h
  obtain ⟨hf, h2, h3, h4, h5⟩ := curB_iff.1 h
  have hl := fitB_len hf
  simp only [Bool.and_eq_true, decide_eq_true_eq] at hpre
  have e8 : Int.tdiv (((List.length cc) : Nat) : Int) 8 = ((cc.length : Nat) : Int) / 8 := Int.tdiv_eq_ediv_of_nonneg (by omega)
  unfold T_s_l01Cur_size
  rw [e8, wrap_in (n := ((cc.length : Nat) : Int) / 8) (by omega) (by omega), wrap_in (n := 1 + ((cc.length : Nat) : Int) / 8) (by omega) (by omega)]
  obtain ⟨m, hm, hm0, hm1, hm2⟩ : ∃ m : Int, (if 1 + ((cc.length : Nat) : Int) / 8 < n then 1 + ((cc.length : Nat) : Int) / 8 else n) = m ∧ 0 ≤ m ∧ m ≤ n ∧ m ≤ 1 + ((cc.length : Nat) : Int) / 8 := by
    by_cases q : 1 + ((cc.length : Nat) : Int) / 8 < n
    · rw [if_pos q]; exact ⟨_, rfl, by omega, by omega, by omega⟩
    · rw [if_neg q]; exact ⟨_, rfl, by omega, by omega, by omega⟩
  rw [hm, wrap_in (n := m + 1) (by omega) (by omega)]
  repeat' first
    | exact Dr.leaf ⟨_, _, _, ⟨by omega, by omega, by omega, by omega, by omega⟩, rfl⟩
    | refine Dr.b3 (b_s_l01Cur_pick _ _ _ _ (curB_iff.2 ⟨hf, by omega, by omega, by omega, by omega⟩)) (fun _ _ _ hy => ?_)
    | refine Dr.meet ?_
    | simp (disch := omega) only [wrap_in]
    | refine Dr.must (by first | rfl | (simp only [List.length_cons, List.length_nil, BEq.rfl, Bool.true_and, Bool.and_eq_true, decide_eq_true_eq]; omega)) ?_
    | refine Dr.bif (fun hb => ?_) (fun hb => ?_)
noncomputable def g_s_l01Cur_size (cc : List Int) (ca : Int) (cs : Int) (n : Int) : Int × Int × Int := Classical.epsilon fun g => ((0 ≤ (g).1 ∧ (g).1 ≤ n ∧ (g).1 ≤ 200000) ∧ 0 ≤ (g).2.1 ∧ (g).2.1 ≤ ca + 1 ∧ 0 ≤ (g).2.2 ∧ (g).2.2 < 65536) ∧ ∀ K : Ret → Option Ret, T_s_l01Cur_size cc ca cs n K = K (.s (.int .i64 (g).1), [.io [.l .no bytesR cc, .s (.int .i64 (g).2.1), .s (.int .i64 (g).2.2)]])
theorem gs_s_l01Cur_size (cc : List Int) (ca : Int) (cs : Int) (n : Int) (h : (curB 3000000000000000000 cc ca cs && (decide (0 ≤ n) && decide (n ≤ 1000000))) = true) : ((0 ≤ (g_s_l01Cur_size cc ca cs n).1 ∧ (g_s_l01Cur_size cc ca cs n).1 ≤ n ∧ (g_s_l01Cur_size cc ca cs n).1 ≤ 200000) ∧ 0 ≤ (g_s_l01Cur_size cc ca cs n).2.1 ∧ (g_s_l01Cur_size cc ca cs n).2.1 ≤ ca + 1 ∧ 0 ≤ (g_s_l01Cur_size cc ca cs n).2.2 ∧ (g_s_l01Cur_size cc ca cs n).2.2 < 65536) ∧ ∀ K : Ret → Option Ret, T_s_l01Cur_size cc ca cs n K = K (.s (.int .i64 (g_s_l01Cur_size cc ca cs n).1), [.io [.l .no bytesR cc, .s (.int .i64 (g_s_l01Cur_size cc ca cs n).2.1), .s (.int .i64 (g_s_l01Cur_size cc ca cs n).2.2)]]) := by
  obtain ⟨y, a, s, hy, hk⟩ := x_s_l01Cur_size cc ca cs n h
  exact Classical.epsilon_spec (p := fun g : Int × Int × Int => ((0 ≤ (g).1 ∧ (g).1 ≤ n ∧ (g).1 ≤ 200000) ∧ 0 ≤ (g).2.1 ∧ (g).2.1 ≤ ca + 1 ∧ 0 ≤ (g).2.2 ∧ (g).2.2 < 65536) ∧ ∀ K : Ret → Option Ret, T_s_l01Cur_size cc ca cs n K = K (.s (.int .i64 (g).1), [.io [.l .no bytesR cc, .s (.int .i64 (g).2.1), .s (.int .i64 (g).2.2)]])) ⟨⟨y, a, s⟩, hy, hk⟩
noncomputable def B_s_l01Cur_size (cc : List Int) (ca : Int) (cs : Int) (n : Int) (k : (Int) → (Int) → (Int) → Option Ret) : Option Ret := bif curB 3000000000000000000 cc ca cs && (decide (0 ≤ n) && decide (n ≤ 1000000)) then k (g_s_l01Cur_size cc ca cs n).1 (g_s_l01Cur_size cc ca cs n).2.1 (g_s_l01Cur_size cc ca cs n).2.2 else none
theorem b_s_l01Cur_size (cc : List Int) (ca : Int) (cs : Int) (n : Int) (h : (curB 3000000000000000000 cc ca cs && (decide (0 ≤ n) && decide (n ≤ 1000000))) = true) : ∃ (y : Int) (a : Int) (s : Int), ((0 ≤ y ∧ y ≤ n ∧ y ≤ 200000) ∧ 0 ≤ a ∧ a ≤ ca + 1 ∧ 0 ≤ s ∧ s < 65536) ∧ ∀ k, B_s_l01Cur_size cc ca cs n k = k y a s :=
  ⟨(g_s_l01Cur_size cc ca cs n).1, (g_s_l01Cur_size cc ca cs n).2.1, (g_s_l01Cur_size cc ca cs n).2.2, (gs_s_l01Cur_size cc ca cs n h).1, fun k => by unfold B_s_l01Cur_size; rw [h]; rfl⟩
def SB_s_l01Cur_size (B : (List Int) → (Int) → (Int) → (Int) → ((Int) → (Int) → (Int) → Option Ret) → Option Ret) : Sm := S_B [.sh (.io (.cons (.l .no bytesR) (.cons (.int .i64) (.cons (.int .i64) .nil)))), .i] (fun d K => B d.1.1 d.1.2.1 d.1.2.2.1 d.2.1 (fun y a s => K (.s (.int .i64 y), [.io [.l .no bytesR d.1.1, .s (.int .i64 a), .s (.int .i64 s)]])))
theorem okS_s_l01Cur_size : OkFn prog I N.s_l01Cur_size false (SB_s_l01Cur_size B_s_l01Cur_size) := okN (ok_fn (memc okS_s_l01Cur_pick mem0) (l := ls_s_l01Cur_size) (p := []) (ls := []) (lend := []) (focus := false) (fuel := 0) (give := []) (fn := F.s_l01Cur_size) (by kernel_rfl) (by kernel_rfl) (by kernel_rfl) (by kernel_rfl) (cs := []) (by kernel_rfl) loops0) (S_B_of fun d K q hq => by
  refine (e_s_l01Cur_size d.1.1 d.1.2.1 d.1.2.2.1 d.2.1 K).trans ?_
  unfold B_s_l01Cur_size at hq
  cases hp : (curB 3000000000000000000 d.1.1 d.1.2.1 d.1.2.2.1 && (decide (0 ≤ d.2.1) && decide (d.2.1 ≤ 1000000))) with
  | false => rw [hp] at hq; cases hq
  | true =>
    rw [hp] at hq
    exact ((gs_s_l01Cur_size d.1.1 d.1.2.1 d.1.2.2.1 d.2.1 hp).2 K).trans hq)
end Go.Ev.Seat
end
section
/- s_l01Cur_rune: its contract. -/
namespace Go.Ev.Seat
open Go.RowKit
set_option maxRecDepth 100000
set_option linter.unusedVariables false
set_option linter.unusedSimpArgs false
noncomputable abbrev ls_s_l01Cur_rune : List (Nat × Bool × Sm) := [(N.s_l01Cur_pick, false, (SB_s_l01Cur_pick B_s_l01Cur_pick))]
noncomputable abbrev E_s_l01Cur_rune : Env := En ls_s_l01Cur_rune [] [] [] false 0 []
noncomputable def T_s_l01Cur_rune (cc : List Int) (ca : Int) (cs : Int) (K : Ret → Option Ret) : Option Ret := (B_s_l01Cur_pick cc ca cs (3 : Int) (fun y0 y1 y2 => (B_s_l01Cur_pick cc y1 y2 (3 : Int) (fun y3 y4 y5 => (B_s_l01Cur_pick cc y4 y5 (14 : Int) (fun y6 y7 y8 => (bif ((decide ((0 : Int) ≤ y6)) && (decide (y6 < (((List.length ((IntKind.wrap .i64 ((97 : Int) + y0)) :: ((IntKind.wrap .i64 ((97 : Int) + y3)) :: ((10 : Int) :: ((32 : Int) :: ((233 : Int) :: ((8364 : Int) :: ((128578 : Int) :: ((127 : Int) :: ((128 : Int) :: ((2047 : Int) :: ((2048 : Int) :: ((65535 : Int) :: ((65536 : Int) :: ((0 : Int) :: ([] : List Int)))))))))))))))) : Nat) : Int)))) then K ((.s (.int .i64 (List.getD ((IntKind.wrap .i64 ((97 : Int) + y0)) :: ((IntKind.wrap .i64 ((97 : Int) + y3)) :: ((10 : Int) :: ((32 : Int) :: ((233 : Int) :: ((8364 : Int) :: ((128578 : Int) :: ((127 : Int) :: ((128 : Int) :: ((2047 : Int) :: ((2048 : Int) :: ((65535 : Int) :: ((65536 : Int) :: ((0 : Int) :: ([] : List Int))))))))))))))) (Int.toNat y6) (0 : Int)))), [(.io [(.l .no bytesR cc), (.s (.int .i64 y7)), (.s (.int .i64 y8))])]) else none)))))))
theorem e_s_l01Cur_rune (cc : List Int) (ca : Int) (cs : Int) (K : Ret → Option Ret) : evF E_s_l01Cur_rune false F.s_l01Cur_rune [.io [.l .no bytesR cc, .s (.int .i64 ca), .s (.int .i64 cs)]] K = T_s_l01Cur_rune cc ca cs K := by kernel_rfl
theorem x_s_l01Cur_rune (cc : List Int) (ca : Int) (cs : Int) (h : (curB 3000000000000000000 cc ca cs) = true) : ∃ (y : Int) (a : Int) (s : Int), (0 ≤ a ∧ a ≤ ca + 3 ∧ 0 ≤ s ∧ s < 65536) ∧ ∀ K : Ret → Option Ret, T_s_l01Cur_rune cc ca cs K = K (.s (.int .i64 y), [.io [.l .no bytesR cc, .s (.int .i64 a), .s (.int .i64 s)]]) := by
  suffices hd : Dr (fun r : Ret => ∃ (y : Int) (a : Int) (s : Int), (0 ≤ a ∧ a ≤ ca + 3 ∧ 0 ≤ s ∧ s < 65536) ∧ r = (.s (.int .i64 y), [.io [.l .no bytesR cc, .s (.int .i64 a), .s (.int .i64 s)]])) (fun K : Ret → Option Ret => T_s_l01Cur_rune cc ca cs K) by
    obtain ⟨_, ⟨y, a, s, hp, rfl⟩, hk⟩ := hd
    exact ⟨y, a, s, hp, hk⟩
  obtain ⟨hf, h2, h3, h4, h5⟩ := curB_iff.1 h
  have hl := fitB_len hf
  unfold T_s_l01Cur_rune
  repeat' first
    | exact Dr.leaf ⟨_, _, _, ⟨by omega, by omega, by omega, by omega⟩, rfl⟩
    | refine Dr.b3 (b_s_l01Cur_pick _ _ _ _ (curB_iff.2 ⟨hf, by omega, by omega, by omega, by omega⟩)) (fun _ _ _ hy => ?_)
    | refine Dr.meet ?_
    | simp (disch := omega) only [wrap_in]
    | refine Dr.must (by first | rfl | (simp only [List.length_cons, List.length_nil, BEq.rfl, Bool.true_and, Bool.and_eq_true, decide_eq_true_eq]; omega)) ?_
    | refine Dr.bif (fun hb => ?_) (fun hb => ?_)
noncomputable def g_s_l01Cur_rune (cc : List Int) (ca : Int) (cs : Int) : Int × Int × Int := Classical.epsilon fun g => (0 ≤ (g).2.1 ∧ (g).2.1 ≤ ca + 3 ∧ 0 ≤ (g).2.2 ∧ (g).2.2 < 65536) ∧ ∀ K : Ret → Option Ret, T_s_l01Cur_rune cc ca cs K = K (.s (.int .i64 (g).1), [.io [.l .no bytesR cc, .s (.int .i64 (g).2.1), .s (.int .i64 (g).2.2)]])
theorem gs_s_l01Cur_rune (cc : List Int) (ca : Int) (cs : Int) (h : (curB 3000000000000000000 cc ca cs) = true) : (0 ≤ (g_s_l01Cur_rune cc ca cs).2.1 ∧ (g_s_l01Cur_rune cc ca cs).2.1 ≤ ca + 3 ∧ 0 ≤ (g_s_l01Cur_rune cc ca cs).2.2 ∧ (g_s_l01Cur_rune cc ca cs).2.2 < 65536) ∧ ∀ K : Ret → Option Ret, T_s_l01Cur_rune cc ca cs K = K (.s (.int .i64 (g_s_l01Cur_rune cc ca cs).1), [.io [.l .no bytesR cc, .s (.int .i64 (g_s_l01Cur_rune cc ca cs).2.1), .s (.int .i64 (g_s_l01Cur_rune cc ca cs).2.2)]]) := by
  obtain ⟨y, a, s, hy, hk⟩ := x_s_l01Cur_rune cc ca cs h
  exact Classical.epsilon_spec (p := fun g : Int × Int × Int => (0 ≤ (g).2.1 ∧ (g).2.1 ≤ ca + 3 ∧ 0 ≤ (g).2.2 ∧ (g).2.2 < 65536) ∧ ∀ K : Ret → Option Ret, T_s_l01Cur_rune cc ca cs K = K (.s (.int .i64 (g).1), [.io [.l .no bytesR cc, .s (.int .i64 (g).2.1), .s (.int .i64 (g).2.2)]])) ⟨⟨y, a, s⟩, hy, hk⟩
noncomputable def B_s_l01Cur_rune (cc : List Int) (ca : Int) (cs : Int) (k : (Int) → (Int) → (Int) → Option Ret) : Option Ret := bif curB 3000000000000000000 cc ca cs then k (g_s_l01Cur_rune cc ca cs).1 (g_s_l01Cur_rune cc ca cs).2.1 (g_s_l01Cur_rune cc ca cs).2.2 else none
theorem b_s_l01Cur_rune (cc : List Int) (ca : Int) (cs : Int) (h : (curB 3000000000000000000 cc ca cs) = true) : ∃ (y : Int) (a : Int) (s : Int), (0 ≤ a ∧ a ≤ ca + 3 ∧ 0 ≤ s ∧ s < 65536) ∧ ∀ k, B_s_l01Cur_rune cc ca cs k = k y a s :=
  ⟨(g_s_l01Cur_rune cc ca cs).1, (g_s_l01Cur_rune cc ca cs).2.1, (g_s_l01Cur_rune cc ca cs).2.2, (gs_s_l01Cur_rune cc ca cs h).1, fun k => by unfold B_s_l01Cur_rune; rw [h]; rfl⟩
def SB_s_l01Cur_rune (B : (List Int) → (Int) → (Int) → ((Int) → (Int) → (Int) → Option Ret) → Option Ret) : Sm := S_B [.sh (.io (.cons (.l .no bytesR) (.cons (.int .i64) (.cons (.int .i64) .nil))))] (fun d K => B d.1.1 d.1.2.1 d.1.2.2.1 (fun y a s => K (.s (.int .i64 y), [.io [.l .no bytesR d.1.1, .s (.int .i64 a), .s (.int .i64 s)]])))
theorem okS_s_l01Cur_rune : OkFn prog I N.s_l01Cur_rune false (SB_s_l01Cur_rune B_s_l01Cur_rune) := okN (ok_fn (memc okS_s_l01Cur_pick mem0) (l := ls_s_l01Cur_rune) (p := []) (ls := []) (lend := []) (focus := false) (fuel := 0) (give := []) (fn := F.s_l01Cur_rune) (by kernel_rfl) (by kernel_rfl) (by kernel_rfl) (by kernel_rfl) (cs := []) (by kernel_rfl) loops0) (S_B_of fun d K q hq => by
  refine (e_s_l01Cur_rune d.1.1 d.1.2.1 d.1.2.2.1 K).trans ?_
  unfold B_s_l01Cur_rune at hq
  cases hp : (curB 3000000000000000000 d.1.1 d.1.2.1 d.1.2.2.1) with
  | false => rw [hp] at hq; cases hq
  | true =>
    rw [hp] at hq
    exact ((gs_s_l01Cur_rune d.1.1 d.1.2.1 d.1.2.2.1 hp).2 K).trans hq)
end Go.Ev.Seat
end
section
/- s_RuneBytes: its contract. -/
namespace Go.Ev.Seat
open Go.RowKit
set_option maxRecDepth 100000
set_option linter.unusedVariables false
set_option linter.unusedSimpArgs false
noncomputable abbrev E_s_RuneBytes : Env := En [] [] [] [] false 0 []
noncomputable def T_s_RuneBytes (r : Int) (K : Ret → Option Ret) : Option Ret := (bif (decide (r < (0 : Int))) then K ((.l .deep bytesR ([] : List Int)), []) else (bif (decide (r > (1114111 : Int))) then K ((.l .deep bytesR ([] : List Int)), []) else (bif (decide (r ≥ (55296 : Int))) then (bif (decide (r ≤ (57343 : Int))) then K ((.l .deep bytesR ([] : List Int)), []) else (bif (decide (r < (128 : Int))) then K ((.l .deep bytesR ((IntKind.wrap .u8 r) :: ([] : List Int))), []) else (bif (decide (r < (2048 : Int))) then K ((.l .deep bytesR ((IntKind.wrap .u8 (IntKind.wrap .i64 ((192 : Int) + (IntKind.wrap .i64 (Int.tdiv r (64 : Int)))))) :: ((IntKind.wrap .u8 (IntKind.wrap .i64 ((128 : Int) + (Int.tmod r (64 : Int))))) :: ([] : List Int)))), []) else (bif (decide (r < (65536 : Int))) then K ((.l .deep bytesR ((IntKind.wrap .u8 (IntKind.wrap .i64 ((224 : Int) + (IntKind.wrap .i64 (Int.tdiv r (4096 : Int)))))) :: ((IntKind.wrap .u8 (IntKind.wrap .i64 ((128 : Int) + (Int.tmod (IntKind.wrap .i64 (Int.tdiv r (64 : Int))) (64 : Int))))) :: ((IntKind.wrap .u8 (IntKind.wrap .i64 ((128 : Int) + (Int.tmod r (64 : Int))))) :: ([] : List Int))))), []) else K ((.l .deep bytesR ((IntKind.wrap .u8 (IntKind.wrap .i64 ((240 : Int) + (IntKind.wrap .i64 (Int.tdiv r (262144 : Int)))))) :: ((IntKind.wrap .u8 (IntKind.wrap .i64 ((128 : Int) + (Int.tmod (IntKind.wrap .i64 (Int.tdiv r (4096 : Int))) (64 : Int))))) :: ((IntKind.wrap .u8 (IntKind.wrap .i64 ((128 : Int) + (Int.tmod (IntKind.wrap .i64 (Int.tdiv r (64 : Int))) (64 : Int))))) :: ((IntKind.wrap .u8 (IntKind.wrap .i64 ((128 : Int) + (Int.tmod r (64 : Int))))) :: ([] : List Int)))))), []))))) else (bif (decide (r < (128 : Int))) then K ((.l .deep bytesR ((IntKind.wrap .u8 r) :: ([] : List Int))), []) else (bif (decide (r < (2048 : Int))) then K ((.l .deep bytesR ((IntKind.wrap .u8 (IntKind.wrap .i64 ((192 : Int) + (IntKind.wrap .i64 (Int.tdiv r (64 : Int)))))) :: ((IntKind.wrap .u8 (IntKind.wrap .i64 ((128 : Int) + (Int.tmod r (64 : Int))))) :: ([] : List Int)))), []) else (bif (decide (r < (65536 : Int))) then K ((.l .deep bytesR ((IntKind.wrap .u8 (IntKind.wrap .i64 ((224 : Int) + (IntKind.wrap .i64 (Int.tdiv r (4096 : Int)))))) :: ((IntKind.wrap .u8 (IntKind.wrap .i64 ((128 : Int) + (Int.tmod (IntKind.wrap .i64 (Int.tdiv r (64 : Int))) (64 : Int))))) :: ((IntKind.wrap .u8 (IntKind.wrap .i64 ((128 : Int) + (Int.tmod r (64 : Int))))) :: ([] : List Int))))), []) else K ((.l .deep bytesR ((IntKind.wrap .u8 (IntKind.wrap .i64 ((240 : Int) + (IntKind.wrap .i64 (Int.tdiv r (262144 : Int)))))) :: ((IntKind.wrap .u8 (IntKind.wrap .i64 ((128 : Int) + (Int.tmod (IntKind.wrap .i64 (Int.tdiv r (4096 : Int))) (64 : Int))))) :: ((IntKind.wrap .u8 (IntKind.wrap .i64 ((128 : Int) + (Int.tmod (IntKind.wrap .i64 (Int.tdiv r (64 : Int))) (64 : Int))))) :: ((IntKind.wrap .u8 (IntKind.wrap .i64 ((128 : Int) + (Int.tmod r (64 : Int))))) :: ([] : List Int)))))), [])))))))
theorem e_s_RuneBytes (r : Int) (K : Ret → Option Ret) : evF E_s_RuneBytes true F.s_RuneBytes [.s (.int .i64 r)] K = T_s_RuneBytes r K := by kernel_rfl
def S_s_RuneBytes : Sm := S_fnR [.i] (fun d => true) (fun d => (.l .deep bytesR (encD d.1), []))
theorem v_s_RuneBytes (r : Int) (K : Ret → Option Ret) : T_s_RuneBytes r K = K (.l .deep bytesR (encD r), []) := by
  unfold T_s_RuneBytes encD
  by_cases h1 : r < 0
  · rw [decide_eq_true h1, if_pos (by omega)]; rfl
  by_cases h2 : r > 1114111
  · rw [decide_eq_false h1, decide_eq_true h2, if_pos (by omega)]; rfl
  rw [decide_eq_false h1, decide_eq_false h2]
  have key : (bif (decide (r < (128 : Int))) then K ((.l .deep bytesR ((IntKind.wrap .u8 r) :: [])), []) else (bif (decide (r < (2048 : Int))) then
     K ((.l .deep bytesR ((IntKind.wrap .u8 (IntKind.wrap .i64 ((192 : Int) + (IntKind.wrap .i64 (Int.tdiv r (64 : Int)))))) :: ((IntKind.wrap .u8 (IntKind.wrap .i64 ((128 : Int) + (Int.tmod r (64 : Int))))) :: []))), [])
     else (bif (decide (r < (65536 : Int))) then
      K ((.l .deep bytesR ((IntKind.wrap .u8 (IntKind.wrap .i64 ((224 : Int) + (IntKind.wrap .i64 (Int.tdiv r (4096 : Int)))))) :: ((IntKind.wrap .u8 (IntKind.wrap .i64 ((128 : Int) + (Int.tmod (IntKind.wrap .i64 (Int.tdiv r (64 : Int))) (64 : Int))))) :: ((IntKind.wrap .u8 (IntKind.wrap .i64 ((128 : Int) + (Int.tmod r (64 : Int))))) :: [])))), [])
      else K ((.l .deep bytesR ((IntKind.wrap .u8 (IntKind.wrap .i64 ((240 : Int) + (IntKind.wrap .i64 (Int.tdiv r (262144 : Int)))))) :: ((IntKind.wrap .u8 (IntKind.wrap .i64 ((128 : Int) + (Int.tmod (IntKind.wrap .i64 (Int.tdiv r (4096 : Int))) (64 : Int))))) :: ((IntKind.wrap .u8 (IntKind.wrap .i64 ((128 : Int) + (Int.tmod (IntKind.wrap .i64 (Int.tdiv r (64 : Int))) (64 : Int))))) :: ((IntKind.wrap .u8 (IntKind.wrap .i64 ((128 : Int) + (Int.tmod r (64 : Int))))) :: []))))), [])))) = K (.l .deep bytesR (if r < 128 then [r] else if r < 2048 then [192 + r / 64, 128 + r % 64] else if r < 65536 then [224 + r / 4096, 128 + r / 64 % 64, 128 + r % 64] else [240 + r / 262144, 128 + r / 4096 % 64, 128 + r / 64 % 64, 128 + r % 64]), []) := by
    rw [Int.tdiv_eq_ediv_of_nonneg (by omega), Int.tdiv_eq_ediv_of_nonneg (by omega), Int.tdiv_eq_ediv_of_nonneg (by omega), Int.tmod_eq_emod_of_nonneg (by omega)]
    by_cases c1 : r < 128
    · rw [decide_eq_true c1, if_pos c1, wrap8 (by omega) (by omega)]; rfl
    rw [decide_eq_false c1, if_neg c1]
    by_cases c2 : r < 2048
    · rw [decide_eq_true c2, if_pos c2]
      simp (disch := omega) only [wrap_in, wrap8, cond_true, cond_false]
    rw [decide_eq_false c2, if_neg c2]
    by_cases c3 : r < 65536
    · rw [decide_eq_true c3, if_pos c3]
      simp (disch := omega) only [wrap_in, wrap8, Int.tmod_eq_emod_of_nonneg, cond_true, cond_false]
    · rw [decide_eq_false c3, if_neg c3]
      simp (disch := omega) only [wrap_in, wrap8, Int.tmod_eq_emod_of_nonneg, cond_true, cond_false]
  by_cases h3 : r ≥ 55296
  · by_cases h4 : r ≤ 57343
    · rw [decide_eq_true h3, decide_eq_true h4, if_pos (by omega)]; rfl
    · rw [decide_eq_true h3, decide_eq_false h4, if_neg (by omega)]; exact key
  · rw [decide_eq_false h3, if_neg (by omega)]; exact key
theorem okS_s_RuneBytes : OkFn prog I N.s_RuneBytes true S_s_RuneBytes := okN (ok_fn mem0 (l := []) (p := []) (ls := []) (lend := []) (focus := false) (fuel := 0) (give := []) (fn := F.s_RuneBytes) (by kernel_rfl) (by kernel_rfl) (by kernel_rfl) (by kernel_rfl) (cs := []) (by kernel_rfl) loops0) (S_fnR_of fun d K h => (e_s_RuneBytes d.1 K).trans (v_s_RuneBytes d.1 K))
end Go.Ev.Seat
end
section
/- s_l01Cur_text: its contract. -/
namespace Go.Ev.Seat
open Go.RowKit
set_option maxRecDepth 100000
set_option linter.unusedVariables false
set_option linter.unusedSimpArgs false
def z_s_l01Cur_text_3_0 (x1 : Int) (o0 : List Int) (b10 : List Int) (b11 : Int) (b12 : Int) : St := { tm := ([.x, (.s (.int .i64 x1)), .x, .x, .x, (.w 0)] ++ List.replicate 21 .x), ob := [(0, (.arr true true bytesR o0)), (1, (.box [(.l .no bytesR b10), (.s (.int .i64 b11)), (.s (.int .i64 b12))]))], nx := 2, io := [(.pb 1 0)] }
def sh_s_l01Cur_text_3_0 : Ss := { tm := (.cons (.pb 0 0) (.cons (.int .i64) (.cons (.x) (.cons (.x) (.cons (.x) (.cons (.w 1) (.cons (.int .i64) (xsh 20)))))))), ob := (.box (.cons (.l .no bytesR) (.cons (.int .i64) (.cons (.int .i64) .nil))) (.arr true true bytesR .nil)), nx := 2, io := (.cons (.pb 0 0) .nil) }
def d_s_l01Cur_text_3_0 (x1 : Int) (x6 : Int) (b00 : List Int) (b01 : Int) (b02 : Int) (o1 : List Int) : sh_s_l01Cur_text_3_0.T := (((), (x1, ((), ((), ((), ((), (x6, xd 20))))))), ((b00, (b01, (b02, ()))), (o1, ())), ((), ()))
def s_s_l01Cur_text_3_0 (x1 : Int) (x6 : Int) (b00 : List Int) (b01 : Int) (b02 : Int) (o1 : List Int) : St := { tm := ([(.pb 0 0), (.s (.int .i64 x1)), .x, .x, .x, (.w 1), (.s (.int .i64 x6))] ++ List.replicate 20 .x), ob := [(0, (.box [(.l .no bytesR b00), (.s (.int .i64 b01)), (.s (.int .i64 b02))])), (1, (.arr true true bytesR o1))], nx := 2, io := [(.pb 0 0)] }
theorem se_s_l01Cur_text_3_0 (x1 : Int) (x6 : Int) (b00 : List Int) (b01 : Int) (b02 : Int) (o1 : List Int) : sh_s_l01Cur_text_3_0.mk' (d_s_l01Cur_text_3_0 x1 x6 b00 b01 b02 o1) = (s_s_l01Cur_text_3_0 x1 x6 b00 b01 b02 o1) := by kernel_rfl
def w_s_l01Cur_text_3_0 (d : sh_s_l01Cur_text_3_0.T) (f : Int → Int → (List Int) → Int → Int → (List Int) → Option Ret) : Option Ret := match d with | ((_, (x1, (_, (_, (_, (_, (x6, _))))))), ((b00, (b01, (b02, _))), (o1, _)), (_, _)) => f x1 x6 b00 b01 b02 o1
noncomputable def P_s_l01Cur_text_3_0 (x1 : Int) (x6 : Int) (b00 : List Int) (b01 : Int) (b02 : Int) (o1 : List Int) (nx0 : Int → Int → (List Int) → Int → Int → (List Int) → Option Ret) (k0 : Int → (List Int) → (List Int) → Int → Int → Option Ret) : Option Ret := (bif (decide (x6 > (0 : Int))) then (B_s_l01Cur_rune b00 b01 b02 (fun y0 y1 y2 => (bif (Nat.ble (((List.length o1) + (List.length (encD y0))) * 1) 140737488355328) then (nx0 x1 (IntKind.wrap .i64 (x6 - (1 : Int))) b00 y1 y2 (o1 ++ (encD y0))) else none))) else (k0 x1 o1 b00 b01 b02))
noncomputable def Q_s_l01Cur_text_3_0 : Nat → Int → Int → (List Int) → Int → Int → (List Int) → (Int → (List Int) → (List Int) → Int → Int → Option Ret) → Option Ret
  | 0, _, _, _, _, _, _, _ => none
  | m + 1, x1, x6, b00, b01, b02, o1, k0 => P_s_l01Cur_text_3_0 x1 x6 b00 b01 b02 o1 (fun x1 x6 b00 b01 b02 o1 => (Q_s_l01Cur_text_3_0 m x1 x6 b00 b01 b02 o1 k0)) k0
noncomputable def R_s_l01Cur_text_3_0 (x1 : Int) (x6 : Int) (b00 : List Int) (b01 : Int) (b02 : Int) (o1 : List Int) (k0 : Int → (List Int) → (List Int) → Int → Int → Option Ret) : Option Ret := Q_s_l01Cur_text_3_0 (x1.toNat + x6.toNat + List.length b00 + b01.toNat + b02.toNat + List.length o1 + 2) x1 x6 b00 b01 b02 o1 k0
noncomputable def W_s_l01Cur_text_3 : LoopFn := (fun (σ : St) (K : Ex → St → Option Ret) => (match sh_s_l01Cur_text_3_0.un σ with | some d => w_s_l01Cur_text_3_0 d (fun x1 x6 b00 b01 b02 o1 => R_s_l01Cur_text_3_0 x1 x6 b00 b01 b02 o1 (fun x1 o0 b10 b11 b12 => (K (.ext 0) (z_s_l01Cur_text_3_0 x1 o0 b10 b11 b12)))) | none => none))
noncomputable abbrev ls_s_l01Cur_text : List (Nat × Bool × Sm) := [(N.s_l01Cur_size, false, (SB_s_l01Cur_size B_s_l01Cur_size)), (N.s_l01Cur_rune, false, (SB_s_l01Cur_rune B_s_l01Cur_rune)), (N.s_RuneBytes, true, S_s_RuneBytes)]
noncomputable abbrev E_s_l01Cur_text : Env := En ls_s_l01Cur_text [] [(3, [0,1,5,6], [1,4,5], W_s_l01Cur_text_3)] [] false 0 []
noncomputable abbrev U_s_l01Cur_text_3 := rounds (run E_s_l01Cur_text (bodyOf F.s_l01Cur_text 3)) [0,1,5,6] [1,4,5]
theorem st_s_l01Cur_text_3_0 (m : Nat) (x1 : Int) (x6 : Int) (b00 : List Int) (b01 : Int) (b02 : Int) (o1 : List Int) (K : Ex → St → Option Ret) : U_s_l01Cur_text_3 (m + 1) (s_s_l01Cur_text_3_0 x1 x6 b00 b01 b02 o1) K = P_s_l01Cur_text_3_0 x1 x6 b00 b01 b02 o1 (fun x1 x6 b00 b01 b02 o1 => (U_s_l01Cur_text_3 m (s_s_l01Cur_text_3_0 x1 x6 b00 b01 b02 o1) K)) (fun x1 o0 b10 b11 b12 => (K (.ext 0) (z_s_l01Cur_text_3_0 x1 o0 b10 b11 b12))) := by kernel_rfl
theorem q_s_l01Cur_text_3 (K : Ex → St → Option Ret) : ∀ m : Nat, (∀ (x1 : Int) (x6 : Int) (b00 : List Int) (b01 : Int) (b02 : Int) (o1 : List Int), U_s_l01Cur_text_3 m (s_s_l01Cur_text_3_0 x1 x6 b00 b01 b02 o1) K = Q_s_l01Cur_text_3_0 m x1 x6 b00 b01 b02 o1 (fun x1 o0 b10 b11 b12 => (K (.ext 0) (z_s_l01Cur_text_3_0 x1 o0 b10 b11 b12))))
  | 0 => (fun _ _ _ _ _ _ => rfl)
  | m + 1 => (fun x1 x6 b00 b01 b02 o1 => (by rw [st_s_l01Cur_text_3_0, show (fun x1 x6 b00 b01 b02 o1 => (U_s_l01Cur_text_3 m (s_s_l01Cur_text_3_0 x1 x6 b00 b01 b02 o1) K)) = (fun x1 x6 b00 b01 b02 o1 => (Q_s_l01Cur_text_3_0 m x1 x6 b00 b01 b02 o1 (fun x1 o0 b10 b11 b12 => (K (.ext 0) (z_s_l01Cur_text_3_0 x1 o0 b10 b11 b12))))) from funext fun x1 => funext fun x6 => funext fun b00 => funext fun b01 => funext fun b02 => funext fun o1 => (q_s_l01Cur_text_3 K m) x1 x6 b00 b01 b02 o1]; rfl))
theorem loopK_s_l01Cur_text_3 : LoopOk E_s_l01Cur_text (bodyOf F.s_l01Cur_text 3) := by
  refine loopW_ok (n := 3) (F := W_s_l01Cur_text_3) (by kernel_rfl) rfl (li := [0,1,5,6]) (lo := [1,4,5]) rfl (fun σ K r hr => ?_)
  unfold W_s_l01Cur_text_3 at hr
  split at hr
  · rename_i d hd
    rw [Ss.un_mk hd]
    exact ⟨_, ((congrArg (fun z => U_s_l01Cur_text_3 _ z K) (se_s_l01Cur_text_3_0 _ _ _ _ _ _)).trans ((q_s_l01Cur_text_3 K _) _ _ _ _ _ _)).trans hr⟩
  · cases hr
noncomputable def T_s_l01Cur_text (cc : List Int) (ca : Int) (cs : Int) (n : Int) (K : Ret → Option Ret) : Option Ret := (B_s_l01Cur_size cc ca cs n (fun y3 y4 y5 => (R_s_l01Cur_text_3_0 n y3 cc y4 y5 ([] : List Int) (fun y6 y7 y8 y9 y10 => (bif (decide ((((List.length y7) : Nat) : Int) > y6)) then K ((.l .deep bytesR ([] : List Int)), [(.io [(.l .no bytesR y8), (.s (.int .i64 y9)), (.s (.int .i64 y10))])]) else K ((.l .deep bytesR y7), [(.io [(.l .no bytesR y8), (.s (.int .i64 y9)), (.s (.int .i64 y10))])]))))))
theorem e_s_l01Cur_text (cc : List Int) (ca : Int) (cs : Int) (n : Int) (K : Ret → Option Ret) : evF E_s_l01Cur_text false F.s_l01Cur_text [.io [.l .no bytesR cc, .s (.int .i64 ca), .s (.int .i64 cs)], .s (.int .i64 n)] K = T_s_l01Cur_text cc ca cs n K := by kernel_rfl
theorem text_loop {P : Ret → Prop} {n : Int} {cc : List Int} (hf : fitB cc = true) {F : Int → List Int → List Int → Int → Int → (Ret → Option Ret) → Option Ret} : ∀ (m k : Nat) (ca cs : Int) (o : List Int), k < m → 0 ≤ ca → ca + 3 * k ≤ 2500000000000000000 → 0 ≤ cs → cs < 65536 → byteL o → o.length + 4 * k ≤ 100000 →
    (∀ (a s : Int) (o' : List Int), 0 ≤ a → a ≤ ca + 3 * k → 0 ≤ s → s < 65536 → byteL o' → o'.length ≤ o.length + 4 * k → Dr P (F n o' cc a s)) → Dr P (fun K => Q_s_l01Cur_text_3_0 m n (k : Int) cc ca cs o (fun a b c d e => F a b c d e K))
  | 0, k, ca, cs, o, h, _, _, _, _, _, _, _ => absurd h (by omega)
  | m + 1, k, ca, cs, o, h, h0, h1, h2, h3, hb, hl, hF => by
    show Dr P (fun K => P_s_l01Cur_text_3_0 n (k : Int) cc ca cs o _ _)
    unfold P_s_l01Cur_text_3_0
    cases k with
    | zero =>
      refine Dr.bif (fun hc => ?_) (fun _ => hF ca cs o h0 (by omega) h2 h3 hb (by omega))
      simp at hc
    | succ k =>
      refine Dr.must (decide_eq_true (by omega)) ?_
      refine Dr.b3 (b_s_l01Cur_rune _ _ _ (curB_iff.2 ⟨hf, by omega, by omega, by omega, by omega⟩)) (fun y a s hy => ?_)
      have hle := encD_len4 y
      refine Dr.must (Nat.ble_eq_true_of_le (by omega)) ?_
      rw [show IntKind.wrap .i64 (((k + 1 : Nat) : Int) - 1) = (k : Int) by rw [wrap_in (by omega) (by omega)]; omega]
      refine text_loop hf m k a s (o ++ encD y) (by omega) (by omega) (by omega) (by omega) (by omega) (byteL_app hb (encD_byte y)) (by rw [List.length_append]; omega) (fun a' s' o' q1 q2 q3 q4 q5 q6 => hF a' s' o' q1 (by omega) q3 q4 q5 ?_)
      rw [List.length_append] at q6
      omega
theorem x_s_l01Cur_text (cc : List Int) (ca : Int) (cs : Int) (n : Int) (h : (curB 2000000000000000000 cc ca cs && (decide (0 ≤ n) && decide (n ≤ 1000))) = true) : ∃ (y : List Int) (a : Int) (s : Int), ((fitB y = true ∧ ((y.length : Nat) : Int) ≤ n) ∧ 0 ≤ a ∧ a ≤ ca + (1 + 3 * n) ∧ 0 ≤ s ∧ s < 65536) ∧ ∀ K : Ret → Option Ret, T_s_l01Cur_text cc ca cs n K = K (.l .deep bytesR y, [.io [.l .no bytesR cc, .s (.int .i64 a), .s (.int .i64 s)]]) := by
  suffices hd : Dr (fun r : Ret => ∃ (y : List Int) (a : Int) (s : Int), ((fitB y = true ∧ ((y.length : Nat) : Int) ≤ n) ∧ 0 ≤ a ∧ a ≤ ca + (1 + 3 * n) ∧ 0 ≤ s ∧ s < 65536) ∧ r = (.l .deep bytesR y, [.io [.l .no bytesR cc, .s (.int .i64 a), .s (.int .i64 s)]])) (fun K : Ret → Option Ret => T_s_l01Cur_text cc ca cs n K) by
    obtain ⟨_, ⟨y, a, s, hp, rfl⟩, hk⟩ := hd
    exact ⟨y, a, s, hp, hk⟩
  obtain ⟨h, hpre⟩ := (Bool.and_eq_true _ _).mp h
  obtain ⟨hf, h2, h3, h4, h5⟩ := curB_iff.1 h
  have hl := fitB_len hf
  unfold T_s_l01Cur_text
  simp only [Bool.and_eq_true, decide_eq_true_eq] at hpre
  refine Dr.b3 (b_s_l01Cur_size _ _ _ _ ((Bool.and_eq_true _ _).mpr ⟨curB_iff.2 ⟨hf, by omega, by omega, by omega, by omega⟩, by simp only [Bool.and_eq_true, decide_eq_true_eq]; omega⟩)) (fun y0 a0 s0 hy => ?_)
  obtain ⟨k, rfl⟩ : ∃ k : Nat, y0 = k := ⟨y0.toNat, by omega⟩
  unfold R_s_l01Cur_text_3_0
  refine text_loop hf (F := fun y6 y7 y8 y9 y10 K => (bif (decide ((((List.length y7) : Nat) : Int) > y6)) then
   K ((.l .deep bytesR ([] : List Int)), [(.io [(.l .no bytesR y8), (.s (.int .i64 y9)), (.s (.int .i64 y10))])])
   else K ((.l .deep bytesR y7), [(.io [(.l .no bytesR y8), (.s (.int .i64 y9)), (.s (.int .i64 y10))])]))) _ k a0 s0 [] (by omega) (by omega) (by omega) (by omega) (by omega) byteL_nil (by rw [List.length_nil]; omega) (fun a s o q1 q2 q3 q4 q5 q6 => ?_)
  simp only [List.length_nil] at q6
  refine Dr.bif (fun _ => Dr.leaf ⟨_, _, _, ⟨⟨rfl, ?_⟩, by omega, by omega, by omega, by omega⟩, rfl⟩) (fun hc => ?_)
  · simp only [List.length_nil]; omega
  · simp only [decide_eq_false_iff_not] at hc
    exact Dr.leaf ⟨_, _, _, ⟨⟨byteL_fit q5 (by omega), by omega⟩, by omega, by omega, by omega, by omega⟩, rfl⟩
noncomputable def g_s_l01Cur_text (cc : List Int) (ca : Int) (cs : Int) (n : Int) : List Int × Int × Int := Classical.epsilon fun g => ((fitB (g).1 = true ∧ (((g).1.length : Nat) : Int) ≤ n) ∧ 0 ≤ (g).2.1 ∧ (g).2.1 ≤ ca + (1 + 3 * n) ∧ 0 ≤ (g).2.2 ∧ (g).2.2 < 65536) ∧ ∀ K : Ret → Option Ret, T_s_l01Cur_text cc ca cs n K = K (.l .deep bytesR (g).1, [.io [.l .no bytesR cc, .s (.int .i64 (g).2.1), .s (.int .i64 (g).2.2)]])
theorem gs_s_l01Cur_text (cc : List Int) (ca : Int) (cs : Int) (n : Int) (h : (curB 2000000000000000000 cc ca cs && (decide (0 ≤ n) && decide (n ≤ 1000))) = true) : ((fitB (g_s_l01Cur_text cc ca cs n).1 = true ∧ (((g_s_l01Cur_text cc ca cs n).1.length : Nat) : Int) ≤ n) ∧ 0 ≤ (g_s_l01Cur_text cc ca cs n).2.1 ∧ (g_s_l01Cur_text cc ca cs n).2.1 ≤ ca + (1 + 3 * n) ∧ 0 ≤ (g_s_l01Cur_text cc ca cs n).2.2 ∧ (g_s_l01Cur_text cc ca cs n).2.2 < 65536) ∧ ∀ K : Ret → Option Ret, T_s_l01Cur_text cc ca cs n K = K (.l .deep bytesR (g_s_l01Cur_text cc ca cs n).1, [.io [.l .no bytesR cc, .s (.int .i64 (g_s_l01Cur_text cc ca cs n).2.1), .s (.int .i64 (g_s_l01Cur_text cc ca cs n).2.2)]]) := by
  obtain ⟨y, a, s, hy, hk⟩ := x_s_l01Cur_text cc ca cs n h
  exact Classical.epsilon_spec (p := fun g : List Int × Int × Int => ((fitB (g).1 = true ∧ (((g).1.length : Nat) : Int) ≤ n) ∧ 0 ≤ (g).2.1 ∧ (g).2.1 ≤ ca + (1 + 3 * n) ∧ 0 ≤ (g).2.2 ∧ (g).2.2 < 65536) ∧ ∀ K : Ret → Option Ret, T_s_l01Cur_text cc ca cs n K = K (.l .deep bytesR (g).1, [.io [.l .no bytesR cc, .s (.int .i64 (g).2.1), .s (.int .i64 (g).2.2)]])) ⟨⟨y, a, s⟩, hy, hk⟩
noncomputable def B_s_l01Cur_text (cc : List Int) (ca : Int) (cs : Int) (n : Int) (k : (List Int) → (Int) → (Int) → Option Ret) : Option Ret := bif curB 2000000000000000000 cc ca cs && (decide (0 ≤ n) && decide (n ≤ 1000)) then k (g_s_l01Cur_text cc ca cs n).1 (g_s_l01Cur_text cc ca cs n).2.1 (g_s_l01Cur_text cc ca cs n).2.2 else none
theorem b_s_l01Cur_text (cc : List Int) (ca : Int) (cs : Int) (n : Int) (h : (curB 2000000000000000000 cc ca cs && (decide (0 ≤ n) && decide (n ≤ 1000))) = true) : ∃ (y : List Int) (a : Int) (s : Int), ((fitB y = true ∧ ((y.length : Nat) : Int) ≤ n) ∧ 0 ≤ a ∧ a ≤ ca + (1 + 3 * n) ∧ 0 ≤ s ∧ s < 65536) ∧ ∀ k, B_s_l01Cur_text cc ca cs n k = k y a s :=
  ⟨(g_s_l01Cur_text cc ca cs n).1, (g_s_l01Cur_text cc ca cs n).2.1, (g_s_l01Cur_text cc ca cs n).2.2, (gs_s_l01Cur_text cc ca cs n h).1, fun k => by unfold B_s_l01Cur_text; rw [h]; rfl⟩
def SB_s_l01Cur_text (B : (List Int) → (Int) → (Int) → (Int) → ((List Int) → (Int) → (Int) → Option Ret) → Option Ret) : Sm := S_B [.sh (.io (.cons (.l .no bytesR) (.cons (.int .i64) (.cons (.int .i64) .nil)))), .i] (fun d K => B d.1.1 d.1.2.1 d.1.2.2.1 d.2.1 (fun y a s => K (.l .deep bytesR y, [.io [.l .no bytesR d.1.1, .s (.int .i64 a), .s (.int .i64 s)]])))
theorem okS_s_l01Cur_text : OkFn prog I N.s_l01Cur_text false (SB_s_l01Cur_text B_s_l01Cur_text) := okN (ok_fn (memc okS_s_l01Cur_size (memc okS_s_l01Cur_rune (memc okS_s_RuneBytes mem0))) (l := ls_s_l01Cur_text) (p := []) (ls := [(3, [0,1,5,6], [1,4,5], W_s_l01Cur_text_3)]) (lend := []) (focus := false) (fuel := 0) (give := []) (fn := F.s_l01Cur_text) (by kernel_rfl) (by kernel_rfl) (by kernel_rfl) (by kernel_rfl) (cs := [bodyOf F.s_l01Cur_text 3]) (by kernel_rfl) (loopsc loopK_s_l01Cur_text_3 loops0)) (S_B_of fun d K q hq => by
  refine (e_s_l01Cur_text d.1.1 d.1.2.1 d.1.2.2.1 d.2.1 K).trans ?_
  unfold B_s_l01Cur_text at hq
  cases hp : (curB 2000000000000000000 d.1.1 d.1.2.1 d.1.2.2.1 && (decide (0 ≤ d.2.1) && decide (d.2.1 ≤ 1000))) with
  | false => rw [hp] at hq; cases hq
  | true =>
    rw [hp] at hq
    exact ((gs_s_l01Cur_text d.1.1 d.1.2.1 d.1.2.2.1 d.2.1 hp).2 K).trans hq)
end Go.Ev.Seat
end
section
/- s_l01Cur_once: its contract. -/
namespace Go.Ev.Seat
open Go.RowKit
set_option maxRecDepth 100000
set_option linter.unusedVariables false
set_option linter.unusedSimpArgs false
noncomputable abbrev ls_s_l01Cur_once : List (Nat × Bool × Sm) := [(N.s_l01Cur_pick, false, (SB_s_l01Cur_pick B_s_l01Cur_pick))]
noncomputable abbrev E_s_l01Cur_once : Env := En ls_s_l01Cur_once [] [] [] false 0 []
noncomputable def T_s_l01Cur_once (cc : List Int) (ca : Int) (cs : Int) (n : Int) (K : Ret → Option Ret) : Option Ret := (B_s_l01Cur_pick cc ca cs n (fun y0 y1 y2 => K ((.s (.bool (y0 == (IntKind.wrap .i64 (n - (1 : Int)))))), [(.io [(.l .no bytesR cc), (.s (.int .i64 y1)), (.s (.int .i64 y2))])])))
theorem e_s_l01Cur_once (cc : List Int) (ca : Int) (cs : Int) (n : Int) (K : Ret → Option Ret) : evF E_s_l01Cur_once false F.s_l01Cur_once [.io [.l .no bytesR cc, .s (.int .i64 ca), .s (.int .i64 cs)], .s (.int .i64 n)] K = T_s_l01Cur_once cc ca cs n K := by kernel_rfl
theorem x_s_l01Cur_once (cc : List Int) (ca : Int) (cs : Int) (n : Int) (h : (curB 3000000000000000000 cc ca cs) = true) : ∃ (y : Bool) (a : Int) (s : Int), (0 ≤ a ∧ a ≤ ca + 1 ∧ 0 ≤ s ∧ s < 65536) ∧ ∀ K : Ret → Option Ret, T_s_l01Cur_once cc ca cs n K = K (.s (.bool y), [.io [.l .no bytesR cc, .s (.int .i64 a), .s (.int .i64 s)]]) := by
  suffices hd : Dr (fun r : Ret => ∃ (y : Bool) (a : Int) (s : Int), (0 ≤ a ∧ a ≤ ca + 1 ∧ 0 ≤ s ∧ s < 65536) ∧ r = (.s (.bool y), [.io [.l .no bytesR cc, .s (.int .i64 a), .s (.int .i64 s)]])) (fun K : Ret → Option Ret => T_s_l01Cur_once cc ca cs n K) by
    obtain ⟨_, ⟨y, a, s, hp, rfl⟩, hk⟩ := hd
    exact ⟨y, a, s, hp, hk⟩
  obtain ⟨hf, h2, h3, h4, h5⟩ := curB_iff.1 h
  have hl := fitB_len hf
  unfold T_s_l01Cur_once
  repeat' first
    | exact Dr.leaf ⟨_, _, _, ⟨by omega, by omega, by omega, by omega⟩, rfl⟩
    | refine Dr.b3 (b_s_l01Cur_pick _ _ _ _ (curB_iff.2 ⟨hf, by omega, by omega, by omega, by omega⟩)) (fun _ _ _ hy => ?_)
    | refine Dr.meet ?_
    | simp (disch := omega) only [wrap_in]
    | refine Dr.must (by first | rfl | (simp only [List.length_cons, List.length_nil, BEq.rfl, Bool.true_and, Bool.and_eq_true, decide_eq_true_eq]; omega)) ?_
    | refine Dr.bif (fun hb => ?_) (fun hb => ?_)
noncomputable def g_s_l01Cur_once (cc : List Int) (ca : Int) (cs : Int) (n : Int) : Bool × Int × Int := Classical.epsilon fun g => (0 ≤ (g).2.1 ∧ (g).2.1 ≤ ca + 1 ∧ 0 ≤ (g).2.2 ∧ (g).2.2 < 65536) ∧ ∀ K : Ret → Option Ret, T_s_l01Cur_once cc ca cs n K = K (.s (.bool (g).1), [.io [.l .no bytesR cc, .s (.int .i64 (g).2.1), .s (.int .i64 (g).2.2)]])
theorem gs_s_l01Cur_once (cc : List Int) (ca : Int) (cs : Int) (n : Int) (h : (curB 3000000000000000000 cc ca cs) = true) : (0 ≤ (g_s_l01Cur_once cc ca cs n).2.1 ∧ (g_s_l01Cur_once cc ca cs n).2.1 ≤ ca + 1 ∧ 0 ≤ (g_s_l01Cur_once cc ca cs n).2.2 ∧ (g_s_l01Cur_once cc ca cs n).2.2 < 65536) ∧ ∀ K : Ret → Option Ret, T_s_l01Cur_once cc ca cs n K = K (.s (.bool (g_s_l01Cur_once cc ca cs n).1), [.io [.l .no bytesR cc, .s (.int .i64 (g_s_l01Cur_once cc ca cs n).2.1), .s (.int .i64 (g_s_l01Cur_once cc ca cs n).2.2)]]) := by
  obtain ⟨y, a, s, hy, hk⟩ := x_s_l01Cur_once cc ca cs n h
  exact Classical.epsilon_spec (p := fun g : Bool × Int × Int => (0 ≤ (g).2.1 ∧ (g).2.1 ≤ ca + 1 ∧ 0 ≤ (g).2.2 ∧ (g).2.2 < 65536) ∧ ∀ K : Ret → Option Ret, T_s_l01Cur_once cc ca cs n K = K (.s (.bool (g).1), [.io [.l .no bytesR cc, .s (.int .i64 (g).2.1), .s (.int .i64 (g).2.2)]])) ⟨⟨y, a, s⟩, hy, hk⟩
noncomputable def B_s_l01Cur_once (cc : List Int) (ca : Int) (cs : Int) (n : Int) (k : (Bool) → (Int) → (Int) → Option Ret) : Option Ret := bif curB 3000000000000000000 cc ca cs then k (g_s_l01Cur_once cc ca cs n).1 (g_s_l01Cur_once cc ca cs n).2.1 (g_s_l01Cur_once cc ca cs n).2.2 else none
theorem b_s_l01Cur_once (cc : List Int) (ca : Int) (cs : Int) (n : Int) (h : (curB 3000000000000000000 cc ca cs) = true) : ∃ (y : Bool) (a : Int) (s : Int), (0 ≤ a ∧ a ≤ ca + 1 ∧ 0 ≤ s ∧ s < 65536) ∧ ∀ k, B_s_l01Cur_once cc ca cs n k = k y a s :=
  ⟨(g_s_l01Cur_once cc ca cs n).1, (g_s_l01Cur_once cc ca cs n).2.1, (g_s_l01Cur_once cc ca cs n).2.2, (gs_s_l01Cur_once cc ca cs n h).1, fun k => by unfold B_s_l01Cur_once; rw [h]; rfl⟩
def SB_s_l01Cur_once (B : (List Int) → (Int) → (Int) → (Int) → ((Bool) → (Int) → (Int) → Option Ret) → Option Ret) : Sm := S_B [.sh (.io (.cons (.l .no bytesR) (.cons (.int .i64) (.cons (.int .i64) .nil)))), .i] (fun d K => B d.1.1 d.1.2.1 d.1.2.2.1 d.2.1 (fun y a s => K (.s (.bool y), [.io [.l .no bytesR d.1.1, .s (.int .i64 a), .s (.int .i64 s)]])))
theorem okS_s_l01Cur_once : OkFn prog I N.s_l01Cur_once false (SB_s_l01Cur_once B_s_l01Cur_once) := okN (ok_fn (memc okS_s_l01Cur_pick mem0) (l := ls_s_l01Cur_once) (p := []) (ls := []) (lend := []) (focus := false) (fuel := 0) (give := []) (fn := F.s_l01Cur_once) (by kernel_rfl) (by kernel_rfl) (by kernel_rfl) (by kernel_rfl) (cs := []) (by kernel_rfl) loops0) (S_B_of fun d K q hq => by
  refine (e_s_l01Cur_once d.1.1 d.1.2.1 d.1.2.2.1 d.2.1 K).trans ?_
  unfold B_s_l01Cur_once at hq
  cases hp : (curB 3000000000000000000 d.1.1 d.1.2.1 d.1.2.2.1) with
  | false => rw [hp] at hq; cases hq
  | true =>
    rw [hp] at hq
    exact ((gs_s_l01Cur_once d.1.1 d.1.2.1 d.1.2.2.1 d.2.1 hp).2 K).trans hq)
end Go.Ev.Seat
end
section
/- More about what is drawn. -/
set_option linter.unusedVariables false
namespace Go.Ev
open Go.RowKit
theorem fitB_set {xs : List Int} (h : fitB xs = true) {i : Nat} {b : Int} (hb : 0 ≤ b ∧ b ≤ 255) : fitB (xs.set i b) = true :=
  fitB_of (by rw [List.length_set]; exact fitB_len h) (fun x hx => (List.mem_or_eq_of_mem_set hx).elim (fun h' => fitB_mem h h') (fun e => e ▸ hb))
theorem wrap8_range (n : Int) : 0 ≤ IntKind.u8.wrap n ∧ IntKind.u8.wrap n ≤ 255 := by
  rw [wrap8_mod]; omega
theorem fitB_one {b : Int} (hb : 0 ≤ b ∧ b ≤ 255) : fitB (b :: ([] : List Int)) = true :=
  fitB_of (by simp) (fun x hx => by rw [List.mem_singleton.1 hx]; exact hb)
theorem rng_nil {i : Nat} : -9223372036854775808 ≤ ([] : List Int).getD i 0 ∧ ([] : List Int).getD i 0 ≤ 9223372036854775807 := by
  rw [List.getD_nil]; omega
theorem rng_cons {x : Int} {l : List Int} {i : Nat} (h : -9223372036854775808 ≤ x ∧ x ≤ 9223372036854775807) (hl : ∀ {i : Nat}, -9223372036854775808 ≤ l.getD i 0 ∧ l.getD i 0 ≤ 9223372036854775807) : -9223372036854775808 ≤ (x :: l).getD i 0 ∧ (x :: l).getD i 0 ≤ 9223372036854775807 := by
  cases i with
  | zero => exact h
  | succ i => exact hl
def rngB (l : List Int) : Bool := l.all fun x => decide (-9223372036854775808 ≤ x) && decide (x ≤ 9223372036854775807)
theorem rng_get : ∀ {l : List Int} {i : Nat}, rngB l = true → -9223372036854775808 ≤ l.getD i 0 ∧ l.getD i 0 ≤ 9223372036854775807
  | [], _, _ => rng_nil
  | x :: l, i, h => by
    unfold rngB at h
    rw [List.all_cons, Bool.and_eq_true, Bool.and_eq_true, decide_eq_true_eq, decide_eq_true_eq] at h
    exact rng_cons h.1 (fun {j} => rng_get (l := l) (i := j) h.2)
theorem Dr.leafN {P : Ret → Prop} {r : Ret} (h : P (noR r.1, r.2)) (hk : r.1.okNo = true) : Dr P (fun K : Ret → Option Ret => noK K r) := ⟨_, h, fun K => by unfold noK; rw [hk]; rfl⟩
theorem Dr.mt {ρ : Type} {P : ρ → Prop} {A : (ρ → Option Ret) → Option Ret} (h : Dr P A) : Dr P (fun K => mt (A K)) := h.eq (fun K => mt_self _)
end Go.Ev
end
section
/- s_l01Cur_req: its contract. -/
namespace Go.Ev.Seat
open Go.RowKit
set_option maxRecDepth 100000
set_option linter.unusedVariables false
set_option linter.unusedSimpArgs false
abbrev lit_s_l01Cur_req_0 : List Int := ((3 : Int) :: ((3 : Int) :: ((3 : Int) :: ((4 : Int) :: ((5 : Int) :: ((6 : Int) :: ((7 : Int) :: ((8 : Int) :: ((9 : Int) :: ((10 : Int) :: ((11 : Int) :: ((12 : Int) :: ((13 : Int) :: ((14 : Int) :: ((15 : Int) :: ((15 : Int) :: ((16 : Int) :: ((1 : Int) :: ((2 : Int) :: ([] : List Int))))))))))))))))))))
noncomputable abbrev pl_s_l01Cur_req : List (Nat × Plan × List Nat) := [(1, takeB [1, 5] (.fork (.more 0 (.fork (.more 2 (takeB [3] (.fork (.more 4 (.fork (.more 6 (takeB [7, 8] (.fork (.one 9 (.fork (.one 10 (.done)))))) (.one 9 (.fork (.one 6 (takeB [7, 8] (.fork (.one 10 (.done))))))))) (.more 6 (takeB [7] (.fork (.more 4 (takeB [8] (.fork (.one 9 (.fork (.one 10 (.done)))))) (.one 9 (.fork (.one 4 (takeB [8] (.fork (.one 10 (.done)))))))))) (.one 9 (.fork (.more 4 (.fork (.one 6 (takeB [7, 8] (.fork (.one 10 (.done)))))) (.one 6 (takeB [7] (.fork (.one 4 (takeB [8] (.fork (.one 10 (.done))))))))))))))) (.one 9 (.fork (.one 2 (takeB [3] (.fork (.more 4 (.fork (.one 6 (takeB [7, 8] (.fork (.one 10 (.done)))))) (.one 6 (takeB [7] (.fork (.one 4 (takeB [8] (.fork (.one 10 (.done)))))))))))))))) (.more 2 (.fork (.more 0 (takeB [3] (.fork (.more 4 (.fork (.more 6 (takeB [7, 8] (.fork (.one 9 (.fork (.one 10 (.done)))))) (.one 9 (.fork (.one 6 (takeB [7, 8] (.fork (.one 10 (.done))))))))) (.more 6 (takeB [7] (.fork (.more 4 (takeB [8] (.fork (.one 9 (.fork (.one 10 (.done)))))) (.one 9 (.fork (.one 4 (takeB [8] (.fork (.one 10 (.done)))))))))) (.one 9 (.fork (.more 4 (.fork (.one 6 (takeB [7, 8] (.fork (.one 10 (.done)))))) (.one 6 (takeB [7] (.fork (.one 4 (takeB [8] (.fork (.one 10 (.done))))))))))))))) (.more 6 (takeB [7] (.fork (.more 0 (takeB [3] (.fork (.more 4 (takeB [8] (.fork (.one 9 (.fork (.one 10 (.done)))))) (.one 9 (.fork (.one 4 (takeB [8] (.fork (.one 10 (.done)))))))))) (.one 9 (.fork (.one 0 (takeB [3] (.fork (.one 4 (takeB [8] (.fork (.one 10 (.done))))))))))))) (.one 9 (.fork (.more 0 (takeB [3] (.fork (.more 4 (.fork (.one 6 (takeB [7, 8] (.fork (.one 10 (.done)))))) (.one 6 (takeB [7] (.fork (.one 4 (takeB [8] (.fork (.one 10 (.done))))))))))) (.one 6 (takeB [7] (.fork (.one 0 (takeB [3] (.fork (.one 4 (takeB [8] (.fork (.one 10 (.done))))))))))))))))) (.one 9 (.fork (.more 0 (.fork (.one 2 (takeB [3] (.fork (.more 4 (.fork (.one 6 (takeB [7, 8] (.fork (.one 10 (.done)))))) (.one 6 (takeB [7] (.fork (.one 4 (takeB [8] (.fork (.one 10 (.done))))))))))))) (.one 2 (.fork (.more 0 (takeB [3] (.fork (.more 4 (.fork (.one 6 (takeB [7, 8] (.fork (.one 10 (.done)))))) (.one 6 (takeB [7] (.fork (.one 4 (takeB [8] (.fork (.one 10 (.done))))))))))) (.one 6 (takeB [7] (.fork (.one 0 (takeB [3] (.fork (.one 4 (takeB [8] (.fork (.one 10 (.done)))))))))))))))))))), [0])]
noncomputable abbrev ls_s_l01Cur_req : List (Nat × Bool × Sm) := [(N.s_l01Cur_pick, false, (SB_s_l01Cur_pick B_s_l01Cur_pick)), (N.s_l01Cur_text, false, (SB_s_l01Cur_text B_s_l01Cur_text)), (N.s_l01Cur_once, false, (SB_s_l01Cur_once B_s_l01Cur_once))]
noncomputable abbrev E_s_l01Cur_req : Env := En ls_s_l01Cur_req pl_s_l01Cur_req [] [] false 0 []
noncomputable def zj_s_l01Cur_req (cc : List Int) (ca : Int) (cs : Int) (y0 : Int) (y1 : Int) (y2 : Int) (y3 : Int) (y4 : Int) (y5 : Int) : St := { tm := ([(.pb 0 0), .x, (.pb 24 0), (.pb 2584 0), .x, (.w 280), (.pb 0 0), (.s (.int .i64 y0)), (.pa 280 ((Int.toNat y0)) 0), (.s (.int .i64 (List.getD lit_s_l01Cur_req_0 (Int.toNat y0) (0 : Int)))), (.pb 0 0), (.s (.int .i64 y3)), (.s (.int .i64 (IntKind.wrap .i64 ((1 : Int) + y3)))), (.a [(.s (.int .i64 (List.getD lit_s_l01Cur_req_0 (Int.toNat y0) (0 : Int)))), (.s (.int .i64 (IntKind.wrap .i64 ((1 : Int) + y3)))), (.s (.int .i64 (0 : Int))), (.s (.int .i64 (0 : Int))), (.s (.int .i64 (0 : Int))), .nl])] ++ List.replicate 75 .x), ob := [(0, (.box [(.l .no bytesR cc), (.s (.int .i64 y4)), (.s (.int .i64 y5))])), (((St.nx (St.mk (((V.pb 0 0) :: []) ++ (List.replicate ((Go.Func.ntmps F.s_l01Cur_req) - (List.length ((V.io ((V.l Ow.no bytesR cc) :: ((V.s (Go.Value.int .i64 ca)) :: ((V.s (Go.Value.int .i64 cs)) :: [])))) :: []))) V.x)) (Obs.put [] 0 (E.box ((V.l Ow.no bytesR cc) :: ((V.s (Go.Value.int .i64 ca)) :: ((V.s (Go.Value.int .i64 cs)) :: []))))) (24 * (List.length ((V.io ((V.l Ow.no bytesR cc) :: ((V.s (Go.Value.int .i64 ca)) :: ((V.s (Go.Value.int .i64 cs)) :: [])))) :: []))) (ptrs ((V.io ((V.l Ow.no bytesR cc) :: ((V.s (Go.Value.int .i64 ca)) :: ((V.s (Go.Value.int .i64 cs)) :: [])))) :: []) ((V.pb 0 0) :: [])))) + (256 * 0)), (.box [(.s (.int .i64 (0 : Int))), (.s (.int .i64 (0 : Int))), (.s (.int .i64 (0 : Int))), (.s (.int .i64 (0 : Int))), (.s (.int .i64 (0 : Int))), .nl])), (((St.nx (St.put (St.setOb (St.mk (St.tm (St.mk (((V.pb 0 0) :: []) ++ (List.replicate ((Go.Func.ntmps F.s_l01Cur_req) - (List.length ((V.io ((V.l Ow.no bytesR cc) :: ((V.s (Go.Value.int .i64 ca)) :: ((V.s (Go.Value.int .i64 cs)) :: [])))) :: []))) V.x)) (Obs.put [] 0 (E.box ((V.l Ow.no bytesR cc) :: ((V.s (Go.Value.int .i64 ca)) :: ((V.s (Go.Value.int .i64 cs)) :: []))))) (24 * (List.length ((V.io ((V.l Ow.no bytesR cc) :: ((V.s (Go.Value.int .i64 ca)) :: ((V.s (Go.Value.int .i64 cs)) :: [])))) :: []))) (ptrs ((V.io ((V.l Ow.no bytesR cc) :: ((V.s (Go.Value.int .i64 ca)) :: ((V.s (Go.Value.int .i64 cs)) :: [])))) :: []) ((V.pb 0 0) :: [])))) (St.ob (St.mk (((V.pb 0 0) :: []) ++ (List.replicate ((Go.Func.ntmps F.s_l01Cur_req) - (List.length ((V.io ((V.l Ow.no bytesR cc) :: ((V.s (Go.Value.int .i64 ca)) :: ((V.s (Go.Value.int .i64 cs)) :: [])))) :: []))) V.x)) (Obs.put [] 0 (E.box ((V.l Ow.no bytesR cc) :: ((V.s (Go.Value.int .i64 ca)) :: ((V.s (Go.Value.int .i64 cs)) :: []))))) (24 * (List.length ((V.io ((V.l Ow.no bytesR cc) :: ((V.s (Go.Value.int .i64 ca)) :: ((V.s (Go.Value.int .i64 cs)) :: [])))) :: []))) (ptrs ((V.io ((V.l Ow.no bytesR cc) :: ((V.s (Go.Value.int .i64 ca)) :: ((V.s (Go.Value.int .i64 cs)) :: [])))) :: []) ((V.pb 0 0) :: [])))) ((St.nx (St.mk (((V.pb 0 0) :: []) ++ (List.replicate ((Go.Func.ntmps F.s_l01Cur_req) - (List.length ((V.io ((V.l Ow.no bytesR cc) :: ((V.s (Go.Value.int .i64 ca)) :: ((V.s (Go.Value.int .i64 cs)) :: [])))) :: []))) V.x)) (Obs.put [] 0 (E.box ((V.l Ow.no bytesR cc) :: ((V.s (Go.Value.int .i64 ca)) :: ((V.s (Go.Value.int .i64 cs)) :: []))))) (24 * (List.length ((V.io ((V.l Ow.no bytesR cc) :: ((V.s (Go.Value.int .i64 ca)) :: ((V.s (Go.Value.int .i64 cs)) :: [])))) :: []))) (ptrs ((V.io ((V.l Ow.no bytesR cc) :: ((V.s (Go.Value.int .i64 ca)) :: ((V.s (Go.Value.int .i64 cs)) :: [])))) :: []) ((V.pb 0 0) :: [])))) + (256 * (Array.size (List.toArray ((Go.Oper.mk (Option.some 2) (Go.Op.alloc 39) 0 ("l09_requests.go:127") (List.toArray []) Option.none) :: []))))) (St.io (St.mk (((V.pb 0 0) :: []) ++ (List.replicate ((Go.Func.ntmps F.s_l01Cur_req) - (List.length ((V.io ((V.l Ow.no bytesR cc) :: ((V.s (Go.Value.int .i64 ca)) :: ((V.s (Go.Value.int .i64 cs)) :: [])))) :: []))) V.x)) (Obs.put [] 0 (E.box ((V.l Ow.no bytesR cc) :: ((V.s (Go.Value.int .i64 ca)) :: ((V.s (Go.Value.int .i64 cs)) :: []))))) (24 * (List.length ((V.io ((V.l Ow.no bytesR cc) :: ((V.s (Go.Value.int .i64 ca)) :: ((V.s (Go.Value.int .i64 cs)) :: [])))) :: []))) (ptrs ((V.io ((V.l Ow.no bytesR cc) :: ((V.s (Go.Value.int .i64 ca)) :: ((V.s (Go.Value.int .i64 cs)) :: [])))) :: []) ((V.pb 0 0) :: []))))) ((St.nx (St.mk (((V.pb 0 0) :: []) ++ (List.replicate ((Go.Func.ntmps F.s_l01Cur_req) - (List.length ((V.io ((V.l Ow.no bytesR cc) :: ((V.s (Go.Value.int .i64 ca)) :: ((V.s (Go.Value.int .i64 cs)) :: [])))) :: []))) V.x)) (Obs.put [] 0 (E.box ((V.l Ow.no bytesR cc) :: ((V.s (Go.Value.int .i64 ca)) :: ((V.s (Go.Value.int .i64 cs)) :: []))))) (24 * (List.length ((V.io ((V.l Ow.no bytesR cc) :: ((V.s (Go.Value.int .i64 ca)) :: ((V.s (Go.Value.int .i64 cs)) :: [])))) :: []))) (ptrs ((V.io ((V.l Ow.no bytesR cc) :: ((V.s (Go.Value.int .i64 ca)) :: ((V.s (Go.Value.int .i64 cs)) :: [])))) :: []) ((V.pb 0 0) :: [])))) + (256 * 0)) (E.box (Ty.zero (Ty.mk Ds.st 6 true ((V.s (Go.Value.int .i64 (0 : Int))) :: ((V.s (Go.Value.int .i64 (0 : Int))) :: ((V.s (Go.Value.int .i64 (0 : Int))) :: ((V.s (Go.Value.int .i64 (0 : Int))) :: ((V.s (Go.Value.int .i64 (0 : Int))) :: (V.nl :: [])))))) 8 ((0, (1, false)) :: ((1, (1, false)) :: ((2, (1, false)) :: ((3, (1, false)) :: ((4, (1, false)) :: ((5, (1, false)) :: [])))))) (Rw.cons (Cc.int .i64) (Rw.cons (Cc.int .i64) (Rw.cons (Cc.int .i64) (Rw.cons (Cc.int .i64) (Rw.cons (Cc.int .i64) (Rw.one (Cc.sl (Rw.one (Cc.int .u8))))))))) false)))) (Go.Oper.dst (GetElem.getElem (List.toArray ((Go.Oper.mk (Option.some 2) (Go.Op.alloc 39) 0 ("l09_requests.go:127") (List.toArray []) Option.none) :: [])) 0 (Nat.le_of_ble_eq_true rfl))) (V.pb ((St.nx (St.mk (((V.pb 0 0) :: []) ++ (List.replicate ((Go.Func.ntmps F.s_l01Cur_req) - (List.length ((V.io ((V.l Ow.no bytesR cc) :: ((V.s (Go.Value.int .i64 ca)) :: ((V.s (Go.Value.int .i64 cs)) :: [])))) :: []))) V.x)) (Obs.put [] 0 (E.box ((V.l Ow.no bytesR cc) :: ((V.s (Go.Value.int .i64 ca)) :: ((V.s (Go.Value.int .i64 cs)) :: []))))) (24 * (List.length ((V.io ((V.l Ow.no bytesR cc) :: ((V.s (Go.Value.int .i64 ca)) :: ((V.s (Go.Value.int .i64 cs)) :: [])))) :: []))) (ptrs ((V.io ((V.l Ow.no bytesR cc) :: ((V.s (Go.Value.int .i64 ca)) :: ((V.s (Go.Value.int .i64 cs)) :: [])))) :: []) ((V.pb 0 0) :: [])))) + (256 * 0)) 0))) + (256 * 0)), (.arr true true intR lit_s_l01Cur_req_0)), (((St.nx (St.put (St.setOb (St.mk (St.tm (St.mk (((V.pb 0 0) :: []) ++ (List.replicate ((Go.Func.ntmps F.s_l01Cur_req) - (List.length ((V.io ((V.l Ow.no bytesR cc) :: ((V.s (Go.Value.int .i64 ca)) :: ((V.s (Go.Value.int .i64 cs)) :: [])))) :: []))) V.x)) (Obs.put [] 0 (E.box ((V.l Ow.no bytesR cc) :: ((V.s (Go.Value.int .i64 ca)) :: ((V.s (Go.Value.int .i64 cs)) :: []))))) (24 * (List.length ((V.io ((V.l Ow.no bytesR cc) :: ((V.s (Go.Value.int .i64 ca)) :: ((V.s (Go.Value.int .i64 cs)) :: [])))) :: []))) (ptrs ((V.io ((V.l Ow.no bytesR cc) :: ((V.s (Go.Value.int .i64 ca)) :: ((V.s (Go.Value.int .i64 cs)) :: [])))) :: []) ((V.pb 0 0) :: [])))) (St.ob (St.mk (((V.pb 0 0) :: []) ++ (List.replicate ((Go.Func.ntmps F.s_l01Cur_req) - (List.length ((V.io ((V.l Ow.no bytesR cc) :: ((V.s (Go.Value.int .i64 ca)) :: ((V.s (Go.Value.int .i64 cs)) :: [])))) :: []))) V.x)) (Obs.put [] 0 (E.box ((V.l Ow.no bytesR cc) :: ((V.s (Go.Value.int .i64 ca)) :: ((V.s (Go.Value.int .i64 cs)) :: []))))) (24 * (List.length ((V.io ((V.l Ow.no bytesR cc) :: ((V.s (Go.Value.int .i64 ca)) :: ((V.s (Go.Value.int .i64 cs)) :: [])))) :: []))) (ptrs ((V.io ((V.l Ow.no bytesR cc) :: ((V.s (Go.Value.int .i64 ca)) :: ((V.s (Go.Value.int .i64 cs)) :: [])))) :: []) ((V.pb 0 0) :: [])))) ((St.nx (St.mk (((V.pb 0 0) :: []) ++ (List.replicate ((Go.Func.ntmps F.s_l01Cur_req) - (List.length ((V.io ((V.l Ow.no bytesR cc) :: ((V.s (Go.Value.int .i64 ca)) :: ((V.s (Go.Value.int .i64 cs)) :: [])))) :: []))) V.x)) (Obs.put [] 0 (E.box ((V.l Ow.no bytesR cc) :: ((V.s (Go.Value.int .i64 ca)) :: ((V.s (Go.Value.int .i64 cs)) :: []))))) (24 * (List.length ((V.io ((V.l Ow.no bytesR cc) :: ((V.s (Go.Value.int .i64 ca)) :: ((V.s (Go.Value.int .i64 cs)) :: [])))) :: []))) (ptrs ((V.io ((V.l Ow.no bytesR cc) :: ((V.s (Go.Value.int .i64 ca)) :: ((V.s (Go.Value.int .i64 cs)) :: [])))) :: []) ((V.pb 0 0) :: [])))) + (256 * (Array.size (List.toArray ((Go.Oper.mk (Option.some 2) (Go.Op.alloc 39) 0 ("l09_requests.go:127") (List.toArray []) Option.none) :: []))))) (St.io (St.mk (((V.pb 0 0) :: []) ++ (List.replicate ((Go.Func.ntmps F.s_l01Cur_req) - (List.length ((V.io ((V.l Ow.no bytesR cc) :: ((V.s (Go.Value.int .i64 ca)) :: ((V.s (Go.Value.int .i64 cs)) :: [])))) :: []))) V.x)) (Obs.put [] 0 (E.box ((V.l Ow.no bytesR cc) :: ((V.s (Go.Value.int .i64 ca)) :: ((V.s (Go.Value.int .i64 cs)) :: []))))) (24 * (List.length ((V.io ((V.l Ow.no bytesR cc) :: ((V.s (Go.Value.int .i64 ca)) :: ((V.s (Go.Value.int .i64 cs)) :: [])))) :: []))) (ptrs ((V.io ((V.l Ow.no bytesR cc) :: ((V.s (Go.Value.int .i64 ca)) :: ((V.s (Go.Value.int .i64 cs)) :: [])))) :: []) ((V.pb 0 0) :: []))))) ((St.nx (St.mk (((V.pb 0 0) :: []) ++ (List.replicate ((Go.Func.ntmps F.s_l01Cur_req) - (List.length ((V.io ((V.l Ow.no bytesR cc) :: ((V.s (Go.Value.int .i64 ca)) :: ((V.s (Go.Value.int .i64 cs)) :: [])))) :: []))) V.x)) (Obs.put [] 0 (E.box ((V.l Ow.no bytesR cc) :: ((V.s (Go.Value.int .i64 ca)) :: ((V.s (Go.Value.int .i64 cs)) :: []))))) (24 * (List.length ((V.io ((V.l Ow.no bytesR cc) :: ((V.s (Go.Value.int .i64 ca)) :: ((V.s (Go.Value.int .i64 cs)) :: [])))) :: []))) (ptrs ((V.io ((V.l Ow.no bytesR cc) :: ((V.s (Go.Value.int .i64 ca)) :: ((V.s (Go.Value.int .i64 cs)) :: [])))) :: []) ((V.pb 0 0) :: [])))) + (256 * 0)) (E.box (Ty.zero (Ty.mk Ds.st 6 true ((V.s (Go.Value.int .i64 (0 : Int))) :: ((V.s (Go.Value.int .i64 (0 : Int))) :: ((V.s (Go.Value.int .i64 (0 : Int))) :: ((V.s (Go.Value.int .i64 (0 : Int))) :: ((V.s (Go.Value.int .i64 (0 : Int))) :: (V.nl :: [])))))) 8 ((0, (1, false)) :: ((1, (1, false)) :: ((2, (1, false)) :: ((3, (1, false)) :: ((4, (1, false)) :: ((5, (1, false)) :: [])))))) (Rw.cons (Cc.int .i64) (Rw.cons (Cc.int .i64) (Rw.cons (Cc.int .i64) (Rw.cons (Cc.int .i64) (Rw.cons (Cc.int .i64) (Rw.one (Cc.sl (Rw.one (Cc.int .u8))))))))) false)))) (Go.Oper.dst (GetElem.getElem (List.toArray ((Go.Oper.mk (Option.some 2) (Go.Op.alloc 39) 0 ("l09_requests.go:127") (List.toArray []) Option.none) :: [])) 0 (Nat.le_of_ble_eq_true rfl))) (V.pb ((St.nx (St.mk (((V.pb 0 0) :: []) ++ (List.replicate ((Go.Func.ntmps F.s_l01Cur_req) - (List.length ((V.io ((V.l Ow.no bytesR cc) :: ((V.s (Go.Value.int .i64 ca)) :: ((V.s (Go.Value.int .i64 cs)) :: [])))) :: []))) V.x)) (Obs.put [] 0 (E.box ((V.l Ow.no bytesR cc) :: ((V.s (Go.Value.int .i64 ca)) :: ((V.s (Go.Value.int .i64 cs)) :: []))))) (24 * (List.length ((V.io ((V.l Ow.no bytesR cc) :: ((V.s (Go.Value.int .i64 ca)) :: ((V.s (Go.Value.int .i64 cs)) :: [])))) :: []))) (ptrs ((V.io ((V.l Ow.no bytesR cc) :: ((V.s (Go.Value.int .i64 ca)) :: ((V.s (Go.Value.int .i64 cs)) :: [])))) :: []) ((V.pb 0 0) :: [])))) + (256 * 0)) 0))) + (256 * 9)), (.box [(.s (.int .i64 (List.getD lit_s_l01Cur_req_0 (Int.toNat y0) (0 : Int)))), (.s (.int .i64 (IntKind.wrap .i64 ((1 : Int) + y3)))), (.s (.int .i64 (0 : Int))), (.s (.int .i64 (0 : Int))), (.s (.int .i64 (0 : Int))), .nl]))], nx := 3096, io := [(.pb 0 0)] }
noncomputable def T_s_l01Cur_req_1 (cc : List Int) (ca : Int) (cs : Int) (j : Int → Int → Int → Int → Int → Int → Option Ret) (K : Ret → Option Ret) : Option Ret := (meet ((meet ((B_s_l01Cur_pick cc ca cs (19 : Int) (fun y0 y1 y2 => (bif ((decide ((0 : Int) ≤ y0)) && (decide (y0 < (((List.length lit_s_l01Cur_req_0) : Nat) : Int)))) then (meet ((mt ((B_s_l01Cur_pick cc y1 y2 (3 : Int) (fun y3 y4 y5 => (j y0 y1 y2 y3 y4 y5)))))) ((meet ((B_s_l01Cur_pick cc y1 y2 (3 : Int) (fun y3 y4 y5 => (mt ((j y0 y1 y2 y3 y4 y5)))))) ((mt ((B_s_l01Cur_pick cc y1 y2 (3 : Int) (fun y3 y4 y5 => (j y0 y1 y2 y3 y4 y5))))))))) else none)))) ((B_s_l01Cur_pick cc ca cs (19 : Int) (fun y0 y1 y2 => (bif ((decide ((0 : Int) ≤ y0)) && (decide (y0 < (((List.length lit_s_l01Cur_req_0) : Nat) : Int)))) then (mt ((B_s_l01Cur_pick cc y1 y2 (3 : Int) (fun y3 y4 y5 => (j y0 y1 y2 y3 y4 y5))))) else none)))))) ((meet ((B_s_l01Cur_pick cc ca cs (19 : Int) (fun y0 y1 y2 => (meet ((bif ((decide ((0 : Int) ≤ y0)) && (decide (y0 < (((List.length lit_s_l01Cur_req_0) : Nat) : Int)))) then (meet ((mt ((B_s_l01Cur_pick cc y1 y2 (3 : Int) (fun y3 y4 y5 => (j y0 y1 y2 y3 y4 y5)))))) ((meet ((B_s_l01Cur_pick cc y1 y2 (3 : Int) (fun y3 y4 y5 => (mt ((j y0 y1 y2 y3 y4 y5)))))) ((mt ((B_s_l01Cur_pick cc y1 y2 (3 : Int) (fun y3 y4 y5 => (j y0 y1 y2 y3 y4 y5))))))))) else none)) ((meet ((B_s_l01Cur_pick cc y1 y2 (3 : Int) (fun y3 y4 y5 => (meet ((bif ((decide ((0 : Int) ≤ y0)) && (decide (y0 < (((List.length lit_s_l01Cur_req_0) : Nat) : Int)))) then (mt ((j y0 y1 y2 y3 y4 y5))) else none)) ((bif ((decide ((0 : Int) ≤ y0)) && (decide (y0 < (((List.length lit_s_l01Cur_req_0) : Nat) : Int)))) then (j y0 y1 y2 y3 y4 y5) else none)))))) ((meet ((bif ((decide ((0 : Int) ≤ y0)) && (decide (y0 < (((List.length lit_s_l01Cur_req_0) : Nat) : Int)))) then (mt ((B_s_l01Cur_pick cc y1 y2 (3 : Int) (fun y3 y4 y5 => (j y0 y1 y2 y3 y4 y5))))) else none)) ((B_s_l01Cur_pick cc y1 y2 (3 : Int) (fun y3 y4 y5 => (bif ((decide ((0 : Int) ≤ y0)) && (decide (y0 < (((List.length lit_s_l01Cur_req_0) : Nat) : Int)))) then (j y0 y1 y2 y3 y4 y5) else none)))))))))))) ((meet ((B_s_l01Cur_pick cc ca cs (19 : Int) (fun y0 y1 y2 => (bif ((decide ((0 : Int) ≤ y0)) && (decide (y0 < (((List.length lit_s_l01Cur_req_0) : Nat) : Int)))) then (mt ((B_s_l01Cur_pick cc y1 y2 (3 : Int) (fun y3 y4 y5 => (j y0 y1 y2 y3 y4 y5))))) else none)))) ((B_s_l01Cur_pick cc ca cs (19 : Int) (fun y0 y1 y2 => (meet ((bif ((decide ((0 : Int) ≤ y0)) && (decide (y0 < (((List.length lit_s_l01Cur_req_0) : Nat) : Int)))) then (mt ((B_s_l01Cur_pick cc y1 y2 (3 : Int) (fun y3 y4 y5 => (j y0 y1 y2 y3 y4 y5))))) else none)) ((B_s_l01Cur_pick cc y1 y2 (3 : Int) (fun y3 y4 y5 => (bif ((decide ((0 : Int) ≤ y0)) && (decide (y0 < (((List.length lit_s_l01Cur_req_0) : Nat) : Int)))) then (j y0 y1 y2 y3 y4 y5) else none)))))))))))))
noncomputable def T_s_l01Cur_req_2 (cc : List Int) (ca : Int) (cs : Int) (y0 : Int) (y1 : Int) (y2 : Int) (y3 : Int) (y4 : Int) (y5 : Int) (K : Ret → Option Ret) : Option Ret := (B_s_l01Cur_pick cc y4 y5 (12 : Int) (fun y6 y7 y8 => (bif ((List.getD lit_s_l01Cur_req_0 (Int.toNat y0) (0 : Int)) == (3 : Int)) then (B_s_l01Cur_text cc y7 y8 (5 : Int) (fun y9 y10 y11 => K ((.a [(.s (.int .i64 (List.getD lit_s_l01Cur_req_0 (Int.toNat y0) (0 : Int)))), (.s (.int .i64 (IntKind.wrap .i64 ((1 : Int) + y3)))), (.s (.int .i64 y6)), (.s (.int .i64 (0 : Int))), (.s (.int .i64 (0 : Int))), (.l .deep bytesR y9)]), [(.io [(.l .no bytesR cc), (.s (.int .i64 y10)), (.s (.int .i64 y11))])]))) else (bif ((List.getD lit_s_l01Cur_req_0 (Int.toNat y0) (0 : Int)) == (4 : Int)) then (bif ((List.getD lit_s_l01Cur_req_0 (Int.toNat y0) (0 : Int)) == (4 : Int)) then (B_s_l01Cur_pick cc y7 y8 (5 : Int) (fun y12 y13 y14 => K ((.a [(.s (.int .i64 (List.getD lit_s_l01Cur_req_0 (Int.toNat y0) (0 : Int)))), (.s (.int .i64 (IntKind.wrap .i64 ((1 : Int) + y3)))), (.s (.int .i64 y6)), (.s (.int .i64 (IntKind.wrap .i64 (y6 + y12)))), (.s (.int .i64 (0 : Int))), (.l .deep bytesR ([] : List Int))]), [(.io [(.l .no bytesR cc), (.s (.int .i64 y13)), (.s (.int .i64 y14))])]))) else (bif ((List.getD lit_s_l01Cur_req_0 (Int.toNat y0) (0 : Int)) == (5 : Int)) then (B_s_l01Cur_pick cc y7 y8 (5 : Int) (fun y15 y16 y17 => (B_s_l01Cur_text cc y16 y17 (5 : Int) (fun y18 y19 y20 => K ((.a [(.s (.int .i64 (List.getD lit_s_l01Cur_req_0 (Int.toNat y0) (0 : Int)))), (.s (.int .i64 (IntKind.wrap .i64 ((1 : Int) + y3)))), (.s (.int .i64 y6)), (.s (.int .i64 (IntKind.wrap .i64 (y6 + y15)))), (.s (.int .i64 (0 : Int))), (.l .deep bytesR y18)]), [(.io [(.l .no bytesR cc), (.s (.int .i64 y19)), (.s (.int .i64 y20))])]))))) else (bif ((List.getD lit_s_l01Cur_req_0 (Int.toNat y0) (0 : Int)) == (7 : Int)) then (bif ((List.getD lit_s_l01Cur_req_0 (Int.toNat y0) (0 : Int)) == (7 : Int)) then (B_s_l01Cur_once cc y7 y8 (3 : Int) (fun y21 y22 y23 => (bif y21 then K ((.a [(.s (.int .i64 (List.getD lit_s_l01Cur_req_0 (Int.toNat y0) (0 : Int)))), (.s (.int .i64 (IntKind.wrap .i64 ((1 : Int) + y3)))), (.s (.int .i64 y6)), (.s (.int .i64 (0 : Int))), (.s (.int .i64 (0 : Int))), (.l .no bytesR ((97 : Int) :: ((98 : Int) :: ([] : List Int))))]), [(.io [(.l .no bytesR cc), (.s (.int .i64 y22)), (.s (.int .i64 y23))])]) else K ((.a [(.s (.int .i64 (List.getD lit_s_l01Cur_req_0 (Int.toNat y0) (0 : Int)))), (.s (.int .i64 (IntKind.wrap .i64 ((1 : Int) + y3)))), (.s (.int .i64 y6)), (.s (.int .i64 (0 : Int))), (.s (.int .i64 (0 : Int))), (.l .no bytesR ((97 : Int) :: ([] : List Int)))]), [(.io [(.l .no bytesR cc), (.s (.int .i64 y22)), (.s (.int .i64 y23))])])))) else (bif ((List.getD lit_s_l01Cur_req_0 (Int.toNat y0) (0 : Int)) == (9 : Int)) then K ((.a [(.s (.int .i64 (List.getD lit_s_l01Cur_req_0 (Int.toNat y0) (0 : Int)))), (.s (.int .i64 (IntKind.wrap .i64 ((1 : Int) + y3)))), (.s (.int .i64 y6)), (.s (.int .i64 (0 : Int))), (.s (.int .i64 (0 : Int))), (.l .deep bytesR ([] : List Int))]), [(.io [(.l .no bytesR cc), (.s (.int .i64 y7)), (.s (.int .i64 y8))])]) else (bif ((List.getD lit_s_l01Cur_req_0 (Int.toNat y0) (0 : Int)) == (10 : Int)) then (B_s_l01Cur_pick cc y7 y8 (3 : Int) (fun y24 y25 y26 => (B_s_l01Cur_pick cc y25 y26 (5 : Int) (fun y27 y28 y29 => K ((.a [(.s (.int .i64 (List.getD lit_s_l01Cur_req_0 (Int.toNat y0) (0 : Int)))), (.s (.int .i64 (IntKind.wrap .i64 ((1 : Int) + y3)))), (.s (.int .i64 y24)), (.s (.int .i64 y27)), (.s (.int .i64 (0 : Int))), (.l .deep bytesR ([] : List Int))]), [(.io [(.l .no bytesR cc), (.s (.int .i64 y28)), (.s (.int .i64 y29))])]))))) else (bif ((List.getD lit_s_l01Cur_req_0 (Int.toNat y0) (0 : Int)) == (12 : Int)) then (bif ((List.getD lit_s_l01Cur_req_0 (Int.toNat y0) (0 : Int)) == (12 : Int)) then (B_s_l01Cur_pick cc y7 y8 (4 : Int) (fun y30 y31 y32 => (B_s_l01Cur_pick cc y31 y32 (9 : Int) (fun y33 y34 y35 => K ((.a [(.s (.int .i64 (List.getD lit_s_l01Cur_req_0 (Int.toNat y0) (0 : Int)))), (.s (.int .i64 (IntKind.wrap .i64 ((1 : Int) + y3)))), (.s (.int .i64 y6)), (.s (.int .i64 (IntKind.wrap .i64 ((IntKind.wrap .i64 (y6 + (1 : Int))) + y30)))), (.s (.int .i64 y33)), (.l .deep bytesR ([] : List Int))]), [(.io [(.l .no bytesR cc), (.s (.int .i64 y34)), (.s (.int .i64 y35))])]))))) else K ((.a [(.s (.int .i64 (List.getD lit_s_l01Cur_req_0 (Int.toNat y0) (0 : Int)))), (.s (.int .i64 (IntKind.wrap .i64 ((1 : Int) + y3)))), (.s (.int .i64 (0 : Int))), (.s (.int .i64 (0 : Int))), (.s (.int .i64 (0 : Int))), (.l .deep bytesR ([] : List Int))]), [(.io [(.l .no bytesR cc), (.s (.int .i64 y7)), (.s (.int .i64 y8))])])) else (bif ((List.getD lit_s_l01Cur_req_0 (Int.toNat y0) (0 : Int)) == (13 : Int)) then (B_s_l01Cur_pick cc y7 y8 (4 : Int) (fun y36 y37 y38 => (B_s_l01Cur_pick cc y37 y38 (9 : Int) (fun y39 y40 y41 => K ((.a [(.s (.int .i64 (List.getD lit_s_l01Cur_req_0 (Int.toNat y0) (0 : Int)))), (.s (.int .i64 (IntKind.wrap .i64 ((1 : Int) + y3)))), (.s (.int .i64 y6)), (.s (.int .i64 (IntKind.wrap .i64 ((IntKind.wrap .i64 (y6 + (1 : Int))) + y36)))), (.s (.int .i64 y39)), (.l .deep bytesR ([] : List Int))]), [(.io [(.l .no bytesR cc), (.s (.int .i64 y40)), (.s (.int .i64 y41))])]))))) else K ((.a [(.s (.int .i64 (List.getD lit_s_l01Cur_req_0 (Int.toNat y0) (0 : Int)))), (.s (.int .i64 (IntKind.wrap .i64 ((1 : Int) + y3)))), (.s (.int .i64 (0 : Int))), (.s (.int .i64 (0 : Int))), (.s (.int .i64 (0 : Int))), (.l .deep bytesR ([] : List Int))]), [(.io [(.l .no bytesR cc), (.s (.int .i64 y7)), (.s (.int .i64 y8))])])))))) else (bif ((List.getD lit_s_l01Cur_req_0 (Int.toNat y0) (0 : Int)) == (8 : Int)) then (B_s_l01Cur_once cc y7 y8 (3 : Int) (fun y42 y43 y44 => (bif y42 then K ((.a [(.s (.int .i64 (List.getD lit_s_l01Cur_req_0 (Int.toNat y0) (0 : Int)))), (.s (.int .i64 (IntKind.wrap .i64 ((1 : Int) + y3)))), (.s (.int .i64 y6)), (.s (.int .i64 (0 : Int))), (.s (.int .i64 (0 : Int))), (.l .no bytesR ((97 : Int) :: ((98 : Int) :: ([] : List Int))))]), [(.io [(.l .no bytesR cc), (.s (.int .i64 y43)), (.s (.int .i64 y44))])]) else K ((.a [(.s (.int .i64 (List.getD lit_s_l01Cur_req_0 (Int.toNat y0) (0 : Int)))), (.s (.int .i64 (IntKind.wrap .i64 ((1 : Int) + y3)))), (.s (.int .i64 y6)), (.s (.int .i64 (0 : Int))), (.s (.int .i64 (0 : Int))), (.l .no bytesR ((97 : Int) :: ([] : List Int)))]), [(.io [(.l .no bytesR cc), (.s (.int .i64 y43)), (.s (.int .i64 y44))])])))) else (bif ((List.getD lit_s_l01Cur_req_0 (Int.toNat y0) (0 : Int)) == (9 : Int)) then K ((.a [(.s (.int .i64 (List.getD lit_s_l01Cur_req_0 (Int.toNat y0) (0 : Int)))), (.s (.int .i64 (IntKind.wrap .i64 ((1 : Int) + y3)))), (.s (.int .i64 y6)), (.s (.int .i64 (0 : Int))), (.s (.int .i64 (0 : Int))), (.l .deep bytesR ([] : List Int))]), [(.io [(.l .no bytesR cc), (.s (.int .i64 y7)), (.s (.int .i64 y8))])]) else (bif ((List.getD lit_s_l01Cur_req_0 (Int.toNat y0) (0 : Int)) == (10 : Int)) then (B_s_l01Cur_pick cc y7 y8 (3 : Int) (fun y45 y46 y47 => (B_s_l01Cur_pick cc y46 y47 (5 : Int) (fun y48 y49 y50 => K ((.a [(.s (.int .i64 (List.getD lit_s_l01Cur_req_0 (Int.toNat y0) (0 : Int)))), (.s (.int .i64 (IntKind.wrap .i64 ((1 : Int) + y3)))), (.s (.int .i64 y45)), (.s (.int .i64 y48)), (.s (.int .i64 (0 : Int))), (.l .deep bytesR ([] : List Int))]), [(.io [(.l .no bytesR cc), (.s (.int .i64 y49)), (.s (.int .i64 y50))])]))))) else (bif ((List.getD lit_s_l01Cur_req_0 (Int.toNat y0) (0 : Int)) == (12 : Int)) then (bif ((List.getD lit_s_l01Cur_req_0 (Int.toNat y0) (0 : Int)) == (12 : Int)) then (B_s_l01Cur_pick cc y7 y8 (4 : Int) (fun y51 y52 y53 => (B_s_l01Cur_pick cc y52 y53 (9 : Int) (fun y54 y55 y56 => K ((.a [(.s (.int .i64 (List.getD lit_s_l01Cur_req_0 (Int.toNat y0) (0 : Int)))), (.s (.int .i64 (IntKind.wrap .i64 ((1 : Int) + y3)))), (.s (.int .i64 y6)), (.s (.int .i64 (IntKind.wrap .i64 ((IntKind.wrap .i64 (y6 + (1 : Int))) + y51)))), (.s (.int .i64 y54)), (.l .deep bytesR ([] : List Int))]), [(.io [(.l .no bytesR cc), (.s (.int .i64 y55)), (.s (.int .i64 y56))])]))))) else K ((.a [(.s (.int .i64 (List.getD lit_s_l01Cur_req_0 (Int.toNat y0) (0 : Int)))), (.s (.int .i64 (IntKind.wrap .i64 ((1 : Int) + y3)))), (.s (.int .i64 (0 : Int))), (.s (.int .i64 (0 : Int))), (.s (.int .i64 (0 : Int))), (.l .deep bytesR ([] : List Int))]), [(.io [(.l .no bytesR cc), (.s (.int .i64 y7)), (.s (.int .i64 y8))])])) else (bif ((List.getD lit_s_l01Cur_req_0 (Int.toNat y0) (0 : Int)) == (13 : Int)) then (B_s_l01Cur_pick cc y7 y8 (4 : Int) (fun y57 y58 y59 => (B_s_l01Cur_pick cc y58 y59 (9 : Int) (fun y60 y61 y62 => K ((.a [(.s (.int .i64 (List.getD lit_s_l01Cur_req_0 (Int.toNat y0) (0 : Int)))), (.s (.int .i64 (IntKind.wrap .i64 ((1 : Int) + y3)))), (.s (.int .i64 y6)), (.s (.int .i64 (IntKind.wrap .i64 ((IntKind.wrap .i64 (y6 + (1 : Int))) + y57)))), (.s (.int .i64 y60)), (.l .deep bytesR ([] : List Int))]), [(.io [(.l .no bytesR cc), (.s (.int .i64 y61)), (.s (.int .i64 y62))])]))))) else K ((.a [(.s (.int .i64 (List.getD lit_s_l01Cur_req_0 (Int.toNat y0) (0 : Int)))), (.s (.int .i64 (IntKind.wrap .i64 ((1 : Int) + y3)))), (.s (.int .i64 (0 : Int))), (.s (.int .i64 (0 : Int))), (.s (.int .i64 (0 : Int))), (.l .deep bytesR ([] : List Int))]), [(.io [(.l .no bytesR cc), (.s (.int .i64 y7)), (.s (.int .i64 y8))])]))))))))) else (bif ((List.getD lit_s_l01Cur_req_0 (Int.toNat y0) (0 : Int)) == (6 : Int)) then (bif ((List.getD lit_s_l01Cur_req_0 (Int.toNat y0) (0 : Int)) == (6 : Int)) then (B_s_l01Cur_pick cc y7 y8 (5 : Int) (fun y63 y64 y65 => K ((.a [(.s (.int .i64 (List.getD lit_s_l01Cur_req_0 (Int.toNat y0) (0 : Int)))), (.s (.int .i64 (IntKind.wrap .i64 ((1 : Int) + y3)))), (.s (.int .i64 y6)), (.s (.int .i64 (IntKind.wrap .i64 (y6 + y63)))), (.s (.int .i64 (0 : Int))), (.l .deep bytesR ([] : List Int))]), [(.io [(.l .no bytesR cc), (.s (.int .i64 y64)), (.s (.int .i64 y65))])]))) else (bif ((List.getD lit_s_l01Cur_req_0 (Int.toNat y0) (0 : Int)) == (5 : Int)) then (B_s_l01Cur_pick cc y7 y8 (5 : Int) (fun y66 y67 y68 => (B_s_l01Cur_text cc y67 y68 (5 : Int) (fun y69 y70 y71 => K ((.a [(.s (.int .i64 (List.getD lit_s_l01Cur_req_0 (Int.toNat y0) (0 : Int)))), (.s (.int .i64 (IntKind.wrap .i64 ((1 : Int) + y3)))), (.s (.int .i64 y6)), (.s (.int .i64 (IntKind.wrap .i64 (y6 + y66)))), (.s (.int .i64 (0 : Int))), (.l .deep bytesR y69)]), [(.io [(.l .no bytesR cc), (.s (.int .i64 y70)), (.s (.int .i64 y71))])]))))) else (bif ((List.getD lit_s_l01Cur_req_0 (Int.toNat y0) (0 : Int)) == (7 : Int)) then (bif ((List.getD lit_s_l01Cur_req_0 (Int.toNat y0) (0 : Int)) == (7 : Int)) then (B_s_l01Cur_once cc y7 y8 (3 : Int) (fun y72 y73 y74 => (bif y72 then K ((.a [(.s (.int .i64 (List.getD lit_s_l01Cur_req_0 (Int.toNat y0) (0 : Int)))), (.s (.int .i64 (IntKind.wrap .i64 ((1 : Int) + y3)))), (.s (.int .i64 y6)), (.s (.int .i64 (0 : Int))), (.s (.int .i64 (0 : Int))), (.l .no bytesR ((97 : Int) :: ((98 : Int) :: ([] : List Int))))]), [(.io [(.l .no bytesR cc), (.s (.int .i64 y73)), (.s (.int .i64 y74))])]) else K ((.a [(.s (.int .i64 (List.getD lit_s_l01Cur_req_0 (Int.toNat y0) (0 : Int)))), (.s (.int .i64 (IntKind.wrap .i64 ((1 : Int) + y3)))), (.s (.int .i64 y6)), (.s (.int .i64 (0 : Int))), (.s (.int .i64 (0 : Int))), (.l .no bytesR ((97 : Int) :: ([] : List Int)))]), [(.io [(.l .no bytesR cc), (.s (.int .i64 y73)), (.s (.int .i64 y74))])])))) else (bif ((List.getD lit_s_l01Cur_req_0 (Int.toNat y0) (0 : Int)) == (9 : Int)) then K ((.a [(.s (.int .i64 (List.getD lit_s_l01Cur_req_0 (Int.toNat y0) (0 : Int)))), (.s (.int .i64 (IntKind.wrap .i64 ((1 : Int) + y3)))), (.s (.int .i64 y6)), (.s (.int .i64 (0 : Int))), (.s (.int .i64 (0 : Int))), (.l .deep bytesR ([] : List Int))]), [(.io [(.l .no bytesR cc), (.s (.int .i64 y7)), (.s (.int .i64 y8))])]) else (bif ((List.getD lit_s_l01Cur_req_0 (Int.toNat y0) (0 : Int)) == (10 : Int)) then (B_s_l01Cur_pick cc y7 y8 (3 : Int) (fun y75 y76 y77 => (B_s_l01Cur_pick cc y76 y77 (5 : Int) (fun y78 y79 y80 => K ((.a [(.s (.int .i64 (List.getD lit_s_l01Cur_req_0 (Int.toNat y0) (0 : Int)))), (.s (.int .i64 (IntKind.wrap .i64 ((1 : Int) + y3)))), (.s (.int .i64 y75)), (.s (.int .i64 y78)), (.s (.int .i64 (0 : Int))), (.l .deep bytesR ([] : List Int))]), [(.io [(.l .no bytesR cc), (.s (.int .i64 y79)), (.s (.int .i64 y80))])]))))) else (bif ((List.getD lit_s_l01Cur_req_0 (Int.toNat y0) (0 : Int)) == (12 : Int)) then (bif ((List.getD lit_s_l01Cur_req_0 (Int.toNat y0) (0 : Int)) == (12 : Int)) then (B_s_l01Cur_pick cc y7 y8 (4 : Int) (fun y81 y82 y83 => (B_s_l01Cur_pick cc y82 y83 (9 : Int) (fun y84 y85 y86 => K ((.a [(.s (.int .i64 (List.getD lit_s_l01Cur_req_0 (Int.toNat y0) (0 : Int)))), (.s (.int .i64 (IntKind.wrap .i64 ((1 : Int) + y3)))), (.s (.int .i64 y6)), (.s (.int .i64 (IntKind.wrap .i64 ((IntKind.wrap .i64 (y6 + (1 : Int))) + y81)))), (.s (.int .i64 y84)), (.l .deep bytesR ([] : List Int))]), [(.io [(.l .no bytesR cc), (.s (.int .i64 y85)), (.s (.int .i64 y86))])]))))) else K ((.a [(.s (.int .i64 (List.getD lit_s_l01Cur_req_0 (Int.toNat y0) (0 : Int)))), (.s (.int .i64 (IntKind.wrap .i64 ((1 : Int) + y3)))), (.s (.int .i64 (0 : Int))), (.s (.int .i64 (0 : Int))), (.s (.int .i64 (0 : Int))), (.l .deep bytesR ([] : List Int))]), [(.io [(.l .no bytesR cc), (.s (.int .i64 y7)), (.s (.int .i64 y8))])])) else (bif ((List.getD lit_s_l01Cur_req_0 (Int.toNat y0) (0 : Int)) == (13 : Int)) then (B_s_l01Cur_pick cc y7 y8 (4 : Int) (fun y87 y88 y89 => (B_s_l01Cur_pick cc y88 y89 (9 : Int) (fun y90 y91 y92 => K ((.a [(.s (.int .i64 (List.getD lit_s_l01Cur_req_0 (Int.toNat y0) (0 : Int)))), (.s (.int .i64 (IntKind.wrap .i64 ((1 : Int) + y3)))), (.s (.int .i64 y6)), (.s (.int .i64 (IntKind.wrap .i64 ((IntKind.wrap .i64 (y6 + (1 : Int))) + y87)))), (.s (.int .i64 y90)), (.l .deep bytesR ([] : List Int))]), [(.io [(.l .no bytesR cc), (.s (.int .i64 y91)), (.s (.int .i64 y92))])]))))) else K ((.a [(.s (.int .i64 (List.getD lit_s_l01Cur_req_0 (Int.toNat y0) (0 : Int)))), (.s (.int .i64 (IntKind.wrap .i64 ((1 : Int) + y3)))), (.s (.int .i64 (0 : Int))), (.s (.int .i64 (0 : Int))), (.s (.int .i64 (0 : Int))), (.l .deep bytesR ([] : List Int))]), [(.io [(.l .no bytesR cc), (.s (.int .i64 y7)), (.s (.int .i64 y8))])])))))) else (bif ((List.getD lit_s_l01Cur_req_0 (Int.toNat y0) (0 : Int)) == (8 : Int)) then (B_s_l01Cur_once cc y7 y8 (3 : Int) (fun y93 y94 y95 => (bif y93 then K ((.a [(.s (.int .i64 (List.getD lit_s_l01Cur_req_0 (Int.toNat y0) (0 : Int)))), (.s (.int .i64 (IntKind.wrap .i64 ((1 : Int) + y3)))), (.s (.int .i64 y6)), (.s (.int .i64 (0 : Int))), (.s (.int .i64 (0 : Int))), (.l .no bytesR ((97 : Int) :: ((98 : Int) :: ([] : List Int))))]), [(.io [(.l .no bytesR cc), (.s (.int .i64 y94)), (.s (.int .i64 y95))])]) else K ((.a [(.s (.int .i64 (List.getD lit_s_l01Cur_req_0 (Int.toNat y0) (0 : Int)))), (.s (.int .i64 (IntKind.wrap .i64 ((1 : Int) + y3)))), (.s (.int .i64 y6)), (.s (.int .i64 (0 : Int))), (.s (.int .i64 (0 : Int))), (.l .no bytesR ((97 : Int) :: ([] : List Int)))]), [(.io [(.l .no bytesR cc), (.s (.int .i64 y94)), (.s (.int .i64 y95))])])))) else (bif ((List.getD lit_s_l01Cur_req_0 (Int.toNat y0) (0 : Int)) == (9 : Int)) then K ((.a [(.s (.int .i64 (List.getD lit_s_l01Cur_req_0 (Int.toNat y0) (0 : Int)))), (.s (.int .i64 (IntKind.wrap .i64 ((1 : Int) + y3)))), (.s (.int .i64 y6)), (.s (.int .i64 (0 : Int))), (.s (.int .i64 (0 : Int))), (.l .deep bytesR ([] : List Int))]), [(.io [(.l .no bytesR cc), (.s (.int .i64 y7)), (.s (.int .i64 y8))])]) else (bif ((List.getD lit_s_l01Cur_req_0 (Int.toNat y0) (0 : Int)) == (10 : Int)) then (B_s_l01Cur_pick cc y7 y8 (3 : Int) (fun y96 y97 y98 => (B_s_l01Cur_pick cc y97 y98 (5 : Int) (fun y99 y100 y101 => K ((.a [(.s (.int .i64 (List.getD lit_s_l01Cur_req_0 (Int.toNat y0) (0 : Int)))), (.s (.int .i64 (IntKind.wrap .i64 ((1 : Int) + y3)))), (.s (.int .i64 y96)), (.s (.int .i64 y99)), (.s (.int .i64 (0 : Int))), (.l .deep bytesR ([] : List Int))]), [(.io [(.l .no bytesR cc), (.s (.int .i64 y100)), (.s (.int .i64 y101))])]))))) else (bif ((List.getD lit_s_l01Cur_req_0 (Int.toNat y0) (0 : Int)) == (12 : Int)) then (bif ((List.getD lit_s_l01Cur_req_0 (Int.toNat y0) (0 : Int)) == (12 : Int)) then (B_s_l01Cur_pick cc y7 y8 (4 : Int) (fun y102 y103 y104 => (B_s_l01Cur_pick cc y103 y104 (9 : Int) (fun y105 y106 y107 => K ((.a [(.s (.int .i64 (List.getD lit_s_l01Cur_req_0 (Int.toNat y0) (0 : Int)))), (.s (.int .i64 (IntKind.wrap .i64 ((1 : Int) + y3)))), (.s (.int .i64 y6)), (.s (.int .i64 (IntKind.wrap .i64 ((IntKind.wrap .i64 (y6 + (1 : Int))) + y102)))), (.s (.int .i64 y105)), (.l .deep bytesR ([] : List Int))]), [(.io [(.l .no bytesR cc), (.s (.int .i64 y106)), (.s (.int .i64 y107))])]))))) else K ((.a [(.s (.int .i64 (List.getD lit_s_l01Cur_req_0 (Int.toNat y0) (0 : Int)))), (.s (.int .i64 (IntKind.wrap .i64 ((1 : Int) + y3)))), (.s (.int .i64 (0 : Int))), (.s (.int .i64 (0 : Int))), (.s (.int .i64 (0 : Int))), (.l .deep bytesR ([] : List Int))]), [(.io [(.l .no bytesR cc), (.s (.int .i64 y7)), (.s (.int .i64 y8))])])) else (bif ((List.getD lit_s_l01Cur_req_0 (Int.toNat y0) (0 : Int)) == (13 : Int)) then (B_s_l01Cur_pick cc y7 y8 (4 : Int) (fun y108 y109 y110 => (B_s_l01Cur_pick cc y109 y110 (9 : Int) (fun y111 y112 y113 => K ((.a [(.s (.int .i64 (List.getD lit_s_l01Cur_req_0 (Int.toNat y0) (0 : Int)))), (.s (.int .i64 (IntKind.wrap .i64 ((1 : Int) + y3)))), (.s (.int .i64 y6)), (.s (.int .i64 (IntKind.wrap .i64 ((IntKind.wrap .i64 (y6 + (1 : Int))) + y108)))), (.s (.int .i64 y111)), (.l .deep bytesR ([] : List Int))]), [(.io [(.l .no bytesR cc), (.s (.int .i64 y112)), (.s (.int .i64 y113))])]))))) else K ((.a [(.s (.int .i64 (List.getD lit_s_l01Cur_req_0 (Int.toNat y0) (0 : Int)))), (.s (.int .i64 (IntKind.wrap .i64 ((1 : Int) + y3)))), (.s (.int .i64 (0 : Int))), (.s (.int .i64 (0 : Int))), (.s (.int .i64 (0 : Int))), (.l .deep bytesR ([] : List Int))]), [(.io [(.l .no bytesR cc), (.s (.int .i64 y7)), (.s (.int .i64 y8))])]))))))))) else (bif ((List.getD lit_s_l01Cur_req_0 (Int.toNat y0) (0 : Int)) == (11 : Int)) then (bif ((List.getD lit_s_l01Cur_req_0 (Int.toNat y0) (0 : Int)) == (11 : Int)) then (B_s_l01Cur_pick cc y7 y8 (5 : Int) (fun y114 y115 y116 => K ((.a [(.s (.int .i64 (List.getD lit_s_l01Cur_req_0 (Int.toNat y0) (0 : Int)))), (.s (.int .i64 (IntKind.wrap .i64 ((1 : Int) + y3)))), (.s (.int .i64 y6)), (.s (.int .i64 (IntKind.wrap .i64 (y6 + y114)))), (.s (.int .i64 (0 : Int))), (.l .deep bytesR ([] : List Int))]), [(.io [(.l .no bytesR cc), (.s (.int .i64 y115)), (.s (.int .i64 y116))])]))) else (bif ((List.getD lit_s_l01Cur_req_0 (Int.toNat y0) (0 : Int)) == (5 : Int)) then (B_s_l01Cur_pick cc y7 y8 (5 : Int) (fun y117 y118 y119 => (B_s_l01Cur_text cc y118 y119 (5 : Int) (fun y120 y121 y122 => K ((.a [(.s (.int .i64 (List.getD lit_s_l01Cur_req_0 (Int.toNat y0) (0 : Int)))), (.s (.int .i64 (IntKind.wrap .i64 ((1 : Int) + y3)))), (.s (.int .i64 y6)), (.s (.int .i64 (IntKind.wrap .i64 (y6 + y117)))), (.s (.int .i64 (0 : Int))), (.l .deep bytesR y120)]), [(.io [(.l .no bytesR cc), (.s (.int .i64 y121)), (.s (.int .i64 y122))])]))))) else (bif ((List.getD lit_s_l01Cur_req_0 (Int.toNat y0) (0 : Int)) == (7 : Int)) then (bif ((List.getD lit_s_l01Cur_req_0 (Int.toNat y0) (0 : Int)) == (7 : Int)) then (B_s_l01Cur_once cc y7 y8 (3 : Int) (fun y123 y124 y125 => (bif y123 then K ((.a [(.s (.int .i64 (List.getD lit_s_l01Cur_req_0 (Int.toNat y0) (0 : Int)))), (.s (.int .i64 (IntKind.wrap .i64 ((1 : Int) + y3)))), (.s (.int .i64 y6)), (.s (.int .i64 (0 : Int))), (.s (.int .i64 (0 : Int))), (.l .no bytesR ((97 : Int) :: ((98 : Int) :: ([] : List Int))))]), [(.io [(.l .no bytesR cc), (.s (.int .i64 y124)), (.s (.int .i64 y125))])]) else K ((.a [(.s (.int .i64 (List.getD lit_s_l01Cur_req_0 (Int.toNat y0) (0 : Int)))), (.s (.int .i64 (IntKind.wrap .i64 ((1 : Int) + y3)))), (.s (.int .i64 y6)), (.s (.int .i64 (0 : Int))), (.s (.int .i64 (0 : Int))), (.l .no bytesR ((97 : Int) :: ([] : List Int)))]), [(.io [(.l .no bytesR cc), (.s (.int .i64 y124)), (.s (.int .i64 y125))])])))) else (bif ((List.getD lit_s_l01Cur_req_0 (Int.toNat y0) (0 : Int)) == (9 : Int)) then K ((.a [(.s (.int .i64 (List.getD lit_s_l01Cur_req_0 (Int.toNat y0) (0 : Int)))), (.s (.int .i64 (IntKind.wrap .i64 ((1 : Int) + y3)))), (.s (.int .i64 y6)), (.s (.int .i64 (0 : Int))), (.s (.int .i64 (0 : Int))), (.l .deep bytesR ([] : List Int))]), [(.io [(.l .no bytesR cc), (.s (.int .i64 y7)), (.s (.int .i64 y8))])]) else (bif ((List.getD lit_s_l01Cur_req_0 (Int.toNat y0) (0 : Int)) == (10 : Int)) then (B_s_l01Cur_pick cc y7 y8 (3 : Int) (fun y126 y127 y128 => (B_s_l01Cur_pick cc y127 y128 (5 : Int) (fun y129 y130 y131 => K ((.a [(.s (.int .i64 (List.getD lit_s_l01Cur_req_0 (Int.toNat y0) (0 : Int)))), (.s (.int .i64 (IntKind.wrap .i64 ((1 : Int) + y3)))), (.s (.int .i64 y126)), (.s (.int .i64 y129)), (.s (.int .i64 (0 : Int))), (.l .deep bytesR ([] : List Int))]), [(.io [(.l .no bytesR cc), (.s (.int .i64 y130)), (.s (.int .i64 y131))])]))))) else (bif ((List.getD lit_s_l01Cur_req_0 (Int.toNat y0) (0 : Int)) == (12 : Int)) then (bif ((List.getD lit_s_l01Cur_req_0 (Int.toNat y0) (0 : Int)) == (12 : Int)) then (B_s_l01Cur_pick cc y7 y8 (4 : Int) (fun y132 y133 y134 => (B_s_l01Cur_pick cc y133 y134 (9 : Int) (fun y135 y136 y137 => K ((.a [(.s (.int .i64 (List.getD lit_s_l01Cur_req_0 (Int.toNat y0) (0 : Int)))), (.s (.int .i64 (IntKind.wrap .i64 ((1 : Int) + y3)))), (.s (.int .i64 y6)), (.s (.int .i64 (IntKind.wrap .i64 ((IntKind.wrap .i64 (y6 + (1 : Int))) + y132)))), (.s (.int .i64 y135)), (.l .deep bytesR ([] : List Int))]), [(.io [(.l .no bytesR cc), (.s (.int .i64 y136)), (.s (.int .i64 y137))])]))))) else K ((.a [(.s (.int .i64 (List.getD lit_s_l01Cur_req_0 (Int.toNat y0) (0 : Int)))), (.s (.int .i64 (IntKind.wrap .i64 ((1 : Int) + y3)))), (.s (.int .i64 (0 : Int))), (.s (.int .i64 (0 : Int))), (.s (.int .i64 (0 : Int))), (.l .deep bytesR ([] : List Int))]), [(.io [(.l .no bytesR cc), (.s (.int .i64 y7)), (.s (.int .i64 y8))])])) else (bif ((List.getD lit_s_l01Cur_req_0 (Int.toNat y0) (0 : Int)) == (13 : Int)) then (B_s_l01Cur_pick cc y7 y8 (4 : Int) (fun y138 y139 y140 => (B_s_l01Cur_pick cc y139 y140 (9 : Int) (fun y141 y142 y143 => K ((.a [(.s (.int .i64 (List.getD lit_s_l01Cur_req_0 (Int.toNat y0) (0 : Int)))), (.s (.int .i64 (IntKind.wrap .i64 ((1 : Int) + y3)))), (.s (.int .i64 y6)), (.s (.int .i64 (IntKind.wrap .i64 ((IntKind.wrap .i64 (y6 + (1 : Int))) + y138)))), (.s (.int .i64 y141)), (.l .deep bytesR ([] : List Int))]), [(.io [(.l .no bytesR cc), (.s (.int .i64 y142)), (.s (.int .i64 y143))])]))))) else K ((.a [(.s (.int .i64 (List.getD lit_s_l01Cur_req_0 (Int.toNat y0) (0 : Int)))), (.s (.int .i64 (IntKind.wrap .i64 ((1 : Int) + y3)))), (.s (.int .i64 (0 : Int))), (.s (.int .i64 (0 : Int))), (.s (.int .i64 (0 : Int))), (.l .deep bytesR ([] : List Int))]), [(.io [(.l .no bytesR cc), (.s (.int .i64 y7)), (.s (.int .i64 y8))])])))))) else (bif ((List.getD lit_s_l01Cur_req_0 (Int.toNat y0) (0 : Int)) == (8 : Int)) then (B_s_l01Cur_once cc y7 y8 (3 : Int) (fun y144 y145 y146 => (bif y144 then K ((.a [(.s (.int .i64 (List.getD lit_s_l01Cur_req_0 (Int.toNat y0) (0 : Int)))), (.s (.int .i64 (IntKind.wrap .i64 ((1 : Int) + y3)))), (.s (.int .i64 y6)), (.s (.int .i64 (0 : Int))), (.s (.int .i64 (0 : Int))), (.l .no bytesR ((97 : Int) :: ((98 : Int) :: ([] : List Int))))]), [(.io [(.l .no bytesR cc), (.s (.int .i64 y145)), (.s (.int .i64 y146))])]) else K ((.a [(.s (.int .i64 (List.getD lit_s_l01Cur_req_0 (Int.toNat y0) (0 : Int)))), (.s (.int .i64 (IntKind.wrap .i64 ((1 : Int) + y3)))), (.s (.int .i64 y6)), (.s (.int .i64 (0 : Int))), (.s (.int .i64 (0 : Int))), (.l .no bytesR ((97 : Int) :: ([] : List Int)))]), [(.io [(.l .no bytesR cc), (.s (.int .i64 y145)), (.s (.int .i64 y146))])])))) else (bif ((List.getD lit_s_l01Cur_req_0 (Int.toNat y0) (0 : Int)) == (9 : Int)) then K ((.a [(.s (.int .i64 (List.getD lit_s_l01Cur_req_0 (Int.toNat y0) (0 : Int)))), (.s (.int .i64 (IntKind.wrap .i64 ((1 : Int) + y3)))), (.s (.int .i64 y6)), (.s (.int .i64 (0 : Int))), (.s (.int .i64 (0 : Int))), (.l .deep bytesR ([] : List Int))]), [(.io [(.l .no bytesR cc), (.s (.int .i64 y7)), (.s (.int .i64 y8))])]) else (bif ((List.getD lit_s_l01Cur_req_0 (Int.toNat y0) (0 : Int)) == (10 : Int)) then (B_s_l01Cur_pick cc y7 y8 (3 : Int) (fun y147 y148 y149 => (B_s_l01Cur_pick cc y148 y149 (5 : Int) (fun y150 y151 y152 => K ((.a [(.s (.int .i64 (List.getD lit_s_l01Cur_req_0 (Int.toNat y0) (0 : Int)))), (.s (.int .i64 (IntKind.wrap .i64 ((1 : Int) + y3)))), (.s (.int .i64 y147)), (.s (.int .i64 y150)), (.s (.int .i64 (0 : Int))), (.l .deep bytesR ([] : List Int))]), [(.io [(.l .no bytesR cc), (.s (.int .i64 y151)), (.s (.int .i64 y152))])]))))) else (bif ((List.getD lit_s_l01Cur_req_0 (Int.toNat y0) (0 : Int)) == (12 : Int)) then (bif ((List.getD lit_s_l01Cur_req_0 (Int.toNat y0) (0 : Int)) == (12 : Int)) then (B_s_l01Cur_pick cc y7 y8 (4 : Int) (fun y153 y154 y155 => (B_s_l01Cur_pick cc y154 y155 (9 : Int) (fun y156 y157 y158 => K ((.a [(.s (.int .i64 (List.getD lit_s_l01Cur_req_0 (Int.toNat y0) (0 : Int)))), (.s (.int .i64 (IntKind.wrap .i64 ((1 : Int) + y3)))), (.s (.int .i64 y6)), (.s (.int .i64 (IntKind.wrap .i64 ((IntKind.wrap .i64 (y6 + (1 : Int))) + y153)))), (.s (.int .i64 y156)), (.l .deep bytesR ([] : List Int))]), [(.io [(.l .no bytesR cc), (.s (.int .i64 y157)), (.s (.int .i64 y158))])]))))) else K ((.a [(.s (.int .i64 (List.getD lit_s_l01Cur_req_0 (Int.toNat y0) (0 : Int)))), (.s (.int .i64 (IntKind.wrap .i64 ((1 : Int) + y3)))), (.s (.int .i64 (0 : Int))), (.s (.int .i64 (0 : Int))), (.s (.int .i64 (0 : Int))), (.l .deep bytesR ([] : List Int))]), [(.io [(.l .no bytesR cc), (.s (.int .i64 y7)), (.s (.int .i64 y8))])])) else (bif ((List.getD lit_s_l01Cur_req_0 (Int.toNat y0) (0 : Int)) == (13 : Int)) then (B_s_l01Cur_pick cc y7 y8 (4 : Int) (fun y159 y160 y161 => (B_s_l01Cur_pick cc y160 y161 (9 : Int) (fun y162 y163 y164 => K ((.a [(.s (.int .i64 (List.getD lit_s_l01Cur_req_0 (Int.toNat y0) (0 : Int)))), (.s (.int .i64 (IntKind.wrap .i64 ((1 : Int) + y3)))), (.s (.int .i64 y6)), (.s (.int .i64 (IntKind.wrap .i64 ((IntKind.wrap .i64 (y6 + (1 : Int))) + y159)))), (.s (.int .i64 y162)), (.l .deep bytesR ([] : List Int))]), [(.io [(.l .no bytesR cc), (.s (.int .i64 y163)), (.s (.int .i64 y164))])]))))) else K ((.a [(.s (.int .i64 (List.getD lit_s_l01Cur_req_0 (Int.toNat y0) (0 : Int)))), (.s (.int .i64 (IntKind.wrap .i64 ((1 : Int) + y3)))), (.s (.int .i64 (0 : Int))), (.s (.int .i64 (0 : Int))), (.s (.int .i64 (0 : Int))), (.l .deep bytesR ([] : List Int))]), [(.io [(.l .no bytesR cc), (.s (.int .i64 y7)), (.s (.int .i64 y8))])]))))))))) else (bif ((List.getD lit_s_l01Cur_req_0 (Int.toNat y0) (0 : Int)) == (14 : Int)) then (B_s_l01Cur_pick cc y7 y8 (5 : Int) (fun y165 y166 y167 => K ((.a [(.s (.int .i64 (List.getD lit_s_l01Cur_req_0 (Int.toNat y0) (0 : Int)))), (.s (.int .i64 (IntKind.wrap .i64 ((1 : Int) + y3)))), (.s (.int .i64 y6)), (.s (.int .i64 (IntKind.wrap .i64 (y6 + y165)))), (.s (.int .i64 (0 : Int))), (.l .deep bytesR ([] : List Int))]), [(.io [(.l .no bytesR cc), (.s (.int .i64 y166)), (.s (.int .i64 y167))])]))) else (bif ((List.getD lit_s_l01Cur_req_0 (Int.toNat y0) (0 : Int)) == (5 : Int)) then (B_s_l01Cur_pick cc y7 y8 (5 : Int) (fun y168 y169 y170 => (B_s_l01Cur_text cc y169 y170 (5 : Int) (fun y171 y172 y173 => K ((.a [(.s (.int .i64 (List.getD lit_s_l01Cur_req_0 (Int.toNat y0) (0 : Int)))), (.s (.int .i64 (IntKind.wrap .i64 ((1 : Int) + y3)))), (.s (.int .i64 y6)), (.s (.int .i64 (IntKind.wrap .i64 (y6 + y168)))), (.s (.int .i64 (0 : Int))), (.l .deep bytesR y171)]), [(.io [(.l .no bytesR cc), (.s (.int .i64 y172)), (.s (.int .i64 y173))])]))))) else (bif ((List.getD lit_s_l01Cur_req_0 (Int.toNat y0) (0 : Int)) == (7 : Int)) then (bif ((List.getD lit_s_l01Cur_req_0 (Int.toNat y0) (0 : Int)) == (7 : Int)) then (B_s_l01Cur_once cc y7 y8 (3 : Int) (fun y174 y175 y176 => (bif y174 then K ((.a [(.s (.int .i64 (List.getD lit_s_l01Cur_req_0 (Int.toNat y0) (0 : Int)))), (.s (.int .i64 (IntKind.wrap .i64 ((1 : Int) + y3)))), (.s (.int .i64 y6)), (.s (.int .i64 (0 : Int))), (.s (.int .i64 (0 : Int))), (.l .no bytesR ((97 : Int) :: ((98 : Int) :: ([] : List Int))))]), [(.io [(.l .no bytesR cc), (.s (.int .i64 y175)), (.s (.int .i64 y176))])]) else K ((.a [(.s (.int .i64 (List.getD lit_s_l01Cur_req_0 (Int.toNat y0) (0 : Int)))), (.s (.int .i64 (IntKind.wrap .i64 ((1 : Int) + y3)))), (.s (.int .i64 y6)), (.s (.int .i64 (0 : Int))), (.s (.int .i64 (0 : Int))), (.l .no bytesR ((97 : Int) :: ([] : List Int)))]), [(.io [(.l .no bytesR cc), (.s (.int .i64 y175)), (.s (.int .i64 y176))])])))) else (bif ((List.getD lit_s_l01Cur_req_0 (Int.toNat y0) (0 : Int)) == (9 : Int)) then K ((.a [(.s (.int .i64 (List.getD lit_s_l01Cur_req_0 (Int.toNat y0) (0 : Int)))), (.s (.int .i64 (IntKind.wrap .i64 ((1 : Int) + y3)))), (.s (.int .i64 y6)), (.s (.int .i64 (0 : Int))), (.s (.int .i64 (0 : Int))), (.l .deep bytesR ([] : List Int))]), [(.io [(.l .no bytesR cc), (.s (.int .i64 y7)), (.s (.int .i64 y8))])]) else (bif ((List.getD lit_s_l01Cur_req_0 (Int.toNat y0) (0 : Int)) == (10 : Int)) then (B_s_l01Cur_pick cc y7 y8 (3 : Int) (fun y177 y178 y179 => (B_s_l01Cur_pick cc y178 y179 (5 : Int) (fun y180 y181 y182 => K ((.a [(.s (.int .i64 (List.getD lit_s_l01Cur_req_0 (Int.toNat y0) (0 : Int)))), (.s (.int .i64 (IntKind.wrap .i64 ((1 : Int) + y3)))), (.s (.int .i64 y177)), (.s (.int .i64 y180)), (.s (.int .i64 (0 : Int))), (.l .deep bytesR ([] : List Int))]), [(.io [(.l .no bytesR cc), (.s (.int .i64 y181)), (.s (.int .i64 y182))])]))))) else (bif ((List.getD lit_s_l01Cur_req_0 (Int.toNat y0) (0 : Int)) == (12 : Int)) then (bif ((List.getD lit_s_l01Cur_req_0 (Int.toNat y0) (0 : Int)) == (12 : Int)) then (B_s_l01Cur_pick cc y7 y8 (4 : Int) (fun y183 y184 y185 => (B_s_l01Cur_pick cc y184 y185 (9 : Int) (fun y186 y187 y188 => K ((.a [(.s (.int .i64 (List.getD lit_s_l01Cur_req_0 (Int.toNat y0) (0 : Int)))), (.s (.int .i64 (IntKind.wrap .i64 ((1 : Int) + y3)))), (.s (.int .i64 y6)), (.s (.int .i64 (IntKind.wrap .i64 ((IntKind.wrap .i64 (y6 + (1 : Int))) + y183)))), (.s (.int .i64 y186)), (.l .deep bytesR ([] : List Int))]), [(.io [(.l .no bytesR cc), (.s (.int .i64 y187)), (.s (.int .i64 y188))])]))))) else K ((.a [(.s (.int .i64 (List.getD lit_s_l01Cur_req_0 (Int.toNat y0) (0 : Int)))), (.s (.int .i64 (IntKind.wrap .i64 ((1 : Int) + y3)))), (.s (.int .i64 (0 : Int))), (.s (.int .i64 (0 : Int))), (.s (.int .i64 (0 : Int))), (.l .deep bytesR ([] : List Int))]), [(.io [(.l .no bytesR cc), (.s (.int .i64 y7)), (.s (.int .i64 y8))])])) else (bif ((List.getD lit_s_l01Cur_req_0 (Int.toNat y0) (0 : Int)) == (13 : Int)) then (B_s_l01Cur_pick cc y7 y8 (4 : Int) (fun y189 y190 y191 => (B_s_l01Cur_pick cc y190 y191 (9 : Int) (fun y192 y193 y194 => K ((.a [(.s (.int .i64 (List.getD lit_s_l01Cur_req_0 (Int.toNat y0) (0 : Int)))), (.s (.int .i64 (IntKind.wrap .i64 ((1 : Int) + y3)))), (.s (.int .i64 y6)), (.s (.int .i64 (IntKind.wrap .i64 ((IntKind.wrap .i64 (y6 + (1 : Int))) + y189)))), (.s (.int .i64 y192)), (.l .deep bytesR ([] : List Int))]), [(.io [(.l .no bytesR cc), (.s (.int .i64 y193)), (.s (.int .i64 y194))])]))))) else K ((.a [(.s (.int .i64 (List.getD lit_s_l01Cur_req_0 (Int.toNat y0) (0 : Int)))), (.s (.int .i64 (IntKind.wrap .i64 ((1 : Int) + y3)))), (.s (.int .i64 (0 : Int))), (.s (.int .i64 (0 : Int))), (.s (.int .i64 (0 : Int))), (.l .deep bytesR ([] : List Int))]), [(.io [(.l .no bytesR cc), (.s (.int .i64 y7)), (.s (.int .i64 y8))])])))))) else (bif ((List.getD lit_s_l01Cur_req_0 (Int.toNat y0) (0 : Int)) == (8 : Int)) then (B_s_l01Cur_once cc y7 y8 (3 : Int) (fun y195 y196 y197 => (bif y195 then K ((.a [(.s (.int .i64 (List.getD lit_s_l01Cur_req_0 (Int.toNat y0) (0 : Int)))), (.s (.int .i64 (IntKind.wrap .i64 ((1 : Int) + y3)))), (.s (.int .i64 y6)), (.s (.int .i64 (0 : Int))), (.s (.int .i64 (0 : Int))), (.l .no bytesR ((97 : Int) :: ((98 : Int) :: ([] : List Int))))]), [(.io [(.l .no bytesR cc), (.s (.int .i64 y196)), (.s (.int .i64 y197))])]) else K ((.a [(.s (.int .i64 (List.getD lit_s_l01Cur_req_0 (Int.toNat y0) (0 : Int)))), (.s (.int .i64 (IntKind.wrap .i64 ((1 : Int) + y3)))), (.s (.int .i64 y6)), (.s (.int .i64 (0 : Int))), (.s (.int .i64 (0 : Int))), (.l .no bytesR ((97 : Int) :: ([] : List Int)))]), [(.io [(.l .no bytesR cc), (.s (.int .i64 y196)), (.s (.int .i64 y197))])])))) else (bif ((List.getD lit_s_l01Cur_req_0 (Int.toNat y0) (0 : Int)) == (9 : Int)) then K ((.a [(.s (.int .i64 (List.getD lit_s_l01Cur_req_0 (Int.toNat y0) (0 : Int)))), (.s (.int .i64 (IntKind.wrap .i64 ((1 : Int) + y3)))), (.s (.int .i64 y6)), (.s (.int .i64 (0 : Int))), (.s (.int .i64 (0 : Int))), (.l .deep bytesR ([] : List Int))]), [(.io [(.l .no bytesR cc), (.s (.int .i64 y7)), (.s (.int .i64 y8))])]) else (bif ((List.getD lit_s_l01Cur_req_0 (Int.toNat y0) (0 : Int)) == (10 : Int)) then (B_s_l01Cur_pick cc y7 y8 (3 : Int) (fun y198 y199 y200 => (B_s_l01Cur_pick cc y199 y200 (5 : Int) (fun y201 y202 y203 => K ((.a [(.s (.int .i64 (List.getD lit_s_l01Cur_req_0 (Int.toNat y0) (0 : Int)))), (.s (.int .i64 (IntKind.wrap .i64 ((1 : Int) + y3)))), (.s (.int .i64 y198)), (.s (.int .i64 y201)), (.s (.int .i64 (0 : Int))), (.l .deep bytesR ([] : List Int))]), [(.io [(.l .no bytesR cc), (.s (.int .i64 y202)), (.s (.int .i64 y203))])]))))) else (bif ((List.getD lit_s_l01Cur_req_0 (Int.toNat y0) (0 : Int)) == (12 : Int)) then (bif ((List.getD lit_s_l01Cur_req_0 (Int.toNat y0) (0 : Int)) == (12 : Int)) then (B_s_l01Cur_pick cc y7 y8 (4 : Int) (fun y204 y205 y206 => (B_s_l01Cur_pick cc y205 y206 (9 : Int) (fun y207 y208 y209 => K ((.a [(.s (.int .i64 (List.getD lit_s_l01Cur_req_0 (Int.toNat y0) (0 : Int)))), (.s (.int .i64 (IntKind.wrap .i64 ((1 : Int) + y3)))), (.s (.int .i64 y6)), (.s (.int .i64 (IntKind.wrap .i64 ((IntKind.wrap .i64 (y6 + (1 : Int))) + y204)))), (.s (.int .i64 y207)), (.l .deep bytesR ([] : List Int))]), [(.io [(.l .no bytesR cc), (.s (.int .i64 y208)), (.s (.int .i64 y209))])]))))) else K ((.a [(.s (.int .i64 (List.getD lit_s_l01Cur_req_0 (Int.toNat y0) (0 : Int)))), (.s (.int .i64 (IntKind.wrap .i64 ((1 : Int) + y3)))), (.s (.int .i64 (0 : Int))), (.s (.int .i64 (0 : Int))), (.s (.int .i64 (0 : Int))), (.l .deep bytesR ([] : List Int))]), [(.io [(.l .no bytesR cc), (.s (.int .i64 y7)), (.s (.int .i64 y8))])])) else (bif ((List.getD lit_s_l01Cur_req_0 (Int.toNat y0) (0 : Int)) == (13 : Int)) then (B_s_l01Cur_pick cc y7 y8 (4 : Int) (fun y210 y211 y212 => (B_s_l01Cur_pick cc y211 y212 (9 : Int) (fun y213 y214 y215 => K ((.a [(.s (.int .i64 (List.getD lit_s_l01Cur_req_0 (Int.toNat y0) (0 : Int)))), (.s (.int .i64 (IntKind.wrap .i64 ((1 : Int) + y3)))), (.s (.int .i64 y6)), (.s (.int .i64 (IntKind.wrap .i64 ((IntKind.wrap .i64 (y6 + (1 : Int))) + y210)))), (.s (.int .i64 y213)), (.l .deep bytesR ([] : List Int))]), [(.io [(.l .no bytesR cc), (.s (.int .i64 y214)), (.s (.int .i64 y215))])]))))) else K ((.a [(.s (.int .i64 (List.getD lit_s_l01Cur_req_0 (Int.toNat y0) (0 : Int)))), (.s (.int .i64 (IntKind.wrap .i64 ((1 : Int) + y3)))), (.s (.int .i64 (0 : Int))), (.s (.int .i64 (0 : Int))), (.s (.int .i64 (0 : Int))), (.l .deep bytesR ([] : List Int))]), [(.io [(.l .no bytesR cc), (.s (.int .i64 y7)), (.s (.int .i64 y8))])])))))))))))))))
noncomputable def T_s_l01Cur_req (cc : List Int) (ca : Int) (cs : Int) (K : Ret → Option Ret) : Option Ret := T_s_l01Cur_req_1 cc ca cs (fun y0 y1 y2 y3 y4 y5 => T_s_l01Cur_req_2 cc ca cs y0 y1 y2 y3 y4 y5 K) K
theorem ea_s_l01Cur_req (cc : List Int) (ca : Int) (cs : Int) (J : St → Option Ret) (K : Ret → Option Ret) : evFJ E_s_l01Cur_req false F.s_l01Cur_req 1 J [.io [.l .no bytesR cc, .s (.int .i64 ca), .s (.int .i64 cs)]] K = T_s_l01Cur_req_1 cc ca cs (fun y0 y1 y2 y3 y4 y5 => J (zj_s_l01Cur_req cc ca cs y0 y1 y2 y3 y4 y5)) K := by kernel_rfl
theorem eb_s_l01Cur_req (cc : List Int) (ca : Int) (cs : Int) (y0 : Int) (y1 : Int) (y2 : Int) (y3 : Int) (y4 : Int) (y5 : Int) (K : Ret → Option Ret) : run E_s_l01Cur_req (restOf 1 (F.s_l01Cur_req.body.getD .skip)) (zj_s_l01Cur_req cc ca cs y0 y1 y2 y3 y4 y5) (fin E_s_l01Cur_req false F.s_l01Cur_req K) = T_s_l01Cur_req_2 cc ca cs y0 y1 y2 y3 y4 y5 K := by kernel_rfl
theorem e_s_l01Cur_req (cc : List Int) (ca : Int) (cs : Int) (K : Ret → Option Ret) : evF E_s_l01Cur_req false F.s_l01Cur_req [.io [.l .no bytesR cc, .s (.int .i64 ca), .s (.int .i64 cs)]] K = T_s_l01Cur_req cc ca cs K := (evFJ_eq (n := 1)).symm.trans ((ea_s_l01Cur_req cc ca cs _ K).trans (congrArg (fun j => T_s_l01Cur_req_1 cc ca cs j K) (funext fun y0 => funext fun y1 => funext fun y2 => funext fun y3 => funext fun y4 => funext fun y5 => eb_s_l01Cur_req cc ca cs y0 y1 y2 y3 y4 y5 K)))
set_option maxHeartbeats 4000000
theorem x_s_l01Cur_req (cc : List Int) (ca : Int) (cs : Int) (h : (curB 1000000000000000000 cc ca cs) = true) : ∃ (y0 : Int) (y1 : Int) (y2 : Int) (y3 : Int) (y4 : Int) (t : List Int) (a : Int) (s : Int), ((fitB t = true ∧ t.length ≤ 20) ∧ 0 ≤ a ∧ a ≤ ca + 30 ∧ 0 ≤ s ∧ s < 65536) ∧ ∀ K : Ret → Option Ret, T_s_l01Cur_req cc ca cs (noK K) = K (.a [.s (.int .i64 y0), .s (.int .i64 y1), .s (.int .i64 y2), .s (.int .i64 y3), .s (.int .i64 y4), .l .no bytesR t], [.io [.l .no bytesR cc, .s (.int .i64 a), .s (.int .i64 s)]]) := by
  suffices hd : Dr (fun r : Ret => ∃ (y0 : Int) (y1 : Int) (y2 : Int) (y3 : Int) (y4 : Int) (t : List Int) (a : Int) (s : Int), ((fitB t = true ∧ t.length ≤ 20) ∧ 0 ≤ a ∧ a ≤ ca + 30 ∧ 0 ≤ s ∧ s < 65536) ∧ r = (.a [.s (.int .i64 y0), .s (.int .i64 y1), .s (.int .i64 y2), .s (.int .i64 y3), .s (.int .i64 y4), .l .no bytesR t], [.io [.l .no bytesR cc, .s (.int .i64 a), .s (.int .i64 s)]])) (fun K : Ret → Option Ret => T_s_l01Cur_req cc ca cs (noK K)) by
    obtain ⟨_, ⟨y0, y1, y2, y3, y4, t, a, s, hp, rfl⟩, hk⟩ := hd
    exact ⟨y0, y1, y2, y3, y4, t, a, s, hp, hk⟩
  obtain ⟨hf, h2, h3, h4, h5⟩ := curB_iff.1 h
  have hl := fitB_len hf
  unfold T_s_l01Cur_req
  obtain ⟨y0, a0, s0, h0, k0⟩ := b_s_l01Cur_pick cc ca cs 19 ((curB_iff.2 ⟨hf, by omega, by omega, by omega, by omega⟩))
  obtain ⟨y3, a1, s1, h1, k1⟩ := b_s_l01Cur_pick cc a0 s0 3 ((curB_iff.2 ⟨hf, by omega, by omega, by omega, by omega⟩))
  have hl19 : lit_s_l01Cur_req_0.length = 19 := rfl
  have hd1 : decide ((0 : Int) ≤ y0) = true := decide_eq_true (by omega)
  have hd2 : decide (y0 < ((lit_s_l01Cur_req_0.length : Nat) : Int)) = true := decide_eq_true (by omega)
  unfold T_s_l01Cur_req_1
  simp only [k0, k1, hd1, hd2, Bool.and_self, cond_true, mt_self, meet_self]
  unfold T_s_l01Cur_req_2
  repeat' first
    | exact Dr.leafN ⟨_, _, _, _, _, _, _, _, ⟨⟨by first | assumption | rfl, by first | omega | (simp only [List.length_cons, List.length_nil]; omega)⟩, by omega, by omega, by omega, by omega⟩, rfl⟩ rfl
    | refine Dr.b3 (b_s_l01Cur_pick _ _ _ _ (curB_iff.2 ⟨hf, by omega, by omega, by omega, by omega⟩)) (fun _ _ _ hy => ?_)
    | refine Dr.b3 (b_s_l01Cur_once _ _ _ _ (curB_iff.2 ⟨hf, by omega, by omega, by omega, by omega⟩)) (fun _ _ _ hy => ?_)
    | (refine Dr.b3 (b_s_l01Cur_text _ _ _ _ ((Bool.and_eq_true _ _).mpr ⟨curB_iff.2 ⟨hf, by omega, by omega, by omega, by omega⟩, by simp only [Bool.and_eq_true, decide_eq_true_eq]; omega⟩)) (fun _ _ _ hy => ?_); obtain ⟨⟨hq1, hq2⟩, hq3⟩ := hy)
    | refine Dr.bif (fun _ => ?_) (fun _ => ?_)
noncomputable def g_s_l01Cur_req (cc : List Int) (ca : Int) (cs : Int) : Int × Int × Int × Int × Int × List Int × Int × Int := Classical.epsilon fun g => ((fitB (g).2.2.2.2.2.1 = true ∧ (g).2.2.2.2.2.1.length ≤ 20) ∧ 0 ≤ (g).2.2.2.2.2.2.1 ∧ (g).2.2.2.2.2.2.1 ≤ ca + 30 ∧ 0 ≤ (g).2.2.2.2.2.2.2 ∧ (g).2.2.2.2.2.2.2 < 65536) ∧ ∀ K : Ret → Option Ret, T_s_l01Cur_req cc ca cs (noK K) = K (.a [.s (.int .i64 (g).1), .s (.int .i64 (g).2.1), .s (.int .i64 (g).2.2.1), .s (.int .i64 (g).2.2.2.1), .s (.int .i64 (g).2.2.2.2.1), .l .no bytesR (g).2.2.2.2.2.1], [.io [.l .no bytesR cc, .s (.int .i64 (g).2.2.2.2.2.2.1), .s (.int .i64 (g).2.2.2.2.2.2.2)]])
theorem gs_s_l01Cur_req (cc : List Int) (ca : Int) (cs : Int) (h : (curB 1000000000000000000 cc ca cs) = true) : ((fitB (g_s_l01Cur_req cc ca cs).2.2.2.2.2.1 = true ∧ (g_s_l01Cur_req cc ca cs).2.2.2.2.2.1.length ≤ 20) ∧ 0 ≤ (g_s_l01Cur_req cc ca cs).2.2.2.2.2.2.1 ∧ (g_s_l01Cur_req cc ca cs).2.2.2.2.2.2.1 ≤ ca + 30 ∧ 0 ≤ (g_s_l01Cur_req cc ca cs).2.2.2.2.2.2.2 ∧ (g_s_l01Cur_req cc ca cs).2.2.2.2.2.2.2 < 65536) ∧ ∀ K : Ret → Option Ret, T_s_l01Cur_req cc ca cs (noK K) = K (.a [.s (.int .i64 (g_s_l01Cur_req cc ca cs).1), .s (.int .i64 (g_s_l01Cur_req cc ca cs).2.1), .s (.int .i64 (g_s_l01Cur_req cc ca cs).2.2.1), .s (.int .i64 (g_s_l01Cur_req cc ca cs).2.2.2.1), .s (.int .i64 (g_s_l01Cur_req cc ca cs).2.2.2.2.1), .l .no bytesR (g_s_l01Cur_req cc ca cs).2.2.2.2.2.1], [.io [.l .no bytesR cc, .s (.int .i64 (g_s_l01Cur_req cc ca cs).2.2.2.2.2.2.1), .s (.int .i64 (g_s_l01Cur_req cc ca cs).2.2.2.2.2.2.2)]]) := by
  obtain ⟨y0, y1, y2, y3, y4, t, a, s, hy, hk⟩ := x_s_l01Cur_req cc ca cs h
  exact Classical.epsilon_spec (p := fun g : Int × Int × Int × Int × Int × List Int × Int × Int => ((fitB (g).2.2.2.2.2.1 = true ∧ (g).2.2.2.2.2.1.length ≤ 20) ∧ 0 ≤ (g).2.2.2.2.2.2.1 ∧ (g).2.2.2.2.2.2.1 ≤ ca + 30 ∧ 0 ≤ (g).2.2.2.2.2.2.2 ∧ (g).2.2.2.2.2.2.2 < 65536) ∧ ∀ K : Ret → Option Ret, T_s_l01Cur_req cc ca cs (noK K) = K (.a [.s (.int .i64 (g).1), .s (.int .i64 (g).2.1), .s (.int .i64 (g).2.2.1), .s (.int .i64 (g).2.2.2.1), .s (.int .i64 (g).2.2.2.2.1), .l .no bytesR (g).2.2.2.2.2.1], [.io [.l .no bytesR cc, .s (.int .i64 (g).2.2.2.2.2.2.1), .s (.int .i64 (g).2.2.2.2.2.2.2)]])) ⟨⟨y0, y1, y2, y3, y4, t, a, s⟩, hy, hk⟩
noncomputable def B_s_l01Cur_req (cc : List Int) (ca : Int) (cs : Int) (k : (Int) → (Int) → (Int) → (Int) → (Int) → (List Int) → (Int) → (Int) → Option Ret) : Option Ret := bif curB 1000000000000000000 cc ca cs then k (g_s_l01Cur_req cc ca cs).1 (g_s_l01Cur_req cc ca cs).2.1 (g_s_l01Cur_req cc ca cs).2.2.1 (g_s_l01Cur_req cc ca cs).2.2.2.1 (g_s_l01Cur_req cc ca cs).2.2.2.2.1 (g_s_l01Cur_req cc ca cs).2.2.2.2.2.1 (g_s_l01Cur_req cc ca cs).2.2.2.2.2.2.1 (g_s_l01Cur_req cc ca cs).2.2.2.2.2.2.2 else none
theorem b_s_l01Cur_req (cc : List Int) (ca : Int) (cs : Int) (h : (curB 1000000000000000000 cc ca cs) = true) : ∃ (y0 : Int) (y1 : Int) (y2 : Int) (y3 : Int) (y4 : Int) (t : List Int) (a : Int) (s : Int), ((fitB t = true ∧ t.length ≤ 20) ∧ 0 ≤ a ∧ a ≤ ca + 30 ∧ 0 ≤ s ∧ s < 65536) ∧ ∀ k, B_s_l01Cur_req cc ca cs k = k y0 y1 y2 y3 y4 t a s :=
  ⟨(g_s_l01Cur_req cc ca cs).1, (g_s_l01Cur_req cc ca cs).2.1, (g_s_l01Cur_req cc ca cs).2.2.1, (g_s_l01Cur_req cc ca cs).2.2.2.1, (g_s_l01Cur_req cc ca cs).2.2.2.2.1, (g_s_l01Cur_req cc ca cs).2.2.2.2.2.1, (g_s_l01Cur_req cc ca cs).2.2.2.2.2.2.1, (g_s_l01Cur_req cc ca cs).2.2.2.2.2.2.2, (gs_s_l01Cur_req cc ca cs h).1, fun k => by unfold B_s_l01Cur_req; rw [h]; rfl⟩
def SB_s_l01Cur_req (B : (List Int) → (Int) → (Int) → ((Int) → (Int) → (Int) → (Int) → (Int) → (List Int) → (Int) → (Int) → Option Ret) → Option Ret) : Sm := S_B [.sh (.io (.cons (.l .no bytesR) (.cons (.int .i64) (.cons (.int .i64) .nil))))] (fun d K => B d.1.1 d.1.2.1 d.1.2.2.1 (fun y0 y1 y2 y3 y4 t a s => K (.a [.s (.int .i64 y0), .s (.int .i64 y1), .s (.int .i64 y2), .s (.int .i64 y3), .s (.int .i64 y4), .l .no bytesR t], [.io [.l .no bytesR d.1.1, .s (.int .i64 a), .s (.int .i64 s)]])))
theorem okS_s_l01Cur_req : OkFn prog I N.s_l01Cur_req false (SB_s_l01Cur_req B_s_l01Cur_req) := okN (OkFn.no (ok_fn (fresh := false) (memc okS_s_l01Cur_pick (memc okS_s_l01Cur_text (memc okS_s_l01Cur_once mem0))) (l := ls_s_l01Cur_req) (p := pl_s_l01Cur_req) (ls := []) (lend := []) (focus := false) (fuel := 0) (give := []) (fn := F.s_l01Cur_req) (by kernel_rfl) (by kernel_rfl) (by kernel_rfl) (by kernel_rfl) (cs := []) (by kernel_rfl) loops0)) (S_B_of fun d K q hq => by
  refine (e_s_l01Cur_req d.1.1 d.1.2.1 d.1.2.2.1 (noK K)).trans ?_
  unfold B_s_l01Cur_req at hq
  cases hp : (curB 1000000000000000000 d.1.1 d.1.2.1 d.1.2.2.1) with
  | false => rw [hp] at hq; cases hq
  | true =>
    rw [hp] at hq
    exact ((gs_s_l01Cur_req d.1.1 d.1.2.1 d.1.2.2.1 hp).2 K).trans hq)
end Go.Ev.Seat
end
section
/- s_l01Cur_raw: its contract. -/
namespace Go.Ev.Seat
open Go.RowKit
set_option maxRecDepth 100000
set_option linter.unusedVariables false
set_option linter.unusedSimpArgs false
noncomputable abbrev ls_s_l01Cur_raw : List (Nat × Bool × Sm) := [(N.s_l01Cur_pick, false, (SB_s_l01Cur_pick B_s_l01Cur_pick))]
noncomputable abbrev E_s_l01Cur_raw : Env := En ls_s_l01Cur_raw [] [] [] false 0 []
noncomputable def T_s_l01Cur_raw (cc : List Int) (ca : Int) (cs : Int) (K : Ret → Option Ret) : Option Ret := (B_s_l01Cur_pick cc ca cs (8 : Int) (fun y0 y1 y2 => (bif (y0 == (0 : Int)) then (B_s_l01Cur_pick cc y1 y2 (256 : Int) (fun y3 y4 y5 => K ((.s (.int .i64 (IntKind.wrap .i64 (y3 - (128 : Int))))), [(.io [(.l .no bytesR cc), (.s (.int .i64 y4)), (.s (.int .i64 y5))])]))) else (bif (y0 == (1 : Int)) then (B_s_l01Cur_pick cc y1 y2 (8 : Int) (fun y6 y7 y8 => (bif ((decide ((0 : Int) ≤ y6)) && (decide (y6 < (((List.length ((9223372036854775807 : Int) :: ((-(9223372036854775808 : Int)) :: ((4611686018427387904 : Int) :: ((55296 : Int) :: ((57343 : Int) :: ((65536 : Int) :: ((1114111 : Int) :: ((1114112 : Int) :: ([] : List Int)))))))))) : Nat) : Int)))) then K ((.s (.int .i64 (List.getD ((9223372036854775807 : Int) :: ((-(9223372036854775808 : Int)) :: ((4611686018427387904 : Int) :: ((55296 : Int) :: ((57343 : Int) :: ((65536 : Int) :: ((1114111 : Int) :: ((1114112 : Int) :: ([] : List Int))))))))) (Int.toNat y6) (0 : Int)))), [(.io [(.l .no bytesR cc), (.s (.int .i64 y7)), (.s (.int .i64 y8))])]) else none))) else (B_s_l01Cur_pick cc y1 y2 (14 : Int) (fun y9 y10 y11 => K ((.s (.int .i64 (IntKind.wrap .i64 (y9 - (3 : Int))))), [(.io [(.l .no bytesR cc), (.s (.int .i64 y10)), (.s (.int .i64 y11))])])))))))
theorem e_s_l01Cur_raw (cc : List Int) (ca : Int) (cs : Int) (K : Ret → Option Ret) : evF E_s_l01Cur_raw false F.s_l01Cur_raw [.io [.l .no bytesR cc, .s (.int .i64 ca), .s (.int .i64 cs)]] K = T_s_l01Cur_raw cc ca cs K := by kernel_rfl
theorem x_s_l01Cur_raw (cc : List Int) (ca : Int) (cs : Int) (h : (curB 3000000000000000000 cc ca cs) = true) : ∃ (y : Int) (a : Int) (s : Int), ((-9223372036854775808 ≤ y ∧ y ≤ 9223372036854775807) ∧ 0 ≤ a ∧ a ≤ ca + 2 ∧ 0 ≤ s ∧ s < 65536) ∧ ∀ K : Ret → Option Ret, T_s_l01Cur_raw cc ca cs K = K (.s (.int .i64 y), [.io [.l .no bytesR cc, .s (.int .i64 a), .s (.int .i64 s)]]) := by
  suffices hd : Dr (fun r : Ret => ∃ (y : Int) (a : Int) (s : Int), ((-9223372036854775808 ≤ y ∧ y ≤ 9223372036854775807) ∧ 0 ≤ a ∧ a ≤ ca + 2 ∧ 0 ≤ s ∧ s < 65536) ∧ r = (.s (.int .i64 y), [.io [.l .no bytesR cc, .s (.int .i64 a), .s (.int .i64 s)]])) (fun K : Ret → Option Ret => T_s_l01Cur_raw cc ca cs K) by
    obtain ⟨_, ⟨y, a, s, hp, rfl⟩, hk⟩ := hd
    exact ⟨y, a, s, hp, hk⟩
  obtain ⟨hf, h2, h3, h4, h5⟩ := curB_iff.1 h
  have hl := fitB_len hf
  unfold T_s_l01Cur_raw
  repeat' first
    | exact Dr.leaf ⟨_, _, _, ⟨by first | omega | exact rng_get rfl, by omega, by omega, by omega, by omega⟩, rfl⟩
    | refine Dr.b3 (b_s_l01Cur_pick _ _ _ _ (curB_iff.2 ⟨hf, by omega, by omega, by omega, by omega⟩)) (fun _ _ _ hy => ?_)
    | refine Dr.meet ?_
    | simp (disch := omega) only [wrap_in]
    | refine Dr.must (by first | rfl | (simp only [List.length_cons, List.length_nil, BEq.rfl, Bool.true_and, Bool.and_eq_true, decide_eq_true_eq]; omega)) ?_
    | refine Dr.bif (fun hb => ?_) (fun hb => ?_)
noncomputable def g_s_l01Cur_raw (cc : List Int) (ca : Int) (cs : Int) : Int × Int × Int := Classical.epsilon fun g => ((-9223372036854775808 ≤ (g).1 ∧ (g).1 ≤ 9223372036854775807) ∧ 0 ≤ (g).2.1 ∧ (g).2.1 ≤ ca + 2 ∧ 0 ≤ (g).2.2 ∧ (g).2.2 < 65536) ∧ ∀ K : Ret → Option Ret, T_s_l01Cur_raw cc ca cs K = K (.s (.int .i64 (g).1), [.io [.l .no bytesR cc, .s (.int .i64 (g).2.1), .s (.int .i64 (g).2.2)]])
theorem gs_s_l01Cur_raw (cc : List Int) (ca : Int) (cs : Int) (h : (curB 3000000000000000000 cc ca cs) = true) : ((-9223372036854775808 ≤ (g_s_l01Cur_raw cc ca cs).1 ∧ (g_s_l01Cur_raw cc ca cs).1 ≤ 9223372036854775807) ∧ 0 ≤ (g_s_l01Cur_raw cc ca cs).2.1 ∧ (g_s_l01Cur_raw cc ca cs).2.1 ≤ ca + 2 ∧ 0 ≤ (g_s_l01Cur_raw cc ca cs).2.2 ∧ (g_s_l01Cur_raw cc ca cs).2.2 < 65536) ∧ ∀ K : Ret → Option Ret, T_s_l01Cur_raw cc ca cs K = K (.s (.int .i64 (g_s_l01Cur_raw cc ca cs).1), [.io [.l .no bytesR cc, .s (.int .i64 (g_s_l01Cur_raw cc ca cs).2.1), .s (.int .i64 (g_s_l01Cur_raw cc ca cs).2.2)]]) := by
  obtain ⟨y, a, s, hy, hk⟩ := x_s_l01Cur_raw cc ca cs h
  exact Classical.epsilon_spec (p := fun g : Int × Int × Int => ((-9223372036854775808 ≤ (g).1 ∧ (g).1 ≤ 9223372036854775807) ∧ 0 ≤ (g).2.1 ∧ (g).2.1 ≤ ca + 2 ∧ 0 ≤ (g).2.2 ∧ (g).2.2 < 65536) ∧ ∀ K : Ret → Option Ret, T_s_l01Cur_raw cc ca cs K = K (.s (.int .i64 (g).1), [.io [.l .no bytesR cc, .s (.int .i64 (g).2.1), .s (.int .i64 (g).2.2)]])) ⟨⟨y, a, s⟩, hy, hk⟩
noncomputable def B_s_l01Cur_raw (cc : List Int) (ca : Int) (cs : Int) (k : (Int) → (Int) → (Int) → Option Ret) : Option Ret := bif curB 3000000000000000000 cc ca cs then k (g_s_l01Cur_raw cc ca cs).1 (g_s_l01Cur_raw cc ca cs).2.1 (g_s_l01Cur_raw cc ca cs).2.2 else none
theorem b_s_l01Cur_raw (cc : List Int) (ca : Int) (cs : Int) (h : (curB 3000000000000000000 cc ca cs) = true) : ∃ (y : Int) (a : Int) (s : Int), ((-9223372036854775808 ≤ y ∧ y ≤ 9223372036854775807) ∧ 0 ≤ a ∧ a ≤ ca + 2 ∧ 0 ≤ s ∧ s < 65536) ∧ ∀ k, B_s_l01Cur_raw cc ca cs k = k y a s :=
  ⟨(g_s_l01Cur_raw cc ca cs).1, (g_s_l01Cur_raw cc ca cs).2.1, (g_s_l01Cur_raw cc ca cs).2.2, (gs_s_l01Cur_raw cc ca cs h).1, fun k => by unfold B_s_l01Cur_raw; rw [h]; rfl⟩
def SB_s_l01Cur_raw (B : (List Int) → (Int) → (Int) → ((Int) → (Int) → (Int) → Option Ret) → Option Ret) : Sm := S_B [.sh (.io (.cons (.l .no bytesR) (.cons (.int .i64) (.cons (.int .i64) .nil))))] (fun d K => B d.1.1 d.1.2.1 d.1.2.2.1 (fun y a s => K (.s (.int .i64 y), [.io [.l .no bytesR d.1.1, .s (.int .i64 a), .s (.int .i64 s)]])))
theorem okS_s_l01Cur_raw : OkFn prog I N.s_l01Cur_raw false (SB_s_l01Cur_raw B_s_l01Cur_raw) := okN (ok_fn (memc okS_s_l01Cur_pick mem0) (l := ls_s_l01Cur_raw) (p := []) (ls := []) (lend := []) (focus := false) (fuel := 0) (give := []) (fn := F.s_l01Cur_raw) (by kernel_rfl) (by kernel_rfl) (by kernel_rfl) (by kernel_rfl) (cs := []) (by kernel_rfl) loops0) (S_B_of fun d K q hq => by
  refine (e_s_l01Cur_raw d.1.1 d.1.2.1 d.1.2.2.1 K).trans ?_
  unfold B_s_l01Cur_raw at hq
  cases hp : (curB 3000000000000000000 d.1.1 d.1.2.1 d.1.2.2.1) with
  | false => rw [hp] at hq; cases hq
  | true =>
    rw [hp] at hq
    exact ((gs_s_l01Cur_raw d.1.1 d.1.2.1 d.1.2.2.1 hp).2 K).trans hq)
end Go.Ev.Seat
end
