/- Shapes of states: which data stand where. -/
import Derived.Test.YtfgnddgckhpbiaaEvCore
set_option linter.unusedVariables false
namespace Go.Ev

mutual
inductive Sh where
  | x | nl | int (k : IntKind) | bool | str | l (o : Ow) (r : Rw) | w (k : Nat) | pb (k c : Nat) | a (ss : ShL) | io (ss : ShL) | f (g : Nat) (ss : ShL) | qb (ss : ShL) (c : Nat) | lit (v : Value)
inductive ShL where
  | nil
  | cons (s : Sh) (ss : ShL)
end
mutual
@[reducible] def Sh.T : Sh → Type
  | .int _ => Int
  | .bool => Bool
  | .str => ByteArray
  | .l _ r => List r.T
  | .a ss => ss.T
  | .io ss => ss.T
  | .f _ ss => ss.T
  | .qb ss _ => ss.T
  | _ => Unit
@[reducible] def ShL.T : ShL → Type
  | .nil => Unit
  | .cons s ss => s.T × ss.T
end
mutual
def Sh.mk : (s : Sh) → s.T → V
  | .x, _ => .x
  | .nl, _ => .nl
  | .int k, n => .s (.int k n)
  | .bool, b => .s (.bool b)
  | .str, b => .s (.string b)
  | .l o r, xs => .l o r xs
  | .w k, _ => .w k
  | .pb k c, _ => .pb k c
  | .a ss, d => .a (ss.mk d)
  | .io ss, d => .io (ss.mk d)
  | .f g ss, d => .f g (ss.mk d)
  | .qb ss c, d => .qb (ss.mk d) c
  | .lit v, _ => .s v
def ShL.mk : (ss : ShL) → ss.T → List V
  | .nil, _ => []
  | .cons s ss, d => s.mk d.1 :: ss.mk d.2
end
mutual
def Sh.un : (s : Sh) → V → Option s.T
  | .x, .x => some ()
  | .nl, .nl => some ()
  | .int k, .s (.int k' n) => if k' = k then some n else none
  | .bool, .s (.bool b) => some b
  | .str, .s (.string b) => some b
  | .l o r, .l o' r' xs => if h : r' = r then (if o' = o then some (h ▸ xs) else none) else none
  | .w k, .w j => bif Nat.beq j k then some () else none
  | .pb k c, .pb j e => bif Nat.beq j k && Nat.beq e c then some () else none
  | .a ss, .a cs => ss.un cs
  | .io ss, .io cs => ss.un cs
  | .f g ss, .f g' cs => bif Nat.beq g' g then ss.un cs else none
  | .qb ss c, .qb cs c' => bif Nat.beq c' c then ss.un cs else none
  | _, _ => none
def ShL.un : (ss : ShL) → List V → Option ss.T
  | .nil, [] => some ()
  | .cons s ss, v :: vs => match s.un v with
    | some d => match ss.un vs with
      | some e => some (d, e)
      | none => none
    | none => none
  | _, _ => none
end
mutual
theorem Sh.un_mk : (s : Sh) → {v : V} → {d : s.T} → s.un v = some d → v = s.mk d
  | .x, v, d, h => by cases v <;> simp [Sh.un] at h; rfl
  | .nl, v, d, h => by cases v <;> simp [Sh.un] at h; rfl
  | .int k, v, d, h => by
    cases v with
    | s u =>
      cases u with
      | int k' n =>
        simp only [Sh.un] at h
        split at h
        · rename_i hk; subst hk; cases h; rfl
        · cases h
      | _ => simp [Sh.un] at h
    | _ => simp [Sh.un] at h
  | .bool, v, d, h => by
    cases v with
    | s u =>
      cases u with
      | bool b => simp only [Sh.un] at h; cases h; rfl
      | _ => simp [Sh.un] at h
    | _ => simp [Sh.un] at h
  | .str, v, d, h => by
    cases v with
    | s u =>
      cases u with
      | string b => simp only [Sh.un] at h; cases h; rfl
      | _ => simp [Sh.un] at h
    | _ => simp [Sh.un] at h
  | .l o r, v, d, h => by
    cases v with
    | l o' r' xs =>
      simp only [Sh.un] at h
      split at h
      · rename_i hr
        subst hr
        split at h
        · rename_i ho; subst ho; cases h; rfl
        · cases h
      · cases h
    | _ => simp [Sh.un] at h
  | .lit u, v, d, h => by simp [Sh.un] at h
  | .io ss, v, d, h => by
    cases v with
    | io cs => simp only [Sh.un] at h; simp only [Sh.mk]; rw [ShL.un_mk ss h]
    | _ => simp [Sh.un] at h
  | .f g ss, v, d, h => by
    cases v with
    | f g' cs =>
      simp only [Sh.un] at h
      cases e : Nat.beq g' g with
      | true => rw [e] at h; simp only [Sh.mk]; rw [ShL.un_mk ss h, Nat.eq_of_beq_eq_true e]
      | false => rw [e] at h; cases h
    | _ => simp [Sh.un] at h
  | .qb ss c, v, d, h => by
    cases v with
    | qb cs c' =>
      simp only [Sh.un] at h
      cases e : Nat.beq c' c with
      | true => rw [e] at h; simp only [Sh.mk]; rw [ShL.un_mk ss h, Nat.eq_of_beq_eq_true e]
      | false => rw [e] at h; cases h
    | _ => simp [Sh.un] at h
  | .w k, v, d, h => by
    cases v with
    | w j =>
      simp only [Sh.un] at h
      cases e : Nat.beq j k with
      | true => rw [Nat.eq_of_beq_eq_true e]; rfl
      | false => rw [e] at h; cases h
    | _ => simp [Sh.un] at h
  | .pb k c, v, d, h => by
    cases v with
    | pb j e =>
      simp only [Sh.un] at h
      cases e1 : (Nat.beq j k && Nat.beq e c) with
      | true =>
        simp only [Bool.and_eq_true] at e1
        rw [Nat.eq_of_beq_eq_true e1.1, Nat.eq_of_beq_eq_true e1.2]; rfl
      | false => rw [e1] at h; cases h
    | _ => simp [Sh.un] at h
  | .a ss, v, d, h => by
    cases v with
    | a cs => simp only [Sh.un] at h; simp only [Sh.mk]; rw [ShL.un_mk ss h]
    | _ => simp [Sh.un] at h
theorem ShL.un_mk : (ss : ShL) → {vs : List V} → {d : ss.T} → ss.un vs = some d → vs = ss.mk d
  | .nil, [], d, h => rfl
  | .nil, _ :: _, d, h => by simp [ShL.un] at h
  | .cons s ss, [], d, h => by simp [ShL.un] at h
  | .cons s ss, v :: vs, d, h => by
    simp only [ShL.un] at h
    split at h
    · rename_i e he
      split at h
      · rename_i f hf
        cases h
        simp only [ShL.mk]
        rw [← Sh.un_mk s he, ← ShL.un_mk ss hf]
      · cases h
    · cases h
end

/-- Objects, numbered from n on. -/
inductive Oh where
  | nil
  | arr (mu deep : Bool) (r : Rw) (o : Oh)
  | own (st : Bool) (r : Rw) (o : Oh)
  | box (ss : ShL) (o : Oh)
@[reducible] def Oh.T : Oh → Type
  | .nil => Unit
  | .arr _ _ r o => List r.T × o.T
  | .own _ r o => List r.T × o.T
  | .box ss o => ss.T × o.T
def Oh.mk : (o : Oh) → Nat → o.T → Obs
  | .nil, _, _ => []
  | .arr mu deep r o, n, d => (n, .arr mu deep r d.1) :: o.mk (n + 1) d.2
  | .own st r o, n, d => (n, .own st r d.1) :: o.mk (n + 1) d.2
  | .box ss o, n, d => (n, .box (ss.mk d.1)) :: o.mk (n + 1) d.2
def Oh.un : (o : Oh) → Nat → Obs → Option o.T
  | .nil, _, [] => some ()
  | .arr mu deep r o, n, (j, .arr mu' deep' r' xs) :: ob => if h : r' = r then (bif Nat.beq j n && (mu' == mu) && (deep' == deep) then (match o.un (n + 1) ob with
    | some e => some (h ▸ xs, e)
    | none => none) else none) else none
  | .own st r o, n, (j, .own st' r' xs) :: ob => if h : r' = r then (bif Nat.beq j n && (st' == st) then (match o.un (n + 1) ob with
    | some e => some (h ▸ xs, e)
    | none => none) else none) else none
  | .box ss o, n, (j, .box cs) :: ob => bif Nat.beq j n then (match ss.un cs with
    | some d => match o.un (n + 1) ob with
      | some e => some (d, e)
      | none => none
    | none => none) else none
  | _, _, _ => none
theorem Oh.un_mk : (o : Oh) → {n : Nat} → {ob : Obs} → {d : o.T} → o.un n ob = some d → ob = o.mk n d
  | .nil, n, [], d, h => rfl
  | .nil, n, _ :: _, d, h => by simp [Oh.un] at h
  | .arr mu deep r o, n, [], d, h => by simp [Oh.un] at h
  | .arr mu deep r o, n, (j, e) :: ob, d, h => by
    cases e with
    | arr mu' deep' r' xs =>
      simp only [Oh.un] at h
      split at h
      · rename_i hr
        subst hr
        cases e1 : (Nat.beq j n && (mu' == mu) && (deep' == deep)) with
        | true =>
          rw [e1] at h
          simp only [Bool.and_eq_true, beq_iff_eq] at e1
          obtain ⟨⟨h1, rfl⟩, rfl⟩ := e1
          have := Nat.eq_of_beq_eq_true h1
          subst this
          simp only [cond_true] at h
          split at h
          · rename_i f hf
            cases h
            simp only [Oh.mk]
            rw [← Oh.un_mk o hf]
          · cases h
        | false => rw [e1] at h; cases h
      · cases h
    | _ => simp [Oh.un] at h
  | .own st r o, n, [], d, h => by simp [Oh.un] at h
  | .own st r o, n, (j, e) :: ob, d, h => by
    cases e with
    | own st' r' xs =>
      simp only [Oh.un] at h
      split at h
      · rename_i hr
        subst hr
        cases e1 : (Nat.beq j n && (st' == st)) with
        | true =>
          rw [e1] at h
          simp only [Bool.and_eq_true, beq_iff_eq] at e1
          obtain ⟨h1, rfl⟩ := e1
          have := Nat.eq_of_beq_eq_true h1
          subst this
          simp only [cond_true] at h
          split at h
          · rename_i f hf
            cases h
            simp only [Oh.mk]
            rw [← Oh.un_mk o hf]
          · cases h
        | false => rw [e1] at h; cases h
      · cases h
    | _ => simp [Oh.un] at h
  | .box ss o, n, [], d, h => by simp [Oh.un] at h
  | .box ss o, n, (j, e) :: ob, d, h => by
    cases e with
    | box cs =>
      simp only [Oh.un] at h
      cases e1 : Nat.beq j n with
      | true =>
        rw [e1] at h
        have := Nat.eq_of_beq_eq_true e1
        subst this
        simp only [cond_true] at h
        split at h
        · rename_i f hf
          split at h
          · rename_i g hg
            cases h
            simp only [Oh.mk]
            rw [← ShL.un_mk ss hf, ← Oh.un_mk o hg]
          · cases h
        · cases h
      | false => rw [e1] at h; cases h
    | _ => simp [Oh.un] at h

structure Ss where
  tm : ShL
  ob : Oh
  nx : Nat
  io : ShL
abbrev Ss.T (s : Ss) : Type := s.tm.T × s.ob.T × s.io.T
def Ss.mk' (s : Ss) (d : s.T) : St := { tm := s.tm.mk d.1, ob := s.ob.mk 0 d.2.1, nx := s.nx, io := s.io.mk d.2.2 }
def Ss.un (s : Ss) (σ : St) : Option s.T :=
  match s.tm.un σ.tm with
  | none => none
  | some d => match s.ob.un 0 σ.ob with
    | none => none
    | some e => match s.io.un σ.io with
      | none => none
      | some f => bif Nat.beq σ.nx s.nx then some (d, e, f) else none
theorem Ss.un_mk {s : Ss} {σ : St} {d : s.T} (h : s.un σ = some d) : σ = s.mk' d := by
  unfold Ss.un at h
  split at h
  · cases h
  · rename_i d1 h1
    split at h
    · cases h
    · rename_i d2 h2
      split at h
      · cases h
      · rename_i d3 h3
        cases e : Nat.beq σ.nx s.nx with
        | false => rw [e] at h; cases h
        | true =>
          rw [e] at h
          cases h
          obtain ⟨tm, ob, nx, io⟩ := σ
          have := Nat.eq_of_beq_eq_true e
          simp only at h1 h2 h3 this
          subst this
          simp only [Ss.mk']
          rw [← ShL.un_mk _ h1, ← Oh.un_mk _ h2, ← ShL.un_mk _ h3]

/-! ### The loops of a piece of code -/
def loopsIn : Code → List Code
  | .seq a b => loopsIn a ++ loopsIn b
  | .cond _ a b => loopsIn a ++ loopsIn b
  | .block _ c => loopsIn c
  | .loop c => c :: loopsIn c
  | _ => []
def LoopOk (Γ : Env) (c : Code) : Prop := ∀ n F, firstRegion c = some n → Γ.sum n = some F → ∀ σ K r, F σ K = some r → ∃ m, rounds (run Γ c) (Γ.hint n).1 (Γ.hint n).2 m σ K = some r
theorem loopsOk_of {Γ : Env} : (c : Code) → (∀ b ∈ loopsIn c, LoopOk Γ b) → LoopsOk Γ c
  | .seq a b, h => ⟨loopsOk_of a (fun c hc => h c (by simp [loopsIn, hc])), loopsOk_of b (fun c hc => h c (by simp [loopsIn, hc]))⟩
  | .cond _ a b, h => ⟨loopsOk_of a (fun c hc => h c (by simp [loopsIn, hc])), loopsOk_of b (fun c hc => h c (by simp [loopsIn, hc]))⟩
  | .block _ c, h => loopsOk_of c (fun b hb => h b (by simpa [loopsIn] using hb))
  | .loop c, h => ⟨h c (by simp [loopsIn]), loopsOk_of c (fun b hb => h b (by simp [loopsIn, hb]))⟩
  | .skip, _ => trivial
  | .region _ _ _, _ => trivial
  | .exit _, _ => trivial
  | .goto _, _ => trivial
  | .label _, _ => trivial
  | .scope _, _ => trivial
  | .ret, _ => trivial
  | .rangeFunc _ _ _ _, _ => trivial
  | .refuse _, _ => trivial
end Go.Ev
