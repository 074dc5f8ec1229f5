/- StackMoved: parts EvNames EvShape EvLib EvGen EvSum EvBytes EvFam EvRows EvEditH EvStackH EvSig EvWeak EvSigN EvUtf PUtf PEdit PReq PLoop PEvent PMove Fsl02Small Fsl05Small EvFit Fsl08All FsStackOk Fsl06Place FsPosMove FsSpanMove FsEditMove Fsl08Moved PMoveF PStMv FsStackMoved Fiin FiEditisSmall FiareStacked1 FslicesIndexFuncEdit FslicesContainsFuncEdit FiareStacked, packed by squash.py. -/
import Derived.Test.YtpokeekakmijlaaProg
import Derived.Lib.Strings
import Derived.Test.YtpokeekakmijlaaZStackMoved0
import Derived.Test.YtpokeekakmijlaaZStackMoved1
import Derived.Test.YtpokeekakmijlaaZStackMoved2
set_option linter.unusedVariables false
set_option linter.unusedSimpArgs false
section
/- The seat's functions by name. Printed by names.py. -/
namespace Go.Ev.Seat
noncomputable abbrev F.l_FnExactStackMoved := Go.Proofs.Try.f5
abbrev N.l_FnExactStackMoved : Nat := 5
noncomputable abbrev F.l_szStack := Go.Proofs.Try.f29
abbrev N.l_szStack : Nat := 29
noncomputable abbrev F.l_szEdit := Go.Proofs.Try.f30
abbrev N.l_szEdit : Nat := 30
noncomputable abbrev F.s_StackMoved := Go.Proofs.Try.f31
abbrev N.s_StackMoved : Nat := 31
noncomputable abbrev F.l_toStack := Go.Proofs.Try.f32
abbrev N.l_toStack : Nat := 32
noncomputable abbrev F.l_toEdit := Go.Proofs.Try.f33
abbrev N.l_toEdit : Nat := 33
noncomputable abbrev F.i_StackMoved := Go.Proofs.Try.f34
abbrev N.i_StackMoved : Nat := 34
noncomputable abbrev F.l_eqStack := Go.Proofs.Try.f35
abbrev N.l_eqStack : Nat := 35
noncomputable abbrev F.l_eqEdit := Go.Proofs.Try.f36
abbrev N.l_eqEdit : Nat := 36
noncomputable abbrev F.l_markStack := Go.Proofs.Try.f37
abbrev N.l_markStack : Nat := 37
noncomputable abbrev F.l_markEdit := Go.Proofs.Try.f38
abbrev N.l_markEdit : Nat := 38
noncomputable abbrev F.l_heldStack := Go.Proofs.Try.f39
abbrev N.l_heldStack : Nat := 39
noncomputable abbrev F.i_Edit_isSmall := Go.Proofs.Try.f87
abbrev N.i_Edit_isSmall : Nat := 87
noncomputable abbrev F.s_l05Small := Go.Proofs.Try.f89
abbrev N.s_l05Small : Nat := 89
noncomputable abbrev F.s_SpanMove := Go.Proofs.Try.f90
abbrev N.s_SpanMove : Nat := 90
noncomputable abbrev F.l_szEditS := Go.Proofs.Try.f92
abbrev N.l_szEditS : Nat := 92
noncomputable abbrev F.l_szByteS := Go.Proofs.Try.f93
abbrev N.l_szByteS : Nat := 93
noncomputable abbrev F.s_StackOk := Go.Proofs.Try.f94
abbrev N.s_StackOk : Nat := 94
noncomputable abbrev F.s_l08Moved := Go.Proofs.Try.f95
abbrev N.s_l08Moved : Nat := 95
noncomputable abbrev F.l_toEditS := Go.Proofs.Try.f96
abbrev N.l_toEditS : Nat := 96
noncomputable abbrev F.l_toByteS := Go.Proofs.Try.f97
abbrev N.l_toByteS : Nat := 97
noncomputable abbrev F.i_isStack := Go.Proofs.Try.f98
abbrev N.i_isStack : Nat := 98
noncomputable abbrev F.i_Stack_moved := Go.Proofs.Try.f99
abbrev N.i_Stack_moved : Nat := 99
noncomputable abbrev F.l_eqEditS := Go.Proofs.Try.f100
abbrev N.l_eqEditS : Nat := 100
noncomputable abbrev F.l_eqByteS := Go.Proofs.Try.f101
abbrev N.l_eqByteS : Nat := 101
noncomputable abbrev F.l_markEditS := Go.Proofs.Try.f102
abbrev N.l_markEditS : Nat := 102
noncomputable abbrev F.l_markByteS := Go.Proofs.Try.f103
abbrev N.l_markByteS : Nat := 103
noncomputable abbrev F.l_heldEditS := Go.Proofs.Try.f104
abbrev N.l_heldEditS : Nat := 104
noncomputable abbrev F.i_in := Go.Proofs.Try.f135
abbrev N.i_in : Nat := 135
noncomputable abbrev F.i_Edit_span := Go.Proofs.Try.f150
abbrev N.i_Edit_span : Nat := 150
noncomputable abbrev F.s_l02Small := Go.Proofs.Try.f151
abbrev N.s_l02Small : Nat := 151
noncomputable abbrev F.s_PosMove := Go.Proofs.Try.f152
abbrev N.s_PosMove : Nat := 152
noncomputable abbrev F.s_l08All := Go.Proofs.Try.f153
abbrev N.s_l08All : Nat := 153
noncomputable abbrev F.s_EditMove := Go.Proofs.Try.f154
abbrev N.s_EditMove : Nat := 154
noncomputable abbrev F.i_areStacked := Go.Proofs.Try.f155
abbrev N.i_areStacked : Nat := 155
noncomputable abbrev F.i_Stack_copied := Go.Proofs.Try.f156
abbrev N.i_Stack_copied : Nat := 156
noncomputable abbrev F.i_Edit_moved := Go.Proofs.Try.f157
abbrev N.i_Edit_moved : Nat := 157
noncomputable abbrev F.l_heldByteS := Go.Proofs.Try.f158
abbrev N.l_heldByteS : Nat := 158
noncomputable abbrev F.i_Edit_pos := Go.Proofs.Try.f192
abbrev N.i_Edit_pos : Nat := 192
noncomputable abbrev F.s_l06Place := Go.Proofs.Try.f193
abbrev N.s_l06Place : Nat := 193
noncomputable abbrev F.slices_ContainsFunc_Edit := Go.Proofs.Try.f194
abbrev N.slices_ContainsFunc_Edit : Nat := 194
noncomputable abbrev F.i_areStacked_1 := Go.Proofs.Try.f195
abbrev N.i_areStacked_1 : Nat := 195
noncomputable abbrev F.i_edits := Go.Proofs.Try.f196
abbrev N.i_edits : Nat := 196
noncomputable abbrev F.slices_IndexFunc_Edit := Go.Proofs.Try.f212
abbrev N.slices_IndexFunc_Edit : Nat := 212
noncomputable abbrev F.i_Edit_copied := Go.Proofs.Try.f213
abbrev N.i_Edit_copied : Nat := 213
noncomputable abbrev F.slices_Clone_bytes_byte := Go.Proofs.Try.f222
abbrev N.slices_Clone_bytes_byte : Nat := 222
end Go.Ev.Seat
end
section
/- Shapes of states: which data stand where. -/
set_option linter.unusedVariables false
namespace Go.Ev

mutual
inductive Sh where
  | x | nl | int (k : IntKind) | bool | str | l (o : Ow) (r : Rw) | w (k : Nat) | pb (k c : Nat) | a (ss : ShL) | io (ss : ShL) | f (g : Nat) (ss : ShL) | qb (ss : ShL) (c : Nat) | lit (v : Value) | q (r : Rw) (c : Nat) | r (k : Nat) | pa (k c : Nat)
inductive ShL where
  | nil
  | cons (s : Sh) (ss : ShL)
end
mutual
@[reducible] def Sh.T : Sh → Type
  | .int _ => Int
  | .bool => Bool
  | .str => ByteArray
  | .l _ r => List r.T
  | .a ss => ss.T
  | .io ss => ss.T
  | .f _ ss => ss.T
  | .qb ss _ => ss.T
  | .q r _ => r.T
  | .r _ => Nat × Nat
  | .pa _ _ => Nat
  | _ => Unit
@[reducible] def ShL.T : ShL → Type
  | .nil => Unit
  | .cons s ss => s.T × ss.T
end
mutual
def Sh.mk : (s : Sh) → s.T → V
  | .x, _ => .x
  | .nl, _ => .nl
  | .int k, n => .s (.int k n)
  | .bool, b => .s (.bool b)
  | .str, b => .s (.string b)
  | .l o r, xs => .l o r xs
  | .w k, _ => .w k
  | .pb k c, _ => .pb k c
  | .a ss, d => .a (ss.mk d)
  | .io ss, d => .io (ss.mk d)
  | .f g ss, d => .f g (ss.mk d)
  | .qb ss c, d => .qb (ss.mk d) c
  | .lit v, _ => .s v
  | .q r c, d => .q r d c
  | .r k, d => .r k d.1 d.2
  | .pa k c, i => .pa k i c
def ShL.mk : (ss : ShL) → ss.T → List V
  | .nil, _ => []
  | .cons s ss, d => s.mk d.1 :: ss.mk d.2
end
mutual
def Sh.un : (s : Sh) → V → Option s.T
  | .x, .x => some ()
  | .nl, .nl => some ()
  | .int k, .s (.int k' n) => if k' = k then some n else none
  | .bool, .s (.bool b) => some b
  | .str, .s (.string b) => some b
  | .l o r, .l o' r' xs => if h : r' = r then (if o' = o then some (h ▸ xs) else none) else none
  | .w k, .w j => bif Nat.beq j k then some () else none
  | .pb k c, .pb j e => bif Nat.beq j k && Nat.beq e c then some () else none
  | .a ss, .a cs => ss.un cs
  | .io ss, .io cs => ss.un cs
  | .f g ss, .f g' cs => bif Nat.beq g' g then ss.un cs else none
  | .qb ss c, .qb cs c' => bif Nat.beq c' c then ss.un cs else none
  | .q r c, .q r' d c' => if h : r' = r then (bif Nat.beq c' c then some (h ▸ d) else none) else none
  | .r k, .r j off len => bif Nat.beq j k then some (off, len) else none
  | .pa k c, .pa j i e => bif Nat.beq j k && Nat.beq e c then some i else none
  | _, _ => none
def ShL.un : (ss : ShL) → List V → Option ss.T
  | .nil, [] => some ()
  | .cons s ss, v :: vs => match s.un v with
    | some d => match ss.un vs with
      | some e => some (d, e)
      | none => none
    | none => none
  | _, _ => none
end
mutual
theorem Sh.un_mk : (s : Sh) → {v : V} → {d : s.T} → s.un v = some d → v = s.mk d
  | .x, v, d, h => by cases v <;> simp [Sh.un] at h; rfl
  | .nl, v, d, h => by cases v <;> simp [Sh.un] at h; rfl
  | .int k, v, d, h => by
    cases v with
    | s u =>
      cases u with
      | int k' n =>
        simp only [Sh.un] at h
        split at h
        · rename_i hk; subst hk; cases h; rfl
        · cases h
      | _ => simp [Sh.un] at h
    | _ => simp [Sh.un] at h
  | .bool, v, d, h => by
    cases v with
    | s u =>
      cases u with
      | bool b => simp only [Sh.un] at h; cases h; rfl
      | _ => simp [Sh.un] at h
    | _ => simp [Sh.un] at h
  | .str, v, d, h => by
    cases v with
    | s u =>
      cases u with
      | string b => simp only [Sh.un] at h; cases h; rfl
      | _ => simp [Sh.un] at h
    | _ => simp [Sh.un] at h
  | .l o r, v, d, h => by
    cases v with
    | l o' r' xs =>
      simp only [Sh.un] at h
      split at h
      · rename_i hr
        subst hr
        split at h
        · rename_i ho; subst ho; cases h; rfl
        · cases h
      · cases h
    | _ => simp [Sh.un] at h
  | .lit u, v, d, h => by simp [Sh.un] at h
  | .io ss, v, d, h => by
    cases v with
    | io cs => simp only [Sh.un] at h; simp only [Sh.mk]; rw [ShL.un_mk ss h]
    | _ => simp [Sh.un] at h
  | .f g ss, v, d, h => by
    cases v with
    | f g' cs =>
      simp only [Sh.un] at h
      cases e : Nat.beq g' g with
      | true => rw [e] at h; simp only [Sh.mk]; rw [ShL.un_mk ss h, Nat.eq_of_beq_eq_true e]
      | false => rw [e] at h; cases h
    | _ => simp [Sh.un] at h
  | .qb ss c, v, d, h => by
    cases v with
    | qb cs c' =>
      simp only [Sh.un] at h
      cases e : Nat.beq c' c with
      | true => rw [e] at h; simp only [Sh.mk]; rw [ShL.un_mk ss h, Nat.eq_of_beq_eq_true e]
      | false => rw [e] at h; cases h
    | _ => simp [Sh.un] at h
  | .q r c, v, d, h => by
    cases v with
    | q r' e c' =>
      simp only [Sh.un] at h
      split at h
      · rename_i hr
        subst hr
        cases e1 : Nat.beq c' c with
        | true => rw [e1] at h; cases h; rw [Nat.eq_of_beq_eq_true e1]; rfl
        | false => rw [e1] at h; cases h
      · cases h
    | _ => simp [Sh.un] at h
  | .r k, v, d, h => by
    cases v with
    | r j off len =>
      simp only [Sh.un] at h
      cases e : Nat.beq j k with
      | true => rw [e] at h; cases h; rw [Nat.eq_of_beq_eq_true e]; rfl
      | false => rw [e] at h; cases h
    | _ => simp [Sh.un] at h
  | .pa k c, v, d, h => by
    cases v with
    | pa j i e =>
      simp only [Sh.un] at h
      cases e1 : (Nat.beq j k && Nat.beq e c) with
      | true =>
        rw [e1] at h
        simp only [Bool.and_eq_true] at e1
        cases h
        rw [Nat.eq_of_beq_eq_true e1.1, Nat.eq_of_beq_eq_true e1.2]; rfl
      | false => rw [e1] at h; cases h
    | _ => simp [Sh.un] at h
  | .w k, v, d, h => by
    cases v with
    | w j =>
      simp only [Sh.un] at h
      cases e : Nat.beq j k with
      | true => rw [Nat.eq_of_beq_eq_true e]; rfl
      | false => rw [e] at h; cases h
    | _ => simp [Sh.un] at h
  | .pb k c, v, d, h => by
    cases v with
    | pb j e =>
      simp only [Sh.un] at h
      cases e1 : (Nat.beq j k && Nat.beq e c) with
      | true =>
        simp only [Bool.and_eq_true] at e1
        rw [Nat.eq_of_beq_eq_true e1.1, Nat.eq_of_beq_eq_true e1.2]; rfl
      | false => rw [e1] at h; cases h
    | _ => simp [Sh.un] at h
  | .a ss, v, d, h => by
    cases v with
    | a cs => simp only [Sh.un] at h; simp only [Sh.mk]; rw [ShL.un_mk ss h]
    | _ => simp [Sh.un] at h
theorem ShL.un_mk : (ss : ShL) → {vs : List V} → {d : ss.T} → ss.un vs = some d → vs = ss.mk d
  | .nil, [], d, h => rfl
  | .nil, _ :: _, d, h => by simp [ShL.un] at h
  | .cons s ss, [], d, h => by simp [ShL.un] at h
  | .cons s ss, v :: vs, d, h => by
    simp only [ShL.un] at h
    split at h
    · rename_i e he
      split at h
      · rename_i f hf
        cases h
        simp only [ShL.mk]
        rw [← Sh.un_mk s he, ← ShL.un_mk ss hf]
      · cases h
    · cases h
end

/-- Objects, numbered from n on. -/
inductive Oh where
  | nil
  | arr (mu deep : Bool) (r : Rw) (o : Oh)
  | own (st : Bool) (r : Rw) (o : Oh)
  | box (ss : ShL) (o : Oh)
@[reducible] def Oh.T : Oh → Type
  | .nil => Unit
  | .arr _ _ r o => List r.T × o.T
  | .own _ r o => List r.T × o.T
  | .box ss o => ss.T × o.T
def Oh.mk : (o : Oh) → Nat → o.T → Obs
  | .nil, _, _ => []
  | .arr mu deep r o, n, d => (n, .arr mu deep r d.1) :: o.mk (n + 1) d.2
  | .own st r o, n, d => (n, .own st r d.1) :: o.mk (n + 1) d.2
  | .box ss o, n, d => (n, .box (ss.mk d.1)) :: o.mk (n + 1) d.2
def Oh.un : (o : Oh) → Nat → Obs → Option o.T
  | .nil, _, [] => some ()
  | .arr mu deep r o, n, (j, .arr mu' deep' r' xs) :: ob => if h : r' = r then (bif Nat.beq j n && (mu' == mu) && (deep' == deep) then (match o.un (n + 1) ob with
    | some e => some (h ▸ xs, e)
    | none => none) else none) else none
  | .own st r o, n, (j, .own st' r' xs) :: ob => if h : r' = r then (bif Nat.beq j n && (st' == st) then (match o.un (n + 1) ob with
    | some e => some (h ▸ xs, e)
    | none => none) else none) else none
  | .box ss o, n, (j, .box cs) :: ob => bif Nat.beq j n then (match ss.un cs with
    | some d => match o.un (n + 1) ob with
      | some e => some (d, e)
      | none => none
    | none => none) else none
  | _, _, _ => none
theorem Oh.un_mk : (o : Oh) → {n : Nat} → {ob : Obs} → {d : o.T} → o.un n ob = some d → ob = o.mk n d
  | .nil, n, [], d, h => rfl
  | .nil, n, _ :: _, d, h => by simp [Oh.un] at h
  | .arr mu deep r o, n, [], d, h => by simp [Oh.un] at h
  | .arr mu deep r o, n, (j, e) :: ob, d, h => by
    cases e with
    | arr mu' deep' r' xs =>
      simp only [Oh.un] at h
      split at h
      · rename_i hr
        subst hr
        cases e1 : (Nat.beq j n && (mu' == mu) && (deep' == deep)) with
        | true =>
          rw [e1] at h
          simp only [Bool.and_eq_true, beq_iff_eq] at e1
          obtain ⟨⟨h1, rfl⟩, rfl⟩ := e1
          have := Nat.eq_of_beq_eq_true h1
          subst this
          simp only [cond_true] at h
          split at h
          · rename_i f hf
            cases h
            simp only [Oh.mk]
            rw [← Oh.un_mk o hf]
          · cases h
        | false => rw [e1] at h; cases h
      · cases h
    | _ => simp [Oh.un] at h
  | .own st r o, n, [], d, h => by simp [Oh.un] at h
  | .own st r o, n, (j, e) :: ob, d, h => by
    cases e with
    | own st' r' xs =>
      simp only [Oh.un] at h
      split at h
      · rename_i hr
        subst hr
        cases e1 : (Nat.beq j n && (st' == st)) with
        | true =>
          rw [e1] at h
          simp only [Bool.and_eq_true, beq_iff_eq] at e1
          obtain ⟨h1, rfl⟩ := e1
          have := Nat.eq_of_beq_eq_true h1
          subst this
          simp only [cond_true] at h
          split at h
          · rename_i f hf
            cases h
            simp only [Oh.mk]
            rw [← Oh.un_mk o hf]
          · cases h
        | false => rw [e1] at h; cases h
      · cases h
    | _ => simp [Oh.un] at h
  | .box ss o, n, [], d, h => by simp [Oh.un] at h
  | .box ss o, n, (j, e) :: ob, d, h => by
    cases e with
    | box cs =>
      simp only [Oh.un] at h
      cases e1 : Nat.beq j n with
      | true =>
        rw [e1] at h
        have := Nat.eq_of_beq_eq_true e1
        subst this
        simp only [cond_true] at h
        split at h
        · rename_i f hf
          split at h
          · rename_i g hg
            cases h
            simp only [Oh.mk]
            rw [← ShL.un_mk ss hf, ← Oh.un_mk o hg]
          · cases h
        · cases h
      | false => rw [e1] at h; cases h
    | _ => simp [Oh.un] at h

structure Ss where
  tm : ShL
  ob : Oh
  nx : Nat
  io : ShL
abbrev Ss.T (s : Ss) : Type := s.tm.T × s.ob.T × s.io.T
def Ss.mk' (s : Ss) (d : s.T) : St := { tm := s.tm.mk d.1, ob := s.ob.mk 0 d.2.1, nx := s.nx, io := s.io.mk d.2.2 }
def Ss.un (s : Ss) (σ : St) : Option s.T :=
  match s.tm.un σ.tm with
  | none => none
  | some d => match s.ob.un 0 σ.ob with
    | none => none
    | some e => match s.io.un σ.io with
      | none => none
      | some f => bif Nat.beq σ.nx s.nx then some (d, e, f) else none
theorem Ss.un_mk {s : Ss} {σ : St} {d : s.T} (h : s.un σ = some d) : σ = s.mk' d := by
  unfold Ss.un at h
  split at h
  · cases h
  · rename_i d1 h1
    split at h
    · cases h
    · rename_i d2 h2
      split at h
      · cases h
      · rename_i d3 h3
        cases e : Nat.beq σ.nx s.nx with
        | false => rw [e] at h; cases h
        | true =>
          rw [e] at h
          cases h
          obtain ⟨tm, ob, nx, io⟩ := σ
          have := Nat.eq_of_beq_eq_true e
          simp only at h1 h2 h3 this
          subst this
          simp only [Ss.mk']
          rw [← ShL.un_mk _ h1, ← Oh.un_mk _ h2, ← ShL.un_mk _ h3]

/-! ### The loops of a piece of code -/
def loopsIn : Code → List Code
  | .seq a b => loopsIn a ++ loopsIn b
  | .cond _ a b => loopsIn a ++ loopsIn b
  | .block _ c => loopsIn c
  | .loop c => c :: loopsIn c
  | _ => []
def LoopOk (Γ : Env) (c : Code) : Prop := ∀ n F, firstRegion c = some n → Γ.sum n = some F → ∀ σ K r, F σ K = some r → ∃ m, rounds (run Γ c) (Γ.hint n).1 (Γ.hint n).2 m σ K = some r
theorem loopsOk_of {Γ : Env} : (c : Code) → (∀ b ∈ loopsIn c, LoopOk Γ b) → LoopsOk Γ c
  | .seq a b, h => ⟨loopsOk_of a (fun c hc => h c (by simp [loopsIn, hc])), loopsOk_of b (fun c hc => h c (by simp [loopsIn, hc]))⟩
  | .cond _ a b, h => ⟨loopsOk_of a (fun c hc => h c (by simp [loopsIn, hc])), loopsOk_of b (fun c hc => h c (by simp [loopsIn, hc]))⟩
  | .block _ c, h => loopsOk_of c (fun b hb => h b (by simpa [loopsIn] using hb))
  | .loop c, h => ⟨h c (by simp [loopsIn]), loopsOk_of c (fun b hb => h b (by simp [loopsIn, hb]))⟩
  | .skip, _ => trivial
  | .region _ _ _, _ => trivial
  | .exit _, _ => trivial
  | .goto _, _ => trivial
  | .label _, _ => trivial
  | .scope _, _ => trivial
  | .ret, _ => trivial
  | .rangeFunc _ _ _ _, _ => trivial
  | .refuse _, _ => trivial
end Go.Ev
end
section
/- What the functions' texts share. -/
namespace Go.Ev
set_option linter.unusedVariables false
/-- A loop's summary out of a shape. -/
def loopF (sh : Ss) (R : sh.T → (Ex → St → Option Ret) → Option Ret) (σ : St) (K : Ex → St → Option Ret) : Option Ret :=
  match sh.un σ with
  | none => none
  | some d => R d K
theorem loopF_ok {Γ : Env} {c : Code} {n : Nat} {sh : Ss} {R : sh.T → (Ex → St → Option Ret) → Option Ret} (hn : firstRegion c = some n) (hs : Γ.sum n = some (loopF sh R)) {li lo : List Nat} (hh : Γ.hint n = (li, lo)) (h : ∀ d K r, R d K = some r → ∃ m, rounds (run Γ c) li lo m (sh.mk' d) K = some r) : LoopOk Γ c := by
  intro n' F hn' hF σ K r hr
  rw [hn] at hn'
  cases hn'
  rw [hs] at hF
  cases hF
  unfold loopF at hr
  split at hr
  · cases hr
  · rename_i d hd
    rw [Ss.un_mk hd, hh]
    exact h d K r hr
abbrev LoopFn := St → (Ex → St → Option Ret) → Option Ret
theorem loopW_ok {Γ : Env} {c : Code} {n : Nat} {F : LoopFn} (hn : firstRegion c = some n) (hs : Γ.sum n = some F) {li lo : List Nat} (hh : Γ.hint n = (li, lo)) (h : ∀ σ K r, F σ K = some r → ∃ m, rounds (run Γ c) li lo m σ K = some r) : LoopOk Γ c := by
  intro n' F' hn' hF σ K r hr
  rw [hn] at hn'
  cases hn'
  rw [hs] at hF
  cases hF
  rw [hh]
  exact h σ K r hr
/-- The loops of a function: number, what lives at the head, at the exit, the summary. -/
def sumOf : List (Nat × List Nat × List Nat × LoopFn) → Nat → Option LoopFn
  | [], _ => none
  | (k, _, _, F) :: l, n => bif Nat.beq n k then some F else sumOf l n
def hintOf : List (Nat × List Nat × List Nat × LoopFn) → Nat → List Nat × List Nat
  | [], _ => ([], [])
  | (k, a, b, _) :: l, n => bif Nat.beq n k then (a, b) else hintOf l n
def planOf : List (Nat × Plan × List Nat) → Nat → Option (Plan × List Nat)
  | [], _ => none
  | (k, p, t) :: l, n => bif Nat.beq n k then some (p, t) else planOf l n
def memN (l : List Nat) (n : Nat) : Bool := l.any (Nat.beq n)
def xsh : Nat → ShL
  | 0 => .nil
  | n + 1 => .cons .x (xsh n)
def xd : (n : Nat) → (xsh n).T
  | 0 => ()
  | n + 1 => ((), xd n)
/-- The loop's body whose first region is n. -/
def bodyOf (f : Func) (n : Nat) : Code :=
  ((loopsIn (f.body.getD .skip)).find? (fun c => match firstRegion c with
    | some m => Nat.beq m n
    | none => false)).getD .skip
theorem wrap_id {n : Int} (h0 : 0 ≤ n) (h1 : n ≤ 4611686018427387905) : IntKind.i64.wrap n = n := by
  have : IntKind.i64.wrap n = Go.RowKit.wrap64 n := by
    simp only [IntKind.wrap, IntKind.bits, IntKind.signed, Go.RowKit.wrap64, Bool.true_and]
    split <;> simp_all <;> omega
  rw [this]; unfold Go.RowKit.wrap64; omega
theorem wrap_in {n : Int} (h0 : -9223372036854775808 ≤ n) (h1 : n ≤ 9223372036854775807) : IntKind.i64.wrap n = n := by
  have : IntKind.i64.wrap n = Go.RowKit.wrap64 n := by
    simp only [IntKind.wrap, IntKind.bits, IntKind.signed, Go.RowKit.wrap64, Bool.true_and]
    split <;> simp_all <;> omega
  rw [this]; unfold Go.RowKit.wrap64; omega
def takes : List Nat → Plan
  | [] => .done
  | i :: l => .take i (takes l)
def takeB : List Nat → Plan → Plan
  | [], p => p
  | i :: l, p => .take i (takeB l p)
section
variable {P : Program} {I : Nat → World → Prop}
theorem mem0 : ∀ q ∈ ([] : List (Nat × Bool × Sm)), OkFn P I q.1 q.2.1 q.2.2 := fun _ h => nomatch h
theorem memc {g : Nat} {b : Bool} {G : Sm} {l : List (Nat × Bool × Sm)} (h : OkFn P I g b G) (hl : ∀ q ∈ l, OkFn P I q.1 q.2.1 q.2.2) : ∀ q ∈ (g, b, G) :: l, OkFn P I q.1 q.2.1 q.2.2 := fun q hq => by
  rcases List.mem_cons.1 hq with rfl | hq
  · exact h
  · exact hl q hq
/-- All loops of a function, one after the other. -/
def LoopsAll (Γ : Env) (cs : List Code) : Prop := ∀ b ∈ cs, LoopOk Γ b
theorem loops0 {Γ : Env} : LoopsAll Γ [] := fun _ h => nomatch h
theorem loopsc {Γ : Env} {c : Code} {cs : List Code} (h : LoopOk Γ c) (hl : LoopsAll Γ cs) : LoopsAll Γ (c :: cs) := fun q hq => by
  rcases List.mem_cons.1 hq with rfl | hq
  · exact h
  · exact hl q hq
end
def nilsOf : List (Nat × List (Nat × Nat × Rw)) → Nat → List (Nat × Nat × Rw)
  | [], _ => []
  | (k, q) :: l, n => bif Nat.beq n k then q else nilsOf l n
/-- A table of types, contracts, plans and loops. -/
def mkE (ty : Nat → Option Ty) (l : List (Nat × Bool × Sm)) (p : List (Nat × Plan × List Nat) := []) (ls : List (Nat × List Nat × List Nat × LoopFn) := []) (lend : List Nat := []) (focus : Bool := false) (fuel : Nat := 0) (give : List Nat := []) (glob : Nat → Option ((r : Rw) × List r.T) := fun _ => none) (nils : List (Nat × List (Nat × Nat × Rw)) := []) : Env :=
  { ty := ty, fn := tab l, hint := hintOf ls, plan := planOf p, sum := sumOf ls, lend := ⟨memN lend, memN give⟩, focus := focus, fuel := fuel, glob := glob, nils := nilsOf nils }
end Go.Ev
namespace Go.Ev.Seat
open Go.RowKit
set_option maxRecDepth 100000
set_option linter.unusedVariables false
noncomputable abbrev prog := Go.Proofs.Try.prog
noncomputable abbrev En (l : List (Nat × Bool × Sm)) (p : List (Nat × Plan × List Nat) := []) (ls : List (Nat × List Nat × List Nat × LoopFn) := []) (lend : List Nat := []) (focus : Bool := false) (fuel : Nat := 0) (give : List Nat := []) (nils : List (Nat × List (Nat × Nat × Rw)) := []) : Env := mkE tys.get l p ls lend focus fuel give globs nils
/-- A function keeps its contract. -/
theorem ok_fn {l : List (Nat × Bool × Sm)} {p : List (Nat × Plan × List Nat)} {ls : List (Nat × List Nat × List Nat × LoopFn)} {lend : List Nat} {focus : Bool} {fuel : Nat} {give : List Nat} {nils : List (Nat × List (Nat × Nat × Rw))} (hl : ∀ q ∈ l, OkFn prog I q.1 q.2.1 q.2.2) {g : FuncId} {fn : Func} (hg : prog.funcs[g]? = some fn) (hname : (fn.name == "runtime.NumGoroutine") = false) (hb : fn.body = some (fn.body.getD .skip)) (hpl : plansOk (planOf p) (fn.body.getD .skip) = true) {cs : List Code} (hcs : loopsIn (fn.body.getD .skip) = cs) (hlo : LoopsAll (En l p ls lend focus fuel give nils) cs) {fresh : Bool} : OkFn prog I g fresh (evF (En l p ls lend focus fuel give nils) fresh fn) :=
  evF_ok (Γ := En l p ls lend focus fuel give nils) mixed tysOk ⟨fun g fresh G h => tab_ok hl g fresh G h, globOk rfl⟩ hg hname hb hpl (loopsOk_of _ (by rw [hcs]; exact hlo))
abbrev bytesR : Rw := .one (.int .u8)
end Go.Ev.Seat
end
section
/- The laws' helpers, for all kinds of rows at once: how much lies there, equal, copied, marked, held. -/
set_option linter.unusedVariables false
namespace Go.Ev

/-! ### Marks -/
def markList {α : Type} (f : α → Int → α × Int) : List α → Int → List α × Int
  | [], k => ([], k)
  | x :: xs, k => ((f x k).1 :: (markList f xs (f x k).2).1, (markList f xs (f x k).2).2)
/-- The text of a mark; what it is does not matter here. -/
structure MText where
  t : Int → ByteArray
def markInt : IntKind → Int → Int
  | .i64, n => n
  | k, n => k.wrap n
mutual
def Cc.mark (T : MText) : (c : Cc) → c.T → Int → c.T × Int
  | .int k, _, n => (markInt k n, IntKind.i64.wrap (n + 1))
  | .bool, b, n => (b, n)
  | .str, _, n => (T.t n, IntKind.i64.wrap (n + 1))
  | .sl r, xs, n => markList (r.mark T) xs n
def Rw.mark (T : MText) : (r : Rw) → r.T → Int → r.T × Int
  | .one c, d, n => c.mark T d n
  | .cons c r, d, n => ((( c.mark T d.1 n).1, (r.mark T d.2 (c.mark T d.1 n).2).1), (r.mark T d.2 (c.mark T d.1 n).2).2)
end
/-- Of a struct that goes by value only the slices are marked. -/
def Cc.markA (T : MText) : (c : Cc) → c.T → Int → c.T × Int
  | .sl r, xs, n => markList (r.mark T) xs n
  | _, d, n => (d, n)
def Rw.markA (T : MText) : (r : Rw) → r.T → Int → r.T × Int
  | .one c, d, n => c.markA T d n
  | .cons c r, d, n => (((c.markA T d.1 n).1, (r.markA T d.2 (c.markA T d.1 n).2).1), (r.markA T d.2 (c.markA T d.1 n).2).2)

theorem markList_len {α : Type} (f : α → Int → α × Int) : ∀ (xs : List α) (k : Int), (markList f xs k).1.length = xs.length
  | [], _ => rfl
  | x :: xs, k => by simp [markList, markList_len f xs]
theorem markList_idem {α : Type} {f : α → Int → α × Int} (h : ∀ x k, f (f x k).1 k = f x k) : ∀ (xs : List α) (k : Int), markList f (markList f xs k).1 k = markList f xs k
  | [], _ => rfl
  | x :: xs, k => by simp only [markList, h, markList_idem h xs]
mutual
theorem Cc.mark_idem (T : MText) : (c : Cc) → (d : c.T) → (k : Int) → c.mark T (c.mark T d k).1 k = c.mark T d k
  | .int _, _, _ => rfl
  | .bool, _, _ => rfl
  | .str, _, _ => rfl
  | .sl r, xs, k => by simp only [Cc.mark]; exact markList_idem (fun x k => Rw.mark_idem T r x k) xs k
theorem Rw.mark_idem (T : MText) : (r : Rw) → (d : r.T) → (k : Int) → r.mark T (r.mark T d k).1 k = r.mark T d k
  | .one c, d, k => Cc.mark_idem T c d k
  | .cons c r, d, k => by simp only [Rw.mark, Cc.mark_idem T c, Rw.mark_idem T r]
end
theorem Cc.markA_idem (T : MText) : (c : Cc) → (d : c.T) → (k : Int) → c.markA T (c.markA T d k).1 k = c.markA T d k
  | .int _, _, _ => rfl
  | .bool, _, _ => rfl
  | .str, _, _ => rfl
  | .sl r, xs, k => by simp only [Cc.markA]; exact markList_idem (fun x k => Rw.mark_idem T r x k) xs k
theorem Rw.markA_idem (T : MText) : (r : Rw) → (d : r.T) → (k : Int) → r.markA T (r.markA T d k).1 k = r.markA T d k
  | .one c, d, k => Cc.markA_idem T c d k
  | .cons c r, d, k => by simp only [Rw.markA, Cc.markA_idem T c, Rw.markA_idem T r]

/-! ### How much -/
def sumW {α : Type} (f : α → Nat) : List α → Nat
  | [] => 0
  | x :: xs => f x + sumW f xs
mutual
def Cc.w : (c : Cc) → c.T → Nat
  | .int _, _ => 0
  | .bool, _ => 0
  | .str, s => s.size
  | .sl r, xs => xs.length + sumW r.w xs
def Rw.w : (r : Rw) → r.T → Nat
  | .one c, d => c.w d
  | .cons c r, d => c.w d.1 + r.w d.2
end
mutual
def Cc.marks : (c : Cc) → c.T → Nat
  | .int _, _ => 1
  | .bool, _ => 0
  | .str, _ => 1
  | .sl r, xs => sumW r.marks xs
def Rw.marks : (r : Rw) → r.T → Nat
  | .one c, d => c.marks d
  | .cons c r, d => c.marks d.1 + r.marks d.2
end
def Cc.marksA : (c : Cc) → c.T → Nat
  | .sl r, xs => sumW r.marks xs
  | _, _ => 0
def Rw.marksA : (r : Rw) → r.T → Nat
  | .one c, d => c.marksA d
  | .cons c r, d => c.marksA d.1 + r.marksA d.2
theorem markList_cnt {α : Type} {f : α → Int → α × Int} {m : α → Nat} (h : ∀ x (k : Int), 0 ≤ k → k + m x ≤ 4611686018427387904 → (f x k).2 = k + m x) : ∀ (xs : List α) (k : Int), 0 ≤ k → k + sumW m xs ≤ 4611686018427387904 → (markList f xs k).2 = k + sumW m xs
  | [], k, _, _ => by simp [markList, sumW]
  | x :: xs, k, h0, h1 => by
    simp only [markList, sumW] at h1 ⊢
    have e := h x k h0 (by omega)
    rw [markList_cnt h xs _ (by rw [e]; omega) (by rw [e]; omega), e]
    omega
mutual
theorem Cc.mark_cnt (T : MText) : (c : Cc) → (d : c.T) → (k : Int) → 0 ≤ k → k + c.marks d ≤ 4611686018427387904 → (c.mark T d k).2 = k + c.marks d
  | .int _, d, k, h0, h1 => by simp only [Cc.mark, Cc.marks] at h1 ⊢; rw [wrap_id (by omega) (by omega)]; rfl
  | .bool, d, k, h0, h1 => by simp [Cc.mark, Cc.marks]
  | .str, d, k, h0, h1 => by simp only [Cc.mark, Cc.marks] at h1 ⊢; rw [wrap_id (by omega) (by omega)]; rfl
  | .sl r, xs, k, h0, h1 => by simp only [Cc.mark, Cc.marks] at h1 ⊢; exact markList_cnt (fun x k => Rw.mark_cnt T r x k) xs k h0 h1
theorem Rw.mark_cnt (T : MText) : (r : Rw) → (d : r.T) → (k : Int) → 0 ≤ k → k + r.marks d ≤ 4611686018427387904 → (r.mark T d k).2 = k + r.marks d
  | .one c, d, k, h0, h1 => Cc.mark_cnt T c d k h0 h1
  | .cons c r, d, k, h0, h1 => by
    simp only [Rw.mark, Rw.marks] at h1 ⊢
    have e := Cc.mark_cnt T c d.1 k h0 (by omega)
    rw [Rw.mark_cnt T r d.2 _ (by rw [e]; omega) (by rw [e]; omega), e]
    omega
end
theorem Cc.markA_cnt (T : MText) : (c : Cc) → (d : c.T) → (k : Int) → 0 ≤ k → k + c.marksA d ≤ 4611686018427387904 → (c.markA T d k).2 = k + c.marksA d
  | .int _, d, k, h0, h1 => by simp [Cc.markA, Cc.marksA]
  | .bool, d, k, h0, h1 => by simp [Cc.markA, Cc.marksA]
  | .str, d, k, h0, h1 => by simp [Cc.markA, Cc.marksA]
  | .sl r, xs, k, h0, h1 => by simp only [Cc.markA, Cc.marksA] at h1 ⊢; exact markList_cnt (fun x k => Rw.mark_cnt T r x k) xs k h0 h1
theorem Rw.markA_cnt (T : MText) : (r : Rw) → (d : r.T) → (k : Int) → 0 ≤ k → k + r.marksA d ≤ 4611686018427387904 → (r.markA T d k).2 = k + r.marksA d
  | .one c, d, k, h0, h1 => Cc.markA_cnt T c d k h0 h1
  | .cons c r, d, k, h0, h1 => by
    simp only [Rw.markA, Rw.marksA] at h1 ⊢
    have e := Cc.markA_cnt T c d.1 k h0 (by omega)
    rw [Rw.markA_cnt T r d.2 _ (by rw [e]; omega) (by rw [e]; omega), e]
    omega

/-! ### Small enough to be copied -/
mutual
def Cc.lim : (c : Cc) → c.T → Bool
  | .int _, _ => true
  | .bool, _ => true
  | .str, _ => true
  | .sl r, xs => Nat.ble xs.length 1048576 && xs.all r.lim
def Rw.lim : (r : Rw) → r.T → Bool
  | .one c, d => c.lim d
  | .cons c r, d => c.lim d.1 && r.lim d.2
end
theorem sumW_mem {α : Type} {f : α → Nat} : ∀ {xs : List α} {x : α}, x ∈ xs → f x ≤ sumW f xs
  | y :: xs, x, h => by
    simp only [sumW]
    rcases List.mem_cons.1 h with rfl | h
    · omega
    · have := sumW_mem (f := f) h; omega
mutual
theorem Cc.lim_ok : (c : Cc) → (d : c.T) → c.w d ≤ 1048576 → c.lim d = true
  | .int _, _, _ => rfl
  | .bool, _, _ => rfl
  | .str, _, _ => rfl
  | .sl r, xs, h => by
    simp only [Cc.w] at h
    simp only [Cc.lim, Bool.and_eq_true, List.all_eq_true]
    refine ⟨Nat.ble_eq_true_of_le (by omega), fun x hx => ?_⟩
    have := sumW_mem (f := r.w) hx
    exact Rw.lim_ok r x (by omega)
theorem Rw.lim_ok : (r : Rw) → (d : r.T) → r.w d ≤ 1048576 → r.lim d = true
  | .one c, d, h => Cc.lim_ok c d h
  | .cons c r, d, h => by
    simp only [Rw.w] at h
    simp only [Rw.lim, Bool.and_eq_true]
    exact ⟨Cc.lim_ok c d.1 (by omega), Rw.lim_ok r d.2 (by omega)⟩
end
/-! ### Equality -/
noncomputable def eqD {α : Type} (x y : α) : Bool := by classical exact decide (x = y)
theorem eqD_self {α : Type} (x : α) : eqD x x = true := by simp [eqD]
theorem eqD_iff {α : Type} {x y : α} : eqD x y = true ↔ x = y := by simp [eqD]
theorem eqD_false {α : Type} {x y : α} (h : x ≠ y) : eqD x y = false := by simp [eqD, h]

/-! ### Rounds of loops over a list -/
section
variable {α β : Type} {ρ : Type}
theorem loop_to {R : Nat → Int → List α → ρ} {Kf : List α → ρ} {xs : List α} {z : α}
    (hs : ∀ n (i : Nat) ys, i < xs.length → ys.length = xs.length → R (n + 1) i ys = R n ((i + 1 : Nat) : Int) (ys.set i (xs.getD i z)))
    (he : ∀ n ys, ys.length = xs.length → R (n + 1) (xs.length : Nat) ys = Kf ys) (ys : List α) (hy : ys.length = xs.length) : R (xs.length + 1) 0 ys = Kf xs := by
  have key : ∀ (k i : Nat) (ys : List α), ys.length = xs.length → i + k = xs.length → R (k + 1) i ys = Kf (ys.take i ++ xs.drop i) := by
    intro k
    induction k with
    | zero =>
      intro i ys hy hi
      have : i = xs.length := by omega
      subst this
      rw [he 0 ys hy, List.drop_length, List.append_nil, ← hy, List.take_length]
    | succ k ih =>
      intro i ys hy hi
      rw [hs _ i ys (by omega) hy, ih (i + 1) _ (by simpa using hy) (by omega)]
      congr 1
      have hlt : i < xs.length := by omega
      have hly : i < ys.length := by omega
      rw [List.drop_eq_getElem_cons hlt, List.take_add_one, List.take_set, List.getElem?_set, if_pos rfl, if_pos hly, List.set_eq_of_length_le (by simp; exact Nat.min_le_left _ _)]
      rw [List.getD_eq_getElem?_getD, List.getElem?_eq_getElem hlt]
      simp
  have := key xs.length 0 ys hy (by omega)
  simpa using this
theorem loop_eq {R : Nat → Int → ρ} {kt kf : ρ} {xs ys : List α} {z : α} {e : α → α → Bool} (hE : ∀ a b, e a b = true ↔ a = b) (hl : ys.length = xs.length)
    (hs : ∀ n (i : Nat), i < xs.length → R (n + 1) i = bif e (xs.getD i z) (ys.getD i z) then R n ((i + 1 : Nat) : Int) else kf)
    (he : ∀ n, R (n + 1) (xs.length : Nat) = kt) : R (xs.length + 1) 0 = bif eqD xs ys then kt else kf := by
  have key : ∀ (k i : Nat), i + k = xs.length → R (k + 1) i = bif eqD (xs.drop i) (ys.drop i) then kt else kf := by
    intro k
    induction k with
    | zero =>
      intro i hi
      have : i = xs.length := by omega
      subst this
      rw [he 0, List.drop_length, ← hl, List.drop_length, eqD_self]; rfl
    | succ k ih =>
      intro i hi
      have hlt : i < xs.length := by omega
      have hly : i < ys.length := by omega
      rw [hs _ i hlt, ih (i + 1) (by omega), List.drop_eq_getElem_cons hlt, List.drop_eq_getElem_cons hly]
      have hx : xs.getD i z = xs[i] := by rw [List.getD_eq_getElem?_getD, List.getElem?_eq_getElem hlt]; rfl
      have hy : ys.getD i z = ys[i] := by rw [List.getD_eq_getElem?_getD, List.getElem?_eq_getElem hly]; rfl
      rw [hx, hy]
      by_cases h : xs[i] = ys[i]
      · rw [(hE _ _).2 h, h]
        simp only [cond_true]
        by_cases h2 : xs.drop (i + 1) = ys.drop (i + 1)
        · rw [h2, eqD_self, eqD_self]
        · rw [eqD_false h2, eqD_false (fun h3 => h2 (List.cons.inj h3).2)]
      · have : e xs[i] ys[i] = false := by
          rw [Bool.eq_false_iff]; exact fun h' => h ((hE _ _).1 h')
        rw [this, eqD_false (fun h3 => h (List.cons.inj h3).1)]
        rfl
  have := key xs.length 0 (by omega)
  simpa using this
theorem loop_mark {R : Nat → Int → Int → List α → ρ} {Kf : Int → List α → ρ} {f : α → Int → α × Int} {z : α} (n : Nat)
    (hs : ∀ m (i : Nat) k (ys : List α), i < n → ys.length = n → R (m + 1) i k ys = R m ((i + 1 : Nat) : Int) (f (ys.getD i z) k).2 (ys.set i (f (ys.getD i z) k).1))
    (he : ∀ m k (ys : List α), ys.length = n → R (m + 1) (n : Nat) k ys = Kf k ys) (xs : List α) (hx : xs.length = n) (k : Int) : R (n + 1) 0 k xs = Kf (markList f xs k).2 (markList f xs k).1 := by
  have key : ∀ (j i : Nat) (k : Int) (pre suf : List α), pre.length = i → (pre ++ suf).length = n → i + j = n → R (j + 1) i k (pre ++ suf) = Kf (markList f suf k).2 (pre ++ (markList f suf k).1) := by
    intro j
    induction j with
    | zero =>
      intro i k pre suf hp hn hi
      have hs0 : suf = [] := by
        cases suf with
        | nil => rfl
        | cons x xs => simp at hn; omega
      subst hs0
      have : i = n := by omega
      subst this
      rw [he 0 k _ hn]; rfl
    | succ j ih =>
      intro i k pre suf hp hn hi
      cases suf with
      | nil => simp at hn; omega
      | cons x suf =>
        rw [hs _ i k _ (by omega) hn]
        have hg : (pre ++ x :: suf).getD i z = x := by
          rw [List.getD_eq_getElem?_getD, List.getElem?_append_right (by omega), hp, Nat.sub_self]; rfl
        have hset : (pre ++ x :: suf).set i (f x k).1 = (pre ++ [(f x k).1]) ++ suf := by
          rw [List.set_append_right _ _ (by omega), hp, Nat.sub_self]; simp
        rw [hg, hset, ih (i + 1) (f x k).2 (pre ++ [(f x k).1]) suf (by simp [hp]) (by simpa using hn) (by omega)]
        simp [markList]
  have := key n 0 k [] xs rfl (by simpa using hx) (by omega)
  simpa using this
/-- Held: what was marked. -/
theorem loop_held {R : Nat → Int → Int → ρ} {Kf : Int → ρ} {f : α → Int → α × Int} {xs : List α} {z : α}
    (hs : ∀ m (i : Nat) k, i < xs.length → (f (xs.getD i z) k).1 = xs.getD i z → R (m + 1) i k = R m ((i + 1 : Nat) : Int) (f (xs.getD i z) k).2)
    (he : ∀ m k, R (m + 1) (xs.length : Nat) k = Kf k) (k : Int) (hm : (markList f xs k).1 = xs) : R (xs.length + 1) 0 k = Kf (markList f xs k).2 := by
  have key : ∀ (j i : Nat) (k : Int), i + j = xs.length → (markList f (xs.drop i) k).1 = xs.drop i → R (j + 1) i k = Kf (markList f (xs.drop i) k).2 := by
    intro j
    induction j with
    | zero =>
      intro i k hi hm
      have : i = xs.length := by omega
      subst this
      rw [he 0 k, List.drop_length]; rfl
    | succ j ih =>
      intro i k hi hm
      have hlt : i < xs.length := by omega
      rw [List.drop_eq_getElem_cons hlt] at hm ⊢
      simp only [markList] at hm ⊢
      have h1 := (List.cons.inj hm).1
      have h2 := (List.cons.inj hm).2
      have hx : xs.getD i z = xs[i] := by rw [List.getD_eq_getElem?_getD, List.getElem?_eq_getElem hlt]; rfl
      rw [hs _ i k hlt (by rw [hx]; exact h1), hx, ih (i + 1) _ (by omega) h2]
  have := key xs.length 0 k (by omega) (by simpa using hm)
  simpa using this
theorem loop_sz {R : Nat → Int → Int → ρ} {Kt : Int → ρ} {Kf : ρ} {xs : List α} {z : α} {g : α → Nat}
    (hs : ∀ m (i : Nat) (l : Int), i < xs.length → 0 ≤ l → l ≤ 4611686018427387904 → R (m + 1) i l = bif decide (l - g (xs.getD i z) < 0) then Kf else R m ((i + 1 : Nat) : Int) (l - g (xs.getD i z)))
    (he : ∀ m (l : Int), 0 ≤ l → R (m + 1) (xs.length : Nat) l = Kt l) (l : Int) (h0 : 0 ≤ l) (h1 : l ≤ 4611686018427387904) : R (xs.length + 1) 0 l = bif decide (l - sumW g xs < 0) then Kf else Kt (l - sumW g xs) := by
  have key : ∀ (j i : Nat) (l : Int), i + j = xs.length → 0 ≤ l → l ≤ 4611686018427387904 → R (j + 1) i l = bif decide (l - sumW g (xs.drop i) < 0) then Kf else Kt (l - sumW g (xs.drop i)) := by
    intro j
    induction j with
    | zero =>
      intro i l hi h0 h1
      have : i = xs.length := by omega
      subst this
      rw [he 0 l h0, List.drop_length]
      rw [show sumW g [] = 0 from rfl]
      have : decide (l - ((0 : Nat) : Int) < 0) = false := decide_eq_false (by omega)
      rw [this]; simp
    | succ j ih =>
      intro i l hi h0 h1
      have hlt : i < xs.length := by omega
      have hx : xs.getD i z = xs[i] := by rw [List.getD_eq_getElem?_getD, List.getElem?_eq_getElem hlt]; rfl
      rw [hs _ i l hlt h0 h1, List.drop_eq_getElem_cons hlt, hx, show sumW g (xs[i] :: xs.drop (i + 1)) = g xs[i] + sumW g (xs.drop (i + 1)) from rfl]
      by_cases h : l - (g xs[i] : Int) < 0
      · rw [decide_eq_true h, decide_eq_true (show l - ((g xs[i] + sumW g (xs.drop (i + 1)) : Nat) : Int) < 0 by omega)]; rfl
      · rw [decide_eq_false h, ih (i + 1) _ (by omega) (by omega) (by omega)]
        simp only [cond_false]
        have : l - (g xs[i] : Int) - (sumW g (xs.drop (i + 1)) : Int) = l - ((g xs[i] + sumW g (xs.drop (i + 1)) : Nat) : Int) := by omega
        rw [this]
  have := key xs.length 0 l (by omega) h0 h1
  simpa using this
end
end Go.Ev
end
section
/- The laws' helpers: their contracts, for all kinds of rows at once. -/
set_option linter.unusedVariables false
namespace Go.Ev

/-! ### What comes in, read as data -/
def Cc.dec : (c : Cc) → V → Option c.T
  | .int k, .s (.int k' n) => if k' = k then some n else none
  | .bool, .s (.bool b) => some b
  | .str, .s (.string b) => some b
  | .sl r, .l .no r' xs => if h : r' = r then some (h ▸ xs) else none
  | _, _ => none
def Rw.dec : (r : Rw) → List V → Option r.T
  | .one c, [v] => c.dec v
  | .cons c r, v :: vs => match c.dec v with
    | some d => match r.dec vs with
      | some e => some (d, e)
      | none => none
    | none => none
  | _, _ => none
theorem Cc.dec_ok : (c : Cc) → {v : V} → {d : c.T} → c.dec v = some d → v = c.cell .no d
  | .int k, v, d, h => by
    cases v with
    | s u =>
      cases u with
      | int k' n =>
        simp only [Cc.dec] at h
        split at h
        · rename_i hk; subst hk; cases h; rfl
        · cases h
      | _ => simp [Cc.dec] at h
    | _ => simp [Cc.dec] at h
  | .bool, v, d, h => by
    cases v with
    | s u => cases u <;> simp only [Cc.dec, reduceCtorEq, Option.some.injEq] at h; subst h; rfl
    | _ => simp [Cc.dec] at h
  | .str, v, d, h => by
    cases v with
    | s u => cases u <;> simp only [Cc.dec, reduceCtorEq, Option.some.injEq] at h; subst h; rfl
    | _ => simp [Cc.dec] at h
  | .sl r, v, d, h => by
    cases v with
    | l o r' xs =>
      cases o <;> simp only [Cc.dec, reduceCtorEq] at h
      split at h
      · rename_i hr; subst hr; cases h; rfl
      · cases h
    | _ => simp [Cc.dec] at h
theorem Rw.dec_ok : (r : Rw) → {vs : List V} → {d : r.T} → r.dec vs = some d → vs = r.cells .no d
  | .one c, [], d, h => by simp [Rw.dec] at h
  | .one c, [v], d, h => by
    simp only [Rw.dec] at h
    rw [Cc.dec_ok c h]; rfl
  | .one c, _ :: _ :: _, d, h => by simp [Rw.dec] at h
  | .cons c r, [], d, h => by simp [Rw.dec] at h
  | .cons c r, v :: vs, d, h => by
    simp only [Rw.dec] at h
    split at h
    · rename_i d1 e1
      split at h
      · rename_i d2 e2
        cases h
        rw [Cc.dec_ok c e1, Rw.dec_ok r e2]; rfl
      · cases h
    · cases h

def sc (n : Int) : V := .s (.int .i64 n)
def bl (b : Bool) : V := .s (.bool b)
def szN (w : Nat) (l : Int) : Int := if l - w < 0 then -1 else l - w
def szOk (l : Int) : Bool := decide (0 ≤ l) && decide (l ≤ 4611686018427387904)

/-! ### Contracts: of slices (L) and of structs (A) -/
def S_toL (r : Rw) : Sm := fun vs K => match vs with
  | [v] => match (Cc.sl r).dec v with
    | some xs => bif (Cc.sl r).lim xs then K (.l .deep r xs, []) else none
    | none => none
  | _ => none
def S_toA (r : Rw) : Sm := fun vs K => match vs with
  | [.a cs] => match r.dec cs with
    | some d => bif r.lim d then K (.a (r.cells .deep d), []) else none
    | none => none
  | _ => none
mutual
/-- All lists short enough for a counter. -/
def Cc.cnt : (c : Cc) → c.T → Bool
  | .sl r, xs => Nat.ble xs.length 4611686018427387904 && xs.all r.cnt
  | _, _ => true
def Rw.cnt : (r : Rw) → r.T → Bool
  | .one c, d => c.cnt d
  | .cons c r, d => c.cnt d.1 && r.cnt d.2
end
mutual
/-- All lists as short as Go has them. -/
def Cc.cnz : (c : Cc) → c.T → Bool
  | .sl r, xs => Nat.ble xs.length 9223372036854775807 && xs.all r.cnz
  | _, _ => true
def Rw.cnz : (r : Rw) → r.T → Bool
  | .one c, d => c.cnz d
  | .cons c r, d => c.cnz d.1 && r.cnz d.2
end
mutual
theorem Cc.cnt_of_lim : (c : Cc) → (d : c.T) → c.lim d = true → c.cnt d = true
  | .int _, _, _ => rfl
  | .bool, _, _ => rfl
  | .str, _, _ => rfl
  | .sl r, xs, h => by
    simp only [Cc.lim, Cc.cnt, Bool.and_eq_true, List.all_eq_true] at h ⊢
    exact ⟨Nat.ble_eq_true_of_le (by have := Nat.le_of_ble_eq_true h.1; omega), fun x hx => Rw.cnt_of_lim r x (h.2 x hx)⟩
theorem Rw.cnt_of_lim : (r : Rw) → (d : r.T) → r.lim d = true → r.cnt d = true
  | .one c, d, h => Cc.cnt_of_lim c d h
  | .cons c r, d, h => by
    simp only [Rw.lim, Rw.cnt, Bool.and_eq_true] at h ⊢
    exact ⟨Cc.cnt_of_lim c d.1 h.1, Rw.cnt_of_lim r d.2 h.2⟩
end
noncomputable def S_eq (r : Rw) : Sm := fun vs K => match vs with
  | [v, u] => match (Cc.sl r).dec v, (Cc.sl r).dec u with
    | some xs, some ys => bif (Cc.sl r).cnt xs then K (bl (eqD xs ys), []) else none
    | _, _ => none
  | _ => none
noncomputable def S_eqA (r : Rw) : Sm := fun vs K => match vs with
  | [.a cs, .a ds] => match r.dec cs, r.dec ds with
    | some d, some e => bif r.cnt d then K (bl (eqD d e), []) else none
    | _, _ => none
  | _ => none
def S_szL (r : Rw) : Sm := fun vs K => match vs with
  | [v, .s (.int .i64 l)] => match (Cc.sl r).dec v with
    | some xs => bif szOk l && (Cc.sl r).cnz xs then K (sc (szN ((Cc.sl r).w xs) l), []) else none
    | none => none
  | _ => none
def S_szA (r : Rw) : Sm := fun vs K => match vs with
  | [.a cs, .s (.int .i64 l)] => match r.dec cs with
    | some d => bif szOk l && r.cnz d then K (sc (szN (r.w d) l), []) else none
    | none => none
  | _ => none
mutual
def Cc.decO : (c : Cc) → V → Option c.T
  | .int k, .s (.int k' n) => if k' = k then some n else none
  | .bool, .s (.bool b) => some b
  | .str, .s (.string b) => some b
  | .sl r, .l .own r' xs => if h : r' = r then some (h ▸ xs) else none
  | _, _ => none
def Rw.decO : (r : Rw) → List V → Option r.T
  | .one c, [v] => c.decO v
  | .cons c r, v :: vs => match c.decO v with
    | some d => match r.decO vs with
      | some e => some (d, e)
      | none => none
    | none => none
  | _, _ => none
end
theorem Cc.decO_ok : (c : Cc) → {v : V} → {d : c.T} → c.decO v = some d → v = c.cell .own d
  | .int k, v, d, h => by
    cases v with
    | s u =>
      cases u with
      | int k' n =>
        simp only [Cc.decO] at h
        split at h
        · rename_i hk; subst hk; cases h; rfl
        · cases h
      | _ => simp [Cc.decO] at h
    | _ => simp [Cc.decO] at h
  | .bool, v, d, h => by
    cases v with
    | s u => cases u <;> simp only [Cc.decO, reduceCtorEq, Option.some.injEq] at h; subst h; rfl
    | _ => simp [Cc.decO] at h
  | .str, v, d, h => by
    cases v with
    | s u => cases u <;> simp only [Cc.decO, reduceCtorEq, Option.some.injEq] at h; subst h; rfl
    | _ => simp [Cc.decO] at h
  | .sl r, v, d, h => by
    cases v with
    | l o r' xs =>
      cases o <;> simp only [Cc.decO, reduceCtorEq] at h
      split at h
      · rename_i hr; subst hr; cases h; rfl
      · cases h
    | _ => simp [Cc.decO] at h
theorem Rw.decO_ok : (r : Rw) → {vs : List V} → {d : r.T} → r.decO vs = some d → vs = r.cells .own d
  | .one c, [], d, h => by simp [Rw.decO] at h
  | .one c, [v], d, h => by
    simp only [Rw.decO] at h
    rw [Cc.decO_ok c h]; rfl
  | .one c, _ :: _ :: _, d, h => by simp [Rw.decO] at h
  | .cons c r, [], d, h => by simp [Rw.decO] at h
  | .cons c r, v :: vs, d, h => by
    simp only [Rw.decO] at h
    split at h
    · rename_i d1 e1
      split at h
      · rename_i d2 e2
        cases h
        rw [Cc.decO_ok c e1, Rw.decO_ok r e2]; rfl
      · cases h
    · cases h
def S_markL (T : MText) (r : Rw) : Sm := fun vs K => match vs with
  | [v, .s (.int .i64 k)] => match (Cc.sl r).decO v with
    | some xs => bif (Cc.sl r).cnt xs then K (sc ((Cc.sl r).mark T xs k).2, [.l .own r ((Cc.sl r).mark T xs k).1]) else none
    | none => none
  | _ => none
def S_markA (T : MText) (r : Rw) : Sm := fun vs K => match vs with
  | [.a cs, .s (.int .i64 k)] => match r.decO cs with
    | some d => bif r.cnt d then K (sc (r.markA T d k).2, [.a (r.cells .own (r.markA T d k).1)]) else none
    | none => none
  | _ => none
noncomputable def S_heldL (T : MText) (r : Rw) : Sm := fun vs K => match vs with
  | [v, .s (.int .i64 k)] => match (Cc.sl r).dec v with
    | some xs => bif eqD ((Cc.sl r).mark T xs k).1 xs && ((Cc.sl r).cnt xs && decide (0 ≤ k) && decide (k + (Cc.sl r).marks xs ≤ 4611686018427387904)) then K (sc ((Cc.sl r).mark T xs k).2, []) else none
    | none => none
  | _ => none
noncomputable def S_heldA (T : MText) (r : Rw) : Sm := fun vs K => match vs with
  | [.a cs, .s (.int .i64 k)] => match r.dec cs with
    | some d => bif eqD (r.markA T d k).1 d && (r.cnt d && decide (0 ≤ k) && decide (k + r.marksA d ≤ 4611686018427387904)) then K (sc (r.markA T d k).2, []) else none
    | none => none
  | _ => none
theorem wrap_nat {i : Nat} (h : i ≤ 4611686018427387904) : IntKind.i64.wrap (((i : Nat) : Int) + 1) = (((i + 1 : Nat)) : Int) := by
  rw [wrap_id (by omega) (by omega)]; rfl
theorem szN_step {w v : Nat} {l : Int} (h : 0 ≤ l) : szN (w + v) l = if szN w l < 0 then -1 else szN v (szN w l) := by
  simp only [szN]
  split <;> split <;> (try split) <;> (try split) <;> omega
/-! ### From a function's law to its contract -/
section
variable {P : Program} {I : Nat → World → Prop}
theorem okW {g : FuncId} {f : Bool} {S G : Sm} (hG : OkFn P I g f G) (h : ∀ ws K q, S ws K = some q → G ws K = some q) : OkFn P I g f S := OkFn.weak (fun ws K r hr => ⟨_, hG, h ws K r hr⟩) hG.1
variable {r : Rw} {G : Sm} {T : MText}
theorem S_toL_of (h : ∀ xs K, (Cc.sl r).lim xs = true → G [.l .no r xs] K = K (.l .deep r xs, [])) : ∀ ws K q, S_toL r ws K = some q → G ws K = some q := by
  intro ws K q hr
  unfold S_toL at hr
  split at hr
  · split at hr
    · rename_i xs hx
      rw [Cc.dec_ok _ hx]
      cases hl : (Cc.sl r).lim xs with
      | false => rw [hl] at hr; cases hr
      | true => rw [hl] at hr; exact (h xs K hl).trans hr
    · cases hr
  · cases hr
theorem S_toA_of (h : ∀ d K, r.lim d = true → G [.a (r.cells .no d)] K = K (.a (r.cells .deep d), [])) : ∀ ws K q, S_toA r ws K = some q → G ws K = some q := by
  intro ws K q hr
  unfold S_toA at hr
  split at hr
  · split at hr
    · rename_i d hx
      rw [Rw.dec_ok _ hx]
      cases hl : r.lim d with
      | false => rw [hl] at hr; cases hr
      | true => rw [hl] at hr; exact (h d K hl).trans hr
    · cases hr
  · cases hr
theorem S_eq_of (h : ∀ xs ys K, (Cc.sl r).cnt xs = true → G [.l .no r xs, .l .no r ys] K = K (bl (eqD xs ys), [])) : ∀ ws K q, S_eq r ws K = some q → G ws K = some q := by
  intro ws K q hr
  unfold S_eq at hr
  split at hr
  · split at hr
    · rename_i xs ys hx hy
      rw [Cc.dec_ok _ hx, Cc.dec_ok _ hy]
      cases hl : (Cc.sl r).cnt xs with
      | false => rw [hl] at hr; cases hr
      | true => rw [hl] at hr; exact (h xs ys K hl).trans hr
    · cases hr
  · cases hr
theorem S_eqA_of (h : ∀ xs ys K, r.cnt xs = true → G [.a (r.cells .no xs), .a (r.cells .no ys)] K = K (bl (eqD xs ys), [])) : ∀ ws K q, S_eqA r ws K = some q → G ws K = some q := by
  intro ws K q hr
  unfold S_eqA at hr
  split at hr
  · split at hr
    · rename_i xs ys hx hy
      rw [Rw.dec_ok _ hx, Rw.dec_ok _ hy]
      cases hl : r.cnt xs with
      | false => rw [hl] at hr; cases hr
      | true => rw [hl] at hr; exact (h xs ys K hl).trans hr
    · cases hr
  · cases hr
theorem S_szL_of (h : ∀ xs l K, szOk l = true → (Cc.sl r).cnz xs = true → G [.l .no r xs, .s (.int .i64 l)] K = K (sc (szN ((Cc.sl r).w xs) l), [])) : ∀ ws K q, S_szL r ws K = some q → G ws K = some q := by
  intro ws K q hr
  unfold S_szL at hr
  split at hr
  · split at hr
    · rename_i l _ xs hx
      rw [Cc.dec_ok _ hx]
      cases hl : (szOk l && (Cc.sl r).cnz xs) with
      | false => rw [hl] at hr; cases hr
      | true => rw [hl] at hr; rw [Bool.and_eq_true] at hl; exact (h xs l K hl.1 hl.2).trans hr
    · cases hr
  · cases hr
theorem S_szA_of (h : ∀ d l K, szOk l = true → r.cnz d = true → G [.a (r.cells .no d), .s (.int .i64 l)] K = K (sc (szN (r.w d) l), [])) : ∀ ws K q, S_szA r ws K = some q → G ws K = some q := by
  intro ws K q hr
  unfold S_szA at hr
  split at hr
  · split at hr
    · rename_i l _ xs hx
      rw [Rw.dec_ok _ hx]
      cases hl : (szOk l && r.cnz xs) with
      | false => rw [hl] at hr; cases hr
      | true => rw [hl] at hr; rw [Bool.and_eq_true] at hl; exact (h xs l K hl.1 hl.2).trans hr
    · cases hr
  · cases hr
theorem S_markL_of (h : ∀ xs k K, (Cc.sl r).cnt xs = true → G [.l .own r xs, .s (.int .i64 k)] K = K (sc ((Cc.sl r).mark T xs k).2, [.l .own r ((Cc.sl r).mark T xs k).1])) : ∀ ws K q, S_markL T r ws K = some q → G ws K = some q := by
  intro ws K q hr
  unfold S_markL at hr
  split at hr
  · split at hr
    · rename_i k _ xs hx
      rw [Cc.decO_ok _ hx]
      cases hl : (Cc.sl r).cnt xs with
      | false => rw [hl] at hr; cases hr
      | true => rw [hl] at hr; exact (h xs k K hl).trans hr
    · cases hr
  · cases hr
theorem S_markA_of (h : ∀ d k K, r.cnt d = true → G [.a (r.cells .own d), .s (.int .i64 k)] K = K (sc (r.markA T d k).2, [.a (r.cells .own (r.markA T d k).1)])) : ∀ ws K q, S_markA T r ws K = some q → G ws K = some q := by
  intro ws K q hr
  unfold S_markA at hr
  split at hr
  · split at hr
    · rename_i k _ xs hx
      rw [Rw.decO_ok _ hx]
      cases hl : r.cnt xs with
      | false => rw [hl] at hr; cases hr
      | true => rw [hl] at hr; exact (h xs k K hl).trans hr
    · cases hr
  · cases hr
theorem S_heldL_of (h : ∀ xs k K, ((Cc.sl r).mark T xs k).1 = xs → (Cc.sl r).cnt xs = true → 0 ≤ k → k + (Cc.sl r).marks xs ≤ 4611686018427387904 → G [.l .no r xs, .s (.int .i64 k)] K = K (sc ((Cc.sl r).mark T xs k).2, [])) : ∀ ws K q, S_heldL T r ws K = some q → G ws K = some q := by
  intro ws K q hr
  unfold S_heldL at hr
  split at hr
  · split at hr
    · rename_i k _ xs hx
      rw [Cc.dec_ok _ hx]
      cases hl : (eqD ((Cc.sl r).mark T xs k).1 xs && ((Cc.sl r).cnt xs && decide (0 ≤ k) && decide (k + (Cc.sl r).marks xs ≤ 4611686018427387904))) with
      | false => rw [hl] at hr; cases hr
      | true =>
        rw [hl] at hr
        simp only [Bool.and_eq_true, decide_eq_true_eq] at hl
        exact (h xs k K (eqD_iff.1 hl.1) hl.2.1.1 hl.2.1.2 hl.2.2).trans hr
    · cases hr
  · cases hr
theorem S_heldA_of (h : ∀ d k K, (r.markA T d k).1 = d → r.cnt d = true → 0 ≤ k → k + r.marksA d ≤ 4611686018427387904 → G [.a (r.cells .no d), .s (.int .i64 k)] K = K (sc (r.markA T d k).2, [])) : ∀ ws K q, S_heldA T r ws K = some q → G ws K = some q := by
  intro ws K q hr
  unfold S_heldA at hr
  split at hr
  · split at hr
    · rename_i k _ xs hx
      rw [Rw.dec_ok _ hx]
      cases hl : (eqD (r.markA T xs k).1 xs && (r.cnt xs && decide (0 ≤ k) && decide (k + r.marksA xs ≤ 4611686018427387904))) with
      | false => rw [hl] at hr; cases hr
      | true =>
        rw [hl] at hr
        simp only [Bool.and_eq_true, decide_eq_true_eq] at hl
        exact (h xs k K (eqD_iff.1 hl.1) hl.2.1.1 hl.2.1.2 hl.2.2).trans hr
    · cases hr
  · cases hr
end

/-! ### Chains in the structs' helpers -/
section
variable {ρ : Type}
theorem to_step {b : Bool} {A B : Option ρ} (h : b = true) (hA : A = B) : (bif b then A else none) = B := by rw [h]; exact hA
theorem eq_ne {α β : Type} [BEq α] [LawfulBEq α] {x y : α} {xs ys : β} {K : Ret → Option Ret} {A : Option Ret} (h : A = K (bl (eqD xs ys), [])) : (bif x != y then K (bl false, []) else A) = K (bl (eqD (x, xs) (y, ys)), []) := by
  by_cases e : x = y
  · rw [show (x != y) = false by simp [e]]
    show A = _
    rw [h]
    by_cases e2 : xs = ys
    · rw [e, e2, eqD_self, eqD_self]
    · rw [eqD_false e2, eqD_false (fun h => e2 (Prod.mk.inj h).2)]
  · rw [show (x != y) = true by simp [e], eqD_false (fun h => e (Prod.mk.inj h).1)]; rfl
theorem eq_sub {α β γ : Type} {x y : α} {xs ys : β} {u v : γ} {b : Bool} {K : Ret → Option Ret} {A : Option Ret} (hb : b = true) (he : u = v ↔ x = y ∧ xs = ys) (h : A = K (bl (eqD xs ys), [])) : (bif b then (bif !(eqD x y) then K (bl false, []) else A) else none) = K (bl (eqD u v), []) := by
  rw [hb]
  by_cases e : x = y
  · rw [e, eqD_self]
    show A = _
    rw [h]
    by_cases e2 : xs = ys
    · rw [he.2 ⟨e, e2⟩, e2, eqD_self, eqD_self]
    · rw [eqD_false e2, eqD_false (fun h => e2 (he.1 h).2)]
  · rw [eqD_false e, eqD_false (fun h => e (he.1 h).1)]; rfl
theorem eq_sl {α β : Type} {x y : α} {xs ys : β} {b : Bool} {K : Ret → Option Ret} {A : Option Ret} (hb : b = true) (h : A = K (bl (eqD xs ys), [])) : (bif b then (bif !(eqD x y) then K (bl false, []) else A) else none) = K (bl (eqD (x, xs) (y, ys)), []) := eq_sub hb (by simp) h
theorem eq_sub1 {α : Type} {x y : α} {b : Bool} {K : Ret → Option Ret} (hb : b = true) : (bif b then (bif !(eqD x y) then K (bl false, []) else K (bl true, [])) else none) = K (bl (eqD x y), []) := by
  rw [hb]; cases eqD x y <;> rfl
theorem sz_step {b : Bool} {w w2 wt : Nat} {l : Int} {K : Int → Option ρ} {A : Option ρ} (hl : szOk l = true) (hb : b = true) (hw : wt = w + w2) (h : szOk (szN w l) = true → A = K (szN w2 (szN w l))) : (bif szOk l && b then (bif decide (szN w l < 0) then K (-1) else A) else none) = K (szN wt l) := by
  rw [hl, hb, hw]
  simp only [szOk, Bool.and_eq_true, decide_eq_true_eq] at hl
  rw [szN_step hl.1]
  by_cases e : szN w l < 0
  · rw [decide_eq_true e, if_pos e]; rfl
  · rw [decide_eq_false e, if_neg e]
    refine h ?_
    have e2 : szN w l = l - w := by
      unfold szN at e ⊢
      split
      · rename_i h2; rw [if_pos h2] at e; omega
      · rfl
    rw [e2] at e ⊢
    unfold szOk
    rw [decide_eq_true (show 0 ≤ l - (w : Int) by omega), decide_eq_true (show l - (w : Int) ≤ 4611686018427387904 by omega)]; rfl
theorem sz_end {l : Int} {K : Int → Option ρ} (hl : szOk l = true) : K l = K (szN 0 l) := by
  simp only [szOk, Bool.and_eq_true, decide_eq_true_eq] at hl
  unfold szN
  rw [if_neg (by omega)]; simp
theorem held_step {a b : Bool} {k m : Int} {n : Nat} {A B : Option ρ} {Z : Option ρ} (h1 : a = true) (h2 : b = true) (h3 : 0 ≤ k) (h4 : k + (n : Nat) ≤ 4611686018427387904) (hm : m = k + (n : Nat)) (h : A = B) : (bif a && (b && decide ((0 : Int) ≤ k) && decide (k + ((n : Nat) : Int) ≤ 4611686018427387904)) then (bif decide (m < 0) then Z else A) else none) = B := by
  rw [h1, h2, decide_eq_true h3, decide_eq_true h4, decide_eq_false (show ¬ m < 0 by omega)]
  exact h
end
end Go.Ev
end
section
/- The laws' helpers for bytes. -/
namespace Go.Ev.Seat
open Go.RowKit
set_option maxRecDepth 100000
set_option linter.unusedVariables false
-- toByteS
def sh_toByteS : Ss := { tm := (.cons (.l .no bytesR) (.cons (.x) (.cons (.x) (.cons (.w 0) (.cons (.int .i64) (xsh 17)))))), ob := (.arr true true bytesR .nil), nx := 1, io := .nil }
def d_toByteS (x0 : List (Int)) (x4 : Int) (o0 : List (Int)) : sh_toByteS.T := ((x0, ((), ((), ((), (x4, xd 17))))), (o0, ()), ())
def z_toByteS (x0 : List Int) : St := { tm := ([.x, .x, .x, (.w 0)] ++ List.replicate 18 .x), ob := [(0, (.arr true true bytesR x0))], nx := 1, io := [] }
def R_toByteS (d : sh_toByteS.T) (K : Ex → St → Option Ret) : Option Ret := match d with
  | ((x0, (_, (_, (_, (x4, _))))), (o0, _), _) => bif (x4 == 0) && Nat.beq o0.length x0.length && (Cc.sl bytesR).lim x0 then K (.ext 0) (z_toByteS x0) else none
noncomputable def E_toByteS : Env := En [] [] [(3, [0,3,4], [3], loopF sh_toByteS R_toByteS)]
noncomputable abbrev L_toByteS (n : Nat) (x0 : List Int) (x4 : Int) (o0 : List Int) (K : Ex → St → Option Ret) : Option Ret := rounds (run E_toByteS (bodyOf F.l_toByteS 3)) [0,3,4] [3] n (sh_toByteS.mk' (d_toByteS x0 x4 o0)) K
theorem step_toByteS (n : Nat) (x0 : List (Int)) (x4 : Int) (o0 : List (Int)) (K : Ex → St → Option Ret) : L_toByteS (n + 1) x0 x4 o0 K =
 (bif decide (x4 < (((List.length x0) : Nat) : Int)) then
 (bif (decide ((0 : Int) ≤ x4) && decide (x4 < (((List.length x0) : Nat) : Int))) then
  (bif (decide ((0 : Int) ≤ x4) && decide (x4 < (((List.length o0) : Nat) : Int))) then
   L_toByteS n x0 (IntKind.wrap .i64 (x4 + (1 : Int))) (List.set o0 (Int.toNat x4) (List.getD x0 (Int.toNat x4) ((0 : Nat) : Int))) K
   else none)
  else none)
 else K (.ext 0) (z_toByteS o0)) := by kernel_rfl
theorem go_toByteS (x0 o0 : List Int) (K : Ex → St → Option Ret) (h2 : o0.length = x0.length) (h3 : x0.length ≤ 1048576) : L_toByteS (x0.length + 1) x0 0 o0 K = K (.ext 0) (z_toByteS x0) :=
  loop_to (R := fun n i ys => L_toByteS n x0 i ys K) (Kf := fun ys => K (.ext 0) (z_toByteS ys)) (z := (0 : Int)) (fun n i ys hi hy => by
    show L_toByteS (n + 1) x0 i ys K = _
    rw [step_toByteS, decide_eq_true (show ((i : Nat) : Int) < ((x0.length : Nat) : Int) by omega), decide_eq_true (show (0 : Int) ≤ ((i : Nat) : Int) by omega), decide_eq_true (show ((i : Nat) : Int) < ((ys.length : Nat) : Int) by omega), wrap_nat (show i ≤ 4611686018427387904 by omega)]
    rfl) (fun n ys hy => by
    show L_toByteS (n + 1) x0 _ ys K = _
    rw [step_toByteS, decide_eq_false (show ¬ ((x0.length : Nat) : Int) < ((x0.length : Nat) : Int) by omega)]; rfl) o0 h2
theorem loop_toByteS : LoopOk E_toByteS (bodyOf F.l_toByteS 3) := by
  refine loopF_ok (n := 3) (sh := sh_toByteS) (R := R_toByteS) (by kernel_rfl) rfl rfl (fun d K r hr => ?_)
  obtain ⟨⟨x0, u1, u2, u3, x4, u4⟩, ⟨o0, u5⟩, u6⟩ := d
  unfold R_toByteS at hr
  simp only at hr
  cases hc : ((x4 == 0) && Nat.beq o0.length x0.length && (Cc.sl bytesR).lim x0) with
  | false => rw [hc] at hr; cases hr
  | true =>
    rw [hc] at hr
    simp only [Bool.and_eq_true, beq_iff_eq, Cc.lim] at hc
    obtain ⟨⟨rfl, h2⟩, h3, _⟩ := hc
    exact ⟨x0.length + 1, (go_toByteS x0 o0 K (Nat.eq_of_beq_eq_true h2) (Nat.le_of_ble_eq_true h3)).trans hr⟩
noncomputable def G_toByteS := evF E_toByteS true F.l_toByteS
theorem ok_toByteS : OkFn prog I N.l_toByteS true G_toByteS := ok_fn mem0 (by kernel_rfl) (by kernel_rfl) (by kernel_rfl) (by kernel_rfl) (cs := [bodyOf F.l_toByteS 3]) (by kernel_rfl) (loopsc loop_toByteS loops0)
theorem ev_toByteS (a : List Int) (K : Ret → Option Ret) (h : (Cc.sl bytesR).lim a = true) : G_toByteS [.l .no bytesR a] K = K (.l .deep bytesR a, []) := by
  have e : G_toByteS [.l .no bytesR a] K =
   (bif ((((((((List.length a) : Nat) : Int) == (((List.length a) : Nat) : Int)) && decide ((0 : Int) ≤ (((List.length a) : Nat) : Int))) && decide (((Int.toNat (((List.length a) : Nat) : Int)) * 1) ≤ 140737488355328)) && decide ((((List.length a) : Nat) : Int) ≤ (4611686018427387904 : Int)))) then
    (bif ((0 : Int) == 0) && Nat.beq (List.replicate (Int.toNat (((List.length a) : Nat) : Int)) (0 : Int)).length a.length && (Cc.sl bytesR).lim a then K (.l .deep bytesR a, []) else none) else none) := by kernel_rfl
  rw [e, h]
  simp only [Cc.lim, Bool.and_eq_true] at h
  have h3 : a.length ≤ 1048576 := Nat.le_of_ble_eq_true h.1
  rw [decide_eq_true (show ((a.length : Nat) : Int) ≤ 4611686018427387904 by omega), decide_eq_true (show (0 : Int) ≤ ((a.length : Nat) : Int) by omega), Int.toNat_natCast, decide_eq_true (show a.length * 1 ≤ 140737488355328 by omega), List.length_replicate, beq_self_eq_true, beq_self_eq_true, Nat.beq_refl]
  rfl
theorem okS_toByteS : OkFn prog I N.l_toByteS true (S_toL bytesR) := okW ok_toByteS (S_toL_of fun xs K h => ev_toByteS xs K h)
-- eqByteS
def sh_eqByteS : Ss := { tm := (.cons (.l .no bytesR) (.cons (.l .no bytesR) (.cons (.x) (.cons (.x) (.cons (.x) (.cons (.int .i64) (xsh 20))))))), ob := .nil, nx := 0, io := .nil }
def d_eqByteS (x0 : List (Int)) (x1 : List (Int)) (x5 : Int) : sh_eqByteS.T := ((x0, (x1, ((), ((), ((), (x5, xd 20)))))), (), ())
def z_eqByteS : St := { tm := ([] ++ List.replicate 26 .x), ob := [], nx := 0, io := [] }
def y_eqByteS : St := { tm := ([.x, .x, .x, .x, (.s (.bool false))] ++ List.replicate 21 .x), ob := [], nx := 0, io := [] }
noncomputable def R_eqByteS (d : sh_eqByteS.T) (K : Ex → St → Option Ret) : Option Ret := match d with
  | ((x0, (x1, (_, (_, (_, (x5, _)))))), _, _) => bif (x5 == 0) && Nat.beq x1.length x0.length && Nat.ble x0.length 4611686018427387904 then (bif eqD x0 x1 then K (.ext 0) z_eqByteS else K .ret y_eqByteS) else none
noncomputable def E_eqByteS : Env := En [] [(6, takes [0, 1, 2, 3, 4, 5, 6, 7, 8], [])] [(4, [0,1,5], [4], loopF sh_eqByteS R_eqByteS)]
noncomputable abbrev L_eqByteS (n : Nat) (x0 x1 : List Int) (x5 : Int) (K : Ex → St → Option Ret) : Option Ret := rounds (run E_eqByteS (bodyOf F.l_eqByteS 4)) [0,1,5] [4] n (sh_eqByteS.mk' (d_eqByteS x0 x1 x5)) K
theorem step_eqByteS (n : Nat) (x0 : List (Int)) (x1 : List (Int)) (x5 : Int) (K : Ex → St → Option Ret) : L_eqByteS (n + 1) x0 x1 x5 K =
 (bif decide (x5 < (((List.length x0) : Nat) : Int)) then
 (bif (decide ((0 : Int) ≤ x5) && decide (x5 < (((List.length x0) : Nat) : Int))) then
  (bif (decide ((0 : Int) ≤ x5) && decide (x5 < (((List.length x1) : Nat) : Int))) then
   (bif ((List.getD x0 (Int.toNat x5) ((0 : Nat) : Int)) != (List.getD x1 (Int.toNat x5) ((0 : Nat) : Int))) then
    K .ret y_eqByteS
    else L_eqByteS n x0 x1 (IntKind.wrap .i64 (x5 + (1 : Int))) K)
   else none)
  else none)
 else K (.ext 0) z_eqByteS) := by kernel_rfl
theorem go_eqByteS (x0 x1 : List Int) (K : Ex → St → Option Ret) (h2 : x1.length = x0.length) (h3 : x0.length ≤ 4611686018427387904) : L_eqByteS (x0.length + 1) x0 x1 0 K = bif eqD x0 x1 then K (.ext 0) z_eqByteS else K .ret y_eqByteS :=
  loop_eq (R := fun n i => L_eqByteS n x0 x1 i K) (z := (0 : Int)) (e := fun a b => a == b) (fun a b => by simp) h2 (fun n i hi => by
    show L_eqByteS (n + 1) x0 x1 i K = _
    rw [step_eqByteS, decide_eq_true (show ((i : Nat) : Int) < ((x0.length : Nat) : Int) by omega), decide_eq_true (show (0 : Int) ≤ ((i : Nat) : Int) by omega), decide_eq_true (show ((i : Nat) : Int) < ((x1.length : Nat) : Int) by omega), wrap_nat (show i ≤ 4611686018427387904 by omega), Int.toNat_natCast, bne]
    show (bif !(x0.getD i 0 == x1.getD i 0) then _ else _) = bif (x0.getD i 0 == x1.getD i 0) then _ else _
    cases (x0.getD i 0 == x1.getD i 0) <;> rfl) (fun n => by
    show L_eqByteS (n + 1) x0 x1 _ K = _
    rw [step_eqByteS, decide_eq_false (show ¬ ((x0.length : Nat) : Int) < ((x0.length : Nat) : Int) by omega)]; rfl)
theorem loop_eqByteS : LoopOk E_eqByteS (bodyOf F.l_eqByteS 4) := by
  refine loopF_ok (n := 4) (sh := sh_eqByteS) (R := R_eqByteS) (by kernel_rfl) rfl rfl (fun d K r hr => ?_)
  obtain ⟨⟨x0, x1, u1, u2, u3, x5, u4⟩, u5, u6⟩ := d
  unfold R_eqByteS at hr
  simp only at hr
  cases hc : ((x5 == 0) && Nat.beq x1.length x0.length && Nat.ble x0.length 4611686018427387904) with
  | false => rw [hc] at hr; cases hr
  | true =>
    rw [hc] at hr
    simp only [Bool.and_eq_true, beq_iff_eq] at hc
    obtain ⟨⟨rfl, h2⟩, h3⟩ := hc
    exact ⟨x0.length + 1, (go_eqByteS x0 x1 K (Nat.eq_of_beq_eq_true h2) (Nat.le_of_ble_eq_true h3)).trans hr⟩
noncomputable def G_eqByteS := evF E_eqByteS true F.l_eqByteS
theorem ok_eqByteS : OkFn prog I N.l_eqByteS true G_eqByteS := ok_fn mem0 (by kernel_rfl) (by kernel_rfl) (by kernel_rfl) (by kernel_rfl) (cs := [bodyOf F.l_eqByteS 4]) (by kernel_rfl) (loopsc loop_eqByteS loops0)
theorem ev_eqByteS (a b : List Int) (K : Ret → Option Ret) (h : Nat.ble a.length 4611686018427387904 = true) : G_eqByteS [.l .no bytesR a, .l .no bytesR b] K = K (bl (eqD a b), []) := by
  have e : G_eqByteS [.l .no bytesR a, .l .no bytesR b] K =
   (bif ((((List.length a) : Nat) : Int) != (((List.length b) : Nat) : Int)) then K (bl false, [])
    else bif ((0 : Int) == 0) && Nat.beq b.length a.length && Nat.ble a.length 4611686018427387904 then (bif eqD a b then K (bl true, []) else K (bl false, [])) else none) := by kernel_rfl
  rw [e]
  by_cases hl : b.length = a.length
  · rw [hl, h, Nat.beq_refl]
    cases eqD a b <;> simp
  · have h1 : ((((List.length a) : Nat) : Int) != (((List.length b) : Nat) : Int)) = true := by simp; omega
    rw [h1, eqD_false (fun h' => hl (by rw [h']))]; rfl
theorem okS_eqByteS : OkFn prog I N.l_eqByteS true (S_eq bytesR) := okW ok_eqByteS (S_eq_of fun xs ys K h => by
  simp only [Cc.cnt, Bool.and_eq_true] at h
  exact ev_eqByteS xs ys K h.1)
-- szByteS
noncomputable def G_szByteS := evF (En []) true F.l_szByteS
theorem ok_szByteS : OkFn prog I N.l_szByteS true G_szByteS := ok_fn mem0 (by kernel_rfl) (by kernel_rfl) (by kernel_rfl) (by kernel_rfl) (cs := []) (by kernel_rfl) loops0
theorem ev_szByteS (a : List Int) (k : Int) (K : Ret → Option Ret) (h0 : 0 ≤ k) (h1 : k ≤ 4611686018427387904) (h : a.length ≤ 9223372036854775807) : G_szByteS [.l .no bytesR a, .s (.int .i64 k)] K = K (sc (szN a.length k), []) := by
  have e : G_szByteS [.l .no bytesR a, .s (.int .i64 k)] K =
   (bif decide ((IntKind.wrap .i64 (k - (((List.length a) : Nat) : Int))) < (0 : Int)) then K (sc (-1), [])
    else K (sc (IntKind.wrap .i64 (k - (((List.length a) : Nat) : Int))), [])) := by kernel_rfl
  rw [e, wrap_in (by omega) (by omega)]
  unfold szN
  by_cases hc : k - ((a.length : Nat) : Int) < 0
  · rw [decide_eq_true hc, if_pos hc]; rfl
  · rw [decide_eq_false hc, if_neg hc]; rfl
theorem w_byte (xs : List Int) : (Cc.sl bytesR).w xs = xs.length := by
  have : ∀ ys : List Int, sumW bytesR.w ys = 0 := fun ys => by
    induction ys with
    | nil => rfl
    | cons y ys ih => simp only [sumW]; rw [ih]; rfl
  exact (congrArg (fun n => List.length xs + n) (this xs)).trans rfl
theorem okS_szByteS : OkFn prog I N.l_szByteS true (S_szL bytesR) := okW ok_szByteS (S_szL_of fun xs l K h1 h2 => by
  simp only [szOk, Cc.cnz, Bool.and_eq_true, decide_eq_true_eq] at h1 h2
  exact (ev_szByteS xs l K h1.1 h1.2 (Nat.le_of_ble_eq_true h2.1)).trans (congrArg (fun n => K (sc (szN n l), [])) (w_byte xs).symm))
-- markByteS
def sh_markByteS : Ss := { tm := (.cons (.w 0) (.cons (.int .i64) (.cons (.x) (.cons (.x) (.cons (.x) (.cons (.int .i64) (xsh 14))))))), ob := (.own true bytesR .nil), nx := 1, io := (.cons (.w 0) .nil) }
def d_markByteS (x1 : Int) (x5 : Int) (o0 : List (Int)) : sh_markByteS.T := (((), (x1, ((), ((), ((), (x5, xd 14)))))), (o0, ()), ((), ()))
def z_markByteS (x1 : Int) (o0 : List Int) : St := { tm := ([.x, (.s (.int .i64 x1))] ++ List.replicate 18 .x), ob := [(0, (.own true bytesR o0))], nx := 1, io := [(.w 0)] }
def f_byte (x : Int) (k : Int) : Int × Int := (IntKind.u8.wrap k, IntKind.i64.wrap (k + 1))
def R_markByteS (d : sh_markByteS.T) (K : Ex → St → Option Ret) : Option Ret := match d with
  | ((_, (x1, (_, (_, (_, (x5, _)))))), (o0, _), _) => bif (x5 == 0) && Nat.ble o0.length 4611686018427387904 then K (.ext 0) (z_markByteS (markList f_byte o0 x1).2 (markList f_byte o0 x1).1) else none
noncomputable def E_markByteS : Env := En [] [] [(2, [0,1,5], [1], loopF sh_markByteS R_markByteS)] [] true
noncomputable abbrev L_markByteS (n : Nat) (x1 x5 : Int) (o0 : List Int) (K : Ex → St → Option Ret) : Option Ret := rounds (run E_markByteS (bodyOf F.l_markByteS 2)) [0,1,5] [1] n (sh_markByteS.mk' (d_markByteS x1 x5 o0)) K
theorem step_markByteS (n : Nat) (x1 : Int) (x5 : Int) (o0 : List (Int)) (K : Ex → St → Option Ret) : L_markByteS (n + 1) x1 x5 o0 K =
 (bif decide (x5 < (((List.length o0) : Nat) : Int)) then
 (bif (decide ((0 : Int) ≤ x5) && decide (x5 < (((List.length o0) : Nat) : Int))) then
  L_markByteS n (IntKind.wrap .i64 (x1 + (1 : Int))) (IntKind.wrap .i64 (x5 + (1 : Int))) (List.set o0 (Int.toNat x5) (IntKind.wrap .u8 x1)) K
  else none)
 else K (.ext 0) (z_markByteS x1 o0)) := by kernel_rfl
theorem go_markByteS (x1 : Int) (o0 : List Int) (K : Ex → St → Option Ret) (h3 : o0.length ≤ 4611686018427387904) : L_markByteS (o0.length + 1) x1 0 o0 K = K (.ext 0) (z_markByteS (markList f_byte o0 x1).2 (markList f_byte o0 x1).1) :=
  loop_mark (R := fun n i k ys => L_markByteS n k i ys K) (Kf := fun k ys => K (.ext 0) (z_markByteS k ys)) (f := f_byte) (z := (0 : Int)) o0.length (fun n i k ys hi hy => by
    show L_markByteS (n + 1) k i ys K = _
    rw [step_markByteS, decide_eq_true (show ((i : Nat) : Int) < ((ys.length : Nat) : Int) by omega), decide_eq_true (show (0 : Int) ≤ ((i : Nat) : Int) by omega), wrap_nat (show i ≤ 4611686018427387904 by omega)]
    rfl) (fun n k ys hy => by
    show L_markByteS (n + 1) k _ ys K = _
    rw [step_markByteS, decide_eq_false (show ¬ ((o0.length : Nat) : Int) < ((ys.length : Nat) : Int) by omega)]; rfl) o0 rfl x1
theorem loop_markByteS : LoopOk E_markByteS (bodyOf F.l_markByteS 2) := by
  refine loopF_ok (n := 2) (sh := sh_markByteS) (R := R_markByteS) (by kernel_rfl) rfl rfl (fun d K r hr => ?_)
  obtain ⟨⟨u0, x1, u1, u2, u3, x5, u4⟩, ⟨o0, u5⟩, u6⟩ := d
  unfold R_markByteS at hr
  simp only at hr
  cases hc : ((x5 == 0) && Nat.ble o0.length 4611686018427387904) with
  | false => rw [hc] at hr; cases hr
  | true =>
    rw [hc] at hr
    simp only [Bool.and_eq_true, beq_iff_eq] at hc
    obtain ⟨rfl, h3⟩ := hc
    exact ⟨o0.length + 1, (go_markByteS x1 o0 K (Nat.le_of_ble_eq_true h3)).trans hr⟩
noncomputable def G_markByteS := evF E_markByteS true F.l_markByteS
theorem ok_markByteS : OkFn prog I N.l_markByteS true G_markByteS := ok_fn mem0 (by kernel_rfl) (by kernel_rfl) (by kernel_rfl) (by kernel_rfl) (cs := [bodyOf F.l_markByteS 2]) (by kernel_rfl) (loopsc loop_markByteS loops0)
theorem ev_markByteS (a : List Int) (k : Int) (K : Ret → Option Ret) (h : Nat.ble a.length 4611686018427387904 = true) : G_markByteS [.l .own bytesR a, .s (.int .i64 k)] K = K (sc (markList f_byte a k).2, [.l .own bytesR (markList f_byte a k).1]) := by
  have e : G_markByteS [.l .own bytesR a, .s (.int .i64 k)] K =
   (bif ((0 : Int) == 0) && Nat.ble a.length 4611686018427387904 then K (sc (markList f_byte a k).2, [.l .own bytesR (markList f_byte a k).1]) else none) := by kernel_rfl
  rw [e, h]; rfl
theorem okS_markByteS (T : MText) : OkFn prog I N.l_markByteS true (S_markL T bytesR) := okW ok_markByteS (S_markL_of fun xs k K h => by
  simp only [Cc.cnt, Bool.and_eq_true] at h
  exact ev_markByteS xs k K h.1)
-- heldByteS
def sh_heldByteS : Ss := { tm := (.cons (.l .no bytesR) (.cons (.int .i64) (.cons (.x) (.cons (.x) (.cons (.x) (.cons (.int .i64) (xsh 16))))))), ob := .nil, nx := 0, io := .nil }
def d_heldByteS (x0 : List (Int)) (x1 : Int) (x5 : Int) : sh_heldByteS.T := ((x0, (x1, ((), ((), ((), (x5, xd 16)))))), (), ())
def z_heldByteS (x1 : Int) : St := { tm := ([.x, (.s (.int .i64 x1))] ++ List.replicate 20 .x), ob := [], nx := 0, io := [] }
noncomputable def R_heldByteS (d : sh_heldByteS.T) (K : Ex → St → Option Ret) : Option Ret := match d with
  | ((x0, (x1, (_, (_, (_, (x5, _)))))), _, _) => bif (x5 == 0) && Nat.ble x0.length 4611686018427387904 && eqD (markList f_byte x0 x1).1 x0 then K (.ext 0) (z_heldByteS (markList f_byte x0 x1).2) else none
noncomputable def E_heldByteS : Env := En [] [] [(2, [0,1,5], [1,4], loopF sh_heldByteS R_heldByteS)]
noncomputable abbrev L_heldByteS (n : Nat) (x0 : List Int) (x1 x5 : Int) (K : Ex → St → Option Ret) : Option Ret := rounds (run E_heldByteS (bodyOf F.l_heldByteS 2)) [0,1,5] [1,4] n (sh_heldByteS.mk' (d_heldByteS x0 x1 x5)) K
theorem step_heldByteS (n : Nat) (x0 : List (Int)) (x1 : Int) (x5 : Int) (K : Ex → St → Option Ret) : L_heldByteS (n + 1) x0 x1 x5 K =
 (bif decide (x5 < (((List.length x0) : Nat) : Int)) then
 (bif (decide ((0 : Int) ≤ x5) && decide (x5 < (((List.length x0) : Nat) : Int))) then
  (bif ((List.getD x0 (Int.toNat x5) ((0 : Nat) : Int)) != (IntKind.wrap .u8 x1)) then
   K .ret { tm := ([.x, (.s (.int .i64 x1)), .x, .x, (.s (.int .i64 (-(1 : Int))))] ++ List.replicate 17 .x), ob := [], nx := 0, io := [] }
   else L_heldByteS n x0 (IntKind.wrap .i64 (x1 + (1 : Int))) (IntKind.wrap .i64 (x5 + (1 : Int))) K)
  else none)
 else K (.ext 0) (z_heldByteS x1)) := by kernel_rfl
theorem go_heldByteS (x0 : List Int) (x1 : Int) (K : Ex → St → Option Ret) (h3 : x0.length ≤ 4611686018427387904) (hm : (markList f_byte x0 x1).1 = x0) : L_heldByteS (x0.length + 1) x0 x1 0 K = K (.ext 0) (z_heldByteS (markList f_byte x0 x1).2) :=
  loop_held (R := fun n i k => L_heldByteS n x0 k i K) (Kf := fun k => K (.ext 0) (z_heldByteS k)) (f := f_byte) (z := (0 : Int)) (fun n i k hi hy => by
    show L_heldByteS (n + 1) x0 k i K = _
    have hy' : IntKind.u8.wrap k = x0.getD i 0 := hy
    rw [step_heldByteS, decide_eq_true (show ((i : Nat) : Int) < ((x0.length : Nat) : Int) by omega), decide_eq_true (show (0 : Int) ≤ ((i : Nat) : Int) by omega), wrap_nat (show i ≤ 4611686018427387904 by omega), Int.toNat_natCast, hy']
    show (bif (x0.getD i 0 != x0.getD i 0) then _ else _) = _
    rw [bne_self_eq_false]; rfl) (fun n k => by
    show L_heldByteS (n + 1) x0 k _ K = _
    rw [step_heldByteS, decide_eq_false (show ¬ ((x0.length : Nat) : Int) < ((x0.length : Nat) : Int) by omega)]; rfl) x1 hm
theorem loop_heldByteS : LoopOk E_heldByteS (bodyOf F.l_heldByteS 2) := by
  refine loopF_ok (n := 2) (sh := sh_heldByteS) (R := R_heldByteS) (by kernel_rfl) rfl rfl (fun d K r hr => ?_)
  obtain ⟨⟨x0, x1, u1, u2, u3, x5, u4⟩, u5, u6⟩ := d
  unfold R_heldByteS at hr
  simp only at hr
  cases hc : ((x5 == 0) && Nat.ble x0.length 4611686018427387904 && eqD (markList f_byte x0 x1).1 x0) with
  | false => rw [hc] at hr; cases hr
  | true =>
    rw [hc] at hr
    simp only [Bool.and_eq_true, beq_iff_eq] at hc
    obtain ⟨⟨rfl, h3⟩, h4⟩ := hc
    exact ⟨x0.length + 1, (go_heldByteS x0 x1 K (Nat.le_of_ble_eq_true h3) (eqD_iff.1 h4)).trans hr⟩
noncomputable def G_heldByteS := evF E_heldByteS true F.l_heldByteS
theorem ok_heldByteS : OkFn prog I N.l_heldByteS true G_heldByteS := ok_fn mem0 (by kernel_rfl) (by kernel_rfl) (by kernel_rfl) (by kernel_rfl) (cs := [bodyOf F.l_heldByteS 2]) (by kernel_rfl) (loopsc loop_heldByteS loops0)
theorem ev_heldByteS (a : List Int) (k : Int) (K : Ret → Option Ret) (h : Nat.ble a.length 4611686018427387904 = true) (hm : eqD (markList f_byte a k).1 a = true) : G_heldByteS [.l .no bytesR a, .s (.int .i64 k)] K = K (sc (markList f_byte a k).2, []) := by
  have e : G_heldByteS [.l .no bytesR a, .s (.int .i64 k)] K =
   (bif ((0 : Int) == 0) && Nat.ble a.length 4611686018427387904 && eqD (markList f_byte a k).1 a then K (sc (markList f_byte a k).2, []) else none) := by kernel_rfl
  rw [e, h, hm]; rfl
theorem okS_heldByteS (T : MText) : OkFn prog I N.l_heldByteS true (S_heldL T bytesR) := okW ok_heldByteS (S_heldL_of fun xs k K h0 h1 h2 h3 => by
  simp only [Cc.cnt, Bool.and_eq_true] at h1
  exact ev_heldByteS xs k K h1.1 (eqD_iff.2 h0))
end Go.Ev.Seat
end
section
/- The laws' helpers on slices: their loops, for all kinds of rows at once. -/
set_option linter.unusedVariables false
namespace Go.Ev
noncomputable abbrev CtL (Γ : Env) (c : Code) (li lo : List Nat) (n : Nat) (σ : St) (K : Ex → St → Option Ret) : Option Ret := rounds (run Γ c) li lo n σ K
section
variable {Γ : Env} {c : Code} {r : Rw} {n : Nat} {T : MText}
theorem getD_mem {α : Type} {xs : List α} {i : Nat} {z : α} (h : i < xs.length) : xs.getD i z ∈ xs := by
  rw [List.getD_eq_getElem?_getD, List.getElem?_eq_getElem h]; exact List.getElem_mem h
theorem all_getD {α : Type} {xs : List α} {p : α → Bool} {i : Nat} {z : α} (h : xs.all p = true) (hi : i < xs.length) : p (xs.getD i z) = true := (List.all_eq_true.1 h) _ (getD_mem hi)

/-! ### to -/
def shTo (r : Rw) (n : Nat) : Ss := { tm := (.cons (.l .no r) (.cons .x (.cons .x (.cons (.w 0) (.cons (.int .i64) (xsh n)))))), ob := (.arr true true r .nil), nx := 1, io := .nil }
def dTo (r : Rw) (n : Nat) (x0 : List r.T) (x4 : Int) (o0 : List r.T) : (shTo r n).T := ((x0, ((), ((), ((), (x4, xd n))))), (o0, ()), ())
def zTo (r : Rw) (n : Nat) (o0 : List r.T) : St := { tm := ([.x, .x, .x, (.w 0)] ++ List.replicate (n + 1) .x), ob := [(0, (.arr true true r o0))], nx := 1, io := [] }
def RTo (r : Rw) (n : Nat) (d : (shTo r n).T) (K : Ex → St → Option Ret) : Option Ret := match d with
  | ((x0, (_, (_, (_, (x4, _))))), (o0, _), _) => bif (x4 == 0) && Nat.beq o0.length x0.length && (Cc.sl r).lim x0 then K (.ext 0) (zTo r n x0) else none
def StepTo (Γ : Env) (c : Code) (r : Rw) (n : Nat) : Prop := ∀ (m : Nat) (x0 : List r.T) (x4 : Int) (o0 : List r.T) (K : Ex → St → Option Ret), CtL Γ c [0,3,4] [3] (m + 1) ((shTo r n).mk' (dTo r n x0 x4 o0)) K =
  (bif decide (x4 < (((List.length x0) : Nat) : Int)) then
   (bif (decide ((0 : Int) ≤ x4) && decide (x4 < (((List.length x0) : Nat) : Int))) then
    (bif (r.lim (List.getD x0 (Int.toNat x4) r.dflt)) then
     (bif (decide ((0 : Int) ≤ x4) && decide (x4 < (((List.length o0) : Nat) : Int))) then
      CtL Γ c [0,3,4] [3] m ((shTo r n).mk' (dTo r n x0 (IntKind.wrap .i64 (x4 + (1 : Int))) (List.set o0 (Int.toNat x4) (List.getD x0 (Int.toNat x4) r.dflt)))) K
      else none)
     else none)
    else none)
   else K (.ext 0) (zTo r n o0))
theorem goTo (hs : StepTo Γ c r n) (x0 o0 : List r.T) (K : Ex → St → Option Ret) (h2 : o0.length = x0.length) (h3 : x0.length ≤ 1048576) (h4 : x0.all r.lim = true) : CtL Γ c [0,3,4] [3] (x0.length + 1) ((shTo r n).mk' (dTo r n x0 0 o0)) K = K (.ext 0) (zTo r n x0) :=
  loop_to (R := fun m i ys => CtL Γ c [0,3,4] [3] m ((shTo r n).mk' (dTo r n x0 i ys)) K) (Kf := fun ys => K (.ext 0) (zTo r n ys)) (z := r.dflt) (fun m i ys hi hy => by
    have := hs m x0 i ys K
    refine this.trans ?_
    rw [decide_eq_true (show ((i : Nat) : Int) < ((x0.length : Nat) : Int) by omega), decide_eq_true (show (0 : Int) ≤ ((i : Nat) : Int) by omega), decide_eq_true (show ((i : Nat) : Int) < ((ys.length : Nat) : Int) by omega), wrap_nat (show i ≤ 4611686018427387904 by omega), Int.toNat_natCast, all_getD h4 hi]
    rfl) (fun m ys hy => by
    refine (hs m x0 _ ys K).trans ?_
    rw [decide_eq_false (show ¬ ((x0.length : Nat) : Int) < ((x0.length : Nat) : Int) by omega)]; rfl) o0 h2
theorem loopTo (hn : firstRegion c = some 3) (hF : Γ.sum 3 = some (loopF (shTo r n) (RTo r n))) (hh : Γ.hint 3 = ([0,3,4], [3])) (hs : StepTo Γ c r n) : LoopOk Γ c := by
  refine loopF_ok (n := 3) hn hF hh (fun d K q hr => ?_)
  obtain ⟨⟨x0, u1, u2, u3, x4, u4⟩, ⟨o0, u5⟩, u6⟩ := d
  unfold RTo at hr
  simp only at hr
  cases hc : ((x4 == 0) && Nat.beq o0.length x0.length && (Cc.sl r).lim x0) with
  | false => rw [hc] at hr; cases hr
  | true =>
    rw [hc] at hr
    simp only [Bool.and_eq_true, beq_iff_eq, Cc.lim] at hc
    obtain ⟨⟨rfl, h2⟩, h3, h4⟩ := hc
    refine ⟨x0.length + 1, Eq.trans ?_ hr⟩
    have he : u4 = xd n := xd_eq u4
    subst he
    exact goTo hs x0 o0 K (Nat.eq_of_beq_eq_true h2) (Nat.le_of_ble_eq_true h3) h4
where xd_eq : {n : Nat} → (u : (xsh n).T) → u = xd n
  | 0, _ => rfl
  | n + 1, (_, u) => congrArg (Prod.mk ()) (xd_eq u)
def TreeTo (r : Rw) (n sz : Nat) (G : Sm) : Prop := ∀ (a : List r.T) (K : Ret → Option Ret), G [.l .no r a] K =
   (bif ((((((((List.length a) : Nat) : Int) == (((List.length a) : Nat) : Int)) && decide ((0 : Int) ≤ (((List.length a) : Nat) : Int))) && decide (((Int.toNat (((List.length a) : Nat) : Int)) * sz) ≤ 140737488355328)) && decide ((((List.length a) : Nat) : Int) ≤ (4611686018427387904 : Int)))) then
    (bif ((0 : Int) == 0) && Nat.beq (List.replicate (Int.toNat (((List.length a) : Nat) : Int)) r.dflt).length a.length && (Cc.sl r).lim a then K (.l .deep r a, []) else none) else none)
theorem evTo {G : Sm} {sz : Nat} (h : TreeTo r n sz G) (hz : Nat.ble sz 1024 = true) : ∀ ws K q, S_toL r ws K = some q → G ws K = some q := S_toL_of (fun a K hl => by
  rw [h, hl]
  simp only [Cc.lim, Bool.and_eq_true] at hl
  have h3 : a.length ≤ 1048576 := Nat.le_of_ble_eq_true hl.1
  have h5 : sz ≤ 1024 := Nat.le_of_ble_eq_true hz
  have h6 : a.length * sz ≤ 1048576 * 1024 := Nat.mul_le_mul h3 h5
  rw [decide_eq_true (show ((a.length : Nat) : Int) ≤ 4611686018427387904 by omega), decide_eq_true (show (0 : Int) ≤ ((a.length : Nat) : Int) by omega), Int.toNat_natCast, decide_eq_true (show a.length * sz ≤ 140737488355328 by omega), List.length_replicate, beq_self_eq_true, beq_self_eq_true, Nat.beq_refl]
  rfl)

/-! ### eq -/
def shEq (r : Rw) (n : Nat) : Ss := { tm := (.cons (.l .no r) (.cons (.l .no r) (.cons (.x) (.cons (.x) (.cons (.x) (.cons (.int .i64) (xsh n))))))), ob := .nil, nx := 0, io := .nil }
def dEq (r : Rw) (n : Nat) (x0 x1 : List r.T) (x5 : Int) : (shEq r n).T := ((x0, (x1, ((), ((), ((), (x5, xd n)))))), (), ())
def zEq (n : Nat) : St := { tm := ([] ++ List.replicate (n + 6) .x), ob := [], nx := 0, io := [] }
def yEq (n : Nat) : St := { tm := ([.x, .x, .x, .x, (.s (.bool false))] ++ List.replicate (n + 1) .x), ob := [], nx := 0, io := [] }
noncomputable def REq (r : Rw) (n : Nat) (d : (shEq r n).T) (K : Ex → St → Option Ret) : Option Ret := match d with
  | ((x0, (x1, (_, (_, (_, (x5, _)))))), _, _) => bif (x5 == 0) && Nat.beq x1.length x0.length && (Cc.sl r).cnt x0 then (bif eqD x0 x1 then K (.ext 0) (zEq n) else K .ret (yEq n)) else none
def StepEq (Γ : Env) (c : Code) (r : Rw) (n : Nat) : Prop := ∀ (m : Nat) (x0 x1 : List r.T) (x5 : Int) (K : Ex → St → Option Ret), CtL Γ c [0,1,5] [4] (m + 1) ((shEq r n).mk' (dEq r n x0 x1 x5)) K =
 (bif decide (x5 < (((List.length x0) : Nat) : Int)) then
 (bif (decide ((0 : Int) ≤ x5) && decide (x5 < (((List.length x0) : Nat) : Int))) then
  (bif (decide ((0 : Int) ≤ x5) && decide (x5 < (((List.length x1) : Nat) : Int))) then
   (bif (r.cnt (List.getD x0 (Int.toNat x5) r.dflt)) then
    (bif (!(eqD (List.getD x0 (Int.toNat x5) r.dflt) (List.getD x1 (Int.toNat x5) r.dflt))) then
     K .ret (yEq n)
     else CtL Γ c [0,1,5] [4] m ((shEq r n).mk' (dEq r n x0 x1 (IntKind.wrap .i64 (x5 + (1 : Int))))) K)
    else none)
   else none)
  else none)
 else K (.ext 0) (zEq n))
theorem goEq (hs : StepEq Γ c r n) (x0 x1 : List r.T) (K : Ex → St → Option Ret) (h2 : x1.length = x0.length) (h3 : x0.length ≤ 4611686018427387904) (h4 : x0.all r.cnt = true) : CtL Γ c [0,1,5] [4] (x0.length + 1) ((shEq r n).mk' (dEq r n x0 x1 0)) K = bif eqD x0 x1 then K (.ext 0) (zEq n) else K .ret (yEq n) :=
  loop_eq (R := fun m i => CtL Γ c [0,1,5] [4] m ((shEq r n).mk' (dEq r n x0 x1 i)) K) (z := r.dflt) (e := eqD) (fun a b => eqD_iff) h2 (fun m i hi => by
    refine (hs m x0 x1 i K).trans ?_
    rw [decide_eq_true (show ((i : Nat) : Int) < ((x0.length : Nat) : Int) by omega), decide_eq_true (show (0 : Int) ≤ ((i : Nat) : Int) by omega), decide_eq_true (show ((i : Nat) : Int) < ((x1.length : Nat) : Int) by omega), wrap_nat (show i ≤ 4611686018427387904 by omega), Int.toNat_natCast, all_getD h4 hi]
    cases eqD (x0.getD i r.dflt) (x1.getD i r.dflt) <;> rfl) (fun m => by
    refine (hs m x0 x1 _ K).trans ?_
    rw [decide_eq_false (show ¬ ((x0.length : Nat) : Int) < ((x0.length : Nat) : Int) by omega)]; rfl)
theorem loopEq (hn : firstRegion c = some 4) (hF : Γ.sum 4 = some (loopF (shEq r n) (REq r n))) (hh : Γ.hint 4 = ([0,1,5], [4])) (hs : StepEq Γ c r n) : LoopOk Γ c := by
  refine loopF_ok (n := 4) hn hF hh (fun d K q hr => ?_)
  obtain ⟨⟨x0, x1, u1, u2, u3, x5, u4⟩, u5, u6⟩ := d
  unfold REq at hr
  simp only at hr
  cases hc : ((x5 == 0) && Nat.beq x1.length x0.length && (Cc.sl r).cnt x0) with
  | false => rw [hc] at hr; cases hr
  | true =>
    rw [hc] at hr
    simp only [Bool.and_eq_true, beq_iff_eq, Cc.cnt] at hc
    obtain ⟨⟨rfl, h2⟩, h3, h4⟩ := hc
    refine ⟨x0.length + 1, Eq.trans ?_ hr⟩
    have he : u4 = xd n := loopTo.xd_eq u4
    subst he
    exact goEq hs x0 x1 K (Nat.eq_of_beq_eq_true h2) (Nat.le_of_ble_eq_true h3) h4
def TreeEq (r : Rw) (G : Sm) : Prop := ∀ (a b : List r.T) (K : Ret → Option Ret), G [.l .no r a, .l .no r b] K =
   (bif ((((List.length a) : Nat) : Int) != (((List.length b) : Nat) : Int)) then K (bl false, [])
    else bif ((0 : Int) == 0) && Nat.beq b.length a.length && (Cc.sl r).cnt a then (bif eqD a b then K (bl true, []) else K (bl false, [])) else none)
theorem evEq {G : Sm} (h : TreeEq r G) : ∀ ws K q, S_eq r ws K = some q → G ws K = some q := S_eq_of (fun a b K hl => by
  rw [h, hl]
  by_cases hl : b.length = a.length
  · rw [hl, Nat.beq_refl]
    cases eqD a b <;> simp
  · have h1 : ((((List.length a) : Nat) : Int) != (((List.length b) : Nat) : Int)) = true := by simp; omega
    rw [h1, eqD_false (fun h' => hl (by rw [h']))]; rfl)

/-! ### sz -/
def shSz (r : Rw) (n : Nat) : Ss := { tm := (.cons (.l .no r) (.cons (.int .i64) (.cons (.x) (.cons (.x) (.cons (.x) (.cons (.int .i64) (xsh n))))))), ob := .nil, nx := 0, io := .nil }
def dSz (r : Rw) (n : Nat) (x0 : List r.T) (x1 : Int) (x5 : Int) : (shSz r n).T := ((x0, (x1, ((), ((), ((), (x5, xd n)))))), (), ())
def zSz (n : Nat) (x1 : Int) : St := { tm := ([.x, (.s (.int .i64 x1))] ++ List.replicate (n + 4) .x), ob := [], nx := 0, io := [] }
def ySz (n : Nat) (x1 : Int) : St := { tm := ([.x, (.s (.int .i64 x1)), .x, .x, (.s (.int .i64 (-(1 : Int))))] ++ List.replicate (n + 1) .x), ob := [], nx := 0, io := [] }
def RSz (r : Rw) (n : Nat) (d : (shSz r n).T) (K : Ex → St → Option Ret) : Option Ret := match d with
  | ((x0, (x1, (_, (_, (_, (x5, _)))))), _, _) => bif (x5 == 0) && szOk x1 && (Nat.ble x0.length 4611686018427387904 && x0.all r.cnz) then (bif decide (x1 - sumW r.w x0 < 0) then K .ret (ySz n (-1)) else K (.ext 0) (zSz n (x1 - sumW r.w x0))) else none
def StepSz (Γ : Env) (c : Code) (r : Rw) (n : Nat) : Prop := ∀ (m : Nat) (x0 : List r.T) (x1 : Int) (x5 : Int) (K : Ex → St → Option Ret), CtL Γ c [0,1,5] [1,4] (m + 1) ((shSz r n).mk' (dSz r n x0 x1 x5)) K =
 (bif decide (x5 < (((List.length x0) : Nat) : Int)) then
 (bif (decide ((0 : Int) ≤ x5) && decide (x5 < (((List.length x0) : Nat) : Int))) then
  (bif ((szOk x1) && (r.cnz (List.getD x0 (Int.toNat x5) r.dflt))) then
   (bif decide ((szN (r.w (List.getD x0 (Int.toNat x5) r.dflt)) x1) < (0 : Int)) then
    K .ret (ySz n (szN (r.w (List.getD x0 (Int.toNat x5) r.dflt)) x1))
    else CtL Γ c [0,1,5] [1,4] m ((shSz r n).mk' (dSz r n x0 (szN (r.w (List.getD x0 (Int.toNat x5) r.dflt)) x1) (IntKind.wrap .i64 (x5 + (1 : Int))))) K)
   else none)
  else none)
 else K (.ext 0) (zSz n x1))
theorem szN_neg {w : Nat} {l : Int} (h : l - w < 0) : szN w l = -1 := if_pos h
theorem szN_pos {w : Nat} {l : Int} (h : ¬ l - w < 0) : szN w l = l - w := if_neg h
theorem szOk_of {l : Int} (h0 : 0 ≤ l) (h1 : l ≤ 4611686018427387904) : szOk l = true := by
  unfold szOk; rw [decide_eq_true h0, decide_eq_true h1]; rfl
theorem goSz (hs : StepSz Γ c r n) (x0 : List r.T) (x1 : Int) (K : Ex → St → Option Ret) (h0 : 0 ≤ x1) (h1 : x1 ≤ 4611686018427387904) (h3 : x0.length ≤ 4611686018427387904) (h4 : x0.all r.cnz = true) : CtL Γ c [0,1,5] [1,4] (x0.length + 1) ((shSz r n).mk' (dSz r n x0 x1 0)) K = bif decide (x1 - sumW r.w x0 < 0) then K .ret (ySz n (-1)) else K (.ext 0) (zSz n (x1 - sumW r.w x0)) :=
  loop_sz (R := fun m i l => CtL Γ c [0,1,5] [1,4] m ((shSz r n).mk' (dSz r n x0 l i)) K) (Kt := fun l => K (.ext 0) (zSz n l)) (Kf := K .ret (ySz n (-1))) (g := r.w) (z := r.dflt) (fun m i l hi h0 h1 => by
    refine (hs m x0 l i K).trans ?_
    rw [decide_eq_true (show ((i : Nat) : Int) < ((x0.length : Nat) : Int) by omega), decide_eq_true (show (0 : Int) ≤ ((i : Nat) : Int) by omega), wrap_nat (show i ≤ 4611686018427387904 by omega), Int.toNat_natCast, all_getD h4 hi, szOk_of h0 h1]
    by_cases e : l - (r.w (x0.getD i r.dflt) : Int) < 0
    · rw [szN_neg e, decide_eq_true e]; rfl
    · rw [szN_pos e, decide_eq_false e]; rfl) (fun m l h0 => by
    refine (hs m x0 l _ K).trans ?_
    rw [decide_eq_false (show ¬ ((x0.length : Nat) : Int) < ((x0.length : Nat) : Int) by omega)]; rfl) x1 h0 h1
theorem loopSz (hn : firstRegion c = some 5) (hF : Γ.sum 5 = some (loopF (shSz r n) (RSz r n))) (hh : Γ.hint 5 = ([0,1,5], [1,4])) (hs : StepSz Γ c r n) : LoopOk Γ c := by
  refine loopF_ok (n := 5) hn hF hh (fun d K q hr => ?_)
  obtain ⟨⟨x0, x1, u1, u2, u3, x5, u4⟩, u5, u6⟩ := d
  unfold RSz at hr
  simp only at hr
  cases hc : ((x5 == 0) && szOk x1 && (Nat.ble x0.length 4611686018427387904 && x0.all r.cnz)) with
  | false => rw [hc] at hr; cases hr
  | true =>
    rw [hc] at hr
    simp only [Bool.and_eq_true, beq_iff_eq, szOk, decide_eq_true_eq] at hc
    obtain ⟨⟨rfl, h1, h2⟩, h3, h4⟩ := hc
    refine ⟨x0.length + 1, Eq.trans ?_ hr⟩
    have he : u4 = xd n := loopTo.xd_eq u4
    subst he
    exact goSz hs x0 x1 K h1 h2 (Nat.le_of_ble_eq_true h3) h4
def TreeSz (r : Rw) (G : Sm) : Prop := ∀ (a : List r.T) (k : Int) (K : Ret → Option Ret), G [.l .no r a, .s (.int .i64 k)] K =
   (bif decide ((IntKind.wrap .i64 (k - (((List.length a) : Nat) : Int))) < (0 : Int)) then K (sc (-1), [])
    else (bif ((0 : Int) == 0) && szOk (IntKind.wrap .i64 (k - (((List.length a) : Nat) : Int))) && (Nat.ble a.length 4611686018427387904 && a.all r.cnz) then (bif decide (IntKind.wrap .i64 (k - (((List.length a) : Nat) : Int)) - sumW r.w a < 0) then K (sc (-1), []) else K (sc (IntKind.wrap .i64 (k - (((List.length a) : Nat) : Int)) - sumW r.w a), [])) else none))
theorem evSz {G : Sm} (h : TreeSz r G) : ∀ ws K q, S_szL r ws K = some q → G ws K = some q := S_szL_of (fun a k K hk hl => by
  simp only [szOk, Bool.and_eq_true, decide_eq_true_eq] at hk
  have hl' := hl
  simp only [Cc.cnz, Bool.and_eq_true] at hl'
  have h3 : a.length ≤ 9223372036854775807 := Nat.le_of_ble_eq_true hl'.1
  rw [h, hl'.2, wrap_in (by omega) (by omega), show (Cc.sl r).w a = a.length + sumW r.w a from rfl, szN_step hk.1]
  by_cases e : k - ((a.length : Nat) : Int) < 0
  · rw [decide_eq_true e, szN_neg e]; rfl
  · rw [decide_eq_false e, szN_pos e, szOk_of (by omega) (by omega), Nat.ble_eq_true_of_le (show a.length ≤ 4611686018427387904 by omega), if_neg (by omega)]
    by_cases e2 : k - ((a.length : Nat) : Int) - sumW r.w a < 0
    · rw [decide_eq_true e2, szN_neg e2]; rfl
    · rw [decide_eq_false e2, szN_pos e2]; rfl)

/-! ### mark -/
def mkC {α ρ : Type} (T : MText) (z : α) (x5 : Int) : (c : Cc) → (get : α → c.T) → (put : α → c.T → α) → List α → Int → (List α → Int → Option ρ) → Option ρ
  | .sl r, get, put, o, k, n =>
    bif (decide ((0 : Int) ≤ x5) && decide (x5 < (((List.length o) : Nat) : Int))) then
     (bif decide (Int.toNat x5 < List.length o) then
      (bif (Cc.sl r).cnt (get (List.getD o (Int.toNat x5) z)) then
       n (List.set o (Int.toNat x5) (put (List.getD o (Int.toNat x5) z) ((Cc.sl r).mark T (get (List.getD o (Int.toNat x5) z)) k).1)) ((Cc.sl r).mark T (get (List.getD o (Int.toNat x5) z)) k).2
       else none)
      else none)
     else none
  | .int i, get, put, o, k, n =>
    bif (decide ((0 : Int) ≤ x5) && decide (x5 < (((List.length o) : Nat) : Int))) then
     n (List.set o (Int.toNat x5) (put (List.getD o (Int.toNat x5) z) (markInt i k))) (IntKind.i64.wrap (k + 1))
     else none
  | _, _, _, _, _, _ => none
def mkR {α ρ : Type} (T : MText) (z : α) (x5 : Int) : (r : Rw) → (get : α → r.T) → (put : α → r.T → α) → List α → Int → (List α → Int → Option ρ) → Option ρ
  | .one c, get, put, o, k, n => mkC T z x5 c get put o k n
  | .cons c r, get, put, o, k, n => mkC T z x5 c (fun p => (get p).1) (fun p v => put p (v, (get p).2)) o k (fun o k => mkR T z x5 r (fun p => (get p).2) (fun p v => put p ((get p).1, v)) o k n)
def Cc.mkOk : Cc → Bool
  | .int _ => true
  | .sl _ => true
  | _ => false
def Rw.mkOk : Rw → Bool
  | .one c => c.mkOk
  | .cons c r => c.mkOk && r.mkOk
theorem getD_set_self {α : Type} {os : List α} {i : Nat} {v z : α} (h : i < os.length) : (os.set i v).getD i z = v := by
  rw [List.getD_eq_getElem?_getD, List.getElem?_set_self h]; rfl
theorem mkC_ok {α ρ : Type} {z : α} {os : List α} {i : Nat} (hi : i < os.length) : (c : Cc) → (get : α → c.T) → (put : α → c.T → α) → (hgp : ∀ p v, get (put p v) = v) → (v : α) → (k : Int) → (n : List α → Int → Option ρ) → c.mkOk = true → c.cnt (get v) = true → mkC T z (i : Nat) c get put (os.set i v) k n = n (os.set i (put v (c.mark T (get v) k).1)) (c.mark T (get v) k).2
  | .sl r, get, put, hgp, v, k, n, hm, hc => by
    have hc' : (Cc.sl r).cnt (get ((os.set i v).getD i z)) = true := by rw [getD_set_self hi]; exact hc
    simp only [mkC]
    rw [Int.toNat_natCast, hc', List.length_set, decide_eq_true (show (0 : Int) ≤ ((i : Nat) : Int) by omega), decide_eq_true (show ((i : Nat) : Int) < ((os.length : Nat) : Int) by omega), decide_eq_true hi, getD_set_self hi, List.set_set]
    rfl
  | .int _, get, put, hgp, v, k, n, hm, hc => by
    simp only [mkC]
    rw [Int.toNat_natCast, List.length_set, decide_eq_true (show (0 : Int) ≤ ((i : Nat) : Int) by omega), decide_eq_true (show ((i : Nat) : Int) < ((os.length : Nat) : Int) by omega), getD_set_self hi, List.set_set]
    rfl
  | .bool, _, _, _, _, _, _, hm, _ => by cases hm
  | .str, _, _, _, _, _, _, hm, _ => by cases hm
theorem mkR_ok {α ρ : Type} {z : α} {os : List α} {i : Nat} (hi : i < os.length) : (r : Rw) → (get : α → r.T) → (put : α → r.T → α) → (hgp : ∀ p v, get (put p v) = v) → (hpp : ∀ p v w, put (put p v) w = put p w) → (v : α) → (k : Int) → (n : List α → Int → Option ρ) → r.mkOk = true → r.cnt (get v) = true → mkR T z (i : Nat) r get put (os.set i v) k n = n (os.set i (put v (r.mark T (get v) k).1)) (r.mark T (get v) k).2
  | .one c, get, put, hgp, hpp, v, k, n, hm, hc => mkC_ok hi c get put hgp v k n hm hc
  | .cons c r, get, put, hgp, hpp, v, k, n, hm, hc => by
    simp only [Rw.mkOk, Rw.cnt, Bool.and_eq_true] at hm hc
    simp only [mkR]
    rw [mkC_ok hi c _ _ (fun p v => by rw [hgp]) v k _ hm.1 hc.1]
    rw [mkR_ok hi r _ _ (fun p v => by rw [hgp]) (fun p v w => by rw [hgp, hpp]) _ _ n hm.2 (by rw [hgp]; exact hc.2)]
    simp only [hgp, hpp]
    rfl
def shMk (r : Rw) (n : Nat) : Ss := { tm := (.cons (.w 0) (.cons (.int .i64) (.cons (.x) (.cons (.x) (.cons (.x) (.cons (.int .i64) (xsh n))))))), ob := (.own true r .nil), nx := 1, io := (.cons (.w 0) .nil) }
def dMk (r : Rw) (n : Nat) (x1 : Int) (x5 : Int) (o0 : List r.T) : (shMk r n).T := (((), (x1, ((), ((), ((), (x5, xd n)))))), (o0, ()), ((), ()))
def zMk (r : Rw) (n : Nat) (x1 : Int) (o0 : List r.T) : St := { tm := ([.x, (.s (.int .i64 x1))] ++ List.replicate (n + 4) .x), ob := [(0, (.own true r o0))], nx := 1, io := [(.w 0)] }
def RMk (T : MText) (r : Rw) (n : Nat) (d : (shMk r n).T) (K : Ex → St → Option Ret) : Option Ret := match d with
  | ((_, (x1, (_, (_, (_, (x5, _)))))), (o0, _), _) => bif (x5 == 0) && (Cc.sl r).cnt o0 then K (.ext 0) (zMk r n ((Cc.sl r).mark T o0 x1).2 ((Cc.sl r).mark T o0 x1).1) else none
def StepMk (T : MText) (Γ : Env) (c : Code) (r : Rw) (n : Nat) : Prop := ∀ (m : Nat) (x1 : Int) (x5 : Int) (o0 : List r.T) (K : Ex → St → Option Ret), CtL Γ c [0,1,5] [1] (m + 1) ((shMk r n).mk' (dMk r n x1 x5 o0)) K =
 (bif decide (x5 < (((List.length o0) : Nat) : Int)) then
  mkR T r.dflt x5 r id (fun _ v => v) o0 x1 (fun o k => CtL Γ c [0,1,5] [1] m ((shMk r n).mk' (dMk r n k (IntKind.wrap .i64 (x5 + (1 : Int))) o)) K)
  else K (.ext 0) (zMk r n x1 o0))
theorem loop_markP {α ρ : Type} {R : Nat → Int → Int → List α → ρ} {Kf : Int → List α → ρ} {f : α → Int → α × Int} {z : α} {p : α → Bool} (n : Nat)
    (hs : ∀ m (i : Nat) k (ys : List α), i < n → ys.length = n → p (ys.getD i z) = true → R (m + 1) i k ys = R m ((i + 1 : Nat) : Int) (f (ys.getD i z) k).2 (ys.set i (f (ys.getD i z) k).1))
    (he : ∀ m k (ys : List α), ys.length = n → R (m + 1) (n : Nat) k ys = Kf k ys) (xs : List α) (hx : xs.length = n) (hp : xs.all p = true) (k : Int) : R (n + 1) 0 k xs = Kf (markList f xs k).2 (markList f xs k).1 := by
  have key : ∀ (j i : Nat) (k : Int) (pre suf : List α), pre.length = i → (pre ++ suf).length = n → i + j = n → suf.all p = true → R (j + 1) i k (pre ++ suf) = Kf (markList f suf k).2 (pre ++ (markList f suf k).1) := by
    intro j
    induction j with
    | zero =>
      intro i k pre suf hp hn hi _
      have hs0 : suf = [] := by
        cases suf with
        | nil => rfl
        | cons x xs => simp at hn; omega
      subst hs0
      have : i = n := by omega
      subst this
      rw [he 0 k _ hn]; rfl
    | succ j ih =>
      intro i k pre suf hp hn hi ha
      cases suf with
      | nil => simp at hn; omega
      | cons x suf =>
        simp only [List.all_cons, Bool.and_eq_true] at ha
        have hg : (pre ++ x :: suf).getD i z = x := by
          rw [List.getD_eq_getElem?_getD, List.getElem?_append_right (by omega), hp, Nat.sub_self]; rfl
        rw [hs _ i k _ (by omega) hn (by rw [hg]; exact ha.1)]
        have hset : (pre ++ x :: suf).set i (f x k).1 = (pre ++ [(f x k).1]) ++ suf := by
          rw [List.set_append_right _ _ (by omega), hp, Nat.sub_self]; simp
        rw [hg, hset, ih (i + 1) (f x k).2 (pre ++ [(f x k).1]) suf (by simp [hp]) (by simpa using hn) (by omega) ha.2]
        simp [markList]
  have := key n 0 k [] xs rfl (by simpa using hx) (by omega) hp
  simpa using this
theorem set_getD_self {α : Type} {xs : List α} {i : Nat} {z : α} (h : i < xs.length) : xs.set i (xs.getD i z) = xs := by
  rw [List.getD_eq_getElem?_getD, List.getElem?_eq_getElem h]; simp
theorem goMk (hm : r.mkOk = true) (hs : StepMk T Γ c r n) (x1 : Int) (o0 : List r.T) (K : Ex → St → Option Ret) (h3 : o0.length ≤ 4611686018427387904) (h4 : o0.all r.cnt = true) : CtL Γ c [0,1,5] [1] (o0.length + 1) ((shMk r n).mk' (dMk r n x1 0 o0)) K = K (.ext 0) (zMk r n ((Cc.sl r).mark T o0 x1).2 ((Cc.sl r).mark T o0 x1).1) :=
  loop_markP (R := fun m i k ys => CtL Γ c [0,1,5] [1] m ((shMk r n).mk' (dMk r n k i ys)) K) (Kf := fun k ys => K (.ext 0) (zMk r n k ys)) (f := r.mark T) (z := r.dflt) (p := r.cnt) o0.length (fun m i k ys hi hy hp => by
    refine (hs m k i ys K).trans ?_
    rw [decide_eq_true (show ((i : Nat) : Int) < ((ys.length : Nat) : Int) by omega), wrap_nat (show i ≤ 4611686018427387904 by omega)]
    have := mkR_ok (T := T) (z := r.dflt) (os := ys) (i := i) (by omega) r id (fun _ v => v) (fun _ _ => rfl) (fun _ _ _ => rfl) (ys.getD i r.dflt) k (fun o k => CtL Γ c [0,1,5] [1] m ((shMk r n).mk' (dMk r n k ((i + 1 : Nat) : Int) o)) K) hm hp
    rw [set_getD_self (by omega)] at this
    exact this) (fun m k ys hy => by
    refine (hs m k _ ys K).trans ?_
    rw [decide_eq_false (show ¬ ((o0.length : Nat) : Int) < ((ys.length : Nat) : Int) by omega)]; rfl) o0 rfl h4 x1
theorem loopMk (hn : firstRegion c = some 2) (hF : Γ.sum 2 = some (loopF (shMk r n) (RMk T r n))) (hh : Γ.hint 2 = ([0,1,5], [1])) (hm : r.mkOk = true) (hs : StepMk T Γ c r n) : LoopOk Γ c := by
  refine loopF_ok (n := 2) hn hF hh (fun d K q hr => ?_)
  obtain ⟨⟨u0, x1, u1, u2, u3, x5, u4⟩, ⟨o0, u5⟩, u6⟩ := d
  unfold RMk at hr
  simp only at hr
  cases hc : ((x5 == 0) && (Cc.sl r).cnt o0) with
  | false => rw [hc] at hr; cases hr
  | true =>
    rw [hc] at hr
    simp only [Bool.and_eq_true, beq_iff_eq, Cc.cnt] at hc
    obtain ⟨rfl, h3, h4⟩ := hc
    refine ⟨o0.length + 1, Eq.trans ?_ hr⟩
    have he : u4 = xd n := loopTo.xd_eq u4
    subst he
    exact goMk hm hs x1 o0 K (Nat.le_of_ble_eq_true h3) h4
def TreeMk (T : MText) (r : Rw) (G : Sm) : Prop := ∀ (a : List r.T) (k : Int) (K : Ret → Option Ret), G [.l .own r a, .s (.int .i64 k)] K =
   (bif ((0 : Int) == 0) && (Cc.sl r).cnt a then K (sc ((Cc.sl r).mark T a k).2, [.l .own r ((Cc.sl r).mark T a k).1]) else none)
theorem evMk {G : Sm} (h : TreeMk T r G) : ∀ ws K q, S_markL T r ws K = some q → G ws K = some q := S_markL_of (fun a k K hl => by
  rw [h, hl]; rfl)

/-! ### held -/
noncomputable def hdC {ρ : Type} (T : MText) (x5 : Int) (len : Nat) : (c : Cc) → c.T → Int → (Int → Option ρ) → (Int → Option ρ) → Option ρ
  | .sl r, d, k, Z, n =>
    bif (decide ((0 : Int) ≤ x5) && decide (x5 < ((len : Nat) : Int))) then
     (bif ((eqD ((Cc.sl r).mark T d k).1 d) && (((Cc.sl r).cnt d) && decide ((0 : Int) ≤ k) && decide (k + ((((Cc.sl r).marks d) : Nat) : Int) ≤ (4611686018427387904 : Int)))) then
      (bif decide (((Cc.sl r).mark T d k).2 < (0 : Int)) then Z ((Cc.sl r).mark T d k).2 else n ((Cc.sl r).mark T d k).2)
      else none)
     else none
  | .int i, d, k, Z, n =>
    bif (decide ((0 : Int) ≤ x5) && decide (x5 < ((len : Nat) : Int))) then
     (bif (d != markInt i k) then Z k else n (IntKind.i64.wrap (k + 1)))
     else none
  | _, _, _, _, _ => none
noncomputable def hdR {ρ : Type} (T : MText) (x5 : Int) (len : Nat) : (r : Rw) → r.T → Int → (Int → Option ρ) → (Int → Option ρ) → Option ρ
  | .one c, d, k, Z, n => hdC T x5 len c d k Z n
  | .cons c r, d, k, Z, n => hdC T x5 len c d.1 k Z (fun k => hdR T x5 len r d.2 k Z n)
theorem hdC_ok {ρ : Type} {len i : Nat} (hi : i < len) {Z n : Int → Option ρ} : (c : Cc) → (d : c.T) → (k : Int) → c.mkOk = true → (c.mark T d k).1 = d → c.cnt d = true → 0 ≤ k → k + c.marks d ≤ 4611686018427387904 → hdC T (i : Nat) len c d k Z n = n (c.mark T d k).2
  | .sl r, d, k, hm, h1, h2, h3, h4 => by
    have e := Cc.mark_cnt T (.sl r) d k h3 h4
    simp only [hdC]
    rw [h2, eqD_iff.2 h1, decide_eq_true h3, decide_eq_true h4, decide_eq_true (show (0 : Int) ≤ ((i : Nat) : Int) by omega), decide_eq_true (show ((i : Nat) : Int) < ((len : Nat) : Int) by omega), decide_eq_false (show ¬ ((Cc.sl r).mark T d k).2 < 0 by rw [e]; omega)]
    rfl
  | .int _, d, k, hm, h1, h2, h3, h4 => by
    have h1' : markInt _ k = d := h1
    simp only [hdC]
    rw [h1', bne_self_eq_false, decide_eq_true (show (0 : Int) ≤ ((i : Nat) : Int) by omega), decide_eq_true (show ((i : Nat) : Int) < ((len : Nat) : Int) by omega)]
    rfl
  | .bool, _, _, hm, _, _, _, _ => by cases hm
  | .str, _, _, hm, _, _, _, _ => by cases hm
theorem hdR_ok {ρ : Type} {len i : Nat} (hi : i < len) {Z n : Int → Option ρ} : (r : Rw) → (d : r.T) → (k : Int) → r.mkOk = true → (r.mark T d k).1 = d → r.cnt d = true → 0 ≤ k → k + r.marks d ≤ 4611686018427387904 → hdR T (i : Nat) len r d k Z n = n (r.mark T d k).2
  | .one c, d, k, hm, h1, h2, h3, h4 => hdC_ok hi c d k hm h1 h2 h3 h4
  | .cons c r, d, k, hm, h1, h2, h3, h4 => by
    simp only [Rw.mkOk, Rw.cnt, Bool.and_eq_true, Rw.mark, Rw.marks] at hm h1 h2 h4
    have e := Cc.mark_cnt T c d.1 k h3 (by omega)
    have h1a : (c.mark T d.1 k).1 = d.1 := congrArg Prod.fst h1
    have h1b : (r.mark T d.2 (c.mark T d.1 k).2).1 = d.2 := congrArg Prod.snd h1
    simp only [hdR]
    rw [hdC_ok hi c d.1 k hm.1 h1a h2.1 h3 (by omega)]
    rw [hdR_ok hi r d.2 _ hm.2 h1b h2.2 (by rw [e]; omega) (by rw [e]; omega)]
    rfl
noncomputable def RHd (T : MText) (r : Rw) (n : Nat) (d : (shSz r n).T) (K : Ex → St → Option Ret) : Option Ret := match d with
  | ((x0, (x1, (_, (_, (_, (x5, _)))))), _, _) => bif (x5 == 0) && eqD ((Cc.sl r).mark T x0 x1).1 x0 && ((Cc.sl r).cnt x0 && decide (0 ≤ x1) && decide (x1 + ((Cc.sl r).marks x0 : Nat) ≤ 4611686018427387904)) then K (.ext 0) (zSz n ((Cc.sl r).mark T x0 x1).2) else none
def StepHd (T : MText) (Γ : Env) (c : Code) (r : Rw) (n : Nat) : Prop := ∀ (m : Nat) (x0 : List r.T) (x1 : Int) (x5 : Int) (K : Ex → St → Option Ret), CtL Γ c [0,1,5] [1,4] (m + 1) ((shSz r n).mk' (dSz r n x0 x1 x5)) K =
 (bif decide (x5 < (((List.length x0) : Nat) : Int)) then
  hdR T x5 (List.length x0) r (List.getD x0 (Int.toNat x5) r.dflt) x1 (fun k => K .ret (ySz n k)) (fun k => CtL Γ c [0,1,5] [1,4] m ((shSz r n).mk' (dSz r n x0 k (IntKind.wrap .i64 (x5 + (1 : Int))))) K)
  else K (.ext 0) (zSz n x1))
theorem loop_heldP {α ρ : Type} {R : Nat → Int → Int → ρ} {Kf : Int → ρ} {f : α → Int → α × Int} {m : α → Nat} {xs : List α} {z : α}
    (hf : ∀ x ∈ xs, ∀ (k : Int), 0 ≤ k → k + m x ≤ 4611686018427387904 → (f x k).2 = k + m x)
    (hs : ∀ j (i : Nat) k, i < xs.length → (f (xs.getD i z) k).1 = xs.getD i z → 0 ≤ k → k + m (xs.getD i z) ≤ 4611686018427387904 → R (j + 1) i k = R j ((i + 1 : Nat) : Int) (f (xs.getD i z) k).2)
    (he : ∀ m k, R (m + 1) (xs.length : Nat) k = Kf k) (k : Int) (hm : (markList f xs k).1 = xs) (h0 : 0 ≤ k) (h1 : k + sumW m xs ≤ 4611686018427387904) : R (xs.length + 1) 0 k = Kf (markList f xs k).2 := by
  have key : ∀ (j i : Nat) (k : Int), i + j = xs.length → (markList f (xs.drop i) k).1 = xs.drop i → 0 ≤ k → k + sumW m (xs.drop i) ≤ 4611686018427387904 → R (j + 1) i k = Kf (markList f (xs.drop i) k).2 := by
    intro j
    induction j with
    | zero =>
      intro i k hi hm _ _
      have : i = xs.length := by omega
      subst this
      rw [he 0 k, List.drop_length]; rfl
    | succ j ih =>
      intro i k hi hm h0 h1
      have hlt : i < xs.length := by omega
      rw [List.drop_eq_getElem_cons hlt] at hm h1 ⊢
      simp only [markList, sumW] at hm h1 ⊢
      have e1 := (List.cons.inj hm).1
      have e2 := (List.cons.inj hm).2
      have hx : xs.getD i z = xs[i] := by rw [List.getD_eq_getElem?_getD, List.getElem?_eq_getElem hlt]; rfl
      have e3 := hf xs[i] (List.getElem_mem hlt) k h0 (by omega)
      rw [hs _ i k hlt (by rw [hx]; exact e1) h0 (by rw [hx]; omega), hx, ih (i + 1) _ (by omega) e2 (by rw [e3]; omega) (by rw [e3]; omega)]
  have := key xs.length 0 k (by omega) (by simpa using hm) h0 (by simpa using h1)
  simpa using this
theorem goHd (hm : r.mkOk = true) (hs : StepHd T Γ c r n) (x0 : List r.T) (x1 : Int) (K : Ex → St → Option Ret) (h2 : ((Cc.sl r).mark T x0 x1).1 = x0) (h3 : x0.length ≤ 4611686018427387904) (h4 : x0.all r.cnt = true) (h5 : 0 ≤ x1) (h6 : x1 + (Cc.sl r).marks x0 ≤ 4611686018427387904) : CtL Γ c [0,1,5] [1,4] (x0.length + 1) ((shSz r n).mk' (dSz r n x0 x1 0)) K = K (.ext 0) (zSz n ((Cc.sl r).mark T x0 x1).2) :=
  loop_heldP (R := fun m i k => CtL Γ c [0,1,5] [1,4] m ((shSz r n).mk' (dSz r n x0 k i)) K) (Kf := fun k => K (.ext 0) (zSz n k)) (f := r.mark T) (m := r.marks) (z := r.dflt) (fun x _ k h0 h1 => Rw.mark_cnt T r x k h0 h1) (fun m i k hi hx h0 h1 => by
    refine (hs m x0 k i K).trans ?_
    rw [decide_eq_true (show ((i : Nat) : Int) < ((x0.length : Nat) : Int) by omega), wrap_nat (show i ≤ 4611686018427387904 by omega), Int.toNat_natCast]
    exact hdR_ok hi r (x0.getD i r.dflt) k hm hx (all_getD h4 hi) h0 h1) (fun m k => by
    refine (hs m x0 k _ K).trans ?_
    rw [decide_eq_false (show ¬ ((x0.length : Nat) : Int) < ((x0.length : Nat) : Int) by omega)]; rfl) x1 h2 h5 h6
theorem loopHd (hn : firstRegion c = some 2) (hF : Γ.sum 2 = some (loopF (shSz r n) (RHd T r n))) (hh : Γ.hint 2 = ([0,1,5], [1,4])) (hm : r.mkOk = true) (hs : StepHd T Γ c r n) : LoopOk Γ c := by
  refine loopF_ok (n := 2) hn hF hh (fun d K q hr => ?_)
  obtain ⟨⟨x0, x1, u1, u2, u3, x5, u4⟩, u5, u6⟩ := d
  unfold RHd at hr
  simp only at hr
  cases hc : ((x5 == 0) && eqD ((Cc.sl r).mark T x0 x1).1 x0 && ((Cc.sl r).cnt x0 && decide (0 ≤ x1) && decide (x1 + ((Cc.sl r).marks x0 : Nat) ≤ 4611686018427387904))) with
  | false => rw [hc] at hr; cases hr
  | true =>
    rw [hc] at hr
    simp only [Bool.and_eq_true, beq_iff_eq, decide_eq_true_eq] at hc
    obtain ⟨⟨rfl, h1⟩, ⟨h2, h5⟩, h6⟩ := hc
    have h2' := h2
    simp only [Cc.cnt, Bool.and_eq_true] at h2'
    refine ⟨x0.length + 1, Eq.trans ?_ hr⟩
    have he : u4 = xd n := loopTo.xd_eq u4
    subst he
    exact goHd hm hs x0 x1 K (eqD_iff.1 h1) (Nat.le_of_ble_eq_true h2'.1) h2'.2 h5 h6
def TreeHd (T : MText) (r : Rw) (G : Sm) : Prop := ∀ (a : List r.T) (k : Int) (K : Ret → Option Ret), G [.l .no r a, .s (.int .i64 k)] K =
   (bif ((0 : Int) == 0) && eqD ((Cc.sl r).mark T a k).1 a && ((Cc.sl r).cnt a && decide (0 ≤ k) && decide (k + ((Cc.sl r).marks a : Nat) ≤ 4611686018427387904)) then K (sc ((Cc.sl r).mark T a k).2, []) else none)
theorem evHd {G : Sm} (h : TreeHd T r G) : ∀ ws K q, S_heldL T r ws K = some q → G ws K = some q := S_heldL_of (fun a k K h1 h2 h3 h4 => by
  rw [h, eqD_iff.2 h1, h2, decide_eq_true h3, decide_eq_true h4]; rfl)
end
end Go.Ev
end
section
/- The rows of the structs. Printed by fam.py. -/
namespace Go.Ev.Seat
open Go.RowKit
abbrev editR : Rw := .cons (.int .i64) (.cons (.int .i64) (.one (.sl bytesR)))
abbrev stackR : Rw := .cons (.sl editR) (.one (.sl editR))
abbrev T_Edit : Type := Int × Int × List Int
abbrev T_Stack : Type := List T_Edit × List T_Edit
end Go.Ev.Seat
end
section
/- The laws' helpers for Edit. Printed by fam.py. -/
namespace Go.Ev.Seat
open Go.RowKit
set_option maxRecDepth 100000
set_option linter.unusedVariables false
set_option linter.unusedSimpArgs false
noncomputable def G_toEdit := evF (En [(N.l_toByteS, true, S_toL bytesR)] []) true F.l_toEdit
theorem ok_toEdit : OkFn prog I N.l_toEdit true (G_toEdit) := ok_fn (memc okS_toByteS mem0) (by kernel_rfl) (by kernel_rfl) (by kernel_rfl) (by kernel_rfl) (cs := []) (by kernel_rfl) loops0

theorem okS_toEdit : OkFn prog I N.l_toEdit true (S_toA editR) := okW ok_toEdit (S_toA_of fun d K h => by
  obtain ⟨x0, x1, x2⟩ := d
  have h0 : (true && (true && (Cc.sl bytesR).lim x2)) = true := h
  try simp only [Bool.true_and, Bool.and_true, Bool.and_eq_true] at h0
  have c2 := h0
  have e : G_toEdit [.a (editR.cells .no (x0, x1, x2))] K = (bif (Cc.sl bytesR).lim x2 then K (.a (editR.cells .deep (x0, x1, x2)), []) else none) := by kernel_rfl
  exact e.trans (to_step c2 rfl))

noncomputable def G_eqEdit := evF (En [(N.l_eqByteS, true, S_eq bytesR)] []) true F.l_eqEdit
theorem ok_eqEdit : OkFn prog I N.l_eqEdit true (G_eqEdit) := ok_fn (memc okS_eqByteS mem0) (by kernel_rfl) (by kernel_rfl) (by kernel_rfl) (by kernel_rfl) (cs := []) (by kernel_rfl) loops0

theorem okS_eqEdit : OkFn prog I N.l_eqEdit true (S_eqA editR) := okW ok_eqEdit (S_eqA_of fun d e K h => by
  obtain ⟨x0, x1, x2⟩ := d
  obtain ⟨y0, y1, y2⟩ := e
  have h0 : (true && (true && (Cc.sl bytesR).cnt x2)) = true := h
  try simp only [Bool.true_and, Bool.and_true, Bool.and_eq_true] at h0
  have c2 := h0
  have e : G_eqEdit [.a (editR.cells .no (x0, x1, x2)), .a (editR.cells .no (y0, y1, y2))] K = (bif (x0 != y0) then K (bl false, []) else (bif (x1 != y1) then K (bl false, []) else (bif (Cc.sl bytesR).cnt x2 then (bif !(eqD x2 y2) then K (bl false, []) else K (bl true, [])) else none))) := by kernel_rfl
  exact e.trans (eq_ne (eq_ne (eq_sub1 c2))))

noncomputable def G_szEdit := evF (En [(N.l_szByteS, true, S_szL bytesR)] []) true F.l_szEdit
theorem ok_szEdit : OkFn prog I N.l_szEdit true (G_szEdit) := ok_fn (memc okS_szByteS mem0) (by kernel_rfl) (by kernel_rfl) (by kernel_rfl) (by kernel_rfl) (cs := []) (by kernel_rfl) loops0

theorem okS_szEdit : OkFn prog I N.l_szEdit true (S_szA editR) := okW ok_szEdit (S_szA_of fun d l K hl0 h => by
  obtain ⟨x0, x1, x2⟩ := d
  have h0 : (true && (true && (Cc.sl bytesR).cnz x2)) = true := h
  try simp only [Bool.true_and, Bool.and_true, Bool.and_eq_true] at h0
  have c2 := h0
  have e : G_szEdit [.a (editR.cells .no (x0, x1, x2)), .s (.int .i64 l)] K = (bif szOk l && (Cc.sl bytesR).cnz x2 then (bif decide (szN ((Cc.sl bytesR).w x2) l < 0) then K (sc (-1), []) else K (sc (szN ((Cc.sl bytesR).w x2) l), [])) else none) := by kernel_rfl
  have hw : ((Cc.sl bytesR).w x2 + 0) = editR.w (x0, x1, x2) := by
    show ((Cc.sl bytesR).w x2 + 0) = (0 + (0 + (Cc.sl bytesR).w x2))
    omega
  refine (e.trans (sz_step (K := fun n => K (sc n, [])) (w2 := 0) (wt := ((Cc.sl bytesR).w x2 + 0)) hl0 c2 rfl (fun hl1 => sz_end (K := fun n => K (sc n, [])) hl1))).trans ?_
  exact congrArg (fun n => K (sc (szN n l), [])) hw)

noncomputable def G_markEdit (T : MText) := evF (En [(N.l_markByteS, true, S_markL T bytesR)] [] [] [N.l_markByteS] true) true F.l_markEdit
theorem ok_markEdit (T : MText) : OkFn prog I N.l_markEdit true (G_markEdit T) := ok_fn (memc (okS_markByteS T) mem0) (by kernel_rfl) (by kernel_rfl) (by kernel_rfl) (by kernel_rfl) (cs := []) (by kernel_rfl) loops0

theorem okS_markEdit (T : MText) : OkFn prog I N.l_markEdit true (S_markA T editR) := okW (ok_markEdit T) (S_markA_of fun d k K h => by
  obtain ⟨x0, x1, x2⟩ := d
  have h0 : (true && (true && (Cc.sl bytesR).cnt x2)) = true := h
  try simp only [Bool.true_and, Bool.and_true, Bool.and_eq_true] at h0
  have c2 := h0
  have e : G_markEdit T [.a (editR.cells .own (x0, x1, x2)), .s (.int .i64 k)] K = (bif (Cc.sl bytesR).cnt x2 then K (sc (editR.markA T (x0, x1, x2) k).2, [.a (editR.cells .own (editR.markA T (x0, x1, x2) k).1)]) else none) := by kernel_rfl
  exact e.trans (to_step c2 rfl))

noncomputable def G_toEditS := evF (En [(N.l_toEdit, true, S_toA editR)] [] [(3, [0,3,4], [3], loopF (shTo editR 18) (RTo editR 18))]) true F.l_toEditS
theorem ok_toEditS : OkFn prog I N.l_toEditS true G_toEditS := ok_fn (memc okS_toEdit mem0) (by kernel_rfl) (by kernel_rfl) (by kernel_rfl) (by kernel_rfl) (cs := [bodyOf F.l_toEditS 3]) (by kernel_rfl) (loopsc (loopTo (r := editR) (n := 18) (by kernel_rfl) rfl rfl (fun m x0 x4 o0 K => by kernel_rfl)) loops0)
theorem okS_toEditS : OkFn prog I N.l_toEditS true (S_toL editR) := okW ok_toEditS (evTo (n := 18) (sz := 40) (fun a K => by kernel_rfl) rfl)

noncomputable def G_eqEditS := evF (En [(N.l_eqEdit, true, S_eqA editR)] [(6, takeB [0, 1, 2, 3, 4, 5, 6, 7] (.fork (.one 8 (takes [9]))), [])] [(4, [0,1,5], [4], loopF (shEq editR 21) (REq editR 21))]) true F.l_eqEditS
theorem ok_eqEditS : OkFn prog I N.l_eqEditS true G_eqEditS := ok_fn (memc okS_eqEdit mem0) (by kernel_rfl) (by kernel_rfl) (by kernel_rfl) (by kernel_rfl) (cs := [bodyOf F.l_eqEditS 4]) (by kernel_rfl) (loopsc (loopEq (r := editR) (n := 21) (by kernel_rfl) rfl rfl (fun m x0 x1 x5 K => by kernel_rfl)) loops0)
theorem okS_eqEditS : OkFn prog I N.l_eqEditS true (S_eq editR) := okW ok_eqEditS (evEq (fun a b K => by kernel_rfl))

noncomputable def G_szEditS := evF (En [(N.l_szEdit, true, S_szA editR)] [] [(5, [0,1,5], [1,4], loopF (shSz editR 21) (RSz editR 21))]) true F.l_szEditS
theorem ok_szEditS : OkFn prog I N.l_szEditS true G_szEditS := ok_fn (memc okS_szEdit mem0) (by kernel_rfl) (by kernel_rfl) (by kernel_rfl) (by kernel_rfl) (cs := [bodyOf F.l_szEditS 5]) (by kernel_rfl) (loopsc (loopSz (r := editR) (n := 21) (by kernel_rfl) rfl rfl (fun m x0 x1 x5 K => by kernel_rfl)) loops0)
theorem okS_szEditS : OkFn prog I N.l_szEditS true (S_szL editR) := okW ok_szEditS (evSz (fun a k K => by kernel_rfl))

noncomputable def G_markEditS (T : MText) := evF (En [(N.l_markByteS, true, S_markL T bytesR)] [] [(2, [0,1,5], [1], loopF (shMk editR 28) (RMk T editR 28))] [N.l_markByteS] true) true F.l_markEditS
theorem ok_markEditS (T : MText) : OkFn prog I N.l_markEditS true (G_markEditS T) := ok_fn (memc (okS_markByteS T) mem0) (by kernel_rfl) (by kernel_rfl) (by kernel_rfl) (by kernel_rfl) (cs := [bodyOf F.l_markEditS 2]) (by kernel_rfl) (loopsc (loopMk (T := T) (r := editR) (n := 28) (by kernel_rfl) rfl rfl rfl (fun m x1 x5 o0 K => by kernel_rfl)) loops0)
theorem okS_markEditS (T : MText) : OkFn prog I N.l_markEditS true (S_markL T editR) := okW (ok_markEditS T) (evMk (fun a k K => by kernel_rfl))

noncomputable def G_heldEditS (T : MText) := evF (En [(N.l_heldByteS, true, S_heldL T bytesR)] [] [(2, [0,1,5], [1,4], loopF (shSz editR 34) (RHd T editR 34))]) true F.l_heldEditS
theorem ok_heldEditS (T : MText) : OkFn prog I N.l_heldEditS true (G_heldEditS T) := ok_fn (memc (okS_heldByteS T) mem0) (by kernel_rfl) (by kernel_rfl) (by kernel_rfl) (by kernel_rfl) (cs := [bodyOf F.l_heldEditS 2]) (by kernel_rfl) (loopsc (loopHd (T := T) (r := editR) (n := 34) (by kernel_rfl) rfl rfl rfl (fun m x0 x1 x5 K => by kernel_rfl)) loops0)
theorem okS_heldEditS (T : MText) : OkFn prog I N.l_heldEditS true (S_heldL T editR) := okW (ok_heldEditS T) (evHd (fun a k K => by kernel_rfl))
end Go.Ev.Seat
end
section
/- The laws' helpers for Stack. Printed by fam.py. -/
namespace Go.Ev.Seat
open Go.RowKit
set_option maxRecDepth 100000
set_option linter.unusedVariables false
set_option linter.unusedSimpArgs false
noncomputable def G_toStack := evF (En [(N.l_toEditS, true, S_toL editR)] []) true F.l_toStack
theorem ok_toStack : OkFn prog I N.l_toStack true (G_toStack) := ok_fn (memc okS_toEditS mem0) (by kernel_rfl) (by kernel_rfl) (by kernel_rfl) (by kernel_rfl) (cs := []) (by kernel_rfl) loops0

theorem okS_toStack : OkFn prog I N.l_toStack true (S_toA stackR) := okW ok_toStack (S_toA_of fun d K h => by
  obtain ⟨x0, x1⟩ := d
  have h0 : ((Cc.sl editR).lim x0 && (Cc.sl editR).lim x1) = true := h
  try simp only [Bool.true_and, Bool.and_true, Bool.and_eq_true] at h0
  have c0 := h0.1
  have c1 := h0.2
  have e : G_toStack [.a (stackR.cells .no (x0, x1))] K = (bif (Cc.sl editR).lim x0 then (bif (Cc.sl editR).lim x1 then K (.a (stackR.cells .deep (x0, x1)), []) else none) else none) := by kernel_rfl
  exact e.trans (to_step c0 (to_step c1 rfl)))

noncomputable def G_eqStack := evF (En [(N.l_eqEditS, true, S_eq editR)] []) true F.l_eqStack
theorem ok_eqStack : OkFn prog I N.l_eqStack true (G_eqStack) := ok_fn (memc okS_eqEditS mem0) (by kernel_rfl) (by kernel_rfl) (by kernel_rfl) (by kernel_rfl) (cs := []) (by kernel_rfl) loops0

theorem okS_eqStack : OkFn prog I N.l_eqStack true (S_eqA stackR) := okW ok_eqStack (S_eqA_of fun d e K h => by
  obtain ⟨x0, x1⟩ := d
  obtain ⟨y0, y1⟩ := e
  have h0 : ((Cc.sl editR).cnt x0 && (Cc.sl editR).cnt x1) = true := h
  try simp only [Bool.true_and, Bool.and_true, Bool.and_eq_true] at h0
  have c0 := h0.1
  have c1 := h0.2
  have e : G_eqStack [.a (stackR.cells .no (x0, x1)), .a (stackR.cells .no (y0, y1))] K = (bif (Cc.sl editR).cnt x0 then (bif !(eqD x0 y0) then K (bl false, []) else (bif (Cc.sl editR).cnt x1 then (bif !(eqD x1 y1) then K (bl false, []) else K (bl true, [])) else none)) else none) := by kernel_rfl
  exact e.trans (eq_sl c0 (eq_sub1 c1)))

noncomputable def G_szStack := evF (En [(N.l_szEditS, true, S_szL editR)] []) true F.l_szStack
theorem ok_szStack : OkFn prog I N.l_szStack true (G_szStack) := ok_fn (memc okS_szEditS mem0) (by kernel_rfl) (by kernel_rfl) (by kernel_rfl) (by kernel_rfl) (cs := []) (by kernel_rfl) loops0

theorem okS_szStack : OkFn prog I N.l_szStack true (S_szA stackR) := okW ok_szStack (S_szA_of fun d l K hl0 h => by
  obtain ⟨x0, x1⟩ := d
  have h0 : ((Cc.sl editR).cnz x0 && (Cc.sl editR).cnz x1) = true := h
  try simp only [Bool.true_and, Bool.and_true, Bool.and_eq_true] at h0
  have c0 := h0.1
  have c1 := h0.2
  have e : G_szStack [.a (stackR.cells .no (x0, x1)), .s (.int .i64 l)] K = (bif szOk l && (Cc.sl editR).cnz x0 then (bif decide (szN ((Cc.sl editR).w x0) l < 0) then K (sc (-1), []) else (bif szOk (szN ((Cc.sl editR).w x0) l) && (Cc.sl editR).cnz x1 then (bif decide (szN ((Cc.sl editR).w x1) (szN ((Cc.sl editR).w x0) l) < 0) then K (sc (-1), []) else K (sc (szN ((Cc.sl editR).w x1) (szN ((Cc.sl editR).w x0) l)), [])) else none)) else none) := by kernel_rfl
  have hw : ((Cc.sl editR).w x0 + ((Cc.sl editR).w x1 + 0)) = stackR.w (x0, x1) := by
    show ((Cc.sl editR).w x0 + ((Cc.sl editR).w x1 + 0)) = ((Cc.sl editR).w x0 + (Cc.sl editR).w x1)
    omega
  refine (e.trans (sz_step (K := fun n => K (sc n, [])) (w2 := ((Cc.sl editR).w x1 + 0)) (wt := ((Cc.sl editR).w x0 + ((Cc.sl editR).w x1 + 0))) hl0 c0 rfl (fun hl1 => sz_step (K := fun n => K (sc n, [])) (w2 := 0) (wt := ((Cc.sl editR).w x1 + 0)) hl1 c1 rfl (fun hl2 => sz_end (K := fun n => K (sc n, [])) hl2)))).trans ?_
  exact congrArg (fun n => K (sc (szN n l), [])) hw)

noncomputable def G_markStack (T : MText) := evF (En [(N.l_markEditS, true, S_markL T editR)] [] [] [N.l_markEditS] true) true F.l_markStack
theorem ok_markStack (T : MText) : OkFn prog I N.l_markStack true (G_markStack T) := ok_fn (memc (okS_markEditS T) mem0) (by kernel_rfl) (by kernel_rfl) (by kernel_rfl) (by kernel_rfl) (cs := []) (by kernel_rfl) loops0

theorem okS_markStack (T : MText) : OkFn prog I N.l_markStack true (S_markA T stackR) := okW (ok_markStack T) (S_markA_of fun d k K h => by
  obtain ⟨x0, x1⟩ := d
  have h0 : ((Cc.sl editR).cnt x0 && (Cc.sl editR).cnt x1) = true := h
  try simp only [Bool.true_and, Bool.and_true, Bool.and_eq_true] at h0
  have c0 := h0.1
  have c1 := h0.2
  have e : G_markStack T [.a (stackR.cells .own (x0, x1)), .s (.int .i64 k)] K = (bif (Cc.sl editR).cnt x0 then (bif (Cc.sl editR).cnt x1 then K (sc (stackR.markA T (x0, x1) k).2, [.a (stackR.cells .own (stackR.markA T (x0, x1) k).1)]) else none) else none) := by kernel_rfl
  exact e.trans (to_step c0 (to_step c1 rfl)))

noncomputable def G_heldStack (T : MText) := evF (En [(N.l_heldEditS, true, S_heldL T editR)] []) true F.l_heldStack
theorem ok_heldStack (T : MText) : OkFn prog I N.l_heldStack true (G_heldStack T) := ok_fn (memc (okS_heldEditS T) mem0) (by kernel_rfl) (by kernel_rfl) (by kernel_rfl) (by kernel_rfl) (cs := []) (by kernel_rfl) loops0

theorem okS_heldStack (T : MText) : OkFn prog I N.l_heldStack true (S_heldA T stackR) := okW (ok_heldStack T) (S_heldA_of fun d k K hm h hk hle => by
  obtain ⟨x0, x1⟩ := d
  have h0 : ((Cc.sl editR).cnt x0 && (Cc.sl editR).cnt x1) = true := h
  try simp only [Bool.true_and, Bool.and_true, Bool.and_eq_true] at h0
  have c0 := h0.1
  have c1 := h0.2
  have ht : k + ((((Cc.sl editR).marks x0 + (Cc.sl editR).marks x1) : Nat) : Int) ≤ 4611686018427387904 := hle
  have p0 : 0 ≤ k := by omega
  have q0 : k + (((Cc.sl editR).marks x0 : Nat) : Int) ≤ 4611686018427387904 := by omega
  have m0 := Cc.mark_cnt T (.sl editR) x0 k p0 q0
  have e0 : ((Cc.sl editR).mark T x0 k).1 = x0 := congrArg (fun p : stackR.T => p.1) hm
  have p1 : 0 ≤ ((Cc.sl editR).mark T x0 k).2 := by omega
  have q1 : ((Cc.sl editR).mark T x0 k).2 + (((Cc.sl editR).marks x1 : Nat) : Int) ≤ 4611686018427387904 := by omega
  have m1 := Cc.mark_cnt T (.sl editR) x1 ((Cc.sl editR).mark T x0 k).2 p1 q1
  have e1 : ((Cc.sl editR).mark T x1 ((Cc.sl editR).mark T x0 k).2).1 = x1 := congrArg (fun p : stackR.T => p.2) hm
  have e : G_heldStack T [.a (stackR.cells .no (x0, x1)), .s (.int .i64 k)] K = (bif (eqD ((Cc.sl editR).mark T x0 k).1 x0) && ((Cc.sl editR).cnt x0 && decide ((0 : Int) ≤ k) && decide (k + (((Cc.sl editR).marks x0 : Nat) : Int) ≤ 4611686018427387904)) then (bif decide (((Cc.sl editR).mark T x0 k).2 < 0) then K (sc (-1), []) else (bif (eqD ((Cc.sl editR).mark T x1 ((Cc.sl editR).mark T x0 k).2).1 x1) && ((Cc.sl editR).cnt x1 && decide ((0 : Int) ≤ ((Cc.sl editR).mark T x0 k).2) && decide (((Cc.sl editR).mark T x0 k).2 + (((Cc.sl editR).marks x1 : Nat) : Int) ≤ 4611686018427387904)) then (bif decide (((Cc.sl editR).mark T x1 ((Cc.sl editR).mark T x0 k).2).2 < 0) then K (sc (-1), []) else K (sc ((Cc.sl editR).mark T x1 ((Cc.sl editR).mark T x0 k).2).2, [])) else none)) else none) := by kernel_rfl
  exact e.trans (held_step (eqD_iff.2 e0) c0 p0 q0 m0 (held_step (eqD_iff.2 e1) c1 p1 q1 m1 rfl)))
end Go.Ev.Seat
end
section
/- Contracts by signature: what comes in is read as data; what goes out is a function of it. -/
set_option linter.unusedVariables false
namespace Go.Ev
inductive Ak where
  | sc1 (k : Cc)
  | a (r : Rw)
  | l (r : Rw)
  | i
  | b
  | sh (s : Sh)
abbrev Ak.T : Ak → Type
  | .a r => r.T
  | .l r => List r.T
  | .i => Int
  | .b => Bool
  | .sc1 k => k.T
  | .sh s => s.T
def Ak.v : (k : Ak) → k.T → V
  | .a r, d => .a (r.cells .no d)
  | .l r, d => .l .no r d
  | .i, n => .s (.int .i64 n)
  | .b, c => .s (.bool c)
  | .sc1 k, d => k.cell .no d
  | .sh s, d => s.mk d
def Ak.dec : (k : Ak) → V → Option k.T
  | .a r, .a cs => r.dec cs
  | .l r, v => (Cc.sl r).dec v
  | .i, .s (.int .i64 n) => some n
  | .b, .s (.bool c) => some c
  | .sc1 k, v => k.dec v
  | .sh s, v => s.un v
  | _, _ => none
theorem Ak.dec_ok : (k : Ak) → {v : V} → {d : k.T} → k.dec v = some d → v = k.v d
  | .a r, v, d, h => by
    cases v with
    | a cs => simp only [Ak.dec] at h; rw [Rw.dec_ok r h]; rfl
    | _ => simp [Ak.dec] at h
  | .l r, v, d, h => by
    have h' : (Cc.sl r).dec v = some d := by
      cases v <;> simpa [Ak.dec] using h
    rw [Cc.dec_ok (.sl r) h']; rfl
  | .i, v, d, h => by
    cases v with
    | s u =>
      cases u with
      | int k n => cases k <;> simp [Ak.dec] at h <;> subst h <;> rfl
      | _ => simp [Ak.dec] at h
    | _ => simp [Ak.dec] at h
  | .sc1 k, v, d, h => by
    have h' : k.dec v = some d := by
      cases v <;> simpa [Ak.dec] using h
    exact Cc.dec_ok k h'
  | .sh s, v, d, h => by
    have h' : s.un v = some d := by
      cases v <;> simpa [Ak.dec] using h
    exact Sh.un_mk s h'
  | .b, v, d, h => by
    cases v with
    | s u =>
      cases u with
      | bool c => simp [Ak.dec] at h; subst h; rfl
      | _ => simp [Ak.dec] at h
    | _ => simp [Ak.dec] at h
abbrev SgT : List Ak → Type
  | [] => Unit
  | k :: ks => k.T × SgT ks
def sgV : (ks : List Ak) → SgT ks → List V
  | [], _ => []
  | k :: ks, d => k.v d.1 :: sgV ks d.2
def sgD : (ks : List Ak) → List V → Option (SgT ks)
  | [], [] => some ()
  | k :: ks, v :: vs => match k.dec v with
    | some d => match sgD ks vs with
      | some e => some (d, e)
      | none => none
    | none => none
  | _, _ => none
theorem sgD_ok : (ks : List Ak) → {vs : List V} → {d : SgT ks} → sgD ks vs = some d → vs = sgV ks d
  | [], [], d, h => rfl
  | [], _ :: _, d, h => by simp [sgD] at h
  | k :: ks, [], d, h => by simp [sgD] at h
  | k :: ks, v :: vs, d, h => by
    simp only [sgD] at h
    split at h
    · rename_i d1 e1
      split at h
      · rename_i d2 e2
        cases h
        rw [Ak.dec_ok k e1, sgD_ok ks e2]; rfl
      · cases h
    · cases h
def S_fn (ks : List Ak) (pre : SgT ks → Bool) (f : SgT ks → V) : Sm := fun vs K => match sgD ks vs with
  | some d => bif pre d then K (f d, []) else none
  | none => none
mutual
theorem Cc.cnz_of_wf : (c : Cc) → (d : c.T) → c.wf d → c.cnz d = true
  | .int _, _, _ => rfl
  | .bool, _, _ => rfl
  | .str, _, _ => rfl
  | .sl r, xs, h => by
    simp only [Cc.cnz, Bool.and_eq_true, List.all_eq_true]
    exact ⟨Nat.ble_eq_true_of_le h.1, fun x hx => Rw.cnz_of_wf r x (h.2 x hx)⟩
theorem Rw.cnz_of_wf : (r : Rw) → (d : r.T) → r.wf d → r.cnz d = true
  | .one c, d, h => Cc.cnz_of_wf c d h
  | .cons c r, d, h => by
    simp only [Rw.cnz, Bool.and_eq_true]
    exact ⟨Cc.cnz_of_wf c d.1 h.1, Rw.cnz_of_wf r d.2 h.2⟩
end

/-! ### How many marks -/
mutual
def Cc.mx : Cc → Bool
  | .sl r => Nat.ble r.sc 32 && r.mx
  | _ => true
def Rw.mx : Rw → Bool
  | .one c => c.mx
  | .cons c r => c.mx && r.mx
def Cc.sc : Cc → Nat
  | .sl _ => 0
  | _ => 1
def Rw.sc : Rw → Nat
  | .one c => c.sc
  | .cons c r => c.sc + r.sc
end
mutual
theorem Cc.marks_le : (c : Cc) → c.mx = true → (d : c.T) → c.marks d ≤ c.sc + 32 * c.w d
  | .int _, _, _ => by simp [Cc.marks, Cc.sc, Cc.w]
  | .bool, _, _ => by simp [Cc.marks, Cc.sc, Cc.w]
  | .str, _, d => by simp only [Cc.marks, Cc.sc, Cc.w]; omega
  | .sl r, h, xs => by
    simp only [Cc.mx, Bool.and_eq_true] at h
    have h1 : r.sc ≤ 32 := Nat.le_of_ble_eq_true h.1
    have key : ∀ ys : List r.T, sumW r.marks ys ≤ 32 * (ys.length + sumW r.w ys) := by
      intro ys
      induction ys with
      | nil => simp [sumW]
      | cons y ys ih =>
        have := Rw.marks_le r h.2 y
        simp only [sumW, List.length_cons]
        omega
    simp only [Cc.marks, Cc.sc, Cc.w]
    have := key xs
    omega
theorem Rw.marks_le : (r : Rw) → r.mx = true → (d : r.T) → r.marks d ≤ r.sc + 32 * r.w d
  | .one c, h, d => Cc.marks_le c h d
  | .cons c r, h, d => by
    simp only [Rw.mx, Bool.and_eq_true] at h
    have h1 := Cc.marks_le c h.1 d.1
    have h2 := Rw.marks_le r h.2 d.2
    simp only [Rw.marks, Rw.sc, Rw.w]
    omega
end
theorem Cc.marksA_le : (c : Cc) → c.mx = true → (d : c.T) → c.marksA d ≤ 32 * c.w d
  | .int _, _, _ => by simp [Cc.marksA]
  | .bool, _, _ => by simp [Cc.marksA]
  | .str, _, d => by simp [Cc.marksA]
  | .sl r, h, xs => by
    have := Cc.marks_le (.sl r) h xs
    simp only [Cc.sc, Nat.zero_add] at this
    exact this
theorem Rw.marksA_le : (r : Rw) → r.mx = true → (d : r.T) → r.marksA d ≤ 32 * r.w d
  | .one c, h, d => Cc.marksA_le c h d
  | .cons c r, h, d => by
    simp only [Rw.mx, Bool.and_eq_true] at h
    have h1 := Cc.marksA_le c h.1 d.1
    have h2 := Rw.marksA_le r h.2 d.2
    simp only [Rw.marksA, Rw.w]
    omega
mutual
theorem Cc.cnt_of_w : (c : Cc) → (d : c.T) → c.w d ≤ 4611686018427387904 → c.cnt d = true
  | .int _, _, _ => rfl
  | .bool, _, _ => rfl
  | .str, _, _ => rfl
  | .sl r, xs, h => by
    simp only [Cc.w] at h
    simp only [Cc.cnt, Bool.and_eq_true, List.all_eq_true]
    refine ⟨Nat.ble_eq_true_of_le (by omega), fun x hx => ?_⟩
    have := sumW_mem (f := r.w) hx
    exact Rw.cnt_of_w r x (by omega)
theorem Rw.cnt_of_w : (r : Rw) → (d : r.T) → r.w d ≤ 4611686018427387904 → r.cnt d = true
  | .one c, d, h => Cc.cnt_of_w c d h
  | .cons c r, d, h => by
    simp only [Rw.w] at h
    simp only [Rw.cnt, Bool.and_eq_true]
    exact ⟨Cc.cnt_of_w c d.1 (by omega), Rw.cnt_of_w r d.2 (by omega)⟩
end
mutual
theorem Cc.mark_w (T : MText) : (c : Cc) → (d : c.T) → (k : Int) → c.cnt (c.mark T d k).1 = c.cnt d
  | .int _, _, _ => rfl
  | .bool, _, _ => rfl
  | .str, _, _ => rfl
  | .sl r, xs, k => by
    simp only [Cc.cnt, Cc.mark, markList_len]
    have key : ∀ (xs : List r.T) (k : Int), (markList (r.mark T) xs k).1.all r.cnt = xs.all r.cnt := by
      intro xs
      induction xs with
      | nil => intro k; rfl
      | cons x xs ih =>
        intro k
        simp only [markList, List.all_cons]
        rw [ih, Rw.mark_w T r x k]
    rw [key]
theorem Rw.mark_w (T : MText) : (r : Rw) → (d : r.T) → (k : Int) → r.cnt (r.mark T d k).1 = r.cnt d
  | .one c, d, k => Cc.mark_w T c d k
  | .cons c r, d, k => by simp only [Rw.cnt, Rw.mark]; rw [Cc.mark_w T c, Rw.mark_w T r]
end
theorem Cc.markA_w (T : MText) : (c : Cc) → (d : c.T) → (k : Int) → c.cnt (c.markA T d k).1 = c.cnt d
  | .int _, _, _ => rfl
  | .bool, _, _ => rfl
  | .str, _, _ => rfl
  | .sl r, xs, k => Cc.mark_w T (.sl r) xs k
theorem Rw.markA_w (T : MText) : (r : Rw) → (d : r.T) → (k : Int) → r.cnt (r.markA T d k).1 = r.cnt d
  | .one c, d, k => Cc.markA_w T c d k
  | .cons c r, d, k => by simp only [Rw.cnt, Rw.markA]; rw [Cc.markA_w T c, Rw.markA_w T r]
mutual
theorem Cc.mark_marks (T : MText) : (c : Cc) → (d : c.T) → (k : Int) → c.marks (c.mark T d k).1 = c.marks d
  | .int _, _, _ => rfl
  | .bool, _, _ => rfl
  | .str, _, _ => rfl
  | .sl r, xs, k => by
    have key : ∀ (xs : List r.T) (k : Int), sumW r.marks (markList (r.mark T) xs k).1 = sumW r.marks xs := by
      intro xs
      induction xs with
      | nil => intro k; rfl
      | cons x xs ih =>
        intro k
        simp only [markList, sumW]
        rw [ih, Rw.mark_marks T r x k]
    exact key xs k
theorem Rw.mark_marks (T : MText) : (r : Rw) → (d : r.T) → (k : Int) → r.marks (r.mark T d k).1 = r.marks d
  | .one c, d, k => Cc.mark_marks T c d k
  | .cons c r, d, k => by simp only [Rw.marks, Rw.mark]; rw [Cc.mark_marks T c, Rw.mark_marks T r]
end
theorem Cc.markA_marks (T : MText) : (c : Cc) → (d : c.T) → (k : Int) → c.marksA (c.markA T d k).1 = c.marksA d
  | .int _, _, _ => rfl
  | .bool, _, _ => rfl
  | .str, _, _ => rfl
  | .sl r, xs, k => Cc.mark_marks T (.sl r) xs k
theorem Rw.markA_marks (T : MText) : (r : Rw) → (d : r.T) → (k : Int) → r.marksA (r.markA T d k).1 = r.marksA d
  | .one c, d, k => Cc.markA_marks T c d k
  | .cons c r, d, k => by simp only [Rw.marksA, Rw.markA]; rw [Cc.markA_marks T c, Rw.markA_marks T r]

/-! ### The exact laws, step by step -/
section
variable {ρ : Type}
theorem lw_sz {b : Bool} {w : Nat} {l : Int} {Z A : Option ρ} (hl : szOk l = true) (hb : b = true) (h : ¬ l - w < 0 → szN w l = l - w → szOk (szN w l) = true → A = Z) : (bif szOk l && b then (bif decide (szN w l < 0) then Z else A) else none) = Z := by
  rw [hl, hb]
  simp only [szOk, Bool.and_eq_true, decide_eq_true_eq] at hl
  by_cases e : l - w < 0
  · rw [szN, if_pos e]; rfl
  · have e2 : szN w l = l - w := if_neg e
    rw [e2] at h ⊢
    rw [decide_eq_false e]
    refine h e rfl ?_
    unfold szOk
    rw [decide_eq_true (show 0 ≤ l - (w : Int) by omega), decide_eq_true (show l - (w : Int) ≤ 4611686018427387904 by omega)]; rfl
theorem lw_meet {x y Z : Option Ret} (hx : x = Z) (hy : y = Z) : meet x y = Z := by
  rw [hx, hy]; unfold meet; rw [if_pos rfl]
theorem lw_eq {α : Type} {x : α} {c : Bool} {F A Z : Option ρ} (hc : c = true) (h : A = Z) : (bif c then (bif !(eqD x x) then F else A) else none) = Z := by
  rw [hc, eqD_self]; exact h
theorem lw_bool {x : Bool} {F A Z : Option ρ} (h : A = Z) : (bif !(x == x) then F else A) = Z := by
  rw [beq_self_eq_true]; exact h
theorem lw_int2 {x y : Int} {F A Z : Option ρ} (hxy : x = y) (h : A = Z) : (bif x != y then F else A) = Z := by
  rw [hxy, bne_self_eq_false]; exact h
theorem lw_lt {k : Int} {F A Z : Option ρ} (hk : 0 ≤ k) (h : A = Z) : (bif decide (k < 0) then F else A) = Z := by
  rw [decide_eq_false (show ¬ k < 0 by omega)]; exact h
theorem lw_held {a b : Bool} {k : Int} {n : Nat} {A Z : Option ρ} (h1 : a = true) (h2 : b = true) (h3 : 0 ≤ k) (h4 : k + (n : Nat) ≤ 4611686018427387904) (h : A = Z) : (bif a && (b && decide ((0 : Int) ≤ k) && decide (k + ((n : Nat) : Int) ≤ 4611686018427387904)) then A else none) = Z := by
  rw [h1, h2, decide_eq_true h3, decide_eq_true h4]
  exact h
end
end Go.Ev
end
section
/- A result that is owned may be taken as one that is only read. -/
set_option linter.unusedVariables false
namespace Go.Ev
def noC : V → V
  | .l _ r xs => .l .no r xs
  | v => v
def noV : V → V
  | .a cs => .a (cs.map noC)
  | v => noC v
def noR : V → V
  | .t us => .t (us.map noV)
  | u => noV u
section
variable {w : World}
theorem vr_nO {r : Rw} {xs : List r.T} {c : Value} {F M : List Nat} {e e' : Bool} (h : SlT (RwR w e r) w e' r.n xs c F) (hM : ∀ b ∈ F, b ∈ M) : VR (Cx.ext (· ∈ M)) w (.l .no r xs) c :=
  ⟨F, h.loose, hM⟩
theorem CellR.no {v : V} {c : Value} {O M H : List Nat} (h : CellR w v c O M H) : ∃ M', CellR w (noC v) c [] M' [] ∧ ∀ x ∈ M', x ∈ M ∨ x ∈ O := by
  unfold CellR at h
  split at h
  · rename_i r xs
    obtain ⟨h1, _, _⟩ := h
    exact ⟨O, CellR.plain (vr_nO h1 (fun _ h => h)) (by simp [noC]) (by simp [noC]) (by simp [noC]), fun x hx => .inr hx⟩
  · rename_i r xs
    obtain ⟨F, h1, rfl, rfl, _⟩ := h
    refine ⟨F, CellR.plain (vr_nO h1 (fun _ h => h)) (by simp [noC]) (by simp [noC]) (by simp [noC]), fun x hx => ?_⟩
    cases F with
    | nil => cases hx
    | cons b F =>
      rcases List.mem_cons.1 hx with rfl | hx
      · exact .inr (by simp)
      · exact .inl (by simpa using hx)
  · rename_i r xs
    obtain ⟨h1, _, _⟩ := h
    exact ⟨O, CellR.plain (vr_nO h1 (fun _ h => h)) (by simp [noC]) (by simp [noC]) (by simp [noC]), fun x hx => .inr hx⟩
  · rename_i n1 n2 n3
    obtain ⟨h1, _, _⟩ := h
    cases v with
    | l o r xs =>
      cases o with
      | no => exact ⟨M, CellR.plain h1 (by simp [noC]) (by simp [noC]) (by simp [noC]), fun x hx => .inl hx⟩
      | deep => exact absurd rfl (n1 _ _)
      | top => exact absurd rfl (n2 _ _)
      | own => exact absurd rfl (n3 _ _)
    | _ => exact ⟨M, CellR.plain h1 (by simp [noC]) (by simp [noC]) (by simp [noC]), fun x hx => .inl hx⟩
theorem CellsR.no : ∀ {cs : List V} {vs : List Value} {O M H : List Nat}, CellsR w cs vs O M H → ∃ M', CellsR w (cs.map noC) vs [] M' [] ∧ ∀ x ∈ M', x ∈ M ∨ x ∈ O
  | [], _, _, _, _, ⟨h1, h2, h3, h4⟩ => ⟨[], ⟨h1, rfl, rfl, rfl⟩, fun _ h => (nomatch h)⟩
  | c :: cs, _, _, _, _, ⟨v, vs', O1, O2, M1, M2, H1, H2, h1, h2, h3, h4, h5, h6⟩ => by
    obtain ⟨A, a1, a2⟩ := h5.no
    obtain ⟨B, b1, b2⟩ := CellsR.no h6
    refine ⟨A ++ B, ⟨v, vs', [], [], A, B, [], [], h1, rfl, rfl, rfl, a1, b1⟩, fun x hx => ?_⟩
    rw [h2, h3]
    rcases List.mem_append.1 hx with hx | hx
    · rcases a2 x hx with h | h
      · exact .inl (List.mem_append.2 (.inl h))
      · exact .inr (List.mem_append.2 (.inl h))
    · rcases b2 x hx with h | h
      · exact .inl (List.mem_append.2 (.inr h))
      · exact .inr (List.mem_append.2 (.inr h))
def V.isIo : V → Bool
  | .io _ => true
  | _ => false
theorem ArgR.no {v : V} {c : Value} {O M H : List Nat} (h : ArgR w v c O M H) (hv : v.isIo = false) : ∃ M', ArgR w (noV v) c [] M' [] ∧ ∀ x ∈ M', x ∈ M ∨ x ∈ O := by
  unfold ArgR at h
  split at h
  · cases hv
  · rename_i cs
    obtain ⟨vs, rfl, h2⟩ := h
    obtain ⟨M', a1, a2⟩ := h2.no
    exact ⟨M', ⟨vs, rfl, a1⟩, a2⟩
  · rename_i n1 n2
    obtain ⟨M', a1, a2⟩ := h.no
    refine ⟨M', ?_, a2⟩
    cases v with
    | a cs => exact absurd rfl (n2 _)
    | io cs => exact absurd rfl (n1 _)
    | _ => exact a1
theorem ArgsR.no : ∀ {us : List V} {vs : List Value} {O M H : List Nat}, ArgsR w us vs O M H → us.all (fun u => !u.isIo) = true → ∃ M', ArgsR w (us.map noV) vs [] M' [] ∧ ∀ x ∈ M', x ∈ M ∨ x ∈ O
  | [], _, _, _, _, ⟨h1, h2, h3, h4⟩, _ => ⟨[], ⟨h1, rfl, rfl, rfl⟩, fun _ h => (nomatch h)⟩
  | c :: cs, _, _, _, _, ⟨v, vs', O1, O2, M1, M2, H1, H2, h1, h2, h3, h4, h5, h6⟩, hi => by
    simp only [List.all_cons, Bool.and_eq_true, Bool.not_eq_true'] at hi
    obtain ⟨A, a1, a2⟩ := h5.no hi.1
    obtain ⟨B, b1, b2⟩ := ArgsR.no h6 hi.2
    refine ⟨A ++ B, ⟨v, vs', [], [], A, B, [], [], h1, rfl, rfl, rfl, a1, b1⟩, fun x hx => ?_⟩
    rw [h2, h3]
    rcases List.mem_append.1 hx with hx | hx
    · rcases a2 x hx with h | h
      · exact .inl (List.mem_append.2 (.inl h))
      · exact .inr (List.mem_append.2 (.inl h))
    · rcases b2 x hx with h | h
      · exact .inl (List.mem_append.2 (.inr h))
      · exact .inr (List.mem_append.2 (.inr h))
def V.okNo : V → Bool
  | .t us => us.all (fun u => !u.isIo)
  | u => !u.isIo
theorem RetR.no {u : V} {c : Value} {O M H : List Nat} (h : RetR w u c O M H) (hu : u.okNo = true) : ∃ M', RetR w (noR u) c [] M' [] ∧ ∀ x ∈ M', x ∈ M ∨ x ∈ O := by
  unfold RetR at h
  split at h
  · obtain ⟨vs, rfl, h2⟩ := h
    obtain ⟨M', a1, a2⟩ := h2.no hu
    exact ⟨M', ⟨vs, rfl, a1⟩, a2⟩
  · rename_i n1
    cases u with
    | t us => exact absurd rfl (n1 _)
    | io cs => simp [V.okNo, V.isIo] at hu
    | a cs =>
      obtain ⟨M', a1, a2⟩ := ArgR.no h rfl
      exact ⟨M', a1, a2⟩
    | l o r xs =>
      obtain ⟨M', a1, a2⟩ := ArgR.no h rfl
      exact ⟨M', a1, a2⟩
    | _ =>
      obtain ⟨M', a1, a2⟩ := ArgR.no h rfl
      exact ⟨M', a1, a2⟩
end
theorem ArgsR.hsub' {w : World} {us : List V} {vs : List Value} {O M H : List Nat} (h : ArgsR w us vs O M H) : ∀ x ∈ H, x ∈ O := h.hsub
/-- The contract whose results are only read. -/
def S_no (G : Sm) : Sm := fun ws K => G ws fun q => bif q.1.okNo then K (noR q.1, q.2) else none
theorem OkFn.no {P : Program} {I : Nat → World → Prop} {g : FuncId} {f : Bool} {G : Sm} (h : OkFn P I g f G) : OkFn P I g false (S_no G) := by
  refine ⟨h.1, fun ws K r hr B0 w0 w N vs O M H hI hb hB hA hnd hO hM hH hN => ?_⟩
  refine Calls.mono (h.2 ws _ r hr B0 w0 w N vs O M H hI hb hB hA hnd hO hM hH hN) (fun e w' he => ?_)
  cases e with
  | returned c =>
    obtain ⟨q, hq, hk⟩ := he
    cases ho : q.1.okNo with
    | false => simp only [ho, cond_false] at hq; cases hq
    | true =>
      simp only [ho, cond_true] at hq
      refine ⟨_, hq, ?_⟩
      obtain ⟨⟨O1, M1, H1, O2, M2, H2, e1, e2, e3, e4, e5, e6⟩, k2, k3, k4⟩ := hk
      obtain ⟨M', a1, a2⟩ := e1.no ho
      refine ⟨⟨[], M', [], O2, M2, H2, a1, e2, ?_, fun x hx => e4 x (List.mem_append.2 (.inr (by simpa using hx))), fun x hx => ?_, fun x hx => ?_⟩, k2, k3, k4⟩
      · exact (List.nodup_append.1 e3).2.1
      · rcases List.mem_append.1 hx with hx | hx
        · rcases a2 x hx with hx | hx
          · obtain ⟨g1, g2, _⟩ := e5 x (List.mem_append.2 (.inl hx))
            exact ⟨g1, g2, fun h => by cases h⟩
          · obtain ⟨g1, g2⟩ := e4 x (List.mem_append.2 (.inl hx))
            exact ⟨.inr g1, g2, fun h => by cases h⟩
        · obtain ⟨g1, g2, _⟩ := e5 x (List.mem_append.2 (.inr hx))
          exact ⟨g1, g2, fun h => by cases h⟩
      · have hx' : x ∈ H2 := by simpa using hx
        obtain ⟨g1, g2⟩ := e6 x (List.mem_append.2 (.inr hx'))
        refine ⟨fun hm => ?_, g2⟩
        rcases List.mem_append.1 hm with hm | hm
        · rcases a2 x hm with hm | hm
          · exact g1 (List.mem_append.2 (.inl hm))
          · exact (List.nodup_append.1 e3).2.2 x hm x (e2.hsub' x hx') rfl
        · exact g1 (List.mem_append.2 (.inr hm))
  | _ => exact he
end Go.Ev
end
section
/- Contracts by signature, where a nil slice may stand for an empty one; results with what is handed back. -/
set_option linter.unusedVariables false
namespace Go.Ev
def Cc.decN : (c : Cc) → V → Option c.T
  | .sl _, .nl => some []
  | c, v => c.dec v
def Rw.decN : (r : Rw) → List V → Option r.T
  | .one c, [v] => c.decN v
  | .cons c r, v :: vs => match c.decN v with
    | some d => match r.decN vs with
      | some e => some (d, e)
      | none => none
    | none => none
  | _, _ => none
def Ak.decN : (k : Ak) → V → Option k.T
  | .a r, .a cs => r.decN cs
  | .l r, v => (Cc.sl r).decN v
  | k, v => k.dec v
def sgN : (ks : List Ak) → List V → Option (SgT ks)
  | [], [] => some ()
  | k :: ks, v :: vs => match k.decN v with
    | some d => match sgN ks vs with
      | some e => some (d, e)
      | none => none
    | none => none
  | _, _ => none
section
variable {w : World}
theorem CellR.nlN {r : Rw} {c : Value} {O M H : List Nat} (h : CellR w .nl c O M H) : CellR w (.l .no r []) c O M H := by
  obtain ⟨h1, h2, h3⟩ := h
  have h1' : c = .slice none 0 0 := h1
  exact ⟨⟨[], .inl ⟨rfl, rfl, none, 0, h1', fun _ => ⟨rfl, rfl⟩⟩, fun _ h => nomatch h⟩, h2, h3⟩
theorem Cc.decN_ok : (c : Cc) → {v : V} → {d : c.T} → c.decN v = some d → (v = .nl ∧ ∃ r, c.cell .no d = .l .no r []) ∨ v = c.cell .no d
  | .sl r, v, d, h => by
    cases v with
    | nl =>
      have h' : (some [] : Option (List r.T)) = some d := h
      cases h'
      exact .inl ⟨rfl, r, rfl⟩
    | _ => exact .inr (Cc.dec_ok (.sl r) h)
  | .int k, v, d, h => .inr (Cc.dec_ok (.int k) (by cases v <;> simpa [Cc.decN] using h))
  | .bool, v, d, h => .inr (Cc.dec_ok .bool (by cases v <;> simpa [Cc.decN] using h))
  | .str, v, d, h => .inr (Cc.dec_ok .str (by cases v <;> simpa [Cc.decN] using h))
theorem Cc.decN_R {c : Cc} {v : V} {d : c.T} (h : c.decN v = some d) {x : Value} {O M H : List Nat} (hc : CellR w v x O M H) : CellR w (c.cell .no d) x O M H := by
  rcases Cc.decN_ok c h with ⟨rfl, r, e⟩ | e
  · rw [e]; exact hc.nlN
  · rw [← e]; exact hc
theorem Rw.decN_R : (r : Rw) → {cs : List V} → {d : r.T} → r.decN cs = some d → ∀ {vs : List Value} {O M H : List Nat}, CellsR w cs vs O M H → CellsR w (r.cells .no d) vs O M H
  | .one c, cs, d, h, vs, O, M, H, hc => by
    match cs, h, hc with
    | [v], h, ⟨v1, vs', O1, O2, M1, M2, H1, H2, a1, a2, a3, a4, a5, a6⟩ =>
      exact ⟨v1, vs', O1, O2, M1, M2, H1, H2, a1, a2, a3, a4, Cc.decN_R (c := c) h a5, a6⟩
    | [], h, _ => simp [Rw.decN] at h
    | _ :: _ :: _, h, _ => simp [Rw.decN] at h
  | .cons c r, cs, d, h, vs, O, M, H, hc => by
    match cs, h, hc with
    | v :: us, h, ⟨v1, vs', O1, O2, M1, M2, H1, H2, a1, a2, a3, a4, a5, a6⟩ =>
      simp only [Rw.decN] at h
      split at h
      · rename_i d1 e1
        split at h
        · rename_i d2 e2
          cases h
          exact ⟨v1, vs', O1, O2, M1, M2, H1, H2, a1, a2, a3, a4, Cc.decN_R (c := c) e1 a5, Rw.decN_R r e2 a6⟩
        · cases h
      · cases h
    | [], h, _ => simp [Rw.decN] at h
theorem cell_argR {v : V} (h : ∀ cs, v ≠ .a cs) (h2 : ∀ cs, v ≠ .io cs) {x : Value} {O M H : List Nat} : ArgR w v x O M H ↔ CellR w v x O M H := by
  cases v with
  | a cs => exact absurd rfl (h cs)
  | io cs => exact absurd rfl (h2 cs)
  | _ => exact Iff.rfl
theorem Ak.decN_R : (k : Ak) → {v : V} → {d : k.T} → k.decN v = some d → ∀ {x : Value} {O M H : List Nat}, ArgR w v x O M H → ArgR w (k.v d) x O M H
  | .a r, v, d, h, x, O, M, H, ha => by
    cases v with
    | a cs =>
      obtain ⟨vs, h1, h2⟩ := ha
      exact ⟨vs, h1, Rw.decN_R r h h2⟩
    | _ => simp [Ak.decN, Ak.dec] at h
  | .l r, v, d, h, x, O, M, H, ha => by
    have h' : (Cc.sl r).decN v = some d := by cases v <;> simpa [Ak.decN] using h
    have hv : (∀ cs, v ≠ .a cs) ∧ (∀ cs, v ≠ .io cs) := by
      cases v with
      | a cs => simp [Cc.decN, Cc.dec] at h'
      | io cs => simp [Cc.decN, Cc.dec] at h'
      | _ => exact ⟨fun _ h => (nomatch h), fun _ h => (nomatch h)⟩
    exact (cell_argR (v := V.l .no r d) (fun _ h => nomatch h) (fun _ h => nomatch h)).2 (Cc.decN_R (c := .sl r) h' ((cell_argR hv.1 hv.2).1 ha))
  | .i, v, d, h, x, O, M, H, ha => by
    have h' : Ak.dec .i v = some d := by cases v <;> simpa [Ak.decN] using h
    rw [Ak.dec_ok .i h'] at ha; exact ha
  | .b, v, d, h, x, O, M, H, ha => by
    have h' : Ak.dec .b v = some d := by cases v <;> simpa [Ak.decN] using h
    rw [Ak.dec_ok .b h'] at ha; exact ha
  | .sc1 k, v, d, h, x, O, M, H, ha => by
    have h' : Ak.dec (.sc1 k) v = some d := by cases v <;> simpa [Ak.decN] using h
    rw [Ak.dec_ok (.sc1 k) h'] at ha; exact ha
  | .sh s, v, d, h, x, O, M, H, ha => by
    have h' : Ak.dec (.sh s) v = some d := by cases v <;> simpa [Ak.decN] using h
    rw [Ak.dec_ok (.sh s) h'] at ha; exact ha
theorem cell_noOwn (c : Cc) (d : c.T) : (c.cell .no d).isOwn = false := by cases c <;> rfl
theorem cells_noOwn : (r : Rw) → (d : r.T) → (r.cells .no d).any V.isOwn = false
  | .one c, d => by simp [Rw.cells, cell_noOwn]
  | .cons c r, d => by simp only [Rw.cells, List.any_cons, cell_noOwn, cells_noOwn r, Bool.or_self]
theorem Cc.decN_own {c : Cc} {v : V} {d : c.T} (h : c.decN v = some d) : v.isOwn = false := by
  rcases Cc.decN_ok c h with ⟨rfl, _⟩ | e
  · rfl
  · rw [e]; exact cell_noOwn c d
theorem Rw.decN_own : (r : Rw) → {cs : List V} → {d : r.T} → r.decN cs = some d → cs.any V.isOwn = false
  | .one c, cs, d, h => by
    match cs, h with
    | [v], h => simp only [List.any_cons, List.any_nil, Bool.or_false]; exact Cc.decN_own (c := c) h
    | [], h => simp [Rw.decN] at h
    | _ :: _ :: _, h => simp [Rw.decN] at h
  | .cons c r, cs, d, h => by
    match cs, h with
    | v :: us, h =>
      simp only [Rw.decN] at h
      split at h
      · rename_i d1 e1
        split at h
        · rename_i d2 e2
          simp only [List.any_cons, Cc.decN_own (c := c) e1, Rw.decN_own r e2, Bool.or_self]
        · cases h
      · cases h
    | [], h => simp [Rw.decN] at h
theorem Ak.decN_back (k : Ak) {v : V} {d : k.T} (h : k.decN v = some d) : v.back = (k.v d).back := by
  cases k with
  | a r =>
    cases v with
    | a cs =>
      have h' : r.decN cs = some d := h
      show cs.any V.isOwn = (r.cells .no d).any V.isOwn
      rw [Rw.decN_own r h', cells_noOwn]
    | _ => simp [Ak.decN, Ak.dec] at h
  | l r =>
    have h' : (Cc.sl r).decN v = some d := by cases v <;> simpa [Ak.decN] using h
    rcases Cc.decN_ok (.sl r) h' with ⟨rfl, _⟩ | e
    · rfl
    · rw [e]; rfl
  | i =>
    have h' : Ak.dec .i v = some d := by cases v <;> simpa [Ak.decN] using h
    rw [Ak.dec_ok .i h']
  | b =>
    have h' : Ak.dec .b v = some d := by cases v <;> simpa [Ak.decN] using h
    rw [Ak.dec_ok .b h']
  | sc1 k =>
    have h' : Ak.dec (.sc1 k) v = some d := by cases v <;> simpa [Ak.decN] using h
    rw [Ak.dec_ok (.sc1 k) h']
  | sh s =>
    have h' : Ak.dec (.sh s) v = some d := by cases v <;> simpa [Ak.decN] using h
    rw [Ak.dec_ok (.sh s) h']
end
/-- What holds of the one holds of the other, and the same comes back. -/
def NilLe (ws ws' : List V) : Prop := (∀ (w : World) (vs : List Value) (O M H : List Nat), ArgsR w ws vs O M H → ArgsR w ws' vs O M H) ∧ ∀ (vs : List Value), ptrs ws vs = ptrs ws' vs
theorem NilLe.rfl' (ws : List V) : NilLe ws ws := ⟨fun _ _ _ _ _ h => h, fun _ => rfl⟩
theorem sgN_le : (ks : List Ak) → {ws : List V} → {d : SgT ks} → sgN ks ws = some d → NilLe ws (sgV ks d)
  | [], [], d, h => NilLe.rfl' _
  | [], _ :: _, d, h => by simp [sgN] at h
  | k :: ks, [], d, h => by simp [sgN] at h
  | k :: ks, v :: ws, d, h => by
    simp only [sgN] at h
    split at h
    · rename_i d1 e1
      split at h
      · rename_i d2 e2
        cases h
        have ih := sgN_le ks e2
        refine ⟨fun w vs O M H ⟨x, xs, O1, O2, M1, M2, H1, H2, a1, a2, a3, a4, a5, a6⟩ => ⟨x, xs, O1, O2, M1, M2, H1, H2, a1, a2, a3, a4, Ak.decN_R k e1 a5, ih.1 w xs O2 M2 H2 a6⟩, fun vs => ?_⟩
        show ptrs (v :: ws) vs = ptrs (k.v d1 :: sgV ks d2) vs
        cases vs with
        | nil => rfl
        | cons x xs => simp only [ptrs, Ak.decN_back k e1, ih.2 xs]
      · cases h
    · cases h
theorem okN {P : Program} {I : Nat → World → Prop} {g : FuncId} {f : Bool} {S G : Sm} (hG : OkFn P I g f G) (h : ∀ ws K q, S ws K = some q → ∃ ws', NilLe ws ws' ∧ G ws' K = some q) : OkFn P I g f S :=
  ⟨hG.1, fun ws K r hr B0 w0 w N vs O M H hI hb hB hA => by
    obtain ⟨ws', hn, h3⟩ := h ws K r hr
    have := hG.2 ws' K r h3 B0 w0 w N vs O M H hI hb hB (hn.1 w vs O M H hA)
    rw [hn.2 vs]
    exact this⟩
def S_fnR (ks : List Ak) (pre : SgT ks → Bool) (f : SgT ks → Ret) : Sm := fun vs K => match sgN ks vs with
  | some d => bif pre d then K (f d) else none
  | none => none
theorem S_fnR_of {ks : List Ak} {pre : SgT ks → Bool} {f : SgT ks → Ret} {G : Sm} (h : ∀ d K, pre d = true → G (sgV ks d) K = K (f d)) : ∀ ws K q, S_fnR ks pre f ws K = some q → ∃ ws', NilLe ws ws' ∧ G ws' K = some q := by
  intro ws K q hr
  unfold S_fnR at hr
  split at hr
  · rename_i d hd
    cases hp : pre d with
    | false => rw [hp] at hr; cases hr
    | true => rw [hp] at hr; exact ⟨_, sgN_le ks hd, (h d K hp).trans hr⟩
  · cases hr
end Go.Ev
end
section
/- The tables of unicode/utf8. -/
namespace Go.Ev
end Go.Ev
end
section
/- UTF-8, as lists of numbers. -/
set_option linter.unusedVariables false
namespace Go.Ev
open Go.RowKit
def isB (x : Int) : Bool := decide (0 ≤ x) && decide (x ≤ 255)
def fitB (xs : List Int) : Bool := Nat.ble xs.length 1048576 && xs.all isB
theorem fitB_len {xs : List Int} (h : fitB xs = true) : xs.length ≤ 1048576 := by
  unfold fitB at h; rw [Bool.and_eq_true] at h; exact Nat.le_of_ble_eq_true h.1
/-! ### Bits -/
theorem wrap64 {n : Nat} (h : n < 18446744073709551616) : IntKind.u64.wrap (n : Int) = n := by
  have e : IntKind.u64.wrap (n : Int) = (n : Int) % 18446744073709551616 := by
    simp only [IntKind.wrap, IntKind.bits, IntKind.signed]; simp
  rw [e]; omega
/-! ### Runes -/
def lo3 (b : Int) : Int := if b = 224 then 160 else 128
def hi3 (b : Int) : Int := if b = 237 then 159 else 191
def lo4 (b : Int) : Int := if b = 240 then 144 else 128
def hi4 (b : Int) : Int := if b = 244 then 143 else 191
/-- The size of the rune in front; 0 where there is none. -/
def runeSz (xs : List Int) : Nat :=
  if xs.length = 0 then 0
  else if xs.getD 0 0 < 128 then 1
  else if xs.getD 0 0 < 194 then 0
  else if xs.getD 0 0 < 224 then (if 2 ≤ xs.length ∧ 128 ≤ xs.getD 1 0 ∧ xs.getD 1 0 ≤ 191 then 2 else 0)
  else if xs.getD 0 0 < 240 then (if 3 ≤ xs.length ∧ lo3 (xs.getD 0 0) ≤ xs.getD 1 0 ∧ xs.getD 1 0 ≤ hi3 (xs.getD 0 0) ∧ 128 ≤ xs.getD 2 0 ∧ xs.getD 2 0 ≤ 191 then 3 else 0)
  else if xs.getD 0 0 < 245 then (if 4 ≤ xs.length ∧ lo4 (xs.getD 0 0) ≤ xs.getD 1 0 ∧ xs.getD 1 0 ≤ hi4 (xs.getD 0 0) ∧ 128 ≤ xs.getD 2 0 ∧ xs.getD 2 0 ≤ 191 ∧ 128 ≤ xs.getD 3 0 ∧ xs.getD 3 0 ≤ 191 then 4 else 0)
  else 0
theorem runeSz_le (xs : List Int) : runeSz xs ≤ xs.length := by
  unfold runeSz; repeat' split
  all_goals omega
def valid (xs : List Int) : Bool := if h : runeSz xs = 0 then xs.isEmpty else valid (xs.drop (runeSz xs))
termination_by xs.length
decreasing_by
  have := runeSz_le xs
  simp; omega
def textOk (xs : List Int) : Bool := Nat.ble xs.length 400 && valid xs
def contB (b : Int) : Bool := decide (128 ≤ b) && decide (b ≤ 191)
/-- Is it a boundary of a text? -/
def isCutD (t : List Int) (k : Int) : Bool := k == ((t.length : Nat) : Int) || (decide (0 ≤ k) && decide (k < ((t.length : Nat) : Int)) && !contB (t.getD k.toNat 0))
end Go.Ev
end
section
/- Edits of texts, as lists of numbers. -/
set_option linter.unusedVariables false
namespace Go.Ev
open Go.RowKit
abbrev E3 : Type := Int × Int × List Int
structure EditOk (t : List Int) (e : E3) : Prop where
  tx : textOk t = true
  a : isCutD t e.1 = true
  c0 : 0 ≤ e.2.1
  c1 : e.2.1 ≤ ((t.length : Nat) : Int) - e.1
  b : isCutD t (e.1 + e.2.1) = true
  p : textOk e.2.2 = true
  l : ((t.length : Nat) : Int) - e.2.1 + ((e.2.2.length : Nat) : Int) ≤ 400
end Go.Ev
end
section
/- Requests and replies, as numbers and lists. -/
set_option linter.unusedVariables false
namespace Go.Ev
open Go.RowKit
abbrev P4 : Type := Int × Int × Int × List Int
end Go.Ev
end
section
/- Loops over lists, by index. -/
set_option linter.unusedVariables false
namespace Go.Ev
section
variable {α β ρ : Type}
theorem getD_lt {xs : List α} {i : Nat} (z : α) (h : i < xs.length) : xs.getD i z = xs[i] := by
  rw [List.getD_eq_getElem?_getD, List.getElem?_eq_getElem h]; rfl
theorem idx_find {R : Nat → Int → ρ} {p : α → Bool} {kt : ρ} {kf : Int → ρ} {xs : List α} {z : α}
    (hs : ∀ m (i : Nat), i < xs.length → R (m + 1) i = bif p (xs.getD i z) then kf i else R m ((i + 1 : Nat) : Int))
    (he : ∀ m, R (m + 1) (xs.length : Nat) = kt) : ∀ (m i : Nat), i ≤ xs.length → xs.length - i < m → R m i = (match (xs.drop i).findIdx? p with
      | some j => kf ((i + j : Nat) : Int)
      | none => kt)
  | 0, i, _, h => absurd h (by omega)
  | m + 1, i, hi, hm => by
    by_cases h : i < xs.length
    · rw [hs m i h, getD_lt z h, List.drop_eq_getElem_cons h, List.findIdx?_cons]
      cases hp : p xs[i] with
      | true => simp
      | false =>
        rw [cond_false, idx_find hs he m (i + 1) (by omega) (by omega)]
        simp only [Bool.false_eq_true, if_false]
        cases (xs.drop (i + 1)).findIdx? p with
        | none => rfl
        | some k => show kf ((i + 1 + k : Nat) : Int) = kf ((i + (k + 1) : Nat) : Int); congr 2; omega
    · have : i = xs.length := by omega
      subst this
      rw [he m, List.drop_length]; rfl
theorem idx_all {R : Nat → Int → ρ} {p : α → Bool} {kt kf : ρ} {xs : List α} {z : α}
    (hs : ∀ m (i : Nat), i < xs.length → R (m + 1) i = bif p (xs.getD i z) then R m ((i + 1 : Nat) : Int) else kf)
    (he : ∀ m, R (m + 1) (xs.length : Nat) = kt) : ∀ (m i : Nat), i ≤ xs.length → xs.length - i < m → R m i = bif (xs.drop i).all p then kt else kf
  | 0, i, _, h => absurd h (by omega)
  | m + 1, i, hi, hm => by
    by_cases h : i < xs.length
    · rw [hs m i h, getD_lt z h, List.drop_eq_getElem_cons h, List.all_cons]
      cases hp : p xs[i] with
      | true => rw [cond_true, idx_all hs he m (i + 1) (by omega) (by omega)]; rfl
      | false => rfl
    · have : i = xs.length := by omega
      subst this
      rw [he m, List.drop_length]; rfl
def idxF {α : Type} (p : α → Bool) (l : List α) : Int := match l.findIdx? p with
  | some i => (i : Nat)
  | none => -1
theorem idxF_any {α : Type} (p : α → Bool) (l : List α) : decide (idxF p l ≥ 0) = l.any p := by
  unfold idxF
  cases h : l.findIdx? p with
  | none =>
    rw [List.findIdx?_eq_none_iff] at h
    rw [show l.any p = false from List.any_eq_false.2 (fun x hx => by rw [h x hx]; simp)]; rfl
  | some i =>
    rw [List.findIdx?_eq_some_iff_getElem] at h
    obtain ⟨h1, h2, _⟩ := h
    rw [show l.any p = true from List.any_eq_true.2 ⟨l[i], List.getElem_mem h1, h2⟩]
    exact decide_eq_true (show ((i : Nat) : Int) ≥ 0 by omega)
end
end Go.Ev
end
section
/- Events and outputs, as numbers and lists. -/
set_option linter.unusedVariables false
namespace Go.Ev
open Go.RowKit
end Go.Ev
end
section
/- Positions, spans and edits after an edit; stacks. -/
set_option linter.unusedVariables false
namespace Go.Ev
open Go.RowKit
def in400 (n : Int) : Bool := decide (0 ≤ n) && decide (n ≤ 400)
def smallE (e : E3) : Bool := in400 e.1 && in400 e.2.1 && decide (((e.2.2.length : Nat) : Int) ≤ 400)
def placeB (p : Int) : Bool := decide (0 ≤ p) && decide (p ≤ 800)
theorem in400_iff {n : Int} : in400 n = true ↔ 0 ≤ n ∧ n ≤ 400 := by unfold in400; rw [Bool.and_eq_true, decide_eq_true_iff, decide_eq_true_iff]
theorem placeB_iff {n : Int} : placeB n = true ↔ 0 ≤ n ∧ n ≤ 800 := by unfold placeB; rw [Bool.and_eq_true, decide_eq_true_iff, decide_eq_true_iff]
theorem smallE_iff {e : E3} : smallE e = true ↔ (0 ≤ e.1 ∧ e.1 ≤ 400) ∧ (0 ≤ e.2.1 ∧ e.2.1 ≤ 400) ∧ e.2.2.length ≤ 400 := by
  unfold smallE
  rw [Bool.and_eq_true, Bool.and_eq_true, in400_iff, in400_iff, decide_eq_true_iff]
  constructor
  · rintro ⟨⟨h1, h2⟩, h3⟩; exact ⟨h1, h2, by omega⟩
  · rintro ⟨h1, h2, h3⟩; exact ⟨⟨h1, h2⟩, by omega⟩
def posD (e : E3) (p : Int) (r : Bool) : Int := bif decide (p < e.1) then p else bif (p == e.1) || decide (p < e.1 + e.2.1) then (bif r then e.1 + ((e.2.2.length : Nat) : Int) else e.1) else p - e.2.1 + ((e.2.2.length : Nat) : Int)
/-- Where a position stands, in four cases. -/
theorem posD_cases (e : E3) (p : Int) (r : Bool) : (p < e.1 ∧ posD e p r = p) ∨ (e.1 ≤ p ∧ (p = e.1 ∨ p < e.1 + e.2.1) ∧ r = true ∧ posD e p r = e.1 + ((e.2.2.length : Nat) : Int)) ∨ (e.1 ≤ p ∧ (p = e.1 ∨ p < e.1 + e.2.1) ∧ r = false ∧ posD e p r = e.1) ∨ (e.1 < p ∧ e.1 + e.2.1 ≤ p ∧ posD e p r = p - e.2.1 + ((e.2.2.length : Nat) : Int)) := by
  unfold posD
  by_cases h1 : p < e.1
  · rw [decide_eq_true h1]; exact .inl ⟨h1, rfl⟩
  · rw [decide_eq_false h1]
    by_cases h2 : p = e.1
    · rw [beq_iff_eq.2 h2]
      cases r with
      | true => exact .inr (.inl ⟨by omega, .inl h2, rfl, rfl⟩)
      | false => exact .inr (.inr (.inl ⟨by omega, .inl h2, rfl, rfl⟩))
    · rw [beq_false_of_ne h2]
      by_cases h3 : p < e.1 + e.2.1
      · rw [decide_eq_true h3]
        cases r with
        | true => exact .inr (.inl ⟨by omega, .inr h3, rfl, rfl⟩)
        | false => exact .inr (.inr (.inl ⟨by omega, .inr h3, rfl, rfl⟩))
      · rw [decide_eq_false h3]; exact .inr (.inr (.inr ⟨by omega, by omega, rfl⟩))
theorem posD_range {e : E3} {p : Int} (r : Bool) (he : smallE e = true) (hp : 0 ≤ p) : 0 ≤ posD e p r ∧ posD e p r ≤ p + 800 := by
  have h := smallE_iff.1 he
  rcases posD_cases e p r with ⟨a, b⟩ | ⟨a, b, c, d⟩ | ⟨a, b, c, d⟩ | ⟨a, b, c⟩ <;> omega
def spanD (e : E3) (i j : Int) : Int × Int := (posD e i true, bif i == j then posD e i true else max (posD e i true) (posD e j false))
def movedD (a b : E3) : E3 := (posD b a.1 true, (spanD b a.1 (a.1 + a.2.1)).2 - posD b a.1 true, a.2.2)
def badE : E3 × Bool := ((0, 0, []), false)
def moveD (a b : E3) : E3 × Bool := bif smallE a && smallE b then (movedD a b, true) else badE
theorem movedD_range {a b : E3} (ha : smallE a = true) (hb : smallE b = true) : 0 ≤ (movedD a b).1 ∧ (movedD a b).1 ≤ 1200 ∧ 0 ≤ (movedD a b).2.1 ∧ (movedD a b).2.1 ≤ 1600 ∧ (movedD a b).2.2 = a.2.2 := by
  have h := smallE_iff.1 ha
  have h1 := posD_range (p := a.1) true hb (by omega)
  have h2 := posD_range (p := a.1 + a.2.1) false hb (by omega)
  refine ⟨h1.1, by show posD b a.1 true ≤ 1200; omega, ?_, ?_, rfl⟩
  · show 0 ≤ (bif a.1 == a.1 + a.2.1 then posD b a.1 true else max (posD b a.1 true) (posD b (a.1 + a.2.1) false)) - posD b a.1 true
    cases (a.1 == a.1 + a.2.1) with
    | true => rw [cond_true]; omega
    | false => rw [cond_false]; omega
  · show (bif a.1 == a.1 + a.2.1 then posD b a.1 true else max (posD b a.1 true) (posD b (a.1 + a.2.1) false)) - posD b a.1 true ≤ 1600
    cases (a.1 == a.1 + a.2.1) with
    | true => rw [cond_true]; omega
    | false => rw [cond_false]; omega
/-! ### Stacks -/
abbrev ST : Type := List E3 × List E3
def okL (l : List E3) : Bool := decide (((l.length : Nat) : Int) ≤ 6) && l.all smallE
def stackOkD (s : ST) : Bool := okL s.1 && okL s.2
def badS : ST × Bool := (([], []), false)
def movedS (s : ST) (b : E3) : ST := (s.1.map (fun e => movedD e b), s.2.map (fun e => movedD e b))
def stackMovedD (s : ST) (b : E3) : ST × Bool := bif stackOkD s && smallE b && stackOkD (movedS s b) then (movedS s b, true) else badS
theorem okL_len {l : List E3} (h : okL l = true) : l.length ≤ 6 := by
  unfold okL at h
  rw [Bool.and_eq_true, decide_eq_true_iff] at h
  omega
end Go.Ev
end
section
/- s_l02Small: its contract. -/
namespace Go.Ev.Seat
open Go.RowKit
set_option maxRecDepth 100000
set_option linter.unusedVariables false
set_option linter.unusedSimpArgs false
noncomputable abbrev E_s_l02Small : Env := En [] [] [] [] false 0 []
noncomputable def T_s_l02Small (n : Int) (K : Ret → Option Ret) : Option Ret := (bif (decide (n ≥ (0 : Int))) then K ((.s (.bool (decide (n ≤ (400 : Int))))), []) else K ((.s (.bool false)), []))
theorem e_s_l02Small (n : Int) (K : Ret → Option Ret) : evF E_s_l02Small true F.s_l02Small [.s (.int .i64 n)] K = T_s_l02Small n K := by kernel_rfl
def S_s_l02Small : Sm := S_fnR [.i] (fun d => true) (fun d => (bl (in400 d.1), []))
theorem v_s_l02Small (n : Int) (K : Ret → Option Ret) : T_s_l02Small n K = K (bl (in400 n), []) := by
  unfold T_s_l02Small in400
  rw [show decide (n ≥ 0) = decide (0 ≤ n) from rfl]
  cases decide (0 ≤ n) <;> rfl
theorem okS_s_l02Small : OkFn prog I N.s_l02Small true S_s_l02Small := okN (ok_fn mem0 (l := []) (p := []) (ls := []) (lend := []) (focus := false) (fuel := 0) (give := []) (fn := F.s_l02Small) (by kernel_rfl) (by kernel_rfl) (by kernel_rfl) (by kernel_rfl) (cs := []) (by kernel_rfl) loops0) (S_fnR_of fun d K h => (e_s_l02Small d.1 K).trans (v_s_l02Small d.1 K))
end Go.Ev.Seat
end
section
/- s_l05Small: its contract. -/
namespace Go.Ev.Seat
open Go.RowKit
set_option maxRecDepth 100000
set_option linter.unusedVariables false
set_option linter.unusedSimpArgs false
noncomputable abbrev ls_s_l05Small : List (Nat × Bool × Sm) := [(N.s_l02Small, true, S_s_l02Small)]
noncomputable abbrev E_s_l05Small : Env := En ls_s_l05Small [] [] [] false 0 []
noncomputable def T_s_l05Small (e : T_Edit) (K : Ret → Option Ret) : Option Ret := (bif (in400 e.1) then (bif (in400 e.2.1) then K ((.s (.bool (decide ((((List.length e.2.2) : Nat) : Int) ≤ (400 : Int))))), []) else K ((.s (.bool false)), [])) else K ((.s (.bool false)), []))
theorem e_s_l05Small (e : T_Edit) (K : Ret → Option Ret) : evF E_s_l05Small true F.s_l05Small [.a (editR.cells .no e)] K = T_s_l05Small e K := by kernel_rfl
def S_s_l05Small : Sm := S_fnR [.a editR] (fun d => true) (fun d => (bl (smallE d.1), []))
theorem v_s_l05Small (e : T_Edit) (K : Ret → Option Ret) : T_s_l05Small e K = K (bl (smallE e), []) := by
  unfold T_s_l05Small smallE
  cases in400 e.1 <;> cases in400 e.2.1 <;> rfl
theorem okS_s_l05Small : OkFn prog I N.s_l05Small true S_s_l05Small := okN (ok_fn (memc okS_s_l02Small mem0) (l := ls_s_l05Small) (p := []) (ls := []) (lend := []) (focus := false) (fuel := 0) (give := []) (fn := F.s_l05Small) (by kernel_rfl) (by kernel_rfl) (by kernel_rfl) (by kernel_rfl) (cs := []) (by kernel_rfl) loops0) (S_fnR_of fun d K h => (e_s_l05Small d.1 K).trans (v_s_l05Small d.1 K))
end Go.Ev.Seat
end
section
/- What is known of an argument: bytes are bytes, and it is small. -/
set_option linter.unusedVariables false
namespace Go.Ev.Seat
open Go.RowKit
mutual
def fitC : (c : Cc) → c.T → Bool
  | .int .u8, n => isB n
  | .int _, _ => true
  | .bool, _ => true
  | .str, _ => true
  | .sl r, xs => Nat.ble xs.length 1048576 && xs.all (fitR r)
def fitR : (r : Rw) → r.T → Bool
  | .one c, d => fitC c d
  | .cons c r, d => fitC c d.1 && fitR r d.2
end
mutual
theorem fitC_of : (c : Cc) → (d : c.T) → c.wf d → c.lim d = true → fitC c d = true
  | .int k, n, h, _ => by
    cases k <;> simp only [fitC]
    have h' : (Lit.int .u8 n).wf = true := h
    simp only [Lit.wf, Bool.and_eq_true, decide_eq_true_eq] at h'
    have a : IntKind.u8.min = 0 := rfl
    have b : IntKind.u8.max = 255 := rfl
    rw [a, b] at h'
    simp only [isB, Bool.and_eq_true, decide_eq_true_eq]
    exact h'
  | .bool, _, _, _ => rfl
  | .str, _, _, _ => rfl
  | .sl r, xs, h, g => by
    simp only [Cc.lim, Bool.and_eq_true, List.all_eq_true] at g
    simp only [fitC, Bool.and_eq_true, List.all_eq_true]
    exact ⟨g.1, fun x hx => fitR_of r x (h.2 x hx) (g.2 x hx)⟩
theorem fitR_of : (r : Rw) → (d : r.T) → r.wf d → r.lim d = true → fitR r d = true
  | .one c, d, h, g => fitC_of c d h g
  | .cons c r, d, h, g => by
    simp only [Rw.lim, Bool.and_eq_true] at g
    simp only [fitR, Bool.and_eq_true]
    exact ⟨fitC_of c d.1 h.1 g.1, fitR_of r d.2 h.2 g.2⟩
end
theorem fitB_fit {b : List Int} (h : fitC (.sl bytesR) b = true) : fitB b = true := h
theorem fitR_snd {c : Cc} {r : Rw} {d : (Rw.cons c r).T} (h : fitR (.cons c r) d = true) : fitR r d.2 = true := ((Bool.and_eq_true _ _).mp h).2
theorem fitR_fst {c : Cc} {r : Rw} {d : (Rw.cons c r).T} (h : fitR (.cons c r) d = true) : fitC c d.1 = true := ((Bool.and_eq_true _ _).mp h).1
theorem fitC_mem {r : Rw} {l : List r.T} (h : fitC (.sl r) l = true) {x : r.T} (hx : x ∈ l) : fitR r x = true := by
  simp only [fitC, Bool.and_eq_true, List.all_eq_true] at h
  exact h.2 x hx
theorem fitC_len {r : Rw} {l : List r.T} (h : fitC (.sl r) l = true) : l.length ≤ 1048576 := by
  simp only [fitC, Bool.and_eq_true] at h
  exact Nat.le_of_ble_eq_true h.1
theorem fitC_getD {r : Rw} {l : List r.T} (h : fitC (.sl r) l = true) (hd : fitR r r.dflt = true) (k : Nat) : fitR r (l.getD k r.dflt) = true := by
  rw [List.getD_eq_getElem?_getD]
  rcases Nat.lt_or_ge k l.length with hk | hk
  · rw [List.getElem?_eq_getElem hk]; exact fitC_mem h (List.getElem_mem hk)
  · rw [List.getElem?_eq_none hk]; exact hd
theorem fit_edit {e : T_Edit} (h : fitR editR e = true) : fitB e.2.2 = true := fitB_fit (fitR_snd (fitR_snd h))
theorem take_snoc {α : Type} {l : List α} {i : Nat} (z : α) (hi : i < l.length) : l.take i ++ [l.getD i z] = l.take (i + 1) := by
  rw [List.take_add_one, List.getElem?_eq_getElem hi, List.getD_eq_getElem?_getD, List.getElem?_eq_getElem hi]; rfl
theorem bytes_w0 : ∀ (b : List Int), sumW (Rw.one (.int .u8)).w b = 0
  | [] => rfl
  | x :: b => by simp only [sumW, bytes_w0 b]; rfl
theorem bytes_w (b : List Int) : (Cc.sl bytesR).w b = b.length := by
  show b.length + sumW (Rw.one (.int .u8)).w b = _
  rw [bytes_w0 b]; rfl
theorem bytes_lim {b : List Int} (h : b.length ≤ 1048576) : (Cc.sl bytesR).lim b = true := by
  simp only [Cc.lim, Bool.and_eq_true, List.all_eq_true]
  exact ⟨Nat.ble_eq_true_of_le h, fun _ _ => rfl⟩
end Go.Ev.Seat
end
section
/- s_l08All: its contract. -/
namespace Go.Ev.Seat
open Go.RowKit
set_option maxRecDepth 100000
set_option linter.unusedVariables false
set_option linter.unusedSimpArgs false
def z_s_l08All_4_0 (x2 : Bool) : St := { tm := ([.x, .x, (.s (.bool x2))] ++ List.replicate 16 .x), ob := [], nx := 0, io := [] }
def z_s_l08All_4_1 : St := { tm := ([] ++ List.replicate 19 .x), ob := [], nx := 0, io := [] }
def sh_s_l08All_4_0 : Ss := { tm := (.cons (.l .no editR) (.cons (.x) (.cons (.x) (.cons (.int .i64) (xsh 15))))), ob := .nil, nx := 0, io := .nil }
def d_s_l08All_4_0 (x0 : List T_Edit) (x3 : Int) : sh_s_l08All_4_0.T := ((x0, ((), ((), (x3, xd 15)))), (), ())
def s_s_l08All_4_0 (x0 : List T_Edit) (x3 : Int) : St := { tm := ([(.l .no editR x0), .x, .x, (.s (.int .i64 x3))] ++ List.replicate 15 .x), ob := [], nx := 0, io := [] }
theorem se_s_l08All_4_0 (x0 : List T_Edit) (x3 : Int) : sh_s_l08All_4_0.mk' (d_s_l08All_4_0 x0 x3) = (s_s_l08All_4_0 x0 x3) := by kernel_rfl
def w_s_l08All_4_0 (d : sh_s_l08All_4_0.T) (f : (List T_Edit) → Int → Option Ret) : Option Ret := match d with | ((x0, (_, (_, (x3, _)))), _, _) => f x0 x3
noncomputable def P_s_l08All_4_0 (x0 : List T_Edit) (x3 : Int) (nx0 : (List T_Edit) → Int → Option Ret) (k0 : Bool → Option Ret) (k1 : Option Ret) : Option Ret := (bif (decide (x3 < (((List.length x0) : Nat) : Int))) then (bif ((decide ((0 : Int) ≤ x3)) && (decide (x3 < (((List.length x0) : Nat) : Int)))) then (bif (!(smallE (List.getD x0 (Int.toNat x3) (editR.dflt)))) then (k0 false) else (nx0 x0 (IntKind.wrap .i64 (x3 + (1 : Int))))) else none) else k1)
noncomputable def Q_s_l08All_4_0 : Nat → (List T_Edit) → Int → (Bool → Option Ret) → (Option Ret) → Option Ret
  | 0, _, _, _, _ => none
  | m + 1, x0, x3, k0, k1 => P_s_l08All_4_0 x0 x3 (fun x0 x3 => (Q_s_l08All_4_0 m x0 x3 k0 k1)) k0 k1
noncomputable def R_s_l08All_4_0 (x0 : List T_Edit) (x3 : Int) (k0 : Bool → Option Ret) (k1 : Option Ret) : Option Ret := Q_s_l08All_4_0 (List.length x0 + x3.toNat + 2) x0 x3 k0 k1
noncomputable def W_s_l08All_4 : LoopFn := (fun (σ : St) (K : Ex → St → Option Ret) => (match sh_s_l08All_4_0.un σ with | some d => w_s_l08All_4_0 d (fun x0 x3 => R_s_l08All_4_0 x0 x3 (fun x2 => (K .ret (z_s_l08All_4_0 x2))) (K (.ext 0) z_s_l08All_4_1)) | none => none))
noncomputable abbrev ls_s_l08All : List (Nat × Bool × Sm) := [(N.s_l05Small, true, S_s_l05Small)]
noncomputable abbrev E_s_l08All : Env := En ls_s_l08All [] [(4, [0,3], [2], W_s_l08All_4)] [] false 0 []
noncomputable abbrev U_s_l08All_4 := rounds (run E_s_l08All (bodyOf F.s_l08All 4)) [0,3] [2]
theorem st_s_l08All_4_0 (m : Nat) (x0 : List T_Edit) (x3 : Int) (K : Ex → St → Option Ret) : U_s_l08All_4 (m + 1) (s_s_l08All_4_0 x0 x3) K = P_s_l08All_4_0 x0 x3 (fun x0 x3 => (U_s_l08All_4 m (s_s_l08All_4_0 x0 x3) K)) (fun x2 => (K .ret (z_s_l08All_4_0 x2))) (K (.ext 0) z_s_l08All_4_1) := by kernel_rfl
theorem q_s_l08All_4 (K : Ex → St → Option Ret) : ∀ m : Nat, (∀ (x0 : List T_Edit) (x3 : Int), U_s_l08All_4 m (s_s_l08All_4_0 x0 x3) K = Q_s_l08All_4_0 m x0 x3 (fun x2 => (K .ret (z_s_l08All_4_0 x2))) (K (.ext 0) z_s_l08All_4_1))
  | 0 => (fun _ _ => rfl)
  | m + 1 => (fun x0 x3 => (by rw [st_s_l08All_4_0, show (fun x0 x3 => (U_s_l08All_4 m (s_s_l08All_4_0 x0 x3) K)) = (fun x0 x3 => (Q_s_l08All_4_0 m x0 x3 (fun x2 => (K .ret (z_s_l08All_4_0 x2))) (K (.ext 0) z_s_l08All_4_1))) from funext fun x0 => funext fun x3 => (q_s_l08All_4 K m) x0 x3]; rfl))
theorem loopK_s_l08All_4 : LoopOk E_s_l08All (bodyOf F.s_l08All 4) := by
  refine loopW_ok (n := 4) (F := W_s_l08All_4) (by kernel_rfl) rfl (li := [0,3]) (lo := [2]) rfl (fun σ K r hr => ?_)
  unfold W_s_l08All_4 at hr
  split at hr
  · rename_i d hd
    rw [Ss.un_mk hd]
    exact ⟨_, ((congrArg (fun z => U_s_l08All_4 _ z K) (se_s_l08All_4_0 _ _)).trans ((q_s_l08All_4 K _) _ _)).trans hr⟩
  · cases hr
noncomputable def T_s_l08All (l : List T_Edit) (K : Ret → Option Ret) : Option Ret := (bif (decide ((((List.length l) : Nat) : Int) > (6 : Int))) then K ((.s (.bool false)), []) else (R_s_l08All_4_0 l (0 : Int) (fun y0 => K ((.s (.bool y0)), [])) (K ((.s (.bool true)), []))))
theorem e_s_l08All (l : List T_Edit) (K : Ret → Option Ret) : evF E_s_l08All true F.s_l08All [.l .no editR l] K = T_s_l08All l K := by kernel_rfl
def S_s_l08All : Sm := S_fnR [.l editR] (fun d => Nat.ble d.1.length 1048576) (fun d => (bl (okL d.1), []))
theorem v_s_l08All (l : List T_Edit) (h : (Nat.ble l.length 1048576) = true) (K : Ret → Option Ret) : T_s_l08All l K = K (bl (okL l), []) := by
  have hl := Nat.le_of_ble_eq_true h
  unfold T_s_l08All okL
  by_cases h6 : ((l.length : Nat) : Int) ≤ 6
  case neg => rw [decide_eq_false h6, decide_eq_true (show ((l.length : Nat) : Int) > 6 by omega)]; rfl
  rw [decide_eq_true h6, decide_eq_false (show ¬ ((l.length : Nat) : Int) > 6 by omega)]
  have q := idx_all (R := fun m i => Q_s_l08All_4_0 m l i (fun y0 => K ((.s (.bool y0)), [])) (K ((.s (.bool true)), []))) (p := smallE) (xs := l) (z := editR.dflt) (kt := K ((.s (.bool true)), [])) (kf := K ((.s (.bool false)), [])) (fun m i hi => by
      show P_s_l08All_4_0 l ((i : Nat) : Int) _ _ _ = _
      unfold P_s_l08All_4_0
      rw [decide_eq_true (show ((i : Nat) : Int) < ((l.length : Nat) : Int) by omega), decide_eq_true (show (0 : Int) ≤ ((i : Nat) : Int) by omega), Int.toNat_natCast, wrap_nat (by omega)]
      cases smallE (l.getD i editR.dflt) <;> rfl) (fun m => by
      show P_s_l08All_4_0 l ((l.length : Nat) : Int) _ _ _ = _
      unfold P_s_l08All_4_0
      rw [decide_eq_false (show ¬ ((l.length : Nat) : Int) < ((l.length : Nat) : Int) by omega)]; rfl) (List.length l + (0 : Int).toNat + 2) 0 (by omega) (by omega)
  refine Eq.trans q ?_
  rw [List.drop_zero]
  cases l.all smallE <;> rfl
theorem okS_s_l08All : OkFn prog I N.s_l08All true S_s_l08All := okN (ok_fn (memc okS_s_l05Small mem0) (l := ls_s_l08All) (p := []) (ls := [(4, [0,3], [2], W_s_l08All_4)]) (lend := []) (focus := false) (fuel := 0) (give := []) (fn := F.s_l08All) (by kernel_rfl) (by kernel_rfl) (by kernel_rfl) (by kernel_rfl) (cs := [bodyOf F.s_l08All 4]) (by kernel_rfl) (loopsc loopK_s_l08All_4 loops0)) (S_fnR_of fun d K h => (e_s_l08All d.1 K).trans (v_s_l08All d.1 h K))
end Go.Ev.Seat
end
section
/- s_StackOk: its contract. -/
namespace Go.Ev.Seat
open Go.RowKit
set_option maxRecDepth 100000
set_option linter.unusedVariables false
set_option linter.unusedSimpArgs false
noncomputable abbrev ls_s_StackOk : List (Nat × Bool × Sm) := [(N.s_l08All, true, S_s_l08All)]
noncomputable abbrev E_s_StackOk : Env := En ls_s_StackOk [] [] [] false 0 []
noncomputable def T_s_StackOk (s : T_Stack) (K : Ret → Option Ret) : Option Ret := (bif (Nat.ble (List.length s.1) 1048576) then (bif (okL s.1) then (bif (Nat.ble (List.length s.2) 1048576) then K ((.s (.bool (okL s.2))), []) else none) else K ((.s (.bool false)), [])) else none)
theorem e_s_StackOk (s : T_Stack) (K : Ret → Option Ret) : evF E_s_StackOk true F.s_StackOk [.a (stackR.cells .no s)] K = T_s_StackOk s K := by kernel_rfl
def S_s_StackOk : Sm := S_fnR [.a stackR] (fun d => Nat.ble d.1.1.length 1048576 && Nat.ble d.1.2.length 1048576) (fun d => (bl (stackOkD d.1), []))
theorem v_s_StackOk (s : T_Stack) (h : (Nat.ble s.1.length 1048576 && Nat.ble s.2.length 1048576) = true) (K : Ret → Option Ret) : T_s_StackOk s K = K (bl (stackOkD s), []) := by
  obtain ⟨h1, h2⟩ := (Bool.and_eq_true _ _).mp h
  unfold T_s_StackOk stackOkD
  rw [h1, h2]
  cases okL s.1 <;> rfl
theorem okS_s_StackOk : OkFn prog I N.s_StackOk true S_s_StackOk := okN (ok_fn (memc okS_s_l08All mem0) (l := ls_s_StackOk) (p := []) (ls := []) (lend := []) (focus := false) (fuel := 0) (give := []) (fn := F.s_StackOk) (by kernel_rfl) (by kernel_rfl) (by kernel_rfl) (by kernel_rfl) (cs := []) (by kernel_rfl) loops0) (S_fnR_of fun d K h => (e_s_StackOk d.1 K).trans (v_s_StackOk d.1 h K))
end Go.Ev.Seat
end
section
/- s_l06Place: its contract. -/
namespace Go.Ev.Seat
open Go.RowKit
set_option maxRecDepth 100000
set_option linter.unusedVariables false
set_option linter.unusedSimpArgs false
noncomputable abbrev E_s_l06Place : Env := En [] [] [] [] false 0 []
noncomputable def T_s_l06Place (p : Int) (K : Ret → Option Ret) : Option Ret := (bif (decide (p ≥ (0 : Int))) then K ((.s (.bool (decide (p ≤ (800 : Int))))), []) else K ((.s (.bool false)), []))
theorem e_s_l06Place (p : Int) (K : Ret → Option Ret) : evF E_s_l06Place true F.s_l06Place [.s (.int .i64 p)] K = T_s_l06Place p K := by kernel_rfl
def S_s_l06Place : Sm := S_fnR [.i] (fun d => true) (fun d => (bl (placeB d.1), []))
theorem v_s_l06Place (p : Int) (K : Ret → Option Ret) : T_s_l06Place p K = K (bl (placeB p), []) := by
  unfold T_s_l06Place placeB
  rw [show decide (p ≥ 0) = decide (0 ≤ p) from rfl]
  cases decide (0 ≤ p) <;> rfl
theorem okS_s_l06Place : OkFn prog I N.s_l06Place true S_s_l06Place := okN (ok_fn mem0 (l := []) (p := []) (ls := []) (lend := []) (focus := false) (fuel := 0) (give := []) (fn := F.s_l06Place) (by kernel_rfl) (by kernel_rfl) (by kernel_rfl) (by kernel_rfl) (cs := []) (by kernel_rfl) loops0) (S_fnR_of fun d K h => (e_s_l06Place d.1 K).trans (v_s_l06Place d.1 K))
end Go.Ev.Seat
end
section
/- s_PosMove: its contract. -/
namespace Go.Ev.Seat
open Go.RowKit
set_option maxRecDepth 100000
set_option linter.unusedVariables false
set_option linter.unusedSimpArgs false
noncomputable abbrev ls_s_PosMove : List (Nat × Bool × Sm) := [(N.s_l06Place, true, S_s_l06Place), (N.s_l05Small, true, S_s_l05Small)]
noncomputable abbrev E_s_PosMove : Env := En ls_s_PosMove [] [] [] false 0 []
noncomputable def T_s_PosMove (p : Int) (r : Bool) (e : T_Edit) (K : Ret → Option Ret) : Option Ret := (bif (!(placeB p)) then K ((.s (.int .i64 (-(1 : Int)))), []) else (bif (!(smallE e)) then K ((.s (.int .i64 (-(1 : Int)))), []) else (bif (decide (p < e.1)) then K ((.s (.int .i64 p)), []) else (bif (p == e.1) then (bif r then K ((.s (.int .i64 (IntKind.wrap .i64 (e.1 + (((List.length e.2.2) : Nat) : Int))))), []) else K ((.s (.int .i64 e.1)), [])) else (bif (decide (p < (IntKind.wrap .i64 (e.1 + e.2.1)))) then (bif r then K ((.s (.int .i64 (IntKind.wrap .i64 (e.1 + (((List.length e.2.2) : Nat) : Int))))), []) else K ((.s (.int .i64 e.1)), [])) else K ((.s (.int .i64 (IntKind.wrap .i64 ((IntKind.wrap .i64 (p - e.2.1)) + (((List.length e.2.2) : Nat) : Int))))), []))))))
theorem e_s_PosMove (p : Int) (r : Bool) (e : T_Edit) (K : Ret → Option Ret) : evF E_s_PosMove true F.s_PosMove [.s (.int .i64 p), .s (.bool r), .a (editR.cells .no e)] K = T_s_PosMove p r e K := by kernel_rfl
def S_s_PosMove : Sm := S_fnR [.i, .b, .a editR] (fun d => true) (fun d => (.s (.int .i64 (bif placeB d.1 && smallE d.2.2.1 then posD d.2.2.1 d.1 d.2.1 else -1)), []))
theorem v_s_PosMove (p : Int) (r : Bool) (e : T_Edit) (K : Ret → Option Ret) : T_s_PosMove p r e K = K (.s (.int .i64 (bif placeB p && smallE e then posD e p r else -1)), []) := by
  unfold T_s_PosMove
  cases hp : placeB p with
  | false => rfl
  | true =>
  cases HS : smallE e with
  | false => rfl
  | true =>
  have hp' := placeB_iff.1 hp
  have q := smallE_iff.1 HS
  rw [wrap_in (n := e.1 + ((e.2.2.length : Nat) : Int)) (by omega) (by omega), wrap_in (n := e.1 + e.2.1) (by omega) (by omega), wrap_in (n := p - e.2.1) (by omega) (by omega), wrap_in (n := p - e.2.1 + ((e.2.2.length : Nat) : Int)) (by omega) (by omega)]
  unfold posD
  cases decide (p < e.1)
  · cases (p == e.1)
    · cases decide (p < e.1 + e.2.1)
      · rfl
      · cases r <;> rfl
    · cases r <;> rfl
  · rfl
theorem okS_s_PosMove : OkFn prog I N.s_PosMove true S_s_PosMove := okN (ok_fn (memc okS_s_l06Place (memc okS_s_l05Small mem0)) (l := ls_s_PosMove) (p := []) (ls := []) (lend := []) (focus := false) (fuel := 0) (give := []) (fn := F.s_PosMove) (by kernel_rfl) (by kernel_rfl) (by kernel_rfl) (by kernel_rfl) (cs := []) (by kernel_rfl) loops0) (S_fnR_of fun d K h => (e_s_PosMove d.1 d.2.1 d.2.2.1 K).trans (v_s_PosMove d.1 d.2.1 d.2.2.1 K))
end Go.Ev.Seat
end
section
/- s_SpanMove: its contract. -/
namespace Go.Ev.Seat
open Go.RowKit
set_option maxRecDepth 100000
set_option linter.unusedVariables false
set_option linter.unusedSimpArgs false
noncomputable abbrev ls_s_SpanMove : List (Nat × Bool × Sm) := [(N.s_PosMove, true, S_s_PosMove)]
noncomputable abbrev E_s_SpanMove : Env := En ls_s_SpanMove [] [] [] false 0 []
noncomputable def T_s_SpanMove (i : Int) (j : Int) (e : T_Edit) (K : Ret → Option Ret) : Option Ret := (bif (decide ((bif ((placeB i) && (smallE e)) then (posD e i true) else (-(1 : Int))) < (0 : Int))) then K ((.t [(.s (.int .i64 (-(1 : Int)))), (.s (.int .i64 (-(1 : Int))))]), []) else (bif (decide ((bif ((placeB j) && (smallE e)) then (posD e j false) else (-(1 : Int))) < (0 : Int))) then K ((.t [(.s (.int .i64 (-(1 : Int)))), (.s (.int .i64 (-(1 : Int))))]), []) else (bif (decide (j < i)) then K ((.t [(.s (.int .i64 (-(1 : Int)))), (.s (.int .i64 (-(1 : Int))))]), []) else (bif (i == j) then K ((.t [(.s (.int .i64 (bif ((placeB i) && (smallE e)) then (posD e i true) else (-(1 : Int))))), (.s (.int .i64 (bif ((placeB i) && (smallE e)) then (posD e i true) else (-(1 : Int)))))]), []) else K ((.t [(.s (.int .i64 (bif ((placeB i) && (smallE e)) then (posD e i true) else (-(1 : Int))))), (.s (.int .i64 (if (bif ((placeB j) && (smallE e)) then (posD e j false) else (-(1 : Int))) > (bif ((placeB i) && (smallE e)) then (posD e i true) else (-(1 : Int))) then (bif ((placeB j) && (smallE e)) then (posD e j false) else (-(1 : Int))) else (bif ((placeB i) && (smallE e)) then (posD e i true) else (-(1 : Int))))))]), [])))))
theorem e_s_SpanMove (i : Int) (j : Int) (e : T_Edit) (K : Ret → Option Ret) : evF E_s_SpanMove true F.s_SpanMove [.s (.int .i64 i), .s (.int .i64 j), .a (editR.cells .no e)] K = T_s_SpanMove i j e K := by kernel_rfl
def S_s_SpanMove : Sm := S_fnR [.i, .i, .a editR] (fun d => placeB d.1 && placeB d.2.1 && smallE d.2.2.1 && decide (d.1 ≤ d.2.1)) (fun d => (.t [.s (.int .i64 (spanD d.2.2.1 d.1 d.2.1).1), .s (.int .i64 (spanD d.2.2.1 d.1 d.2.1).2)], []))
theorem v_s_SpanMove (i : Int) (j : Int) (e : T_Edit) (h : (placeB i && placeB j && smallE e && decide (i ≤ j)) = true) (K : Ret → Option Ret) : T_s_SpanMove i j e K = K (.t [.s (.int .i64 (spanD e i j).1), .s (.int .i64 (spanD e i j).2)], []) := by
  simp only [Bool.and_eq_true, decide_eq_true_eq] at h
  obtain ⟨⟨⟨hi, hj⟩, he⟩, hij⟩ := h
  have hi' := placeB_iff.1 hi
  have hj' := placeB_iff.1 hj
  have p1 := posD_range (p := i) true he (by omega)
  have p2 := posD_range (p := j) false he (by omega)
  unfold T_s_SpanMove spanD
  rw [hi, hj, he]
  simp only [Bool.and_self, cond_true]
  rw [decide_eq_false (show ¬ posD e i true < 0 by omega), decide_eq_false (show ¬ posD e j false < 0 by omega), decide_eq_false (show ¬ j < i by omega)]
  cases (i == j)
  · show K (.t [_, .s (.int .i64 (if posD e j false > posD e i true then posD e j false else posD e i true))], []) = K (.t [_, .s (.int .i64 (max (posD e i true) (posD e j false)))], [])
    rw [show (if posD e j false > posD e i true then posD e j false else posD e i true) = max (posD e i true) (posD e j false) by split <;> omega]
  · rfl
theorem okS_s_SpanMove : OkFn prog I N.s_SpanMove true S_s_SpanMove := okN (ok_fn (memc okS_s_PosMove mem0) (l := ls_s_SpanMove) (p := []) (ls := []) (lend := []) (focus := false) (fuel := 0) (give := []) (fn := F.s_SpanMove) (by kernel_rfl) (by kernel_rfl) (by kernel_rfl) (by kernel_rfl) (cs := []) (by kernel_rfl) loops0) (S_fnR_of fun d K h => (e_s_SpanMove d.1 d.2.1 d.2.2.1 K).trans (v_s_SpanMove d.1 d.2.1 d.2.2.1 h K))
end Go.Ev.Seat
end
section
/- s_EditMove: its contract. -/
namespace Go.Ev.Seat
open Go.RowKit
set_option maxRecDepth 100000
set_option linter.unusedVariables false
set_option linter.unusedSimpArgs false
noncomputable abbrev ls_s_EditMove : List (Nat × Bool × Sm) := [(N.s_l05Small, true, S_s_l05Small), (N.s_SpanMove, true, S_s_SpanMove)]
noncomputable abbrev E_s_EditMove : Env := En ls_s_EditMove [] [] [] false 0 []
noncomputable def T_s_EditMove (e : T_Edit) (b : T_Edit) (K : Ret → Option Ret) : Option Ret := (bif (!(smallE e)) then K ((.t [(.a [(.s (.int .i64 (0 : Int))), (.s (.int .i64 (0 : Int))), (.l .deep bytesR ([] : List Int))]), (.s (.bool false))]), []) else (bif (!(smallE b)) then K ((.t [(.a [(.s (.int .i64 (0 : Int))), (.s (.int .i64 (0 : Int))), (.l .deep bytesR ([] : List Int))]), (.s (.bool false))]), []) else (bif ((((placeB e.1) && (placeB (IntKind.wrap .i64 (e.1 + e.2.1)))) && (smallE b)) && (decide (e.1 ≤ (IntKind.wrap .i64 (e.1 + e.2.1))))) then (bif (Nat.ble (((List.length ([] : List Int)) + (List.length e.2.2)) * 1) 140737488355328) then K ((.t [(.a [(.s (.int .i64 (posD b e.1 true))), (.s (.int .i64 (IntKind.wrap .i64 ((bif (e.1 == (IntKind.wrap .i64 (e.1 + e.2.1))) then (posD b e.1 true) else (Max.max (posD b e.1 true) (posD b (IntKind.wrap .i64 (e.1 + e.2.1)) false))) - (posD b e.1 true))))), (.l .deep bytesR (([] : List Int) ++ e.2.2))]), (.s (.bool true))]), []) else none) else none)))
theorem e_s_EditMove (e : T_Edit) (b : T_Edit) (K : Ret → Option Ret) : evF E_s_EditMove true F.s_EditMove [.a (editR.cells .no e), .a (editR.cells .no b)] K = T_s_EditMove e b K := by kernel_rfl
def S_s_EditMove : Sm := S_fnR [.a editR, .a editR] (fun d => Nat.ble d.1.2.2.length 1048576) (fun d => (.t [.a (editR.cells .deep (moveD d.1 d.2.1).1), bl (moveD d.1 d.2.1).2], []))
theorem v_s_EditMove (e : T_Edit) (b : T_Edit) (h : (Nat.ble e.2.2.length 1048576) = true) (K : Ret → Option Ret) : T_s_EditMove e b K = K (.t [.a (editR.cells .deep (moveD e b).1), bl (moveD e b).2], []) := by
  have hl := Nat.le_of_ble_eq_true h
  unfold T_s_EditMove moveD
  cases ha : smallE e with
  | false => rfl
  | true =>
  cases hb : smallE b with
  | false => rfl
  | true =>
  have ha' := smallE_iff.1 ha
  have hb' := smallE_iff.1 hb
  have p1 := posD_range (p := e.1) true hb (by omega)
  have p2 := posD_range (p := e.1 + e.2.1) false hb (by omega)
  have hr := movedD_range ha hb
  have e3 : (movedD e b).2.1 = (bif (e.1 == e.1 + e.2.1) then posD b e.1 true else max (posD b e.1 true) (posD b (e.1 + e.2.1) false)) - posD b e.1 true := rfl
  rw [e3] at hr
  rw [Nat.ble_eq_true_of_le (by simp; omega), wrap_in (n := e.1 + e.2.1) (by omega) (by omega), placeB_iff.2 (show 0 ≤ e.1 ∧ e.1 ≤ 800 by omega), placeB_iff.2 (show 0 ≤ e.1 + e.2.1 ∧ e.1 + e.2.1 ≤ 800 by omega), decide_eq_true (show e.1 ≤ e.1 + e.2.1 by omega), wrap_in (n := (bif (e.1 == e.1 + e.2.1) then posD b e.1 true else max (posD b e.1 true) (posD b (e.1 + e.2.1) false)) - posD b e.1 true) (by omega) (by omega)]
  rfl
theorem okS_s_EditMove : OkFn prog I N.s_EditMove true S_s_EditMove := okN (ok_fn (memc okS_s_l05Small (memc okS_s_SpanMove mem0)) (l := ls_s_EditMove) (p := []) (ls := []) (lend := []) (focus := false) (fuel := 0) (give := []) (fn := F.s_EditMove) (by kernel_rfl) (by kernel_rfl) (by kernel_rfl) (by kernel_rfl) (cs := []) (by kernel_rfl) loops0) (S_fnR_of fun d K h => (e_s_EditMove d.1 d.2.1 K).trans (v_s_EditMove d.1 d.2.1 h K))
end Go.Ev.Seat
end
section
/- s_l08Moved: its contract. -/
namespace Go.Ev.Seat
open Go.RowKit
set_option maxRecDepth 100000
set_option linter.unusedVariables false
set_option linter.unusedSimpArgs false
def movAllD (l : List T_Edit) (e : T_Edit) : List T_Edit × Bool := bif (l.map fun x => movedD x e).all smallE then (l.map fun x => movedD x e, true) else ([], false)
def z_s_l08Moved_3_0 (x5 : Bool) (o0 : List T_Edit) : St := { tm := ([.x, .x, .x, .x, .nl, (.s (.bool x5)), (.w 0)] ++ List.replicate 31 .x), ob := [(0, (.arr true true editR o0))], nx := 1, io := [] }
def z_s_l08Moved_3_1 (o0 : List T_Edit) : St := { tm := ([.x, .x, .x, .x, .x, .x, (.w 0)] ++ List.replicate 31 .x), ob := [(0, (.arr true true editR o0))], nx := 1, io := [] }
def sh_s_l08Moved_3_0 : Ss := { tm := (.cons (.l .no editR) (.cons (.x) (.cons (.x) (.cons (.pb 0 0) (.cons (.x) (.cons (.x) (.cons (.w 1) (.cons (.int .i64) (xsh 30))))))))), ob := (.box (.cons (.int .i64) (.cons (.int .i64) (.cons (.l .no bytesR) .nil))) (.arr true true editR .nil)), nx := 2, io := .nil }
def d_s_l08Moved_3_0 (x0 : List T_Edit) (x7 : Int) (b00 : Int) (b01 : Int) (b02 : List Int) (o1 : List T_Edit) : sh_s_l08Moved_3_0.T := ((x0, ((), ((), ((), ((), ((), ((), (x7, xd 30)))))))), ((b00, (b01, (b02, ()))), (o1, ())), ())
def s_s_l08Moved_3_0 (x0 : List T_Edit) (x7 : Int) (b00 : Int) (b01 : Int) (b02 : List Int) (o1 : List T_Edit) : St := { tm := ([(.l .no editR x0), .x, .x, (.pb 0 0), .x, .x, (.w 1), (.s (.int .i64 x7))] ++ List.replicate 30 .x), ob := [(0, (.box [(.s (.int .i64 b00)), (.s (.int .i64 b01)), (.l .no bytesR b02)])), (1, (.arr true true editR o1))], nx := 2, io := [] }
theorem se_s_l08Moved_3_0 (x0 : List T_Edit) (x7 : Int) (b00 : Int) (b01 : Int) (b02 : List Int) (o1 : List T_Edit) : sh_s_l08Moved_3_0.mk' (d_s_l08Moved_3_0 x0 x7 b00 b01 b02 o1) = (s_s_l08Moved_3_0 x0 x7 b00 b01 b02 o1) := by kernel_rfl
def w_s_l08Moved_3_0 (d : sh_s_l08Moved_3_0.T) (f : (List T_Edit) → Int → Int → Int → (List Int) → (List T_Edit) → Option Ret) : Option Ret := match d with | ((x0, (_, (_, (_, (_, (_, (_, (x7, _)))))))), ((b00, (b01, (b02, _))), (o1, _)), _) => f x0 x7 b00 b01 b02 o1
noncomputable def P_s_l08Moved_3_0 (x0 : List T_Edit) (x7 : Int) (b00 : Int) (b01 : Int) (b02 : List Int) (o1 : List T_Edit) (nx0 : (List T_Edit) → Int → Int → Int → (List Int) → (List T_Edit) → Option Ret) (k0 : Bool → (List T_Edit) → Option Ret) (k1 : (List T_Edit) → Option Ret) : Option Ret := (bif (decide (x7 < (((List.length x0) : Nat) : Int))) then (bif ((decide ((0 : Int) ≤ x7)) && (decide (x7 < (((List.length x0) : Nat) : Int)))) then (meet ((bif (Nat.ble (List.length (List.getD x0 (Int.toNat x7) (editR.dflt)).2.2) 1048576) then (bif (!(moveD (List.getD x0 (Int.toNat x7) (editR.dflt)) (b00, (b01, b02))).2) then (k0 false o1) else (bif (!(smallE (moveD (List.getD x0 (Int.toNat x7) (editR.dflt)) (b00, (b01, b02))).1)) then (k0 false o1) else (bif (Nat.ble (((List.length o1) + (List.length ((moveD (List.getD x0 (Int.toNat x7) (editR.dflt)) (b00, (b01, b02))).1 :: []))) * 40) 140737488355328) then (nx0 x0 (IntKind.wrap .i64 (x7 + (1 : Int))) b00 b01 b02 (o1 ++ ((moveD (List.getD x0 (Int.toNat x7) (editR.dflt)) (b00, (b01, b02))).1 :: []))) else none))) else none)) ((bif (Nat.ble (List.length (List.getD x0 (Int.toNat x7) (editR.dflt)).2.2) 1048576) then (bif (!(moveD (List.getD x0 (Int.toNat x7) (editR.dflt)) (b00, (b01, b02))).2) then (k0 false o1) else (bif (!(smallE (moveD (List.getD x0 (Int.toNat x7) (editR.dflt)) (b00, (b01, b02))).1)) then (k0 false o1) else (bif (Nat.ble (((List.length o1) + (List.length ((moveD (List.getD x0 (Int.toNat x7) (editR.dflt)) (b00, (b01, b02))).1 :: []))) * 40) 140737488355328) then (nx0 x0 (IntKind.wrap .i64 (x7 + (1 : Int))) b00 b01 b02 (o1 ++ ((moveD (List.getD x0 (Int.toNat x7) (editR.dflt)) (b00, (b01, b02))).1 :: []))) else none))) else none))) else none) else (k1 o1))
noncomputable def Q_s_l08Moved_3_0 : Nat → (List T_Edit) → Int → Int → Int → (List Int) → (List T_Edit) → (Bool → (List T_Edit) → Option Ret) → ((List T_Edit) → Option Ret) → Option Ret
  | 0, _, _, _, _, _, _, _, _ => none
  | m + 1, x0, x7, b00, b01, b02, o1, k0, k1 => P_s_l08Moved_3_0 x0 x7 b00 b01 b02 o1 (fun x0 x7 b00 b01 b02 o1 => (Q_s_l08Moved_3_0 m x0 x7 b00 b01 b02 o1 k0 k1)) k0 k1
noncomputable def R_s_l08Moved_3_0 (x0 : List T_Edit) (x7 : Int) (b00 : Int) (b01 : Int) (b02 : List Int) (o1 : List T_Edit) (k0 : Bool → (List T_Edit) → Option Ret) (k1 : (List T_Edit) → Option Ret) : Option Ret := Q_s_l08Moved_3_0 (List.length x0 + x7.toNat + b00.toNat + b01.toNat + List.length b02 + List.length o1 + 2) x0 x7 b00 b01 b02 o1 k0 k1
noncomputable def W_s_l08Moved_3 : LoopFn := (fun (σ : St) (K : Ex → St → Option Ret) => (match sh_s_l08Moved_3_0.un σ with | some d => w_s_l08Moved_3_0 d (fun x0 x7 b00 b01 b02 o1 => R_s_l08Moved_3_0 x0 x7 b00 b01 b02 o1 (fun x5 o0 => (K .ret (z_s_l08Moved_3_0 x5 o0))) (fun o0 => (K (.ext 0) (z_s_l08Moved_3_1 o0)))) | none => none))
noncomputable abbrev pl_s_l08Moved : List (Nat × Plan × List Nat) := [(5, takeB [0, 1, 2, 3, 4] (.fork (.more 5 (takeB [6, 7, 8] (.fork (.one 9 (.fork (.one 10 (takes [11])))))) (.one 9 (.fork (.one 5 (takeB [6, 7, 8] (.fork (.one 10 (takes [11]))))))))), [])]
noncomputable abbrev ls_s_l08Moved : List (Nat × Bool × Sm) := [(N.s_EditMove, true, S_s_EditMove), (N.s_l05Small, true, S_s_l05Small)]
noncomputable abbrev E_s_l08Moved : Env := En ls_s_l08Moved pl_s_l08Moved [(3, [0,3,6,7], [4,5,6], W_s_l08Moved_3)] [] false 0 []
noncomputable abbrev U_s_l08Moved_3 := rounds (run E_s_l08Moved (bodyOf F.s_l08Moved 3)) [0,3,6,7] [4,5,6]
theorem st_s_l08Moved_3_0 (m : Nat) (x0 : List T_Edit) (x7 : Int) (b00 : Int) (b01 : Int) (b02 : List Int) (o1 : List T_Edit) (K : Ex → St → Option Ret) : U_s_l08Moved_3 (m + 1) (s_s_l08Moved_3_0 x0 x7 b00 b01 b02 o1) K = P_s_l08Moved_3_0 x0 x7 b00 b01 b02 o1 (fun x0 x7 b00 b01 b02 o1 => (U_s_l08Moved_3 m (s_s_l08Moved_3_0 x0 x7 b00 b01 b02 o1) K)) (fun x5 o0 => (K .ret (z_s_l08Moved_3_0 x5 o0))) (fun o0 => (K (.ext 0) (z_s_l08Moved_3_1 o0))) := by kernel_rfl
theorem q_s_l08Moved_3 (K : Ex → St → Option Ret) : ∀ m : Nat, (∀ (x0 : List T_Edit) (x7 : Int) (b00 : Int) (b01 : Int) (b02 : List Int) (o1 : List T_Edit), U_s_l08Moved_3 m (s_s_l08Moved_3_0 x0 x7 b00 b01 b02 o1) K = Q_s_l08Moved_3_0 m x0 x7 b00 b01 b02 o1 (fun x5 o0 => (K .ret (z_s_l08Moved_3_0 x5 o0))) (fun o0 => (K (.ext 0) (z_s_l08Moved_3_1 o0))))
  | 0 => (fun _ _ _ _ _ _ => rfl)
  | m + 1 => (fun x0 x7 b00 b01 b02 o1 => (by rw [st_s_l08Moved_3_0, show (fun x0 x7 b00 b01 b02 o1 => (U_s_l08Moved_3 m (s_s_l08Moved_3_0 x0 x7 b00 b01 b02 o1) K)) = (fun x0 x7 b00 b01 b02 o1 => (Q_s_l08Moved_3_0 m x0 x7 b00 b01 b02 o1 (fun x5 o0 => (K .ret (z_s_l08Moved_3_0 x5 o0))) (fun o0 => (K (.ext 0) (z_s_l08Moved_3_1 o0))))) from funext fun x0 => funext fun x7 => funext fun b00 => funext fun b01 => funext fun b02 => funext fun o1 => (q_s_l08Moved_3 K m) x0 x7 b00 b01 b02 o1]; rfl))
theorem loopK_s_l08Moved_3 : LoopOk E_s_l08Moved (bodyOf F.s_l08Moved 3) := by
  refine loopW_ok (n := 3) (F := W_s_l08Moved_3) (by kernel_rfl) rfl (li := [0,3,6,7]) (lo := [4,5,6]) rfl (fun σ K r hr => ?_)
  unfold W_s_l08Moved_3 at hr
  split at hr
  · rename_i d hd
    rw [Ss.un_mk hd]
    exact ⟨_, ((congrArg (fun z => U_s_l08Moved_3 _ z K) (se_s_l08Moved_3_0 _ _ _ _ _ _)).trans ((q_s_l08Moved_3 K _) _ _ _ _ _ _)).trans hr⟩
  · cases hr
noncomputable def T_s_l08Moved (l : List T_Edit) (e : T_Edit) (K : Ret → Option Ret) : Option Ret := (R_s_l08Moved_3_0 l (0 : Int) e.1 e.2.1 e.2.2 [] (fun y0 y1 => K ((.t [(.l .deep editR []), (.s (.bool y0))]), [])) (fun y2 => K ((.t [(.l .deep editR y2), (.s (.bool true))]), [])))
theorem e_s_l08Moved (l : List T_Edit) (e : T_Edit) (K : Ret → Option Ret) : evF E_s_l08Moved true F.s_l08Moved [.l .no editR l, .a (editR.cells .no e)] K = T_s_l08Moved l e K := by kernel_rfl
theorem moved_loop {l : List T_Edit} {e : T_Edit} {k : Option Ret} {k0 : Bool → List T_Edit → Option Ret} {k1 : List T_Edit → Option Ret} (hk : ∀ o, k0 false o = k) (hl : l.length ≤ 1048576) (ha : l.all smallE = true) (he : smallE e = true) : ∀ (m i : Nat), i ≤ l.length → l.length - i < m →
    Q_s_l08Moved_3_0 m l ((i : Nat) : Int) e.1 e.2.1 e.2.2 ((l.take i).map fun x => movedD x e) k0 k1 = bif ((l.drop i).map fun x => movedD x e).all smallE then k1 (l.map fun x => movedD x e) else k
  | 0, i, _, h => absurd h (by omega)
  | m + 1, i, hi, hm => by
    show P_s_l08Moved_3_0 l ((i : Nat) : Int) e.1 e.2.1 e.2.2 ((l.take i).map fun x => movedD x e) _ _ _ = _
    unfold P_s_l08Moved_3_0
    by_cases h : i < l.length
    · have ih := moved_loop hk (k1 := k1) hl ha he m (i + 1) (by omega) (by omega)
      have hx : smallE (l.getD i editR.dflt) = true := by
        rw [List.all_eq_true] at ha
        rw [show l.getD i editR.dflt = l[i] from by rw [List.getD_eq_getElem?_getD, List.getElem?_eq_getElem h]; rfl]
        exact ha _ (List.getElem_mem h)
      have hlen := (smallE_iff.1 hx).2.2
      have hmv : moveD (l.getD i editR.dflt) (e.1, e.2.1, e.2.2) = (movedD (l.getD i editR.dflt) e, true) := by
        unfold moveD
        rw [hx, show smallE (e.1, e.2.1, e.2.2) = true from he]; rfl
      have hd : l.drop i = l.getD i editR.dflt :: l.drop (i + 1) := by
        rw [List.drop_eq_getElem_cons h, show l.getD i editR.dflt = l[i] from by rw [List.getD_eq_getElem?_getD, List.getElem?_eq_getElem h]; rfl]
      have ht : ((l.take i).map fun x => movedD x e) ++ [movedD (l.getD i editR.dflt) e] = (l.take (i + 1)).map fun x => movedD x e := by
        rw [List.take_add_one, List.map_append, show l[i]? = some (l.getD i editR.dflt) from by rw [List.getD_eq_getElem?_getD, List.getElem?_eq_getElem h]; rfl]
        rfl
      have htl : ((l.take i).map fun x => movedD x e).length = i := by rw [List.length_map, List.length_take]; omega
      rw [decide_eq_true (show ((i : Nat) : Int) < ((l.length : Nat) : Int) by omega), decide_eq_true (show (0 : Int) ≤ ((i : Nat) : Int) by omega), Int.toNat_natCast, wrap_nat (by omega), meet_self, hmv, hd, List.map_cons, List.all_cons,
        Nat.ble_eq_true_of_le (show (l.getD i editR.dflt).2.2.length ≤ 1048576 by omega), Nat.ble_eq_true_of_le (by rw [htl]; simp only [List.length_cons, List.length_nil]; omega), ht]
      cases smallE (movedD (l.getD i editR.dflt) e) with
      | false => exact hk _
      | true => exact ih
    · obtain rfl : i = l.length := by omega
      rw [decide_eq_false (show ¬ ((l.length : Nat) : Int) < ((l.length : Nat) : Int) by omega), List.take_length, List.drop_length]; rfl
def S_s_l08Moved : Sm := S_fnR [.l editR, .a editR] (fun d => Nat.ble d.1.length 1048576 && d.1.all smallE && smallE d.2.1) (fun d => (.t [.l .deep editR (movAllD d.1 d.2.1).1, bl (movAllD d.1 d.2.1).2], []))
theorem v_s_l08Moved (l : List T_Edit) (e : T_Edit) (h : (Nat.ble l.length 1048576 && l.all smallE && smallE e) = true) (K : Ret → Option Ret) : T_s_l08Moved l e K = K (.t [.l .deep editR (movAllD l e).1, bl (movAllD l e).2], []) := by
  simp only [Bool.and_eq_true] at h
  obtain ⟨⟨h1, h2⟩, h3⟩ := h
  have hl := Nat.le_of_ble_eq_true h1
  unfold T_s_l08Moved R_s_l08Moved_3_0 movAllD
  refine Eq.trans (moved_loop (k := K (.t [.l .deep editR [], .s (.bool false)], [])) (fun _ => rfl) hl h2 h3 _ 0 (Nat.zero_le _) (by omega)) ?_
  rw [List.drop_zero]
  cases ((l.map fun x => movedD x e).all smallE) <;> rfl
theorem okS_s_l08Moved : OkFn prog I N.s_l08Moved true S_s_l08Moved := okN (ok_fn (memc okS_s_EditMove (memc okS_s_l05Small mem0)) (l := ls_s_l08Moved) (p := pl_s_l08Moved) (ls := [(3, [0,3,6,7], [4,5,6], W_s_l08Moved_3)]) (lend := []) (focus := false) (fuel := 0) (give := []) (fn := F.s_l08Moved) (by kernel_rfl) (by kernel_rfl) (by kernel_rfl) (by kernel_rfl) (cs := [bodyOf F.s_l08Moved 3]) (by kernel_rfl) (loopsc loopK_s_l08Moved_3 loops0)) (S_fnR_of fun d K h => (e_s_l08Moved d.1 d.2.1 K).trans (v_s_l08Moved d.1 d.2.1 h K))
end Go.Ev.Seat
end
section
/- Stacks keep the form of their data. -/
set_option linter.unusedVariables false
namespace Go.Ev.Seat
open Go.RowKit
theorem edit_w (e : T_Edit) : editR.w e = e.2.2.length := by
  show 0 + (0 + (Cc.sl bytesR).w e.2.2) = _
  rw [bytes_w]; omega
theorem edits_w (l : List T_Edit) : (Cc.sl editR).w l = l.length + sumW (fun e : T_Edit => e.2.2.length) l := by
  show l.length + sumW editR.w l = _
  have : ∀ l : List T_Edit, sumW editR.w l = sumW (fun e : T_Edit => e.2.2.length) l := by
    intro l
    induction l with
    | nil => rfl
    | cons x l ih => simp only [sumW, ih]; rw [edit_w]
  rw [this]
theorem edits_small_w {l : List T_Edit} {n : Nat} (hl : l.length ≤ n) (h : ∀ e ∈ l, e.2.2.length ≤ 1048576) : (Cc.sl editR).w l ≤ n + n * 1048576 := by
  rw [edits_w]
  have key : ∀ l : List T_Edit, (∀ e ∈ l, e.2.2.length ≤ 1048576) → sumW (fun e : T_Edit => e.2.2.length) l ≤ l.length * 1048576 := by
    intro l
    induction l with
    | nil => intro _; exact Nat.zero_le _
    | cons x l ih =>
      intro hh
      have a := ih fun e he => hh e (List.mem_cons_of_mem _ he)
      have b := hh x List.mem_cons_self
      simp only [sumW, List.length_cons]
      rw [Nat.succ_mul]; omega
  have := key l h
  have : l.length * 1048576 ≤ n * 1048576 := Nat.mul_le_mul_right _ hl
  omega
end Go.Ev.Seat
end
section
/- Stacks after an edit. -/
set_option linter.unusedVariables false
namespace Go.Ev.Seat
open Go.RowKit
def stackMovedD (s : T_Stack) (e : T_Edit) : T_Stack × Bool := bif stackOkD s && smallE e && stackOkD (s.1.map fun x => movedD x e, s.2.map fun x => movedD x e) then ((s.1.map fun x => movedD x e, s.2.map fun x => movedD x e), true) else (([], []), false)
theorem okL_put {l : List T_Edit} (h : okL l = true) : l.length ≤ 7 ∧ ∀ x ∈ l, x.2.2.length ≤ 1048576 := by
  have n1 := okL_len h
  unfold okL at h
  rw [Bool.and_eq_true, List.all_eq_true] at h
  exact ⟨by omega, fun x hx => by have := (smallE_iff.1 (h.2 x hx)).2.2; omega⟩
theorem stackMoved_w (s : T_Stack) (e : T_Edit) : stackR.w (stackMovedD s e).1 ≤ 1099511627776 := by
  unfold stackMovedD
  cases hk : (stackOkD s && smallE e && stackOkD (s.1.map fun x => movedD x e, s.2.map fun x => movedD x e)) with
  | false => exact Nat.zero_le _
  | true =>
    simp only [Bool.and_eq_true] at hk
    have h3 := hk.2
    unfold stackOkD at h3
    rw [Bool.and_eq_true] at h3
    have a1 := okL_put h3.1
    have a2 := okL_put h3.2
    have w1 := edits_small_w a1.1 a1.2
    have w2 := edits_small_w a2.1 a2.2
    show (Cc.sl editR).w (s.1.map fun x => movedD x e) + (Cc.sl editR).w (s.2.map fun x => movedD x e) ≤ _
    have w1' : (Cc.sl editR).w (s.1.map fun x => movedD x e) ≤ 7 + 7 * 1048576 := w1
    have w2' : (Cc.sl editR).w (s.2.map fun x => movedD x e) ≤ 7 + 7 * 1048576 := w2
    omega
theorem stackOk_all {s : T_Stack} (h : stackOkD s = true) : s.1.all smallE = true ∧ s.2.all smallE = true ∧ s.1.length ≤ 6 ∧ s.2.length ≤ 6 := by
  unfold stackOkD okL at h
  simp only [Bool.and_eq_true, decide_eq_true_eq] at h
  exact ⟨h.1.2, h.2.2, by omega, by omega⟩
end Go.Ev.Seat
end
section
/- s_StackMoved: its contract. -/
namespace Go.Ev.Seat
open Go.RowKit
set_option maxRecDepth 100000
set_option linter.unusedVariables false
set_option linter.unusedSimpArgs false
noncomputable abbrev ls_s_StackMoved : List (Nat × Bool × Sm) := [(N.s_StackOk, true, S_s_StackOk), (N.s_l05Small, true, S_s_l05Small), (N.s_l08Moved, true, S_s_l08Moved)]
noncomputable abbrev E_s_StackMoved : Env := En ls_s_StackMoved [] [] [] false 0 []
noncomputable def T_s_StackMoved (s : T_Stack) (e : T_Edit) (K : Ret → Option Ret) : Option Ret := (bif ((Nat.ble (List.length s.1) 1048576) && (Nat.ble (List.length s.2) 1048576)) then (bif (!(stackOkD s)) then K ((.t [(.a [(.l .deep editR []), (.l .deep editR [])]), (.s (.bool false))]), []) else (bif (!(smallE e)) then K ((.t [(.a [(.l .deep editR []), (.l .deep editR [])]), (.s (.bool false))]), []) else (bif (((Nat.ble (List.length s.1) 1048576) && (List.all s.1 smallE)) && (smallE e)) then (bif (((Nat.ble (List.length s.2) 1048576) && (List.all s.2 smallE)) && (smallE e)) then (bif (!(movAllD s.1 e).2) then K ((.t [(.a [(.l .deep editR []), (.l .deep editR [])]), (.s (.bool false))]), []) else (bif (!(movAllD s.2 e).2) then K ((.t [(.a [(.l .deep editR []), (.l .deep editR [])]), (.s (.bool false))]), []) else K ((.t [(.a [(.l .deep editR (movAllD s.1 e).1), (.l .deep editR (movAllD s.2 e).1)]), (.s (.bool true))]), []))) else none) else none))) else none)
theorem e_s_StackMoved (s : T_Stack) (e : T_Edit) (K : Ret → Option Ret) : evF E_s_StackMoved true F.s_StackMoved [.a (stackR.cells .no s), .a (editR.cells .no e)] K = T_s_StackMoved s e K := by kernel_rfl
def S_s_StackMoved : Sm := S_fnR [.a stackR, .a editR] (fun d => fitR stackR d.1) (fun d => (.t [.a (stackR.cells .deep (stackMovedD d.1 d.2.1).1), bl (stackMovedD d.1 d.2.1).2], []))
theorem v_s_StackMoved (s : T_Stack) (e : T_Edit) (h : (fitR stackR s) = true) (K : Ret → Option Ret) : T_s_StackMoved s e K = K (.t [.a (stackR.cells .deep (stackMovedD s e).1), bl (stackMovedD s e).2], []) := by
  have f1 : fitC (.sl editR) s.1 = true := fitR_fst h
  have f2 : fitC (.sl editR) s.2 = true := fitR_snd h
  unfold T_s_StackMoved stackMovedD
  rw [Nat.ble_eq_true_of_le (fitC_len f1), Nat.ble_eq_true_of_le (fitC_len f2)]
  cases h3 : stackOkD s with
  | false => rfl
  | true =>
  cases h5 : smallE e with
  | false => rfl
  | true =>
  obtain ⟨a1, a2, n1, n2⟩ := stackOk_all h3
  rw [a1, a2]
  have e2 : stackOkD (s.1.map fun x => movedD x e, s.2.map fun x => movedD x e) = ((s.1.map fun x => movedD x e).all smallE && (s.2.map fun x => movedD x e).all smallE) := by
    unfold stackOkD okL
    rw [decide_eq_true (show (((s.1.map fun x => movedD x e).length : Nat) : Int) ≤ 6 by rw [List.length_map]; omega), decide_eq_true (show (((s.2.map fun x => movedD x e).length : Nat) : Int) ≤ 6 by rw [List.length_map]; omega)]
    rfl
  rw [e2]
  unfold movAllD
  cases (s.1.map fun x => movedD x e).all smallE with
  | false => rfl
  | true => cases (s.2.map fun x => movedD x e).all smallE <;> rfl
theorem okS_s_StackMoved : OkFn prog I N.s_StackMoved true S_s_StackMoved := okN (ok_fn (memc okS_s_StackOk (memc okS_s_l05Small (memc okS_s_l08Moved mem0))) (l := ls_s_StackMoved) (p := []) (ls := []) (lend := []) (focus := false) (fuel := 0) (give := []) (fn := F.s_StackMoved) (by kernel_rfl) (by kernel_rfl) (by kernel_rfl) (by kernel_rfl) (cs := []) (by kernel_rfl) loops0) (S_fnR_of fun d K h => (e_s_StackMoved d.1 d.2.1 K).trans (v_s_StackMoved d.1 d.2.1 h K))
end Go.Ev.Seat
end
section
/- i_in: its contract. -/
namespace Go.Ev.Seat
open Go.RowKit
set_option maxRecDepth 100000
set_option linter.unusedVariables false
set_option linter.unusedSimpArgs false
noncomputable abbrev E_i_in : Env := En [] [] [] [] false 0 []
noncomputable def T_i_in (n : Int) (low : Int) (high : Int) (K : Ret → Option Ret) : Option Ret := (bif (decide (low ≤ n)) then K ((.s (.bool (decide (n ≤ high)))), []) else K ((.s (.bool false)), []))
theorem e_i_in (n : Int) (low : Int) (high : Int) (K : Ret → Option Ret) : evF E_i_in true F.i_in [.s (.int .i64 n), .s (.int .i64 low), .s (.int .i64 high)] K = T_i_in n low high K := by kernel_rfl
def S_i_in : Sm := S_fnR [.i, .i, .i] (fun d => true) (fun d => (bl (decide (d.2.1 ≤ d.1) && decide (d.1 ≤ d.2.2.1)), []))
theorem v_i_in (n : Int) (low : Int) (high : Int) (K : Ret → Option Ret) : T_i_in n low high K = K (bl (decide (low ≤ n) && decide (n ≤ high)), []) := by
  unfold T_i_in; cases decide (low ≤ n) <;> rfl
theorem okS_i_in : OkFn prog I N.i_in true S_i_in := okN (ok_fn mem0 (l := []) (p := []) (ls := []) (lend := []) (focus := false) (fuel := 0) (give := []) (fn := F.i_in) (by kernel_rfl) (by kernel_rfl) (by kernel_rfl) (by kernel_rfl) (cs := []) (by kernel_rfl) loops0) (S_fnR_of fun d K h => (e_i_in d.1 d.2.1 d.2.2.1 K).trans (v_i_in d.1 d.2.1 d.2.2.1 K))
end Go.Ev.Seat
end
section
/- i_Edit_isSmall: its contract. -/
namespace Go.Ev.Seat
open Go.RowKit
set_option maxRecDepth 100000
set_option linter.unusedVariables false
set_option linter.unusedSimpArgs false
noncomputable abbrev ls_i_Edit_isSmall : List (Nat × Bool × Sm) := [(N.i_in, true, S_i_in)]
noncomputable abbrev E_i_Edit_isSmall : Env := En ls_i_Edit_isSmall [] [] [] false 0 []
noncomputable def T_i_Edit_isSmall (e : T_Edit) (K : Ret → Option Ret) : Option Ret := (bif ((decide ((0 : Int) ≤ e.1)) && (decide (e.1 ≤ (400 : Int)))) then (bif ((decide ((0 : Int) ≤ e.2.1)) && (decide (e.2.1 ≤ (400 : Int)))) then K ((.s (.bool (decide ((((List.length e.2.2) : Nat) : Int) ≤ (400 : Int))))), []) else K ((.s (.bool false)), [])) else K ((.s (.bool false)), []))
theorem e_i_Edit_isSmall (e : T_Edit) (K : Ret → Option Ret) : evF E_i_Edit_isSmall true F.i_Edit_isSmall [.a (editR.cells .no e)] K = T_i_Edit_isSmall e K := by kernel_rfl
def S_i_Edit_isSmall : Sm := S_fnR [.a editR] (fun d => true) (fun d => (bl (smallE d.1), []))
theorem v_i_Edit_isSmall (e : T_Edit) (K : Ret → Option Ret) : T_i_Edit_isSmall e K = K (bl (smallE e), []) := by
  unfold T_i_Edit_isSmall smallE in400
  cases (decide (0 ≤ e.1) && decide (e.1 ≤ 400)) <;> cases (decide (0 ≤ e.2.1) && decide (e.2.1 ≤ 400)) <;> rfl
theorem okS_i_Edit_isSmall : OkFn prog I N.i_Edit_isSmall true S_i_Edit_isSmall := okN (ok_fn (memc okS_i_in mem0) (l := ls_i_Edit_isSmall) (p := []) (ls := []) (lend := []) (focus := false) (fuel := 0) (give := []) (fn := F.i_Edit_isSmall) (by kernel_rfl) (by kernel_rfl) (by kernel_rfl) (by kernel_rfl) (cs := []) (by kernel_rfl) loops0) (S_fnR_of fun d K h => (e_i_Edit_isSmall d.1 K).trans (v_i_Edit_isSmall d.1 K))
end Go.Ev.Seat
end
section
/- i_areStacked_1: its contract. -/
namespace Go.Ev.Seat
open Go.RowKit
set_option maxRecDepth 100000
set_option linter.unusedVariables false
set_option linter.unusedSimpArgs false
noncomputable abbrev ls_i_areStacked_1 : List (Nat × Bool × Sm) := [(N.i_Edit_isSmall, true, S_i_Edit_isSmall)]
noncomputable abbrev E_i_areStacked_1 : Env := En ls_i_areStacked_1 [] [] [] false 0 []
noncomputable def T_i_areStacked_1 (e : T_Edit) (K : Ret → Option Ret) : Option Ret := K ((.s (.bool (!(smallE e)))), [])
theorem e_i_areStacked_1 (e : T_Edit) (K : Ret → Option Ret) : evF E_i_areStacked_1 true F.i_areStacked_1 [.a (editR.cells .no e)] K = T_i_areStacked_1 e K := by kernel_rfl
def S_i_areStacked_1 : Sm := S_fnR [.a editR] (fun d => true) (fun d => (bl (!(smallE d.1)), []))
theorem v_i_areStacked_1 (e : T_Edit) (K : Ret → Option Ret) : T_i_areStacked_1 e K = K (bl (!(smallE e)), []) := rfl
theorem okS_i_areStacked_1 : OkFn prog I N.i_areStacked_1 true S_i_areStacked_1 := okN (ok_fn (memc okS_i_Edit_isSmall mem0) (l := ls_i_areStacked_1) (p := []) (ls := []) (lend := []) (focus := false) (fuel := 0) (give := []) (fn := F.i_areStacked_1) (by kernel_rfl) (by kernel_rfl) (by kernel_rfl) (by kernel_rfl) (cs := []) (by kernel_rfl) loops0) (S_fnR_of fun d K h => (e_i_areStacked_1 d.1 K).trans (v_i_areStacked_1 d.1 K))
end Go.Ev.Seat
end
section
/- slices_IndexFunc_Edit: its contract. -/
namespace Go.Ev.Seat
open Go.RowKit
set_option maxRecDepth 100000
set_option linter.unusedVariables false
set_option linter.unusedSimpArgs false
def z_slices_IndexFunc_Edit_2_0 (x4 : Int) : St := { tm := ([.x, .x, .x, .x, (.s (.int .i64 x4))] ++ List.replicate 14 .x), ob := [], nx := 0, io := [] }
def z_slices_IndexFunc_Edit_2_1 : St := { tm := ([] ++ List.replicate 19 .x), ob := [], nx := 0, io := [] }
def sh_slices_IndexFunc_Edit_2_0 : Ss := { tm := (.cons (.l .no editR) (.cons (.f 195 .nil) (.cons (.x) (.cons (.x) (.cons (.x) (.cons (.x) (.cons (.x) (.cons (.int .i64) (.cons (.int .i64) (xsh 10)))))))))), ob := .nil, nx := 0, io := .nil }
def d_slices_IndexFunc_Edit_2_0 (x0 : List T_Edit) (x7 : Int) (x8 : Int) : sh_slices_IndexFunc_Edit_2_0.T := ((x0, ((), ((), ((), ((), ((), ((), (x7, (x8, xd 10))))))))), (), ())
def s_slices_IndexFunc_Edit_2_0 (x0 : List T_Edit) (x7 : Int) (x8 : Int) : St := { tm := ([(.l .no editR x0), (.f 195 []), .x, .x, .x, .x, .x, (.s (.int .i64 x7)), (.s (.int .i64 x8))] ++ List.replicate 10 .x), ob := [], nx := 0, io := [] }
theorem se_slices_IndexFunc_Edit_2_0 (x0 : List T_Edit) (x7 : Int) (x8 : Int) : sh_slices_IndexFunc_Edit_2_0.mk' (d_slices_IndexFunc_Edit_2_0 x0 x7 x8) = (s_slices_IndexFunc_Edit_2_0 x0 x7 x8) := by kernel_rfl
def w_slices_IndexFunc_Edit_2_0 (d : sh_slices_IndexFunc_Edit_2_0.T) (f : (List T_Edit) → Int → Int → Option Ret) : Option Ret := match d with | ((x0, (_, (_, (_, (_, (_, (_, (x7, (x8, _))))))))), _, _) => f x0 x7 x8
noncomputable def P_slices_IndexFunc_Edit_2_0 (x0 : List T_Edit) (x7 : Int) (x8 : Int) (nx0 : (List T_Edit) → Int → Int → Option Ret) (k0 : Int → Option Ret) (k1 : Option Ret) : Option Ret := (bif (decide (x8 < x7)) then (bif ((decide ((0 : Int) ≤ x8)) && (decide (x8 < (((List.length x0) : Nat) : Int)))) then (bif (!(smallE (List.getD x0 (Int.toNat x8) (editR.dflt)))) then (k0 x8) else (nx0 x0 x7 (IntKind.wrap .i64 (x8 + (1 : Int))))) else none) else k1)
noncomputable def Q_slices_IndexFunc_Edit_2_0 : Nat → (List T_Edit) → Int → Int → (Int → Option Ret) → (Option Ret) → Option Ret
  | 0, _, _, _, _, _ => none
  | m + 1, x0, x7, x8, k0, k1 => P_slices_IndexFunc_Edit_2_0 x0 x7 x8 (fun x0 x7 x8 => (Q_slices_IndexFunc_Edit_2_0 m x0 x7 x8 k0 k1)) k0 k1
noncomputable def R_slices_IndexFunc_Edit_2_0 (x0 : List T_Edit) (x7 : Int) (x8 : Int) (k0 : Int → Option Ret) (k1 : Option Ret) : Option Ret := Q_slices_IndexFunc_Edit_2_0 (List.length x0 + x7.toNat + x8.toNat + 2) x0 x7 x8 k0 k1
noncomputable def W_slices_IndexFunc_Edit_2 : LoopFn := (fun (σ : St) (K : Ex → St → Option Ret) => (match sh_slices_IndexFunc_Edit_2_0.un σ with | some d => w_slices_IndexFunc_Edit_2_0 d (fun x0 x7 x8 => R_slices_IndexFunc_Edit_2_0 x0 x7 x8 (fun x4 => (K .ret (z_slices_IndexFunc_Edit_2_0 x4))) (K (.ext 0) z_slices_IndexFunc_Edit_2_1)) | none => none))
noncomputable abbrev ls_slices_IndexFunc_Edit : List (Nat × Bool × Sm) := [(N.i_areStacked_1, true, S_i_areStacked_1)]
noncomputable abbrev E_slices_IndexFunc_Edit : Env := En ls_slices_IndexFunc_Edit [] [(2, [0,1,7,8], [4], W_slices_IndexFunc_Edit_2)] [] false 0 []
noncomputable abbrev U_slices_IndexFunc_Edit_2 := rounds (run E_slices_IndexFunc_Edit (bodyOf F.slices_IndexFunc_Edit 2)) [0,1,7,8] [4]
theorem st_slices_IndexFunc_Edit_2_0 (m : Nat) (x0 : List T_Edit) (x7 : Int) (x8 : Int) (K : Ex → St → Option Ret) : U_slices_IndexFunc_Edit_2 (m + 1) (s_slices_IndexFunc_Edit_2_0 x0 x7 x8) K = P_slices_IndexFunc_Edit_2_0 x0 x7 x8 (fun x0 x7 x8 => (U_slices_IndexFunc_Edit_2 m (s_slices_IndexFunc_Edit_2_0 x0 x7 x8) K)) (fun x4 => (K .ret (z_slices_IndexFunc_Edit_2_0 x4))) (K (.ext 0) z_slices_IndexFunc_Edit_2_1) := by kernel_rfl
theorem q_slices_IndexFunc_Edit_2 (K : Ex → St → Option Ret) : ∀ m : Nat, (∀ (x0 : List T_Edit) (x7 : Int) (x8 : Int), U_slices_IndexFunc_Edit_2 m (s_slices_IndexFunc_Edit_2_0 x0 x7 x8) K = Q_slices_IndexFunc_Edit_2_0 m x0 x7 x8 (fun x4 => (K .ret (z_slices_IndexFunc_Edit_2_0 x4))) (K (.ext 0) z_slices_IndexFunc_Edit_2_1))
  | 0 => (fun _ _ _ => rfl)
  | m + 1 => (fun x0 x7 x8 => (by rw [st_slices_IndexFunc_Edit_2_0, show (fun x0 x7 x8 => (U_slices_IndexFunc_Edit_2 m (s_slices_IndexFunc_Edit_2_0 x0 x7 x8) K)) = (fun x0 x7 x8 => (Q_slices_IndexFunc_Edit_2_0 m x0 x7 x8 (fun x4 => (K .ret (z_slices_IndexFunc_Edit_2_0 x4))) (K (.ext 0) z_slices_IndexFunc_Edit_2_1))) from funext fun x0 => funext fun x7 => funext fun x8 => (q_slices_IndexFunc_Edit_2 K m) x0 x7 x8]; rfl))
theorem loopK_slices_IndexFunc_Edit_2 : LoopOk E_slices_IndexFunc_Edit (bodyOf F.slices_IndexFunc_Edit 2) := by
  refine loopW_ok (n := 2) (F := W_slices_IndexFunc_Edit_2) (by kernel_rfl) rfl (li := [0,1,7,8]) (lo := [4]) rfl (fun σ K r hr => ?_)
  unfold W_slices_IndexFunc_Edit_2 at hr
  split at hr
  · rename_i d hd
    rw [Ss.un_mk hd]
    exact ⟨_, ((congrArg (fun z => U_slices_IndexFunc_Edit_2 _ z K) (se_slices_IndexFunc_Edit_2_0 _ _ _)).trans ((q_slices_IndexFunc_Edit_2 K _) _ _ _)).trans hr⟩
  · cases hr
noncomputable def T_slices_IndexFunc_Edit (l : List T_Edit) (K : Ret → Option Ret) : Option Ret := (R_slices_IndexFunc_Edit_2_0 l (((List.length l) : Nat) : Int) (0 : Int) (fun y0 => K ((.s (.int .i64 y0)), [])) (K ((.s (.int .i64 (-(1 : Int)))), [])))
theorem e_slices_IndexFunc_Edit (l : List T_Edit) (K : Ret → Option Ret) : evF E_slices_IndexFunc_Edit true F.slices_IndexFunc_Edit [.l .no editR l, .f N.i_areStacked_1 []] K = T_slices_IndexFunc_Edit l K := by kernel_rfl
def S_slices_IndexFunc_Edit : Sm := S_fnR [.l editR, .sh (.f N.i_areStacked_1 .nil)] (fun d => Nat.ble d.1.length 1048576) (fun d => (.s (.int .i64 (idxF (fun x => !(smallE x)) d.1)), []))
theorem v_slices_IndexFunc_Edit (l : List T_Edit) (h : (Nat.ble l.length 1048576) = true) (K : Ret → Option Ret) : T_slices_IndexFunc_Edit l K = K (.s (.int .i64 (idxF (fun x => !(smallE x)) l)), []) := by
  have hl := Nat.le_of_ble_eq_true h
  unfold T_slices_IndexFunc_Edit
  refine Eq.trans (idx_find (R := fun m i => Q_slices_IndexFunc_Edit_2_0 m l ((l.length : Nat) : Int) i (fun y0 => K ((.s (.int .i64 y0)), [])) (K ((.s (.int .i64 (-(1 : Int)))), []))) (p := fun x => !(smallE x)) (xs := l) (z := (editR).dflt) (kf := fun y0 => K ((.s (.int .i64 y0)), [])) (kt := K ((.s (.int .i64 (-(1 : Int)))), [])) (fun m i hi => by
    show P_slices_IndexFunc_Edit_2_0 l _ ((i : Nat) : Int) _ _ _ = _
    unfold P_slices_IndexFunc_Edit_2_0
    rw [decide_eq_true (show ((i : Nat) : Int) < ((l.length : Nat) : Int) by omega), decide_eq_true (show (0 : Int) ≤ ((i : Nat) : Int) by omega), Int.toNat_natCast, wrap_nat (by omega)]
    rfl) (fun m => by
    show P_slices_IndexFunc_Edit_2_0 l _ ((l.length : Nat) : Int) _ _ _ = _
    unfold P_slices_IndexFunc_Edit_2_0
    rw [decide_eq_false (show ¬ ((l.length : Nat) : Int) < ((l.length : Nat) : Int) by omega)]; rfl) _ 0 (by omega) (by omega)) ?_
  rw [List.drop_zero]
  unfold idxF
  cases l.findIdx? (fun x => !(smallE x)) with
  | none => rfl
  | some j => show K (.s (.int .i64 ((0 + j : Nat) : Int)), []) = _; rw [Nat.zero_add]
theorem okS_slices_IndexFunc_Edit : OkFn prog I N.slices_IndexFunc_Edit true S_slices_IndexFunc_Edit := okN (ok_fn (memc okS_i_areStacked_1 mem0) (l := ls_slices_IndexFunc_Edit) (p := []) (ls := [(2, [0,1,7,8], [4], W_slices_IndexFunc_Edit_2)]) (lend := []) (focus := false) (fuel := 0) (give := []) (fn := F.slices_IndexFunc_Edit) (by kernel_rfl) (by kernel_rfl) (by kernel_rfl) (by kernel_rfl) (cs := [bodyOf F.slices_IndexFunc_Edit 2]) (by kernel_rfl) (loopsc loopK_slices_IndexFunc_Edit_2 loops0)) (S_fnR_of fun d K h => (e_slices_IndexFunc_Edit d.1 K).trans (v_slices_IndexFunc_Edit d.1 h K))
end Go.Ev.Seat
end
section
/- slices_ContainsFunc_Edit: its contract. -/
namespace Go.Ev.Seat
open Go.RowKit
set_option maxRecDepth 100000
set_option linter.unusedVariables false
set_option linter.unusedSimpArgs false
noncomputable abbrev ls_slices_ContainsFunc_Edit : List (Nat × Bool × Sm) := [(N.slices_IndexFunc_Edit, true, S_slices_IndexFunc_Edit)]
noncomputable abbrev E_slices_ContainsFunc_Edit : Env := En ls_slices_ContainsFunc_Edit [] [] [] false 0 []
noncomputable def T_slices_ContainsFunc_Edit (l : List T_Edit) (K : Ret → Option Ret) : Option Ret := (bif (Nat.ble (List.length l) 1048576) then K ((.s (.bool (decide ((idxF (fun x => (!(smallE x))) l) ≥ (0 : Int))))), []) else none)
theorem e_slices_ContainsFunc_Edit (l : List T_Edit) (K : Ret → Option Ret) : evF E_slices_ContainsFunc_Edit true F.slices_ContainsFunc_Edit [.l .no editR l, .f N.i_areStacked_1 []] K = T_slices_ContainsFunc_Edit l K := by kernel_rfl
def S_slices_ContainsFunc_Edit : Sm := S_fnR [.l editR, .sh (.f N.i_areStacked_1 .nil)] (fun d => Nat.ble d.1.length 1048576) (fun d => (bl (d.1.any (fun x => !(smallE x))), []))
theorem v_slices_ContainsFunc_Edit (l : List T_Edit) (h : (Nat.ble l.length 1048576) = true) (K : Ret → Option Ret) : T_slices_ContainsFunc_Edit l K = K (bl (l.any (fun x => !(smallE x))), []) := by
  unfold T_slices_ContainsFunc_Edit
  first | rw [h] | skip
  rw [← idxF_any]; rfl
theorem okS_slices_ContainsFunc_Edit : OkFn prog I N.slices_ContainsFunc_Edit true S_slices_ContainsFunc_Edit := okN (ok_fn (memc okS_slices_IndexFunc_Edit mem0) (l := ls_slices_ContainsFunc_Edit) (p := []) (ls := []) (lend := []) (focus := false) (fuel := 0) (give := []) (fn := F.slices_ContainsFunc_Edit) (by kernel_rfl) (by kernel_rfl) (by kernel_rfl) (by kernel_rfl) (cs := []) (by kernel_rfl) loops0) (S_fnR_of fun d K h => (e_slices_ContainsFunc_Edit d.1 K).trans (v_slices_ContainsFunc_Edit d.1 h K))
end Go.Ev.Seat
end
section
/- i_areStacked: its contract. -/
namespace Go.Ev.Seat
open Go.RowKit
set_option maxRecDepth 100000
set_option linter.unusedVariables false
set_option linter.unusedSimpArgs false
noncomputable abbrev ls_i_areStacked : List (Nat × Bool × Sm) := [(N.slices_ContainsFunc_Edit, true, S_slices_ContainsFunc_Edit)]
noncomputable abbrev E_i_areStacked : Env := En ls_i_areStacked [] [] [] false 0 []
noncomputable def T_i_areStacked (l : List T_Edit) (K : Ret → Option Ret) : Option Ret := (bif (decide ((((List.length l) : Nat) : Int) ≤ (6 : Int))) then (bif (Nat.ble (List.length l) 1048576) then K ((.s (.bool (!(List.any l (fun x => (!(smallE x))))))), []) else none) else K ((.s (.bool false)), []))
theorem e_i_areStacked (l : List T_Edit) (K : Ret → Option Ret) : evF E_i_areStacked true F.i_areStacked [.l .no editR l] K = T_i_areStacked l K := by kernel_rfl
def S_i_areStacked : Sm := S_fnR [.l editR] (fun d => Nat.ble d.1.length 1048576) (fun d => (bl (okL d.1), []))
theorem v_i_areStacked (l : List T_Edit) (h : (Nat.ble l.length 1048576) = true) (K : Ret → Option Ret) : T_i_areStacked l K = K (bl (okL l), []) := by
  unfold T_i_areStacked okL
  rw [h, List.all_eq_not_any_not]
  cases decide (((l.length : Nat) : Int) ≤ 6) <;> rfl
theorem okS_i_areStacked : OkFn prog I N.i_areStacked true S_i_areStacked := okN (ok_fn (memc okS_slices_ContainsFunc_Edit mem0) (l := ls_i_areStacked) (p := []) (ls := []) (lend := []) (focus := false) (fuel := 0) (give := []) (fn := F.i_areStacked) (by kernel_rfl) (by kernel_rfl) (by kernel_rfl) (by kernel_rfl) (cs := []) (by kernel_rfl) loops0) (S_fnR_of fun d K h => (e_i_areStacked d.1 K).trans (v_i_areStacked d.1 h K))
end Go.Ev.Seat
end
