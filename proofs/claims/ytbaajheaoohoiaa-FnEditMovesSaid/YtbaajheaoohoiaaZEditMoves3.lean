/- EditMoves: parts EvSigN EvRows EvUtf PUtf PEdit PReq PLoop PEvent PMove EvFit PMoveF Flbig PDraw Fsl01Open Fsl01Curpick Fsl01Cursize Fsl01Currune FsRuneBytes Fsl01Curtext Fsl01Curraw Fsl01Cursmall FsDrawEditMoves Fsl02Small Fsl05Small Fsl06Place FsPosMove FsSpanMove FsEditMove FsEditMoves Fiin FiEditisSmall FiEditpos FiEditspan FiEditmoved FslicesClonebytesbyte FiEditcopied, packed by squash.py. -/
import Derived.Lib.Strings
import Derived.Test.YtbaajheaoohoiaaZEditMoves0
import Derived.Test.YtbaajheaoohoiaaZEditMoves1
import Derived.Test.YtbaajheaoohoiaaZEditMoves2
set_option linter.unusedVariables false
set_option linter.unusedSimpArgs false
section
/- Contracts by signature, where a nil slice may stand for an empty one; results with what is handed back. -/
set_option linter.unusedVariables false
namespace Go.Ev
def Cc.decN : (c : Cc) → V → Option c.T
  | .sl _, .nl => some []
  | c, v => c.dec v
def Rw.decN : (r : Rw) → List V → Option r.T
  | .one c, [v] => c.decN v
  | .cons c r, v :: vs => match c.decN v with
    | some d => match r.decN vs with
      | some e => some (d, e)
      | none => none
    | none => none
  | _, _ => none
def Ak.decN : (k : Ak) → V → Option k.T
  | .a r, .a cs => r.decN cs
  | .l r, v => (Cc.sl r).decN v
  | k, v => k.dec v
def sgN : (ks : List Ak) → List V → Option (SgT ks)
  | [], [] => some ()
  | k :: ks, v :: vs => match k.decN v with
    | some d => match sgN ks vs with
      | some e => some (d, e)
      | none => none
    | none => none
  | _, _ => none
section
variable {w : World}
theorem CellR.nlN {r : Rw} {c : Value} {O M H : List Nat} (h : CellR w .nl c O M H) : CellR w (.l .no r []) c O M H := by
  obtain ⟨h1, h2, h3⟩ := h
  have h1' : c = .slice none 0 0 := h1
  exact ⟨⟨[], .inl ⟨rfl, rfl, none, 0, h1', fun _ => ⟨rfl, rfl⟩⟩, fun _ h => nomatch h⟩, h2, h3⟩
theorem Cc.decN_ok : (c : Cc) → {v : V} → {d : c.T} → c.decN v = some d → (v = .nl ∧ ∃ r, c.cell .no d = .l .no r []) ∨ v = c.cell .no d
  | .sl r, v, d, h => by
    cases v with
    | nl =>
      have h' : (some [] : Option (List r.T)) = some d := h
      cases h'
      exact .inl ⟨rfl, r, rfl⟩
    | _ => exact .inr (Cc.dec_ok (.sl r) h)
  | .int k, v, d, h => .inr (Cc.dec_ok (.int k) (by cases v <;> simpa [Cc.decN] using h))
  | .bool, v, d, h => .inr (Cc.dec_ok .bool (by cases v <;> simpa [Cc.decN] using h))
  | .str, v, d, h => .inr (Cc.dec_ok .str (by cases v <;> simpa [Cc.decN] using h))
theorem Cc.decN_R {c : Cc} {v : V} {d : c.T} (h : c.decN v = some d) {x : Value} {O M H : List Nat} (hc : CellR w v x O M H) : CellR w (c.cell .no d) x O M H := by
  rcases Cc.decN_ok c h with ⟨rfl, r, e⟩ | e
  · rw [e]; exact hc.nlN
  · rw [← e]; exact hc
theorem Rw.decN_R : (r : Rw) → {cs : List V} → {d : r.T} → r.decN cs = some d → ∀ {vs : List Value} {O M H : List Nat}, CellsR w cs vs O M H → CellsR w (r.cells .no d) vs O M H
  | .one c, cs, d, h, vs, O, M, H, hc => by
    match cs, h, hc with
    | [v], h, ⟨v1, vs', O1, O2, M1, M2, H1, H2, a1, a2, a3, a4, a5, a6⟩ =>
      exact ⟨v1, vs', O1, O2, M1, M2, H1, H2, a1, a2, a3, a4, Cc.decN_R (c := c) h a5, a6⟩
    | [], h, _ => simp [Rw.decN] at h
    | _ :: _ :: _, h, _ => simp [Rw.decN] at h
  | .cons c r, cs, d, h, vs, O, M, H, hc => by
    match cs, h, hc with
    | v :: us, h, ⟨v1, vs', O1, O2, M1, M2, H1, H2, a1, a2, a3, a4, a5, a6⟩ =>
      simp only [Rw.decN] at h
      split at h
      · rename_i d1 e1
        split at h
        · rename_i d2 e2
          cases h
          exact ⟨v1, vs', O1, O2, M1, M2, H1, H2, a1, a2, a3, a4, Cc.decN_R (c := c) e1 a5, Rw.decN_R r e2 a6⟩
        · cases h
      · cases h
    | [], h, _ => simp [Rw.decN] at h
theorem cell_argR {v : V} (h : ∀ cs, v ≠ .a cs) (h2 : ∀ cs, v ≠ .io cs) {x : Value} {O M H : List Nat} : ArgR w v x O M H ↔ CellR w v x O M H := by
  cases v with
  | a cs => exact absurd rfl (h cs)
  | io cs => exact absurd rfl (h2 cs)
  | _ => exact Iff.rfl
theorem Ak.decN_R : (k : Ak) → {v : V} → {d : k.T} → k.decN v = some d → ∀ {x : Value} {O M H : List Nat}, ArgR w v x O M H → ArgR w (k.v d) x O M H
  | .a r, v, d, h, x, O, M, H, ha => by
    cases v with
    | a cs =>
      obtain ⟨vs, h1, h2⟩ := ha
      exact ⟨vs, h1, Rw.decN_R r h h2⟩
    | _ => simp [Ak.decN, Ak.dec] at h
  | .l r, v, d, h, x, O, M, H, ha => by
    have h' : (Cc.sl r).decN v = some d := by cases v <;> simpa [Ak.decN] using h
    have hv : (∀ cs, v ≠ .a cs) ∧ (∀ cs, v ≠ .io cs) := by
      cases v with
      | a cs => simp [Cc.decN, Cc.dec] at h'
      | io cs => simp [Cc.decN, Cc.dec] at h'
      | _ => exact ⟨fun _ h => (nomatch h), fun _ h => (nomatch h)⟩
    exact (cell_argR (v := V.l .no r d) (fun _ h => nomatch h) (fun _ h => nomatch h)).2 (Cc.decN_R (c := .sl r) h' ((cell_argR hv.1 hv.2).1 ha))
  | .i, v, d, h, x, O, M, H, ha => by
    have h' : Ak.dec .i v = some d := by cases v <;> simpa [Ak.decN] using h
    rw [Ak.dec_ok .i h'] at ha; exact ha
  | .b, v, d, h, x, O, M, H, ha => by
    have h' : Ak.dec .b v = some d := by cases v <;> simpa [Ak.decN] using h
    rw [Ak.dec_ok .b h'] at ha; exact ha
  | .sc1 k, v, d, h, x, O, M, H, ha => by
    have h' : Ak.dec (.sc1 k) v = some d := by cases v <;> simpa [Ak.decN] using h
    rw [Ak.dec_ok (.sc1 k) h'] at ha; exact ha
  | .sh s, v, d, h, x, O, M, H, ha => by
    have h' : Ak.dec (.sh s) v = some d := by cases v <;> simpa [Ak.decN] using h
    rw [Ak.dec_ok (.sh s) h'] at ha; exact ha
theorem cell_noOwn (c : Cc) (d : c.T) : (c.cell .no d).isOwn = false := by cases c <;> rfl
theorem cells_noOwn : (r : Rw) → (d : r.T) → (r.cells .no d).any V.isOwn = false
  | .one c, d => by simp [Rw.cells, cell_noOwn]
  | .cons c r, d => by simp only [Rw.cells, List.any_cons, cell_noOwn, cells_noOwn r, Bool.or_self]
theorem Cc.decN_own {c : Cc} {v : V} {d : c.T} (h : c.decN v = some d) : v.isOwn = false := by
  rcases Cc.decN_ok c h with ⟨rfl, _⟩ | e
  · rfl
  · rw [e]; exact cell_noOwn c d
theorem Rw.decN_own : (r : Rw) → {cs : List V} → {d : r.T} → r.decN cs = some d → cs.any V.isOwn = false
  | .one c, cs, d, h => by
    match cs, h with
    | [v], h => simp only [List.any_cons, List.any_nil, Bool.or_false]; exact Cc.decN_own (c := c) h
    | [], h => simp [Rw.decN] at h
    | _ :: _ :: _, h => simp [Rw.decN] at h
  | .cons c r, cs, d, h => by
    match cs, h with
    | v :: us, h =>
      simp only [Rw.decN] at h
      split at h
      · rename_i d1 e1
        split at h
        · rename_i d2 e2
          simp only [List.any_cons, Cc.decN_own (c := c) e1, Rw.decN_own r e2, Bool.or_self]
        · cases h
      · cases h
    | [], h => simp [Rw.decN] at h
theorem Ak.decN_back (k : Ak) {v : V} {d : k.T} (h : k.decN v = some d) : v.back = (k.v d).back := by
  cases k with
  | a r =>
    cases v with
    | a cs =>
      have h' : r.decN cs = some d := h
      show cs.any V.isOwn = (r.cells .no d).any V.isOwn
      rw [Rw.decN_own r h', cells_noOwn]
    | _ => simp [Ak.decN, Ak.dec] at h
  | l r =>
    have h' : (Cc.sl r).decN v = some d := by cases v <;> simpa [Ak.decN] using h
    rcases Cc.decN_ok (.sl r) h' with ⟨rfl, _⟩ | e
    · rfl
    · rw [e]; rfl
  | i =>
    have h' : Ak.dec .i v = some d := by cases v <;> simpa [Ak.decN] using h
    rw [Ak.dec_ok .i h']
  | b =>
    have h' : Ak.dec .b v = some d := by cases v <;> simpa [Ak.decN] using h
    rw [Ak.dec_ok .b h']
  | sc1 k =>
    have h' : Ak.dec (.sc1 k) v = some d := by cases v <;> simpa [Ak.decN] using h
    rw [Ak.dec_ok (.sc1 k) h']
  | sh s =>
    have h' : Ak.dec (.sh s) v = some d := by cases v <;> simpa [Ak.decN] using h
    rw [Ak.dec_ok (.sh s) h']
end
/-- What holds of the one holds of the other, and the same comes back. -/
def NilLe (ws ws' : List V) : Prop := (∀ (w : World) (vs : List Value) (O M H : List Nat), ArgsR w ws vs O M H → ArgsR w ws' vs O M H) ∧ ∀ (vs : List Value), ptrs ws vs = ptrs ws' vs
theorem NilLe.rfl' (ws : List V) : NilLe ws ws := ⟨fun _ _ _ _ _ h => h, fun _ => rfl⟩
theorem sgN_le : (ks : List Ak) → {ws : List V} → {d : SgT ks} → sgN ks ws = some d → NilLe ws (sgV ks d)
  | [], [], d, h => NilLe.rfl' _
  | [], _ :: _, d, h => by simp [sgN] at h
  | k :: ks, [], d, h => by simp [sgN] at h
  | k :: ks, v :: ws, d, h => by
    simp only [sgN] at h
    split at h
    · rename_i d1 e1
      split at h
      · rename_i d2 e2
        cases h
        have ih := sgN_le ks e2
        refine ⟨fun w vs O M H ⟨x, xs, O1, O2, M1, M2, H1, H2, a1, a2, a3, a4, a5, a6⟩ => ⟨x, xs, O1, O2, M1, M2, H1, H2, a1, a2, a3, a4, Ak.decN_R k e1 a5, ih.1 w xs O2 M2 H2 a6⟩, fun vs => ?_⟩
        show ptrs (v :: ws) vs = ptrs (k.v d1 :: sgV ks d2) vs
        cases vs with
        | nil => rfl
        | cons x xs => simp only [ptrs, Ak.decN_back k e1, ih.2 xs]
      · cases h
    · cases h
theorem okN {P : Program} {I : Nat → World → Prop} {g : FuncId} {f : Bool} {S G : Sm} (hG : OkFn P I g f G) (h : ∀ ws K q, S ws K = some q → ∃ ws', NilLe ws ws' ∧ G ws' K = some q) : OkFn P I g f S :=
  ⟨hG.1, fun ws K r hr B0 w0 w N vs O M H hI hb hB hA => by
    obtain ⟨ws', hn, h3⟩ := h ws K r hr
    have := hG.2 ws' K r h3 B0 w0 w N vs O M H hI hb hB (hn.1 w vs O M H hA)
    rw [hn.2 vs]
    exact this⟩
/-- What goes on with a result that is only read. -/
def noK (K : Ret → Option Ret) : Ret → Option Ret := fun q => bif q.1.okNo then K (noR q.1, q.2) else none
def S_fnR (ks : List Ak) (pre : SgT ks → Bool) (f : SgT ks → Ret) : Sm := fun vs K => match sgN ks vs with
  | some d => bif pre d then K (f d) else none
  | none => none
theorem S_fnR_of {ks : List Ak} {pre : SgT ks → Bool} {f : SgT ks → Ret} {G : Sm} (h : ∀ d K, pre d = true → G (sgV ks d) K = K (f d)) : ∀ ws K q, S_fnR ks pre f ws K = some q → ∃ ws', NilLe ws ws' ∧ G ws' K = some q := by
  intro ws K q hr
  unfold S_fnR at hr
  split at hr
  · rename_i d hd
    cases hp : pre d with
    | false => rw [hp] at hr; cases hr
    | true => rw [hp] at hr; exact ⟨_, sgN_le ks hd, (h d K hp).trans hr⟩
  · cases hr
/-- A contract that hands its result on. -/
def S_B (ks : List Ak) (F : SgT ks → (Ret → Option Ret) → Option Ret) : Sm := fun vs K => match sgN ks vs with
  | some d => F d K
  | none => none
theorem S_B_of {ks : List Ak} {F : SgT ks → (Ret → Option Ret) → Option Ret} {G : Sm} (h : ∀ d K q, F d K = some q → G (sgV ks d) K = some q) : ∀ ws K q, S_B ks F ws K = some q → ∃ ws', NilLe ws ws' ∧ G ws' K = some q := by
  intro ws K q hr
  unfold S_B at hr
  split at hr
  · rename_i d hd
    exact ⟨_, sgN_le ks hd, h d K q hr⟩
  · cases hr
end Go.Ev
end
section
/- The rows of the structs. Printed by fam.py. -/
namespace Go.Ev.Seat
open Go.RowKit
abbrev measR : Rw := .cons (.int .i64) (.cons (.int .i64) (.one (.int .i64)))
abbrev chunkR : Rw := .one (.sl bytesR)
abbrev pieceR : Rw := .one (.sl bytesR)
abbrev editR : Rw := .cons (.int .i64) (.cons (.int .i64) (.one (.sl bytesR)))
abbrev selR : Rw := .cons (.int .i64) (.one (.int .i64))
abbrev leaseR : Rw := .cons (.int .i64) (.cons (.int .i64) (.cons (.int .i64) (.one (.int .i64))))
abbrev stackR : Rw := .cons (.sl editR) (.one (.sl editR))
abbrev reqR : Rw := .cons (.int .i64) (.cons (.int .i64) (.cons (.int .i64) (.cons (.int .i64) (.cons (.int .i64) (.one (.sl bytesR))))))
abbrev replyR : Rw := .cons (.int .i64) (.cons (.int .i64) (.cons (.int .i64) (.one (.sl bytesR))))
abbrev commitR : Rw := .cons (.int .i64) (.cons (.int .i64) (.cons (.int .i64) (.one (.sl bytesR))))
abbrev memberR : Rw := .cons (.int .i64) (.cons (.int .i64) (.cons (.int .i64) (.cons (.sl editR) (.one (.sl editR)))))
abbrev docR : Rw := .cons (.sl bytesR) (.cons (.sl bytesR) (.cons (.sl commitR) (.cons (.int .i64) (.cons (.sl memberR) (.one (.sl leaseR))))))
abbrev eventR : Rw := .cons (.int .i64) (.cons (.int .i64) (.cons (.int .i64) (.one (.sl bytesR))))
abbrev opR : Rw := .cons (.int .i64) (.cons (.int .i64) (.cons (.int .i64) (.cons (.int .i64) (.cons (.int .i64) (.cons (.sl bytesR) (.cons (.int .i64) (.cons (.int .i64) (.cons (.int .i64) (.cons (.int .i64) (.cons (.int .i64) (.cons (.int .i64) (.one (.sl bytesR)))))))))))))
abbrev machR : Rw := .cons (.sl bytesR) (.cons (.sl bytesR) (.cons (.sl commitR) (.cons (.int .i64) (.cons (.sl memberR) (.cons (.sl leaseR) (.one (.sl opR)))))))
abbrev actR : Rw := .cons (.int .i64) (.cons (.int .i64) (.cons (.int .i64) (.cons (.int .i64) (.cons (.int .i64) (.cons (.int .i64) (.cons (.int .i64) (.cons (.int .i64) (.one (.sl bytesR)))))))))
abbrev outR : Rw := .cons (.int .i64) (.cons (.int .i64) (.cons (.int .i64) (.cons (.int .i64) (.cons (.int .i64) (.cons (.int .i64) (.cons (.int .i64) (.cons (.sl bytesR) (.cons (.int .i64) (.cons (.int .i64) (.cons (.int .i64) (.cons (.int .i64) (.one (.sl bytesR)))))))))))))
abbrev runR : Rw := .cons (.int .i64) (.one (.int .i64))
abbrev ropeR : Rw := .one (.sl chunkR)
abbrev T_Meas : Type := Int × Int × Int
abbrev T_Chunk : Type := List Int
abbrev T_Piece : Type := List Int
abbrev T_Edit : Type := Int × Int × List Int
abbrev T_Sel : Type := Int × Int
abbrev T_Lease : Type := Int × Int × Int × Int
abbrev T_Stack : Type := List T_Edit × List T_Edit
abbrev T_Req : Type := Int × Int × Int × Int × Int × List Int
abbrev T_Reply : Type := Int × Int × Int × List Int
abbrev T_Commit : Type := Int × Int × Int × List Int
abbrev T_Member : Type := Int × Int × Int × List T_Edit × List T_Edit
abbrev T_Doc : Type := List Int × List Int × List T_Commit × Int × List T_Member × List T_Lease
abbrev T_Event : Type := Int × Int × Int × List Int
abbrev T_Op : Type := Int × Int × Int × Int × Int × List Int × Int × Int × Int × Int × Int × Int × List Int
abbrev T_Mach : Type := List Int × List Int × List T_Commit × Int × List T_Member × List T_Lease × List T_Op
abbrev T_Act : Type := Int × Int × Int × Int × Int × Int × Int × Int × List Int
abbrev T_Out : Type := Int × Int × Int × Int × Int × Int × Int × List Int × Int × Int × Int × Int × List Int
abbrev T_Run : Type := Int × Int
abbrev T_Rope : Type := List T_Chunk
end Go.Ev.Seat
end
section
/- The tables of unicode/utf8. -/
namespace Go.Ev
abbrev Seat.accR : Rw := .cons (.int .u8) (.one (.int .u8))
def utfFirst : List Int := List.replicate 128 240 ++ List.replicate 66 241 ++ List.replicate 30 2 ++ [19] ++ List.replicate 12 3 ++ [35, 3, 3, 52, 4, 4, 4, 68] ++ List.replicate 11 241
def utfAccept : List (Int × Int) := [(128, 191), (160, 191), (128, 159), (144, 191), (128, 143)] ++ List.replicate 11 (0, 0)
def utfGlob (g : Nat) : Option ((r : Rw) × List r.T) :=
  bif Nat.beq g 0 then some ⟨.one (.int .u8), utfFirst⟩ else bif Nat.beq g 1 then some ⟨.cons (.int .u8) (.one (.int .u8)), utfAccept⟩ else none
end Go.Ev
end
section
/- UTF-8, as lists of numbers. -/
set_option linter.unusedVariables false
namespace Go.Ev
open Go.RowKit
def isB (x : Int) : Bool := decide (0 ≤ x) && decide (x ≤ 255)
def fitB (xs : List Int) : Bool := Nat.ble xs.length 1048576 && xs.all isB
theorem fitB_len {xs : List Int} (h : fitB xs = true) : xs.length ≤ 1048576 := by
  unfold fitB at h; rw [Bool.and_eq_true] at h; exact Nat.le_of_ble_eq_true h.1
theorem fitB_mem {xs : List Int} (h : fitB xs = true) {x : Int} (hx : x ∈ xs) : 0 ≤ x ∧ x ≤ 255 := by
  unfold fitB at h; rw [Bool.and_eq_true, List.all_eq_true] at h
  have := h.2 x hx
  simpa [isB] using this
theorem fitB_get {xs : List Int} (h : fitB xs = true) (i : Nat) : 0 ≤ xs.getD i 0 ∧ xs.getD i 0 ≤ 255 := by
  rw [List.getD_eq_getElem?_getD]
  rcases Nat.lt_or_ge i xs.length with hi | hi
  · rw [List.getElem?_eq_getElem hi]; exact fitB_mem h (List.getElem_mem hi)
  · rw [List.getElem?_eq_none hi]; simp
theorem fitB_of {xs : List Int} (h1 : xs.length ≤ 1048576) (h2 : ∀ x ∈ xs, 0 ≤ x ∧ x ≤ 255) : fitB xs = true := by
  unfold fitB; rw [Bool.and_eq_true, List.all_eq_true]
  exact ⟨Nat.ble_eq_true_of_le h1, fun x hx => by simpa [isB] using h2 x hx⟩
theorem fitB_sub {xs ys : List Int} (h : fitB xs = true) (hl : ys.length ≤ xs.length) (hs : ∀ y ∈ ys, y ∈ xs) : fitB ys = true :=
  fitB_of (Nat.le_trans hl (fitB_len h)) (fun y hy => fitB_mem h (hs y hy))
theorem fitB_drop {xs : List Int} (h : fitB xs = true) (n : Nat) : fitB (xs.drop n) = true := fitB_sub h (by simp) (fun y hy => List.mem_of_mem_drop hy)
theorem fitB_take {xs : List Int} (h : fitB xs = true) (n : Nat) : fitB (xs.take n) = true := fitB_sub h (by simp; omega) (fun y hy => List.mem_of_mem_take hy)
theorem fitB_append {xs ys : List Int} (h1 : fitB xs = true) (h2 : fitB ys = true) (h : xs.length + ys.length ≤ 1048576) : fitB (xs ++ ys) = true :=
  fitB_of (by simpa using h) (fun y hy => (List.mem_append.1 hy).elim (fitB_mem h1) (fitB_mem h2))

/-! ### Bits -/
theorem wrap64 {n : Nat} (h : n < 18446744073709551616) : IntKind.u64.wrap (n : Int) = n := by
  have e : IntKind.u64.wrap (n : Int) = (n : Int) % 18446744073709551616 := by
    simp only [IntKind.wrap, IntKind.bits, IntKind.signed]; simp
  rw [e]; omega
theorem ofInt_nat (k n : Nat) : BitVec.ofInt k (n : Int) = BitVec.ofNat k n := by
  apply BitVec.eq_of_toNat_eq
  simp [BitVec.toNat_ofInt, BitVec.toNat_ofNat]
theorem bor64 {a b : Nat} (ha : a < 18446744073709551616) (hb : b < 18446744073709551616) : bor .u64 a b = ((a ||| b : Nat) : Int) := by
  unfold bor
  have e : (BitVec.ofInt IntKind.u64.bits (a : Int) ||| BitVec.ofInt IntKind.u64.bits (b : Int)).toNat = a ||| b := by
    show (BitVec.ofInt 64 (a : Int) ||| BitVec.ofInt 64 (b : Int)).toNat = _
    rw [ofInt_nat, ofInt_nat, BitVec.toNat_or, BitVec.toNat_ofNat, BitVec.toNat_ofNat, Nat.mod_eq_of_lt (by omega), Nat.mod_eq_of_lt (by omega)]
  rw [e]; exact wrap64 (Nat.or_lt_two_pow (n := 64) ha hb)
theorem band64 {a b : Nat} (ha : a < 18446744073709551616) (hb : b < 18446744073709551616) : band .u64 a b = ((a &&& b : Nat) : Int) := by
  unfold band
  have e : (BitVec.ofInt IntKind.u64.bits (a : Int) &&& BitVec.ofInt IntKind.u64.bits (b : Int)).toNat = a &&& b := by
    show (BitVec.ofInt 64 (a : Int) &&& BitVec.ofInt 64 (b : Int)).toNat = _
    rw [ofInt_nat, ofInt_nat, BitVec.toNat_and, BitVec.toNat_ofNat, BitVec.toNat_ofNat, Nat.mod_eq_of_lt (by omega), Nat.mod_eq_of_lt (by omega)]
  rw [e]; exact wrap64 (Nat.and_lt_two_pow (n := 64) a hb)
def M8 : Nat := 9259542123273814144
def hiTab : Bool := (List.range 256).all fun b => (List.range 8).all fun i => ((b * 2 ^ (8 * i)) &&& M8 == 0) == decide (b < 128)
theorem hiTab_ok : hiTab = true := by kernel_rfl
theorem hi_ok {b i : Nat} (hb : b < 256) (hi : i < 8) : (b * 2 ^ (8 * i)) &&& M8 = 0 ↔ b < 128 := by
  have h := hiTab_ok
  unfold hiTab at h
  rw [List.all_eq_true] at h
  have h1 := h b (List.mem_range.2 hb)
  rw [List.all_eq_true] at h1
  have h2 := h1 i (List.mem_range.2 hi)
  simp only [beq_iff_eq] at h2
  rw [Bool.eq_iff_iff] at h2
  simpa using h2
theorem or_mask (a b m : Nat) : (a ||| b) &&& m = 0 ↔ a &&& m = 0 ∧ b &&& m = 0 := by
  rw [Nat.and_or_distrib_right, Nat.or_eq_zero_iff]
theorem shl64 {b : Nat} {i : Nat} (hb : b < 256) (hi : i < 8) : shlI .u64 (IntKind.wrap .u64 (b : Int)) ((8 * i : Nat) : Int) = ((b * 2 ^ (8 * i) : Nat) : Int) := by
  unfold shlI
  rw [wrap64 (by omega)]
  have e : ((b : Int) * 2 ^ (min ((8 * i : Nat) : Int).toNat IntKind.u64.bits)) = ((b * 2 ^ (8 * i) : Nat) : Int) := by
    have : min ((8 * i : Nat) : Int).toNat IntKind.u64.bits = 8 * i := by
      show min _ 64 = _
      rw [Int.toNat_natCast]; omega
    rw [this]; push_cast; rfl
  rw [e]
  refine wrap64 ?_
  have : 2 ^ (8 * i) ≤ 2 ^ 56 := Nat.pow_le_pow_right (by omega) (by omega)
  have h2 : b * 2 ^ (8 * i) ≤ 255 * 2 ^ 56 := Nat.mul_le_mul (by omega) this
  have : (255 * 2 ^ 56 : Nat) < 18446744073709551616 := by decide
  omega
theorem shl_lt {b i : Nat} (hb : b < 256) (hi : i < 8) : b * 2 ^ (8 * i) < 18446744073709551616 := by
  have : 2 ^ (8 * i) ≤ 2 ^ 56 := Nat.pow_le_pow_right (by omega) (by omega)
  have h2 : b * 2 ^ (8 * i) ≤ 255 * 2 ^ 56 := Nat.mul_le_mul (by omega) this
  have : (255 * 2 ^ 56 : Nat) < 18446744073709551616 := by decide
  omega

/-! ### Runes -/
def lo3 (b : Int) : Int := if b = 224 then 160 else 128
def hi3 (b : Int) : Int := if b = 237 then 159 else 191
def lo4 (b : Int) : Int := if b = 240 then 144 else 128
def hi4 (b : Int) : Int := if b = 244 then 143 else 191
/-- The size of the rune in front; 0 where there is none. -/
def runeSz (xs : List Int) : Nat :=
  if xs.length = 0 then 0
  else if xs.getD 0 0 < 128 then 1
  else if xs.getD 0 0 < 194 then 0
  else if xs.getD 0 0 < 224 then (if 2 ≤ xs.length ∧ 128 ≤ xs.getD 1 0 ∧ xs.getD 1 0 ≤ 191 then 2 else 0)
  else if xs.getD 0 0 < 240 then (if 3 ≤ xs.length ∧ lo3 (xs.getD 0 0) ≤ xs.getD 1 0 ∧ xs.getD 1 0 ≤ hi3 (xs.getD 0 0) ∧ 128 ≤ xs.getD 2 0 ∧ xs.getD 2 0 ≤ 191 then 3 else 0)
  else if xs.getD 0 0 < 245 then (if 4 ≤ xs.length ∧ lo4 (xs.getD 0 0) ≤ xs.getD 1 0 ∧ xs.getD 1 0 ≤ hi4 (xs.getD 0 0) ∧ 128 ≤ xs.getD 2 0 ∧ xs.getD 2 0 ≤ 191 ∧ 128 ≤ xs.getD 3 0 ∧ xs.getD 3 0 ≤ 191 then 4 else 0)
  else 0
theorem runeSz_le (xs : List Int) : runeSz xs ≤ xs.length := by
  unfold runeSz; repeat' split
  all_goals omega
theorem runeSz_le4 (xs : List Int) : runeSz xs ≤ 4 := by
  unfold runeSz; repeat' split
  all_goals omega
def valid (xs : List Int) : Bool := if h : runeSz xs = 0 then xs.isEmpty else valid (xs.drop (runeSz xs))
termination_by xs.length
decreasing_by
  have := runeSz_le xs
  simp; omega
theorem valid_nil : valid [] = true := by unfold valid; rfl
theorem valid_stop {xs : List Int} (h : runeSz xs = 0) (hl : 0 < xs.length) : valid xs = false := by
  unfold valid; rw [dif_pos h]; cases xs with
  | nil => simp at hl
  | cons _ _ => rfl
theorem valid_step {xs : List Int} (h : runeSz xs ≠ 0) : valid xs = valid (xs.drop (runeSz xs)) := by
  conv => lhs; unfold valid
  rw [dif_neg h]
theorem runeSz_ascii {xs : List Int} (hl : 0 < xs.length) (h : xs.getD 0 0 < 128) : runeSz xs = 1 := by
  unfold runeSz; rw [if_neg (by omega), if_pos h]
theorem getD_drop (xs : List Int) (n i : Nat) : (xs.drop n).getD i 0 = xs.getD (n + i) 0 := by
  simp [List.getD_eq_getElem?_getD, List.getElem?_drop]
theorem valid_drop {xs : List Int} : ∀ (n : Nat), n ≤ xs.length → (∀ i, i < n → xs.getD i 0 < 128) → valid (xs.drop n) = valid xs
  | 0, _, _ => rfl
  | n + 1, hl, h => by
    have ih := valid_drop n (by omega) (fun i hi => h i (by omega))
    rw [← ih]
    have e : runeSz (xs.drop n) = 1 := runeSz_ascii (by simp; omega) (by rw [getD_drop]; exact h _ (by omega))
    rw [valid_step (xs := xs.drop n) (by rw [e]; omega), e, List.drop_drop]
def fsz (b : Int) : Int := IntKind.wrap .i64 (band .u8 (List.getD utfFirst (Int.toNat b) 0) 7)
def fsh (b : Int) : Int := shrI .u8 (List.getD utfFirst (Int.toNat b) 0) 4
def fac (b : Int) : Int × Int := List.getD utfAccept (Int.toNat (fsh b)) (0, 0)
def firstChk (b : Int) : Bool := decide (0 ≤ fsh b) && decide (fsh b < 16) &&
  (if b < 128 then true else if b < 194 ∨ 245 ≤ b then fsz b == 1 else if b < 224 then fsz b == 2 && fac b == (128, 191) else if b < 240 then fsz b == 3 && fac b == (lo3 b, hi3 b) else fsz b == 4 && fac b == (lo4 b, hi4 b))
theorem firstTab_ok : ((List.range 256).all fun n => firstChk n) = true := by kernel_rfl
theorem first_at {b : Int} (h0 : 0 ≤ b) (h1 : b ≤ 255) : firstChk b = true := by
  obtain ⟨n, rfl⟩ : ∃ n : Nat, b = n := ⟨b.toNat, by omega⟩
  have h := firstTab_ok
  rw [List.all_eq_true] at h
  exact h n (List.mem_range.2 (by omega))
theorem first_sh {b : Int} (h0 : 0 ≤ b) (h1 : b ≤ 255) : 0 ≤ fsh b ∧ fsh b < 16 := by
  have h := first_at h0 h1
  unfold firstChk at h
  simp only [Bool.and_eq_true, decide_eq_true_eq] at h
  exact h.1
theorem first_1 {b : Int} (h0 : 128 ≤ b) (h1 : b ≤ 255) (h2 : b < 194 ∨ 245 ≤ b) : fsz b = 1 := by
  have h := first_at (by omega) h1
  unfold firstChk at h
  rw [if_neg (by omega), if_pos h2] at h
  simp only [Bool.and_eq_true, beq_iff_eq] at h
  exact h.2
theorem first_2 {b : Int} (h0 : 194 ≤ b) (h1 : b < 224) : fsz b = 2 ∧ fac b = (128, 191) := by
  have h := first_at (b := b) (by omega) (by omega)
  unfold firstChk at h
  rw [if_neg (by omega), if_neg (by omega), if_pos h1] at h
  simp only [Bool.and_eq_true, beq_iff_eq] at h
  exact h.2
theorem first_3 {b : Int} (h0 : 224 ≤ b) (h1 : b < 240) : fsz b = 3 ∧ fac b = (lo3 b, hi3 b) := by
  have h := first_at (b := b) (by omega) (by omega)
  unfold firstChk at h
  rw [if_neg (by omega), if_neg (by omega), if_neg (by omega), if_pos h1] at h
  simp only [Bool.and_eq_true, beq_iff_eq] at h
  exact h.2
theorem first_4 {b : Int} (h0 : 240 ≤ b) (h1 : b < 245) : fsz b = 4 ∧ fac b = (lo4 b, hi4 b) := by
  have h := first_at (b := b) (by omega) (by omega)
  unfold firstChk at h
  rw [if_neg (by omega), if_neg (by omega), if_neg (by omega), if_neg (by omega)] at h
  simp only [Bool.and_eq_true, beq_iff_eq] at h
  exact h.2
theorem first_len : utfFirst.length = 256 := by kernel_rfl
theorem accept_len : utfAccept.length = 16 := by kernel_rfl
def textOk (xs : List Int) : Bool := Nat.ble xs.length 400 && valid xs
theorem wrap8 {n : Int} (h0 : 0 ≤ n) (h1 : n ≤ 255) : IntKind.u8.wrap n = n := by
  have e : IntKind.u8.wrap n = n % 256 := by
    simp only [IntKind.wrap, IntKind.bits, IntKind.signed]; simp
  rw [e]; omega
/-- The bytes of a rune. -/
def encD (r : Int) : List Int :=
  if r < 0 ∨ 1114111 < r ∨ (55296 ≤ r ∧ r ≤ 57343) then []
  else if r < 128 then [r]
  else if r < 2048 then [192 + r / 64, 128 + r % 64]
  else if r < 65536 then [224 + r / 4096, 128 + r / 64 % 64, 128 + r % 64]
  else [240 + r / 262144, 128 + r / 4096 % 64, 128 + r / 64 % 64, 128 + r % 64]
def contB (b : Int) : Bool := decide (128 ≤ b) && decide (b ≤ 191)
def contChk (b : Int) : Bool := (band .u8 b 192 != 128) == !contB b
theorem contTab_ok : ((List.range 256).all fun n => contChk n) = true := by kernel_rfl
theorem cont_at {b : Int} (h0 : 0 ≤ b) (h1 : b ≤ 255) : (band .u8 b 192 != 128) = !contB b := by
  obtain ⟨n, rfl⟩ : ∃ n : Nat, b = n := ⟨b.toNat, by omega⟩
  have h := contTab_ok
  rw [List.all_eq_true] at h
  have := h n (List.mem_range.2 (by omega))
  simpa [contChk] using this
/-- Is it a boundary of a text? -/
def isCutD (t : List Int) (k : Int) : Bool := k == ((t.length : Nat) : Int) || (decide (0 ≤ k) && decide (k < ((t.length : Nat) : Int)) && !contB (t.getD k.toNat 0))
/-- All boundaries, from here on. -/
def bounds (xs : List Int) (k : Int) : List Int := if h : runeSz xs = 0 then [k] else k :: bounds (xs.drop (runeSz xs)) (k + (runeSz xs : Nat))
termination_by xs.length
decreasing_by
  have := runeSz_le xs
  simp; omega
theorem bounds_stop {xs : List Int} (h : runeSz xs = 0) (k : Int) : bounds xs k = [k] := by unfold bounds; rw [dif_pos h]
theorem bounds_step {xs : List Int} (h : runeSz xs ≠ 0) (k : Int) : bounds xs k = k :: bounds (xs.drop (runeSz xs)) (k + (runeSz xs : Nat)) := by
  conv => lhs; unfold bounds
  rw [dif_neg h]
theorem rune_cont {xs : List Int} (h : runeSz xs ≠ 0) : contB (xs.getD 0 0) = false ∧ ∀ j, 0 < j → j < runeSz xs → contB (xs.getD j 0) = true := by
  have key : (xs.getD 0 0 < 128 ∨ 191 < xs.getD 0 0) ∧ (1 < runeSz xs → 128 ≤ xs.getD 1 0 ∧ xs.getD 1 0 ≤ 191) ∧ (2 < runeSz xs → 128 ≤ xs.getD 2 0 ∧ xs.getD 2 0 ≤ 191) ∧ (3 < runeSz xs → 128 ≤ xs.getD 3 0 ∧ xs.getD 3 0 ≤ 191) := by
    revert h
    unfold runeSz lo3 hi3 lo4 hi4
    repeat' split
    all_goals (intro h; first | omega | (refine ⟨?_, ?_, ?_, ?_⟩ <;> omega))
  obtain ⟨h0, h1, h2, h3⟩ := key
  refine ⟨?_, fun j hj0 hj => ?_⟩
  · unfold contB
    rcases h0 with h0 | h0
    · rw [decide_eq_false (show ¬ 128 ≤ xs.getD 0 0 by omega)]; rfl
    · rw [decide_eq_false (show ¬ xs.getD 0 0 ≤ 191 by omega), Bool.and_false]
  · have h4 := runeSz_le4 xs
    have hc : j = 1 ∨ j = 2 ∨ j = 3 := by omega
    unfold contB
    rcases hc with rfl | rfl | rfl
    · obtain ⟨a, b⟩ := h1 hj; rw [decide_eq_true a, decide_eq_true b]; rfl
    · obtain ⟨a, b⟩ := h2 hj; rw [decide_eq_true a, decide_eq_true b]; rfl
    · obtain ⟨a, b⟩ := h3 hj; rw [decide_eq_true a, decide_eq_true b]; rfl
theorem bounds_has (k : Int) : ∀ (n : Nat) (xs : List Int) (k0 : Int), xs.length ≤ n → valid xs = true → ((bounds xs k0).any (fun c => c == k)) = isCutD xs (k - k0)
  | n, xs, k0, hn, hv => by
    by_cases h : runeSz xs = 0
    · have hx : xs = [] := by
        cases xs with
        | nil => rfl
        | cons a l => rw [valid_stop h (by simp)] at hv; cases hv
      subst hx
      rw [bounds_stop h]
      unfold isCutD
      simp only [List.any_cons, List.any_nil, Bool.or_false, List.length_nil, Int.natCast_zero]
      by_cases e : k0 = k
      · subst e; simp
      · have e2 : ¬ k - k0 = 0 := by omega
        have e3 : ¬ (0 ≤ k - k0 ∧ k - k0 < 0) := by omega
        rw [beq_eq_false_iff_ne.2 e, beq_eq_false_iff_ne.2 e2]
        by_cases e4 : 0 ≤ k - k0
        · rw [decide_eq_false (show ¬ k - k0 < 0 by omega)]; simp
        · rw [decide_eq_false e4]; simp
    · have hle := runeSz_le xs
      obtain ⟨c0, cj⟩ := rune_cont h
      rw [valid_step h] at hv
      cases n with
      | zero => omega
      | succ n =>
      rw [bounds_step h, List.any_cons, bounds_has k n (xs.drop (runeSz xs)) (k0 + (runeSz xs : Nat)) (by simp; omega) hv]
      unfold isCutD
      rw [List.length_drop, getD_drop]
      by_cases e : k0 = k
      · subst e
        rw [Int.sub_self, decide_eq_true (show (0 : Int) ≤ 0 by omega), decide_eq_true (show (0 : Int) < ((xs.length : Nat) : Int) by omega), show (0 : Int).toNat = 0 from rfl, c0]
        simp
      · rw [beq_eq_false_iff_ne.2 e, Bool.false_or]
        by_cases e1 : k - k0 < 0
        · rw [decide_eq_false (show ¬ 0 ≤ k - k0 by omega), decide_eq_false (show ¬ 0 ≤ k - (k0 + (runeSz xs : Nat)) by omega), beq_eq_false_iff_ne.2 (show ¬ k - k0 = ((xs.length : Nat) : Int) by omega), beq_eq_false_iff_ne.2 (show ¬ k - (k0 + (runeSz xs : Nat)) = ((xs.length - runeSz xs : Nat) : Int) by omega)]; rfl
        by_cases e2 : k - k0 < (runeSz xs : Nat)
        · have hc := cj (k - k0).toNat (by omega) (by omega)
          rw [decide_eq_false (show ¬ 0 ≤ k - (k0 + (runeSz xs : Nat)) by omega), hc, beq_eq_false_iff_ne.2 (show ¬ k - k0 = ((xs.length : Nat) : Int) by omega), beq_eq_false_iff_ne.2 (show ¬ k - (k0 + (runeSz xs : Nat)) = ((xs.length - runeSz xs : Nat) : Int) by omega)]
          simp
        · have ei : runeSz xs + (k - (k0 + (runeSz xs : Nat))).toNat = (k - k0).toNat := by omega
          rw [ei, decide_eq_true (show 0 ≤ k - (k0 + (runeSz xs : Nat)) by omega), decide_eq_true (show 0 ≤ k - k0 by omega)]
          have e5 : (k - (k0 + (runeSz xs : Nat)) == ((xs.length - runeSz xs : Nat) : Int)) = (k - k0 == ((xs.length : Nat) : Int)) := by
            rw [Bool.eq_iff_iff, beq_iff_eq, beq_iff_eq]; omega
          have e6 : decide (k - (k0 + (runeSz xs : Nat)) < ((xs.length - runeSz xs : Nat) : Int)) = decide (k - k0 < ((xs.length : Nat) : Int)) := by
            rw [Bool.eq_iff_iff, decide_eq_true_iff, decide_eq_true_iff]; omega
          rw [e5, e6]
  termination_by n => n
def cutsD (xs : List Int) : List Int := bif textOk xs then bounds xs 0 else []
def cutOk (xs : List Int) (k : Int) : Bool := textOk xs && isCutD xs k
theorem cutsD_has (xs : List Int) (k : Int) : (cutsD xs).any (fun c => c == k) = cutOk xs k := by
  unfold cutsD cutOk
  cases h : textOk xs with
  | false => rfl
  | true =>
    unfold textOk at h
    rw [Bool.and_eq_true] at h
    have := bounds_has k _ xs 0 (Nat.le_refl _) h.2
    rw [Int.sub_zero] at this
    exact this
theorem bounds_ne (xs : List Int) (k : Int) : 0 < (bounds xs k).length := by
  by_cases h : runeSz xs = 0
  · rw [bounds_stop h]; simp
  · rw [bounds_step h]; simp
def runeVal (xs : List Int) : Int :=
  if runeSz xs = 0 then -1
  else if runeSz xs = 1 then xs.getD 0 0
  else if runeSz xs = 2 then 64 * (xs.getD 0 0 - 192) + xs.getD 1 0 - 128
  else if runeSz xs = 3 then 64 * (64 * (xs.getD 0 0 - 224) + xs.getD 1 0 - 128) + xs.getD 2 0 - 128
  else 64 * (64 * (64 * (xs.getD 0 0 - 240) + xs.getD 1 0 - 128) + xs.getD 2 0 - 128) + xs.getD 3 0 - 128
theorem bstr_toList (xs : List Int) : (bstr xs).toList = xs.map (fun n => UInt8.ofNat n.toNat) := by
  rw [Lib.toList_data]; rfl
theorem u8_inj {a b : Int} (ha : 0 ≤ a ∧ a ≤ 255) (hb : 0 ≤ b ∧ b ≤ 255) (h : UInt8.ofNat a.toNat = UInt8.ofNat b.toNat) : a = b := by
  have h1 := congrArg UInt8.toNat h
  rw [UInt8.toNat_ofNat', UInt8.toNat_ofNat'] at h1
  omega
theorem map_u8_inj : ∀ {xs ys : List Int}, (∀ x ∈ xs, 0 ≤ x ∧ x ≤ 255) → (∀ y ∈ ys, 0 ≤ y ∧ y ≤ 255) → xs.map (fun n => UInt8.ofNat n.toNat) = ys.map (fun n => UInt8.ofNat n.toNat) → xs = ys
  | [], [], _, _, _ => rfl
  | [], _ :: _, _, _, h => by simp at h
  | _ :: _, [], _, _, h => by simp at h
  | x :: xs, y :: ys, hx, hy, h => by
    simp only [List.map_cons, List.cons.injEq] at h
    rw [u8_inj (hx x (by simp)) (hy y (by simp)) h.1, map_u8_inj (fun a ha => hx a (by simp [ha])) (fun a ha => hy a (by simp [ha])) h.2]
/-- Two strings of bytes are equal if the bytes are. -/
theorem bstr_eq {xs ys : List Int} (hx : ∀ x ∈ xs, 0 ≤ x ∧ x ≤ 255) (hy : ∀ y ∈ ys, 0 ≤ y ∧ y ≤ 255) : ((bstr xs).toList == (bstr ys).toList) = decide (xs = ys) := by
  rw [Bool.eq_iff_iff, beq_iff_eq, decide_eq_true_iff, bstr_toList, bstr_toList]
  exact ⟨map_u8_inj hx hy, fun h => by rw [h]⟩
theorem encD_byte (r : Int) : ∀ x ∈ encD r, 0 ≤ x ∧ x ≤ 255 := by
  intro x hx
  unfold encD at hx
  split at hx
  · cases hx
  split at hx
  · simp at hx; omega
  split at hx
  · simp at hx; rcases hx with rfl | rfl <;> omega
  split at hx
  · simp at hx; rcases hx with rfl | rfl | rfl <;> omega
  · simp at hx; rcases hx with rfl | rfl | rfl | rfl <;> omega
theorem runeSz0 {xs : List Int} (h : runeSz xs = 0) : ((runeVal xs, ((runeSz xs : Nat) : Int)) : Int × Int) = (-1, 0) := by
  unfold runeVal; rw [h]; rfl
theorem runeVal1 {xs : List Int} (h : runeSz xs = 1) : runeVal xs = xs.getD 0 0 := by
  unfold runeVal; rw [h, if_neg (by omega), if_pos rfl]
theorem runeVal2 {xs : List Int} (h : runeSz xs = 2) : runeVal xs = 64 * (xs.getD 0 0 - 192) + xs.getD 1 0 - 128 := by
  unfold runeVal; rw [h, if_neg (by omega), if_neg (by omega), if_pos rfl]
theorem runeVal3 {xs : List Int} (h : runeSz xs = 3) : runeVal xs = 64 * (64 * (xs.getD 0 0 - 224) + xs.getD 1 0 - 128) + xs.getD 2 0 - 128 := by
  unfold runeVal; rw [h, if_neg (by omega), if_neg (by omega), if_neg (by omega), if_pos rfl]
theorem runeVal4 {xs : List Int} (h : runeSz xs = 4) : runeVal xs = 64 * (64 * (64 * (xs.getD 0 0 - 240) + xs.getD 1 0 - 128) + xs.getD 2 0 - 128) + xs.getD 3 0 - 128 := by
  unfold runeVal; rw [h, if_neg (by omega), if_neg (by omega), if_neg (by omega), if_neg (by omega)]
theorem dec1 {b : Int} {t : List Int} (h0 : 0 ≤ b) (h : b < 192) : (if encD b = [b] then (b, (1 : Int)) else (-1, 0)) = (runeVal (b :: t), ((runeSz (b :: t) : Nat) : Int)) := by
  have e : runeSz (b :: t) = if b < 128 then 1 else 0 := by
    unfold runeSz
    rw [if_neg (by simp)]
    show (if b < 128 then 1 else if b < 194 then 0 else _) = _
    by_cases c : b < 128
    · rw [if_pos c, if_pos c]
    · rw [if_neg c, if_neg c, if_pos (by omega)]
  by_cases c : b < 128
  · rw [if_pos c] at e
    rw [runeVal1 e, e, if_pos (by unfold encD; rw [if_neg (by omega), if_pos c])]; rfl
  · rw [if_neg c] at e
    rw [runeSz0 e, if_neg]
    unfold encD
    rw [if_neg (by omega), if_neg c, if_pos (by omega)]
    simp
theorem dec2 {a b : Int} {t : List Int} (h0 : 192 ≤ a) (h : a < 224) (hb : 0 ≤ b ∧ b ≤ 255) : (if encD (64 * (a - 192) + b - 128) = [a, b] then (64 * (a - 192) + b - 128, (2 : Int)) else (-1, 0)) = (runeVal (a :: b :: t), ((runeSz (a :: b :: t) : Nat) : Int)) := by
  have e : runeSz (a :: b :: t) = if 194 ≤ a ∧ 128 ≤ b ∧ b ≤ 191 then 2 else 0 := by
    unfold runeSz
    rw [if_neg (by simp)]
    show (if a < 128 then 1 else if a < 194 then 0 else if a < 224 then (if 2 ≤ (a :: b :: t).length ∧ 128 ≤ b ∧ b ≤ 191 then 2 else 0) else _) = _
    rw [if_neg (by omega)]
    by_cases c : a < 194
    · rw [if_pos c, if_neg (by omega)]
    · rw [if_neg c, if_pos h]
      by_cases c2 : 128 ≤ b ∧ b ≤ 191
      · rw [if_pos ⟨by simp, c2⟩, if_pos ⟨by omega, c2⟩]
      · rw [if_neg (fun h => c2 h.2), if_neg (fun h => c2 h.2)]
  by_cases c : 194 ≤ a ∧ 128 ≤ b ∧ b ≤ 191
  · rw [if_pos c] at e
    rw [runeVal2 e, e, if_pos]; rfl
    unfold encD
    rw [if_neg (by omega), if_neg (by omega), if_pos (by omega)]
    congr 1
    · omega
    · congr 1; omega
  · rw [if_neg c] at e
    rw [runeSz0 e, if_neg]
    intro he
    unfold encD at he
    split at he
    · cases he
    split at he
    · simp at he
    split at he
    · simp only [List.cons.injEq, and_true] at he; omega
    split at he
    · simp at he
    · simp at he
theorem dec3 {a b d : Int} {t : List Int} (h0 : 224 ≤ a) (h : a < 240) (hb : 0 ≤ b ∧ b ≤ 255) (hd : 0 ≤ d ∧ d ≤ 255) : (if encD (64 * (64 * (a - 224) + b - 128) + d - 128) = [a, b, d] then (64 * (64 * (a - 224) + b - 128) + d - 128, (3 : Int)) else (-1, 0)) = (runeVal (a :: b :: d :: t), ((runeSz (a :: b :: d :: t) : Nat) : Int)) := by
  have e : runeSz (a :: b :: d :: t) = if lo3 a ≤ b ∧ b ≤ hi3 a ∧ 128 ≤ d ∧ d ≤ 191 then 3 else 0 := by
    unfold runeSz
    rw [if_neg (by simp)]
    show (if a < 128 then 1 else if a < 194 then 0 else if a < 224 then _ else if a < 240 then (if 3 ≤ (a :: b :: d :: t).length ∧ lo3 a ≤ b ∧ b ≤ hi3 a ∧ 128 ≤ d ∧ d ≤ 191 then 3 else 0) else _) = _
    rw [if_neg (by omega), if_neg (by omega), if_neg (by omega), if_pos h]
    by_cases c2 : lo3 a ≤ b ∧ b ≤ hi3 a ∧ 128 ≤ d ∧ d ≤ 191
    · rw [if_pos ⟨by simp, c2⟩, if_pos c2]
    · rw [if_neg (fun h => c2 h.2), if_neg c2]
  by_cases c : lo3 a ≤ b ∧ b ≤ hi3 a ∧ 128 ≤ d ∧ d ≤ 191
  · rw [if_pos c] at e
    have hlh : 128 ≤ b ∧ b ≤ 191 ∧ (a = 224 → 160 ≤ b) ∧ (a = 237 → b ≤ 159) := by
      unfold lo3 hi3 at c
      split at c <;> split at c <;> omega
    rw [runeVal3 e, e, if_pos]; rfl
    unfold encD
    rw [if_neg (by omega), if_neg (by omega), if_neg (by omega), if_pos (by omega)]
    congr 1
    · omega
    · congr 1
      · omega
      · congr 1; omega
  · rw [if_neg c] at e
    rw [runeSz0 e, if_neg]
    intro he
    unfold encD at he
    split at he
    · cases he
    split at he
    · simp at he
    split at he
    · simp at he
    split at he
    · simp only [List.cons.injEq, and_true] at he
      apply c
      unfold lo3 hi3
      split <;> split <;> omega
    · simp at he
theorem dec4 {a b d f : Int} {t : List Int} (h0 : 240 ≤ a) (h : a ≤ 255) (hb : 0 ≤ b ∧ b ≤ 255) (hd : 0 ≤ d ∧ d ≤ 255) (hf : 0 ≤ f ∧ f ≤ 255) : (if encD (64 * (64 * (64 * (a - 240) + b - 128) + d - 128) + f - 128) = [a, b, d, f] then (64 * (64 * (64 * (a - 240) + b - 128) + d - 128) + f - 128, (4 : Int)) else (-1, 0)) = (runeVal (a :: b :: d :: f :: t), ((runeSz (a :: b :: d :: f :: t) : Nat) : Int)) := by
  have e : runeSz (a :: b :: d :: f :: t) = if a < 245 ∧ lo4 a ≤ b ∧ b ≤ hi4 a ∧ 128 ≤ d ∧ d ≤ 191 ∧ 128 ≤ f ∧ f ≤ 191 then 4 else 0 := by
    unfold runeSz
    rw [if_neg (by simp)]
    show (if a < 128 then 1 else if a < 194 then 0 else if a < 224 then _ else if a < 240 then _ else if a < 245 then (if 4 ≤ (a :: b :: d :: f :: t).length ∧ lo4 a ≤ b ∧ b ≤ hi4 a ∧ 128 ≤ d ∧ d ≤ 191 ∧ 128 ≤ f ∧ f ≤ 191 then 4 else 0) else 0) = _
    rw [if_neg (by omega), if_neg (by omega), if_neg (by omega), if_neg (by omega)]
    by_cases c1 : a < 245
    · rw [if_pos c1]
      by_cases c2 : lo4 a ≤ b ∧ b ≤ hi4 a ∧ 128 ≤ d ∧ d ≤ 191 ∧ 128 ≤ f ∧ f ≤ 191
      · rw [if_pos ⟨by simp, c2⟩, if_pos ⟨c1, c2⟩]
      · rw [if_neg (fun h => c2 h.2), if_neg (fun h => c2 h.2)]
    · rw [if_neg c1, if_neg (fun h => c1 h.1)]
  by_cases c : a < 245 ∧ lo4 a ≤ b ∧ b ≤ hi4 a ∧ 128 ≤ d ∧ d ≤ 191 ∧ 128 ≤ f ∧ f ≤ 191
  · rw [if_pos c] at e
    have hlh : 128 ≤ b ∧ b ≤ 191 ∧ (a = 240 → 144 ≤ b) ∧ (a = 244 → b ≤ 143) := by
      unfold lo4 hi4 at c
      split at c <;> split at c <;> omega
    rw [runeVal4 e, e, if_pos]; rfl
    unfold encD
    rw [if_neg (by omega), if_neg (by omega), if_neg (by omega), if_neg (by omega)]
    congr 1
    · omega
    · congr 1
      · omega
      · congr 1
        · omega
        · congr 1; omega
  · rw [if_neg c] at e
    rw [runeSz0 e, if_neg]
    intro he
    unfold encD at he
    split at he
    · cases he
    split at he
    · simp at he
    split at he
    · simp at he
    split at he
    · simp at he
    · simp only [List.cons.injEq, and_true] at he
      apply c
      unfold lo4 hi4
      split <;> split <;> omega
theorem short4 {xs : List Int} (h : 240 ≤ xs.getD 0 0) (hl : xs.length < 4) : runeSz xs = 0 := by
  unfold runeSz; repeat' split
  all_goals omega
theorem short3 {xs : List Int} (h : 224 ≤ xs.getD 0 0) (h2 : xs.getD 0 0 < 240) (hl : xs.length < 3) : runeSz xs = 0 := by
  unfold runeSz; repeat' split
  all_goals omega
theorem short2 {xs : List Int} (h : 192 ≤ xs.getD 0 0) (h2 : xs.getD 0 0 < 224) (hl : xs.length < 2) : runeSz xs = 0 := by
  unfold runeSz; repeat' split
  all_goals omega
def inD (d : List Int) (k : Int) : Bool := decide (0 ≤ k) && decide (k < ((d.length : Nat) : Int))
def szAt (d : List Int) (k : Int) : Int := bif inD d k then ((runeSz (d.drop k.toNat) : Nat) : Int) else 0
def valAt (d : List Int) (k : Int) : Int := bif inD d k then runeVal (d.drop k.toNat) else -1
theorem szAt_in {d : List Int} {k : Int} (h0 : 0 ≤ k) (h1 : k < ((d.length : Nat) : Int)) : szAt d k = ((runeSz (d.drop k.toNat) : Nat) : Int) := by
  unfold szAt inD; rw [decide_eq_true h0, decide_eq_true h1]; rfl
/-- The starts of the runes, from here on. -/
def starts (xs : List Int) (k : Int) : List Int := if h : runeSz xs = 0 then [] else k :: starts (xs.drop (runeSz xs)) (k + (runeSz xs : Nat))
termination_by xs.length
decreasing_by
  have := runeSz_le xs
  simp; omega
theorem starts_stop {xs : List Int} (h : runeSz xs = 0) (k : Int) : starts xs k = [] := by unfold starts; rw [dif_pos h]
theorem starts_step {xs : List Int} (h : runeSz xs ≠ 0) (k : Int) : starts xs k = k :: starts (xs.drop (runeSz xs)) (k + (runeSz xs : Nat)) := by
  conv => lhs; unfold starts
  rw [dif_neg h]
theorem valid_cases {xs : List Int} (h : valid xs = true) : xs = [] ∨ runeSz xs ≠ 0 ∧ valid (xs.drop (runeSz xs)) = true := by
  by_cases e : runeSz xs = 0
  · left
    cases xs with
    | nil => rfl
    | cons a l => rw [valid_stop e (by simp)] at h; cases h
  · right; exact ⟨e, by rw [← valid_step e]; exact h⟩
theorem bounds_starts : ∀ (n : Nat) (xs : List Int) (k : Int), xs.length ≤ n → valid xs = true → bounds xs k = starts xs k ++ [k + (xs.length : Nat)]
  | n, xs, k, hn, hv => by
    rcases valid_cases hv with rfl | ⟨h, hv'⟩
    · rw [bounds_stop (by rfl), starts_stop (by rfl)]; simp
    · have hle := runeSz_le xs
      cases n with
      | zero => omega
      | succ n =>
        rw [bounds_step h, starts_step h, bounds_starts n _ _ (by simp; omega) hv', List.cons_append, List.length_drop]
        congr 3; omega
  termination_by n => n
theorem starts_len : ∀ (n : Nat) (xs : List Int) (k : Int), xs.length ≤ n → (starts xs k).length ≤ xs.length
  | n, xs, k, hn => by
    by_cases h : runeSz xs = 0
    · rw [starts_stop h]; simp
    · have hle := runeSz_le xs
      cases n with
      | zero => omega
      | succ n =>
        rw [starts_step h]
        have := starts_len n (xs.drop (runeSz xs)) (k + (runeSz xs : Nat)) (by simp; omega)
        simp at this ⊢; omega
  termination_by n => n
theorem textOk_iff {xs : List Int} : textOk xs = true ↔ xs.length ≤ 400 ∧ valid xs = true := by
  unfold textOk; rw [Bool.and_eq_true]
  exact ⟨fun h => ⟨Nat.le_of_ble_eq_true h.1, h.2⟩, fun h => ⟨Nat.ble_eq_true_of_le h.1, h.2⟩⟩
end Go.Ev
end
section
/- Edits of texts, as lists of numbers. -/
set_option linter.unusedVariables false
namespace Go.Ev
open Go.RowKit
abbrev E3 : Type := Int × Int × List Int
theorem isCutD_range {t : List Int} {k : Int} (h : isCutD t k = true) : 0 ≤ k ∧ k ≤ ((t.length : Nat) : Int) := by
  unfold isCutD at h
  rw [Bool.or_eq_true, beq_iff_eq, Bool.and_eq_true, Bool.and_eq_true, decide_eq_true_iff, decide_eq_true_iff] at h
  omega
def editOkD (t : List Int) (e : E3) : Bool :=
  textOk t && isCutD t e.1 && decide (0 ≤ e.2.1) && decide (e.2.1 ≤ ((t.length : Nat) : Int) - e.1) && isCutD t (e.1 + e.2.1) && textOk e.2.2 && decide (((t.length : Nat) : Int) - e.2.1 + ((e.2.2.length : Nat) : Int) ≤ 400)
def doD (e : E3) (t : List Int) : List Int := t.take e.1.toNat ++ e.2.2 ++ t.drop (e.1 + e.2.1).toNat
theorem textOk_len {t : List Int} (h : textOk t = true) : t.length ≤ 400 := (textOk_iff.1 h).1
structure EditOk (t : List Int) (e : E3) : Prop where
  tx : textOk t = true
  a : isCutD t e.1 = true
  c0 : 0 ≤ e.2.1
  c1 : e.2.1 ≤ ((t.length : Nat) : Int) - e.1
  b : isCutD t (e.1 + e.2.1) = true
  p : textOk e.2.2 = true
  l : ((t.length : Nat) : Int) - e.2.1 + ((e.2.2.length : Nat) : Int) ≤ 400
theorem editOkD_iff {t : List Int} {e : E3} : editOkD t e = true ↔ EditOk t e := by
  unfold editOkD
  simp only [Bool.and_eq_true, decide_eq_true_eq]
  exact ⟨fun ⟨⟨⟨⟨⟨⟨h1, h2⟩, h3⟩, h4⟩, h5⟩, h6⟩, h7⟩ => ⟨h1, h2, h3, h4, h5, h6, h7⟩, fun h => ⟨⟨⟨⟨⟨⟨h.tx, h.a⟩, h.c0⟩, h.c1⟩, h.b⟩, h.p⟩, h.l⟩⟩
theorem doD_len {t : List Int} {e : E3} (h0 : 0 ≤ e.1) (h1 : 0 ≤ e.2.1) (h2 : e.1 + e.2.1 ≤ ((t.length : Nat) : Int)) : (((doD e t).length : Nat) : Int) = ((t.length : Nat) : Int) - e.2.1 + ((e.2.2.length : Nat) : Int) := by
  unfold doD
  simp only [List.length_append, List.length_take, List.length_drop]
  omega
def editDoD (t : List Int) (e : E3) : List Int := bif editOkD t e then doD e t else []
theorem editDoD_len (t : List Int) (e : E3) : (editDoD t e).length ≤ 400 := by
  unfold editDoD
  cases h : editOkD t e with
  | false => simp
  | true =>
    have q := editOkD_iff.1 h
    have r := isCutD_range q.a
    have r2 := isCutD_range q.b
    have := doD_len r.1 q.c0 r2.2
    have := q.l
    simp only [cond_true]; omega
theorem fitB_doD {t : List Int} {e : E3} (h1 : fitB t = true) (h2 : fitB e.2.2 = true) (hl : (doD e t).length ≤ 1048576) : fitB (doD e t) = true :=
  fitB_of hl (fun x hx => by
    unfold doD at hx
    rcases List.mem_append.1 hx with hx | hx
    · rcases List.mem_append.1 hx with hx | hx
      · exact fitB_mem h1 (List.mem_of_mem_take hx)
      · exact fitB_mem h2 hx
    · exact fitB_mem h1 (List.mem_of_mem_drop hx))
theorem fitB_nil : fitB [] = true := rfl
theorem fitB_editDoD {t : List Int} {e : E3} (h1 : fitB t = true) (h2 : fitB e.2.2 = true) : fitB (editDoD t e) = true := by
  have hl := editDoD_len t e
  unfold editDoD at hl ⊢
  cases h : editOkD t e with
  | false => rfl
  | true => rw [h] at hl; exact fitB_doD h1 h2 (by simpa using Nat.le_trans hl (by omega))
/-- One after the other, as long as they are valid: the text, how many. -/
def editsDoL : List E3 → List Int → Nat → List Int × Nat
  | [], t, n => (t, n)
  | e :: es, t, n => bif editOkD t e then editsDoL es (doD e t) (n + 1) else (t, n)
def editsDoD (t : List Int) (l : List E3) : List Int × Int := bif textOk t then ((editsDoL l t 0).1, (((editsDoL l t 0).2 : Nat) : Int)) else ([], -1)
theorem editsDoL_len : ∀ (l : List E3) (t : List Int) (n : Nat), t.length ≤ 400 → (editsDoL l t n).1.length ≤ 400
  | [], t, n, h => h
  | e :: l, t, n, h => by
    simp only [editsDoL]
    cases he : editOkD t e with
    | false => exact h
    | true =>
      have := editDoD_len t e
      unfold editDoD at this
      rw [he] at this
      exact editsDoL_len l (doD e t) (n + 1) this
theorem editsDoD_len (t : List Int) (l : List E3) : (editsDoD t l).1.length ≤ 400 := by
  unfold editsDoD
  cases ht : textOk t with
  | false => exact Nat.zero_le _
  | true => exact editsDoL_len l t 0 (textOk_len ht)
end Go.Ev
end
section
/- Requests and replies, as numbers and lists. -/
set_option linter.unusedVariables false
namespace Go.Ev
open Go.RowKit
def isWordD (n : Int) : Bool := decide (0 ≤ n) && decide (n ≤ 65535)
def wordD (n : Int) : List Int := [n / 256, n % 256]
theorem isWordD_iff {n : Int} : isWordD n = true ↔ 0 ≤ n ∧ n ≤ 65535 := by unfold isWordD; rw [Bool.and_eq_true, decide_eq_true_iff, decide_eq_true_iff]
theorem wrap8_mod (n : Int) : IntKind.u8.wrap n = n % 256 := by
  simp only [IntKind.wrap, IntKind.bits, IntKind.signed]; simp
theorem shr8 (n : Int) : shrI .i64 n 8 = n / 256 := by
  unfold shrI
  show Int.fdiv n (2 ^ 8) = _
  rw [Int.fdiv_eq_ediv_of_nonneg _ (by decide)]; rfl
theorem wordD_fit {n : Int} (h : isWordD n = true) : ∀ x ∈ wordD n, 0 ≤ x ∧ x ≤ 255 := by
  have := isWordD_iff.1 h
  intro x hx
  simp only [wordD, List.mem_cons, List.not_mem_nil, or_false] at hx
  rcases hx with rfl | rfl <;> omega
theorem bifK {K : Ret → Option Ret} (p u v : Bool) : (bif p then K ((.s (.bool u)), []) else K ((.s (.bool v)), [])) = K ((.s (.bool (bif p then u else v))), []) := by cases p <;> rfl
theorem kinds {k : Int} (h1 : 1 ≤ k) (h2 : k ≤ 16) : k = 1 ∨ k = 2 ∨ k = 3 ∨ k = 4 ∨ k = 5 ∨ k = 6 ∨ k = 7 ∨ k = 8 ∨ k = 9 ∨ k = 10 ∨ k = 11 ∨ k = 12 ∨ k = 13 ∨ k = 14 ∨ k = 15 ∨ k = 16 := by omega
abbrev P4 : Type := Int × Int × Int × List Int
def replyOkD (r : P4) : Bool := decide (0 ≤ r.1) && decide (r.1 ≤ 10) && isWordD r.2.1 && isWordD r.2.2.1 && textOk r.2.2.2 && (r.1 == 0 || r.2.1 == 0 && r.2.2.1 == 0 && (((r.2.2.2.length : Nat) : Int) == 0))
def replyBytesD (r : P4) : List Int := bif replyOkD r then [r.1] ++ wordD r.2.1 ++ wordD r.2.2.1 ++ wordD ((r.2.2.2.length : Nat) : Int) ++ r.2.2.2 else []
theorem replyBytesD_len (r : P4) : (replyBytesD r).length ≤ 407 := by
  unfold replyBytesD
  cases h : replyOkD r with
  | false => simp
  | true =>
    unfold replyOkD at h
    simp only [Bool.and_eq_true] at h
    have := (textOk_iff.1 h.1.2).1
    simp [wordD]; omega
/-- How many numbers a kind of request has. -/
def usedD (k : Int) : Int := bif k == 3 || k == 7 || k == 8 || k == 9 then 1 else bif k == 4 || k == 5 || k == 6 || k == 10 || k == 11 || k == 14 then 2 else bif k == 12 || k == 13 then 3 else 0
abbrev P6 : Type := Int × Int × Int × Int × Int × List Int
def reqKindD (k n : Int) : Bool := bif k == 3 || k == 5 then true else bif k == 7 || k == 8 then decide (n > 0) else !decide (n > 0)
def reqOkD (r : P6) : Bool := decide (1 ≤ r.1) && decide (r.1 ≤ 16) && (decide (1 ≤ r.2.1) && decide (r.2.1 ≤ 8)) && (decide (((r.2.2.2.2.2.length : Nat) : Int) ≤ 100) && textOk r.2.2.2.2.2) &&
  isWordD r.2.2.1 && isWordD r.2.2.2.1 && isWordD r.2.2.2.2.1 && ((decide (0 < usedD r.1) || r.2.2.1 == 0) && (decide (1 < usedD r.1) || r.2.2.2.1 == 0) && (decide (2 < usedD r.1) || r.2.2.2.2.1 == 0) && reqKindD r.1 ((r.2.2.2.2.2.length : Nat) : Int))
def reqBytesL (r : P6) : List Int := [r.1, r.2.1] ++ wordD r.2.2.1 ++ wordD r.2.2.2.1 ++ wordD r.2.2.2.2.1 ++ [((r.2.2.2.2.2.length : Nat) : Int)] ++ r.2.2.2.2.2
def reqBytesD (r : P6) : List Int := bif reqOkD r then reqBytesL r else []
/-- The text that a document starts with. -/
def startD (t : List Int) : List Int := bif textOk t then t else []
def docNewD {α β γ : Type} (t : List Int) : List Int × List Int × List α × Int × List β × List γ := (startD t, startD t, [], 0, [], [])
theorem startD_len (t : List Int) : (startD t).length ≤ 400 := by
  unfold startD
  cases h : textOk t with
  | false => exact Nat.zero_le _
  | true => exact (textOk_iff.1 h).1
theorem reqOkD_q {r : P6} (h : reqOkD r = true) : 0 ≤ r.1 ∧ r.1 < 256 ∧ 0 ≤ r.2.1 ∧ r.2.1 < 256 ∧ ((r.2.2.2.2.2.length : Nat) : Int) ≤ 100 ∧ isWordD r.2.2.1 = true ∧ isWordD r.2.2.2.1 = true ∧ isWordD r.2.2.2.2.1 = true := by
  unfold reqOkD at h
  simp only [Bool.and_eq_true, decide_eq_true_eq] at h
  obtain ⟨⟨⟨⟨⟨⟨⟨h1, h2⟩, h3⟩, h4⟩, h5⟩, h6⟩, h7⟩, _⟩ := h
  exact ⟨by omega, by omega, by omega, by omega, h4.1, h5, h6, h7⟩
theorem reqBytesD_len (r : P6) : (reqBytesD r).length ≤ 109 := by
  unfold reqBytesD
  cases h : reqOkD r with
  | false => exact Nat.zero_le _
  | true =>
    have := (reqOkD_q h).2.2.2.2.1
    simp [reqBytesL, wordD]; omega
def reqEqD (r o : P6) : Bool := (r.1 == o.1) && (r.2.1 == o.2.1) && (r.2.2.1 == o.2.2.1) && (r.2.2.2.1 == o.2.2.2.1) && (r.2.2.2.2.1 == o.2.2.2.2.1) && decide (r.2.2.2.2.2 = o.2.2.2.2.2)
abbrev P9 : Type := Int × Int × Int × P6
def actOkD (a : P9) : Bool := bif a.1 == 1 then (a.2.1 == 0) && decide (a.2.2.1 ≥ 0) && reqOkD a.2.2.2 else bif a.1 == 2 then decide (a.2.1 ≥ 1) && decide (a.2.1 ≤ 1000) && (a.2.2.1 == 0) && reqEqD a.2.2.2 (0, 0, 0, 0, 0, []) else false
theorem len0 (t : List Int) : (((t.length : Nat) : Int) == 0) = decide (t = []) := by
  cases t with
  | nil => rfl
  | cons x t =>
    rw [decide_eq_false (by simp)]
    exact beq_false_of_ne (by simp only [List.length_cons]; omega)
def atD (d : List Int) (k : Int) : Int := 256 * d.getD k.toNat 0 + d.getD (k.toNat + 1) 0
theorem bor_word {a b : Nat} (ha : a < 256) (hb : b < 256) : bor .i64 (shlI .i64 (a : Int) 8) (b : Int) = ((256 * a + b : Nat) : Int) := by
  have e : shlI .i64 (a : Int) 8 = ((a * 256 : Nat) : Int) := by
    unfold shlI
    show IntKind.i64.wrap ((a : Int) * 2 ^ 8) = _
    rw [wrap_in (by omega) (by omega)]; omega
  rw [e]
  unfold bor
  rw [BitVec.toNat_or]
  have h1 : (BitVec.ofInt IntKind.i64.bits ((a * 256 : Nat) : Int)).toNat = a * 256 := by
    rw [BitVec.ofInt_natCast, BitVec.toNat_ofNat]
    exact Nat.mod_eq_of_lt (show a * 256 < 2 ^ 64 by omega)
  have h2 : (BitVec.ofInt IntKind.i64.bits (b : Int)).toNat = b := by
    rw [BitVec.ofInt_natCast, BitVec.toNat_ofNat]
    exact Nat.mod_eq_of_lt (show b < 2 ^ 64 by omega)
  rw [h1, h2]
  have h3 : a * 256 ||| b = a * 256 + b := by
    have := Nat.shiftLeft_add_eq_or_of_lt (i := 8) (b := b) hb a
    rw [Nat.shiftLeft_eq] at this
    exact this.symm
  rw [h3, wrap_in (by omega) (by omega)]; omega
theorem fitB_getD {d : List Int} (h : fitB d = true) (i : Nat) : 0 ≤ d.getD i 0 ∧ d.getD i 0 ≤ 255 := by
  by_cases hi : i < d.length
  · have e : d.getD i 0 = d[i] := by rw [List.getD_eq_getElem?_getD, List.getElem?_eq_getElem hi]; rfl
    rw [e]; exact fitB_mem h (List.getElem_mem hi)
  · have e : d.getD i 0 = 0 := by rw [List.getD_eq_getElem?_getD, List.getElem?_eq_none (by omega)]; rfl
    rw [e]; exact ⟨by omega, by omega⟩
/-- The request that lies in the bytes. -/
def reqOf (d : List Int) : P6 := (d.getD 0 0, d.getD 1 0, atD d 2, atD d 4, atD d 6, d.drop 9)
def reqParseD (d : List Int) : P6 × Bool := bif decide (((d.length : Nat) : Int) < 9) then ((0, 0, 0, 0, 0, []), false) else
  bif reqOkD (reqOf d) && decide (((d.length : Nat) : Int) = 9 + d.getD 8 0) then (reqOf d, true) else ((0, 0, 0, 0, 0, []), false)
theorem wordD_at {x y : Int} (hy : 0 ≤ y ∧ y ≤ 255) : wordD (256 * x + y) = [x, y] := by
  unfold wordD
  rw [show (256 * x + y) / 256 = x by omega, show (256 * x + y) % 256 = y by omega]
theorem parse_eq : ∀ (d : List Int), fitB d = true → 9 ≤ d.length → decide (reqBytesL (reqOf d) = d) = decide (((d.length : Nat) : Int) = 9 + d.getD 8 0)
  | a0 :: a1 :: a2 :: a3 :: a4 :: a5 :: a6 :: a7 :: a8 :: t, h, _ => by
    have f : ∀ x ∈ (a0 :: a1 :: a2 :: a3 :: a4 :: a5 :: a6 :: a7 :: a8 :: t), 0 ≤ x ∧ x ≤ 255 := fun x hx => fitB_mem h hx
    have e : reqBytesL (reqOf (a0 :: a1 :: a2 :: a3 :: a4 :: a5 :: a6 :: a7 :: a8 :: t)) = a0 :: a1 :: a2 :: a3 :: a4 :: a5 :: a6 :: a7 :: ((t.length : Nat) : Int) :: t := by
      show [a0, a1] ++ wordD (256 * a2 + a3) ++ wordD (256 * a4 + a5) ++ wordD (256 * a6 + a7) ++ [((t.length : Nat) : Int)] ++ t = _
      rw [wordD_at (f a3 (by simp)), wordD_at (f a5 (by simp)), wordD_at (f a7 (by simp))]; rfl
    rw [e]
    apply decide_eq_decide.2
    show _ ↔ (((t.length + 1 + 1 + 1 + 1 + 1 + 1 + 1 + 1 + 1 : Nat)) : Int) = 9 + a8
    simp only [List.cons.injEq, true_and, and_true]
    omega
  | [], _, h | [_], _, h | [_, _], _, h | [_, _, _], _, h | [_, _, _, _], _, h | [_, _, _, _, _], _, h | [_, _, _, _, _, _], _, h | [_, _, _, _, _, _, _], _, h | [_, _, _, _, _, _, _, _], _, h => absurd h (by simp)
theorem fitB_reqBytesL {r : P6} (h : fitB r.2.2.2.2.2 = true) (hk : reqOkD r = true) : ∀ x ∈ reqBytesL r, 0 ≤ x ∧ x ≤ 255 := by
  obtain ⟨a0, a1, s0, s1, l1, q1, q2, q3⟩ := reqOkD_q hk
  intro x hx
  unfold reqBytesL at hx
  simp only [List.mem_append, List.mem_cons, List.not_mem_nil, or_false] at hx
  rcases hx with ((((( rfl | rfl) | hx) | hx) | hx) | rfl) | hx
  · omega
  · omega
  · exact wordD_fit q1 x hx
  · exact wordD_fit q2 x hx
  · exact wordD_fit q3 x hx
  · omega
  · exact fitB_mem h hx
end Go.Ev
end
section
/- Loops over lists, by index. -/
set_option linter.unusedVariables false
namespace Go.Ev
section
variable {α β ρ : Type}
theorem getD_lt {xs : List α} {i : Nat} (z : α) (h : i < xs.length) : xs.getD i z = xs[i] := by
  rw [List.getD_eq_getElem?_getD, List.getElem?_eq_getElem h]; rfl
theorem idx_find {R : Nat → Int → ρ} {p : α → Bool} {kt : ρ} {kf : Int → ρ} {xs : List α} {z : α}
    (hs : ∀ m (i : Nat), i < xs.length → R (m + 1) i = bif p (xs.getD i z) then kf i else R m ((i + 1 : Nat) : Int))
    (he : ∀ m, R (m + 1) (xs.length : Nat) = kt) : ∀ (m i : Nat), i ≤ xs.length → xs.length - i < m → R m i = (match (xs.drop i).findIdx? p with
      | some j => kf ((i + j : Nat) : Int)
      | none => kt)
  | 0, i, _, h => absurd h (by omega)
  | m + 1, i, hi, hm => by
    by_cases h : i < xs.length
    · rw [hs m i h, getD_lt z h, List.drop_eq_getElem_cons h, List.findIdx?_cons]
      cases hp : p xs[i] with
      | true => simp
      | false =>
        rw [cond_false, idx_find hs he m (i + 1) (by omega) (by omega)]
        simp only [Bool.false_eq_true, if_false]
        cases (xs.drop (i + 1)).findIdx? p with
        | none => rfl
        | some k => show kf ((i + 1 + k : Nat) : Int) = kf ((i + (k + 1) : Nat) : Int); congr 2; omega
    · have : i = xs.length := by omega
      subst this
      rw [he m, List.drop_length]; rfl
theorem idx_all {R : Nat → Int → ρ} {p : α → Bool} {kt kf : ρ} {xs : List α} {z : α}
    (hs : ∀ m (i : Nat), i < xs.length → R (m + 1) i = bif p (xs.getD i z) then R m ((i + 1 : Nat) : Int) else kf)
    (he : ∀ m, R (m + 1) (xs.length : Nat) = kt) : ∀ (m i : Nat), i ≤ xs.length → xs.length - i < m → R m i = bif (xs.drop i).all p then kt else kf
  | 0, i, _, h => absurd h (by omega)
  | m + 1, i, hi, hm => by
    by_cases h : i < xs.length
    · rw [hs m i h, getD_lt z h, List.drop_eq_getElem_cons h, List.all_cons]
      cases hp : p xs[i] with
      | true => rw [cond_true, idx_all hs he m (i + 1) (by omega) (by omega)]; rfl
      | false => rfl
    · have : i = xs.length := by omega
      subst this
      rw [he m, List.drop_length]; rfl
theorem idx_fold {R : Nat → Int → β → ρ} {f : β → α → β} {I : Nat → β → Prop} {kt : β → ρ} {xs : List α} {z : α}
    (hs : ∀ m (i : Nat) a, i < xs.length → I i a → R (m + 1) i a = R m ((i + 1 : Nat) : Int) (f a (xs.getD i z)))
    (hI : ∀ (i : Nat) a, i < xs.length → I i a → I (i + 1) (f a (xs.getD i z)))
    (he : ∀ m a, I xs.length a → R (m + 1) (xs.length : Nat) a = kt a) : ∀ (m i : Nat) (a : β), I i a → i ≤ xs.length → xs.length - i < m → R m i a = kt ((xs.drop i).foldl f a)
  | 0, i, _, _, _, h => absurd h (by omega)
  | m + 1, i, a, ha, hi, hm => by
    by_cases h : i < xs.length
    · rw [hs m i a h ha, idx_fold hs hI he m (i + 1) _ (hI i a h ha) (by omega) (by omega), List.drop_eq_getElem_cons h, List.foldl_cons, getD_lt z h]
    · have : i = xs.length := by omega
      subst this
      rw [he m a ha, List.drop_length]; rfl
/-- A fold that may stop. -/
def foldS (f : β → α → Option β) : List α → β → Option β
  | [], a => some a
  | x :: xs, a => match f a x with
    | some b => foldS f xs b
    | none => none
theorem idx_foldS {R : Nat → Int → β → ρ} {f : β → α → Option β} {I : Nat → β → Prop} {kt : β → ρ} {kf : ρ} {xs : List α} {z : α}
    (hs : ∀ m (i : Nat) a, i < xs.length → I i a → R (m + 1) i a = (match f a (xs.getD i z) with
      | some b => R m ((i + 1 : Nat) : Int) b
      | none => kf))
    (hI : ∀ (i : Nat) a b, i < xs.length → I i a → f a (xs.getD i z) = some b → I (i + 1) b)
    (he : ∀ m a, I xs.length a → R (m + 1) (xs.length : Nat) a = kt a) : ∀ (m i : Nat) (a : β), I i a → i ≤ xs.length → xs.length - i < m → R m i a = (match foldS f (xs.drop i) a with
      | some b => kt b
      | none => kf)
  | 0, i, _, _, _, h => absurd h (by omega)
  | m + 1, i, a, ha, hi, hm => by
    by_cases h : i < xs.length
    · rw [hs m i a h ha, List.drop_eq_getElem_cons h, foldS]
      cases e : f a (xs.getD i z) with
      | none => rw [getD_lt z h] at e; rw [e]
      | some b =>
        rw [getD_lt z h] at e
        rw [e]
        exact idx_foldS hs hI he m (i + 1) b (hI i a b h ha (by rw [getD_lt z h]; exact e)) (by omega) (by omega)
    · have : i = xs.length := by omega
      subst this
      rw [he m a ha, List.drop_length]; rfl
def idxOfD (l : List Int) (k : Int) : Int := match l.findIdx? (fun c => c == k) with
  | some i => (i : Nat)
  | none => -1
theorem idxOfD_any (l : List Int) (k : Int) : decide (idxOfD l k ≥ 0) = l.any (fun c => c == k) := by
  unfold idxOfD
  cases h : l.findIdx? (fun c => c == k) with
  | none =>
    rw [List.findIdx?_eq_none_iff] at h
    rw [show l.any (fun c => c == k) = false from List.any_eq_false.2 (fun x hx => by rw [h x hx]; simp)]; rfl
  | some i =>
    rw [List.findIdx?_eq_some_iff_getElem] at h
    obtain ⟨h1, h2, _⟩ := h
    rw [show l.any (fun c => c == k) = true from List.any_eq_true.2 ⟨l[i], List.getElem_mem h1, h2⟩]
    exact decide_eq_true (show ((i : Nat) : Int) ≥ 0 by omega)
def idxF {α : Type} (p : α → Bool) (l : List α) : Int := match l.findIdx? p with
  | some i => (i : Nat)
  | none => -1
theorem idxF_any {α : Type} (p : α → Bool) (l : List α) : decide (idxF p l ≥ 0) = l.any p := by
  unfold idxF
  cases h : l.findIdx? p with
  | none =>
    rw [List.findIdx?_eq_none_iff] at h
    rw [show l.any p = false from List.any_eq_false.2 (fun x hx => by rw [h x hx]; simp)]; rfl
  | some i =>
    rw [List.findIdx?_eq_some_iff_getElem] at h
    obtain ⟨h1, h2, _⟩ := h
    rw [show l.any p = true from List.any_eq_true.2 ⟨l[i], List.getElem_mem h1, h2⟩]
    exact decide_eq_true (show ((i : Nat) : Int) ≥ 0 by omega)
end
end Go.Ev
end
section
/- Events and outputs, as numbers and lists. -/
set_option linter.unusedVariables false
namespace Go.Ev
open Go.RowKit
theorem idx_allN {ρ : Type} {R : Nat → Int → ρ} {p : Nat → Bool} {kt kf : ρ} {n : Nat}
    (hs : ∀ m (i : Nat), i < n → R (m + 1) i = bif p i then R m ((i + 1 : Nat) : Int) else kf)
    (he : ∀ m, R (m + 1) (n : Nat) = kt) : ∀ (m i : Nat), i ≤ n → n - i < m → R m i = bif (List.range' i (n - i)).all p then kt else kf
  | 0, i, _, h => absurd h (by omega)
  | m + 1, i, hi, hm => by
    by_cases h : i < n
    · rw [hs m i h, show n - i = (n - (i + 1)) + 1 by omega, List.range'_succ, List.all_cons]
      cases hp : p i with
      | true => rw [cond_true, idx_allN hs he m (i + 1) (by omega) (by omega)]; rfl
      | false => rfl
    · have : i = n := by omega
      subst this
      rw [he m, Nat.sub_self]; rfl
/-- For all numbers below n. -/
def allN (n : Nat) (p : Nat → Bool) : Bool := (List.range' 0 n).all p
theorem allN_congr {n : Nat} {p q : Nat → Bool} (h : ∀ i, i < n → p i = q i) : allN n p = allN n q := by
  unfold allN
  rw [Bool.eq_iff_iff, List.all_eq_true, List.all_eq_true]
  constructor
  · intro hh i hi
    have := hh i hi
    rw [h i (by simpa using hi)] at this; exact this
  · intro hh i hi
    have := hh i hi
    rw [← h i (by simpa using hi)] at this; exact this
theorem allN_iff {n : Nat} {p : Nat → Bool} : allN n p = true ↔ ∀ i, i < n → p i = true := by
  unfold allN
  rw [List.all_eq_true]
  constructor
  · intro h i hi; exact h i (by simpa using hi)
  · intro h i hi; exact h i (by simpa using hi)
def sessD (s : Int) : Bool := decide (1 ≤ s) && decide (s ≤ 8)
def tickD (n : Int) : Bool := decide (1 ≤ n) && decide (n ≤ 1000)
def eventOkD (e : P4) : Bool :=
  bif e.1 == 1 then decide (((e.2.2.2.length : Nat) : Int) ≤ 1000) && (e.2.1 == 0) && (e.2.2.1 == 0)
  else bif e.1 == 2 then sessD e.2.1 && (e.2.2.1 == 0) && (((e.2.2.2.length : Nat) : Int) == 0)
  else bif e.1 == 3 then tickD e.2.2.1 && (e.2.1 == 0) && (((e.2.2.2.length : Nat) : Int) == 0)
  else false
abbrev P13 : Type := Int × Int × Int × Int × Int × Int × Int × List Int × Int × P4
def outReq (o : P13) : P6 := (o.2.2.1, o.2.2.2.1, o.2.2.2.2.1, o.2.2.2.2.2.1, o.2.2.2.2.2.2.1, o.2.2.2.2.2.2.2.1)
def outRep (o : P13) : P4 := o.2.2.2.2.2.2.2.2.2
def zeroReq : P6 := (0, 0, 0, 0, 0, [])
/-- May a frame's event have this output? -/
def frameOkD (d : List Int) (o : P13) : Bool :=
  bif (reqParseD d).2 then (o.2.1 == (reqParseD d).1.2.1) && reqEqD (outReq o) (reqParseD d).1 && ((outRep o).1 == 10)
  else (o.2.1 == 0) && reqEqD (outReq o) zeroReq && ((outRep o).1 == 1)
def outOkD (e : P4) (o : P13) : Bool := replyOkD (outRep o) &&
  (bif e.1 == 2 then (o.2.1 == e.2.1) && reqOkD (outReq o) && ((outReq o).2.1 == e.2.1) else bif e.1 == 1 then frameOkD e.2.2.2 o else false)
def toldOkD (list : List P4) (told : List P13) (z : P4) (y : P13) (i : Nat) : Bool :=
  decide (0 ≤ (told.getD i y).1) && decide ((told.getD i y).1 < ((list.length : Nat) : Int)) && (Nat.beq i 0 || decide ((told.getD (i - 1) y).1 < (told.getD i y).1)) && outOkD (list.getD (told.getD i y).1.toNat z) (told.getD i y)
def eventsOkD (list : List P4) : Bool := decide (((list.length : Nat) : Int) ≤ 300) && list.all eventOkD
def zeroEv : P4 := (0, 0, 0, [])
def zeroOut : P13 := (0, 0, 0, 0, 0, 0, 0, [], 0, 0, 0, 0, [])
def outsOkD (list : List P4) (told : List P13) : Bool := eventsOkD list && decide (((told.length : Nat) : Int) ≤ ((list.length : Nat) : Int)) && allN told.length (toldOkD list told zeroEv zeroOut)
theorem fitB_parse {d : List Int} (h : fitB d = true) : fitB (reqParseD d).1.2.2.2.2.2 = true := by
  unfold reqParseD
  cases decide (((d.length : Nat) : Int) < 9) with
  | true => rfl
  | false =>
    cases (reqOkD (reqOf d) && decide (((d.length : Nat) : Int) = 9 + d.getD 8 0)) with
    | true => exact fitB_drop h 9
    | false => rfl
end Go.Ev
end
section
/- Positions, spans and edits after an edit; stacks. -/
set_option linter.unusedVariables false
namespace Go.Ev
open Go.RowKit
def in400 (n : Int) : Bool := decide (0 ≤ n) && decide (n ≤ 400)
def smallE (e : E3) : Bool := in400 e.1 && in400 e.2.1 && decide (((e.2.2.length : Nat) : Int) ≤ 400)
def placeB (p : Int) : Bool := decide (0 ≤ p) && decide (p ≤ 800)
theorem in400_iff {n : Int} : in400 n = true ↔ 0 ≤ n ∧ n ≤ 400 := by unfold in400; rw [Bool.and_eq_true, decide_eq_true_iff, decide_eq_true_iff]
theorem placeB_iff {n : Int} : placeB n = true ↔ 0 ≤ n ∧ n ≤ 800 := by unfold placeB; rw [Bool.and_eq_true, decide_eq_true_iff, decide_eq_true_iff]
theorem smallE_iff {e : E3} : smallE e = true ↔ (0 ≤ e.1 ∧ e.1 ≤ 400) ∧ (0 ≤ e.2.1 ∧ e.2.1 ≤ 400) ∧ e.2.2.length ≤ 400 := by
  unfold smallE
  rw [Bool.and_eq_true, Bool.and_eq_true, in400_iff, in400_iff, decide_eq_true_iff]
  constructor
  · rintro ⟨⟨h1, h2⟩, h3⟩; exact ⟨h1, h2, by omega⟩
  · rintro ⟨h1, h2, h3⟩; exact ⟨⟨h1, h2⟩, by omega⟩
def posD (e : E3) (p : Int) (r : Bool) : Int := bif decide (p < e.1) then p else bif (p == e.1) || decide (p < e.1 + e.2.1) then (bif r then e.1 + ((e.2.2.length : Nat) : Int) else e.1) else p - e.2.1 + ((e.2.2.length : Nat) : Int)
/-- Where a position stands, in four cases. -/
theorem posD_cases (e : E3) (p : Int) (r : Bool) : (p < e.1 ∧ posD e p r = p) ∨ (e.1 ≤ p ∧ (p = e.1 ∨ p < e.1 + e.2.1) ∧ r = true ∧ posD e p r = e.1 + ((e.2.2.length : Nat) : Int)) ∨ (e.1 ≤ p ∧ (p = e.1 ∨ p < e.1 + e.2.1) ∧ r = false ∧ posD e p r = e.1) ∨ (e.1 < p ∧ e.1 + e.2.1 ≤ p ∧ posD e p r = p - e.2.1 + ((e.2.2.length : Nat) : Int)) := by
  unfold posD
  by_cases h1 : p < e.1
  · rw [decide_eq_true h1]; exact .inl ⟨h1, rfl⟩
  · rw [decide_eq_false h1]
    by_cases h2 : p = e.1
    · rw [beq_iff_eq.2 h2]
      cases r with
      | true => exact .inr (.inl ⟨by omega, .inl h2, rfl, rfl⟩)
      | false => exact .inr (.inr (.inl ⟨by omega, .inl h2, rfl, rfl⟩))
    · rw [beq_false_of_ne h2]
      by_cases h3 : p < e.1 + e.2.1
      · rw [decide_eq_true h3]
        cases r with
        | true => exact .inr (.inl ⟨by omega, .inr h3, rfl, rfl⟩)
        | false => exact .inr (.inr (.inl ⟨by omega, .inr h3, rfl, rfl⟩))
      · rw [decide_eq_false h3]; exact .inr (.inr (.inr ⟨by omega, by omega, rfl⟩))
theorem posD_range {e : E3} {p : Int} (r : Bool) (he : smallE e = true) (hp : 0 ≤ p) : 0 ≤ posD e p r ∧ posD e p r ≤ p + 800 := by
  have h := smallE_iff.1 he
  rcases posD_cases e p r with ⟨a, b⟩ | ⟨a, b, c, d⟩ | ⟨a, b, c, d⟩ | ⟨a, b, c⟩ <;> omega
def spanD (e : E3) (i j : Int) : Int × Int := (posD e i true, bif i == j then posD e i true else max (posD e i true) (posD e j false))
def movedD (a b : E3) : E3 := (posD b a.1 true, (spanD b a.1 (a.1 + a.2.1)).2 - posD b a.1 true, a.2.2)
def badE : E3 × Bool := ((0, 0, []), false)
def moveD (a b : E3) : E3 × Bool := bif smallE a && smallE b then (movedD a b, true) else badE
/-- One after the other, as long as all are small. -/
def movesL : List E3 → E3 → E3 × Bool
  | [], e => (e, true)
  | b :: l, e => bif smallE e && smallE b then movesL l (movedD e b) else badE
def movesD (e : E3) (l : List E3) : E3 × Bool := bif smallE e then movesL l e else badE
theorem movedD_range {a b : E3} (ha : smallE a = true) (hb : smallE b = true) : 0 ≤ (movedD a b).1 ∧ (movedD a b).1 ≤ 1200 ∧ 0 ≤ (movedD a b).2.1 ∧ (movedD a b).2.1 ≤ 1600 ∧ (movedD a b).2.2 = a.2.2 := by
  have h := smallE_iff.1 ha
  have h1 := posD_range (p := a.1) true hb (by omega)
  have h2 := posD_range (p := a.1 + a.2.1) false hb (by omega)
  refine ⟨h1.1, by show posD b a.1 true ≤ 1200; omega, ?_, ?_, rfl⟩
  · show 0 ≤ (bif a.1 == a.1 + a.2.1 then posD b a.1 true else max (posD b a.1 true) (posD b (a.1 + a.2.1) false)) - posD b a.1 true
    cases (a.1 == a.1 + a.2.1) with
    | true => rw [cond_true]; omega
    | false => rw [cond_false]; omega
  · show (bif a.1 == a.1 + a.2.1 then posD b a.1 true else max (posD b a.1 true) (posD b (a.1 + a.2.1) false)) - posD b a.1 true ≤ 1600
    cases (a.1 == a.1 + a.2.1) with
    | true => rw [cond_true]; omega
    | false => rw [cond_false]; omega
/-! ### Stacks -/
abbrev ST : Type := List E3 × List E3
def okL (l : List E3) : Bool := decide (((l.length : Nat) : Int) ≤ 6) && l.all smallE
def stackOkD (s : ST) : Bool := okL s.1 && okL s.2
def stackedD (l : List E3) (e : E3) : List E3 := (l ++ [e]).drop (l.length + 1 - 6)
def sideD (s : ST) (b : Bool) : List E3 := bif b then s.2 else s.1
def zeroE : E3 := (0, 0, [])
def lastE (l : List E3) : E3 × Bool := bif Nat.beq l.length 0 then badE else (l.getD (l.length - 1) zeroE, true)
def stackTopD (s : ST) (b : Bool) : E3 × Bool := bif stackOkD s then lastE (sideD s b) else badE
def badS : ST × Bool := (([], []), false)
def turnD (s : ST) (r : Bool) (e : E3) : ST := bif r then (stackedD s.1 e, s.2.take (s.2.length - 1)) else (s.1.take (s.1.length - 1), stackedD s.2 e)
def stackTurnD (s : ST) (r : Bool) (e : E3) : ST × Bool := bif stackOkD s && smallE e && !(Nat.beq (sideD s r).length 0) then (turnD s r e, true) else badS
def movedS (s : ST) (b : E3) : ST := (s.1.map (fun e => movedD e b), s.2.map (fun e => movedD e b))
def stackMovedD (s : ST) (b : E3) : ST × Bool := bif stackOkD s && smallE b && stackOkD (movedS s b) then (movedS s b, true) else badS
theorem okL_len {l : List E3} (h : okL l = true) : l.length ≤ 6 := by
  unfold okL at h
  rw [Bool.and_eq_true, decide_eq_true_iff] at h
  omega
theorem okL_mem {l : List E3} (h : okL l = true) {e : E3} (he : e ∈ l) : smallE e = true := by
  unfold okL at h
  rw [Bool.and_eq_true, List.all_eq_true] at h
  exact h.2 e he
theorem okL_movedS (l : List E3) (b : E3) : okL (l.map (fun e => movedD e b)) = (decide (((l.length : Nat) : Int) ≤ 6) && l.all (fun e => smallE (movedD e b))) := by
  unfold okL
  rw [List.length_map, List.all_map]; rfl
end Go.Ev
end
section
/- What is known of an argument: bytes are bytes, and it is small. -/
set_option linter.unusedVariables false
namespace Go.Ev.Seat
open Go.RowKit
mutual
def fitC : (c : Cc) → c.T → Bool
  | .int .u8, n => isB n
  | .int _, _ => true
  | .bool, _ => true
  | .str, _ => true
  | .sl r, xs => Nat.ble xs.length 1048576 && xs.all (fitR r)
def fitR : (r : Rw) → r.T → Bool
  | .one c, d => fitC c d
  | .cons c r, d => fitC c d.1 && fitR r d.2
end
mutual
theorem fitC_of : (c : Cc) → (d : c.T) → c.wf d → c.lim d = true → fitC c d = true
  | .int k, n, h, _ => by
    cases k <;> simp only [fitC]
    have h' : (Lit.int .u8 n).wf = true := h
    simp only [Lit.wf, Bool.and_eq_true, decide_eq_true_eq] at h'
    have a : IntKind.u8.min = 0 := rfl
    have b : IntKind.u8.max = 255 := rfl
    rw [a, b] at h'
    simp only [isB, Bool.and_eq_true, decide_eq_true_eq]
    exact h'
  | .bool, _, _, _ => rfl
  | .str, _, _, _ => rfl
  | .sl r, xs, h, g => by
    simp only [Cc.lim, Bool.and_eq_true, List.all_eq_true] at g
    simp only [fitC, Bool.and_eq_true, List.all_eq_true]
    exact ⟨g.1, fun x hx => fitR_of r x (h.2 x hx) (g.2 x hx)⟩
theorem fitR_of : (r : Rw) → (d : r.T) → r.wf d → r.lim d = true → fitR r d = true
  | .one c, d, h, g => fitC_of c d h g
  | .cons c r, d, h, g => by
    simp only [Rw.lim, Bool.and_eq_true] at g
    simp only [fitR, Bool.and_eq_true]
    exact ⟨fitC_of c d.1 h.1 g.1, fitR_of r d.2 h.2 g.2⟩
end
theorem fitB_fit {b : List Int} (h : fitC (.sl bytesR) b = true) : fitB b = true := h
theorem fitR_snd {c : Cc} {r : Rw} {d : (Rw.cons c r).T} (h : fitR (.cons c r) d = true) : fitR r d.2 = true := ((Bool.and_eq_true _ _).mp h).2
theorem fitR_fst {c : Cc} {r : Rw} {d : (Rw.cons c r).T} (h : fitR (.cons c r) d = true) : fitC c d.1 = true := ((Bool.and_eq_true _ _).mp h).1
theorem fitC_mem {r : Rw} {l : List r.T} (h : fitC (.sl r) l = true) {x : r.T} (hx : x ∈ l) : fitR r x = true := by
  simp only [fitC, Bool.and_eq_true, List.all_eq_true] at h
  exact h.2 x hx
theorem fitC_len {r : Rw} {l : List r.T} (h : fitC (.sl r) l = true) : l.length ≤ 1048576 := by
  simp only [fitC, Bool.and_eq_true] at h
  exact Nat.le_of_ble_eq_true h.1
theorem fitC_getD {r : Rw} {l : List r.T} (h : fitC (.sl r) l = true) (hd : fitR r r.dflt = true) (k : Nat) : fitR r (l.getD k r.dflt) = true := by
  rw [List.getD_eq_getElem?_getD]
  rcases Nat.lt_or_ge k l.length with hk | hk
  · rw [List.getElem?_eq_getElem hk]; exact fitC_mem h (List.getElem_mem hk)
  · rw [List.getElem?_eq_none hk]; exact hd
theorem fit_ev {e : T_Event} (h : fitR eventR e = true) : fitB e.2.2.2 = true := fitB_fit (fitR_snd (fitR_snd (fitR_snd h)))
theorem fit_out {o : T_Out} (h : fitR outR o = true) : fitB o.2.2.2.2.2.2.2.1 = true ∧ fitB o.2.2.2.2.2.2.2.2.2.2.2.2 = true :=
  ⟨fitB_fit (fitR_fst (fitR_snd (fitR_snd (fitR_snd (fitR_snd (fitR_snd (fitR_snd (fitR_snd h)))))))), fitB_fit (fitR_snd (fitR_snd (fitR_snd (fitR_snd (fitR_snd (fitR_snd (fitR_snd (fitR_snd (fitR_snd (fitR_snd (fitR_snd (fitR_snd h))))))))))))⟩
theorem fit_edit {e : T_Edit} (h : fitR editR e = true) : fitB e.2.2 = true := fitB_fit (fitR_snd (fitR_snd h))
theorem fitC_sub {r : Rw} {l m : List r.T} (h : fitC (.sl r) l = true) (hl : m.length ≤ l.length) (hs : ∀ x ∈ m, x ∈ l) : fitC (.sl r) m = true := by
  simp only [fitC, Bool.and_eq_true, List.all_eq_true] at h ⊢
  exact ⟨Nat.ble_eq_true_of_le (Nat.le_trans hl (Nat.le_of_ble_eq_true h.1)), fun x hx => h.2 x (hs x hx)⟩
theorem fitC_take {r : Rw} {l : List r.T} (h : fitC (.sl r) l = true) (n : Nat) : fitC (.sl r) (l.take n) = true := fitC_sub h (by simp; omega) (fun _ hx => List.mem_of_mem_take hx)
theorem fitC_drop {r : Rw} {l : List r.T} (h : fitC (.sl r) l = true) (n : Nat) : fitC (.sl r) (l.drop n) = true := fitC_sub h (by simp) (fun _ hx => List.mem_of_mem_drop hx)
theorem fitC_mk {r : Rw} {l : List r.T} (hl : l.length ≤ 1048576) (hs : ∀ x ∈ l, fitR r x = true) : fitC (.sl r) l = true := by
  simp only [fitC, Bool.and_eq_true, List.all_eq_true]
  exact ⟨Nat.ble_eq_true_of_le hl, hs⟩
theorem fitC_all {r : Rw} {l : List r.T} (h : fitC (.sl r) l = true) : ∀ x ∈ l, fitR r x = true := by
  simp only [fitC, Bool.and_eq_true, List.all_eq_true] at h
  exact h.2
theorem take_snoc {α : Type} {l : List α} {i : Nat} (z : α) (hi : i < l.length) : l.take i ++ [l.getD i z] = l.take (i + 1) := by
  rw [List.take_add_one, List.getElem?_eq_getElem hi, List.getD_eq_getElem?_getD, List.getElem?_eq_getElem hi]; rfl
theorem fit_commit {c : T_Commit} (h : fitR commitR c = true) : fitB c.2.2.2 = true := fitB_fit (fitR_snd (fitR_snd (fitR_snd h)))
theorem fit_comedit {c : T_Commit} (h : fitR commitR c = true) : fitR editR c.2 = true := fitR_snd h
theorem bytes_w0 : ∀ (b : List Int), sumW (Rw.one (.int .u8)).w b = 0
  | [] => rfl
  | x :: b => by simp only [sumW, bytes_w0 b]; rfl
theorem bytes_w (b : List Int) : (Cc.sl bytesR).w b = b.length := by
  show b.length + sumW (Rw.one (.int .u8)).w b = _
  rw [bytes_w0 b]; rfl
theorem bytes_lim {b : List Int} (h : b.length ≤ 1048576) : (Cc.sl bytesR).lim b = true := by
  simp only [Cc.lim, Bool.and_eq_true, List.all_eq_true]
  exact ⟨Nat.ble_eq_true_of_le h, fun _ _ => rfl⟩
theorem lw_len {xs : List Int} {Z R : Option Ret} (h : xs.length ≤ 1048576 → R = Z) : (bif decide (((xs.length : Nat) : Int) > 1048576) then Z else R) = Z := by
  by_cases q : ((xs.length : Nat) : Int) > 1048576
  · rw [decide_eq_true q]; rfl
  · rw [decide_eq_false q]; exact h (by omega)
theorem bytes_le {b : List Int} {n : Nat} (h : b.length ≤ n) (hn : n ≤ 1099511627776) : (Cc.sl bytesR).w b ≤ 1099511627776 := by
  rw [bytes_w]; omega
theorem docNew_w (t : List Int) : docR.w (docNewD t) ≤ 1099511627776 := by
  have h := startD_len t
  show (Cc.sl bytesR).w (startD t) + ((Cc.sl bytesR).w (startD t) + 0) ≤ _
  rw [bytes_w]; omega
theorem machNew_w (t : List Int) : machR.w (startD t, startD t, [], 0, [], [], []) ≤ 1099511627776 := by
  have h := startD_len t
  show (Cc.sl bytesR).w (startD t) + ((Cc.sl bytesR).w (startD t) + 0) ≤ _
  rw [bytes_w]; omega
theorem reqParse_w {d : List Int} (h : (Cc.sl bytesR).w d ≤ 1048576) : reqR.w (reqParseD d).1 ≤ 1099511627776 := by
  rw [bytes_w] at h
  have e : ∀ r : T_Req, reqR.w r = 0 + (0 + (0 + (0 + (0 + (Cc.sl bytesR).w r.2.2.2.2.2)))) := fun _ => rfl
  have hd : (d.drop 9).length ≤ 1048576 := by simp; omega
  rw [e, bytes_w]
  unfold reqParseD
  cases decide (((d.length : Nat) : Int) < 9) with
  | true => simp
  | false =>
    cases reqOkD (reqOf d) && decide (((d.length : Nat) : Int) = 9 + d.getD 8 0) with
    | true => show 0 + (0 + (0 + (0 + (0 + (d.drop 9).length)))) ≤ _; omega
    | false => simp
end Go.Ev.Seat
end
section
/- Stacks keep the form of their data. -/
set_option linter.unusedVariables false
namespace Go.Ev.Seat
open Go.RowKit
theorem fit_stacked {l : List T_Edit} {e : T_Edit} (h1 : fitC (.sl editR) l = true) (h2 : fitR editR e = true) (h3 : l.length ≤ 6) : fitC (.sl editR) (stackedD l e) = true := by
  unfold stackedD
  refine fitC_drop (fitC_mk (by simp; omega) (fun x hx => ?_)) _
  rcases List.mem_append.1 hx with hx | hx
  · exact fitC_all h1 x hx
  · rw [List.mem_singleton.1 hx]; exact h2
theorem fit_turn {s : T_Stack} {r : Bool} {e : T_Edit} (h1 : fitR stackR s = true) (h2 : fitR editR e = true) (h3 : stackOkD s = true) : fitR stackR (turnD s r e) = true := by
  have f1 : fitC (.sl editR) s.1 = true := fitR_fst h1
  have f2 : fitC (.sl editR) s.2 = true := fitR_snd h1
  unfold stackOkD at h3
  rw [Bool.and_eq_true] at h3
  have n1 := okL_len h3.1
  have n2 := okL_len h3.2
  cases r with
  | true => exact (Bool.and_eq_true _ _).mpr ⟨fit_stacked f1 h2 n1, fitC_take f2 _⟩
  | false => exact (Bool.and_eq_true _ _).mpr ⟨fitC_take f1 _, fit_stacked f2 h2 n2⟩
theorem edit_w (e : T_Edit) : editR.w e = e.2.2.length := by
  show 0 + (0 + (Cc.sl bytesR).w e.2.2) = _
  rw [bytes_w]; omega
theorem edits_w (l : List T_Edit) : (Cc.sl editR).w l = l.length + sumW (fun e : T_Edit => e.2.2.length) l := by
  show l.length + sumW editR.w l = _
  have : ∀ l : List T_Edit, sumW editR.w l = sumW (fun e : T_Edit => e.2.2.length) l := by
    intro l
    induction l with
    | nil => rfl
    | cons x l ih => simp only [sumW, ih]; rw [edit_w]
  rw [this]
theorem edits_small_w {l : List T_Edit} {n : Nat} (hl : l.length ≤ n) (h : ∀ e ∈ l, e.2.2.length ≤ 1048576) : (Cc.sl editR).w l ≤ n + n * 1048576 := by
  rw [edits_w]
  have key : ∀ l : List T_Edit, (∀ e ∈ l, e.2.2.length ≤ 1048576) → sumW (fun e : T_Edit => e.2.2.length) l ≤ l.length * 1048576 := by
    intro l
    induction l with
    | nil => intro _; exact Nat.zero_le _
    | cons x l ih =>
      intro hh
      have a := ih fun e he => hh e (List.mem_cons_of_mem _ he)
      have b := hh x List.mem_cons_self
      simp only [sumW, List.length_cons]
      rw [Nat.succ_mul]; omega
  have := key l h
  have : l.length * 1048576 ≤ n * 1048576 := Nat.mul_le_mul_right _ hl
  omega
theorem stackTurn_w {s : T_Stack} {r : Bool} {e : T_Edit} (h1 : fitR stackR s = true) (h2 : fitR editR e = true) : stackR.w (stackTurnD s r e).1 ≤ 1099511627776 := by
  unfold stackTurnD
  cases hk : (stackOkD s && smallE e && !(Nat.beq (sideD s r).length 0)) with
  | false => exact Nat.zero_le _
  | true =>
    simp only [Bool.and_eq_true] at hk
    have h3 := hk.1.1
    have ft := fit_turn (r := r) h1 h2 h3
    have f1 : fitC (.sl editR) (turnD s r e).1 = true := fitR_fst ft
    have f2 : fitC (.sl editR) (turnD s r e).2 = true := fitR_snd ft
    unfold stackOkD at h3
    rw [Bool.and_eq_true] at h3
    have n1 := okL_len h3.1
    have n2 := okL_len h3.2
    have l1 : (turnD s r e).1.length ≤ 7 ∧ (turnD s r e).2.length ≤ 7 := by
      unfold turnD stackedD
      cases r <;> simp <;> omega
    have w1 := edits_small_w l1.1 (fun x hx => fitB_len (fit_edit (fitC_mem f1 hx)))
    have w2 := edits_small_w l1.2 (fun x hx => fitB_len (fit_edit (fitC_mem f2 hx)))
    show (Cc.sl editR).w (turnD s r e).1 + (Cc.sl editR).w (turnD s r e).2 ≤ _
    omega
end Go.Ev.Seat
end
section
/- l_big: its contract. -/
namespace Go.Ev.Seat
open Go.RowKit
set_option maxRecDepth 100000
set_option linter.unusedVariables false
set_option linter.unusedSimpArgs false
noncomputable abbrev E_l_big : Env := En [] [] [] [] false 0 []
noncomputable def T_l_big (code : List Int) (K : Ret → Option Ret) : Option Ret :=
 K ((.s (.bool (decide ((((List.length code) : Nat) : Int) > (1048576 : Int))))), [])
theorem e_l_big (code : List Int) (K : Ret → Option Ret) : evF E_l_big true F.l_big [.l .no bytesR code] K = T_l_big code K := by kernel_rfl
def S_l_big : Sm := S_fnR [.l bytesR] (fun d => true) (fun d => (bl (decide (((d.1.length : Nat) : Int) > 1048576)), []))
theorem v_l_big (code : List Int) (K : Ret → Option Ret) : T_l_big code K = K (bl (decide (((code.length : Nat) : Int) > 1048576)), []) := rfl
theorem okS_l_big : OkFn prog I N.l_big true S_l_big := okN (ok_fn mem0 (l := []) (p := []) (ls := []) (lend := []) (focus := false) (fuel := 0) (give := []) (fn := F.l_big) (by kernel_rfl) (by kernel_rfl) (by kernel_rfl) (by kernel_rfl) (cs := []) (by kernel_rfl) loops0) (S_fnR_of fun d K h => (e_l_big d.1 K).trans (v_l_big d.1 K))
end Go.Ev.Seat
end
section
/- What a drawing function answers: some result of which something holds. -/
set_option linter.unusedVariables false
namespace Go.Ev
section
variable {ρ σ : Type}
/-- Whatever goes on, it goes on with one result, of which P holds. -/
def Dr (P : ρ → Prop) (T : (ρ → σ) → σ) : Prop := ∃ r, P r ∧ ∀ K, T K = K r
variable {P : ρ → Prop}
theorem Dr.leaf {r : ρ} (h : P r) : Dr P (fun K : ρ → σ => K r) := ⟨r, h, fun _ => rfl⟩
theorem Dr.bif {c : Bool} {A B : (ρ → σ) → σ} (h1 : c = true → Dr P A) (h2 : c = false → Dr P B) : Dr P (fun K => bif c then A K else B K) := by
  cases c
  · exact h2 rfl
  · exact h1 rfl
theorem Dr.must {c : Bool} {A B : (ρ → σ) → σ} (h : c = true) (h1 : Dr P A) : Dr P (fun K => bif c then A K else B K) := Dr.bif (fun _ => h1) (fun e => by rw [h] at e; cases e)
theorem Dr.mono {Q : ρ → Prop} {A : (ρ → σ) → σ} (h : Dr P A) (hq : ∀ r, P r → Q r) : Dr Q A := by
  obtain ⟨r, h1, h2⟩ := h
  exact ⟨r, hq r h1, h2⟩
theorem Dr.eq {A B : (ρ → σ) → σ} (h : Dr P B) (e : ∀ K, A K = B K) : Dr P A := by
  obtain ⟨r, h1, h2⟩ := h
  exact ⟨r, h1, fun K => (e K).trans (h2 K)⟩
theorem Dr.b1 {α : Type} {p : α → Prop} {B : (α → σ) → σ} (h : ∃ a, p a ∧ ∀ k, B k = k a) {F : α → (ρ → σ) → σ} (hF : ∀ a, p a → Dr P (F a)) : Dr P (fun K => B (fun a => F a K)) := by
  obtain ⟨a, h1, h2⟩ := h
  exact (hF a h1).eq (fun K => h2 _)
theorem Dr.b2 {α β : Type} {p : α → β → Prop} {B : (α → β → σ) → σ} (h : ∃ a b, p a b ∧ ∀ k, B k = k a b) {F : α → β → (ρ → σ) → σ} (hF : ∀ a b, p a b → Dr P (F a b)) : Dr P (fun K => B (fun a b => F a b K)) := by
  obtain ⟨a, b, h1, h2⟩ := h
  exact (hF a b h1).eq (fun K => h2 _)
theorem Dr.b3 {α β γ : Type} {p : α → β → γ → Prop} {B : (α → β → γ → σ) → σ} (h : ∃ a b c, p a b c ∧ ∀ k, B k = k a b c) {F : α → β → γ → (ρ → σ) → σ} (hF : ∀ a b c, p a b c → Dr P (F a b c)) : Dr P (fun K => B (fun a b c => F a b c K)) := by
  obtain ⟨a, b, c, h1, h2⟩ := h
  exact (hF a b c h1).eq (fun K => h2 _)
theorem Dr.b4 {α β γ δ : Type} {p : α → β → γ → δ → Prop} {B : (α → β → γ → δ → σ) → σ} (h : ∃ a b c d, p a b c d ∧ ∀ k, B k = k a b c d) {F : α → β → γ → δ → (ρ → σ) → σ} (hF : ∀ a b c d, p a b c d → Dr P (F a b c d)) : Dr P (fun K => B (fun a b c d => F a b c d K)) := by
  obtain ⟨a, b, c, d, h1, h2⟩ := h
  exact (hF a b c d h1).eq (fun K => h2 _)
theorem Dr.b5 {α β γ δ ε : Type} {p : α → β → γ → δ → ε → Prop} {B : (α → β → γ → δ → ε → σ) → σ} (h : ∃ a b c d e, p a b c d e ∧ ∀ k, B k = k a b c d e) {F : α → β → γ → δ → ε → (ρ → σ) → σ} (hF : ∀ a b c d e, p a b c d e → Dr P (F a b c d e)) : Dr P (fun K => B (fun a b c d e => F a b c d e K)) := by
  obtain ⟨a, b, c, d, e, h1, h2⟩ := h
  exact (hF a b c d e h1).eq (fun K => h2 _)
end
/-- A code, a place in it and a seed, of which numbers are drawn; n: how many more may be. -/
def curB (n : Int) (cc : List Int) (ca cs : Int) : Bool := fitB cc && decide (0 ≤ ca) && decide (ca ≤ n) && decide (0 ≤ cs) && decide (cs < 65536)
theorem curB_iff {n : Int} {cc : List Int} {ca cs : Int} : curB n cc ca cs = true ↔ fitB cc = true ∧ 0 ≤ ca ∧ ca ≤ n ∧ 0 ≤ cs ∧ cs < 65536 := by
  unfold curB; simp only [Bool.and_eq_true, decide_eq_true_eq]
  exact ⟨fun ⟨⟨⟨⟨a, b⟩, c⟩, d⟩, e⟩ => ⟨a, b, c, d, e⟩, fun ⟨a, b, c, d, e⟩ => ⟨⟨⟨⟨a, b⟩, c⟩, d⟩, e⟩⟩
/-- Bytes alone. -/
def byteL (xs : List Int) : Prop := ∀ x ∈ xs, 0 ≤ x ∧ x ≤ 255
theorem byteL_nil : byteL [] := fun _ h => nomatch h
theorem byteL_app {xs ys : List Int} (h1 : byteL xs) (h2 : byteL ys) : byteL (xs ++ ys) := fun x hx => (List.mem_append.1 hx).elim (h1 x) (h2 x)
theorem byteL_fit {xs : List Int} (h : byteL xs) (hl : xs.length ≤ 1048576) : fitB xs = true := fitB_of hl h
theorem fit_byteL {xs : List Int} (h : fitB xs = true) : byteL xs := fun _ hx => fitB_mem h hx
theorem encD_len4 (r : Int) : (encD r).length ≤ 4 := by
  unfold encD; repeat' split
  all_goals simp
theorem fitB_rep {n : Nat} (h : n ≤ 1048576) : fitB (List.replicate n 0) = true := fitB_of (by rw [List.length_replicate]; exact h) (fun x hx => by rw [(List.mem_replicate.1 hx).2]; omega)
def seedD (c : List Int) : Int := 97 + ((c.length : Nat) : Int) % 1000
end Go.Ev
end
section
/- s_l01Open: its contract. -/
namespace Go.Ev.Seat
open Go.RowKit
set_option maxRecDepth 100000
set_option linter.unusedVariables false
set_option linter.unusedSimpArgs false
noncomputable abbrev E_s_l01Open : Env := En [] [] [] [] false 0 []
noncomputable def T_s_l01Open (c : List Int) (K : Ret → Option Ret) : Option Ret :=
 K ((.io [(.l .no bytesR c), (.s (.int .i64 (0 : Int))), (.s (.int .i64 (IntKind.wrap .i64 ((97 : Int) + (Int.tmod (((List.length c) : Nat) : Int) (1000 : Int))))))]), [])
theorem e_s_l01Open (c : List Int) (K : Ret → Option Ret) : evF E_s_l01Open false F.s_l01Open [.l .no bytesR c] K = T_s_l01Open c K := by kernel_rfl
def S_s_l01Open : Sm := S_fnR [.l bytesR] (fun d => fitB d.1) (fun d => (.io [.l .no bytesR d.1, .s (.int .i64 0), .s (.int .i64 (seedD d.1))], []))
theorem v_s_l01Open (c : List Int) (h : (fitB c) = true) (K : Ret → Option Ret) : T_s_l01Open c K = K (.io [.l .no bytesR c, .s (.int .i64 0), .s (.int .i64 (seedD c))], []) := by
  have hl := fitB_len h
  unfold T_s_l01Open seedD
  rw [Int.tmod_eq_emod_of_nonneg (by omega), wrap_in (n := 97 + ((c.length : Nat) : Int) % 1000) (by omega) (by omega)]
theorem okS_s_l01Open : OkFn prog I N.s_l01Open false S_s_l01Open := okN (ok_fn mem0 (l := []) (p := []) (ls := []) (lend := []) (focus := false) (fuel := 0) (give := []) (fn := F.s_l01Open) (by kernel_rfl) (by kernel_rfl) (by kernel_rfl) (by kernel_rfl) (cs := []) (by kernel_rfl) loops0) (S_fnR_of fun d K h => (e_s_l01Open d.1 K).trans (v_s_l01Open d.1 h K))
end Go.Ev.Seat
end
section
/- s_l01Cur_pick: its contract. -/
namespace Go.Ev.Seat
open Go.RowKit
set_option maxRecDepth 100000
set_option linter.unusedVariables false
set_option linter.unusedSimpArgs false
noncomputable abbrev E_s_l01Cur_pick : Env := En [] [(4, takes [0, 1, 2, 3, 4, 5, 6, 7, 8, 9], []), (5, takes [0, 1, 2, 3, 4, 5, 6, 7, 8, 9, 10, 11], []), (8, takes [0, 1, 2, 3, 4, 5, 6, 7, 8, 9, 10, 11, 12, 13, 14, 15, 16, 17, 18, 19, 20, 21, 22, 23], [])] [] [] false 0 []
noncomputable def T_s_l01Cur_pick (cc : List Int) (ca : Int) (cs : Int) (n : Int) (K : Ret → Option Ret) : Option Ret :=
 (bif (decide (n < (2 : Int))) then
 K ((.s (.int .i64 (0 : Int))), [(.io [(.l .no bytesR cc), (.s (.int .i64 ca)), (.s (.int .i64 cs))])])
 else (bif (decide (ca < (((List.length cc) : Nat) : Int))) then
  (bif ((decide ((0 : Int) ≤ ca)) && (decide (ca < (((List.length cc) : Nat) : Int)))) then
   (bif (!(n == (0 : Int))) then
    K ((.s (.int .i64 (Int.tmod (IntKind.wrap .i64 (List.getD cc (Int.toNat ca) (0 : Int))) n))), [(.io [(.l .no bytesR cc), (.s (.int .i64 (IntKind.wrap .i64 (ca + (1 : Int))))), (.s (.int .i64 cs))])])
    else none)
   else none)
  else (bif (decide ((((List.length cc) : Nat) : Int) > (0 : Int))) then
   (bif (!((((List.length cc) : Nat) : Int) == (0 : Int))) then
    (bif ((decide ((0 : Int) ≤ (Int.tmod ca (((List.length cc) : Nat) : Int)))) && (decide ((Int.tmod ca (((List.length cc) : Nat) : Int)) < (((List.length cc) : Nat) : Int)))) then
     (bif (!(n == (0 : Int))) then
      K ((.s (.int .i64 (Int.tmod (IntKind.wrap .i64 ((IntKind.wrap .i64 (Int.tdiv (Int.tmod (IntKind.wrap .i64 ((IntKind.wrap .i64 (cs * (1103 : Int))) + (12345 : Int))) (65521 : Int)) (7 : Int))) + (IntKind.wrap .i64 (List.getD cc (Int.toNat (Int.tmod ca (((List.length cc) : Nat) : Int))) (0 : Int))))) n))), [(.io [(.l .no bytesR cc), (.s (.int .i64 (IntKind.wrap .i64 (ca + (1 : Int))))), (.s (.int .i64 (Int.tmod (IntKind.wrap .i64 ((IntKind.wrap .i64 (cs * (1103 : Int))) + (12345 : Int))) (65521 : Int))))])])
      else none)
     else none)
    else none)
   else (bif (!(n == (0 : Int))) then
    K ((.s (.int .i64 (Int.tmod (0 : Int) n))), [(.io [(.l .no bytesR cc), (.s (.int .i64 (IntKind.wrap .i64 (ca + (1 : Int))))), (.s (.int .i64 (Int.tmod (IntKind.wrap .i64 ((IntKind.wrap .i64 (cs * (1103 : Int))) + (12345 : Int))) (65521 : Int))))])])
    else none))))
theorem e_s_l01Cur_pick (cc : List Int) (ca : Int) (cs : Int) (n : Int) (K : Ret → Option Ret) : evF E_s_l01Cur_pick false F.s_l01Cur_pick [.io [.l .no bytesR cc, .s (.int .i64 ca), .s (.int .i64 cs)], .s (.int .i64 n)] K = T_s_l01Cur_pick cc ca cs n K := by kernel_rfl
theorem x_s_l01Cur_pick (cc : List Int) (ca : Int) (cs : Int) (n : Int) (h : (curB 4000000000000000000 cc ca cs) = true) : ∃ (y : Int) (a : Int) (s : Int), ((0 ≤ y ∧ (2 ≤ n → y < n) ∧ (n < 2 → y = 0)) ∧ 0 ≤ a ∧ a ≤ ca + 1 ∧ 0 ≤ s ∧ s < 65536) ∧ ∀ K : Ret → Option Ret, T_s_l01Cur_pick cc ca cs n K = K (.s (.int .i64 y), [.io [.l .no bytesR cc, .s (.int .i64 a), .s (.int .i64 s)]]) := by
  suffices hd : Dr (fun r : Ret => ∃ (y : Int) (a : Int) (s : Int), ((0 ≤ y ∧ (2 ≤ n → y < n) ∧ (n < 2 → y = 0)) ∧ 0 ≤ a ∧ a ≤ ca + 1 ∧ 0 ≤ s ∧ s < 65536) ∧ r = (.s (.int .i64 y), [.io [.l .no bytesR cc, .s (.int .i64 a), .s (.int .i64 s)]])) (fun K : Ret → Option Ret => T_s_l01Cur_pick cc ca cs n K) by
    obtain ⟨_, ⟨y, a, s, hp, rfl⟩, hk⟩ := hd
    exact ⟨y, a, s, hp, hk⟩
  obtain ⟨h1, h2, h3, h4, h5⟩ := curB_iff.1 h
  have hl := fitB_len h1
  have hb1 := fitB_get h1 ca.toNat
  have hb2 := fitB_get h1 (ca % ((cc.length : Nat) : Int)).toNat
  unfold T_s_l01Cur_pick
  refine Dr.bif (fun c1 => ?_) (fun c1 => ?_)
  · simp only [decide_eq_true_eq] at c1
    exact Dr.leaf ⟨0, ca, cs, ⟨⟨by omega, by omega, by omega⟩, by omega, by omega, by omega, by omega⟩, rfl⟩
  simp only [decide_eq_false_iff_not] at c1
  have e1 : IntKind.wrap .i64 (ca + 1) = ca + 1 := wrap_in (by omega) (by omega)
  have em : ∀ x : Int, 0 ≤ x → Int.tmod x n = x % n := fun x hx => Int.tmod_eq_emod_of_nonneg hx
  have hn : (!(n == (0 : Int))) = true := by simp; omega
  have es : Int.tmod (IntKind.wrap .i64 ((IntKind.wrap .i64 (cs * (1103 : Int))) + (12345 : Int))) (65521 : Int) = (cs * 1103 + 12345) % 65521 := by
    rw [wrap_in (n := cs * 1103) (by omega) (by omega), wrap_in (n := cs * 1103 + 12345) (by omega) (by omega), Int.tmod_eq_emod_of_nonneg (by omega)]
  have fin : ∀ (x s : Int), 0 ≤ x → 0 ≤ s → s < 65536 → (fun r : Ret => ∃ (y : Int) (a : Int) (s : Int), ((0 ≤ y ∧ (2 ≤ n → y < n) ∧ (n < 2 → y = 0)) ∧ 0 ≤ a ∧ a ≤ ca + 1 ∧ 0 ≤ s ∧ s < 65536) ∧ r = (.s (.int .i64 y), [.io [.l .no bytesR cc, .s (.int .i64 a), .s (.int .i64 s)]])) (.s (.int .i64 (x % n)), [.io [.l .no bytesR cc, .s (.int .i64 (ca + 1)), .s (.int .i64 s)]]) := fun x s hx h0 hs => by
    have := Int.emod_nonneg x (show n ≠ 0 by omega)
    have := Int.emod_lt_of_pos x (show 0 < n by omega)
    exact ⟨_, _, _, ⟨⟨by omega, by omega, by omega⟩, by omega, by omega, h0, hs⟩, rfl⟩
  rw [e1, es]
  refine Dr.bif (fun c2 => ?_) (fun c2 => ?_)
  · simp only [decide_eq_true_eq] at c2
    refine Dr.must (by simp; omega) (Dr.must hn ?_)
    rw [wrap_in (n := List.getD cc (Int.toNat ca) 0) (by omega) (by omega), em _ hb1.1]
    exact Dr.leaf (fin _ _ hb1.1 h4 h5)
  · refine Dr.bif (fun c3 => ?_) (fun c3 => ?_)
    · simp only [decide_eq_true_eq] at c3
      have el : Int.tmod ca (((List.length cc) : Nat) : Int) = ca % ((cc.length : Nat) : Int) := Int.tmod_eq_emod_of_nonneg h2
      have := Int.emod_nonneg ca (show ((cc.length : Nat) : Int) ≠ 0 by omega)
      have := Int.emod_lt_of_pos ca (show (0 : Int) < ((cc.length : Nat) : Int) by omega)
      rw [el]
      refine Dr.must (by simp; intro hc; rw [hc] at c3; simp at c3) (Dr.must (by simp; omega) (Dr.must hn ?_))
      rw [Int.tdiv_eq_ediv_of_nonneg (by omega), wrap_in (n := (cs * 1103 + 12345) % 65521 / 7) (by omega) (by omega), wrap_in (n := List.getD cc (Int.toNat (ca % ((cc.length : Nat) : Int))) 0) (by omega) (by omega), wrap_in (n := (cs * 1103 + 12345) % 65521 / 7 + List.getD cc (Int.toNat (ca % ((cc.length : Nat) : Int))) 0) (by omega) (by omega), em _ (by omega)]
      exact Dr.leaf (fin _ _ (by omega) (by omega) (by omega))
    · refine Dr.must hn ?_
      rw [em 0 (by omega)]
      exact Dr.leaf (fin _ _ (by omega) (by omega) (by omega))
noncomputable def g_s_l01Cur_pick (cc : List Int) (ca : Int) (cs : Int) (n : Int) : Int × Int × Int := Classical.epsilon fun g => ((0 ≤ (g).1 ∧ (2 ≤ n → (g).1 < n) ∧ (n < 2 → (g).1 = 0)) ∧ 0 ≤ (g).2.1 ∧ (g).2.1 ≤ ca + 1 ∧ 0 ≤ (g).2.2 ∧ (g).2.2 < 65536) ∧ ∀ K : Ret → Option Ret, T_s_l01Cur_pick cc ca cs n K = K (.s (.int .i64 (g).1), [.io [.l .no bytesR cc, .s (.int .i64 (g).2.1), .s (.int .i64 (g).2.2)]])
theorem gs_s_l01Cur_pick (cc : List Int) (ca : Int) (cs : Int) (n : Int) (h : (curB 4000000000000000000 cc ca cs) = true) : ((0 ≤ (g_s_l01Cur_pick cc ca cs n).1 ∧ (2 ≤ n → (g_s_l01Cur_pick cc ca cs n).1 < n) ∧ (n < 2 → (g_s_l01Cur_pick cc ca cs n).1 = 0)) ∧ 0 ≤ (g_s_l01Cur_pick cc ca cs n).2.1 ∧ (g_s_l01Cur_pick cc ca cs n).2.1 ≤ ca + 1 ∧ 0 ≤ (g_s_l01Cur_pick cc ca cs n).2.2 ∧ (g_s_l01Cur_pick cc ca cs n).2.2 < 65536) ∧ ∀ K : Ret → Option Ret, T_s_l01Cur_pick cc ca cs n K = K (.s (.int .i64 (g_s_l01Cur_pick cc ca cs n).1), [.io [.l .no bytesR cc, .s (.int .i64 (g_s_l01Cur_pick cc ca cs n).2.1), .s (.int .i64 (g_s_l01Cur_pick cc ca cs n).2.2)]]) := by
  obtain ⟨y, a, s, hy, hk⟩ := x_s_l01Cur_pick cc ca cs n h
  exact Classical.epsilon_spec (p := fun g : Int × Int × Int => ((0 ≤ (g).1 ∧ (2 ≤ n → (g).1 < n) ∧ (n < 2 → (g).1 = 0)) ∧ 0 ≤ (g).2.1 ∧ (g).2.1 ≤ ca + 1 ∧ 0 ≤ (g).2.2 ∧ (g).2.2 < 65536) ∧ ∀ K : Ret → Option Ret, T_s_l01Cur_pick cc ca cs n K = K (.s (.int .i64 (g).1), [.io [.l .no bytesR cc, .s (.int .i64 (g).2.1), .s (.int .i64 (g).2.2)]])) ⟨⟨y, a, s⟩, hy, hk⟩
noncomputable def B_s_l01Cur_pick (cc : List Int) (ca : Int) (cs : Int) (n : Int) (k : (Int) → (Int) → (Int) → Option Ret) : Option Ret := bif curB 4000000000000000000 cc ca cs then k (g_s_l01Cur_pick cc ca cs n).1 (g_s_l01Cur_pick cc ca cs n).2.1 (g_s_l01Cur_pick cc ca cs n).2.2 else none
theorem b_s_l01Cur_pick (cc : List Int) (ca : Int) (cs : Int) (n : Int) (h : (curB 4000000000000000000 cc ca cs) = true) : ∃ (y : Int) (a : Int) (s : Int), ((0 ≤ y ∧ (2 ≤ n → y < n) ∧ (n < 2 → y = 0)) ∧ 0 ≤ a ∧ a ≤ ca + 1 ∧ 0 ≤ s ∧ s < 65536) ∧ ∀ k, B_s_l01Cur_pick cc ca cs n k = k y a s :=
  ⟨(g_s_l01Cur_pick cc ca cs n).1, (g_s_l01Cur_pick cc ca cs n).2.1, (g_s_l01Cur_pick cc ca cs n).2.2, (gs_s_l01Cur_pick cc ca cs n h).1, fun k => by unfold B_s_l01Cur_pick; rw [h]; rfl⟩
def SB_s_l01Cur_pick (B : (List Int) → (Int) → (Int) → (Int) → ((Int) → (Int) → (Int) → Option Ret) → Option Ret) : Sm := S_B [.sh (.io (.cons (.l .no bytesR) (.cons (.int .i64) (.cons (.int .i64) .nil)))), .i] (fun d K => B d.1.1 d.1.2.1 d.1.2.2.1 d.2.1 (fun y a s => K (.s (.int .i64 y), [.io [.l .no bytesR d.1.1, .s (.int .i64 a), .s (.int .i64 s)]])))
theorem okS_s_l01Cur_pick : OkFn prog I N.s_l01Cur_pick false (SB_s_l01Cur_pick B_s_l01Cur_pick) := okN (ok_fn mem0 (l := []) (p := [(4, takes [0, 1, 2, 3, 4, 5, 6, 7, 8, 9], []), (5, takes [0, 1, 2, 3, 4, 5, 6, 7, 8, 9, 10, 11], []), (8, takes [0, 1, 2, 3, 4, 5, 6, 7, 8, 9, 10, 11, 12, 13, 14, 15, 16, 17, 18, 19, 20, 21, 22, 23], [])]) (ls := []) (lend := []) (focus := false) (fuel := 0) (give := []) (fn := F.s_l01Cur_pick) (by kernel_rfl) (by kernel_rfl) (by kernel_rfl) (by kernel_rfl) (cs := []) (by kernel_rfl) loops0) (S_B_of fun d K q hq => by
  refine (e_s_l01Cur_pick d.1.1 d.1.2.1 d.1.2.2.1 d.2.1 K).trans ?_
  unfold B_s_l01Cur_pick at hq
  cases hp : (curB 4000000000000000000 d.1.1 d.1.2.1 d.1.2.2.1) with
  | false => rw [hp] at hq; cases hq
  | true =>
    rw [hp] at hq
    exact ((gs_s_l01Cur_pick d.1.1 d.1.2.1 d.1.2.2.1 d.2.1 hp).2 K).trans hq)
end Go.Ev.Seat
end
section
/- s_l01Cur_size: its contract. -/
namespace Go.Ev.Seat
open Go.RowKit
set_option maxRecDepth 100000
set_option linter.unusedVariables false
set_option linter.unusedSimpArgs false
noncomputable abbrev E_s_l01Cur_size : Env := En [(N.s_l01Cur_pick, false, (SB_s_l01Cur_pick B_s_l01Cur_pick))] [] [] [] false 0 []
noncomputable def T_s_l01Cur_size (cc : List Int) (ca : Int) (cs : Int) (n : Int) (K : Ret → Option Ret) : Option Ret :=
 (B_s_l01Cur_pick cc ca cs (IntKind.wrap .i64 ((if (IntKind.wrap .i64 ((1 : Int) + (IntKind.wrap .i64 (Int.tdiv (((List.length cc) : Nat) : Int) (8 : Int))))) < n then (IntKind.wrap .i64 ((1 : Int) + (IntKind.wrap .i64 (Int.tdiv (((List.length cc) : Nat) : Int) (8 : Int))))) else n) + (1 : Int))) (fun y0 y1 y2 =>
 K ((.s (.int .i64 y0)), [(.io [(.l .no bytesR cc), (.s (.int .i64 y1)), (.s (.int .i64 y2))])])))
theorem e_s_l01Cur_size (cc : List Int) (ca : Int) (cs : Int) (n : Int) (K : Ret → Option Ret) : evF E_s_l01Cur_size false F.s_l01Cur_size [.io [.l .no bytesR cc, .s (.int .i64 ca), .s (.int .i64 cs)], .s (.int .i64 n)] K = T_s_l01Cur_size cc ca cs n K := by kernel_rfl
theorem x_s_l01Cur_size (cc : List Int) (ca : Int) (cs : Int) (n : Int) (h : (curB 3000000000000000000 cc ca cs && (decide (0 ≤ n) && decide (n ≤ 1000000))) = true) : ∃ (y : Int) (a : Int) (s : Int), ((0 ≤ y ∧ y ≤ n ∧ y ≤ 200000) ∧ 0 ≤ a ∧ a ≤ ca + 1 ∧ 0 ≤ s ∧ s < 65536) ∧ ∀ K : Ret → Option Ret, T_s_l01Cur_size cc ca cs n K = K (.s (.int .i64 y), [.io [.l .no bytesR cc, .s (.int .i64 a), .s (.int .i64 s)]]) := by
  suffices hd : Dr (fun r : Ret => ∃ (y : Int) (a : Int) (s : Int), ((0 ≤ y ∧ y ≤ n ∧ y ≤ 200000) ∧ 0 ≤ a ∧ a ≤ ca + 1 ∧ 0 ≤ s ∧ s < 65536) ∧ r = (.s (.int .i64 y), [.io [.l .no bytesR cc, .s (.int .i64 a), .s (.int .i64 s)]])) (fun K : Ret → Option Ret => T_s_l01Cur_size cc ca cs n K) by
    obtain ⟨_, ⟨y, a, s, hp, rfl⟩, hk⟩ := hd
    exact ⟨y, a, s, hp, hk⟩
  obtain ⟨h, hpre⟩ := (Bool.and_eq_true _ _).mp h
  obtain ⟨hf, h2, h3, h4, h5⟩ := curB_iff.1 h
  have hl := fitB_len hf
  simp only [Bool.and_eq_true, decide_eq_true_eq] at hpre
  have e8 : Int.tdiv (((List.length cc) : Nat) : Int) 8 = ((cc.length : Nat) : Int) / 8 := Int.tdiv_eq_ediv_of_nonneg (by omega)
  unfold T_s_l01Cur_size
  rw [e8, wrap_in (n := ((cc.length : Nat) : Int) / 8) (by omega) (by omega), wrap_in (n := 1 + ((cc.length : Nat) : Int) / 8) (by omega) (by omega)]
  obtain ⟨m, hm, hm0, hm1, hm2⟩ : ∃ m : Int, (if 1 + ((cc.length : Nat) : Int) / 8 < n then 1 + ((cc.length : Nat) : Int) / 8 else n) = m ∧ 0 ≤ m ∧ m ≤ n ∧ m ≤ 1 + ((cc.length : Nat) : Int) / 8 := by
    by_cases q : 1 + ((cc.length : Nat) : Int) / 8 < n
    · rw [if_pos q]; exact ⟨_, rfl, by omega, by omega, by omega⟩
    · rw [if_neg q]; exact ⟨_, rfl, by omega, by omega, by omega⟩
  rw [hm, wrap_in (n := m + 1) (by omega) (by omega)]
  repeat' first
    | exact Dr.leaf ⟨_, _, _, ⟨by omega, by omega, by omega, by omega, by omega⟩, rfl⟩
    | refine Dr.b3 (b_s_l01Cur_pick _ _ _ _ (curB_iff.2 ⟨hf, by omega, by omega, by omega, by omega⟩)) (fun _ _ _ hy => ?_)
    | simp (disch := omega) only [wrap_in]
    | refine Dr.must (by first | rfl | (simp only [List.length_cons, List.length_nil, BEq.rfl, Bool.true_and, Bool.and_eq_true, decide_eq_true_eq]; omega)) ?_
    | refine Dr.bif (fun hb => ?_) (fun hb => ?_)
noncomputable def g_s_l01Cur_size (cc : List Int) (ca : Int) (cs : Int) (n : Int) : Int × Int × Int := Classical.epsilon fun g => ((0 ≤ (g).1 ∧ (g).1 ≤ n ∧ (g).1 ≤ 200000) ∧ 0 ≤ (g).2.1 ∧ (g).2.1 ≤ ca + 1 ∧ 0 ≤ (g).2.2 ∧ (g).2.2 < 65536) ∧ ∀ K : Ret → Option Ret, T_s_l01Cur_size cc ca cs n K = K (.s (.int .i64 (g).1), [.io [.l .no bytesR cc, .s (.int .i64 (g).2.1), .s (.int .i64 (g).2.2)]])
theorem gs_s_l01Cur_size (cc : List Int) (ca : Int) (cs : Int) (n : Int) (h : (curB 3000000000000000000 cc ca cs && (decide (0 ≤ n) && decide (n ≤ 1000000))) = true) : ((0 ≤ (g_s_l01Cur_size cc ca cs n).1 ∧ (g_s_l01Cur_size cc ca cs n).1 ≤ n ∧ (g_s_l01Cur_size cc ca cs n).1 ≤ 200000) ∧ 0 ≤ (g_s_l01Cur_size cc ca cs n).2.1 ∧ (g_s_l01Cur_size cc ca cs n).2.1 ≤ ca + 1 ∧ 0 ≤ (g_s_l01Cur_size cc ca cs n).2.2 ∧ (g_s_l01Cur_size cc ca cs n).2.2 < 65536) ∧ ∀ K : Ret → Option Ret, T_s_l01Cur_size cc ca cs n K = K (.s (.int .i64 (g_s_l01Cur_size cc ca cs n).1), [.io [.l .no bytesR cc, .s (.int .i64 (g_s_l01Cur_size cc ca cs n).2.1), .s (.int .i64 (g_s_l01Cur_size cc ca cs n).2.2)]]) := by
  obtain ⟨y, a, s, hy, hk⟩ := x_s_l01Cur_size cc ca cs n h
  exact Classical.epsilon_spec (p := fun g : Int × Int × Int => ((0 ≤ (g).1 ∧ (g).1 ≤ n ∧ (g).1 ≤ 200000) ∧ 0 ≤ (g).2.1 ∧ (g).2.1 ≤ ca + 1 ∧ 0 ≤ (g).2.2 ∧ (g).2.2 < 65536) ∧ ∀ K : Ret → Option Ret, T_s_l01Cur_size cc ca cs n K = K (.s (.int .i64 (g).1), [.io [.l .no bytesR cc, .s (.int .i64 (g).2.1), .s (.int .i64 (g).2.2)]])) ⟨⟨y, a, s⟩, hy, hk⟩
noncomputable def B_s_l01Cur_size (cc : List Int) (ca : Int) (cs : Int) (n : Int) (k : (Int) → (Int) → (Int) → Option Ret) : Option Ret := bif curB 3000000000000000000 cc ca cs && (decide (0 ≤ n) && decide (n ≤ 1000000)) then k (g_s_l01Cur_size cc ca cs n).1 (g_s_l01Cur_size cc ca cs n).2.1 (g_s_l01Cur_size cc ca cs n).2.2 else none
theorem b_s_l01Cur_size (cc : List Int) (ca : Int) (cs : Int) (n : Int) (h : (curB 3000000000000000000 cc ca cs && (decide (0 ≤ n) && decide (n ≤ 1000000))) = true) : ∃ (y : Int) (a : Int) (s : Int), ((0 ≤ y ∧ y ≤ n ∧ y ≤ 200000) ∧ 0 ≤ a ∧ a ≤ ca + 1 ∧ 0 ≤ s ∧ s < 65536) ∧ ∀ k, B_s_l01Cur_size cc ca cs n k = k y a s :=
  ⟨(g_s_l01Cur_size cc ca cs n).1, (g_s_l01Cur_size cc ca cs n).2.1, (g_s_l01Cur_size cc ca cs n).2.2, (gs_s_l01Cur_size cc ca cs n h).1, fun k => by unfold B_s_l01Cur_size; rw [h]; rfl⟩
def SB_s_l01Cur_size (B : (List Int) → (Int) → (Int) → (Int) → ((Int) → (Int) → (Int) → Option Ret) → Option Ret) : Sm := S_B [.sh (.io (.cons (.l .no bytesR) (.cons (.int .i64) (.cons (.int .i64) .nil)))), .i] (fun d K => B d.1.1 d.1.2.1 d.1.2.2.1 d.2.1 (fun y a s => K (.s (.int .i64 y), [.io [.l .no bytesR d.1.1, .s (.int .i64 a), .s (.int .i64 s)]])))
theorem okS_s_l01Cur_size : OkFn prog I N.s_l01Cur_size false (SB_s_l01Cur_size B_s_l01Cur_size) := okN (ok_fn (memc okS_s_l01Cur_pick mem0) (l := [(N.s_l01Cur_pick, false, (SB_s_l01Cur_pick B_s_l01Cur_pick))]) (p := []) (ls := []) (lend := []) (focus := false) (fuel := 0) (give := []) (fn := F.s_l01Cur_size) (by kernel_rfl) (by kernel_rfl) (by kernel_rfl) (by kernel_rfl) (cs := []) (by kernel_rfl) loops0) (S_B_of fun d K q hq => by
  refine (e_s_l01Cur_size d.1.1 d.1.2.1 d.1.2.2.1 d.2.1 K).trans ?_
  unfold B_s_l01Cur_size at hq
  cases hp : (curB 3000000000000000000 d.1.1 d.1.2.1 d.1.2.2.1 && (decide (0 ≤ d.2.1) && decide (d.2.1 ≤ 1000000))) with
  | false => rw [hp] at hq; cases hq
  | true =>
    rw [hp] at hq
    exact ((gs_s_l01Cur_size d.1.1 d.1.2.1 d.1.2.2.1 d.2.1 hp).2 K).trans hq)
end Go.Ev.Seat
end
section
/- s_l01Cur_rune: its contract. -/
namespace Go.Ev.Seat
open Go.RowKit
set_option maxRecDepth 100000
set_option linter.unusedVariables false
set_option linter.unusedSimpArgs false
noncomputable abbrev E_s_l01Cur_rune : Env := En [(N.s_l01Cur_pick, false, (SB_s_l01Cur_pick B_s_l01Cur_pick))] [] [] [] false 0 []
noncomputable def T_s_l01Cur_rune (cc : List Int) (ca : Int) (cs : Int) (K : Ret → Option Ret) : Option Ret :=
 (B_s_l01Cur_pick cc ca cs (3 : Int) (fun y0 y1 y2 =>
 (B_s_l01Cur_pick cc y1 y2 (3 : Int) (fun y3 y4 y5 =>
  (B_s_l01Cur_pick cc y4 y5 (14 : Int) (fun y6 y7 y8 =>
   (bif ((decide ((0 : Int) ≤ y6)) && (decide (y6 < (((List.length ((IntKind.wrap .i64 ((97 : Int) + y0)) :: ((IntKind.wrap .i64 ((97 : Int) + y3)) :: ((10 : Int) :: ((32 : Int) :: ((233 : Int) :: ((8364 : Int) :: ((128578 : Int) :: ((127 : Int) :: ((128 : Int) :: ((2047 : Int) :: ((2048 : Int) :: ((65535 : Int) :: ((65536 : Int) :: ((0 : Int) :: ([] : List Int)))))))))))))))) : Nat) : Int)))) then
    K ((.s (.int .i64 (List.getD ((IntKind.wrap .i64 ((97 : Int) + y0)) :: ((IntKind.wrap .i64 ((97 : Int) + y3)) :: ((10 : Int) :: ((32 : Int) :: ((233 : Int) :: ((8364 : Int) :: ((128578 : Int) :: ((127 : Int) :: ((128 : Int) :: ((2047 : Int) :: ((2048 : Int) :: ((65535 : Int) :: ((65536 : Int) :: ((0 : Int) :: ([] : List Int))))))))))))))) (Int.toNat y6) (0 : Int)))), [(.io [(.l .no bytesR cc), (.s (.int .i64 y7)), (.s (.int .i64 y8))])])
    else none)))))))
theorem e_s_l01Cur_rune (cc : List Int) (ca : Int) (cs : Int) (K : Ret → Option Ret) : evF E_s_l01Cur_rune false F.s_l01Cur_rune [.io [.l .no bytesR cc, .s (.int .i64 ca), .s (.int .i64 cs)]] K = T_s_l01Cur_rune cc ca cs K := by kernel_rfl
theorem x_s_l01Cur_rune (cc : List Int) (ca : Int) (cs : Int) (h : (curB 3000000000000000000 cc ca cs) = true) : ∃ (y : Int) (a : Int) (s : Int), (0 ≤ a ∧ a ≤ ca + 3 ∧ 0 ≤ s ∧ s < 65536) ∧ ∀ K : Ret → Option Ret, T_s_l01Cur_rune cc ca cs K = K (.s (.int .i64 y), [.io [.l .no bytesR cc, .s (.int .i64 a), .s (.int .i64 s)]]) := by
  suffices hd : Dr (fun r : Ret => ∃ (y : Int) (a : Int) (s : Int), (0 ≤ a ∧ a ≤ ca + 3 ∧ 0 ≤ s ∧ s < 65536) ∧ r = (.s (.int .i64 y), [.io [.l .no bytesR cc, .s (.int .i64 a), .s (.int .i64 s)]])) (fun K : Ret → Option Ret => T_s_l01Cur_rune cc ca cs K) by
    obtain ⟨_, ⟨y, a, s, hp, rfl⟩, hk⟩ := hd
    exact ⟨y, a, s, hp, hk⟩
  obtain ⟨hf, h2, h3, h4, h5⟩ := curB_iff.1 h
  have hl := fitB_len hf
  unfold T_s_l01Cur_rune
  repeat' first
    | exact Dr.leaf ⟨_, _, _, ⟨by omega, by omega, by omega, by omega⟩, rfl⟩
    | refine Dr.b3 (b_s_l01Cur_pick _ _ _ _ (curB_iff.2 ⟨hf, by omega, by omega, by omega, by omega⟩)) (fun _ _ _ hy => ?_)
    | simp (disch := omega) only [wrap_in]
    | refine Dr.must (by first | rfl | (simp only [List.length_cons, List.length_nil, BEq.rfl, Bool.true_and, Bool.and_eq_true, decide_eq_true_eq]; omega)) ?_
    | refine Dr.bif (fun hb => ?_) (fun hb => ?_)
noncomputable def g_s_l01Cur_rune (cc : List Int) (ca : Int) (cs : Int) : Int × Int × Int := Classical.epsilon fun g => (0 ≤ (g).2.1 ∧ (g).2.1 ≤ ca + 3 ∧ 0 ≤ (g).2.2 ∧ (g).2.2 < 65536) ∧ ∀ K : Ret → Option Ret, T_s_l01Cur_rune cc ca cs K = K (.s (.int .i64 (g).1), [.io [.l .no bytesR cc, .s (.int .i64 (g).2.1), .s (.int .i64 (g).2.2)]])
theorem gs_s_l01Cur_rune (cc : List Int) (ca : Int) (cs : Int) (h : (curB 3000000000000000000 cc ca cs) = true) : (0 ≤ (g_s_l01Cur_rune cc ca cs).2.1 ∧ (g_s_l01Cur_rune cc ca cs).2.1 ≤ ca + 3 ∧ 0 ≤ (g_s_l01Cur_rune cc ca cs).2.2 ∧ (g_s_l01Cur_rune cc ca cs).2.2 < 65536) ∧ ∀ K : Ret → Option Ret, T_s_l01Cur_rune cc ca cs K = K (.s (.int .i64 (g_s_l01Cur_rune cc ca cs).1), [.io [.l .no bytesR cc, .s (.int .i64 (g_s_l01Cur_rune cc ca cs).2.1), .s (.int .i64 (g_s_l01Cur_rune cc ca cs).2.2)]]) := by
  obtain ⟨y, a, s, hy, hk⟩ := x_s_l01Cur_rune cc ca cs h
  exact Classical.epsilon_spec (p := fun g : Int × Int × Int => (0 ≤ (g).2.1 ∧ (g).2.1 ≤ ca + 3 ∧ 0 ≤ (g).2.2 ∧ (g).2.2 < 65536) ∧ ∀ K : Ret → Option Ret, T_s_l01Cur_rune cc ca cs K = K (.s (.int .i64 (g).1), [.io [.l .no bytesR cc, .s (.int .i64 (g).2.1), .s (.int .i64 (g).2.2)]])) ⟨⟨y, a, s⟩, hy, hk⟩
noncomputable def B_s_l01Cur_rune (cc : List Int) (ca : Int) (cs : Int) (k : (Int) → (Int) → (Int) → Option Ret) : Option Ret := bif curB 3000000000000000000 cc ca cs then k (g_s_l01Cur_rune cc ca cs).1 (g_s_l01Cur_rune cc ca cs).2.1 (g_s_l01Cur_rune cc ca cs).2.2 else none
theorem b_s_l01Cur_rune (cc : List Int) (ca : Int) (cs : Int) (h : (curB 3000000000000000000 cc ca cs) = true) : ∃ (y : Int) (a : Int) (s : Int), (0 ≤ a ∧ a ≤ ca + 3 ∧ 0 ≤ s ∧ s < 65536) ∧ ∀ k, B_s_l01Cur_rune cc ca cs k = k y a s :=
  ⟨(g_s_l01Cur_rune cc ca cs).1, (g_s_l01Cur_rune cc ca cs).2.1, (g_s_l01Cur_rune cc ca cs).2.2, (gs_s_l01Cur_rune cc ca cs h).1, fun k => by unfold B_s_l01Cur_rune; rw [h]; rfl⟩
def SB_s_l01Cur_rune (B : (List Int) → (Int) → (Int) → ((Int) → (Int) → (Int) → Option Ret) → Option Ret) : Sm := S_B [.sh (.io (.cons (.l .no bytesR) (.cons (.int .i64) (.cons (.int .i64) .nil))))] (fun d K => B d.1.1 d.1.2.1 d.1.2.2.1 (fun y a s => K (.s (.int .i64 y), [.io [.l .no bytesR d.1.1, .s (.int .i64 a), .s (.int .i64 s)]])))
theorem okS_s_l01Cur_rune : OkFn prog I N.s_l01Cur_rune false (SB_s_l01Cur_rune B_s_l01Cur_rune) := okN (ok_fn (memc okS_s_l01Cur_pick mem0) (l := [(N.s_l01Cur_pick, false, (SB_s_l01Cur_pick B_s_l01Cur_pick))]) (p := []) (ls := []) (lend := []) (focus := false) (fuel := 0) (give := []) (fn := F.s_l01Cur_rune) (by kernel_rfl) (by kernel_rfl) (by kernel_rfl) (by kernel_rfl) (cs := []) (by kernel_rfl) loops0) (S_B_of fun d K q hq => by
  refine (e_s_l01Cur_rune d.1.1 d.1.2.1 d.1.2.2.1 K).trans ?_
  unfold B_s_l01Cur_rune at hq
  cases hp : (curB 3000000000000000000 d.1.1 d.1.2.1 d.1.2.2.1) with
  | false => rw [hp] at hq; cases hq
  | true =>
    rw [hp] at hq
    exact ((gs_s_l01Cur_rune d.1.1 d.1.2.1 d.1.2.2.1 hp).2 K).trans hq)
end Go.Ev.Seat
end
section
/- s_RuneBytes: its contract. -/
namespace Go.Ev.Seat
open Go.RowKit
set_option maxRecDepth 100000
set_option linter.unusedVariables false
set_option linter.unusedSimpArgs false
noncomputable abbrev E_s_RuneBytes : Env := En [] [] [] [] false 0 []
noncomputable def T_s_RuneBytes (r : Int) (K : Ret → Option Ret) : Option Ret :=
 (bif (decide (r < (0 : Int))) then
 K ((.l .deep bytesR ([] : List Int)), [])
 else (bif (decide (r > (1114111 : Int))) then
  K ((.l .deep bytesR ([] : List Int)), [])
  else (bif (decide (r ≥ (55296 : Int))) then
   (bif (decide (r ≤ (57343 : Int))) then
    K ((.l .deep bytesR ([] : List Int)), [])
    else (bif (decide (r < (128 : Int))) then
     K ((.l .deep bytesR ((IntKind.wrap .u8 r) :: ([] : List Int))), [])
     else (bif (decide (r < (2048 : Int))) then
      K ((.l .deep bytesR ((IntKind.wrap .u8 (IntKind.wrap .i64 ((192 : Int) + (IntKind.wrap .i64 (Int.tdiv r (64 : Int)))))) :: ((IntKind.wrap .u8 (IntKind.wrap .i64 ((128 : Int) + (Int.tmod r (64 : Int))))) :: ([] : List Int)))), [])
      else (bif (decide (r < (65536 : Int))) then
       K ((.l .deep bytesR ((IntKind.wrap .u8 (IntKind.wrap .i64 ((224 : Int) + (IntKind.wrap .i64 (Int.tdiv r (4096 : Int)))))) :: ((IntKind.wrap .u8 (IntKind.wrap .i64 ((128 : Int) + (Int.tmod (IntKind.wrap .i64 (Int.tdiv r (64 : Int))) (64 : Int))))) :: ((IntKind.wrap .u8 (IntKind.wrap .i64 ((128 : Int) + (Int.tmod r (64 : Int))))) :: ([] : List Int))))), [])
       else K ((.l .deep bytesR ((IntKind.wrap .u8 (IntKind.wrap .i64 ((240 : Int) + (IntKind.wrap .i64 (Int.tdiv r (262144 : Int)))))) :: ((IntKind.wrap .u8 (IntKind.wrap .i64 ((128 : Int) + (Int.tmod (IntKind.wrap .i64 (Int.tdiv r (4096 : Int))) (64 : Int))))) :: ((IntKind.wrap .u8 (IntKind.wrap .i64 ((128 : Int) + (Int.tmod (IntKind.wrap .i64 (Int.tdiv r (64 : Int))) (64 : Int))))) :: ((IntKind.wrap .u8 (IntKind.wrap .i64 ((128 : Int) + (Int.tmod r (64 : Int))))) :: ([] : List Int)))))), [])))))
   else (bif (decide (r < (128 : Int))) then
    K ((.l .deep bytesR ((IntKind.wrap .u8 r) :: ([] : List Int))), [])
    else (bif (decide (r < (2048 : Int))) then
     K ((.l .deep bytesR ((IntKind.wrap .u8 (IntKind.wrap .i64 ((192 : Int) + (IntKind.wrap .i64 (Int.tdiv r (64 : Int)))))) :: ((IntKind.wrap .u8 (IntKind.wrap .i64 ((128 : Int) + (Int.tmod r (64 : Int))))) :: ([] : List Int)))), [])
     else (bif (decide (r < (65536 : Int))) then
      K ((.l .deep bytesR ((IntKind.wrap .u8 (IntKind.wrap .i64 ((224 : Int) + (IntKind.wrap .i64 (Int.tdiv r (4096 : Int)))))) :: ((IntKind.wrap .u8 (IntKind.wrap .i64 ((128 : Int) + (Int.tmod (IntKind.wrap .i64 (Int.tdiv r (64 : Int))) (64 : Int))))) :: ((IntKind.wrap .u8 (IntKind.wrap .i64 ((128 : Int) + (Int.tmod r (64 : Int))))) :: ([] : List Int))))), [])
      else K ((.l .deep bytesR ((IntKind.wrap .u8 (IntKind.wrap .i64 ((240 : Int) + (IntKind.wrap .i64 (Int.tdiv r (262144 : Int)))))) :: ((IntKind.wrap .u8 (IntKind.wrap .i64 ((128 : Int) + (Int.tmod (IntKind.wrap .i64 (Int.tdiv r (4096 : Int))) (64 : Int))))) :: ((IntKind.wrap .u8 (IntKind.wrap .i64 ((128 : Int) + (Int.tmod (IntKind.wrap .i64 (Int.tdiv r (64 : Int))) (64 : Int))))) :: ((IntKind.wrap .u8 (IntKind.wrap .i64 ((128 : Int) + (Int.tmod r (64 : Int))))) :: ([] : List Int)))))), [])))))))
theorem e_s_RuneBytes (r : Int) (K : Ret → Option Ret) : evF E_s_RuneBytes true F.s_RuneBytes [.s (.int .i64 r)] K = T_s_RuneBytes r K := by kernel_rfl
def S_s_RuneBytes : Sm := S_fnR [.i] (fun d => true) (fun d => (.l .deep bytesR (encD d.1), []))
theorem v_s_RuneBytes (r : Int) (K : Ret → Option Ret) : T_s_RuneBytes r K = K (.l .deep bytesR (encD r), []) := by
  unfold T_s_RuneBytes encD
  by_cases h1 : r < 0
  · rw [decide_eq_true h1, if_pos (by omega)]; rfl
  by_cases h2 : r > 1114111
  · rw [decide_eq_false h1, decide_eq_true h2, if_pos (by omega)]; rfl
  rw [decide_eq_false h1, decide_eq_false h2]
  have key : (bif (decide (r < (128 : Int))) then K ((.l .deep bytesR ((IntKind.wrap .u8 r) :: [])), []) else (bif (decide (r < (2048 : Int))) then
     K ((.l .deep bytesR ((IntKind.wrap .u8 (IntKind.wrap .i64 ((192 : Int) + (IntKind.wrap .i64 (Int.tdiv r (64 : Int)))))) :: ((IntKind.wrap .u8 (IntKind.wrap .i64 ((128 : Int) + (Int.tmod r (64 : Int))))) :: []))), [])
     else (bif (decide (r < (65536 : Int))) then
      K ((.l .deep bytesR ((IntKind.wrap .u8 (IntKind.wrap .i64 ((224 : Int) + (IntKind.wrap .i64 (Int.tdiv r (4096 : Int)))))) :: ((IntKind.wrap .u8 (IntKind.wrap .i64 ((128 : Int) + (Int.tmod (IntKind.wrap .i64 (Int.tdiv r (64 : Int))) (64 : Int))))) :: ((IntKind.wrap .u8 (IntKind.wrap .i64 ((128 : Int) + (Int.tmod r (64 : Int))))) :: [])))), [])
      else K ((.l .deep bytesR ((IntKind.wrap .u8 (IntKind.wrap .i64 ((240 : Int) + (IntKind.wrap .i64 (Int.tdiv r (262144 : Int)))))) :: ((IntKind.wrap .u8 (IntKind.wrap .i64 ((128 : Int) + (Int.tmod (IntKind.wrap .i64 (Int.tdiv r (4096 : Int))) (64 : Int))))) :: ((IntKind.wrap .u8 (IntKind.wrap .i64 ((128 : Int) + (Int.tmod (IntKind.wrap .i64 (Int.tdiv r (64 : Int))) (64 : Int))))) :: ((IntKind.wrap .u8 (IntKind.wrap .i64 ((128 : Int) + (Int.tmod r (64 : Int))))) :: []))))), [])))) = K (.l .deep bytesR (if r < 128 then [r] else if r < 2048 then [192 + r / 64, 128 + r % 64] else if r < 65536 then [224 + r / 4096, 128 + r / 64 % 64, 128 + r % 64] else [240 + r / 262144, 128 + r / 4096 % 64, 128 + r / 64 % 64, 128 + r % 64]), []) := by
    rw [Int.tdiv_eq_ediv_of_nonneg (by omega), Int.tdiv_eq_ediv_of_nonneg (by omega), Int.tdiv_eq_ediv_of_nonneg (by omega), Int.tmod_eq_emod_of_nonneg (by omega)]
    by_cases c1 : r < 128
    · rw [decide_eq_true c1, if_pos c1, wrap8 (by omega) (by omega)]; rfl
    rw [decide_eq_false c1, if_neg c1]
    by_cases c2 : r < 2048
    · rw [decide_eq_true c2, if_pos c2]
      simp (disch := omega) only [wrap_in, wrap8, cond_true, cond_false]
    rw [decide_eq_false c2, if_neg c2]
    by_cases c3 : r < 65536
    · rw [decide_eq_true c3, if_pos c3]
      simp (disch := omega) only [wrap_in, wrap8, Int.tmod_eq_emod_of_nonneg, cond_true, cond_false]
    · rw [decide_eq_false c3, if_neg c3]
      simp (disch := omega) only [wrap_in, wrap8, Int.tmod_eq_emod_of_nonneg, cond_true, cond_false]
  by_cases h3 : r ≥ 55296
  · by_cases h4 : r ≤ 57343
    · rw [decide_eq_true h3, decide_eq_true h4, if_pos (by omega)]; rfl
    · rw [decide_eq_true h3, decide_eq_false h4, if_neg (by omega)]; exact key
  · rw [decide_eq_false h3, if_neg (by omega)]; exact key
theorem okS_s_RuneBytes : OkFn prog I N.s_RuneBytes true S_s_RuneBytes := okN (ok_fn mem0 (l := []) (p := []) (ls := []) (lend := []) (focus := false) (fuel := 0) (give := []) (fn := F.s_RuneBytes) (by kernel_rfl) (by kernel_rfl) (by kernel_rfl) (by kernel_rfl) (cs := []) (by kernel_rfl) loops0) (S_fnR_of fun d K h => (e_s_RuneBytes d.1 K).trans (v_s_RuneBytes d.1 K))
end Go.Ev.Seat
end
section
/- s_l01Cur_text: its contract. -/
namespace Go.Ev.Seat
open Go.RowKit
set_option maxRecDepth 100000
set_option linter.unusedVariables false
set_option linter.unusedSimpArgs false
def z_s_l01Cur_text_3_0 (x1 : Int) (o0 : List Int) (b10 : List Int) (b11 : Int) (b12 : Int) : St := { tm := ([.x, (.s (.int .i64 x1)), .x, .x, .x, (.w 0)] ++ List.replicate 21 .x), ob := [(0, (.arr true true bytesR o0)), (1, (.box [(.l .no bytesR b10), (.s (.int .i64 b11)), (.s (.int .i64 b12))]))], nx := 2, io := [(.pb 1 0)] }
def sh_s_l01Cur_text_3_0 : Ss := { tm := (.cons (.pb 0 0) (.cons (.int .i64) (.cons (.x) (.cons (.x) (.cons (.x) (.cons (.w 1) (.cons (.int .i64) (xsh 20)))))))), ob := (.box (.cons (.l .no bytesR) (.cons (.int .i64) (.cons (.int .i64) .nil))) (.arr true true bytesR .nil)), nx := 2, io := (.cons (.pb 0 0) .nil) }
def d_s_l01Cur_text_3_0 (x1 : Int) (x6 : Int) (b00 : List Int) (b01 : Int) (b02 : Int) (o1 : List Int) : sh_s_l01Cur_text_3_0.T := (((), (x1, ((), ((), ((), ((), (x6, xd 20))))))), ((b00, (b01, (b02, ()))), (o1, ())), ((), ()))
def s_s_l01Cur_text_3_0 (x1 : Int) (x6 : Int) (b00 : List Int) (b01 : Int) (b02 : Int) (o1 : List Int) : St := { tm := ([(.pb 0 0), (.s (.int .i64 x1)), .x, .x, .x, (.w 1), (.s (.int .i64 x6))] ++ List.replicate 20 .x), ob := [(0, (.box [(.l .no bytesR b00), (.s (.int .i64 b01)), (.s (.int .i64 b02))])), (1, (.arr true true bytesR o1))], nx := 2, io := [(.pb 0 0)] }
theorem se_s_l01Cur_text_3_0 (x1 : Int) (x6 : Int) (b00 : List Int) (b01 : Int) (b02 : Int) (o1 : List Int) : sh_s_l01Cur_text_3_0.mk' (d_s_l01Cur_text_3_0 x1 x6 b00 b01 b02 o1) = (s_s_l01Cur_text_3_0 x1 x6 b00 b01 b02 o1) := by kernel_rfl
def w_s_l01Cur_text_3_0 (d : sh_s_l01Cur_text_3_0.T) (f : Int → Int → (List Int) → Int → Int → (List Int) → Option Ret) : Option Ret := match d with | ((_, (x1, (_, (_, (_, (_, (x6, _))))))), ((b00, (b01, (b02, _))), (o1, _)), (_, _)) => f x1 x6 b00 b01 b02 o1
noncomputable def P_s_l01Cur_text_3_0 (x1 : Int) (x6 : Int) (b00 : List Int) (b01 : Int) (b02 : Int) (o1 : List Int) (nx0 : Int → Int → (List Int) → Int → Int → (List Int) → Option Ret) (k0 : Int → (List Int) → (List Int) → Int → Int → Option Ret) : Option Ret :=
 (bif (decide (x6 > (0 : Int))) then
 (B_s_l01Cur_rune b00 b01 b02 (fun y0 y1 y2 =>
  (bif (Nat.ble (((List.length o1) + (List.length (encD y0))) * 1) 140737488355328) then
   (nx0 x1 (IntKind.wrap .i64 (x6 - (1 : Int))) b00 y1 y2 (o1 ++ (encD y0)))
   else none)))
 else (k0 x1 o1 b00 b01 b02))
noncomputable def Q_s_l01Cur_text_3_0 : Nat → Int → Int → (List Int) → Int → Int → (List Int) → (Int → (List Int) → (List Int) → Int → Int → Option Ret) → Option Ret
  | 0, _, _, _, _, _, _, _ => none
  | m + 1, x1, x6, b00, b01, b02, o1, k0 => P_s_l01Cur_text_3_0 x1 x6 b00 b01 b02 o1 (fun x1 x6 b00 b01 b02 o1 => (Q_s_l01Cur_text_3_0 m x1 x6 b00 b01 b02 o1 k0)) k0
noncomputable def R_s_l01Cur_text_3_0 (x1 : Int) (x6 : Int) (b00 : List Int) (b01 : Int) (b02 : Int) (o1 : List Int) (k0 : Int → (List Int) → (List Int) → Int → Int → Option Ret) : Option Ret := Q_s_l01Cur_text_3_0 (x1.toNat + x6.toNat + List.length b00 + b01.toNat + b02.toNat + List.length o1 + 2) x1 x6 b00 b01 b02 o1 k0
noncomputable def W_s_l01Cur_text_3 : LoopFn := (fun (σ : St) (K : Ex → St → Option Ret) => (match sh_s_l01Cur_text_3_0.un σ with | some d => w_s_l01Cur_text_3_0 d (fun x1 x6 b00 b01 b02 o1 => R_s_l01Cur_text_3_0 x1 x6 b00 b01 b02 o1 (fun x1 o0 b10 b11 b12 => (K (.ext 0) (z_s_l01Cur_text_3_0 x1 o0 b10 b11 b12)))) | none => none))
noncomputable abbrev E_s_l01Cur_text : Env := En [(N.s_l01Cur_size, false, (SB_s_l01Cur_size B_s_l01Cur_size)), (N.s_l01Cur_rune, false, (SB_s_l01Cur_rune B_s_l01Cur_rune)), (N.s_RuneBytes, true, S_s_RuneBytes)] [] [(3, [0,1,5,6], [1,4,5], W_s_l01Cur_text_3)] [] false 0 []
theorem st_s_l01Cur_text_3_0 (m : Nat) (x1 : Int) (x6 : Int) (b00 : List Int) (b01 : Int) (b02 : Int) (o1 : List Int) (K : Ex → St → Option Ret) : rounds (run E_s_l01Cur_text (bodyOf F.s_l01Cur_text 3)) [0,1,5,6] [1,4,5] (m + 1) (s_s_l01Cur_text_3_0 x1 x6 b00 b01 b02 o1) K = P_s_l01Cur_text_3_0 x1 x6 b00 b01 b02 o1 (fun x1 x6 b00 b01 b02 o1 => (rounds (run E_s_l01Cur_text (bodyOf F.s_l01Cur_text 3)) [0,1,5,6] [1,4,5] m (s_s_l01Cur_text_3_0 x1 x6 b00 b01 b02 o1) K)) (fun x1 o0 b10 b11 b12 => (K (.ext 0) (z_s_l01Cur_text_3_0 x1 o0 b10 b11 b12))) := by kernel_rfl
theorem q_s_l01Cur_text_3 (K : Ex → St → Option Ret) : ∀ m : Nat, (∀ (x1 : Int) (x6 : Int) (b00 : List Int) (b01 : Int) (b02 : Int) (o1 : List Int), rounds (run E_s_l01Cur_text (bodyOf F.s_l01Cur_text 3)) [0,1,5,6] [1,4,5] m (s_s_l01Cur_text_3_0 x1 x6 b00 b01 b02 o1) K = Q_s_l01Cur_text_3_0 m x1 x6 b00 b01 b02 o1 (fun x1 o0 b10 b11 b12 => (K (.ext 0) (z_s_l01Cur_text_3_0 x1 o0 b10 b11 b12))))
  | 0 => (fun _ _ _ _ _ _ => rfl)
  | m + 1 => (fun x1 x6 b00 b01 b02 o1 => (by rw [st_s_l01Cur_text_3_0, show (fun x1 x6 b00 b01 b02 o1 => (rounds (run E_s_l01Cur_text (bodyOf F.s_l01Cur_text 3)) [0,1,5,6] [1,4,5] m (s_s_l01Cur_text_3_0 x1 x6 b00 b01 b02 o1) K)) = (fun x1 x6 b00 b01 b02 o1 => (Q_s_l01Cur_text_3_0 m x1 x6 b00 b01 b02 o1 (fun x1 o0 b10 b11 b12 => (K (.ext 0) (z_s_l01Cur_text_3_0 x1 o0 b10 b11 b12))))) from funext fun x1 => funext fun x6 => funext fun b00 => funext fun b01 => funext fun b02 => funext fun o1 => (q_s_l01Cur_text_3 K m) x1 x6 b00 b01 b02 o1]; rfl))
theorem loopK_s_l01Cur_text_3 : LoopOk E_s_l01Cur_text (bodyOf F.s_l01Cur_text 3) := by
  refine loopW_ok (n := 3) (F := W_s_l01Cur_text_3) (by kernel_rfl) rfl (li := [0,1,5,6]) (lo := [1,4,5]) rfl (fun σ K r hr => ?_)
  unfold W_s_l01Cur_text_3 at hr
  split at hr
  · rename_i d hd
    rw [Ss.un_mk hd]
    exact ⟨_, ((congrArg (fun z => rounds (run E_s_l01Cur_text (bodyOf F.s_l01Cur_text 3)) [0,1,5,6] [1,4,5] _ z K) (se_s_l01Cur_text_3_0 _ _ _ _ _ _)).trans ((q_s_l01Cur_text_3 K _) _ _ _ _ _ _)).trans hr⟩
  · cases hr
noncomputable def T_s_l01Cur_text (cc : List Int) (ca : Int) (cs : Int) (n : Int) (K : Ret → Option Ret) : Option Ret :=
 (B_s_l01Cur_size cc ca cs n (fun y3 y4 y5 =>
 (R_s_l01Cur_text_3_0 n y3 cc y4 y5 ([] : List Int) (fun y6 y7 y8 y9 y10 =>
  (bif (decide ((((List.length y7) : Nat) : Int) > y6)) then
   K ((.l .deep bytesR ([] : List Int)), [(.io [(.l .no bytesR y8), (.s (.int .i64 y9)), (.s (.int .i64 y10))])])
   else K ((.l .deep bytesR y7), [(.io [(.l .no bytesR y8), (.s (.int .i64 y9)), (.s (.int .i64 y10))])]))))))
theorem e_s_l01Cur_text (cc : List Int) (ca : Int) (cs : Int) (n : Int) (K : Ret → Option Ret) : evF E_s_l01Cur_text false F.s_l01Cur_text [.io [.l .no bytesR cc, .s (.int .i64 ca), .s (.int .i64 cs)], .s (.int .i64 n)] K = T_s_l01Cur_text cc ca cs n K := by kernel_rfl
theorem text_loop {P : Ret → Prop} {n : Int} {cc : List Int} (hf : fitB cc = true) {F : Int → List Int → List Int → Int → Int → (Ret → Option Ret) → Option Ret} : ∀ (m k : Nat) (ca cs : Int) (o : List Int), k < m → 0 ≤ ca → ca + 3 * k ≤ 2500000000000000000 → 0 ≤ cs → cs < 65536 → byteL o → o.length + 4 * k ≤ 100000 →
    (∀ (a s : Int) (o' : List Int), 0 ≤ a → a ≤ ca + 3 * k → 0 ≤ s → s < 65536 → byteL o' → o'.length ≤ o.length + 4 * k → Dr P (F n o' cc a s)) → Dr P (fun K => Q_s_l01Cur_text_3_0 m n (k : Int) cc ca cs o (fun a b c d e => F a b c d e K))
  | 0, k, ca, cs, o, h, _, _, _, _, _, _, _ => absurd h (by omega)
  | m + 1, k, ca, cs, o, h, h0, h1, h2, h3, hb, hl, hF => by
    show Dr P (fun K => P_s_l01Cur_text_3_0 n (k : Int) cc ca cs o _ _)
    unfold P_s_l01Cur_text_3_0
    cases k with
    | zero =>
      refine Dr.bif (fun hc => ?_) (fun _ => hF ca cs o h0 (by omega) h2 h3 hb (by omega))
      simp at hc
    | succ k =>
      refine Dr.must (decide_eq_true (by omega)) ?_
      refine Dr.b3 (b_s_l01Cur_rune _ _ _ (curB_iff.2 ⟨hf, by omega, by omega, by omega, by omega⟩)) (fun y a s hy => ?_)
      have hle := encD_len4 y
      refine Dr.must (Nat.ble_eq_true_of_le (by omega)) ?_
      rw [show IntKind.wrap .i64 (((k + 1 : Nat) : Int) - 1) = (k : Int) by rw [wrap_in (by omega) (by omega)]; omega]
      refine text_loop hf m k a s (o ++ encD y) (by omega) (by omega) (by omega) (by omega) (by omega) (byteL_app hb (encD_byte y)) (by rw [List.length_append]; omega) (fun a' s' o' q1 q2 q3 q4 q5 q6 => hF a' s' o' q1 (by omega) q3 q4 q5 ?_)
      rw [List.length_append] at q6
      omega
theorem x_s_l01Cur_text (cc : List Int) (ca : Int) (cs : Int) (n : Int) (h : (curB 2000000000000000000 cc ca cs && (decide (0 ≤ n) && decide (n ≤ 1000))) = true) : ∃ (y : List Int) (a : Int) (s : Int), ((fitB y = true ∧ ((y.length : Nat) : Int) ≤ n) ∧ 0 ≤ a ∧ a ≤ ca + (1 + 3 * n) ∧ 0 ≤ s ∧ s < 65536) ∧ ∀ K : Ret → Option Ret, T_s_l01Cur_text cc ca cs n K = K (.l .deep bytesR y, [.io [.l .no bytesR cc, .s (.int .i64 a), .s (.int .i64 s)]]) := by
  suffices hd : Dr (fun r : Ret => ∃ (y : List Int) (a : Int) (s : Int), ((fitB y = true ∧ ((y.length : Nat) : Int) ≤ n) ∧ 0 ≤ a ∧ a ≤ ca + (1 + 3 * n) ∧ 0 ≤ s ∧ s < 65536) ∧ r = (.l .deep bytesR y, [.io [.l .no bytesR cc, .s (.int .i64 a), .s (.int .i64 s)]])) (fun K : Ret → Option Ret => T_s_l01Cur_text cc ca cs n K) by
    obtain ⟨_, ⟨y, a, s, hp, rfl⟩, hk⟩ := hd
    exact ⟨y, a, s, hp, hk⟩
  obtain ⟨h, hpre⟩ := (Bool.and_eq_true _ _).mp h
  obtain ⟨hf, h2, h3, h4, h5⟩ := curB_iff.1 h
  have hl := fitB_len hf
  unfold T_s_l01Cur_text
  simp only [Bool.and_eq_true, decide_eq_true_eq] at hpre
  refine Dr.b3 (b_s_l01Cur_size _ _ _ _ ((Bool.and_eq_true _ _).mpr ⟨curB_iff.2 ⟨hf, by omega, by omega, by omega, by omega⟩, by simp only [Bool.and_eq_true, decide_eq_true_eq]; omega⟩)) (fun y0 a0 s0 hy => ?_)
  obtain ⟨k, rfl⟩ : ∃ k : Nat, y0 = k := ⟨y0.toNat, by omega⟩
  unfold R_s_l01Cur_text_3_0
  refine text_loop hf (F := fun y6 y7 y8 y9 y10 K => (bif (decide ((((List.length y7) : Nat) : Int) > y6)) then
   K ((.l .deep bytesR ([] : List Int)), [(.io [(.l .no bytesR y8), (.s (.int .i64 y9)), (.s (.int .i64 y10))])])
   else K ((.l .deep bytesR y7), [(.io [(.l .no bytesR y8), (.s (.int .i64 y9)), (.s (.int .i64 y10))])]))) _ k a0 s0 [] (by omega) (by omega) (by omega) (by omega) (by omega) byteL_nil (by rw [List.length_nil]; omega) (fun a s o q1 q2 q3 q4 q5 q6 => ?_)
  simp only [List.length_nil] at q6
  refine Dr.bif (fun _ => Dr.leaf ⟨_, _, _, ⟨⟨rfl, ?_⟩, by omega, by omega, by omega, by omega⟩, rfl⟩) (fun hc => ?_)
  · simp only [List.length_nil]; omega
  · simp only [decide_eq_false_iff_not] at hc
    exact Dr.leaf ⟨_, _, _, ⟨⟨byteL_fit q5 (by omega), by omega⟩, by omega, by omega, by omega, by omega⟩, rfl⟩
noncomputable def g_s_l01Cur_text (cc : List Int) (ca : Int) (cs : Int) (n : Int) : List Int × Int × Int := Classical.epsilon fun g => ((fitB (g).1 = true ∧ (((g).1.length : Nat) : Int) ≤ n) ∧ 0 ≤ (g).2.1 ∧ (g).2.1 ≤ ca + (1 + 3 * n) ∧ 0 ≤ (g).2.2 ∧ (g).2.2 < 65536) ∧ ∀ K : Ret → Option Ret, T_s_l01Cur_text cc ca cs n K = K (.l .deep bytesR (g).1, [.io [.l .no bytesR cc, .s (.int .i64 (g).2.1), .s (.int .i64 (g).2.2)]])
theorem gs_s_l01Cur_text (cc : List Int) (ca : Int) (cs : Int) (n : Int) (h : (curB 2000000000000000000 cc ca cs && (decide (0 ≤ n) && decide (n ≤ 1000))) = true) : ((fitB (g_s_l01Cur_text cc ca cs n).1 = true ∧ (((g_s_l01Cur_text cc ca cs n).1.length : Nat) : Int) ≤ n) ∧ 0 ≤ (g_s_l01Cur_text cc ca cs n).2.1 ∧ (g_s_l01Cur_text cc ca cs n).2.1 ≤ ca + (1 + 3 * n) ∧ 0 ≤ (g_s_l01Cur_text cc ca cs n).2.2 ∧ (g_s_l01Cur_text cc ca cs n).2.2 < 65536) ∧ ∀ K : Ret → Option Ret, T_s_l01Cur_text cc ca cs n K = K (.l .deep bytesR (g_s_l01Cur_text cc ca cs n).1, [.io [.l .no bytesR cc, .s (.int .i64 (g_s_l01Cur_text cc ca cs n).2.1), .s (.int .i64 (g_s_l01Cur_text cc ca cs n).2.2)]]) := by
  obtain ⟨y, a, s, hy, hk⟩ := x_s_l01Cur_text cc ca cs n h
  exact Classical.epsilon_spec (p := fun g : List Int × Int × Int => ((fitB (g).1 = true ∧ (((g).1.length : Nat) : Int) ≤ n) ∧ 0 ≤ (g).2.1 ∧ (g).2.1 ≤ ca + (1 + 3 * n) ∧ 0 ≤ (g).2.2 ∧ (g).2.2 < 65536) ∧ ∀ K : Ret → Option Ret, T_s_l01Cur_text cc ca cs n K = K (.l .deep bytesR (g).1, [.io [.l .no bytesR cc, .s (.int .i64 (g).2.1), .s (.int .i64 (g).2.2)]])) ⟨⟨y, a, s⟩, hy, hk⟩
noncomputable def B_s_l01Cur_text (cc : List Int) (ca : Int) (cs : Int) (n : Int) (k : (List Int) → (Int) → (Int) → Option Ret) : Option Ret := bif curB 2000000000000000000 cc ca cs && (decide (0 ≤ n) && decide (n ≤ 1000)) then k (g_s_l01Cur_text cc ca cs n).1 (g_s_l01Cur_text cc ca cs n).2.1 (g_s_l01Cur_text cc ca cs n).2.2 else none
theorem b_s_l01Cur_text (cc : List Int) (ca : Int) (cs : Int) (n : Int) (h : (curB 2000000000000000000 cc ca cs && (decide (0 ≤ n) && decide (n ≤ 1000))) = true) : ∃ (y : List Int) (a : Int) (s : Int), ((fitB y = true ∧ ((y.length : Nat) : Int) ≤ n) ∧ 0 ≤ a ∧ a ≤ ca + (1 + 3 * n) ∧ 0 ≤ s ∧ s < 65536) ∧ ∀ k, B_s_l01Cur_text cc ca cs n k = k y a s :=
  ⟨(g_s_l01Cur_text cc ca cs n).1, (g_s_l01Cur_text cc ca cs n).2.1, (g_s_l01Cur_text cc ca cs n).2.2, (gs_s_l01Cur_text cc ca cs n h).1, fun k => by unfold B_s_l01Cur_text; rw [h]; rfl⟩
def SB_s_l01Cur_text (B : (List Int) → (Int) → (Int) → (Int) → ((List Int) → (Int) → (Int) → Option Ret) → Option Ret) : Sm := S_B [.sh (.io (.cons (.l .no bytesR) (.cons (.int .i64) (.cons (.int .i64) .nil)))), .i] (fun d K => B d.1.1 d.1.2.1 d.1.2.2.1 d.2.1 (fun y a s => K (.l .deep bytesR y, [.io [.l .no bytesR d.1.1, .s (.int .i64 a), .s (.int .i64 s)]])))
theorem okS_s_l01Cur_text : OkFn prog I N.s_l01Cur_text false (SB_s_l01Cur_text B_s_l01Cur_text) := okN (ok_fn (memc okS_s_l01Cur_size (memc okS_s_l01Cur_rune (memc okS_s_RuneBytes mem0))) (l := [(N.s_l01Cur_size, false, (SB_s_l01Cur_size B_s_l01Cur_size)), (N.s_l01Cur_rune, false, (SB_s_l01Cur_rune B_s_l01Cur_rune)), (N.s_RuneBytes, true, S_s_RuneBytes)]) (p := []) (ls := [(3, [0,1,5,6], [1,4,5], W_s_l01Cur_text_3)]) (lend := []) (focus := false) (fuel := 0) (give := []) (fn := F.s_l01Cur_text) (by kernel_rfl) (by kernel_rfl) (by kernel_rfl) (by kernel_rfl) (cs := [bodyOf F.s_l01Cur_text 3]) (by kernel_rfl) (loopsc loopK_s_l01Cur_text_3 loops0)) (S_B_of fun d K q hq => by
  refine (e_s_l01Cur_text d.1.1 d.1.2.1 d.1.2.2.1 d.2.1 K).trans ?_
  unfold B_s_l01Cur_text at hq
  cases hp : (curB 2000000000000000000 d.1.1 d.1.2.1 d.1.2.2.1 && (decide (0 ≤ d.2.1) && decide (d.2.1 ≤ 1000))) with
  | false => rw [hp] at hq; cases hq
  | true =>
    rw [hp] at hq
    exact ((gs_s_l01Cur_text d.1.1 d.1.2.1 d.1.2.2.1 d.2.1 hp).2 K).trans hq)
end Go.Ev.Seat
end
section
/- s_l01Cur_raw: its contract. -/
namespace Go.Ev.Seat
open Go.RowKit
set_option maxRecDepth 100000
set_option linter.unusedVariables false
set_option linter.unusedSimpArgs false
noncomputable abbrev E_s_l01Cur_raw : Env := En [(N.s_l01Cur_pick, false, (SB_s_l01Cur_pick B_s_l01Cur_pick))] [] [] [] false 0 []
noncomputable def T_s_l01Cur_raw (cc : List Int) (ca : Int) (cs : Int) (K : Ret → Option Ret) : Option Ret :=
 (B_s_l01Cur_pick cc ca cs (8 : Int) (fun y0 y1 y2 =>
 (bif (y0 == (0 : Int)) then
  (B_s_l01Cur_pick cc y1 y2 (256 : Int) (fun y3 y4 y5 =>
   K ((.s (.int .i64 (IntKind.wrap .i64 (y3 - (128 : Int))))), [(.io [(.l .no bytesR cc), (.s (.int .i64 y4)), (.s (.int .i64 y5))])])))
  else (bif (y0 == (1 : Int)) then
   (B_s_l01Cur_pick cc y1 y2 (8 : Int) (fun y6 y7 y8 =>
    (bif ((decide ((0 : Int) ≤ y6)) && (decide (y6 < (((List.length ((9223372036854775807 : Int) :: ((-(9223372036854775808 : Int)) :: ((4611686018427387904 : Int) :: ((55296 : Int) :: ((57343 : Int) :: ((65536 : Int) :: ((1114111 : Int) :: ((1114112 : Int) :: ([] : List Int)))))))))) : Nat) : Int)))) then
     K ((.s (.int .i64 (List.getD ((9223372036854775807 : Int) :: ((-(9223372036854775808 : Int)) :: ((4611686018427387904 : Int) :: ((55296 : Int) :: ((57343 : Int) :: ((65536 : Int) :: ((1114111 : Int) :: ((1114112 : Int) :: ([] : List Int))))))))) (Int.toNat y6) (0 : Int)))), [(.io [(.l .no bytesR cc), (.s (.int .i64 y7)), (.s (.int .i64 y8))])])
     else none)))
   else (B_s_l01Cur_pick cc y1 y2 (14 : Int) (fun y9 y10 y11 =>
    K ((.s (.int .i64 (IntKind.wrap .i64 (y9 - (3 : Int))))), [(.io [(.l .no bytesR cc), (.s (.int .i64 y10)), (.s (.int .i64 y11))])])))))))
theorem e_s_l01Cur_raw (cc : List Int) (ca : Int) (cs : Int) (K : Ret → Option Ret) : evF E_s_l01Cur_raw false F.s_l01Cur_raw [.io [.l .no bytesR cc, .s (.int .i64 ca), .s (.int .i64 cs)]] K = T_s_l01Cur_raw cc ca cs K := by kernel_rfl
theorem x_s_l01Cur_raw (cc : List Int) (ca : Int) (cs : Int) (h : (curB 3000000000000000000 cc ca cs) = true) : ∃ (y : Int) (a : Int) (s : Int), (0 ≤ a ∧ a ≤ ca + 2 ∧ 0 ≤ s ∧ s < 65536) ∧ ∀ K : Ret → Option Ret, T_s_l01Cur_raw cc ca cs K = K (.s (.int .i64 y), [.io [.l .no bytesR cc, .s (.int .i64 a), .s (.int .i64 s)]]) := by
  suffices hd : Dr (fun r : Ret => ∃ (y : Int) (a : Int) (s : Int), (0 ≤ a ∧ a ≤ ca + 2 ∧ 0 ≤ s ∧ s < 65536) ∧ r = (.s (.int .i64 y), [.io [.l .no bytesR cc, .s (.int .i64 a), .s (.int .i64 s)]])) (fun K : Ret → Option Ret => T_s_l01Cur_raw cc ca cs K) by
    obtain ⟨_, ⟨y, a, s, hp, rfl⟩, hk⟩ := hd
    exact ⟨y, a, s, hp, hk⟩
  obtain ⟨hf, h2, h3, h4, h5⟩ := curB_iff.1 h
  have hl := fitB_len hf
  unfold T_s_l01Cur_raw
  repeat' first
    | exact Dr.leaf ⟨_, _, _, ⟨by omega, by omega, by omega, by omega⟩, rfl⟩
    | refine Dr.b3 (b_s_l01Cur_pick _ _ _ _ (curB_iff.2 ⟨hf, by omega, by omega, by omega, by omega⟩)) (fun _ _ _ hy => ?_)
    | simp (disch := omega) only [wrap_in]
    | refine Dr.must (by first | rfl | (simp only [List.length_cons, List.length_nil, BEq.rfl, Bool.true_and, Bool.and_eq_true, decide_eq_true_eq]; omega)) ?_
    | refine Dr.bif (fun hb => ?_) (fun hb => ?_)
noncomputable def g_s_l01Cur_raw (cc : List Int) (ca : Int) (cs : Int) : Int × Int × Int := Classical.epsilon fun g => (0 ≤ (g).2.1 ∧ (g).2.1 ≤ ca + 2 ∧ 0 ≤ (g).2.2 ∧ (g).2.2 < 65536) ∧ ∀ K : Ret → Option Ret, T_s_l01Cur_raw cc ca cs K = K (.s (.int .i64 (g).1), [.io [.l .no bytesR cc, .s (.int .i64 (g).2.1), .s (.int .i64 (g).2.2)]])
theorem gs_s_l01Cur_raw (cc : List Int) (ca : Int) (cs : Int) (h : (curB 3000000000000000000 cc ca cs) = true) : (0 ≤ (g_s_l01Cur_raw cc ca cs).2.1 ∧ (g_s_l01Cur_raw cc ca cs).2.1 ≤ ca + 2 ∧ 0 ≤ (g_s_l01Cur_raw cc ca cs).2.2 ∧ (g_s_l01Cur_raw cc ca cs).2.2 < 65536) ∧ ∀ K : Ret → Option Ret, T_s_l01Cur_raw cc ca cs K = K (.s (.int .i64 (g_s_l01Cur_raw cc ca cs).1), [.io [.l .no bytesR cc, .s (.int .i64 (g_s_l01Cur_raw cc ca cs).2.1), .s (.int .i64 (g_s_l01Cur_raw cc ca cs).2.2)]]) := by
  obtain ⟨y, a, s, hy, hk⟩ := x_s_l01Cur_raw cc ca cs h
  exact Classical.epsilon_spec (p := fun g : Int × Int × Int => (0 ≤ (g).2.1 ∧ (g).2.1 ≤ ca + 2 ∧ 0 ≤ (g).2.2 ∧ (g).2.2 < 65536) ∧ ∀ K : Ret → Option Ret, T_s_l01Cur_raw cc ca cs K = K (.s (.int .i64 (g).1), [.io [.l .no bytesR cc, .s (.int .i64 (g).2.1), .s (.int .i64 (g).2.2)]])) ⟨⟨y, a, s⟩, hy, hk⟩
noncomputable def B_s_l01Cur_raw (cc : List Int) (ca : Int) (cs : Int) (k : (Int) → (Int) → (Int) → Option Ret) : Option Ret := bif curB 3000000000000000000 cc ca cs then k (g_s_l01Cur_raw cc ca cs).1 (g_s_l01Cur_raw cc ca cs).2.1 (g_s_l01Cur_raw cc ca cs).2.2 else none
theorem b_s_l01Cur_raw (cc : List Int) (ca : Int) (cs : Int) (h : (curB 3000000000000000000 cc ca cs) = true) : ∃ (y : Int) (a : Int) (s : Int), (0 ≤ a ∧ a ≤ ca + 2 ∧ 0 ≤ s ∧ s < 65536) ∧ ∀ k, B_s_l01Cur_raw cc ca cs k = k y a s :=
  ⟨(g_s_l01Cur_raw cc ca cs).1, (g_s_l01Cur_raw cc ca cs).2.1, (g_s_l01Cur_raw cc ca cs).2.2, (gs_s_l01Cur_raw cc ca cs h).1, fun k => by unfold B_s_l01Cur_raw; rw [h]; rfl⟩
def SB_s_l01Cur_raw (B : (List Int) → (Int) → (Int) → ((Int) → (Int) → (Int) → Option Ret) → Option Ret) : Sm := S_B [.sh (.io (.cons (.l .no bytesR) (.cons (.int .i64) (.cons (.int .i64) .nil))))] (fun d K => B d.1.1 d.1.2.1 d.1.2.2.1 (fun y a s => K (.s (.int .i64 y), [.io [.l .no bytesR d.1.1, .s (.int .i64 a), .s (.int .i64 s)]])))
theorem okS_s_l01Cur_raw : OkFn prog I N.s_l01Cur_raw false (SB_s_l01Cur_raw B_s_l01Cur_raw) := okN (ok_fn (memc okS_s_l01Cur_pick mem0) (l := [(N.s_l01Cur_pick, false, (SB_s_l01Cur_pick B_s_l01Cur_pick))]) (p := []) (ls := []) (lend := []) (focus := false) (fuel := 0) (give := []) (fn := F.s_l01Cur_raw) (by kernel_rfl) (by kernel_rfl) (by kernel_rfl) (by kernel_rfl) (cs := []) (by kernel_rfl) loops0) (S_B_of fun d K q hq => by
  refine (e_s_l01Cur_raw d.1.1 d.1.2.1 d.1.2.2.1 K).trans ?_
  unfold B_s_l01Cur_raw at hq
  cases hp : (curB 3000000000000000000 d.1.1 d.1.2.1 d.1.2.2.1) with
  | false => rw [hp] at hq; cases hq
  | true =>
    rw [hp] at hq
    exact ((gs_s_l01Cur_raw d.1.1 d.1.2.1 d.1.2.2.1 hp).2 K).trans hq)
end Go.Ev.Seat
end
section
/- s_l01Cur_small: its contract. -/
namespace Go.Ev.Seat
open Go.RowKit
set_option maxRecDepth 100000
set_option linter.unusedVariables false
set_option linter.unusedSimpArgs false
noncomputable abbrev E_s_l01Cur_small : Env := En [(N.s_l01Cur_pick, false, (SB_s_l01Cur_pick B_s_l01Cur_pick)), (N.s_l01Cur_text, false, (SB_s_l01Cur_text B_s_l01Cur_text)), (N.s_l01Cur_raw, false, (SB_s_l01Cur_raw B_s_l01Cur_raw))] [] [] [] false 0 []
noncomputable def T_s_l01Cur_small (cc : List Int) (ca : Int) (cs : Int) (K : Ret → Option Ret) : Option Ret :=
 (B_s_l01Cur_pick cc ca cs (20 : Int) (fun y0 y1 y2 =>
 (B_s_l01Cur_pick cc y1 y2 (6 : Int) (fun y3 y4 y5 =>
  (B_s_l01Cur_text cc y4 y5 (5 : Int) (fun y6 y7 y8 =>
   (B_s_l01Cur_pick cc y7 y8 (14 : Int) (fun y9 y10 y11 =>
    (bif (y9 == (0 : Int)) then
     (B_s_l01Cur_raw cc y10 y11 (fun y12 y13 y14 =>
      (B_s_l01Cur_pick cc y13 y14 (3 : Int) (fun y15 y16 y17 =>
       (bif ((decide ((0 : Int) ≤ y15)) && (decide (y15 < (((List.length (y12 :: ((400 : Int) :: ((401 : Int) :: ([] : List Int))))) : Nat) : Int)))) then
        K ((.a [(.s (.int .i64 (List.getD (y12 :: ((400 : Int) :: ((401 : Int) :: ([] : List Int)))) (Int.toNat y15) (0 : Int)))), (.s (.int .i64 y3)), (.l .deep bytesR y6)]), [(.io [(.l .no bytesR cc), (.s (.int .i64 y16)), (.s (.int .i64 y17))])])
        else none)))))
     else (bif (y9 == (1 : Int)) then
      (B_s_l01Cur_raw cc y10 y11 (fun y18 y19 y20 =>
       (B_s_l01Cur_pick cc y19 y20 (3 : Int) (fun y21 y22 y23 =>
        (bif ((decide ((0 : Int) ≤ y21)) && (decide (y21 < (((List.length (y18 :: ((400 : Int) :: ((401 : Int) :: ([] : List Int))))) : Nat) : Int)))) then
         K ((.a [(.s (.int .i64 y0)), (.s (.int .i64 (List.getD (y18 :: ((400 : Int) :: ((401 : Int) :: ([] : List Int)))) (Int.toNat y21) (0 : Int)))), (.l .deep bytesR y6)]), [(.io [(.l .no bytesR cc), (.s (.int .i64 y22)), (.s (.int .i64 y23))])])
         else none)))))
      else (bif (y9 == (2 : Int)) then
       (B_s_l01Cur_pick cc y10 y11 (2 : Int) (fun y24 y25 y26 =>
        (bif (((((IntKind.wrap .i64 ((400 : Int) + y24)) == (IntKind.wrap .i64 ((400 : Int) + y24))) && (decide ((0 : Int) ≤ (IntKind.wrap .i64 ((400 : Int) + y24))))) && (decide (((Int.toNat (IntKind.wrap .i64 ((400 : Int) + y24))) * 1) ≤ 140737488355328))) && (decide ((IntKind.wrap .i64 ((400 : Int) + y24)) ≤ (4611686018427387904 : Int)))) then
         K ((.a [(.s (.int .i64 y0)), (.s (.int .i64 y3)), (.l .deep bytesR (List.replicate (Int.toNat (IntKind.wrap .i64 ((400 : Int) + y24))) (0 : Int)))]), [(.io [(.l .no bytesR cc), (.s (.int .i64 y25)), (.s (.int .i64 y26))])])
         else none)))
       else K ((.a [(.s (.int .i64 y0)), (.s (.int .i64 y3)), (.l .deep bytesR y6)]), [(.io [(.l .no bytesR cc), (.s (.int .i64 y10)), (.s (.int .i64 y11))])]))))))))))))
theorem e_s_l01Cur_small (cc : List Int) (ca : Int) (cs : Int) (K : Ret → Option Ret) : evF E_s_l01Cur_small false F.s_l01Cur_small [.io [.l .no bytesR cc, .s (.int .i64 ca), .s (.int .i64 cs)]] K = T_s_l01Cur_small cc ca cs K := by kernel_rfl
theorem x_s_l01Cur_small (cc : List Int) (ca : Int) (cs : Int) (h : (curB 1000000000000000000 cc ca cs) = true) : ∃ (u : Int) (v : Int) (t : List Int) (a : Int) (s : Int), ((fitB t = true ∧ t.length ≤ 401) ∧ 0 ≤ a ∧ a ≤ ca + 30 ∧ 0 ≤ s ∧ s < 65536) ∧ ∀ K : Ret → Option Ret, T_s_l01Cur_small cc ca cs K = K (.a [.s (.int .i64 u), .s (.int .i64 v), .l .deep bytesR t], [.io [.l .no bytesR cc, .s (.int .i64 a), .s (.int .i64 s)]]) := by
  suffices hd : Dr (fun r : Ret => ∃ (u : Int) (v : Int) (t : List Int) (a : Int) (s : Int), ((fitB t = true ∧ t.length ≤ 401) ∧ 0 ≤ a ∧ a ≤ ca + 30 ∧ 0 ≤ s ∧ s < 65536) ∧ r = (.a [.s (.int .i64 u), .s (.int .i64 v), .l .deep bytesR t], [.io [.l .no bytesR cc, .s (.int .i64 a), .s (.int .i64 s)]])) (fun K : Ret → Option Ret => T_s_l01Cur_small cc ca cs K) by
    obtain ⟨_, ⟨u, v, t, a, s, hp, rfl⟩, hk⟩ := hd
    exact ⟨u, v, t, a, s, hp, hk⟩
  obtain ⟨hf, h2, h3, h4, h5⟩ := curB_iff.1 h
  have hl := fitB_len hf
  unfold T_s_l01Cur_small
  repeat' first
    | exact Dr.leaf ⟨_, _, _, _, _, ⟨⟨by first | assumption | exact fitB_rep (by omega), by first | omega | (rw [List.length_replicate]; omega)⟩, by omega, by omega, by omega, by omega⟩, rfl⟩
    | refine Dr.b3 (b_s_l01Cur_pick _ _ _ _ (curB_iff.2 ⟨hf, by omega, by omega, by omega, by omega⟩)) (fun _ _ _ hy => ?_)
    | refine Dr.b3 (b_s_l01Cur_raw _ _ _ (curB_iff.2 ⟨hf, by omega, by omega, by omega, by omega⟩)) (fun _ _ _ hy => ?_)
    | (refine Dr.b3 (b_s_l01Cur_text _ _ _ _ ((Bool.and_eq_true _ _).mpr ⟨curB_iff.2 ⟨hf, by omega, by omega, by omega, by omega⟩, by simp only [Bool.and_eq_true, decide_eq_true_eq]; omega⟩)) (fun _ _ _ hy => ?_); obtain ⟨⟨hq1, hq2⟩, hq3⟩ := hy)
    | simp (disch := omega) only [wrap_in]
    | refine Dr.must (by first | rfl | (simp only [List.length_cons, List.length_nil, BEq.rfl, Bool.true_and, Bool.and_eq_true, decide_eq_true_eq]; omega)) ?_
    | refine Dr.bif (fun hb => ?_) (fun hb => ?_)
noncomputable def g_s_l01Cur_small (cc : List Int) (ca : Int) (cs : Int) : Int × Int × List Int × Int × Int := Classical.epsilon fun g => ((fitB (g).2.2.1 = true ∧ (g).2.2.1.length ≤ 401) ∧ 0 ≤ (g).2.2.2.1 ∧ (g).2.2.2.1 ≤ ca + 30 ∧ 0 ≤ (g).2.2.2.2 ∧ (g).2.2.2.2 < 65536) ∧ ∀ K : Ret → Option Ret, T_s_l01Cur_small cc ca cs K = K (.a [.s (.int .i64 (g).1), .s (.int .i64 (g).2.1), .l .deep bytesR (g).2.2.1], [.io [.l .no bytesR cc, .s (.int .i64 (g).2.2.2.1), .s (.int .i64 (g).2.2.2.2)]])
theorem gs_s_l01Cur_small (cc : List Int) (ca : Int) (cs : Int) (h : (curB 1000000000000000000 cc ca cs) = true) : ((fitB (g_s_l01Cur_small cc ca cs).2.2.1 = true ∧ (g_s_l01Cur_small cc ca cs).2.2.1.length ≤ 401) ∧ 0 ≤ (g_s_l01Cur_small cc ca cs).2.2.2.1 ∧ (g_s_l01Cur_small cc ca cs).2.2.2.1 ≤ ca + 30 ∧ 0 ≤ (g_s_l01Cur_small cc ca cs).2.2.2.2 ∧ (g_s_l01Cur_small cc ca cs).2.2.2.2 < 65536) ∧ ∀ K : Ret → Option Ret, T_s_l01Cur_small cc ca cs K = K (.a [.s (.int .i64 (g_s_l01Cur_small cc ca cs).1), .s (.int .i64 (g_s_l01Cur_small cc ca cs).2.1), .l .deep bytesR (g_s_l01Cur_small cc ca cs).2.2.1], [.io [.l .no bytesR cc, .s (.int .i64 (g_s_l01Cur_small cc ca cs).2.2.2.1), .s (.int .i64 (g_s_l01Cur_small cc ca cs).2.2.2.2)]]) := by
  obtain ⟨u, v, t, a, s, hy, hk⟩ := x_s_l01Cur_small cc ca cs h
  exact Classical.epsilon_spec (p := fun g : Int × Int × List Int × Int × Int => ((fitB (g).2.2.1 = true ∧ (g).2.2.1.length ≤ 401) ∧ 0 ≤ (g).2.2.2.1 ∧ (g).2.2.2.1 ≤ ca + 30 ∧ 0 ≤ (g).2.2.2.2 ∧ (g).2.2.2.2 < 65536) ∧ ∀ K : Ret → Option Ret, T_s_l01Cur_small cc ca cs K = K (.a [.s (.int .i64 (g).1), .s (.int .i64 (g).2.1), .l .deep bytesR (g).2.2.1], [.io [.l .no bytesR cc, .s (.int .i64 (g).2.2.2.1), .s (.int .i64 (g).2.2.2.2)]])) ⟨⟨u, v, t, a, s⟩, hy, hk⟩
noncomputable def B_s_l01Cur_small (cc : List Int) (ca : Int) (cs : Int) (k : (Int) → (Int) → (List Int) → (Int) → (Int) → Option Ret) : Option Ret := bif curB 1000000000000000000 cc ca cs then k (g_s_l01Cur_small cc ca cs).1 (g_s_l01Cur_small cc ca cs).2.1 (g_s_l01Cur_small cc ca cs).2.2.1 (g_s_l01Cur_small cc ca cs).2.2.2.1 (g_s_l01Cur_small cc ca cs).2.2.2.2 else none
theorem b_s_l01Cur_small (cc : List Int) (ca : Int) (cs : Int) (h : (curB 1000000000000000000 cc ca cs) = true) : ∃ (u : Int) (v : Int) (t : List Int) (a : Int) (s : Int), ((fitB t = true ∧ t.length ≤ 401) ∧ 0 ≤ a ∧ a ≤ ca + 30 ∧ 0 ≤ s ∧ s < 65536) ∧ ∀ k, B_s_l01Cur_small cc ca cs k = k u v t a s :=
  ⟨(g_s_l01Cur_small cc ca cs).1, (g_s_l01Cur_small cc ca cs).2.1, (g_s_l01Cur_small cc ca cs).2.2.1, (g_s_l01Cur_small cc ca cs).2.2.2.1, (g_s_l01Cur_small cc ca cs).2.2.2.2, (gs_s_l01Cur_small cc ca cs h).1, fun k => by unfold B_s_l01Cur_small; rw [h]; rfl⟩
def SB_s_l01Cur_small (B : (List Int) → (Int) → (Int) → ((Int) → (Int) → (List Int) → (Int) → (Int) → Option Ret) → Option Ret) : Sm := S_B [.sh (.io (.cons (.l .no bytesR) (.cons (.int .i64) (.cons (.int .i64) .nil))))] (fun d K => B d.1.1 d.1.2.1 d.1.2.2.1 (fun u v t a s => K (.a [.s (.int .i64 u), .s (.int .i64 v), .l .deep bytesR t], [.io [.l .no bytesR d.1.1, .s (.int .i64 a), .s (.int .i64 s)]])))
theorem okS_s_l01Cur_small : OkFn prog I N.s_l01Cur_small false (SB_s_l01Cur_small B_s_l01Cur_small) := okN (ok_fn (memc okS_s_l01Cur_pick (memc okS_s_l01Cur_text (memc okS_s_l01Cur_raw mem0))) (l := [(N.s_l01Cur_pick, false, (SB_s_l01Cur_pick B_s_l01Cur_pick)), (N.s_l01Cur_text, false, (SB_s_l01Cur_text B_s_l01Cur_text)), (N.s_l01Cur_raw, false, (SB_s_l01Cur_raw B_s_l01Cur_raw))]) (p := []) (ls := []) (lend := []) (focus := false) (fuel := 0) (give := []) (fn := F.s_l01Cur_small) (by kernel_rfl) (by kernel_rfl) (by kernel_rfl) (by kernel_rfl) (cs := []) (by kernel_rfl) loops0) (S_B_of fun d K q hq => by
  refine (e_s_l01Cur_small d.1.1 d.1.2.1 d.1.2.2.1 K).trans ?_
  unfold B_s_l01Cur_small at hq
  cases hp : (curB 1000000000000000000 d.1.1 d.1.2.1 d.1.2.2.1) with
  | false => rw [hp] at hq; cases hq
  | true =>
    rw [hp] at hq
    exact ((gs_s_l01Cur_small d.1.1 d.1.2.1 d.1.2.2.1 hp).2 K).trans hq)
end Go.Ev.Seat
end
section
/- s_DrawEditMoves: its contract. -/
namespace Go.Ev.Seat
open Go.RowKit
set_option maxRecDepth 100000
set_option linter.unusedVariables false
set_option linter.unusedSimpArgs false
def z_s_DrawEditMoves_5_0 (b00 : Int) (b01 : Int) (b10 : Int) (b11 : Int) (o2 : List Int) (o3 : List T_Edit) : St := { tm := ([.x, .x, (.pb 0 0), .x, .x, (.pb 1 0), (.w 3)] ++ List.replicate 19 .x), ob := [(0, (.box [(.s (.int .i64 b00)), (.s (.int .i64 b01)), .nl])), (1, (.box [(.s (.int .i64 b10)), (.s (.int .i64 b11)), (.w 2)])), (2, (.arr true true bytesR o2)), (3, (.arr true true editR o3))], nx := 4, io := [] }
def sh_s_DrawEditMoves_5_0 : Ss := { tm := (.cons (.x) (.cons (.x) (.cons (.pb 0 0) (.cons (.x) (.cons (.pb 1 0) (.cons (.pb 2 0) (.cons (.w 4) (.cons (.int .i64) (xsh 18))))))))), ob := (.box (.cons (.int .i64) (.cons (.int .i64) (.cons (.nl) .nil))) (.box (.cons (.l .no bytesR) (.cons (.int .i64) (.cons (.int .i64) .nil))) (.box (.cons (.int .i64) (.cons (.int .i64) (.cons (.w 3) .nil))) (.arr true true bytesR (.arr true true editR .nil))))), nx := 5, io := .nil }
def d_s_DrawEditMoves_5_0 (x7 : Int) (b00 : Int) (b01 : Int) (b10 : List Int) (b11 : Int) (b12 : Int) (b20 : Int) (b21 : Int) (o3 : List Int) (o4 : List T_Edit) : sh_s_DrawEditMoves_5_0.T := (((), ((), ((), ((), ((), ((), ((), (x7, xd 18)))))))), ((b00, (b01, ((), ()))), ((b10, (b11, (b12, ()))), ((b20, (b21, ((), ()))), (o3, (o4, ()))))), ())
def s_s_DrawEditMoves_5_0 (x7 : Int) (b00 : Int) (b01 : Int) (b10 : List Int) (b11 : Int) (b12 : Int) (b20 : Int) (b21 : Int) (o3 : List Int) (o4 : List T_Edit) : St := { tm := ([.x, .x, (.pb 0 0), .x, (.pb 1 0), (.pb 2 0), (.w 4), (.s (.int .i64 x7))] ++ List.replicate 18 .x), ob := [(0, (.box [(.s (.int .i64 b00)), (.s (.int .i64 b01)), .nl])), (1, (.box [(.l .no bytesR b10), (.s (.int .i64 b11)), (.s (.int .i64 b12))])), (2, (.box [(.s (.int .i64 b20)), (.s (.int .i64 b21)), (.w 3)])), (3, (.arr true true bytesR o3)), (4, (.arr true true editR o4))], nx := 5, io := [] }
theorem se_s_DrawEditMoves_5_0 (x7 : Int) (b00 : Int) (b01 : Int) (b10 : List Int) (b11 : Int) (b12 : Int) (b20 : Int) (b21 : Int) (o3 : List Int) (o4 : List T_Edit) : sh_s_DrawEditMoves_5_0.mk' (d_s_DrawEditMoves_5_0 x7 b00 b01 b10 b11 b12 b20 b21 o3 o4) = (s_s_DrawEditMoves_5_0 x7 b00 b01 b10 b11 b12 b20 b21 o3 o4) := by kernel_rfl
def w_s_DrawEditMoves_5_0 (d : sh_s_DrawEditMoves_5_0.T) (f : Int → Int → Int → (List Int) → Int → Int → Int → Int → (List Int) → (List T_Edit) → Option Ret) : Option Ret := match d with | ((_, (_, (_, (_, (_, (_, (_, (x7, _)))))))), ((b00, (b01, (_, _))), ((b10, (b11, (b12, _))), ((b20, (b21, (_, _))), (o3, (o4, _))))), _) => f x7 b00 b01 b10 b11 b12 b20 b21 o3 o4
noncomputable def P_s_DrawEditMoves_5_0 (x7 : Int) (b00 : Int) (b01 : Int) (b10 : List Int) (b11 : Int) (b12 : Int) (b20 : Int) (b21 : Int) (o3 : List Int) (o4 : List T_Edit) (nx0 : Int → Int → Int → (List Int) → Int → Int → Int → Int → (List Int) → (List T_Edit) → Option Ret) (k0 : Int → Int → Int → Int → (List Int) → (List T_Edit) → Option Ret) : Option Ret :=
 (bif (decide (x7 > (0 : Int))) then
 (B_s_l01Cur_small b10 b11 b12 (fun y0 y1 y2 y3 y4 =>
  (bif (Nat.ble (((List.length o4) + (List.length ((y0, (y1, y2)) :: []))) * 40) 140737488355328) then
   (nx0 (IntKind.wrap .i64 (x7 - (1 : Int))) b00 b01 b10 y3 y4 b20 b21 o3 (o4 ++ ((y0, (y1, y2)) :: [])))
   else none)))
 else (k0 b00 b01 b20 b21 o3 o4))
noncomputable def Q_s_DrawEditMoves_5_0 : Nat → Int → Int → Int → (List Int) → Int → Int → Int → Int → (List Int) → (List T_Edit) → (Int → Int → Int → Int → (List Int) → (List T_Edit) → Option Ret) → Option Ret
  | 0, _, _, _, _, _, _, _, _, _, _, _ => none
  | m + 1, x7, b00, b01, b10, b11, b12, b20, b21, o3, o4, k0 => P_s_DrawEditMoves_5_0 x7 b00 b01 b10 b11 b12 b20 b21 o3 o4 (fun x7 b00 b01 b10 b11 b12 b20 b21 o3 o4 => (Q_s_DrawEditMoves_5_0 m x7 b00 b01 b10 b11 b12 b20 b21 o3 o4 k0)) k0
noncomputable def R_s_DrawEditMoves_5_0 (x7 : Int) (b00 : Int) (b01 : Int) (b10 : List Int) (b11 : Int) (b12 : Int) (b20 : Int) (b21 : Int) (o3 : List Int) (o4 : List T_Edit) (k0 : Int → Int → Int → Int → (List Int) → (List T_Edit) → Option Ret) : Option Ret := Q_s_DrawEditMoves_5_0 (x7.toNat + b00.toNat + b01.toNat + List.length b10 + b11.toNat + b12.toNat + b20.toNat + b21.toNat + List.length o3 + List.length o4 + 2) x7 b00 b01 b10 b11 b12 b20 b21 o3 o4 k0
noncomputable def W_s_DrawEditMoves_5 : LoopFn := (fun (σ : St) (K : Ex → St → Option Ret) => (match sh_s_DrawEditMoves_5_0.un σ with | some d => w_s_DrawEditMoves_5_0 d (fun x7 b00 b01 b10 b11 b12 b20 b21 o3 o4 => R_s_DrawEditMoves_5_0 x7 b00 b01 b10 b11 b12 b20 b21 o3 o4 (fun b00 b01 b10 b11 o2 o3 => (K (.ext 0) (z_s_DrawEditMoves_5_0 b00 b01 b10 b11 o2 o3)))) | none => none))
noncomputable abbrev E_s_DrawEditMoves : Env := En [(N.s_l01Open, false, S_s_l01Open), (N.s_l01Cur_small, false, (SB_s_l01Cur_small B_s_l01Cur_small)), (N.s_l01Cur_size, false, (SB_s_l01Cur_size B_s_l01Cur_size))] [] [(5, [2,4,5,6,7], [2,3,5,6], W_s_DrawEditMoves_5)] [] false 0 []
theorem st_s_DrawEditMoves_5_0 (m : Nat) (x7 : Int) (b00 : Int) (b01 : Int) (b10 : List Int) (b11 : Int) (b12 : Int) (b20 : Int) (b21 : Int) (o3 : List Int) (o4 : List T_Edit) (K : Ex → St → Option Ret) : rounds (run E_s_DrawEditMoves (bodyOf F.s_DrawEditMoves 5)) [2,4,5,6,7] [2,3,5,6] (m + 1) (s_s_DrawEditMoves_5_0 x7 b00 b01 b10 b11 b12 b20 b21 o3 o4) K = P_s_DrawEditMoves_5_0 x7 b00 b01 b10 b11 b12 b20 b21 o3 o4 (fun x7 b00 b01 b10 b11 b12 b20 b21 o3 o4 => (rounds (run E_s_DrawEditMoves (bodyOf F.s_DrawEditMoves 5)) [2,4,5,6,7] [2,3,5,6] m (s_s_DrawEditMoves_5_0 x7 b00 b01 b10 b11 b12 b20 b21 o3 o4) K)) (fun b00 b01 b10 b11 o2 o3 => (K (.ext 0) (z_s_DrawEditMoves_5_0 b00 b01 b10 b11 o2 o3))) := by kernel_rfl
theorem q_s_DrawEditMoves_5 (K : Ex → St → Option Ret) : ∀ m : Nat, (∀ (x7 : Int) (b00 : Int) (b01 : Int) (b10 : List Int) (b11 : Int) (b12 : Int) (b20 : Int) (b21 : Int) (o3 : List Int) (o4 : List T_Edit), rounds (run E_s_DrawEditMoves (bodyOf F.s_DrawEditMoves 5)) [2,4,5,6,7] [2,3,5,6] m (s_s_DrawEditMoves_5_0 x7 b00 b01 b10 b11 b12 b20 b21 o3 o4) K = Q_s_DrawEditMoves_5_0 m x7 b00 b01 b10 b11 b12 b20 b21 o3 o4 (fun b00 b01 b10 b11 o2 o3 => (K (.ext 0) (z_s_DrawEditMoves_5_0 b00 b01 b10 b11 o2 o3))))
  | 0 => (fun _ _ _ _ _ _ _ _ _ _ => rfl)
  | m + 1 => (fun x7 b00 b01 b10 b11 b12 b20 b21 o3 o4 => (by rw [st_s_DrawEditMoves_5_0, show (fun x7 b00 b01 b10 b11 b12 b20 b21 o3 o4 => (rounds (run E_s_DrawEditMoves (bodyOf F.s_DrawEditMoves 5)) [2,4,5,6,7] [2,3,5,6] m (s_s_DrawEditMoves_5_0 x7 b00 b01 b10 b11 b12 b20 b21 o3 o4) K)) = (fun x7 b00 b01 b10 b11 b12 b20 b21 o3 o4 => (Q_s_DrawEditMoves_5_0 m x7 b00 b01 b10 b11 b12 b20 b21 o3 o4 (fun b00 b01 b10 b11 o2 o3 => (K (.ext 0) (z_s_DrawEditMoves_5_0 b00 b01 b10 b11 o2 o3))))) from funext fun x7 => funext fun b00 => funext fun b01 => funext fun b10 => funext fun b11 => funext fun b12 => funext fun b20 => funext fun b21 => funext fun o3 => funext fun o4 => (q_s_DrawEditMoves_5 K m) x7 b00 b01 b10 b11 b12 b20 b21 o3 o4]; rfl))
theorem loopK_s_DrawEditMoves_5 : LoopOk E_s_DrawEditMoves (bodyOf F.s_DrawEditMoves 5) := by
  refine loopW_ok (n := 5) (F := W_s_DrawEditMoves_5) (by kernel_rfl) rfl (li := [2,4,5,6,7]) (lo := [2,3,5,6]) rfl (fun σ K r hr => ?_)
  unfold W_s_DrawEditMoves_5 at hr
  split at hr
  · rename_i d hd
    rw [Ss.un_mk hd]
    exact ⟨_, ((congrArg (fun z => rounds (run E_s_DrawEditMoves (bodyOf F.s_DrawEditMoves 5)) [2,4,5,6,7] [2,3,5,6] _ z K) (se_s_DrawEditMoves_5_0 _ _ _ _ _ _ _ _ _ _)).trans ((q_s_DrawEditMoves_5 K _) _ _ _ _ _ _ _ _ _ _)).trans hr⟩
  · cases hr
noncomputable def T_s_DrawEditMoves (code : List Int) (K : Ret → Option Ret) : Option Ret :=
 (bif (fitB code) then
 (B_s_l01Cur_small code (0 : Int) (seedD code) (fun y5 y6 y7 y8 y9 =>
  (B_s_l01Cur_size code y8 y9 (9 : Int) (fun y10 y11 y12 =>
   (R_s_DrawEditMoves_5_0 y10 (0 : Int) (0 : Int) code y11 y12 y5 y6 y7 [] (fun y13 y14 y15 y16 y17 y18 =>
    K ((.t [(.a [(.s (.int .i64 y15)), (.s (.int .i64 y16)), (.l .deep bytesR y17)]), (.l .deep editR y18)]), [])))))))
 else none)
theorem e_s_DrawEditMoves (code : List Int) (K : Ret → Option Ret) : evF E_s_DrawEditMoves false F.s_DrawEditMoves [.l .no bytesR code] K = T_s_DrawEditMoves code K := by kernel_rfl
theorem dem_loop {P : Ret → Prop} {p0 p1 p2 p3 : Int} {q : List Int} {cc : List Int} (hf : fitB cc = true) {F : Int → Int → Int → Int → List Int → List T_Edit → (Ret → Option Ret) → Option Ret} : ∀ (m k : Nat) (ca cs : Int) (o : List T_Edit), k < m → 0 ≤ ca → ca + 30 * k ≤ 500000000000000000 → 0 ≤ cs → cs < 65536 → (∀ x ∈ o, fitR editR x = true) → o.length + k ≤ 9 →
    (∀ (o' : List T_Edit), (∀ x ∈ o', fitR editR x = true) → o'.length ≤ o.length + k → Dr P (F p0 p1 p2 p3 q o')) → Dr P (fun K => Q_s_DrawEditMoves_5_0 m (k : Int) p0 p1 cc ca cs p2 p3 q o (fun a b c d e f => F a b c d e f K))
  | 0, k, ca, cs, o, h, _, _, _, _, _, _, _ => absurd h (by omega)
  | m + 1, k, ca, cs, o, h, h0, h1, h2, h3, hb, hl, hF => by
    show Dr P (fun K => P_s_DrawEditMoves_5_0 (k : Int) p0 p1 cc ca cs p2 p3 q o _ _)
    unfold P_s_DrawEditMoves_5_0
    cases k with
    | zero =>
      refine Dr.bif (fun hc => ?_) (fun _ => hF o hb (by omega))
      simp at hc
    | succ k =>
      refine Dr.must (decide_eq_true (by omega)) ?_
      refine Dr.b5 (b_s_l01Cur_small _ _ _ (curB_iff.2 ⟨hf, by omega, by omega, by omega, by omega⟩)) (fun u v t a s hy => ?_)
      obtain ⟨⟨hy1, hy2⟩, hy3⟩ := hy
      refine Dr.must (Nat.ble_eq_true_of_le (by simp only [List.length_cons, List.length_nil]; omega)) ?_
      rw [show IntKind.wrap .i64 (((k + 1 : Nat) : Int) - 1) = (k : Int) by rw [wrap_in (by omega) (by omega)]; omega]
      refine dem_loop hf m k a s (o ++ [(u, (v, t))]) (by omega) (by omega) (by omega) (by omega) (by omega) (fun x hx => ?_) (by rw [List.length_append]; simp only [List.length_cons, List.length_nil]; omega) (fun o' q1 q2 => hF o' q1 ?_)
      · rcases List.mem_append.1 hx with hx | hx
        · exact hb x hx
        · rw [List.mem_singleton.1 hx]; exact hy1
      · rw [List.length_append] at q2
        simp only [List.length_cons, List.length_nil] at q2
        omega
theorem x_s_DrawEditMoves (code : List Int) (h : (fitB code) = true) : ∃ (u : Int) (v : Int) (t : List Int) (l : List T_Edit), ((fitB t = true ∧ t.length ≤ 401) ∧ fitC (.sl editR) l = true ∧ l.length ≤ 9) ∧ ∀ K : Ret → Option Ret, T_s_DrawEditMoves code K = K (.t [.a [.s (.int .i64 u), .s (.int .i64 v), .l .deep bytesR t], .l .deep editR l], []) := by
  suffices hd : Dr (fun r : Ret => ∃ (u : Int) (v : Int) (t : List Int) (l : List T_Edit), ((fitB t = true ∧ t.length ≤ 401) ∧ fitC (.sl editR) l = true ∧ l.length ≤ 9) ∧ r = (.t [.a [.s (.int .i64 u), .s (.int .i64 v), .l .deep bytesR t], .l .deep editR l], [])) (fun K : Ret → Option Ret => T_s_DrawEditMoves code K) by
    obtain ⟨_, ⟨u, v, t, l, hp, rfl⟩, hk⟩ := hd
    exact ⟨u, v, t, l, hp, hk⟩
  have hl := fitB_len h
  unfold T_s_DrawEditMoves
  refine Dr.must h ?_
  have hs : 0 ≤ seedD code ∧ seedD code < 65536 := by unfold seedD; omega
  refine Dr.b5 (b_s_l01Cur_small _ _ _ (curB_iff.2 ⟨h, by omega, by omega, by omega, by omega⟩)) (fun u v t a s hy => ?_)
  obtain ⟨hy1, hy3⟩ := hy
  refine Dr.b3 (b_s_l01Cur_size _ _ _ _ ((Bool.and_eq_true _ _).mpr ⟨curB_iff.2 ⟨h, by omega, by omega, by omega, by omega⟩, by rfl⟩)) (fun y0 a0 s0 hy => ?_)
  obtain ⟨k, rfl⟩ : ∃ k : Nat, y0 = k := ⟨y0.toNat, by omega⟩
  unfold R_s_DrawEditMoves_5_0
  refine dem_loop h (F := fun y13 y14 y15 y16 y17 y18 K => K ((.t [(.a [(.s (.int .i64 y15)), (.s (.int .i64 y16)), (.l .deep bytesR y17)]), (.l .deep editR y18)]), [])) _ k a0 s0 [] (by omega) (by omega) (by omega) (by omega) (by omega) (fun x hx => nomatch hx) (by rw [List.length_nil]; omega) (fun o q1 q2 => ?_)
  simp only [List.length_nil] at q2
  exact Dr.leaf ⟨_, _, _, _, ⟨hy1, fitC_mk (by omega) q1, by omega⟩, rfl⟩
noncomputable def g_s_DrawEditMoves (code : List Int) : Int × Int × List Int × List T_Edit := Classical.epsilon fun g => ((fitB (g).2.2.1 = true ∧ (g).2.2.1.length ≤ 401) ∧ fitC (.sl editR) (g).2.2.2 = true ∧ (g).2.2.2.length ≤ 9) ∧ ∀ K : Ret → Option Ret, T_s_DrawEditMoves code K = K (.t [.a [.s (.int .i64 (g).1), .s (.int .i64 (g).2.1), .l .deep bytesR (g).2.2.1], .l .deep editR (g).2.2.2], [])
theorem gs_s_DrawEditMoves (code : List Int) (h : (fitB code) = true) : ((fitB (g_s_DrawEditMoves code).2.2.1 = true ∧ (g_s_DrawEditMoves code).2.2.1.length ≤ 401) ∧ fitC (.sl editR) (g_s_DrawEditMoves code).2.2.2 = true ∧ (g_s_DrawEditMoves code).2.2.2.length ≤ 9) ∧ ∀ K : Ret → Option Ret, T_s_DrawEditMoves code K = K (.t [.a [.s (.int .i64 (g_s_DrawEditMoves code).1), .s (.int .i64 (g_s_DrawEditMoves code).2.1), .l .deep bytesR (g_s_DrawEditMoves code).2.2.1], .l .deep editR (g_s_DrawEditMoves code).2.2.2], []) := by
  obtain ⟨u, v, t, l, hy, hk⟩ := x_s_DrawEditMoves code h
  exact Classical.epsilon_spec (p := fun g : Int × Int × List Int × List T_Edit => ((fitB (g).2.2.1 = true ∧ (g).2.2.1.length ≤ 401) ∧ fitC (.sl editR) (g).2.2.2 = true ∧ (g).2.2.2.length ≤ 9) ∧ ∀ K : Ret → Option Ret, T_s_DrawEditMoves code K = K (.t [.a [.s (.int .i64 (g).1), .s (.int .i64 (g).2.1), .l .deep bytesR (g).2.2.1], .l .deep editR (g).2.2.2], [])) ⟨⟨u, v, t, l⟩, hy, hk⟩
noncomputable def B_s_DrawEditMoves (code : List Int) (k : (Int) → (Int) → (List Int) → (List T_Edit) → Option Ret) : Option Ret := bif fitB code then k (g_s_DrawEditMoves code).1 (g_s_DrawEditMoves code).2.1 (g_s_DrawEditMoves code).2.2.1 (g_s_DrawEditMoves code).2.2.2 else none
theorem b_s_DrawEditMoves (code : List Int) (h : (fitB code) = true) : ∃ (u : Int) (v : Int) (t : List Int) (l : List T_Edit), ((fitB t = true ∧ t.length ≤ 401) ∧ fitC (.sl editR) l = true ∧ l.length ≤ 9) ∧ ∀ k, B_s_DrawEditMoves code k = k u v t l :=
  ⟨(g_s_DrawEditMoves code).1, (g_s_DrawEditMoves code).2.1, (g_s_DrawEditMoves code).2.2.1, (g_s_DrawEditMoves code).2.2.2, (gs_s_DrawEditMoves code h).1, fun k => by unfold B_s_DrawEditMoves; rw [h]; rfl⟩
def SB_s_DrawEditMoves (B : (List Int) → ((Int) → (Int) → (List Int) → (List T_Edit) → Option Ret) → Option Ret) : Sm := S_B [.l bytesR] (fun d K => B d.1 (fun u v t l => K (.t [.a [.s (.int .i64 u), .s (.int .i64 v), .l .deep bytesR t], .l .deep editR l], [])))
theorem okS_s_DrawEditMoves : OkFn prog I N.s_DrawEditMoves false (SB_s_DrawEditMoves B_s_DrawEditMoves) := okN (ok_fn (memc okS_s_l01Open (memc okS_s_l01Cur_small (memc okS_s_l01Cur_size mem0))) (l := [(N.s_l01Open, false, S_s_l01Open), (N.s_l01Cur_small, false, (SB_s_l01Cur_small B_s_l01Cur_small)), (N.s_l01Cur_size, false, (SB_s_l01Cur_size B_s_l01Cur_size))]) (p := []) (ls := [(5, [2,4,5,6,7], [2,3,5,6], W_s_DrawEditMoves_5)]) (lend := []) (focus := false) (fuel := 0) (give := []) (fn := F.s_DrawEditMoves) (by kernel_rfl) (by kernel_rfl) (by kernel_rfl) (by kernel_rfl) (cs := [bodyOf F.s_DrawEditMoves 5]) (by kernel_rfl) (loopsc loopK_s_DrawEditMoves_5 loops0)) (S_B_of fun d K q hq => by
  refine (e_s_DrawEditMoves d.1 K).trans ?_
  unfold B_s_DrawEditMoves at hq
  cases hp : (fitB d.1) with
  | false => rw [hp] at hq; cases hq
  | true =>
    rw [hp] at hq
    exact ((gs_s_DrawEditMoves d.1 hp).2 K).trans hq)
end Go.Ev.Seat
end
section
/- s_l02Small: its contract. -/
namespace Go.Ev.Seat
open Go.RowKit
set_option maxRecDepth 100000
set_option linter.unusedVariables false
set_option linter.unusedSimpArgs false
noncomputable abbrev E_s_l02Small : Env := En [] [] [] [] false 0 []
noncomputable def T_s_l02Small (n : Int) (K : Ret → Option Ret) : Option Ret :=
 (bif (decide (n ≥ (0 : Int))) then
 K ((.s (.bool (decide (n ≤ (400 : Int))))), [])
 else K ((.s (.bool false)), []))
theorem e_s_l02Small (n : Int) (K : Ret → Option Ret) : evF E_s_l02Small true F.s_l02Small [.s (.int .i64 n)] K = T_s_l02Small n K := by kernel_rfl
def S_s_l02Small : Sm := S_fnR [.i] (fun d => true) (fun d => (bl (in400 d.1), []))
theorem v_s_l02Small (n : Int) (K : Ret → Option Ret) : T_s_l02Small n K = K (bl (in400 n), []) := by
  unfold T_s_l02Small in400
  rw [show decide (n ≥ 0) = decide (0 ≤ n) from rfl]
  cases decide (0 ≤ n) <;> rfl
theorem okS_s_l02Small : OkFn prog I N.s_l02Small true S_s_l02Small := okN (ok_fn mem0 (l := []) (p := []) (ls := []) (lend := []) (focus := false) (fuel := 0) (give := []) (fn := F.s_l02Small) (by kernel_rfl) (by kernel_rfl) (by kernel_rfl) (by kernel_rfl) (cs := []) (by kernel_rfl) loops0) (S_fnR_of fun d K h => (e_s_l02Small d.1 K).trans (v_s_l02Small d.1 K))
end Go.Ev.Seat
end
section
/- s_l05Small: its contract. -/
namespace Go.Ev.Seat
open Go.RowKit
set_option maxRecDepth 100000
set_option linter.unusedVariables false
set_option linter.unusedSimpArgs false
noncomputable abbrev E_s_l05Small : Env := En [(N.s_l02Small, true, S_s_l02Small)] [] [] [] false 0 []
noncomputable def T_s_l05Small (e : T_Edit) (K : Ret → Option Ret) : Option Ret :=
 (bif (in400 e.1) then
 (bif (in400 e.2.1) then
  K ((.s (.bool (decide ((((List.length e.2.2) : Nat) : Int) ≤ (400 : Int))))), [])
  else K ((.s (.bool false)), []))
 else K ((.s (.bool false)), []))
theorem e_s_l05Small (e : T_Edit) (K : Ret → Option Ret) : evF E_s_l05Small true F.s_l05Small [.a (editR.cells .no e)] K = T_s_l05Small e K := by kernel_rfl
def S_s_l05Small : Sm := S_fnR [.a editR] (fun d => true) (fun d => (bl (smallE d.1), []))
theorem v_s_l05Small (e : T_Edit) (K : Ret → Option Ret) : T_s_l05Small e K = K (bl (smallE e), []) := by
  unfold T_s_l05Small smallE
  cases in400 e.1 <;> cases in400 e.2.1 <;> rfl
theorem okS_s_l05Small : OkFn prog I N.s_l05Small true S_s_l05Small := okN (ok_fn (memc okS_s_l02Small mem0) (l := [(N.s_l02Small, true, S_s_l02Small)]) (p := []) (ls := []) (lend := []) (focus := false) (fuel := 0) (give := []) (fn := F.s_l05Small) (by kernel_rfl) (by kernel_rfl) (by kernel_rfl) (by kernel_rfl) (cs := []) (by kernel_rfl) loops0) (S_fnR_of fun d K h => (e_s_l05Small d.1 K).trans (v_s_l05Small d.1 K))
end Go.Ev.Seat
end
section
/- s_l06Place: its contract. -/
namespace Go.Ev.Seat
open Go.RowKit
set_option maxRecDepth 100000
set_option linter.unusedVariables false
set_option linter.unusedSimpArgs false
noncomputable abbrev E_s_l06Place : Env := En [] [] [] [] false 0 []
noncomputable def T_s_l06Place (p : Int) (K : Ret → Option Ret) : Option Ret :=
 (bif (decide (p ≥ (0 : Int))) then
 K ((.s (.bool (decide (p ≤ (800 : Int))))), [])
 else K ((.s (.bool false)), []))
theorem e_s_l06Place (p : Int) (K : Ret → Option Ret) : evF E_s_l06Place true F.s_l06Place [.s (.int .i64 p)] K = T_s_l06Place p K := by kernel_rfl
def S_s_l06Place : Sm := S_fnR [.i] (fun d => true) (fun d => (bl (placeB d.1), []))
theorem v_s_l06Place (p : Int) (K : Ret → Option Ret) : T_s_l06Place p K = K (bl (placeB p), []) := by
  unfold T_s_l06Place placeB
  rw [show decide (p ≥ 0) = decide (0 ≤ p) from rfl]
  cases decide (0 ≤ p) <;> rfl
theorem okS_s_l06Place : OkFn prog I N.s_l06Place true S_s_l06Place := okN (ok_fn mem0 (l := []) (p := []) (ls := []) (lend := []) (focus := false) (fuel := 0) (give := []) (fn := F.s_l06Place) (by kernel_rfl) (by kernel_rfl) (by kernel_rfl) (by kernel_rfl) (cs := []) (by kernel_rfl) loops0) (S_fnR_of fun d K h => (e_s_l06Place d.1 K).trans (v_s_l06Place d.1 K))
end Go.Ev.Seat
end
section
/- s_PosMove: its contract. -/
namespace Go.Ev.Seat
open Go.RowKit
set_option maxRecDepth 100000
set_option linter.unusedVariables false
set_option linter.unusedSimpArgs false
noncomputable abbrev E_s_PosMove : Env := En [(N.s_l06Place, true, S_s_l06Place), (N.s_l05Small, true, S_s_l05Small)] [] [] [] false 0 []
noncomputable def T_s_PosMove (p : Int) (r : Bool) (e : T_Edit) (K : Ret → Option Ret) : Option Ret :=
 (bif (!(placeB p)) then
 K ((.s (.int .i64 (-(1 : Int)))), [])
 else (bif (!(smallE e)) then
  K ((.s (.int .i64 (-(1 : Int)))), [])
  else (bif (decide (p < e.1)) then
   K ((.s (.int .i64 p)), [])
   else (bif (p == e.1) then
    (bif r then
     K ((.s (.int .i64 (IntKind.wrap .i64 (e.1 + (((List.length e.2.2) : Nat) : Int))))), [])
     else K ((.s (.int .i64 e.1)), []))
    else (bif (decide (p < (IntKind.wrap .i64 (e.1 + e.2.1)))) then
     (bif r then
      K ((.s (.int .i64 (IntKind.wrap .i64 (e.1 + (((List.length e.2.2) : Nat) : Int))))), [])
      else K ((.s (.int .i64 e.1)), []))
     else K ((.s (.int .i64 (IntKind.wrap .i64 ((IntKind.wrap .i64 (p - e.2.1)) + (((List.length e.2.2) : Nat) : Int))))), []))))))
theorem e_s_PosMove (p : Int) (r : Bool) (e : T_Edit) (K : Ret → Option Ret) : evF E_s_PosMove true F.s_PosMove [.s (.int .i64 p), .s (.bool r), .a (editR.cells .no e)] K = T_s_PosMove p r e K := by kernel_rfl
def S_s_PosMove : Sm := S_fnR [.i, .b, .a editR] (fun d => true) (fun d => (.s (.int .i64 (bif placeB d.1 && smallE d.2.2.1 then posD d.2.2.1 d.1 d.2.1 else -1)), []))
theorem v_s_PosMove (p : Int) (r : Bool) (e : T_Edit) (K : Ret → Option Ret) : T_s_PosMove p r e K = K (.s (.int .i64 (bif placeB p && smallE e then posD e p r else -1)), []) := by
  unfold T_s_PosMove
  cases hp : placeB p with
  | false => rfl
  | true =>
  cases HS : smallE e with
  | false => rfl
  | true =>
  have hp' := placeB_iff.1 hp
  have q := smallE_iff.1 HS
  rw [wrap_in (n := e.1 + ((e.2.2.length : Nat) : Int)) (by omega) (by omega), wrap_in (n := e.1 + e.2.1) (by omega) (by omega), wrap_in (n := p - e.2.1) (by omega) (by omega), wrap_in (n := p - e.2.1 + ((e.2.2.length : Nat) : Int)) (by omega) (by omega)]
  unfold posD
  cases decide (p < e.1)
  · cases (p == e.1)
    · cases decide (p < e.1 + e.2.1)
      · rfl
      · cases r <;> rfl
    · cases r <;> rfl
  · rfl
theorem okS_s_PosMove : OkFn prog I N.s_PosMove true S_s_PosMove := okN (ok_fn (memc okS_s_l06Place (memc okS_s_l05Small mem0)) (l := [(N.s_l06Place, true, S_s_l06Place), (N.s_l05Small, true, S_s_l05Small)]) (p := []) (ls := []) (lend := []) (focus := false) (fuel := 0) (give := []) (fn := F.s_PosMove) (by kernel_rfl) (by kernel_rfl) (by kernel_rfl) (by kernel_rfl) (cs := []) (by kernel_rfl) loops0) (S_fnR_of fun d K h => (e_s_PosMove d.1 d.2.1 d.2.2.1 K).trans (v_s_PosMove d.1 d.2.1 d.2.2.1 K))
end Go.Ev.Seat
end
section
/- s_SpanMove: its contract. -/
namespace Go.Ev.Seat
open Go.RowKit
set_option maxRecDepth 100000
set_option linter.unusedVariables false
set_option linter.unusedSimpArgs false
noncomputable abbrev E_s_SpanMove : Env := En [(N.s_PosMove, true, S_s_PosMove)] [] [] [] false 0 []
noncomputable def T_s_SpanMove (i : Int) (j : Int) (e : T_Edit) (K : Ret → Option Ret) : Option Ret :=
 (bif (decide ((bif ((placeB i) && (smallE e)) then (posD e i true) else (-(1 : Int))) < (0 : Int))) then
 K ((.t [(.s (.int .i64 (-(1 : Int)))), (.s (.int .i64 (-(1 : Int))))]), [])
 else (bif (decide ((bif ((placeB j) && (smallE e)) then (posD e j false) else (-(1 : Int))) < (0 : Int))) then
  K ((.t [(.s (.int .i64 (-(1 : Int)))), (.s (.int .i64 (-(1 : Int))))]), [])
  else (bif (decide (j < i)) then
   K ((.t [(.s (.int .i64 (-(1 : Int)))), (.s (.int .i64 (-(1 : Int))))]), [])
   else (bif (i == j) then
    K ((.t [(.s (.int .i64 (bif ((placeB i) && (smallE e)) then (posD e i true) else (-(1 : Int))))), (.s (.int .i64 (bif ((placeB i) && (smallE e)) then (posD e i true) else (-(1 : Int)))))]), [])
    else K ((.t [(.s (.int .i64 (bif ((placeB i) && (smallE e)) then (posD e i true) else (-(1 : Int))))), (.s (.int .i64 (if (bif ((placeB j) && (smallE e)) then (posD e j false) else (-(1 : Int))) > (bif ((placeB i) && (smallE e)) then (posD e i true) else (-(1 : Int))) then (bif ((placeB j) && (smallE e)) then (posD e j false) else (-(1 : Int))) else (bif ((placeB i) && (smallE e)) then (posD e i true) else (-(1 : Int))))))]), [])))))
theorem e_s_SpanMove (i : Int) (j : Int) (e : T_Edit) (K : Ret → Option Ret) : evF E_s_SpanMove true F.s_SpanMove [.s (.int .i64 i), .s (.int .i64 j), .a (editR.cells .no e)] K = T_s_SpanMove i j e K := by kernel_rfl
def S_s_SpanMove : Sm := S_fnR [.i, .i, .a editR] (fun d => placeB d.1 && placeB d.2.1 && smallE d.2.2.1 && decide (d.1 ≤ d.2.1)) (fun d => (.t [.s (.int .i64 (spanD d.2.2.1 d.1 d.2.1).1), .s (.int .i64 (spanD d.2.2.1 d.1 d.2.1).2)], []))
theorem v_s_SpanMove (i : Int) (j : Int) (e : T_Edit) (h : (placeB i && placeB j && smallE e && decide (i ≤ j)) = true) (K : Ret → Option Ret) : T_s_SpanMove i j e K = K (.t [.s (.int .i64 (spanD e i j).1), .s (.int .i64 (spanD e i j).2)], []) := by
  simp only [Bool.and_eq_true, decide_eq_true_eq] at h
  obtain ⟨⟨⟨hi, hj⟩, he⟩, hij⟩ := h
  have hi' := placeB_iff.1 hi
  have hj' := placeB_iff.1 hj
  have p1 := posD_range (p := i) true he (by omega)
  have p2 := posD_range (p := j) false he (by omega)
  unfold T_s_SpanMove spanD
  rw [hi, hj, he]
  simp only [Bool.and_self, cond_true]
  rw [decide_eq_false (show ¬ posD e i true < 0 by omega), decide_eq_false (show ¬ posD e j false < 0 by omega), decide_eq_false (show ¬ j < i by omega)]
  cases (i == j)
  · show K (.t [_, .s (.int .i64 (if posD e j false > posD e i true then posD e j false else posD e i true))], []) = K (.t [_, .s (.int .i64 (max (posD e i true) (posD e j false)))], [])
    rw [show (if posD e j false > posD e i true then posD e j false else posD e i true) = max (posD e i true) (posD e j false) by split <;> omega]
  · rfl
theorem okS_s_SpanMove : OkFn prog I N.s_SpanMove true S_s_SpanMove := okN (ok_fn (memc okS_s_PosMove mem0) (l := [(N.s_PosMove, true, S_s_PosMove)]) (p := []) (ls := []) (lend := []) (focus := false) (fuel := 0) (give := []) (fn := F.s_SpanMove) (by kernel_rfl) (by kernel_rfl) (by kernel_rfl) (by kernel_rfl) (cs := []) (by kernel_rfl) loops0) (S_fnR_of fun d K h => (e_s_SpanMove d.1 d.2.1 d.2.2.1 K).trans (v_s_SpanMove d.1 d.2.1 d.2.2.1 h K))
end Go.Ev.Seat
end
section
/- s_EditMove: its contract. -/
namespace Go.Ev.Seat
open Go.RowKit
set_option maxRecDepth 100000
set_option linter.unusedVariables false
set_option linter.unusedSimpArgs false
noncomputable abbrev E_s_EditMove : Env := En [(N.s_l05Small, true, S_s_l05Small), (N.s_SpanMove, true, S_s_SpanMove)] [] [] [] false 0 []
noncomputable def T_s_EditMove (e : T_Edit) (b : T_Edit) (K : Ret → Option Ret) : Option Ret :=
 (bif (!(smallE e)) then
 K ((.t [(.a [(.s (.int .i64 (0 : Int))), (.s (.int .i64 (0 : Int))), (.l .deep bytesR ([] : List Int))]), (.s (.bool false))]), [])
 else (bif (!(smallE b)) then
  K ((.t [(.a [(.s (.int .i64 (0 : Int))), (.s (.int .i64 (0 : Int))), (.l .deep bytesR ([] : List Int))]), (.s (.bool false))]), [])
  else (bif ((((placeB e.1) && (placeB (IntKind.wrap .i64 (e.1 + e.2.1)))) && (smallE b)) && (decide (e.1 ≤ (IntKind.wrap .i64 (e.1 + e.2.1))))) then
   (bif (Nat.ble (((List.length ([] : List Int)) + (List.length e.2.2)) * 1) 140737488355328) then
    K ((.t [(.a [(.s (.int .i64 (posD b e.1 true))), (.s (.int .i64 (IntKind.wrap .i64 ((bif (e.1 == (IntKind.wrap .i64 (e.1 + e.2.1))) then (posD b e.1 true) else (Max.max (posD b e.1 true) (posD b (IntKind.wrap .i64 (e.1 + e.2.1)) false))) - (posD b e.1 true))))), (.l .deep bytesR (([] : List Int) ++ e.2.2))]), (.s (.bool true))]), [])
    else none)
   else none)))
theorem e_s_EditMove (e : T_Edit) (b : T_Edit) (K : Ret → Option Ret) : evF E_s_EditMove true F.s_EditMove [.a (editR.cells .no e), .a (editR.cells .no b)] K = T_s_EditMove e b K := by kernel_rfl
def S_s_EditMove : Sm := S_fnR [.a editR, .a editR] (fun d => Nat.ble d.1.2.2.length 1048576) (fun d => (.t [.a (editR.cells .deep (moveD d.1 d.2.1).1), bl (moveD d.1 d.2.1).2], []))
theorem v_s_EditMove (e : T_Edit) (b : T_Edit) (h : (Nat.ble e.2.2.length 1048576) = true) (K : Ret → Option Ret) : T_s_EditMove e b K = K (.t [.a (editR.cells .deep (moveD e b).1), bl (moveD e b).2], []) := by
  have hl := Nat.le_of_ble_eq_true h
  unfold T_s_EditMove moveD
  cases ha : smallE e with
  | false => rfl
  | true =>
  cases hb : smallE b with
  | false => rfl
  | true =>
  have ha' := smallE_iff.1 ha
  have hb' := smallE_iff.1 hb
  have p1 := posD_range (p := e.1) true hb (by omega)
  have p2 := posD_range (p := e.1 + e.2.1) false hb (by omega)
  have hr := movedD_range ha hb
  have e3 : (movedD e b).2.1 = (bif (e.1 == e.1 + e.2.1) then posD b e.1 true else max (posD b e.1 true) (posD b (e.1 + e.2.1) false)) - posD b e.1 true := rfl
  rw [e3] at hr
  rw [Nat.ble_eq_true_of_le (by simp; omega), wrap_in (n := e.1 + e.2.1) (by omega) (by omega), placeB_iff.2 (show 0 ≤ e.1 ∧ e.1 ≤ 800 by omega), placeB_iff.2 (show 0 ≤ e.1 + e.2.1 ∧ e.1 + e.2.1 ≤ 800 by omega), decide_eq_true (show e.1 ≤ e.1 + e.2.1 by omega), wrap_in (n := (bif (e.1 == e.1 + e.2.1) then posD b e.1 true else max (posD b e.1 true) (posD b (e.1 + e.2.1) false)) - posD b e.1 true) (by omega) (by omega)]
  rfl
theorem okS_s_EditMove : OkFn prog I N.s_EditMove true S_s_EditMove := okN (ok_fn (memc okS_s_l05Small (memc okS_s_SpanMove mem0)) (l := [(N.s_l05Small, true, S_s_l05Small), (N.s_SpanMove, true, S_s_SpanMove)]) (p := []) (ls := []) (lend := []) (focus := false) (fuel := 0) (give := []) (fn := F.s_EditMove) (by kernel_rfl) (by kernel_rfl) (by kernel_rfl) (by kernel_rfl) (cs := []) (by kernel_rfl) loops0) (S_fnR_of fun d K h => (e_s_EditMove d.1 d.2.1 K).trans (v_s_EditMove d.1 d.2.1 h K))
end Go.Ev.Seat
end
section
/- s_EditMoves: its contract. -/
namespace Go.Ev.Seat
open Go.RowKit
set_option maxRecDepth 100000
set_option linter.unusedVariables false
set_option linter.unusedSimpArgs false
def z_s_EditMoves_5_0 (x5 : Bool) (b00 : Int) (b01 : Int) (b10 : Int) (b11 : Int) (o2 : List Int) : St := { tm := ([.x, .x, .x, .x, (.pb 0 0), (.s (.bool x5)), (.pb 1 0)] ++ List.replicate 36 .x), ob := [(0, (.box [(.s (.int .i64 b00)), (.s (.int .i64 b01)), .nl])), (1, (.box [(.s (.int .i64 b10)), (.s (.int .i64 b11)), (.w 2)])), (2, (.arr true true bytesR o2))], nx := 3, io := [] }
def z_s_EditMoves_5_1 (b00 : Int) (b01 : Int) (b10 : Int) (b11 : Int) (o2 : List Int) : St := { tm := ([.x, .x, .x, .x, (.pb 0 0), .x, (.pb 1 0)] ++ List.replicate 36 .x), ob := [(0, (.box [(.s (.int .i64 b00)), (.s (.int .i64 b01)), .nl])), (1, (.box [(.s (.int .i64 b10)), (.s (.int .i64 b11)), (.w 2)])), (2, (.arr true true bytesR o2))], nx := 3, io := [] }
def sh_s_EditMoves_5_0 : Ss := { tm := (.cons (.x) (.cons (.l .no editR) (.cons (.x) (.cons (.x) (.cons (.pb 0 0) (.cons (.x) (.cons (.pb 1 0) (.cons (.int .i64) (xsh 35))))))))), ob := (.box (.cons (.int .i64) (.cons (.int .i64) (.cons (.nl) .nil))) (.box (.cons (.int .i64) (.cons (.int .i64) (.cons (.w 2) .nil))) (.arr true true bytesR .nil))), nx := 3, io := .nil }
def d_s_EditMoves_5_0 (x1 : List T_Edit) (x7 : Int) (b00 : Int) (b01 : Int) (b10 : Int) (b11 : Int) (o2 : List Int) : sh_s_EditMoves_5_0.T := (((), (x1, ((), ((), ((), ((), ((), (x7, xd 35)))))))), ((b00, (b01, ((), ()))), ((b10, (b11, ((), ()))), (o2, ()))), ())
def s_s_EditMoves_5_0 (x1 : List T_Edit) (x7 : Int) (b00 : Int) (b01 : Int) (b10 : Int) (b11 : Int) (o2 : List Int) : St := { tm := ([.x, (.l .no editR x1), .x, .x, (.pb 0 0), .x, (.pb 1 0), (.s (.int .i64 x7))] ++ List.replicate 35 .x), ob := [(0, (.box [(.s (.int .i64 b00)), (.s (.int .i64 b01)), .nl])), (1, (.box [(.s (.int .i64 b10)), (.s (.int .i64 b11)), (.w 2)])), (2, (.arr true true bytesR o2))], nx := 3, io := [] }
theorem se_s_EditMoves_5_0 (x1 : List T_Edit) (x7 : Int) (b00 : Int) (b01 : Int) (b10 : Int) (b11 : Int) (o2 : List Int) : sh_s_EditMoves_5_0.mk' (d_s_EditMoves_5_0 x1 x7 b00 b01 b10 b11 o2) = (s_s_EditMoves_5_0 x1 x7 b00 b01 b10 b11 o2) := by kernel_rfl
def w_s_EditMoves_5_0 (d : sh_s_EditMoves_5_0.T) (f : (List T_Edit) → Int → Int → Int → Int → Int → (List Int) → Option Ret) : Option Ret := match d with | ((_, (x1, (_, (_, (_, (_, (_, (x7, _)))))))), ((b00, (b01, (_, _))), ((b10, (b11, (_, _))), (o2, _))), _) => f x1 x7 b00 b01 b10 b11 o2
noncomputable def P_s_EditMoves_5_0 (x1 : List T_Edit) (x7 : Int) (b00 : Int) (b01 : Int) (b10 : Int) (b11 : Int) (o2 : List Int) (nx0 : (List T_Edit) → Int → Int → Int → Int → Int → (List Int) → Option Ret) (k0 : Bool → Int → Int → Int → Int → (List Int) → Option Ret) (k1 : Int → Int → Int → Int → (List Int) → Option Ret) : Option Ret :=
 (bif (decide (x7 < (((List.length x1) : Nat) : Int))) then
 (bif ((decide ((0 : Int) ≤ x7)) && (decide (x7 < (((List.length x1) : Nat) : Int)))) then
  (meet
   ((bif (Nat.ble (List.length o2) 1048576) then
    (bif (!(moveD (b10, (b11, o2)) (List.getD x1 (Int.toNat x7) (editR.dflt))).2) then
     (k0 false (0 : Int) (0 : Int) b10 b11 o2)
     else (nx0 x1 (IntKind.wrap .i64 (x7 + (1 : Int))) b00 b01 (moveD (b10, (b11, o2)) (List.getD x1 (Int.toNat x7) (editR.dflt))).1.1 (moveD (b10, (b11, o2)) (List.getD x1 (Int.toNat x7) (editR.dflt))).1.2.1 (moveD (b10, (b11, o2)) (List.getD x1 (Int.toNat x7) (editR.dflt))).1.2.2))
    else none))
   ((bif (Nat.ble (List.length o2) 1048576) then
    (bif (!(moveD (b10, (b11, o2)) (List.getD x1 (Int.toNat x7) (editR.dflt))).2) then
     (k0 false (0 : Int) (0 : Int) b10 b11 o2)
     else (nx0 x1 (IntKind.wrap .i64 (x7 + (1 : Int))) b00 b01 (moveD (b10, (b11, o2)) (List.getD x1 (Int.toNat x7) (editR.dflt))).1.1 (moveD (b10, (b11, o2)) (List.getD x1 (Int.toNat x7) (editR.dflt))).1.2.1 (moveD (b10, (b11, o2)) (List.getD x1 (Int.toNat x7) (editR.dflt))).1.2.2))
    else none)))
  else none)
 else (k1 b00 b01 b10 b11 o2))
noncomputable def Q_s_EditMoves_5_0 : Nat → (List T_Edit) → Int → Int → Int → Int → Int → (List Int) → (Bool → Int → Int → Int → Int → (List Int) → Option Ret) → (Int → Int → Int → Int → (List Int) → Option Ret) → Option Ret
  | 0, _, _, _, _, _, _, _, _, _ => none
  | m + 1, x1, x7, b00, b01, b10, b11, o2, k0, k1 => P_s_EditMoves_5_0 x1 x7 b00 b01 b10 b11 o2 (fun x1 x7 b00 b01 b10 b11 o2 => (Q_s_EditMoves_5_0 m x1 x7 b00 b01 b10 b11 o2 k0 k1)) k0 k1
noncomputable def R_s_EditMoves_5_0 (x1 : List T_Edit) (x7 : Int) (b00 : Int) (b01 : Int) (b10 : Int) (b11 : Int) (o2 : List Int) (k0 : Bool → Int → Int → Int → Int → (List Int) → Option Ret) (k1 : Int → Int → Int → Int → (List Int) → Option Ret) : Option Ret := Q_s_EditMoves_5_0 (List.length x1 + x7.toNat + b00.toNat + b01.toNat + b10.toNat + b11.toNat + List.length o2 + 2) x1 x7 b00 b01 b10 b11 o2 k0 k1
noncomputable def W_s_EditMoves_5 : LoopFn := (fun (σ : St) (K : Ex → St → Option Ret) => (match sh_s_EditMoves_5_0.un σ with | some d => w_s_EditMoves_5_0 d (fun x1 x7 b00 b01 b10 b11 o2 => R_s_EditMoves_5_0 x1 x7 b00 b01 b10 b11 o2 (fun x5 b00 b01 b10 b11 o2 => (K .ret (z_s_EditMoves_5_0 x5 b00 b01 b10 b11 o2))) (fun b00 b01 b10 b11 o2 => (K (.ext 0) (z_s_EditMoves_5_1 b00 b01 b10 b11 o2)))) | none => none))
noncomputable abbrev E_s_EditMoves : Env := En [(N.s_l05Small, true, S_s_l05Small), (N.s_EditMove, true, S_s_EditMove)] [(3, takeB [0, 1, 2, 3, 5, 6] (.fork (.more 4 (.fork (.more 7 (takeB [8] (.fork (.one 9 (.fork (.one 10 (.done)))))) (.one 9 (.fork (.one 7 (takeB [8] (.fork (.one 10 (.done))))))))) (.one 9 (.fork (.one 4 (.fork (.one 7 (takeB [8] (.fork (.one 10 (.done))))))))))), []), (7, takeB [0, 1, 2, 3, 4] (.fork (.more 5 (takeB [6, 7, 8] (.fork (.one 9 (.fork (.one 10 (takes [11])))))) (.one 9 (.fork (.one 5 (takeB [6, 7, 8] (.fork (.one 10 (takes [11]))))))))), [])] [(5, [1,4,6,7], [4,5,6], W_s_EditMoves_5)] [] false 0 []
theorem st_s_EditMoves_5_0 (m : Nat) (x1 : List T_Edit) (x7 : Int) (b00 : Int) (b01 : Int) (b10 : Int) (b11 : Int) (o2 : List Int) (K : Ex → St → Option Ret) : rounds (run E_s_EditMoves (bodyOf F.s_EditMoves 5)) [1,4,6,7] [4,5,6] (m + 1) (s_s_EditMoves_5_0 x1 x7 b00 b01 b10 b11 o2) K = P_s_EditMoves_5_0 x1 x7 b00 b01 b10 b11 o2 (fun x1 x7 b00 b01 b10 b11 o2 => (rounds (run E_s_EditMoves (bodyOf F.s_EditMoves 5)) [1,4,6,7] [4,5,6] m (s_s_EditMoves_5_0 x1 x7 b00 b01 b10 b11 o2) K)) (fun x5 b00 b01 b10 b11 o2 => (K .ret (z_s_EditMoves_5_0 x5 b00 b01 b10 b11 o2))) (fun b00 b01 b10 b11 o2 => (K (.ext 0) (z_s_EditMoves_5_1 b00 b01 b10 b11 o2))) := by kernel_rfl
theorem q_s_EditMoves_5 (K : Ex → St → Option Ret) : ∀ m : Nat, (∀ (x1 : List T_Edit) (x7 : Int) (b00 : Int) (b01 : Int) (b10 : Int) (b11 : Int) (o2 : List Int), rounds (run E_s_EditMoves (bodyOf F.s_EditMoves 5)) [1,4,6,7] [4,5,6] m (s_s_EditMoves_5_0 x1 x7 b00 b01 b10 b11 o2) K = Q_s_EditMoves_5_0 m x1 x7 b00 b01 b10 b11 o2 (fun x5 b00 b01 b10 b11 o2 => (K .ret (z_s_EditMoves_5_0 x5 b00 b01 b10 b11 o2))) (fun b00 b01 b10 b11 o2 => (K (.ext 0) (z_s_EditMoves_5_1 b00 b01 b10 b11 o2))))
  | 0 => (fun _ _ _ _ _ _ _ => rfl)
  | m + 1 => (fun x1 x7 b00 b01 b10 b11 o2 => (by rw [st_s_EditMoves_5_0, show (fun x1 x7 b00 b01 b10 b11 o2 => (rounds (run E_s_EditMoves (bodyOf F.s_EditMoves 5)) [1,4,6,7] [4,5,6] m (s_s_EditMoves_5_0 x1 x7 b00 b01 b10 b11 o2) K)) = (fun x1 x7 b00 b01 b10 b11 o2 => (Q_s_EditMoves_5_0 m x1 x7 b00 b01 b10 b11 o2 (fun x5 b00 b01 b10 b11 o2 => (K .ret (z_s_EditMoves_5_0 x5 b00 b01 b10 b11 o2))) (fun b00 b01 b10 b11 o2 => (K (.ext 0) (z_s_EditMoves_5_1 b00 b01 b10 b11 o2))))) from funext fun x1 => funext fun x7 => funext fun b00 => funext fun b01 => funext fun b10 => funext fun b11 => funext fun o2 => (q_s_EditMoves_5 K m) x1 x7 b00 b01 b10 b11 o2]; rfl))
theorem loopK_s_EditMoves_5 : LoopOk E_s_EditMoves (bodyOf F.s_EditMoves 5) := by
  refine loopW_ok (n := 5) (F := W_s_EditMoves_5) (by kernel_rfl) rfl (li := [1,4,6,7]) (lo := [4,5,6]) rfl (fun σ K r hr => ?_)
  unfold W_s_EditMoves_5 at hr
  split at hr
  · rename_i d hd
    rw [Ss.un_mk hd]
    exact ⟨_, ((congrArg (fun z => rounds (run E_s_EditMoves (bodyOf F.s_EditMoves 5)) [1,4,6,7] [4,5,6] _ z K) (se_s_EditMoves_5_0 _ _ _ _ _ _ _)).trans ((q_s_EditMoves_5 K _) _ _ _ _ _ _ _)).trans hr⟩
  · cases hr
noncomputable def T_s_EditMoves (e : T_Edit) (l : List T_Edit) (K : Ret → Option Ret) : Option Ret :=
 (bif (!(smallE e)) then
 K ((.t [(.a [(.s (.int .i64 (0 : Int))), (.s (.int .i64 (0 : Int))), (.l .deep bytesR ([] : List Int))]), (.s (.bool false))]), [])
 else (meet
  ((meet
   ((bif (Nat.ble (((List.length ([] : List Int)) + (List.length e.2.2)) * 1) 140737488355328) then
    (R_s_EditMoves_5_0 l (0 : Int) (0 : Int) (0 : Int) e.1 e.2.1 (([] : List Int) ++ e.2.2) (fun y0 y1 y2 y3 y4 y5 =>
     K ((.t [(.a [(.s (.int .i64 y1)), (.s (.int .i64 y2)), (.l .deep bytesR ([] : List Int))]), (.s (.bool y0))]), [])) (fun y6 y7 y8 y9 y10 =>
     K ((.t [(.a [(.s (.int .i64 y8)), (.s (.int .i64 y9)), (.l .deep bytesR y10)]), (.s (.bool true))]), [])))
    else none))
   ((bif (Nat.ble (((List.length ([] : List Int)) + (List.length e.2.2)) * 1) 140737488355328) then
    (R_s_EditMoves_5_0 l (0 : Int) (0 : Int) (0 : Int) e.1 e.2.1 (([] : List Int) ++ e.2.2) (fun y11 y12 y13 y14 y15 y16 =>
     K ((.t [(.a [(.s (.int .i64 y12)), (.s (.int .i64 y13)), (.l .deep bytesR ([] : List Int))]), (.s (.bool y11))]), [])) (fun y17 y18 y19 y20 y21 =>
     K ((.t [(.a [(.s (.int .i64 y19)), (.s (.int .i64 y20)), (.l .deep bytesR y21)]), (.s (.bool true))]), [])))
    else none))))
  ((bif (Nat.ble (((List.length ([] : List Int)) + (List.length e.2.2)) * 1) 140737488355328) then
   (R_s_EditMoves_5_0 l (0 : Int) (0 : Int) (0 : Int) e.1 e.2.1 (([] : List Int) ++ e.2.2) (fun y22 y23 y24 y25 y26 y27 =>
    K ((.t [(.a [(.s (.int .i64 y23)), (.s (.int .i64 y24)), (.l .deep bytesR ([] : List Int))]), (.s (.bool y22))]), [])) (fun y28 y29 y30 y31 y32 =>
    K ((.t [(.a [(.s (.int .i64 y30)), (.s (.int .i64 y31)), (.l .deep bytesR y32)]), (.s (.bool true))]), [])))
   else none))))
theorem e_s_EditMoves (e : T_Edit) (l : List T_Edit) (K : Ret → Option Ret) : evF E_s_EditMoves true F.s_EditMoves [.a (editR.cells .no e), .l .no editR l] K = T_s_EditMoves e l K := by kernel_rfl
theorem sem_loop {l : List T_Edit} {X : Option Ret} {k0 : Bool → Int → Int → Int → Int → (List Int) → Option Ret} {k1 : Int → Int → Int → Int → (List Int) → Option Ret} (hX : ∀ a b c, k0 false 0 0 a b c = X) (hl : l.length ≤ 1048576) : ∀ (m i : Nat) (e : T_Edit), i ≤ l.length → l.length - i < m → e.2.2.length ≤ 1048576 →
    Q_s_EditMoves_5_0 m l (i : Int) 0 0 e.1 e.2.1 e.2.2 k0 k1 = bif (movesL (l.drop i) e).2 then k1 0 0 (movesL (l.drop i) e).1.1 (movesL (l.drop i) e).1.2.1 (movesL (l.drop i) e).1.2.2 else X
  | 0, i, e, _, h, _ => absurd h (by omega)
  | m + 1, i, e, h1, h2, h3 => by
    show P_s_EditMoves_5_0 l (i : Int) 0 0 e.1 e.2.1 e.2.2 _ _ _ = _
    unfold P_s_EditMoves_5_0
    by_cases h : i < l.length
    · rw [decide_eq_true (show ((i : Nat) : Int) < ((l.length : Nat) : Int) by omega), decide_eq_true (show (0 : Int) ≤ ((i : Nat) : Int) by omega), Int.toNat_natCast, wrap_nat (by omega), getD_lt _ h, meet_self, Nat.ble_eq_true_of_le h3, List.drop_eq_getElem_cons h]
      simp only [movesL]
      show (bif !(moveD e l[i]).2 then k0 false 0 0 e.1 e.2.1 e.2.2 else Q_s_EditMoves_5_0 m l ((i + 1 : Nat) : Int) 0 0 (moveD e l[i]).1.1 (moveD e l[i]).1.2.1 (moveD e l[i]).1.2.2 k0 k1) = _
      unfold moveD
      cases hs : (smallE e && smallE l[i]) with
      | false => exact hX _ _ _
      | true => exact sem_loop hX hl m (i + 1) (movedD e l[i]) (by omega) (by omega) h3
    · obtain rfl : i = l.length := by omega
      rw [decide_eq_false (show ¬ ((l.length : Nat) : Int) < ((l.length : Nat) : Int) by omega), List.drop_length]; rfl
def S_s_EditMoves : Sm := S_fnR [.a editR, .l editR] (fun d => fitC (.sl editR) d.2.1 && Nat.ble d.1.2.2.length 1048576) (fun d => (.t [.a (editR.cells .deep (movesD d.1 d.2.1).1), bl (movesD d.1 d.2.1).2], []))
theorem v_s_EditMoves (e : T_Edit) (l : List T_Edit) (h : (fitC (.sl editR) l && Nat.ble e.2.2.length 1048576) = true) (K : Ret → Option Ret) : T_s_EditMoves e l K = K (.t [.a (editR.cells .deep (movesD e l).1), bl (movesD e l).2], []) := by
  obtain ⟨h1, h2⟩ := (Bool.and_eq_true _ _).mp h
  have hl := fitC_len h1
  have hp := Nat.le_of_ble_eq_true h2
  unfold T_s_EditMoves movesD
  cases hs : smallE e with
  | false => rfl
  | true =>
    have e0 : ∀ k0 k1, R_s_EditMoves_5_0 l 0 0 0 e.1 e.2.1 ([] ++ e.2.2) k0 k1 = Q_s_EditMoves_5_0 (List.length l + (0 : Int).toNat + (0 : Int).toNat + (0 : Int).toNat + e.1.toNat + e.2.1.toNat + List.length ([] ++ e.2.2) + 2) l ((0 : Nat) : Int) 0 0 e.1 e.2.1 e.2.2 k0 k1 := fun _ _ => rfl
    simp only [meet_self, e0]
    rw [Nat.ble_eq_true_of_le (by simp only [List.length_nil]; omega), sem_loop (X := K (.t [.a (editR.cells .deep badE.1), bl badE.2], [])) (fun _ _ _ => rfl) hl _ 0 e (by omega) (by omega) hp, List.drop_zero]
    simp only [Bool.not_true, cond_true, cond_false]
    have hb : ∀ (l : List T_Edit) (e : T_Edit), (movesL l e).2 = false → movesL l e = badE := by
      intro l
      induction l with
      | nil => intro e h; cases h
      | cons b l ih =>
        intro e h
        simp only [movesL] at h ⊢
        cases hs : (smallE e && smallE b) with
        | false => rfl
        | true => rw [hs] at h; exact ih _ h
    cases hm : (movesL l e).2 with
    | false => rw [hb l e hm]; rfl
    | true => rfl
theorem okS_s_EditMoves : OkFn prog I N.s_EditMoves true S_s_EditMoves := okN (ok_fn (memc okS_s_l05Small (memc okS_s_EditMove mem0)) (l := [(N.s_l05Small, true, S_s_l05Small), (N.s_EditMove, true, S_s_EditMove)]) (p := [(3, takeB [0, 1, 2, 3, 5, 6] (.fork (.more 4 (.fork (.more 7 (takeB [8] (.fork (.one 9 (.fork (.one 10 (.done)))))) (.one 9 (.fork (.one 7 (takeB [8] (.fork (.one 10 (.done))))))))) (.one 9 (.fork (.one 4 (.fork (.one 7 (takeB [8] (.fork (.one 10 (.done))))))))))), []), (7, takeB [0, 1, 2, 3, 4] (.fork (.more 5 (takeB [6, 7, 8] (.fork (.one 9 (.fork (.one 10 (takes [11])))))) (.one 9 (.fork (.one 5 (takeB [6, 7, 8] (.fork (.one 10 (takes [11]))))))))), [])]) (ls := [(5, [1,4,6,7], [4,5,6], W_s_EditMoves_5)]) (lend := []) (focus := false) (fuel := 0) (give := []) (fn := F.s_EditMoves) (by kernel_rfl) (by kernel_rfl) (by kernel_rfl) (by kernel_rfl) (cs := [bodyOf F.s_EditMoves 5]) (by kernel_rfl) (loopsc loopK_s_EditMoves_5 loops0)) (S_fnR_of fun d K h => (e_s_EditMoves d.1 d.2.1 K).trans (v_s_EditMoves d.1 d.2.1 h K))
end Go.Ev.Seat
end
section
/- i_in: its contract. -/
namespace Go.Ev.Seat
open Go.RowKit
set_option maxRecDepth 100000
set_option linter.unusedVariables false
set_option linter.unusedSimpArgs false
noncomputable abbrev E_i_in : Env := En [] [] [] [] false 0 []
noncomputable def T_i_in (n : Int) (low : Int) (high : Int) (K : Ret → Option Ret) : Option Ret :=
 (bif (decide (low ≤ n)) then
 K ((.s (.bool (decide (n ≤ high)))), [])
 else K ((.s (.bool false)), []))
theorem e_i_in (n : Int) (low : Int) (high : Int) (K : Ret → Option Ret) : evF E_i_in true F.i_in [.s (.int .i64 n), .s (.int .i64 low), .s (.int .i64 high)] K = T_i_in n low high K := by kernel_rfl
def S_i_in : Sm := S_fnR [.i, .i, .i] (fun d => true) (fun d => (bl (decide (d.2.1 ≤ d.1) && decide (d.1 ≤ d.2.2.1)), []))
theorem v_i_in (n : Int) (low : Int) (high : Int) (K : Ret → Option Ret) : T_i_in n low high K = K (bl (decide (low ≤ n) && decide (n ≤ high)), []) := by
  unfold T_i_in; cases decide (low ≤ n) <;> rfl
theorem okS_i_in : OkFn prog I N.i_in true S_i_in := okN (ok_fn mem0 (l := []) (p := []) (ls := []) (lend := []) (focus := false) (fuel := 0) (give := []) (fn := F.i_in) (by kernel_rfl) (by kernel_rfl) (by kernel_rfl) (by kernel_rfl) (cs := []) (by kernel_rfl) loops0) (S_fnR_of fun d K h => (e_i_in d.1 d.2.1 d.2.2.1 K).trans (v_i_in d.1 d.2.1 d.2.2.1 K))
end Go.Ev.Seat
end
section
/- i_Edit_isSmall: its contract. -/
namespace Go.Ev.Seat
open Go.RowKit
set_option maxRecDepth 100000
set_option linter.unusedVariables false
set_option linter.unusedSimpArgs false
noncomputable abbrev E_i_Edit_isSmall : Env := En [(N.i_in, true, S_i_in)] [] [] [] false 0 []
noncomputable def T_i_Edit_isSmall (e : T_Edit) (K : Ret → Option Ret) : Option Ret :=
 (bif ((decide ((0 : Int) ≤ e.1)) && (decide (e.1 ≤ (400 : Int)))) then
 (bif ((decide ((0 : Int) ≤ e.2.1)) && (decide (e.2.1 ≤ (400 : Int)))) then
  K ((.s (.bool (decide ((((List.length e.2.2) : Nat) : Int) ≤ (400 : Int))))), [])
  else K ((.s (.bool false)), []))
 else K ((.s (.bool false)), []))
theorem e_i_Edit_isSmall (e : T_Edit) (K : Ret → Option Ret) : evF E_i_Edit_isSmall true F.i_Edit_isSmall [.a (editR.cells .no e)] K = T_i_Edit_isSmall e K := by kernel_rfl
def S_i_Edit_isSmall : Sm := S_fnR [.a editR] (fun d => true) (fun d => (bl (smallE d.1), []))
theorem v_i_Edit_isSmall (e : T_Edit) (K : Ret → Option Ret) : T_i_Edit_isSmall e K = K (bl (smallE e), []) := by
  unfold T_i_Edit_isSmall smallE in400
  cases (decide (0 ≤ e.1) && decide (e.1 ≤ 400)) <;> cases (decide (0 ≤ e.2.1) && decide (e.2.1 ≤ 400)) <;> rfl
theorem okS_i_Edit_isSmall : OkFn prog I N.i_Edit_isSmall true S_i_Edit_isSmall := okN (ok_fn (memc okS_i_in mem0) (l := [(N.i_in, true, S_i_in)]) (p := []) (ls := []) (lend := []) (focus := false) (fuel := 0) (give := []) (fn := F.i_Edit_isSmall) (by kernel_rfl) (by kernel_rfl) (by kernel_rfl) (by kernel_rfl) (cs := []) (by kernel_rfl) loops0) (S_fnR_of fun d K h => (e_i_Edit_isSmall d.1 K).trans (v_i_Edit_isSmall d.1 K))
end Go.Ev.Seat
end
section
/- i_Edit_pos: its contract. -/
namespace Go.Ev.Seat
open Go.RowKit
set_option maxRecDepth 100000
set_option linter.unusedVariables false
set_option linter.unusedSimpArgs false
noncomputable abbrev E_i_Edit_pos : Env := En [] [] [] [] false 0 []
noncomputable def T_i_Edit_pos (e : T_Edit) (p : Int) (r : Bool) (K : Ret → Option Ret) : Option Ret :=
 (bif (decide (p < e.1)) then
 K ((.s (.int .i64 p)), [])
 else (bif (p == e.1) then
  (bif r then
   K ((.s (.int .i64 (IntKind.wrap .i64 (e.1 + (((List.length e.2.2) : Nat) : Int))))), [])
   else K ((.s (.int .i64 e.1)), []))
  else (bif (decide (p < (IntKind.wrap .i64 (e.1 + e.2.1)))) then
   (bif r then
    K ((.s (.int .i64 (IntKind.wrap .i64 (e.1 + (((List.length e.2.2) : Nat) : Int))))), [])
    else K ((.s (.int .i64 e.1)), []))
   else K ((.s (.int .i64 (IntKind.wrap .i64 ((IntKind.wrap .i64 (p - e.2.1)) + (((List.length e.2.2) : Nat) : Int))))), []))))
theorem e_i_Edit_pos (e : T_Edit) (p : Int) (r : Bool) (K : Ret → Option Ret) : evF E_i_Edit_pos true F.i_Edit_pos [.a (editR.cells .no e), .s (.int .i64 p), .s (.bool r)] K = T_i_Edit_pos e p r K := by kernel_rfl
def S_i_Edit_pos : Sm := S_fnR [.a editR, .i, .b] (fun d => placeB d.2.1 && smallE d.1) (fun d => (.s (.int .i64 (posD d.1 d.2.1 d.2.2.1)), []))
theorem v_i_Edit_pos (e : T_Edit) (p : Int) (r : Bool) (h : (placeB p && smallE e) = true) (K : Ret → Option Ret) : T_i_Edit_pos e p r K = K (.s (.int .i64 (posD e p r)), []) := by
  obtain ⟨hp, HS⟩ := (Bool.and_eq_true _ _).mp h
  have hp' := placeB_iff.1 hp
  unfold T_i_Edit_pos
  have q := smallE_iff.1 HS
  rw [wrap_in (n := e.1 + ((e.2.2.length : Nat) : Int)) (by omega) (by omega), wrap_in (n := e.1 + e.2.1) (by omega) (by omega), wrap_in (n := p - e.2.1) (by omega) (by omega), wrap_in (n := p - e.2.1 + ((e.2.2.length : Nat) : Int)) (by omega) (by omega)]
  unfold posD
  cases decide (p < e.1)
  · cases (p == e.1)
    · cases decide (p < e.1 + e.2.1)
      · rfl
      · cases r <;> rfl
    · cases r <;> rfl
  · rfl
theorem okS_i_Edit_pos : OkFn prog I N.i_Edit_pos true S_i_Edit_pos := okN (ok_fn mem0 (l := []) (p := []) (ls := []) (lend := []) (focus := false) (fuel := 0) (give := []) (fn := F.i_Edit_pos) (by kernel_rfl) (by kernel_rfl) (by kernel_rfl) (by kernel_rfl) (cs := []) (by kernel_rfl) loops0) (S_fnR_of fun d K h => (e_i_Edit_pos d.1 d.2.1 d.2.2.1 K).trans (v_i_Edit_pos d.1 d.2.1 d.2.2.1 h K))
end Go.Ev.Seat
end
section
/- i_Edit_span: its contract. -/
namespace Go.Ev.Seat
open Go.RowKit
set_option maxRecDepth 100000
set_option linter.unusedVariables false
set_option linter.unusedSimpArgs false
noncomputable abbrev E_i_Edit_span : Env := En [(N.i_Edit_pos, true, S_i_Edit_pos)] [(1, takeB [0, 1, 3, 4] (.fork (.one 2 (.fork (.one 5 (takes [6, 7]))))), [])] [] [] false 0 []
noncomputable def T_i_Edit_span (e : T_Edit) (i : Int) (j : Int) (K : Ret → Option Ret) : Option Ret :=
 (bif ((placeB i) && (smallE e)) then
 (bif ((placeB j) && (smallE e)) then
  (bif (decide ((posD e j false) < (posD e i true))) then
   K ((.t [(.s (.int .i64 (posD e i true))), (.s (.int .i64 (posD e i true)))]), [])
   else (bif (i == j) then
    K ((.t [(.s (.int .i64 (posD e i true))), (.s (.int .i64 (posD e i true)))]), [])
    else K ((.t [(.s (.int .i64 (posD e i true))), (.s (.int .i64 (posD e j false)))]), [])))
  else none)
 else none)
theorem e_i_Edit_span (e : T_Edit) (i : Int) (j : Int) (K : Ret → Option Ret) : evF E_i_Edit_span true F.i_Edit_span [.a (editR.cells .no e), .s (.int .i64 i), .s (.int .i64 j)] K = T_i_Edit_span e i j K := by kernel_rfl
def S_i_Edit_span : Sm := S_fnR [.a editR, .i, .i] (fun d => placeB d.2.1 && placeB d.2.2.1 && smallE d.1 && decide (d.2.1 ≤ d.2.2.1)) (fun d => (.t [.s (.int .i64 (spanD d.1 d.2.1 d.2.2.1).1), .s (.int .i64 (spanD d.1 d.2.1 d.2.2.1).2)], []))
theorem v_i_Edit_span (e : T_Edit) (i : Int) (j : Int) (h : (placeB i && placeB j && smallE e && decide (i ≤ j)) = true) (K : Ret → Option Ret) : T_i_Edit_span e i j K = K (.t [.s (.int .i64 (spanD e i j).1), .s (.int .i64 (spanD e i j).2)], []) := by
  simp only [Bool.and_eq_true, decide_eq_true_eq] at h
  obtain ⟨⟨⟨hi, hj⟩, he⟩, hij⟩ := h
  have hi' := placeB_iff.1 hi
  have hj' := placeB_iff.1 hj
  have p1 := posD_range (p := i) true he (by omega)
  have p2 := posD_range (p := j) false he (by omega)
  unfold T_i_Edit_span spanD
  rw [hi, hj, he]
  cases (i == j) with
  | true => cases decide (posD e j false < posD e i true) <;> rfl
  | false =>
    by_cases hlt : posD e j false < posD e i true
    · rw [decide_eq_true hlt]
      show K (.t [_, .s (.int .i64 (posD e i true))], []) = K (.t [_, .s (.int .i64 (max (posD e i true) (posD e j false)))], [])
      rw [show max (posD e i true) (posD e j false) = posD e i true by omega]
    · rw [decide_eq_false hlt]
      show K (.t [_, .s (.int .i64 (posD e j false))], []) = K (.t [_, .s (.int .i64 (max (posD e i true) (posD e j false)))], [])
      rw [show max (posD e i true) (posD e j false) = posD e j false by omega]
theorem okS_i_Edit_span : OkFn prog I N.i_Edit_span true S_i_Edit_span := okN (ok_fn (memc okS_i_Edit_pos mem0) (l := [(N.i_Edit_pos, true, S_i_Edit_pos)]) (p := [(1, takeB [0, 1, 3, 4] (.fork (.one 2 (.fork (.one 5 (takes [6, 7]))))), [])]) (ls := []) (lend := []) (focus := false) (fuel := 0) (give := []) (fn := F.i_Edit_span) (by kernel_rfl) (by kernel_rfl) (by kernel_rfl) (by kernel_rfl) (cs := []) (by kernel_rfl) loops0) (S_fnR_of fun d K h => (e_i_Edit_span d.1 d.2.1 d.2.2.1 K).trans (v_i_Edit_span d.1 d.2.1 d.2.2.1 h K))
end Go.Ev.Seat
end
section
/- i_Edit_moved: its contract. -/
namespace Go.Ev.Seat
open Go.RowKit
set_option maxRecDepth 100000
set_option linter.unusedVariables false
set_option linter.unusedSimpArgs false
noncomputable abbrev E_i_Edit_moved : Env := En [(N.i_Edit_span, true, S_i_Edit_span)] [] [] [] false 0 []
noncomputable def T_i_Edit_moved (e : T_Edit) (b : T_Edit) (K : Ret → Option Ret) : Option Ret :=
 (bif ((((placeB e.1) && (placeB (IntKind.wrap .i64 (e.1 + e.2.1)))) && (smallE b)) && (decide (e.1 ≤ (IntKind.wrap .i64 (e.1 + e.2.1))))) then
 K ((.a [(.s (.int .i64 (posD b e.1 true))), (.s (.int .i64 (IntKind.wrap .i64 ((bif (e.1 == (IntKind.wrap .i64 (e.1 + e.2.1))) then (posD b e.1 true) else (Max.max (posD b e.1 true) (posD b (IntKind.wrap .i64 (e.1 + e.2.1)) false))) - (posD b e.1 true))))), (.l .no bytesR e.2.2)]), [])
 else none)
theorem e_i_Edit_moved (e : T_Edit) (b : T_Edit) (K : Ret → Option Ret) : evF E_i_Edit_moved false F.i_Edit_moved [.a (editR.cells .no e), .a (editR.cells .no b)] K = T_i_Edit_moved e b K := by kernel_rfl
def S_i_Edit_moved : Sm := S_fnR [.a editR, .a editR] (fun d => smallE d.1 && smallE d.2.1) (fun d => (.a (editR.cells .no (movedD d.1 d.2.1)), []))
theorem v_i_Edit_moved (e : T_Edit) (b : T_Edit) (h : (smallE e && smallE b) = true) (K : Ret → Option Ret) : T_i_Edit_moved e b K = K (.a (editR.cells .no (movedD e b)), []) := by
  obtain ⟨ha, hb⟩ := (Bool.and_eq_true _ _).mp h
  have ha' := smallE_iff.1 ha
  have hb' := smallE_iff.1 hb
  have p1 := posD_range (p := e.1) true hb (by omega)
  have p2 := posD_range (p := e.1 + e.2.1) false hb (by omega)
  have hr := movedD_range ha hb
  have e3 : (movedD e b).2.1 = (bif (e.1 == e.1 + e.2.1) then posD b e.1 true else max (posD b e.1 true) (posD b (e.1 + e.2.1) false)) - posD b e.1 true := rfl
  rw [e3] at hr
  unfold T_i_Edit_moved
  rw [wrap_in (n := e.1 + e.2.1) (by omega) (by omega), placeB_iff.2 (show 0 ≤ e.1 ∧ e.1 ≤ 800 by omega), placeB_iff.2 (show 0 ≤ e.1 + e.2.1 ∧ e.1 + e.2.1 ≤ 800 by omega), hb, decide_eq_true (show e.1 ≤ e.1 + e.2.1 by omega), wrap_in (n := (bif (e.1 == e.1 + e.2.1) then posD b e.1 true else max (posD b e.1 true) (posD b (e.1 + e.2.1) false)) - posD b e.1 true) (by omega) (by omega)]
  rfl
theorem okS_i_Edit_moved : OkFn prog I N.i_Edit_moved false S_i_Edit_moved := okN (ok_fn (memc okS_i_Edit_span mem0) (l := [(N.i_Edit_span, true, S_i_Edit_span)]) (p := []) (ls := []) (lend := []) (focus := false) (fuel := 0) (give := []) (fn := F.i_Edit_moved) (by kernel_rfl) (by kernel_rfl) (by kernel_rfl) (by kernel_rfl) (cs := []) (by kernel_rfl) loops0) (S_fnR_of fun d K h => (e_i_Edit_moved d.1 d.2.1 K).trans (v_i_Edit_moved d.1 d.2.1 h K))
end Go.Ev.Seat
end
section
/- slices_Clone_bytes_byte: its contract. -/
namespace Go.Ev.Seat
open Go.RowKit
set_option maxRecDepth 100000
set_option linter.unusedVariables false
set_option linter.unusedSimpArgs false
noncomputable abbrev E_slices_Clone_bytes_byte : Env := En [] [] [] [] false 0 []
noncomputable def T_slices_Clone_bytes_byte (l : List Int) (K : Ret → Option Ret) : Option Ret :=
 (bif (Nat.beq (List.length l) 0) then
 (meet
  (K ((.l .deep bytesR ([] : List Int)), []))
  ((bif (Nat.ble (((List.length ([] : List Int)) + (List.length l)) * 1) 140737488355328) then
   K ((.l .deep bytesR (([] : List Int) ++ l)), [])
   else none)))
 else (bif (Nat.ble (((List.length ([] : List Int)) + (List.length l)) * 1) 140737488355328) then
  K ((.l .deep bytesR (([] : List Int) ++ l)), [])
  else none))
theorem e_slices_Clone_bytes_byte (l : List Int) (K : Ret → Option Ret) : evF E_slices_Clone_bytes_byte true F.slices_Clone_bytes_byte [.l .no bytesR l] K = T_slices_Clone_bytes_byte l K := by kernel_rfl
def S_slices_Clone_bytes_byte : Sm := S_fnR [.l bytesR] (fun d => Cc.lim (Cc.sl bytesR) d.1) (fun d => (.l .deep bytesR d.1, []))
theorem v_slices_Clone_bytes_byte (l : List Int) (h : (Cc.lim (Cc.sl bytesR) l) = true) (K : Ret → Option Ret) : T_slices_Clone_bytes_byte l K = K (.l .deep bytesR l, []) := by
  have h1 : l.length ≤ 1048576 := by
    simp only [Cc.lim, Bool.and_eq_true] at h
    exact Nat.le_of_ble_eq_true h.1
  unfold T_slices_Clone_bytes_byte
  rw [Nat.ble_eq_true_of_le (by simp; omega)]
  cases l with
  | nil => exact meet_self _
  | cons x xs => rfl
theorem okS_slices_Clone_bytes_byte : OkFn prog I N.slices_Clone_bytes_byte true S_slices_Clone_bytes_byte := okN (ok_fn mem0 (l := []) (p := []) (ls := []) (lend := []) (focus := false) (fuel := 0) (give := []) (fn := F.slices_Clone_bytes_byte) (by kernel_rfl) (by kernel_rfl) (by kernel_rfl) (by kernel_rfl) (cs := []) (by kernel_rfl) loops0) (S_fnR_of fun d K h => (e_slices_Clone_bytes_byte d.1 K).trans (v_slices_Clone_bytes_byte d.1 h K))
end Go.Ev.Seat
end
section
/- i_Edit_copied: its contract. -/
namespace Go.Ev.Seat
open Go.RowKit
set_option maxRecDepth 100000
set_option linter.unusedVariables false
set_option linter.unusedSimpArgs false
noncomputable abbrev E_i_Edit_copied : Env := En [(N.slices_Clone_bytes_byte, true, S_slices_Clone_bytes_byte)] [] [] [] false 0 []
noncomputable def T_i_Edit_copied (e : T_Edit) (K : Ret → Option Ret) : Option Ret :=
 (bif (Cc.lim (Cc.sl bytesR) e.2.2) then
 K ((.a [(.s (.int .i64 e.1)), (.s (.int .i64 e.2.1)), (.l .deep bytesR e.2.2)]), [])
 else none)
theorem e_i_Edit_copied (e : T_Edit) (K : Ret → Option Ret) : evF E_i_Edit_copied true F.i_Edit_copied [.a (editR.cells .no e)] K = T_i_Edit_copied e K := by kernel_rfl
def S_i_Edit_copied : Sm := S_fnR [.a editR] (fun d => Nat.ble d.1.2.2.length 1048576) (fun d => (.a (editR.cells .deep d.1), []))
theorem v_i_Edit_copied (e : T_Edit) (h : (Nat.ble e.2.2.length 1048576) = true) (K : Ret → Option Ret) : T_i_Edit_copied e K = K (.a (editR.cells .deep e), []) := by
  have hl := Nat.le_of_ble_eq_true h
  unfold T_i_Edit_copied
  first | rw [Nat.ble_eq_true_of_le (by simp; omega)] | rw [bytes_lim hl]
  rfl
theorem okS_i_Edit_copied : OkFn prog I N.i_Edit_copied true S_i_Edit_copied := okN (ok_fn (memc okS_slices_Clone_bytes_byte mem0) (l := [(N.slices_Clone_bytes_byte, true, S_slices_Clone_bytes_byte)]) (p := []) (ls := []) (lend := []) (focus := false) (fuel := 0) (give := []) (fn := F.i_Edit_copied) (by kernel_rfl) (by kernel_rfl) (by kernel_rfl) (by kernel_rfl) (cs := []) (by kernel_rfl) loops0) (S_fnR_of fun d K h => (e_i_Edit_copied d.1 K).trans (v_i_Edit_copied d.1 h K))
end Go.Ev.Seat
end
