/- An evaluator of Go code on abstract values: definitions alone. -/
import Derived.Control
import Derived.Calls
import Derived.Orders
import Derived.LoopN
import Derived.Below
set_option linter.unusedVariables false
namespace Go.Ev

/-! ### Kinds of cells and rows, and the Lean types of their data -/
mutual
inductive Cc where
  | int (k : IntKind)
  | bool
  | str
  | sl (r : Rw)
inductive Rw where
  | one (c : Cc)
  | cons (c : Cc) (r : Rw)
end
deriving instance DecidableEq for Cc, Rw

mutual
@[reducible] def Cc.T : Cc → Type
  | .int _ => Int
  | .bool => Bool
  | .str => ByteArray
  | .sl r => List r.T
@[reducible] def Rw.T : Rw → Type
  | .one c => c.T
  | .cons c r => c.T × r.T
end
def Cc.dflt : (c : Cc) → c.T
  | .int _ => (0 : Int)
  | .bool => false
  | .str => ByteArray.empty
  | .sl _ => []
def Rw.dflt : (r : Rw) → r.T
  | .one c => c.dflt
  | .cons c r => (c.dflt, r.dflt)
def Rw.n : Rw → Nat
  | .one _ => 1
  | .cons _ r => r.n + 1
def Cc.flat : Cc → Bool
  | .sl _ => false
  | _ => true
/-- Is this cell a slice? -/
def Rw.slAt : Rw → Nat → Bool
  | .one c, j => j.beq 0 && !c.flat
  | .cons c _, 0 => !c.flat
  | .cons _ r, j + 1 => r.slAt j
def Rw.flat : Rw → Bool
  | .one c => c.flat
  | .cons c r => c.flat && r.flat

/-- Whose memory: nobody's here (it is read alone) · the slice's own cells are the holder's · and all that hangs below. -/
inductive Ow where
  | no | top | deep | own
  deriving DecidableEq

inductive V where
  | s (v : Value)
  | a (cs : List V)
  | t (vs : List V)
  | nl
  | l (o : Ow) (r : Rw) (xs : List r.T)
  | w (k : Nat)
  | r (k off len : Nat)
  | pb (k c : Nat)
  | pa (k i c : Nat)
  | q (r : Rw) (d : r.T) (c : Nat)
  | qb (cs : List V) (c : Nat)
  | sb (k i c : Nat)
  | f (g : FuncId) (caps : List V)
  | io (cs : List V)
  | x
  deriving Inhabited

inductive E where
  | no
  | box (cs : List V)
  | arr (mu deep : Bool) (r : Rw) (xs : List r.T)
  | own (st : Bool) (r : Rw) (xs : List r.T)   -- an array of the holder's alone, with all that hangs below: every cell may be written · st: its slices stand where they stood
  deriving Inhabited

/-- May it be written? -/
def E.mu : E → Bool
  | .box _ => true
  | .arr mu _ _ _ => mu
  | .own _ _ _ => true
  | .no => false
/-- The objects, by number, in order. -/
abbrev Obs := List (Nat × E)
def Obs.get : Obs → Nat → E
  | [], _ => .no
  | (j, e) :: ob, k => bif j.beq k then e else Obs.get ob k
def Obs.put : Obs → Nat → E → Obs
  | [], k, e => [(k, e)]
  | (j, f) :: ob, k, e => bif j.beq k then (k, e) :: ob else bif k.blt j then (k, e) :: (j, f) :: ob else (j, f) :: Obs.put ob k e
def Obs.del : Obs → Nat → Obs
  | [], _ => []
  | (j, f) :: ob, k => bif j.beq k then Obs.del ob k else (j, f) :: Obs.del ob k

structure St where
  tm : List V
  ob : Obs
  nx : Nat
  io : List V := []   -- the boxes that came in

inductive Ds where
  | st | sl | int (k : IntKind) | bool | str | other
  deriving DecidableEq
structure Ty where
  ds : Ds := .other
  n : Nat := 1
  agg : Bool := false
  zero : List V := []
  bytes : Nat := 8
  fs : List (Nat × Nat × Bool) := []
  row : Rw := .one .bool      -- of a slice type: its elements'; of a struct type: its own
def Ty.sl (t : Ty) : Bool := match t.ds with | .sl => true | _ => false
def Ty.st (t : Ty) : Bool := match t.ds with | .st => true | _ => false
def Ty.str (t : Ty) : Bool := match t.ds with | .str => true | _ => false
def Ty.bool (t : Ty) : Bool := match t.ds with | .bool => true | _ => false

inductive Ex where
  | nrm
  | ext (id : Nat)
  | ret

/-- A call's result, and what the boxes that were handed over hold behind it. -/
abbrev Ret := V × List V
abbrev Sm := List V → (Ret → Option Ret) → Option Ret

/-! In what order the operations of a region are looked at, if any order may come. -/
mutual
inductive Plan where
  | done
  | take (i : Nat) (p : Plan)
  | fork (f : Forks)
inductive Forks where
  | one (i : Nat) (p : Plan)
  | more (i : Nat) (p : Plan) (f : Forks)
end

structure Env where
  ty : Nat → Option Ty
  fn : Nat → Option (Bool × Sm)
  hint : Nat → List Nat × List Nat
  plan : Nat → Option (Plan × List Nat)
  sum : Nat → Option (St → (Ex → St → Option Ret) → Option Ret) := fun _ => none
  lend : Nat → Bool := fun _ => false   -- callees that are lent what is owned, and write it
  focus : Bool := false                 -- results are taken as owned alone
  fuel : Nat := 0

def cst : Value → V
  | .int k n => .s (.int k n)
  | .bool b => .s (.bool b)
  | .string b => .s (.string b)
  | .slice none 0 0 => .nl
  | _ => .x

def St.ev (σ : St) : Operand → V
  | .tmp t => σ.tm.getD t .x
  | .const v => cst v
  | .func g => .f g []
  | .global _ => .x

def St.put (σ : St) (d : Option Tmp) (v : V) : St :=
  match d with
  | some i => { σ with tm := σ.tm.set i v }
  | none => σ
def St.obj (σ : St) (k : Nat) : E := σ.ob.get k
def St.setOb (σ : St) (k : Nat) (e : E) : St := { σ with ob := σ.ob.put k e }

def St.isBox (σ : St) (k : Nat) : Bool := match σ.obj k with | .box _ => true | _ => false
def St.isArr (σ : St) (k : Nat) : Bool := match σ.obj k with | .arr _ _ _ _ => true | .own _ _ _ => true | _ => false
def V.cells : V → List V
  | .a cs => cs
  | v => [v]
/-- May it be a cell of memory? -/
def V.one : V → Bool
  | .a _ | .t _ | .io _ | .x => false
  | _ => true
def V.cellsO (v : V) : Option (List V) := if v.cells.all V.one then some v.cells else none
def mk (agg : Bool) (cs : List V) : Option V :=
  if agg then some (.a cs) else match cs with
    | [v] => some v
    | _ => none

/-! ### Rows out of cells, cells out of rows -/
def Cc.cell : (c : Cc) → Ow → c.T → V
  | .int k, _, n => .s (.int k n)
  | .bool, _, b => .s (.bool b)
  | .str, _, b => .s (.string b)
  | .sl r, o, xs => .l o r xs
def Rw.cells : (r : Rw) → Ow → r.T → List V
  | .one c, o, d => [c.cell o d]
  | .cons c r, o, d => c.cell o d.1 :: r.cells o d.2

/-- A cell that is given away into memory: the datum · is all of it owned? · the objects behind it (what was given can't be written any more). -/
def Cc.give : (c : Cc) → V → Obs → Option (c.T × Bool × Obs)
  | .int k, .s (.int k' n), ob => if k' = k then some (n, true, ob) else none
  | .bool, .s (.bool b), ob => some (b, true, ob)
  | .str, .s (.string b), ob => some (b, true, ob)
  | .sl _, .nl, ob => some ([], true, ob)
  | .sl r, .l _ r' xs, ob => if h : r' = r then some (h ▸ xs, false, ob) else none
  | .sl r, .w k, ob =>
    match ob.get k with
    | .arr mu deep r' xs => if h : r' = r then some ((h ▸ xs : List r.T), mu && deep, ob.put k (.arr false deep r' xs)) else none
    | _ => none
  | .sl r, .r k off len, ob =>
    match ob.get k with
    | .arr mu deep r' xs => if h : r' = r then some (((h ▸ xs : List r.T).drop off).take len, false, ob.put k (.arr false deep r' xs)) else none
    | _ => none
  | _, _, _ => none
def Rw.give : (r : Rw) → List V → Obs → Option (r.T × Bool × Obs)
  | .one c, [v], ob => c.give v ob
  | .cons c r, v :: vs, ob =>
    match c.give v ob with
    | some (d, p, ob1) => match r.give vs ob1 with
      | some (ds, p', ob2) => some ((d, ds), p && p', ob2)
      | none => none
    | none => none
  | _, _, _ => none

/-- Cells of a row replaced, from one on. -/
def Rw.upd : (r : Rw) → r.T → Nat → List V → Obs → Option (r.T × Bool × Obs)
  | _, d, _, [], ob => some (d, true, ob)
  | .one c, _, 0, [v], ob => c.give v ob
  | .cons c r, d, 0, v :: vs, ob =>
    match c.give v ob with
    | some (e, p, ob1) => match r.upd d.2 0 vs ob1 with
      | some (es, p', ob2) => some ((e, es), p && p', ob2)
      | none => none
    | none => none
  | .cons _ r, d, i + 1, vs, ob =>
    match r.upd d.2 i vs ob with
    | some (es, p, ob1) => some ((d.1, es), p, ob1)
    | none => none
  | _, _, _, _, _ => none

/-- The rows that a slice value shows. -/
def rowsOf (r : Rw) (σ : St) : V → Option (List r.T)
  | .nl => some []
  | .l _ r' xs => if h : r' = r then some (h ▸ xs) else none
  | .w k => match σ.obj k with
    | .arr _ _ r' xs => if h : r' = r then some (h ▸ xs) else none
    | _ => none
  | .r k off len => match σ.obj k with
    | .arr _ _ r' xs => if h : r' = r then some (((h ▸ xs : List r.T).drop off).take len) else none
    | _ => none
  | _ => none
def slen (σ : St) : V → Option Nat
  | .nl => some 0
  | .l _ _ xs => some xs.length
  | .w k => match σ.obj k with
    | .arr _ _ _ xs => some xs.length
    | .own _ _ xs => some xs.length
    | _ => none
  | .r k _ n => if σ.isArr k then some n else none
  | _ => none

/-- Operations on numbers, truth values and strings; the Bool: under this condition. -/
def bin (op : BinOp) (v u : Value) : Option (Bool × Value) :=
  match op, v, u with
  | .add, .int k a, .int k' b => if k = k' then some (true, .int k (k.wrap (a + b))) else none
  | .sub, .int k a, .int k' b => if k = k' then some (true, .int k (k.wrap (a - b))) else none
  | .mul, .int k a, .int k' b => if k = k' then some (true, .int k (k.wrap (a * b))) else none
  | .quo, .int k a, .int k' b => if k = k' then some (!(b == 0), .int k (k.wrap (a.tdiv b))) else none
  | .rem, .int k a, .int k' b => if k = k' then some (!(b == 0), .int k (a.tmod b)) else none
  | .shl, .int k a, .int _ b => some (decide (0 ≤ b), .int k (k.wrap (a * 2 ^ (min b.toNat k.bits))))
  | .shr, .int k a, .int _ b => some (decide (0 ≤ b), .int k (a.fdiv (2 ^ (min b.toNat k.bits))))
  | .and, .int k a, .int k' b => if k = k' then some (true, .int k (k.wrap (BitVec.ofInt k.bits a &&& BitVec.ofInt k.bits b).toNat)) else none
  | .or, .int k a, .int k' b => if k = k' then some (true, .int k (k.wrap (BitVec.ofInt k.bits a ||| BitVec.ofInt k.bits b).toNat)) else none
  | .xor, .int k a, .int k' b => if k = k' then some (true, .int k (k.wrap (BitVec.ofInt k.bits a ^^^ BitVec.ofInt k.bits b).toNat)) else none
  | .eql, .int k a, .int k' b => if k = k' then some (true, .bool (a == b)) else none
  | .neq, .int k a, .int k' b => if k = k' then some (true, .bool (a != b)) else none
  | .lss, .int k a, .int k' b => if k = k' then some (true, .bool (decide (a < b))) else none
  | .leq, .int k a, .int k' b => if k = k' then some (true, .bool (decide (a ≤ b))) else none
  | .gtr, .int k a, .int k' b => if k = k' then some (true, .bool (decide (a > b))) else none
  | .geq, .int k a, .int k' b => if k = k' then some (true, .bool (decide (a ≥ b))) else none
  | .eql, .string a, .string b => some (true, .bool (a.toList == b.toList))
  | .neq, .string a, .string b => some (true, .bool (!(a.toList == b.toList)))
  | .add, .string a, .string b => some (decide (a.size + b.size ≤ 140737488355328), .string (a ++ b))
  | _, _, _ => none
def unop (op : UnOp) (v : Value) : Option Value :=
  match op, v with
  | .neg, .int k a => some (.int k (k.wrap (0 - a)))
  | .not, .bool b => some (.bool (!b))
  | _, _ => none

/-- The parts put into a struct's cells. -/
def fillFs (fs : List (Nat × Nat × Bool)) (σ : St) : List (Nat × Operand) → List V → Option (List V)
  | [], cs => some cs
  | (i, x) :: rest, cs =>
    match fs[i]? with
    | none => none
    | some (off, size, _) =>
      match (σ.ev x).cellsO with
      | none => none
      | some vs => if vs.length = size then fillFs fs σ rest (cs.take off ++ vs ++ cs.drop (off + size)) else none

/-- The elements of a literal, in order, all of them given. -/
def fillSl (r : Rw) (σ : St) : Nat → List (Nat × Operand) → Obs → Option (List r.T × Bool × Obs)
  | _, [], ob => some ([], true, ob)
  | i, (j, x) :: rest, ob =>
    if i = j then
      match (σ.ev x).cellsO.bind (fun vs => r.give vs ob) with
      | none => none
      | some (d, p, ob1) => match fillSl r σ (i + 1) rest ob1 with
        | none => none
        | some (ds, p', ob2) => some (d :: ds, p && p', ob2)
    else none

def boundBytes : Nat := 140737488355328

mutual
/-- Is it a closed value, of one cell? -/
def V.clo : V → Bool
  | .s _ | .nl | .q _ _ _ => true
  | .l .no _ _ => true
  | .qb cs _ => cloL cs
  | _ => false
def cloL : List V → Bool
  | [] => true
  | v :: vs => v.clo && cloL vs
end
/-- A value made ready for a callee: its references turned into data that are read alone. -/
def resA (ob : Obs) : V → V
  | .s v => .s v
  | .nl => .nl
  | .w k => match ob.get k with
    | .arr _ _ r xs => .l .no r xs
    | .own _ r xs => .l .no r xs
    | _ => .x
  | .r k off len => match ob.get k with
    | .arr _ _ r xs => .l .no r ((xs.drop off).take len)
    | _ => .x
  | .l _ r xs => .l .no r xs
  | .pa k i c => match ob.get k with
    | .arr _ _ r xs => .q r (xs.getD i r.dflt) c
    | _ => .x
  | .q r d c => .q r d c
  | .qb cs c => bif cloL cs then .qb cs c else .x
  | _ => .x
/-- What a function value holds: boxes turned into what is read alone, two deep. -/
def resB (ob : Obs) : V → V
  | .pb k c => match ob.get k with
    | .box cs => .qb (cs.map (resA ob)) c
    | _ => .x
  | v => resA ob v
def resC (ob : Obs) : V → V
  | .pb k c => match ob.get k with
    | .box cs => .qb (cs.map (resB ob)) c
    | _ => .x
  | v => resA ob v
def res1 (ob : Obs) : V → V
  | .f g caps => .f g (caps.map (resC ob))
  | v => resA ob v
def resArg (ob : Obs) : V → V
  | .a cs => .a (cs.map (res1 ob))
  | v => res1 ob v
/-- One cell of a box that is handed over: what is owned goes with it. -/
def handCell (c : V) (ob : Obs) : Option (V × Obs) :=
  match c with
  | .s v => some (.s v, ob)
  | .nl => some (.nl, ob)
  | .l _ r xs => some (.l .no r xs, ob)
  | .w k => match ob.get k with
    | .arr true true r xs => some (.l .deep r xs, ob.del k)
    | .arr true false r xs => some (.l .top r xs, ob.del k)
    | .arr false _ r xs => some (.l .no r xs, ob)
    | .own _ r xs => some (.l .own r xs, ob.del k)
    | _ => none
  | .r k off len => match ob.get k with
    | .arr _ deep r xs => some (.l .no r ((xs.drop off).take len), ob.put k (.arr false deep r xs))
    | _ => none
  | _ => none
def handCells : List V → Obs → Option (List V × Obs)
  | [], ob => some ([], ob)
  | c :: cs, ob => match handCell c ob with
    | none => none
    | some (d, ob1) => match handCells cs ob1 with
      | none => none
      | some (ds, ob2) => some (d :: ds, ob2)
/-- The boxes among the arguments, handed over. -/
def hand : List V → Obs → Option (List (Option (List V)) × List Nat × Obs)
  | [], ob => some ([], [], ob)
  | v :: vs, ob =>
    match v with
    | .pb k 0 => match ob.get k with
      | .box cs => match handCells cs (ob.del k) with
        | none => none
        | some (ds, ob1) => match hand vs ob1 with
          | none => none
          | some (hs, ks, ob2) => some (some ds :: hs, k :: ks, ob2)
      | _ => none
    | _ => match hand vs ob with
      | none => none
      | some (hs, ks, ob2) => some (none :: hs, ks, ob2)
def resAll (ob : Obs) : List V → List (Option (List V)) → List V
  | v :: vs, some ds :: hs => .io ds :: resAll ob vs hs
  | v :: vs, none :: hs => resArg ob v :: resAll ob vs hs
  | _, _ => []

/-- A result is taken over: what it owns becomes objects of the frame, numbered from b on. -/
def takeCell (b : Nat) (c : V) (ob : Obs) : V × Obs :=
  match c with
  | .l .deep r xs => (.w b, ob.put b (.arr true true r xs))
  | .l .top r xs => (.w b, ob.put b (.arr true false r xs))
  | .l .own r xs => (.w b, ob.put b (.own true r xs))
  | v => (v, ob)
def takeCells (b : Nat) : List V → Obs → List V × Obs
  | [], ob => ([], ob)
  | c :: cs, ob => match takeCell b c ob with
    | (d, ob1) => match takeCells (b + 1) cs ob1 with
      | (ds, ob2) => (d :: ds, ob2)
def takeOne (b : Nat) (v : V) (ob : Obs) : V × Obs :=
  match v with
  | .a cs => match takeCells b cs ob with
    | (ds, ob1) => (.a ds, ob1)
  | .io cs => match takeCells (b + 1) cs ob with
    | (ds, ob1) => (.pb b 0, ob1.put b (.box ds))
  | v => takeCell b v ob
def takeAll (b : Nat) : List V → Obs → List V × Obs
  | [], ob => ([], ob)
  | v :: vs, ob => match takeOne b v ob with
    | (d, ob1) => match takeAll (b + 24) vs ob1 with
      | (ds, ob2) => (d :: ds, ob2)
def takeRet (b : Nat) (v : V) (ob : Obs) : V × Obs :=
  match v with
  | .t vs => match takeAll b vs ob with
    | (ds, ob1) => (.t ds, ob1)
  | v => takeOne b v ob
def takeBoxes (b : Nat) : List Nat → List (List V) → Obs → Obs
  | k :: ks, cs :: css, ob => match takeCells b cs ob with
    | (ds, ob1) => takeBoxes (b + 24) ks css (ob1.put k (.box ds))
  | _, _, ob => ob
/-- Not too wide for the numbers that an operation has. -/
def V.slim : V → Bool
  | .a cs => Nat.blt cs.length 20
  | .io cs => Nat.blt cs.length 20
  | _ => true
def slimRet : V → Bool
  | .t vs => Nat.blt vs.length 5 && vs.all V.slim
  | v => v.slim
def slimBoxes (css : List (List V)) : Bool := Nat.blt css.length 5 && css.all (fun cs => Nat.blt cs.length 20)

/-- Objects that a callee may have kept a view of can't be written any more. -/
def freezeK (k : Nat) (ob : Obs) : Obs :=
  match ob.get k with
  | .arr _ deep r xs => ob.put k (.arr false deep r xs)
  | .own _ r xs => ob.put k (.arr false true r xs)
  | _ => ob
def freezeC (c : V) (ob : Obs) : Obs :=
  match c with
  | .w k => freezeK k ob
  | .r k _ _ => freezeK k ob
  | .pa k _ _ => freezeK k ob
  | _ => ob
def freezeCs : List V → Obs → Obs
  | [], ob => ob
  | c :: cs, ob => freezeCs cs (freezeC c ob)
def freezeAll : List V → Obs → Obs
  | [], ob => ob
  | v :: vs, ob => freezeAll vs (freezeCs v.cells ob)

/-- The boxes that come back. -/
def ios : List V → Option (List (List V))
  | [] => some []
  | .io cs :: vs => match ios vs with
    | some css => some (cs :: css)
    | none => none
  | _ :: _ => none
/-- A result that is owned alone. -/
def own1 : V → V
  | .l .deep r xs => .l .own r xs
  | .l .top r xs => .l .own r xs
  | v => v
def ownV : V → V
  | .a cs => .a (cs.map own1)
  | v => own1 v
def ownRet : V → V
  | .t vs => .t (vs.map ownV)
  | v => ownV v
/-- Does it show nothing but what it owns? -/
def V.frsh1 : V → Bool
  | .s _ | .nl | .l .deep _ _ => true
  | .l .own _ _ => true
  | .l .top rw _ => rw.flat
  | _ => false
def V.frsh : V → Bool
  | .a cs => cs.all V.frsh1
  | .io cs => cs.all V.frsh1
  | v => v.frsh1
def frshRet : V → Bool
  | .t vs => vs.all V.frsh
  | v => v.frsh
def V.noIo : V → Bool
  | .io _ => false
  | .t vs => vs.all fun v => match v with | .io _ => false | _ => true
  | _ => true

/-- What is lent, cell by cell: what is owned, then nothing of it is left. -/
def lend1 (ob : Obs) : V → Option (V × Obs)
  | .s v => some (.s v, ob)
  | .nl => some (.nl, ob)
  | .w k => match ob.get k with
    | .own _ r xs => some (.l .own r xs, ob.del k)
    | _ => none
  | _ => none
def lendL (ob : Obs) : List V → Option (List V × Obs)
  | [] => some ([], ob)
  | v :: vs => match lend1 ob v with
    | none => none
    | some (d, ob1) => match lendL ob1 vs with
      | none => none
      | some (ds, ob2) => some (d :: ds, ob2)
/-- What was lent comes back. -/
def unlend1 (v d : V) (ob : Obs) : Option Obs :=
  match v with
  | .s _ => some ob
  | .nl => some ob
  | .w k => match d with
    | .l .own r xs => some (ob.put k (.own false r xs))
    | _ => none
  | _ => none
def unlendL : List V → List V → Obs → Option Obs
  | [], [], ob => some ob
  | v :: vs, d :: ds, ob => match unlend1 v d ob with
    | none => none
    | some ob1 => unlendL vs ds ob1
  | _, _, _ => none
/-- The kinds of the rows stay. -/
def sameR : List V → List V → Bool
  | [], [] => true
  | .l .own r _ :: vs, .l .own r' _ :: ds => decide (r' = r) && sameR vs ds
  | .s _ :: vs, _ :: ds => sameR vs ds
  | .nl :: vs, _ :: ds => sameR vs ds
  | _, _ => false
/-- Does a function value hold nothing of the frame? -/
def V.noCap1 : V → Bool
  | .f _ caps => cloL caps
  | _ => true
def V.noCap (v : V) : Bool := v.cells.all V.noCap1

/-- A call that is lent what is owned. -/
def callLend (G : Sm) (d : Option Tmp) (vs : List V) (σ : St) (K : St → Option Ret) : Option Ret :=
  match vs with
  | [.w k, .s u] => match lendL σ.ob [.w k] with
    | none => none
    | some (ds, ob) => G (ds ++ [.s u]) fun q => match q.1, q.2 with
      | .s z, es => bif sameR ds es then (match unlendL [.w k] es ob with
        | none => none
        | some ob1 => K (St.put { σ with ob := ob1 } d (.s z))) else none
      | _, _ => none
  | [.a cs, .s u] => match lendL σ.ob cs with
    | none => none
    | some (ds, ob) => G [.a ds, .s u] fun q => match q.1, q.2 with
      | .s z, [.a es] => bif sameR ds es then (match unlendL cs es ob with
        | none => none
        | some ob1 => K (St.put { σ with ob := ob1 } d (.s z))) else none
      | _, _ => none
  | [.sb k i c, .s u] => match σ.obj k with
    | .own true r xs => match (r.cells .no (xs.getD i r.dflt))[c]? with
      | some (.l .no r' ys) =>
        bif decide (i < xs.length) then
        G [.l .own r' ys, .s u] fun q => match q.1, q.2 with
        | .s z, [.l .own r2 zs] => bif decide (r2 = r') then (match r.upd (xs.getD i r.dflt) c [.l .own r2 zs] [] with
          | some (e, _, _) => K (St.put { σ with ob := σ.ob.put k (.own true r (xs.set i e)) } d (.s z))
          | none => none) else none
        | _, _ => none
        else none
      | _ => none
    | _ => none
  | _ => none

def callFn (Γ : Env) (b : Nat) (d : Option Tmp) (g : FuncId) (vs : List V) (σ : St) (K : St → Option Ret) : Option Ret :=
  match Γ.fn g with
  | none => none
  | some (fresh, G) =>
    bif Γ.lend g then callLend G d vs σ K
    else
    match (bif fresh || vs.all V.noCap then hand vs (bif fresh then σ.ob else freezeAll vs σ.ob) else none) with
    | none => none
    | some (hs, ks, ob) =>
      G (resAll ob vs hs) fun q =>
        match ios q.2 with
        | none => none
        | some css =>
          bif slimRet q.1 && slimBoxes css then
            match takeRet b (bif Γ.focus && fresh && ks.isEmpty && frshRet q.1 && q.1.noIo then ownRet q.1 else q.1) ob with
            | (u, ob1) => K (St.put { σ with ob := takeBoxes (b + 96) ks css ob1 } d u)
          else none

/-- What is appended: is it owned, with all that hangs below (then it is given away)? · the objects behind it. -/
def ownSrc (r : Rw) (u : V) (σ : St) : Bool × Obs :=
  if r.flat then (true, σ.ob) else match u with
    | .w k => match σ.obj k with
      | .arr true true _ _ => (true, σ.ob.del k)
      | _ => (false, σ.ob)
    | .nl => (true, σ.ob)
    | _ => (false, σ.ob)

/-- The builtin append. -/
def appendTo (b : Nat) (d : Option Tmp) (r : Rw) (bytes : Nat) (v u : V) (σ : St) (K : St → Option Ret) : Option Ret :=
  match rowsOf r σ u with
  | none => none
  | some ys =>
    match v with
    | .nl => bif Nat.ble (ys.length * bytes) boundBytes then K (St.put { σ with ob := (ownSrc r u σ).2.put b (.arr true (ownSrc r u σ).1 r ys) } d (.w b)) else none
    | .w k => match (ownSrc r u σ).2.get k with
      | .arr true deep r' xs => if h : r' = r then
          bif Nat.ble ((xs.length + ys.length) * bytes) boundBytes then
            K (St.put { σ with ob := ((ownSrc r u σ).2.del k).put b (.arr true (deep && (ownSrc r u σ).1) r ((h ▸ xs : List r.T) ++ ys)) } d (.w b))
          else none
        else none
      | _ => none
    | _ => none

def idx : V → Option Int
  | .s (.int _ n) => some n
  | _ => none
def optIdx (σ : St) : Option Operand → Option (Option Int)
  | none => some none
  | some x => (idx (σ.ev x)).map some

/-- What an operation yields that looks at no memory; the Bool: under this condition. -/
def pureV (Γ : Env) (o : Oper) (σ : St) : Option (Bool × V) :=
  match o.op with
  | .move y | .assign y => some (true, σ.ev y)
  | .build t parts => match Γ.ty t with
    | some ty => if ty.st then match fillFs ty.fs σ parts.toList ty.zero with
      | some cs => some (true, .a cs)
      | none => none else none
    | none => none
  | .nilCheck y => match σ.ev y with
    | .pb k c => if σ.isBox k then some (true, .pb k c) else none
    | .pa k i c => if σ.isArr k then some (true, .pa k i c) else none
    | .q r e c => some (true, .q r e c)
    | .qb cs c => some (true, .qb cs c)
    | _ => none
  | .binOp op t y z _ => match σ.ev y, σ.ev z with
    | .s (.bool a), .s (.bool b) => match Γ.ty t with
      | some ty => if ty.bool then match op with
        | .eql => some (true, .s (.bool (a == b)))
        | .neq => some (true, .s (.bool (!(a == b))))
        | _ => none
        else none
      | none => none
    | .s v, .s u => match bin op v u with
      | some (c, w) => some (c, .s w)
      | none => none
    | _, _ => none
  | .unOp op _ y => match σ.ev y with
    | .s v => match unop op v with
      | some w => some (true, .s w)
      | none => none
    | _ => none
  | .convert u t y => match Γ.ty u, Γ.ty t, σ.ev y with
    | some _, some ty, .s (.int _ n) => match ty.ds with
      | .int k => some (true, .s (.int k (k.wrap n)))
      | _ => none
    | _, _, _ => none
  | .makeFunc (.func g) first caps => if first.isEmpty then some (true, .f g (caps.toList.map σ.ev)) else none
  | .slice t y lo hi none => match optIdx σ lo, optIdx σ hi, σ.ev y with
    | some lo, some hi, .s (.string w) => match Γ.ty t with
      | none => none
      | some ty => if ty.str then
      let lo := lo.getD 0; let hi := hi.getD w.size
      some (decide (0 ≤ lo) && decide (lo ≤ hi) && decide (hi ≤ w.size), .s (.string (w.extract lo.toNat hi.toNat))) else none
    | some lo, some hi, v => match Γ.ty t with
      | none => none
      | some ty => if ty.sl then match v with
        | .nl =>
          let lo := lo.getD 0; let hi := hi.getD 0
          some (lo == 0 && hi == 0, .nl)
        | .l _ r xs =>
          let lo := lo.getD 0; let hi := hi.getD xs.length
          if r = ty.row then some (decide (0 ≤ lo) && decide (lo ≤ hi) && decide (hi ≤ xs.length), .l .no r ((xs.take hi.toNat).drop lo.toNat)) else none
        | .w k => match σ.obj k with
          | .arr _ _ r xs =>
            let lo := lo.getD 0; let hi := hi.getD xs.length
            if r = ty.row then some (decide (0 ≤ lo) && decide (lo ≤ hi) && decide (hi ≤ xs.length), .r k lo.toNat (hi.toNat - lo.toNat)) else none
          | _ => none
        | .r k off len => match σ.obj k with
          | .arr _ _ r _ =>
            let lo := lo.getD 0; let hi := hi.getD len
            if r = ty.row then some (decide (0 ≤ lo) && decide (lo ≤ hi) && decide (hi ≤ len), .r k (off + lo.toNat) (hi.toNat - lo.toNat)) else none
          | _ => none
        | _ => none
        else none
    | _, _, _ => none
  | .fieldAddr t y i => match Γ.ty t with
    | none => none
    | some ty => if ty.st then match ty.fs[i]?, σ.ev y with
      | some (off, _, _), .pb k c => if σ.isBox k then some (true, .pb k (c + off)) else none
      | some (off, _, _), .pa k j c => if σ.isArr k then some (true, .pa k j (c + off)) else none
      | some (off, _, _), .q r e c => some (true, .q r e (c + off))
      | some (off, _, _), .qb cs c => some (true, .qb cs (c + off))
      | _, _ => none
      else none
  | .field t y i => match Γ.ty t with
    | none => none
    | some ty => if ty.st then match ty.fs[i]?, σ.ev y with
      | some (off, n, g), .a cs => if off + n ≤ cs.length then match mk g ((cs.drop off).take n) with
        | some v => some (true, v)
        | none => none
        else none
      | _, _ => none
      else none
  | .indexAddr t y i => match Γ.ty t, idx (σ.ev i) with
    | some ty, some n => if ty.sl then match σ.ev y with
      | .l _ r xs => if r = ty.row then some (decide (0 ≤ n) && decide (n < xs.length), .q r (xs.getD n.toNat r.dflt) 0) else none
      | .w k => match σ.obj k with
        | .arr _ _ r xs => if r = ty.row then some (decide (0 ≤ n) && decide (n < xs.length), .pa k n.toNat 0) else none
        | .own _ r xs => if r = ty.row then some (decide (0 ≤ n) && decide (n < xs.length), .pa k n.toNat 0) else none
        | _ => none
      | .r k off len => match σ.obj k with
        | .arr _ _ r _ => if r = ty.row then some (decide (0 ≤ n) && decide (n < len), .pa k (off + n.toNat) 0) else none
        | _ => none
      | _ => none
      else none
    | _, _ => none
  | .index t y i => match Γ.ty t, idx (σ.ev i), σ.ev y with
    | some ty, some n, .s (.string w) => if ty.str then some (decide (0 ≤ n) && decide (n < w.size), .s (.int .u8 ((w.data.toList.getD n.toNat 0).toNat))) else none
    | _, _, _ => none
  | .extract y i => match σ.ev y with
    | .t vs => match vs[i]? with
      | some v => some (true, v)
      | none => none
    | _ => none
  | .call c => match c.callee with
    | .builtin .len => match c.args.toList, c.argTypes.toList with
      | [y], [t] => match Γ.ty t, σ.ev y with
        | some ty, .s (.string w) => if ty.str then some (true, .s (.int .i64 w.size)) else none
        | some ty, v => if ty.sl then match slen σ v with
          | some n => some (true, .s (.int .i64 n))
          | none => none
          else none
        | _, _ => none
      | _, _ => none
    | .builtin .min => match c.args.toList.map σ.ev with
      | [.s (.int k p), .s (.int _ q)] => some (true, .s (.int k (if q < p then q else p)))
      | _ => none
    | .builtin .max => match c.args.toList.map σ.ev with
      | [.s (.int k p), .s (.int _ q)] => some (true, .s (.int k (if q > p then q else p)))
      | _ => none
    | _ => none
  | _ => none

/-- What is loaded. -/
def loadV (Γ : Env) (o : Oper) (σ : St) : Option V :=
  match o.op with
  | .load t p => match Γ.ty t with
    | none => none
    | some ty => match σ.ev p with
      | .pb k c => match σ.obj k with
        | .box cs => if c + ty.n ≤ cs.length then mk ty.agg ((cs.drop c).take ty.n) else none
        | _ => none
      | .pa k i c => match σ.obj k with
        | .arr _ _ r xs => if c + ty.n ≤ r.n then mk ty.agg (((r.cells .no (xs.getD i r.dflt)).drop c).take ty.n) else none
        | .own st r xs => if ty.n = 1 then (if ty.agg then none else match (r.cells .no (xs.getD i r.dflt))[c]? with
          | some (.s v) => some (.s v)
          | some (.l _ _ _) => if st then some (.sb k i c) else none
          | _ => none) else none
        | _ => none
      | .qb cs c => if c + ty.n ≤ cs.length then mk ty.agg ((cs.drop c).take ty.n) else none
      | .q r e c => if c + ty.n ≤ r.n then mk ty.agg (((r.cells .no e).drop c).take ty.n) else none
      | _ => none
  | _ => none

/-- Both, if they are the same. -/
noncomputable def meet (x y : Option Ret) : Option Ret := @ite _ (x = y) (Classical.propDecidable _) x none

/-- A slice beside nil: it may be nil only if it is empty, and then either may come. -/
noncomputable def nilCase (v : V) (x y : Option Ret) : Option Ret := match v with
  | .nl => x
  | .l _ _ xs => bif Nat.beq xs.length 0 then meet x y else y
  | _ => none
/-- What makes or writes memory, or calls. -/
noncomputable def effect (Γ : Env) (b : Nat) (o : Oper) (σ : St) (K : St → Option Ret) : Option Ret :=
  match o.op with
  | .alloc t => match Γ.ty t with
    | some ty => K ((σ.setOb b (.box ty.zero)).put o.dst (.pb b 0))
    | none => none
  | .box _ y => match (σ.ev y).cellsO with
    | none => none
    | some vs => K ((σ.setOb b (.box vs)).put o.dst (.pb b 0))
  | .buildSlice t len parts => match Γ.ty t with
    | some ty => if ty.sl then match fillSl ty.row σ 0 parts.toList σ.ob with
      | some (xs, deep, ob) => if parts.size = len then (if len * ty.row.n ≤ 16777216 then K (St.put { σ with ob := ob.put b (.arr true deep ty.row xs) } o.dst (.w b)) else none) else none
      | none => none else none
    | none => none
  | .store t p y => match Γ.ty t with
    | none => none
    | some ty => match σ.ev p with
      | .pb k c => match σ.obj k with
        | .box cs => match (σ.ev y).cellsO with
          | none => none
          | some vs => if vs.length = ty.n then (if c + ty.n ≤ cs.length then K ((σ.setOb k (.box (cs.take c ++ vs ++ cs.drop (c + ty.n)))).put o.dst .x) else none) else none
        | _ => none
      | .pa k i c => match σ.obj k with
        | .arr true deep r xs => match (σ.ev y).cellsO with
          | none => none
          | some vs => if vs.length = ty.n then (if c + ty.n ≤ r.n then
            match r.upd (xs.getD i r.dflt) c vs σ.ob with
            | some (e, p, ob) => if (ob.get k).mu then K (St.put { σ with ob := ob.put k (.arr true (deep && p) r (xs.set i e)) } o.dst .x) else none
            | none => none else none)
          else none
        | .own st r xs => match σ.ev y with
          | .s u => if ty.n = 1 then (if c < r.n then
            match r.upd (xs.getD i r.dflt) c [.s u] [] with
            | some (e, _, _) => K (St.put { σ with ob := σ.ob.put k (.own st r (xs.set i e)) } o.dst .x)
            | none => none else none) else none
          | _ => none
        | _ => none
      | _ => none
  | .makeSlice t l c => match Γ.ty t, σ.ev l, σ.ev c with
    | some ty, .s (.int .i64 n), .s (.int .i64 m) => if ty.sl then
      bif n == m && decide (0 ≤ n) && decide (n.toNat * ty.bytes ≤ boundBytes) && decide (n ≤ 4611686018427387904) then
        K ((σ.setOb b (.arr true true ty.row (List.replicate n.toNat ty.row.dflt))).put o.dst (.w b))
      else none else none
    | _, _, _ => none
  | .call c => match c.callee with
    | .value g => match σ.ev g with
      | .f g caps => callFn Γ b o.dst g (c.args.toList.map σ.ev ++ caps) σ K
      | _ => none
    | .builtin .append => match c.args.toList, c.argTypes.toList with
      | [y, z], [t, u] => match Γ.ty t, Γ.ty u with
        | some ty, some tu => if ty.sl && tu.sl && decide (tu.row = ty.row) && !(ty.bytes.beq 0) then appendTo b o.dst ty.row ty.bytes (σ.ev y) (σ.ev z) σ K else none
        | _, _ => none
      | _, _ => none
    | _ => none
  | .binOp .eql t y z _ => match Γ.ty t, σ.ev z with
    | some ty, .nl => if ty.sl then nilCase (σ.ev y) (K (σ.put o.dst (.s (.bool true)))) (K (σ.put o.dst (.s (.bool false)))) else none
    | _, _ => none
  | .binOp .neq t y z _ => match Γ.ty t, σ.ev z with
    | some ty, .nl => if ty.sl then nilCase (σ.ev y) (K (σ.put o.dst (.s (.bool false)))) (K (σ.put o.dst (.s (.bool true)))) else none
    | _, _ => none
  | _ => none

def touchC : V → List Nat
  | .w j => [j]
  | .r j _ _ => [j]
  | _ => []
def touch1 (σ : St) : V → List Nat
  | .pb k 0 => match σ.obj k with
    | .box cs => k :: cs.flatMap touchC
    | _ => [k]
  | _ => []
def touchL : V → List Nat
  | .w j => [j]
  | .sb j _ _ => [j]
  | .a cs => cs.flatMap touchC
  | _ => []
/-- The objects whose memory an operation may write. -/
def touched (ld : Nat → Bool) (o : Oper) (σ : St) : List Nat :=
  match o.op with
  | .store _ p _ => match σ.ev p with
    | .pb k _ => [k]
    | .pa k _ _ => [k]
    | _ => []
  | .call c => match c.callee with
    | .value g => match σ.ev g with
      | .f f caps => bif ld f then (c.args.toList.map σ.ev ++ caps).flatMap touchL else (c.args.toList.map σ.ev ++ caps).flatMap (touch1 σ)
      | _ => []
    | .builtin .append => match c.args.toList with
      | y :: _ => match σ.ev y with
        | .w k => [k]
        | _ => []
      | _ => []
    | _ => []
  | _ => []

noncomputable def step (Γ : Env) (b : Nat) (o : Oper) (σ : St) (K : St → Option Ret) : Option Ret :=
  match o.op with
  | .pick c y z => match σ.ev c with
    | .s (.bool c) => bif c then K (σ.put o.dst (σ.ev y)) else K (σ.put o.dst (σ.ev z))
    | _ => none
  | _ => match pureV Γ o σ with
    | some (c, v) => bif c then K (σ.put o.dst v) else none
    | none => match loadV Γ o σ with
      | some v => K (σ.put o.dst v)
      | none => effect Γ b o σ K

/-- One operation of a region; each has 256 numbers for what it makes, from b on. -/
noncomputable def runOp (Γ : Env) (ops : Array Oper) (b i : Nat) (σ : St) (K : St → Option Ret) : Option Ret :=
  match ops[i]? with
  | none => none
  | some o =>
    match o.guard with
    | none => step Γ (b + 256 * i) o σ K
    | some (j, want) =>
      match (ops[j]?).bind (·.dst) with
      | none => none
      | some t => match σ.tm.getD t .x with
        | .s (.bool c) =>
          bif c then
            (bif want then step Γ (b + 256 * i) o (σ.put (some t) (.s (.bool true))) K
             else K ((σ.put (some t) (.s (.bool true))).put o.dst .x))
          else
            (bif want then K ((σ.put (some t) (.s (.bool false))).put o.dst .x)
             else step Γ (b + 256 * i) o (σ.put (some t) (.s (.bool false))) K)
        | _ => none
/-- The operations of a region, one after the other. -/
noncomputable def runOps (Γ : Env) (ops : Array Oper) (b : Nat) : List Nat → St → (St → Option Ret) → Option Ret
  | [], σ, K => K σ
  | i :: rest, σ, K => runOp Γ ops b i σ fun σ' => runOps Γ ops b rest σ' K

def isStore (o : Oper) : Bool := match o.op with
  | .store _ _ _ => true
  | _ => false
def isLoad (o : Oper) : Bool := match o.op with
  | .load _ _ => true
  | _ => false
/-- May this load be taken first, in a region in which the objects T are written? -/
def loadable (T : List Nat) (b : Nat) (o : Oper) (σ : St) : Bool :=
  match o.op with
  | .load _ p => match σ.ev p with
    | .pb k _ => Nat.blt k b && !T.contains k
    | .pa k _ _ => Nat.blt k b && !T.contains k
    | .q _ _ _ => true
    | .qb _ _ => true
    | _ => false
  | _ => false
/-- An operation that may be taken first. -/
def quiet (Γ : Env) (T : List Nat) (b : Nat) (o : Oper) (σ : St) (K : St → Option Ret) : Option Ret :=
  match o.op with
  | .pick c y z => match σ.ev c with
    | .s (.bool c) => bif c then K (σ.put o.dst (σ.ev y)) else K (σ.put o.dst (σ.ev z))
    | _ => none
  | _ => match pureV Γ o σ with
    | some (c, v) => bif c then K (σ.put o.dst v) else none
    | none => match loadV Γ o σ with
      | some v => bif loadable T b o σ then K (σ.put o.dst v) else none
      | none => none
/-- An operation that comes when it comes. -/
noncomputable def loud (Γ : Env) (T : List Nat) (b i : Nat) (o : Oper) (σ : St) (K : St → Option Ret) : Option Ret :=
  bif isStore o || (touched Γ.lend o σ).all (fun k => Nat.ble b k || T.contains k) then step Γ (b + 256 * i) o σ K else none
mutual
noncomputable def runPlan (Γ : Env) (ops : Array Oper) (T : List Nat) (b : Nat) : Plan → St → (St → Option Ret) → Option Ret
  | .done, σ, K => K σ
  | .take i p, σ, K => match ops[i]? with
    | some o => quiet Γ T b o σ fun σ' => runPlan Γ ops T b p σ' K
    | none => none
  | .fork f, σ, K => runForks Γ ops T b f σ K
noncomputable def runForks (Γ : Env) (ops : Array Oper) (T : List Nat) (b : Nat) : Forks → St → (St → Option Ret) → Option Ret
  | .one i p, σ, K => match ops[i]? with
    | some o => loud Γ T b i o σ fun σ' => runPlan Γ ops T b p σ' K
    | none => none
  | .more i p f, σ, K => match ops[i]? with
    | some o => meet (loud Γ T b i o σ fun σ' => runPlan Γ ops T b p σ' K) (runForks Γ ops T b f σ K)
    | none => none
end

/-- Has no store come up yet? -/
def clean (ops : Array Oper) (listed : Array Bool) : Bool :=
  (List.range ops.size).all fun j => !(((ops[j]?).map isStore).getD false && listed.getD j false)
/-- Does every store wait for i? -/
def storesWait (ops : Array Oper) (i : Nat) : Bool :=
  (List.range ops.size).all fun j => match ops[j]? with
    | some o => !isStore o || o.after.any (fun e => Region.binds .any e && e.on == i)
    | none => true
def forksOf : Forks → List Nat
  | .one i _ => [i]
  | .more i _ f => i :: forksOf f
mutual
def planOk (ops : Array Oper) : Plan → Nat → Array Bool → Bool
  | .done, _, listed => (Region.ready .any ops listed).isEmpty
  | .take _ _, 0, _ => false
  | .take i p, n + 1, listed => (Region.ready .any ops listed).contains i && Region.free .any ops listed i &&
    (match ops[i]? with
      | some o => o.guard.isNone && (!isLoad o || (clean ops listed && storesWait ops i))
      | none => false) && planOk ops p n (listed.setIfInBounds i true)
  | .fork _, 0, _ => false
  | .fork f, n + 1, listed => (Region.ready .any ops listed == forksOf f) && forksOk ops f n listed
def forksOk (ops : Array Oper) : Forks → Nat → Array Bool → Bool
  | .one i p, n, listed => (match ops[i]? with
      | some o => o.guard.isNone
      | none => false) && planOk ops p n (listed.setIfInBounds i true)
  | .more i p f, n, listed => (match ops[i]? with
      | some o => o.guard.isNone
      | none => false) && planOk ops p n (listed.setIfInBounds i true) && forksOk ops f n listed
end

/-! ### Loops: only what is named lives on, its objects numbered anew -/
mutual
def V.refs : V → List Nat
  | .w k | .r k _ _ | .pb k _ | .pa k _ _ | .sb k _ _ => [k]
  | .a cs => refsL cs
  | .qb cs _ => refsL cs
  | .t cs => refsL cs
  | .f _ cs => refsL cs
  | .io cs => refsL cs
  | _ => []
def refsL : List V → List Nat
  | [] => []
  | v :: vs => v.refs ++ refsL vs
end
def E.refs : E → List Nat
  | .box cs => refsL cs
  | _ => []
def addAll : List Nat → List Nat → List Nat
  | acc, [] => acc
  | acc, k :: ks => if acc.contains k then addAll acc ks else addAll (acc ++ [k]) ks
/-- All that can be reached from these numbers, in the order of the finding. -/
def reach (ob : Obs) : Nat → List Nat → List Nat → List Nat
  | 0, acc, _ => acc
  | _, acc, [] => acc
  | n + 1, acc, k :: ks => if acc.contains k then reach ob n acc ks else reach ob n (acc ++ [k]) ((ob.get k).refs ++ ks)
mutual
def V.ren (m : List Nat) : V → V
  | .w k => if m.contains k then .w (m.idxOf k) else .x
  | .r k off len => if m.contains k then .r (m.idxOf k) off len else .x
  | .pb k c => if m.contains k then .pb (m.idxOf k) c else .x
  | .pa k i c => if m.contains k then .pa (m.idxOf k) i c else .x
  | .sb k i c => if m.contains k then .sb (m.idxOf k) i c else .x
  | .qb cs c => .qb (renL m cs) c
  | .a cs => .a (renL m cs)
  | .t cs => .t (renL m cs)
  | .f g cs => .f g (renL m cs)
  | .io cs => .io (renL m cs)
  | v => v
def renL (m : List Nat) : List V → List V
  | [] => []
  | v :: vs => v.ren m :: renL m vs
end
def E.ren (m : List Nat) : E → E
  | .box cs => .box (renL m cs)
  | e => e
def keep (live : List Nat) : Nat → List V → List V
  | _, [] => []
  | i, v :: vs => (if live.contains i then v else .x) :: keep live (i + 1) vs
def canon (live : List Nat) (σ : St) : St :=
  let tm := keep live 0 σ.tm
  let m := reach σ.ob 1000 [] (refsL tm ++ refsL σ.io)
  { tm := renL m tm, ob := m.zipIdx.map (fun (k, i) => (i, (σ.ob.get k).ren m)), nx := m.length, io := renL m σ.io }

/-- The number of the first region in a piece of code: a loop's name. -/
def firstRegion : Code → Option Nat
  | .region id _ _ => some id
  | .seq a b => match firstRegion a with
    | some n => some n
    | none => firstRegion b
  | .cond _ a b => match firstRegion a with
    | some n => some n
    | none => firstRegion b
  | .block _ c => firstRegion c
  | .loop c => firstRegion c
  | .scope c => firstRegion c
  | _ => none

/-- Rounds of a loop, at most so many. -/
noncomputable def rounds (body : St → (Ex → St → Option Ret) → Option Ret) (live out : List Nat) : Nat → St → (Ex → St → Option Ret) → Option Ret
  | 0, _, _ => none
  | n + 1, σ, K => body σ fun e σ' => match e with
    | .nrm => rounds body live out n (canon live σ') K
    | e => K e (canon out σ')

noncomputable def run (Γ : Env) : Code → St → (Ex → St → Option Ret) → Option Ret
  | .skip, σ, K => K .nrm σ
  | .region _ ops false, σ, K => runOps Γ ops σ.nx (List.range ops.size) { σ with nx := σ.nx + 256 * ops.size } fun σ' => K .nrm σ'
  | .region n ops true, σ, K => match Γ.plan n with
    | some (p, ts) => runPlan Γ ops (ts.flatMap fun t => touch1 σ (σ.tm.getD t .x)) σ.nx p { σ with nx := σ.nx + 256 * ops.size } fun σ' => K .nrm σ'
    | none => none
  | .seq a b, σ, K => run Γ a σ fun e σ' => match e with
    | .nrm => run Γ b σ' K
    | e => K e σ'
  | .cond c a b, σ, K => match σ.ev c with
    | .s (.bool t) => bif t then run Γ a σ K else run Γ b σ K
    | _ => none
  | .block id c, σ, K => run Γ c σ fun e σ' => match e with
    | .ext j => if j = id then K .nrm σ' else K (.ext j) σ'
    | e => K e σ'
  | .loop c, σ, K => match firstRegion c with
    | some n => match Γ.sum n with
      | some F => F (canon (Γ.hint n).1 σ) K
      | none => rounds (run Γ c) (Γ.hint n).1 (Γ.hint n).2 Γ.fuel (canon (Γ.hint n).1 σ) K
    | none => none
  | .exit id, σ, K => K (.ext id) σ
  | .ret, σ, K => K .ret σ
  | _, _, _ => none

/-- Are the plans of all regions in a piece of code sound? -/
def plansOk (plan : Nat → Option (Plan × List Nat)) : Code → Bool
  | .region n ops true => match plan n with
    | some (p, _) => Region.noSelect ops && planOk ops p ops.size (Array.replicate ops.size false)
    | none => true
  | .seq a b => plansOk plan a && plansOk plan b
  | .cond _ a b => plansOk plan a && plansOk plan b
  | .block _ c => plansOk plan c
  | .loop c => plansOk plan c
  | _ => true

/-- Do the summaries of all loops in a piece of code say what rounds come to? -/
def LoopsOk (Γ : Env) : Code → Prop
  | .seq a b => LoopsOk Γ a ∧ LoopsOk Γ b
  | .cond _ a b => LoopsOk Γ a ∧ LoopsOk Γ b
  | .block _ c => LoopsOk Γ c
  | .loop c => (∀ n F, firstRegion c = some n → Γ.sum n = some F → ∀ σ K r, F σ K = some r → ∃ m, rounds (run Γ c) (Γ.hint n).1 (Γ.hint n).2 m σ K = some r) ∧ LoopsOk Γ c
  | _ => True

/-! ### A function -/
def V.isOwn : V → Bool
  | .l .own _ _ => true
  | _ => false
/-- Is it an argument that is lent, and comes back? -/
def V.back : V → Bool
  | .io _ => true
  | .a cs => cs.any V.isOwn
  | v => v.isOwn
/-- Those that belong to what is lent among the arguments. -/
def ptrs {α : Type} : List V → List α → List α
  | u :: us, v :: vs => bif u.back then v :: ptrs us vs else ptrs us vs
  | _, _ => []
/-- A nil slice among the cells handed back, as its type has it. -/
def Cc.nil0 : Cc → V → V
  | .sl r, .nl => .l .deep r []
  | _, v => v
def Rw.nil0 : Rw → List V → List V
  | .one c, [v] => [c.nil0 v]
  | .cons c r, v :: vs => c.nil0 v :: r.nil0 vs
  | _, vs => vs
/-- A value that is handed back: its own slices go with it. -/
def handV (ty : Ty) (v : V) (ob : Obs) : Option (V × Obs) :=
  match v with
  | .a cs => match handCells cs ob with
    | some (ds, ob') => some (.a (ty.row.nil0 ds), ob')
    | none => none
  | .nl => some (.l .deep ty.row [], ob)
  | .pb k 0 => match ob.get k with
    | .box cs => match handCells cs (ob.del k) with
      | some (ds, ob') => some (.io ds, ob')
      | none => none
    | _ => none
  | v => handCell v ob
def resultOper (x : Operand) (t : TypeId) : Oper := { dst := none, op := .load t x, type := t, pos := "", after := #[], guard := none }
def outV (Γ : Env) (σ : St) : ResultVar → Option V
  | .tmp t => some (σ.tm.getD t .x)
  | .cell a t => loadV Γ (resultOper (.tmp a) t) σ
def outs (Γ : Env) (σ : St) : List ResultVar → List TypeId → Obs → Option (List V × Obs)
  | [], _, ob => some ([], ob)
  | x :: rs, ti :: ts, ob =>
    match Γ.ty ti with
    | some ty => match outV Γ σ x with
      | some v => match handV ty v ob with
        | none => none
        | some (d, ob1) => match outs Γ σ rs ts ob1 with
          | none => none
          | some (ds, ob2) => some (d :: ds, ob2)
      | none => none
    | none => none
  | _, _, _ => none
/-- What was lent, handed back. -/
def handB (v : V) (ob : Obs) : Option (V × Obs) :=
  match v with
  | .a cs => match handCells cs ob with
    | some (ds, ob') => some (.a ds, ob')
    | none => none
  | .pb k 0 => match ob.get k with
    | .box cs => match handCells cs (ob.del k) with
      | some (ds, ob') => some (.io ds, ob')
      | none => none
    | _ => none
  | .w k => handCell (.w k) ob
  | _ => none
def handBs : List V → Obs → Option (List V × Obs)
  | [], ob => some ([], ob)
  | v :: vs, ob => match handB v ob with
    | none => none
    | some (d, ob1) => match handBs vs ob1 with
      | none => none
      | some (ds, ob2) => some (d :: ds, ob2)
def oneOf : List V → V
  | [.t _] => .x
  | [d] => d
  | ds => .t ds
def finish (Γ : Env) (fn : Func) (σ : St) : Option Ret :=
  match outs Γ σ fn.results.toList fn.resultTypes.toList σ.ob with
  | none => none
  | some (ds, ob) => match handBs σ.io ob with
    | none => none
    | some (es, _) => some (oneOf ds, es)
noncomputable def evF (Γ : Env) (fresh : Bool) (fn : Func) (vs : List V) (K : Ret → Option Ret) : Option Ret :=
  match fn.body with
  | none => none
  | some c =>
    bif vs.all V.slim && Nat.ble vs.length fn.ntmps then
      match takeAll 0 vs [] with
      | (tm, ob) =>
        run Γ c { tm := tm ++ List.replicate (fn.ntmps - vs.length) .x, ob := ob, nx := 24 * vs.length, io := ptrs vs tm } fun e σ =>
          match e with
          | .ext _ => none
          | _ => match finish Γ fn σ with
            | some q => bif !fresh || (frshRet q.1 && q.2.all V.frsh) then K q else none
            | none => none
    else none

end Go.Ev
