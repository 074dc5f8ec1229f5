/- MachOk: parts EvCore EvRel EvPure EvPureOps EvLoad EvObj EvNew EvStore, packed by squash.py. -/
import Derived.Control
import Derived.Calls
import Derived.Orders
import Derived.LoopN
import Derived.Below
import Derived.Laws.Sem
import Derived.Laws.Cells
import Derived.Laws.Entries
import Derived.Laws.StructEq
import Derived.Laws.Slices
import Derived.Laws.Tables
import Derived.DataShut
import Derived.Laws.CopyRow
import Derived.Deep.AppendSrc
set_option linter.unusedVariables false
set_option linter.unusedSimpArgs false
section
set_option linter.unusedVariables false
namespace Go.Ev
mutual
inductive Cc where
 | int (k : IntKind)
 | bool
 | str
 | sl (r : Rw)
inductive Rw where
 | one (c : Cc)
 | cons (c : Cc) (r : Rw)
end
deriving instance DecidableEq for Cc, Rw
mutual
@[reducible] def Cc.T : Cc → Type
 | .int _ => Int
 | .bool => Bool
 | .str => ByteArray
 | .sl r => List r.T
@[reducible] def Rw.T : Rw → Type
 | .one c => c.T
 | .cons c r => c.T × r.T
end
def Cc.dflt : (c : Cc) → c.T
 | .int _ => (0 : Int)
 | .bool => false
 | .str => ByteArray.empty
 | .sl _ => []
def Rw.dflt : (r : Rw) → r.T
 | .one c => c.dflt
 | .cons c r => (c.dflt, r.dflt)
def Rw.n : Rw → Nat
 | .one _ => 1
 | .cons _ r => r.n + 1
def Cc.flat : Cc → Bool
 | .sl _ => false
 | _ => true
def Rw.aiJ : Rw → Nat → Bool
 | .one c, j => j.beq 0 && !c.flat
 | .cons c _, 0 => !c.flat
 | .cons _ r, j + 1 => r.aiJ j
def Rw.flat : Rw → Bool
 | .one c => c.flat
 | .cons c r => c.flat && r.flat
inductive Ow where
 | no | top | deep | own
 deriving DecidableEq
inductive V where
 | s (v : Value)
 | a (cs : List V)
 | t (vs : List V)
 | nl
 | l (o : Ow) (r : Rw) (xs : List r.T)
 | w (k : Nat)
 | r (k off len : Nat)
 | pb (k c : Nat)
 | pa (k i c : Nat)
 | q (r : Rw) (d : r.T) (c : Nat)
 | qb (cs : List V) (c : Nat)
 | sb (k i c : Nat)
 | f (g : FuncId) (caps : List V)
 | io (cs : List V)
 | gl (g : Nat)
 | gq (g m i : Nat)
 | ud
 | x
 deriving Inhabited
inductive E where
 | no
 | box (cs : List V)
 | arr (mu deep : Bool) (r : Rw) (xs : List r.T)
 | own (st : Bool) (r : Rw) (xs : List r.T)
 deriving Inhabited
def E.mu : E → Bool
 | .box _ => true
 | .arr mu _ _ _ => mu
 | .own _ _ _ => true
 | .no => false
abbrev dO := List (Nat × E)
def dO.get : dO → Nat → E
 | [], _ => .no
 | (j, e) :: ob, k => bif j.beq k then e else dO.get ob k
def dO.put : dO → Nat → E → dO
 | [], k, e => [(k, e)]
 | (j, f) :: ob, k, e => bif j.beq k then (k, e) :: ob else bif k.blt j then (k, e) :: (j, f) :: ob else (j, f) :: dO.put ob k e
def dO.del : dO → Nat → dO
 | [], _ => []
 | (j, f) :: ob, k => bif j.beq k then dO.del ob k else (j, f) :: dO.del ob k
structure St where
 tm : List V
 ob : dO
 nx : Nat
 io : List V := []
inductive Ds where
 | st | sl | int (k : IntKind) | bool | str | other
 | arr (len m : Nat)
 deriving DecidableEq
structure Ty where
 ds : Ds := .other
 n : Nat := 1
 agg : Bool := false
 zero : List V := []
 bytes : Nat := 8
 fs : List (Nat × Nat × Bool) := []
 row : Rw := .one .bool
 eqv : Bool := false
def Ty.sl (t : Ty) : Bool := match t.ds with | .sl => true | _ => false
def Ty.st (t : Ty) : Bool := match t.ds with | .st => true | _ => false
def Ty.str (t : Ty) : Bool := match t.ds with | .str => true | _ => false
def Ty.isInt (t : Ty) : Bool := match t.ds with | .int _ => true | _ => false
def Ty.bool (t : Ty) : Bool := match t.ds with | .bool => true | _ => false
inductive Ex where
 | nrm
 | ext (id : Nat)
 | ret
abbrev aj := V × List V
abbrev Sm := List V → (aj → Option aj) → Option aj
mutual
inductive Plan where
 | done
 | take (i : Nat) (p : Plan)
 | fork (f : Forks)
inductive Forks where
 | one (i : Nat) (p : Plan)
 | more (i : Nat) (p : Plan) (f : Forks)
end
structure Ld where
 l : Nat → Bool := fun _ => false
 g : Nat → Bool := fun _ => false
structure Env where
 ty : Nat → Option Ty
 fn : Nat → Option (Bool × Sm)
 hint : Nat → List Nat × List Nat
 plan : Nat → Option (Plan × List Nat)
 sum : Nat → Option (St → (Ex → St → Option aj) → Option aj) := fun _ => none
 lend : Ld := {}
 focus : Bool := false
 glob : Nat → Option ((r : Rw) × List r.T) := fun _ => none
 fuel : Nat := 0
 Rj : Nat → List (Nat × Nat × Rw) := fun _ => []
def cst : Value → V
 | .int k n => .s (.int k n)
 | .bool b => .s (.bool b)
 | .string b => .s (.string b)
 | .slice none 0 0 => .nl
 | _ => .x
def St.ev (σ : St) : Operand → V
 | .tmp t => σ.tm.getD t .x
 | .const v => cst v
 | .func g => .f g []
 | .global g => .gl g
def St.put (σ : St) (d : Option Tmp) (v : V) : St :=
 match d with
 | some i => { σ with tm := σ.tm.set i v }
 | none => σ
def St.obj (σ : St) (k : Nat) : E := σ.ob.get k
def St.Jf (σ : St) (k : Nat) (e : E) : St := { σ with ob := σ.ob.put k e }
def St.aiK (σ : St) (k : Nat) : Bool := match σ.obj k with | .box _ => true | _ => false
def St.U4 (σ : St) (k : Nat) : Bool := match σ.obj k with | .arr _ _ _ _ => true | .own _ _ _ => true | _ => false
def V.cells : V → List V
 | .a cs => cs
 | v => [v]
def V.one : V → Bool
 | .a _ | .t _ | .io _ | .x | .ud => false
 | _ => true
def V.wX (v : V) : Option (List V) := if v.cells.all V.one then some v.cells else none
def mk (agg : Bool) (cs : List V) : Option V :=
 if agg then some (.a cs) else match cs with
  | [v] => some v
  | _ => none
def Cc.cell : (c : Cc) → Ow → c.T → V
 | .int k, _, n => .s (.int k n)
 | .bool, _, b => .s (.bool b)
 | .str, _, b => .s (.string b)
 | .sl r, o, xs => .l o r xs
def Rw.cells : (r : Rw) → Ow → r.T → List V
 | .one c, o, d => [c.cell o d]
 | .cons c r, o, d => c.cell o d.1 :: r.cells o d.2
def amW : V → Bool
 | .s _ => true
 | .nl => true
 | _ => false
def Cc.give : (c : Cc) → V → dO → Option (c.T × Bool × dO)
 | .int k, .s (.int k' n), ob => if k' = k then some (n, true, ob) else none
 | .bool, .s (.bool b), ob => some (b, true, ob)
 | .str, .s (.string b), ob => some (b, true, ob)
 | .sl _, .nl, ob => some ([], true, ob)
 | .sl r, .l _ r' xs, ob => if h : r' = r then some (h ▸ xs, false, ob) else none
 | .sl r, .w k, ob =>
  match ob.get k with
  | .arr mu deep r' xs => if h : r' = r then some ((h ▸ xs : List r.T), mu && deep, ob.put k (.arr false deep r' xs)) else none
  | _ => none
 | .sl r, .r k off len, ob =>
  match ob.get k with
  | .arr mu deep r' xs => if h : r' = r then some (((h ▸ xs : List r.T).drop off).take len, false, ob.put k (.arr false deep r' xs)) else none
  | _ => none
 | _, _, _ => none
def Rw.give : (r : Rw) → List V → dO → Option (r.T × Bool × dO)
 | .one c, [v], ob => c.give v ob
 | .cons c r, v :: vs, ob =>
  match c.give v ob with
  | some (d, p, kN) => match r.give vs kN with
   | some (ds, p', zV) => some ((d, ds), p && p', zV)
   | none => none
  | none => none
 | _, _, _ => none
def Rw.upd : (r : Rw) → r.T → Nat → List V → dO → Option (r.T × Bool × dO)
 | _, d, _, [], ob => some (d, true, ob)
 | .one c, _, 0, [v], ob => c.give v ob
 | .cons c r, d, 0, v :: vs, ob =>
  match c.give v ob with
  | some (e, p, kN) => match r.upd d.2 0 vs kN with
   | some (es, p', zV) => some ((e, es), p && p', zV)
   | none => none
  | none => none
 | .cons _ r, d, i + 1, vs, ob =>
  match r.upd d.2 i vs ob with
  | some (es, p, kN) => some ((d.1, es), p, kN)
  | none => none
 | _, _, _, _, _ => none
def rowsOf (r : Rw) (σ : St) : V → Option (List r.T)
 | .nl => some []
 | .l _ r' xs => if h : r' = r then some (h ▸ xs) else none
 | .w k => match σ.obj k with
  | .arr _ _ r' xs => if h : r' = r then some (h ▸ xs) else none
  | _ => none
 | .r k off len => match σ.obj k with
  | .arr _ _ r' xs => if h : r' = r then some (((h ▸ xs : List r.T).drop off).take len) else none
  | _ => none
 | _ => none
def slen (σ : St) : V → Option Nat
 | .nl => some 0
 | .l _ _ xs => some xs.length
 | .w k => match σ.obj k with
  | .arr _ _ _ xs => some xs.length
  | .own _ _ xs => some xs.length
  | _ => none
 | .r k _ n => if σ.U4 k then some n else none
 | _ => none
def bin (op : BinOp) (v u : Value) : Option (Bool × Value) :=
 match op, v, u with
 | .add, .int k a, .int k' b => if k = k' then some (true, .int k (k.wrap (a + b))) else none
 | .sub, .int k a, .int k' b => if k = k' then some (true, .int k (k.wrap (a - b))) else none
 | .mul, .int k a, .int k' b => if k = k' then some (true, .int k (k.wrap (a * b))) else none
 | .quo, .int k a, .int k' b => if k = k' then some (!(b == 0), .int k (k.wrap (a.tdiv b))) else none
 | .rem, .int k a, .int k' b => if k = k' then some (!(b == 0), .int k (a.tmod b)) else none
 | .shl, .int k a, .int _ b => some (decide (0 ≤ b), .int k (k.wrap (a * 2 ^ (min b.toNat k.bits))))
 | .shr, .int k a, .int _ b => some (decide (0 ≤ b), .int k (a.fdiv (2 ^ (min b.toNat k.bits))))
 | .and, .int k a, .int k' b => if k = k' then some (true, .int k (k.wrap (BitVec.ofInt k.bits a &&& BitVec.ofInt k.bits b).toNat)) else none
 | .or, .int k a, .int k' b => if k = k' then some (true, .int k (k.wrap (BitVec.ofInt k.bits a ||| BitVec.ofInt k.bits b).toNat)) else none
 | .xor, .int k a, .int k' b => if k = k' then some (true, .int k (k.wrap (BitVec.ofInt k.bits a ^^^ BitVec.ofInt k.bits b).toNat)) else none
 | .andNot, .int k a, .int k' b => if k = k' then some (true, .int k (k.wrap (BitVec.ofInt k.bits a &&& ~~~(BitVec.ofInt k.bits b)).toNat)) else none
 | .eql, .int k a, .int k' b => if k = k' then some (true, .bool (a == b)) else none
 | .neq, .int k a, .int k' b => if k = k' then some (true, .bool (a != b)) else none
 | .lss, .int k a, .int k' b => if k = k' then some (true, .bool (decide (a < b))) else none
 | .leq, .int k a, .int k' b => if k = k' then some (true, .bool (decide (a ≤ b))) else none
 | .gtr, .int k a, .int k' b => if k = k' then some (true, .bool (decide (a > b))) else none
 | .geq, .int k a, .int k' b => if k = k' then some (true, .bool (decide (a ≥ b))) else none
 | .eql, .string a, .string b => some (true, .bool (a.toList == b.toList))
 | .neq, .string a, .string b => some (true, .bool (!(a.toList == b.toList)))
 | .add, .string a, .string b => some (decide (a.size + b.size ≤ 140737488355328), .string (a ++ b))
 | _, _, _ => none
def unop (op : UnOp) (v : Value) : Option Value :=
 match op, v with
 | .neg, .int k a => some (.int k (k.wrap (0 - a)))
 | .not, .bool b => some (.bool (!b))
 | _, _ => none
def eqI : List Int → List Int → Bool
 | [], [] => true
 | x :: xs, y :: ys => x == y && eqI xs ys
 | _, _ => false
def afF : List V → Option (List Int)
 | [] => some []
 | .s (.int .i64 n) :: vs => match afF vs with
  | some ns => some (n :: ns)
  | none => none
 | _ => none
def XU (fs : List (Nat × Nat × Bool)) (σ : St) : List (Nat × Operand) → List V → Option (List V)
 | [], cs => some cs
 | (i, x) :: rest, cs =>
  match fs[i]? with
  | none => none
  | some (off, size, _) =>
   match (σ.ev x).wX with
   | none => none
   | some vs => if vs.length = size then XU fs σ rest (cs.take off ++ vs ++ cs.drop (off + size)) else none
def LY (r : Rw) (σ : St) : Nat → List (Nat × Operand) → dO → Option (List r.T × Bool × dO)
 | _, [], ob => some ([], true, ob)
 | i, (j, x) :: rest, ob =>
  if i = j then
   match (σ.ev x).wX.bind (fun vs => r.give vs ob) with
   | none => none
   | some (d, p, kN) => match LY r σ (i + 1) rest kN with
    | none => none
    | some (ds, p', zV) => some (d :: ds, p && p', zV)
  else none
def zq : Nat := 140737488355328
mutual
def V.clo : V → Bool
 | .s _ | .nl | .q _ _ _ => true
 | .l .no _ _ => true
 | .qb cs _ => abS cs
 | _ => false
def abS : List V → Bool
 | [] => true
 | v :: vs => v.clo && abS vs
end
def aeE (ob : dO) : V → V
 | .s v => .s v
 | .nl => .nl
 | .w k => match ob.get k with
  | .arr _ _ r xs => .l .no r xs
  | .own _ r xs => .l .no r xs
  | _ => .x
 | .r k off len => match ob.get k with
  | .arr _ _ r xs => .l .no r ((xs.drop off).take len)
  | _ => .x
 | .l _ r xs => .l .no r xs
 | .pa k i c => match ob.get k with
  | .arr _ _ r xs => .q r (xs.getD i r.dflt) c
  | _ => .x
 | .q r d c => .q r d c
 | .qb cs c => bif abS cs then .qb cs c else .x
 | _ => .x
def asn (ob : dO) : V → V
 | .pb k c => match ob.get k with
  | .box cs => .qb (cs.map (aeE ob)) c
  | _ => .x
 | v => aeE ob v
def aps (ob : dO) : V → V
 | .pb k c => match ob.get k with
  | .box cs => .qb (cs.map (asn ob)) c
  | _ => .x
 | v => aeE ob v
def res1 (ob : dO) : V → V
 | .f g caps => .f g (caps.map (aps ob))
 | v => aeE ob v
def TJ (ob : dO) : V → V
 | .a cs => .a (cs.map (res1 ob))
 | v => res1 ob v
def uf (c : V) (ob : dO) : Option (V × dO) :=
 match c with
 | .s v => some (.s v, ob)
 | .nl => some (.nl, ob)
 | .l _ r xs => some (.l .no r xs, ob)
 | .w k => match ob.get k with
  | .arr true true r xs => some (.l .deep r xs, ob.del k)
  | .arr true false r xs => some (.l .top r xs, ob.del k)
  | .arr false _ r xs => some (.l .no r xs, ob)
  | .own _ r xs => some (.l .own r xs, ob.del k)
  | _ => none
 | .r k off len => match ob.get k with
  | .arr _ deep r xs => some (.l .no r ((xs.drop off).take len), ob.put k (.arr false deep r xs))
  | _ => none
 | _ => none
def vH : List V → dO → Option (List V × dO)
 | [], ob => some ([], ob)
 | c :: cs, ob => match uf c ob with
  | none => none
  | some (d, kN) => match vH cs kN with
   | none => none
   | some (ds, zV) => some (d :: ds, zV)
inductive Hd where
 | no
 | bx (ds : List V)
 | cl (d : V)
def abT (k : Nat) (ob : dO) : Option (V × dO) :=
 match ob.get k with
 | .arr _ _ _ _ => uf (.w k) ob
 | _ => none
def hand (gv : Bool) : List V → dO → Option (List Hd × List Nat × dO)
 | [], ob => some ([], [], ob)
 | v :: vs, ob =>
  match v with
  | .pb k 0 => match ob.get k with
   | .box cs => match vH cs (ob.del k) with
    | none => none
    | some (ds, kN) => match hand gv vs kN with
     | none => none
     | some (hs, ks, zV) => some (.bx ds :: hs, k :: ks, zV)
   | _ => none
  | .w k => bif gv then (match abT k ob with
    | none => none
    | some (d, kN) => match hand gv vs kN with
     | none => none
     | some (hs, ks, zV) => some (.cl d :: hs, ks, zV))
   else (match hand gv vs ob with
   | none => none
   | some (hs, ks, zV) => some (.no :: hs, ks, zV))
  | _ => match hand gv vs ob with
   | none => none
   | some (hs, ks, zV) => some (.no :: hs, ks, zV)
def JL (ob : dO) : List V → List Hd → List V
 | v :: vs, .bx ds :: hs => .io ds :: JL ob vs hs
 | v :: vs, .cl d :: hs => d :: JL ob vs hs
 | v :: vs, .no :: hs => TJ ob v :: JL ob vs hs
 | _, _ => []
def xu (b : Nat) (c : V) (ob : dO) : V × dO :=
 match c with
 | .l .deep r xs => (.w b, ob.put b (.arr true true r xs))
 | .l .top r xs => (.w b, ob.put b (.arr true false r xs))
 | .l .own r xs => (.w b, ob.put b (.own true r xs))
 | v => (v, ob)
def nS (b : Nat) : List V → dO → List V × dO
 | [], ob => ([], ob)
 | c :: cs, ob => match xu b c ob with
  | (d, kN) => match nS (b + 1) cs kN with
   | (ds, zV) => (d :: ds, zV)
def Fq (b : Nat) (v : V) (ob : dO) : V × dO :=
 match v with
 | .a cs => match nS b cs ob with
  | (ds, kN) => (.a ds, kN)
 | .io cs => match nS (b + 1) cs ob with
  | (ds, kN) => (.pb b 0, kN.put b (.box ds))
 | v => xu b v ob
def Fv (b : Nat) : List V → dO → List V × dO
 | [], ob => ([], ob)
 | v :: vs, ob => match Fq b v ob with
  | (d, kN) => match Fv (b + 24) vs kN with
   | (ds, zV) => (d :: ds, zV)
def QN (b : Nat) (v : V) (ob : dO) : V × dO :=
 match v with
 | .t vs => match Fv b vs ob with
  | (ds, kN) => (.t ds, kN)
 | v => Fq b v ob
def QO (b : Nat) : List Nat → List (List V) → dO → dO
 | k :: ks, cs :: css, ob => match nS b cs ob with
  | (ds, kN) => QO (b + 24) ks css (kN.put k (.box ds))
 | _, _, ob => ob
def V.aeF : V → Bool
 | .a cs => Nat.blt cs.length 20
 | .io cs => Nat.blt cs.length 20
 | _ => true
def DI : V → Bool
 | .t vs => Nat.blt vs.length 5 && vs.all V.aeF
 | v => v.aeF
def QS (css : List (List V)) : Bool := Nat.blt css.length 5 && css.all (fun cs => Nat.blt cs.length 20)
def LZ (k : Nat) (ob : dO) : dO :=
 match ob.get k with
 | .arr _ deep r xs => ob.put k (.arr false deep r xs)
 | .own _ r xs => ob.put k (.arr false true r xs)
 | _ => ob
def abJ (c : V) (ob : dO) : dO :=
 match c with
 | .w k => LZ k ob
 | .r k _ _ => LZ k ob
 | .pa k _ _ => LZ k ob
 | _ => ob
def Og : List V → dO → dO
 | [], ob => ob
 | c :: cs, ob => Og cs (abJ c ob)
def Gl : List V → dO → dO
 | [], ob => ob
 | v :: vs, ob => Gl vs (Og v.cells ob)
def ios : List V → Option (List (List V))
 | [] => some []
 | .io cs :: vs => match ios vs with
  | some css => some (cs :: css)
  | none => none
 | _ :: _ => none
def arh : V → V
 | .l .deep r xs => .l .own r xs
 | .l .top r xs => .l .own r xs
 | v => v
def anQ : V → V
 | .a cs => .a (cs.map arh)
 | v => arh v
def abU : V → V
 | .t vs => .t (vs.map anQ)
 | v => anQ v
def V.Jg : V → Bool
 | .s _ | .nl | .l .deep _ _ => true
 | .l .own _ _ => true
 | .l .top rw _ => rw.flat
 | _ => false
def V.U5 : V → Bool
 | .a cs => cs.all V.Jg
 | .io cs => cs.all V.Jg
 | v => v.Jg
def zZ : V → Bool
 | .t vs => vs.all V.U5
 | v => v.U5
def V.anR : V → Bool
 | .io _ => false
 | .t vs => vs.all fun v => match v with | .io _ => false | _ => true
 | _ => true
def afG (ob : dO) : V → Option (V × dO)
 | .s v => some (.s v, ob)
 | .nl => some (.nl, ob)
 | .w k => match ob.get k with
  | .own _ r xs => some (.l .own r xs, ob.del k)
  | _ => none
 | _ => none
def abV (ob : dO) : List V → Option (List V × dO)
 | [] => some ([], ob)
 | v :: vs => match afG ob v with
  | none => none
  | some (d, kN) => match abV kN vs with
   | none => none
   | some (ds, zV) => some (d :: ds, zV)
def U6 (v d : V) (ob : dO) : Option dO :=
 match v with
 | .s _ => some ob
 | .nl => some ob
 | .w k => match d with
  | .l .own r xs => some (ob.put k (.own false r xs))
  | _ => none
 | _ => none
def Fz : List V → List V → dO → Option dO
 | [], [], ob => some ob
 | v :: vs, d :: ds, ob => match U6 v d ob with
  | none => none
  | some kN => Fz vs ds kN
 | _, _, _ => none
def CQ : List V → List V → Bool
 | [], [] => true
 | .l .own r _ :: vs, .l .own r' _ :: ds => decide (r' = r) && CQ vs ds
 | .s _ :: vs, _ :: ds => CQ vs ds
 | .nl :: vs, _ :: ds => CQ vs ds
 | _, _ => false
def V.agt : V → Bool
 | .f _ caps => abS caps
 | _ => true
def V.noCap (v : V) : Bool := v.cells.all V.agt
def abW (G : Sm) (d : Option Tmp) (vs : List V) (σ : St) (K : St → Option aj) : Option aj :=
 match vs with
 | [.w k, .s u] => match abV σ.ob [.w k] with
  | none => none
  | some (ds, ob) => G (ds ++ [.s u]) fun q => match q.1, q.2 with
   | .s z, es => bif CQ ds es then (match Fz [.w k] es ob with
    | none => none
    | some kN => K (St.put { σ with ob := kN } d (.s z))) else none
   | _, _ => none
 | [.a cs, .s u] => match abV σ.ob cs with
  | none => none
  | some (ds, ob) => G [.a ds, .s u] fun q => match q.1, q.2 with
   | .s z, [.a es] => bif CQ ds es then (match Fz cs es ob with
    | none => none
    | some kN => K (St.put { σ with ob := kN } d (.s z))) else none
   | _, _ => none
 | [.sb k i c, .s u] => match σ.obj k with
  | .own true r xs => match (r.cells .no (xs.getD i r.dflt))[c]? with
   | some (.l .no r' ys) =>
    bif decide (i < xs.length) then
    G [.l .own r' ys, .s u] fun q => match q.1, q.2 with
    | .s z, [.l .own r2 zs] => bif decide (r2 = r') then (match r.upd (xs.getD i r.dflt) c [.l .own r2 zs] [] with
     | some (e, _, _) => K (St.put { σ with ob := σ.ob.put k (.own true r (xs.set i e)) } d (.s z))
     | none => none) else none
    | _, _ => none
    else none
   | _ => none
  | _ => none
 | _ => none
def apt (Γ : Env) (b : Nat) (d : Option Tmp) (g : FuncId) (vs : List V) (σ : St) (K : St → Option aj) : Option aj :=
 match Γ.fn g with
 | none => none
 | some (fresh, G) =>
  bif Γ.lend.l g then abW G d vs σ K
  else
  match (bif fresh || vs.all V.noCap then hand (Γ.lend.g g && fresh) vs (bif fresh then σ.ob else Gl vs σ.ob) else none) with
  | none => none
  | some (hs, ks, ob) =>
   G (JL ob vs hs) fun q =>
    match ios q.2 with
    | none => none
    | some css =>
     bif DI q.1 && QS css then
      match QN b (bif Γ.focus && fresh && !(Γ.lend.g g && fresh) && ks.isEmpty && zZ q.1 && q.1.anR then abU q.1 else q.1) ob with
      | (u, kN) => K (St.put { σ with ob := QO (b + 96) ks css kN } d u)
     else none
def lG (r : Rw) (u : V) (σ : St) : Bool × dO :=
 if r.flat then (true, σ.ob) else match u with
  | .w k => match σ.obj k with
   | .arr true true _ _ => (true, σ.ob.del k)
   | _ => (false, σ.ob)
  | .nl => (true, σ.ob)
  | _ => (false, σ.ob)
def U7 (b : Nat) (d : Option Tmp) (r : Rw) (bytes : Nat) (v u : V) (σ : St) (K : St → Option aj) : Option aj :=
 match rowsOf r σ u with
 | none => none
 | some ys =>
  match v with
  | .nl => bif Nat.ble (ys.length * bytes) zq then K (St.put { σ with ob := (lG r u σ).2.put b (.arr true (lG r u σ).1 r ys) } d (.w b)) else none
  | .w k => match (lG r u σ).2.get k with
   | .arr true deep r' xs => if h : r' = r then
     bif Nat.ble ((xs.length + ys.length) * bytes) zq then
      K (St.put { σ with ob := ((lG r u σ).2.del k).put b (.arr true (deep && (lG r u σ).1) r ((h ▸ xs : List r.T) ++ ys)) } d (.w b))
     else none
    else none
   | _ => none
  | _ => none
def idx : V → Option Int
 | .s (.int _ n) => some n
 | _ => none
def Oi (σ : St) : Option Operand → Option (Option Int)
 | none => some none
 | some x => (idx (σ.ev x)).map some
def apu (len : Nat) : Option Int → Option Int → Bool
 | none, none => true
 | some l, none => decide (0 ≤ l) && decide (l ≤ (len : Nat))
 | none, some h => decide (0 ≤ h) && decide (h ≤ (len : Nat))
 | some l, some h => decide (0 ≤ l) && decide (l ≤ h) && decide (h ≤ (len : Nat))
def asq {α : Type} (xs : List α) : Option Int → Option Int → List α
 | none, none => xs
 | some l, none => xs.drop l.toNat
 | none, some h => xs.take h.toNat
 | some l, some h => (xs.take h.toNat).drop l.toNat
theorem agu {len : Nat} {lo hi : Option Int} (h : apu len lo hi = true) : 0 ≤ lo.getD 0 ∧ lo.getD 0 ≤ hi.getD (len : Nat) ∧ hi.getD (len : Nat) ≤ (len : Nat) := by
 cases lo <;> cases hi <;> simp [apu] at h ⊢ <;> omega
theorem ari {α : Type} (xs : List α) (lo hi : Option Int) : asq xs lo hi = (xs.take (hi.getD (xs.length : Nat)).toNat).drop (lo.getD 0).toNat := by
 cases lo <;> cases hi <;> simp [asq]
def afH : Option Operand → Bool
 | some (.const (.int _ n)) => n == 0
 | _ => false
def lH (Γ : Env) (o : Oper) (σ : St) : Option (Bool × V) :=
 match o.op with
 | .move y | .assign y => some (true, σ.ev y)
 | .build t parts => match Γ.ty t with
  | some ty => if ty.st then match XU ty.fs σ parts.toList ty.zero with
   | some cs => some (true, .a cs)
   | none => none else none
  | none => none
 | .nilCheck y => match σ.ev y with
  | .pb k c => if σ.aiK k then some (true, .pb k c) else none
  | .pa k i c => if σ.U4 k then some (true, .pa k i c) else none
  | .q r e c => some (true, .q r e c)
  | .qb cs c => some (true, .qb cs c)
  | _ => none
 | .binOp op t y z _ => match σ.ev y, σ.ev z with
  | .s (.bool a), .s (.bool b) => match Γ.ty t with
   | some ty => if ty.bool then match op with
    | .eql => some (true, .s (.bool (a == b)))
    | .neq => some (true, .s (.bool (!(a == b))))
    | _ => none
    else none
   | none => none
  | .s v, .s u => match bin op v u with
   | some (c, w) => some (c, .s w)
   | none => none
  | .a as, .a bs => match Γ.ty t, afF as, afF bs with
   | some ty, some xs, some ys => if ty.eqv && Nat.beq xs.length ty.n && Nat.beq ys.length ty.n then match op with
    | .eql => some (true, .s (.bool (eqI xs ys)))
    | .neq => some (true, .s (.bool (!(eqI xs ys))))
    | _ => none
    else none
   | _, _, _ => none
  | _, _ => none
 | .unOp op _ y => match σ.ev y with
  | .s v => match unop op v with
   | some w => some (true, .s w)
   | none => none
  | _ => none
 | .convert u t y => match Γ.ty u, Γ.ty t, σ.ev y with
  | some _, some ty, .s (.int _ n) => match ty.ds with
   | .int k => some (true, .s (.int k (k.wrap n)))
   | _ => none
  | _, _, _ => none
 | .makeFunc (.func g) first caps => if first.isEmpty then some (true, .f g (caps.toList.map σ.ev)) else none
 | .slice t y lo hi0 none => match Oi σ lo, Oi σ hi0, σ.ev y with
  | some lo, some hi, .s (.string w) => match Γ.ty t with
   | none => none
   | some ty => if ty.str then
   let lo := lo.getD 0; let hi := hi.getD w.size
   some (decide (0 ≤ lo) && decide (lo ≤ hi) && decide (hi ≤ w.size), .s (.string (w.extract lo.toNat hi.toNat))) else none
  | some lo, some hi, v => match Γ.ty t with
   | none => none
   | some ty => if ty.sl then match v with
    | .nl =>
     let lo := lo.getD 0; let hi := hi.getD 0
     some (lo == 0 && hi == 0, .nl)
    | .l _ r xs =>
     if r = ty.row then some (apu xs.length lo hi, .l .no r (asq xs lo hi)) else none
    | .w k => match σ.obj k with
     | .arr mu _ r xs =>
      if r = ty.row then (if mu && afH hi0 then none else some (apu xs.length lo hi, .r k (lo.getD 0).toNat ((hi.getD xs.length).toNat - (lo.getD 0).toNat))) else none
     | _ => none
    | .r k off len => match σ.obj k with
     | .arr _ _ r _ =>
      if r = ty.row then some (apu len lo hi, .r k (off + (lo.getD 0).toNat) ((hi.getD len).toNat - (lo.getD 0).toNat)) else none
     | _ => none
    | _ => none
    else none
  | _, _, _ => none
 | .slice t y lo hi (some mx) => match Γ.ty t, Oi σ lo, hi.bind (fun h => idx (σ.ev h)), idx (σ.ev mx), σ.ev y with
  | some ty, some lo, some hi, some m, .l _ r xs => if ty.sl then
    let lo := lo.getD 0
    if r = ty.row then some (decide (0 ≤ lo) && decide (lo ≤ hi) && decide (hi ≤ m) && decide (m ≤ xs.length), .l .no r ((xs.take hi.toNat).drop lo.toNat)) else none
   else none
  | _, _, _, _, _ => none
 | .fieldAddr t y i => match Γ.ty t with
  | none => none
  | some ty => if ty.st then match ty.fs[i]?, σ.ev y with
   | some (off, _, _), .pb k c => if σ.aiK k then some (true, .pb k (c + off)) else none
   | some (off, _, _), .pa k j c => if σ.U4 k then some (true, .pa k j (c + off)) else none
   | some (off, _, _), .q r e c => some (true, .q r e (c + off))
   | some (off, _, _), .qb cs c => some (true, .qb cs (c + off))
   | _, _ => none
   else none
 | .field t y i => match Γ.ty t with
  | none => none
  | some ty => if ty.st then match ty.fs[i]?, σ.ev y with
   | some (off, n, g), .a cs => if off + n ≤ cs.length then match mk g ((cs.drop off).take n) with
    | some v => some (true, v)
    | none => none
    else none
   | _, _ => none
   else none
 | .indexAddr t y i => match Γ.ty t, idx (σ.ev i) with
  | some ty, some n => if ty.sl then match σ.ev y with
   | .l _ r xs => if r = ty.row then some (decide (0 ≤ n) && decide (n < xs.length), .q r (xs.getD n.toNat r.dflt) 0) else none
   | .w k => match σ.obj k with
    | .arr _ _ r xs => if r = ty.row then some (decide (0 ≤ n) && decide (n < xs.length), .pa k n.toNat 0) else none
    | .own _ r xs => if r = ty.row then some (decide (0 ≤ n) && decide (n < xs.length), .pa k n.toNat 0) else none
    | _ => none
   | .r k off len => match σ.obj k with
    | .arr _ _ r _ => if r = ty.row then some (decide (0 ≤ n) && decide (n < len), .pa k (off + n.toNat) 0) else none
    | _ => none
   | _ => none
   else none
  | _, _ => none
 | .index t y i => match Γ.ty t, idx (σ.ev i), σ.ev y with
  | some ty, some n, .s (.string w) => if ty.str then some (decide (0 ≤ n) && decide (n < w.size), .s (.int .u8 ((w.data.toList.getD n.toNat 0).toNat))) else none
  | _, _, _ => none
 | .extract y i => match σ.ev y with
  | .t vs => match vs[i]? with
   | some v => some (true, v)
   | none => none
  | _ => none
 | .call c => match c.callee with
  | .builtin .len => match c.args.toList, c.argTypes.toList with
   | [y], [t] => match Γ.ty t, σ.ev y with
    | some ty, .s (.string w) => if ty.str then some (true, .s (.int .i64 w.size)) else none
    | some ty, v => if ty.sl then match slen σ v with
     | some n => some (true, .s (.int .i64 n))
     | none => none
     else none
    | _, _ => none
   | _, _ => none
  | .builtin .min => match c.args.toList.map σ.ev with
   | [.s (.int k p), .s (.int _ q)] => some (true, .s (.int k (if q < p then q else p)))
   | _ => none
  | .builtin .max => match c.args.toList.map σ.ev with
   | [.s (.int k p), .s (.int _ q)] => some (true, .s (.int k (if q > p then q else p)))
   | _ => none
  | _ => none
 | _ => none
def afI (Γ : Env) (o : Oper) (σ : St) : Option V :=
 match o.op with
 | .load t p => match Γ.ty t with
  | none => none
  | some ty => match σ.ev p with
   | .pb k c => match σ.obj k with
    | .box cs => if c + ty.n ≤ cs.length then mk ty.agg ((cs.drop c).take ty.n) else none
    | _ => none
   | .pa k i c => match σ.obj k with
    | .arr _ _ r xs => if c + ty.n ≤ r.n then mk ty.agg (((r.cells .no (xs.getD i r.dflt)).drop c).take ty.n) else none
    | .own st r xs => if ty.n = 1 then (if ty.agg then none else match (r.cells .no (xs.getD i r.dflt))[c]? with
     | some (.s v) => some (.s v)
     | some (.l _ _ _) => if st then some (.sb k i c) else none
     | _ => none) else none
    | _ => none
   | .qb cs c => if c + ty.n ≤ cs.length then mk ty.agg ((cs.drop c).take ty.n) else none
   | .q r e c => if c + ty.n ≤ r.n then mk ty.agg (((r.cells .no e).drop c).take ty.n) else none
   | _ => none
 | _ => none
def amX (Γ : Env) (o : Oper) (σ : St) : Option (Bool × V) :=
 match o.op with
 | .indexAddr t y i => match Γ.ty t, σ.ev y, idx (σ.ev i) with
  | some ty, .gl g, some n => match ty.ds with
   | .arr len m => some (decide (0 ≤ n) && decide (n < (len : Nat)), .gq g m n.toNat)
   | _ => none
  | _, _, _ => none
 | .load t p => match Γ.ty t, σ.ev p with
  | some ty, .gq g m i => match Γ.glob g with
   | some ⟨r, xs⟩ => if r.n = m ∧ ty.n = m then match mk ty.agg (r.cells .no (xs.getD i r.dflt)) with
    | some v => some (Nat.blt i xs.length, v)
    | none => none
    else none
   | none => none
  | _, _ => none
 | _ => none
noncomputable def meet (x y : Option aj) : Option aj := @ite _ (x = y) (Classical.propDecidable _) x none
noncomputable def abK (v : V) (x y : Option aj) : Option aj := match v with
 | .nl => x
 | .l _ _ xs => bif Nat.beq xs.length 0 then meet x y else y
 | _ => none
def lW (xs : List Int) : ByteArray := ⟨(xs.map fun n => UInt8.ofNat n.toNat).toArray⟩
def anS (s : ByteArray) : List Int := s.data.toList.map fun b => (b.toNat : Int)
noncomputable def effect (Γ : Env) (b : Nat) (o : Oper) (σ : St) (K : St → Option aj) : Option aj :=
 match o.op with
 | .alloc t => match Γ.ty t with
  | some ty => K ((σ.Jf b (.box ty.zero)).put o.dst (.pb b 0))
  | none => none
 | .box _ y => match (σ.ev y).wX with
  | none => none
  | some vs => K ((σ.Jf b (.box vs)).put o.dst (.pb b 0))
 | .buildSlice t len parts => match Γ.ty t with
  | some ty => if ty.sl then match LY ty.row σ 0 parts.toList σ.ob with
   | some (xs, deep, ob) => if parts.size = len then (if len * ty.row.n ≤ 16777216 then K (St.put { σ with ob := ob.put b (.arr true deep ty.row xs) } o.dst (.w b)) else none) else none
   | none => none else none
  | none => none
 | .store t p y => match Γ.ty t with
  | none => none
  | some ty => match σ.ev p with
   | .pb k c => match σ.obj k with
    | .box cs => match (σ.ev y).wX with
     | none => none
     | some vs => if vs.length = ty.n then (if c + ty.n ≤ cs.length then K ((σ.Jf k (.box (cs.take c ++ vs ++ cs.drop (c + ty.n)))).put o.dst .x) else none) else none
    | _ => none
   | .pa k i c => match σ.obj k with
    | .arr true deep r xs => match (σ.ev y).wX with
     | none => none
     | some vs => if vs.length = ty.n then (if c + ty.n ≤ r.n then
      match r.upd (xs.getD i r.dflt) c vs σ.ob with
      | some (e, p, ob) => if (ob.get k).mu then K (St.put { σ with ob := ob.put k (.arr true (deep && p) r (xs.set i e)) } o.dst .x) else none
      | none => none else none)
     else none
    | .own st r xs => match σ.ev y with
     | .s u => if ty.n = 1 then (if c < r.n then
      match r.upd (xs.getD i r.dflt) c [.s u] [] with
      | some (e, _, _) => K (St.put { σ with ob := σ.ob.put k (.own st r (xs.set i e)) } o.dst .x)
      | none => none else none) else none
     | _ => match c, (σ.ev y).wX with
      | 0, some us => if decide (ty.n = r.n) && us.all amW then match r.give us [] with
       | some (e, _, _) => K (St.put { σ with ob := σ.ob.put k (.own false r (xs.set i e)) } o.dst .x)
       | none => none else none
      | _, _ => none
    | _ => none
   | _ => none
 | .slice t y lo hi none => match Γ.ty t with
  | some ty => if ty.sl && lo.isNone && afH hi then match σ.ev y with
   | .w k => match σ.obj k with
    | .arr true deep r _ => if r = ty.row then K (St.put { σ with ob := (σ.ob.del k).put b (.arr true deep r []) } o.dst (.w b)) else none
    | _ => none
   | _ => none
   else none
  | none => none
 | .makeSlice t l c => match Γ.ty t, σ.ev l, σ.ev c with
  | some ty, .s (.int .i64 n), .s (.int .i64 m) => if ty.sl then
   bif n == m && decide (0 ≤ n) && decide (n.toNat * ty.bytes ≤ zq) && decide (n ≤ 4611686018427387904) then
    K ((σ.Jf b (.arr true true ty.row (List.replicate n.toNat ty.row.dflt))).put o.dst (.w b))
   else none else none
  | _, _, _ => none
 | .call c => match c.callee with
  | .value g => match σ.ev g with
   | .f g caps => apt Γ b o.dst g (c.args.toList.map σ.ev ++ caps) σ K
   | _ => none
  | .builtin .append => match c.args.toList, c.argTypes.toList with
   | [y, z], [t, u] => match Γ.ty t, Γ.ty u with
    | some ty, some tu => if ty.sl && tu.sl && decide (tu.row = ty.row) && !(ty.bytes.beq 0) then U7 b o.dst ty.row ty.bytes (σ.ev y) (σ.ev z) σ K
     else if ty.sl && tu.isInt && ty.row.flat && !(ty.bytes.beq 0) then match σ.ev z with
      | .s (.int _ m) => bif decide (0 ≤ m) && decide (m ≤ 4611686018427387904) then U7 b o.dst ty.row ty.bytes (σ.ev y) (.l .no ty.row (List.replicate m.toNat ty.row.dflt)) σ K else none
      | _ => none
     else none
    | _, _ => none
   | _, _ => none
  | _ => none
 | .convert u t y => match Γ.ty u, Γ.ty t with
  | some tu, some ty => if tu.sl && ty.str && decide (tu.row = .one (.int .u8)) then match rowsOf (.one (.int .u8)) σ (σ.ev y) with
   | some xs => K (σ.put o.dst (.s (.string (lW xs))))
   | none => none
   else if tu.str && ty.sl && decide (ty.row = .one (.int .u8)) then match σ.ev y with
    | .s (.string w) => K (σ.put o.dst (.l .no (.one (.int .u8)) (anS w)))
    | _ => none
   else if decide (u = t) && ty.sl && decide (ty.row = .one (.int .u8)) then match σ.ev y with
    | .w k => match σ.obj k with
     | .arr true _ r xs => if decide (r = .one (.int .u8)) && !xs.isEmpty then K (St.put { σ with ob := σ.ob.del k } o.dst (.l .no r xs)) else none
     | _ => none
    | _ => none
   else none
  | _, _ => none
 | .binOp .eql t y z _ => match Γ.ty t, σ.ev z with
  | some ty, .nl => if ty.sl then abK (σ.ev y) (K (σ.put o.dst (.s (.bool true)))) (K (σ.put o.dst (.s (.bool false)))) else none
  | _, _ => none
 | .binOp .neq t y z _ => match Γ.ty t, σ.ev z with
  | some ty, .nl => if ty.sl then abK (σ.ev y) (K (σ.put o.dst (.s (.bool false)))) (K (σ.put o.dst (.s (.bool true)))) else none
  | _, _ => none
 | _ => none
def nU : V → List Nat
 | .w j => [j]
 | .r j _ _ => [j]
 | _ => []
def abX (σ : St) : V → List Nat
 | .pb k 0 => match σ.obj k with
  | .box cs => k :: cs.flatMap nU
  | _ => [k]
 | _ => []
def aln (σ : St) (v : V) : List Nat := abX σ v ++ nU v
def abY : V → List Nat
 | .w j => [j]
 | .sb j _ _ => [j]
 | .a cs => cs.flatMap nU
 | _ => []
def touched (ld : Ld) (o : Oper) (σ : St) : List Nat :=
 match o.op with
 | .store _ p _ => match σ.ev p with
  | .pb k _ => [k]
  | .pa k _ _ => [k]
  | _ => []
 | .slice _ y lo hi none => bif lo.isNone && afH hi then (match σ.ev y with
  | .w k => [k]
  | _ => []) else []
 | .convert u t y => bif Nat.beq u t then (match σ.ev y with
  | .w k => [k]
  | _ => []) else []
 | .call c => match c.callee with
  | .value g => match σ.ev g with
   | .f f caps => bif ld.l f then (c.args.toList.map σ.ev ++ caps).flatMap abY else bif ld.g f then (c.args.toList.map σ.ev ++ caps).flatMap (aln σ) else (c.args.toList.map σ.ev ++ caps).flatMap (abX σ)
   | _ => []
  | .builtin .append => match c.args.toList with
   | y :: _ => match σ.ev y with
    | .w k => [k]
    | _ => []
   | _ => []
  | _ => []
 | _ => []
noncomputable def step (Γ : Env) (b : Nat) (o : Oper) (σ : St) (K : St → Option aj) : Option aj :=
 match o.op with
 | .pick c y z => match σ.ev c with
  | .s (.bool c) => bif c then K (σ.put o.dst (σ.ev y)) else K (σ.put o.dst (σ.ev z))
  | _ => none
 | _ => match lH Γ o σ with
  | some (c, v) => bif c then K (σ.put o.dst v) else none
  | none => match afI Γ o σ with
   | some v => K (σ.put o.dst v)
   | none => match amX Γ o σ with
    | some (c, v) => bif c then K (σ.put o.dst v) else none
    | none => effect Γ b o σ K
noncomputable def apv (Γ : Env) (ops : Array Oper) (b i : Nat) (σ : St) (K : St → Option aj) : Option aj :=
  match ops[i]? with
  | none => none
  | some o =>
    match o.guard with
    | none => step Γ (b + 256 * i) o σ K
    | some (j, want) =>
      match (ops[j]?).bind (·.dst) with
      | none => none
      | some t => match σ.tm.getD t .x with
        | .s (.bool c) =>
          bif c then
            (bif want then step Γ (b + 256 * i) o (σ.put (some t) (.s (.bool true))) K
             else K ((σ.put (some t) (.s (.bool true))).put o.dst .ud))
          else
            (bif want then K ((σ.put (some t) (.s (.bool false))).put o.dst .ud)
             else step Γ (b + 256 * i) o (σ.put (some t) (.s (.bool false))) K)
        | .ud => K (σ.put o.dst .ud)
        | _ => none
noncomputable def alo (Γ : Env) (ops : Array Oper) (b : Nat) : List Nat → St → (St → Option aj) → Option aj
 | [], σ, K => K σ
 | i :: rest, σ, K => apv Γ ops b i σ fun σ' => alo Γ ops b rest σ' K
def jy (o : Oper) : Bool := match o.op with
 | .store _ _ _ => true
 | _ => false
def isLoad (o : Oper) : Bool := match o.op with
 | .load _ _ => true
 | _ => false
def loadable (T : List Nat) (b : Nat) (o : Oper) (σ : St) : Bool :=
 match o.op with
 | .load _ p => match σ.ev p with
  | .pb k _ => Nat.blt k b && !T.contains k
  | .pa k _ _ => Nat.blt k b && !T.contains k
  | .q _ _ _ => true
  | .qb _ _ => true
  | _ => false
 | _ => false
def quiet (Γ : Env) (T : List Nat) (b : Nat) (o : Oper) (σ : St) (K : St → Option aj) : Option aj :=
 match o.op with
 | .pick c y z => match σ.ev c with
  | .s (.bool c) => bif c then K (σ.put o.dst (σ.ev y)) else K (σ.put o.dst (σ.ev z))
  | _ => none
 | _ => match lH Γ o σ with
  | some (c, v) => bif c then K (σ.put o.dst v) else none
  | none => match afI Γ o σ with
   | some v => bif loadable T b o σ then K (σ.put o.dst v) else none
   | none => match amX Γ o σ with
    | some (c, v) => bif c then K (σ.put o.dst v) else none
    | none => none
noncomputable def loud (Γ : Env) (T : List Nat) (b i : Nat) (o : Oper) (σ : St) (K : St → Option aj) : Option aj :=
 bif jy o || (touched Γ.lend o σ).all (fun k => Nat.ble b k || T.contains k) then step Γ (b + 256 * i) o σ K else none
def guarded (ops : Array Oper) (o : Oper) (σ : St) (F : St → Option aj) (K : St → Option aj) : Option aj :=
 match o.guard with
 | none => F σ
 | some (j, want) =>
  match (ops[j]?).bind (·.dst) with
  | none => none
  | some t => match σ.tm.getD t .x with
   | .s (.bool c) =>
    bif c then
     (bif want then F (σ.put (some t) (.s (.bool true))) else K ((σ.put (some t) (.s (.bool true))).put o.dst .ud))
    else
     (bif want then K ((σ.put (some t) (.s (.bool false))).put o.dst .ud) else F (σ.put (some t) (.s (.bool false))))
   | .ud => K (σ.put o.dst .ud)
   | _ => none
mutual
noncomputable def rW (Γ : Env) (ops : Array Oper) (T : List Nat) (b : Nat) : Plan → St → (St → Option aj) → Option aj
 | .done, σ, K => K σ
 | .take i p, σ, K => match ops[i]? with
  | some o => guarded ops o σ (fun σ1 => quiet Γ T b o σ1 fun σ' => rW Γ ops T b p σ' K) fun σ' => rW Γ ops T b p σ' K
  | none => none
 | .fork f, σ, K => Oj Γ ops T b f σ K
noncomputable def Oj (Γ : Env) (ops : Array Oper) (T : List Nat) (b : Nat) : Forks → St → (St → Option aj) → Option aj
 | .one i p, σ, K => match ops[i]? with
  | some o => guarded ops o σ (fun σ1 => loud Γ T b i o σ1 fun σ' => rW Γ ops T b p σ' K) fun σ' => rW Γ ops T b p σ' K
  | none => none
 | .more i p f, σ, K => match ops[i]? with
  | some o => meet (guarded ops o σ (fun σ1 => loud Γ T b i o σ1 fun σ' => rW Γ ops T b p σ' K) fun σ' => rW Γ ops T b p σ' K) (Oj Γ ops T b f σ K)
  | none => none
end
def clean (ops : Array Oper) (listed : Array Bool) : Bool :=
 (List.range ops.size).all fun j => !(((ops[j]?).map jy).getD false && listed.getD j false)
def L6 (ops : Array Oper) (i : Nat) : Bool :=
 (List.range ops.size).all fun j => match ops[j]? with
  | some o => !jy o || o.after.any (fun e => Region.binds .any e && e.on == i)
  | none => true
def DJ : Forks → List Nat
 | .one i _ => [i]
 | .more i _ f => i :: DJ f
mutual
def jc (ops : Array Oper) : Plan → Nat → Array Bool → Bool
 | .done, _, listed => (Region.ready .any ops listed).isEmpty
 | .take _ _, 0, _ => false
 | .take i p, n + 1, listed => (Region.ready .any ops listed).contains i && Region.free .any ops listed i &&
  (match ops[i]? with
   | some o => !jy o && (!isLoad o || (clean ops listed && L6 ops i))
   | none => false) && jc ops p n (listed.setIfInBounds i true)
 | .fork _, 0, _ => false
 | .fork f, n + 1, listed => (Region.ready .any ops listed == DJ f) && U8 ops f n listed
def U8 (ops : Array Oper) : Forks → Nat → Array Bool → Bool
 | .one i p, n, listed => (match ops[i]? with
   | some _ => true
   | none => false) && jc ops p n (listed.setIfInBounds i true)
 | .more i p f, n, listed => (match ops[i]? with
   | some _ => true
   | none => false) && jc ops p n (listed.setIfInBounds i true) && U8 ops f n listed
end
mutual
def V.refs : V → List Nat
 | .w k | .r k _ _ | .pb k _ | .pa k _ _ | .sb k _ _ => [k]
 | .a cs => Ol cs
 | .qb cs _ => Ol cs
 | .t cs => Ol cs
 | .f _ cs => Ol cs
 | .io cs => Ol cs
 | _ => []
def Ol : List V → List Nat
 | [] => []
 | v :: vs => v.refs ++ Ol vs
end
def E.refs : E → List Nat
 | .box cs => Ol cs
 | _ => []
def reach (ob : dO) : Nat → List Nat → List Nat → List Nat
 | 0, acc, _ => acc
 | _, acc, [] => acc
 | n + 1, acc, k :: ks => if acc.contains k then reach ob n acc ks else reach ob n (acc ++ [k]) ((ob.get k).refs ++ ks)
mutual
def V.ren (m : List Nat) : V → V
 | .w k => if m.contains k then .w (m.idxOf k) else .x
 | .r k off len => if m.contains k then .r (m.idxOf k) off len else .x
 | .pb k c => if m.contains k then .pb (m.idxOf k) c else .x
 | .pa k i c => if m.contains k then .pa (m.idxOf k) i c else .x
 | .sb k i c => if m.contains k then .sb (m.idxOf k) i c else .x
 | .qb cs c => .qb (Om m cs) c
 | .a cs => .a (Om m cs)
 | .t cs => .t (Om m cs)
 | .f g cs => .f g (Om m cs)
 | .io cs => .io (Om m cs)
 | v => v
def Om (m : List Nat) : List V → List V
 | [] => []
 | v :: vs => v.ren m :: Om m vs
end
def E.ren (m : List Nat) : E → E
 | .box cs => .box (Om m cs)
 | e => e
def keep (live : List Nat) : Nat → List V → List V
 | _, [] => []
 | i, v :: vs => (if live.contains i then v else .x) :: keep live (i + 1) vs
def canon (live : List Nat) (σ : St) : St :=
 let tm := keep live 0 σ.tm
 let m := reach σ.ob 1000 [] (Ol tm ++ Ol σ.io)
 {tm := Om m tm, ob := m.zipIdx.map (fun (k, i) => (i, (σ.ob.get k).ren m)), nx := m.length, io := Om m σ.io }
def fK : Code → Option Nat
 | .region id _ _ => some id
 | .seq a b => match fK a with
  | some n => some n
  | none => fK b
 | .cond _ a b => match fK a with
  | some n => some n
  | none => fK b
 | .block _ c => fK c
 | .loop c => fK c
 | .scope c => fK c
 | _ => none
noncomputable def rounds (body : St → (Ex → St → Option aj) → Option aj) (live out : List Nat) : Nat → St → (Ex → St → Option aj) → Option aj
 | 0, _, _ => none
 | n + 1, σ, K => body σ fun e σ' => match e with
  | .nrm => rounds body live out n (canon live σ') K
  | e => K e (canon out σ')
def anT (q : Nat × Nat × Rw) (σ : St) : St :=
 match q with
 | (0, i, r) => match σ.tm[i]? with
  | some .nl => { σ with tm := σ.tm.set i (.w σ.nx), ob := σ.ob.put σ.nx (.arr true true r []), nx := σ.nx + 1 }
  | _ => σ
 | (k + 1, c, r) => match σ.ob.get k with
  | .box cs => match cs[c]? with
   | some .nl => { σ with ob := (σ.ob.put k (.box (cs.set c (.w σ.nx)))).put σ.nx (.arr true true r []), nx := σ.nx + 1 }
   | _ => σ
  | _ => σ
def apw : List (Nat × Nat × Rw) → St → St
 | [], σ => σ
 | q :: qs, σ => apw qs (anT q σ)
def enter (Γ : Env) (n : Nat) (σ : St) : St := bif (Γ.Rj n).isEmpty then canon (Γ.hint n).1 σ else canon (Γ.hint n).1 (apw (Γ.Rj n) (canon (Γ.hint n).1 σ))
def asr (σ : St) : V → List Nat
 | .pb k _ => match σ.obj k with
  | .box cs => cs.flatMap nU
  | _ => []
 | v => nU v
def asu (σ : St) (t : Nat) : List Nat := bif Nat.ble 100000 t then asr σ (σ.tm.getD (t - 100000) .x) else aln σ (σ.tm.getD t .x)
noncomputable def run (Γ : Env) : Code → St → (Ex → St → Option aj) → Option aj
 | .skip, σ, K => K .nrm σ
 | .region _ ops false, σ, K => alo Γ ops σ.nx (List.range ops.size) { σ with nx := σ.nx + 256 * ops.size } fun σ' => K .nrm σ'
 | .region n ops true, σ, K => match Γ.plan n with
  | some (p, ts) => rW Γ ops (ts.flatMap (asu σ)) σ.nx p { σ with nx := σ.nx + 256 * ops.size } fun σ' => K .nrm σ'
  | none => none
 | .seq a b, σ, K => run Γ a σ fun e σ' => match e with
  | .nrm => run Γ b σ' K
  | e => K e σ'
 | .cond c a b, σ, K => match σ.ev c with
  | .s (.bool t) => bif t then run Γ a σ K else run Γ b σ K
  | _ => none
 | .block id c, σ, K => run Γ c σ fun e σ' => match e with
  | .ext j => if j = id then K .nrm σ' else K (.ext j) σ'
  | e => K e σ'
 | .loop c, σ, K => match fK c with
  | some n => match Γ.sum n with
   | some F => F (enter Γ n σ) K
   | none => rounds (run Γ c) (Γ.hint n).1 (Γ.hint n).2 Γ.fuel (enter Γ n σ) K
  | none => none
 | .exit id, σ, K => K (.ext id) σ
 | .ret, σ, K => K .ret σ
 | _, _, _ => none
def rX (plan : Nat → Option (Plan × List Nat)) : Code → Bool
 | .region n ops true => match plan n with
  | some (p, _) => Region.noSelect ops && jc ops p ops.size (Array.replicate ops.size false)
  | none => true
 | .seq a b => rX plan a && rX plan b
 | .cond _ a b => rX plan a && rX plan b
 | .block _ c => rX plan c
 | .loop c => rX plan c
 | _ => true
def FB (Γ : Env) : Code → Prop
 | .seq a b => FB Γ a ∧ FB Γ b
 | .cond _ a b => FB Γ a ∧ FB Γ b
 | .block _ c => FB Γ c
 | .loop c => (∀ n F, fK c = some n → Γ.sum n = some F → ∀ σ K r, F σ K = some r → ∃ m, rounds (run Γ c) (Γ.hint n).1 (Γ.hint n).2 m σ K = some r) ∧ FB Γ c
 | _ => True
def V.U9 : V → Bool
 | .l .own _ _ => true
 | _ => false
def V.back : V → Bool
 | .io _ => true
 | .a cs => cs.any V.U9
 | v => v.U9
def ptrs {α : Type} : List V → List α → List α
 | u :: us, v :: vs => bif u.back then v :: ptrs us vs else ptrs us vs
 | _, _ => []
def Cc.nil0 : Cc → V → V
 | .sl r, .nl => .l .deep r []
 | _, v => v
def Rw.nil0 : Rw → List V → List V
 | .one c, [v] => [c.nil0 v]
 | .cons c r, v :: vs => c.nil0 v :: r.nil0 vs
 | _, vs => vs
def apx (ty : Ty) (v : V) (ob : dO) : Option (V × dO) :=
 match v with
 | .a cs => match vH cs ob with
  | some (ds, ob') => some (.a (ty.row.nil0 ds), ob')
  | none => none
 | .nl => some (.l .deep ty.row [], ob)
 | .pb k 0 => match ob.get k with
  | .box cs => match vH cs (ob.del k) with
   | some (ds, ob') => some (.io ds, ob')
   | none => none
  | _ => none
 | v => uf v ob
def abZ (x : Operand) (t : TypeId) : Oper := { dst := none, op := .load t x, type := t, pos := "", after := #[], guard := none }
def arj (Γ : Env) (σ : St) : ResultVar → Option V
 | .tmp t => some (σ.tm.getD t .x)
 | .cell a t => afI Γ (abZ (.tmp a) t) σ
def outs (Γ : Env) (σ : St) : List ResultVar → List TypeId → dO → Option (List V × dO)
 | [], _, ob => some ([], ob)
 | x :: rs, ti :: ts, ob =>
  match Γ.ty ti with
  | some ty => match arj Γ σ x with
   | some v => match apx ty v ob with
    | none => none
    | some (d, kN) => match outs Γ σ rs ts kN with
     | none => none
     | some (ds, zV) => some (d :: ds, zV)
   | none => none
  | none => none
 | _, _, _ => none
def apy (v : V) (ob : dO) : Option (V × dO) :=
 match v with
 | .a cs => match vH cs ob with
  | some (ds, ob') => some (.a ds, ob')
  | none => none
 | .pb k 0 => match ob.get k with
  | .box cs => match vH cs (ob.del k) with
   | some (ds, ob') => some (.io ds, ob')
   | none => none
  | _ => none
 | .w k => uf (.w k) ob
 | _ => none
def ab1 : List V → dO → Option (List V × dO)
 | [], ob => some ([], ob)
 | v :: vs, ob => match apy v ob with
  | none => none
  | some (d, kN) => match ab1 vs kN with
   | none => none
   | some (ds, zV) => some (d :: ds, zV)
def oneOf : List V → V
 | [.t _] => .x
 | [d] => d
 | ds => .t ds
def finish (Γ : Env) (fn : Func) (σ : St) : Option aj :=
 match outs Γ σ fn.results.toList fn.resultTypes.toList σ.ob with
 | none => none
 | some (ds, ob) => match ab1 σ.io ob with
  | none => none
  | some (es, _) => some (oneOf ds, es)
noncomputable def dL (Γ : Env) (fresh : Bool) (fn : Func) (vs : List V) (K : aj → Option aj) : Option aj :=
 match fn.body with
 | none => none
 | some c =>
  bif vs.all V.aeF && Nat.ble vs.length fn.ntmps then
   match Fv 0 vs [] with
   | (tm, ob) =>
    run Γ c { tm := tm ++ List.replicate (fn.ntmps - vs.length) .x, ob := ob, nx := 24 * vs.length, io := ptrs vs tm } fun e σ =>
     match e with
     | .ext _ => none
     | _ => match finish Γ fn σ with
      | some q => bif !fresh || (zZ q.1 && q.2.all V.U5) then K q else none
      | none => none
  else none
end Go.Ev
end
section
set_option linter.unusedVariables false
namespace Go.Ev
open Go.RowKit
theorem dO.get_put (ob : dO) (k j : Nat) (e : E) : (ob.put k e).get j = if j = k then e else ob.get j := by
 induction ob with
 | nil =>
  simp only [dO.put, dO.get]
  by_cases h : j = k
  ·subst h; simp [Nat.beq_refl]
  ·have : k.beq j = false := by rw [Bool.eq_false_iff]; intro h'; exact h (Nat.eq_of_beq_eq_true h').symm
   simp [this, h]
 | cons p ob ih =>
  obtain ⟨i, f⟩ := p
  simp only [dO.put]
  by_cases h1 : i.beq k = true
  ·have e1 := Nat.eq_of_beq_eq_true h1
   subst e1
   simp only [h1, cond_true, dO.get]
   by_cases h : j = i
   ·subst h; simp [Nat.beq_refl]
   ·have : i.beq j = false := by rw [Bool.eq_false_iff]; intro h'; exact h (Nat.eq_of_beq_eq_true h').symm
    simp [this, h]
  ·have h1' : i.beq k = false := (Bool.not_eq_true _).mp h1
   simp only [h1', cond_false]
   by_cases h2 : k.blt i = true
   ·simp only [h2, cond_true, dO.get]
    by_cases h : j = k
    ·subst h; simp [Nat.beq_refl]
    ·have : k.beq j = false := by rw [Bool.eq_false_iff]; intro h'; exact h (Nat.eq_of_beq_eq_true h').symm
     simp [this, h]
   ·have h2' : k.blt i = false := (Bool.not_eq_true _).mp h2
    simp only [h2', cond_false, dO.get]
    by_cases h : i.beq j = true
    ·have e1 := Nat.eq_of_beq_eq_true h
     subst e1
     have : ¬ i = k := fun h' => by subst h'; simp at h1'
     simp [this]
    ·have h' : i.beq j = false := (Bool.not_eq_true _).mp h
     simp only [h', cond_false, ih]
theorem dO.FC (ob : dO) (k j : Nat) : (ob.del k).get j = if j = k then .no else ob.get j := by
 induction ob with
 | nil => simp [dO.del, dO.get]
 | cons p ob ih =>
  obtain ⟨i, f⟩ := p
  simp only [dO.del]
  by_cases h1 : i.beq k = true
  ·have e1 := Nat.eq_of_beq_eq_true h1
   subst e1
   simp only [h1, cond_true, ih, dO.get]
   by_cases h : j = i
   ·simp [h]
   ·have : i.beq j = false := by rw [Bool.eq_false_iff]; intro h'; exact h (Nat.eq_of_beq_eq_true h').symm
    simp [this, h]
  ·have h1' : i.beq k = false := (Bool.not_eq_true _).mp h1
   simp only [h1', cond_false, dO.get]
   by_cases h : i.beq j = true
   ·have e1 := Nat.eq_of_beq_eq_true h
    subst e1
    have : ¬ i = k := fun h' => by subst h'; simp at h1'
    simp [this]
   ·have h' : i.beq j = false := (Bool.not_eq_true _).mp h
    simp only [h', cond_false, ih]
def gJ {δ : Type} (R : δ → List Value → List Nat → Prop) (w : World) (n b : Nat) : List δ → Nat → List Nat → Prop
 | [], _, F => F = []
 | x :: xs, o, F => ∃ vs F1 F2, F = F1 ++ F2 ∧ vs.length = n ∧ (∀ j v, vs[j]? = some v → w.cell? ⟨b, o + j, none⟩ = some v) ∧ R x vs F1 ∧ gJ R w n b xs (o + n) F2
def rY {δ : Type} (R : δ → List Value → List Nat → Prop) (w : World) (e : Bool) (n : Nat) (xs : List δ) (v : Value) (F : List Nat) : Prop :=
 (xs = [] ∧ F = [] ∧ ∃ a cap, v = .slice a 0 cap ∧ (e = false → a = none ∧ cap = 0)) ∨
 ∃ b o cap F', v = .slice (some ⟨b, o, none⟩) xs.length cap ∧ xs.length ≤ cap ∧ F = b :: F' ∧ b < w.heap.size ∧
  (e = false → ∃ c ty, w.heap[b]? = some (.cells c ty (0, 0)) ∧ o + cap * n ≤ c.size) ∧ gJ R w n b xs o F'
mutual
def L8 (w : World) (e : Bool) : (c : Cc) → c.T → Value → List Nat → Prop
 | .int k, n, v, F => v = .int k n ∧ F = []
 | .bool, b, v, F => v = .bool b ∧ F = []
 | .str, s, v, F => v = .string s ∧ F = []
 | .sl r, xs, v, F => rY (gK w e r) w e r.n xs v F
def gK (w : World) (e : Bool) : (r : Rw) → r.T → List Value → List Nat → Prop
 | .one c, d, vs, F => ∃ v, vs = [v] ∧ L8 w e c d v F
 | .cons c r, d, vs, F => ∃ v vs' F1 F2, vs = v :: vs' ∧ F = F1 ++ F2 ∧ L8 w e c d.1 v F1 ∧ gK w e r d.2 vs' F2
end
theorem gJ.imp {δ : Type} {R R' : δ → List Value → List Nat → Prop} {w w' : World} {n b : Nat} (hw : w'.heap[b]? = w.heap[b]?) :
  ∀ {xs : List δ} {o : Nat} {F : List Nat}, gJ R w n b xs o F → (∀ x vs F', (∀ k ∈ F', k ∈ F) → R x vs F' → R' x vs F') → gJ R' w' n b xs o F
 | [], _, _, h, _ => h
 | x :: xs, o, F, ⟨vs, F1, F2, hF, hn, hc, hR, hr⟩, hi =>
  ⟨vs, F1, F2, hF, hn, fun j v hj => (World.cell?_of_block (w := w) (a := ⟨b, o + j, none⟩) hw).trans (hc j v hj), hi _ _ _ (fun k hk => by rw [hF]; simp [hk]) hR,
   gJ.imp hw hr (fun x vs F' hk => hi x vs F' (fun k h => by rw [hF]; simp [hk k h]))⟩
theorem rY.imp {δ : Type} {R R' : δ → List Value → List Nat → Prop} {w w' : World} {e e' : Bool} {n : Nat} {xs : List δ} {v : Value} {F : List Nat}
  (h : rY R w e n xs v F) (he : e' = false → e = false) (hb : ∀ b ∈ F, w'.heap[b]? = w.heap[b]?) (hi : ∀ x vs F', (∀ k ∈ F', k ∈ F) → R x vs F' → R' x vs F') : rY R' w' e' n xs v F := by
 rcases h with ⟨h1, h2, a, cap, h3, h4⟩ | ⟨b, o, cap, F', h1, h2, h3, h4, h5, h6⟩
 ·exact .inl ⟨h1, h2, a, cap, h3, fun h => h4 (he h)⟩
 ·have hbb := hb b (by rw [h3]; simp)
  refine .inr ⟨b, o, cap, F', h1, h2, h3, ?_, fun h => by rw [hbb]; exact h5 (he h), h6.imp hbb (fun x vs F1 hk => hi x vs F1 (fun k h => by rw [h3]; simp [hk k h]))⟩
  have e1 : w.heap[b]? ≠ none := by simp [h4]
  rw [← hbb] at e1
  simpa using e1
mutual
theorem L8.imp {w w' : World} {e e' : Bool} (he : e' = false → e = false) : (c : Cc) → {d : c.T} → {v : Value} → {F : List Nat} → L8 w e c d v F → (∀ b ∈ F, w'.heap[b]? = w.heap[b]?) → L8 w' e' c d v F
 | .int _, _, _, _, h, _ => h
 | .bool, _, _, _, h, _ => h
 | .str, _, _, _, h, _ => h
 | .sl r, _, _, _, h, hb => rY.imp (R' := gK w' e' r) h he hb (fun _ _ _ hk hR => gK.imp he r hR (fun b h => hb b (hk b h)))
theorem gK.imp {w w' : World} {e e' : Bool} (he : e' = false → e = false) : (r : Rw) → {d : r.T} → {vs : List Value} → {F : List Nat} → gK w e r d vs F → (∀ b ∈ F, w'.heap[b]? = w.heap[b]?) → gK w' e' r d vs F
 | .one c, _, _, _, ⟨v, h1, h2⟩, hb => ⟨v, h1, L8.imp he c h2 hb⟩
 | .cons c r, _, _, _, ⟨v, vs', F1, F2, h1, h2, h3, h4⟩, hb => ⟨v, vs', F1, F2, h1, h2, L8.imp he c h3 (fun b h => hb b (by rw [h2]; simp [h])), gK.imp he r h4 (fun b h => hb b (by rw [h2]; simp [h]))⟩
end
inductive Pl where
 | box (b : Nat)
 | arr (v : Value) (n : Nat)
structure Cx where
 φ : Nat → Option Pl
 U : Nat → Prop
 N : Nat → Prop
 hs : Nat → Option (Nat → Nat → Value)
mutual
def VR (C : Cx) (w : World) : V → Value → Prop
 | .s u, c => c = u ∧ u.oneCell' = true
 | .a cs, c => ∃ vs, c = .agg ⟨vs⟩ ∧ iY C w cs vs
 | .t cs, c => ∃ vs, c = .tuple ⟨vs⟩ ∧ iY C w cs vs
 | .nl, c => c = .slice none 0 0
 | .l _ r xs, c => ∃ F, L8 w true (.sl r) xs c F ∧ ∀ b ∈ F, C.N b
 | .w k, c => C.U k ∧ c.oneCell' = true ∧ ∀ cv n, C.φ k = some (.arr cv n) → c = cv
 | .r k off len, c => C.U k ∧ c.oneCell' = true ∧ ∀ cv n, C.φ k = some (.arr cv n) → ∃ a L cap cap', cv = .slice a L cap ∧ off + len ≤ L ∧
   ∃ a', c = .slice a' len cap' ∧ (len ≠ 0 → ∃ b o, a = some ⟨b, o, none⟩ ∧ a' = some ⟨b, o + off * n, none⟩ ∧ cap' = cap - off)
 | .pb k j, c => C.U k ∧ c.oneCell' = true ∧ ∀ b, C.φ k = some (.box b) → c = .pointer (some ⟨b, j, none⟩)
 | .pa k i j, c => C.U k ∧ c.oneCell' = true ∧ ∀ cv n, C.φ k = some (.arr cv n) → ∃ b o L cap, cv = .slice (some ⟨b, o, none⟩) L cap ∧ i < L ∧ c = .pointer (some ⟨b, o + i * n + j, none⟩)
 | .q r d j, c => ∃ b o vs F, c = .pointer (some ⟨b, o + j, none⟩) ∧ C.N b ∧ vs.length = r.n ∧ (∀ j v, vs[j]? = some v → w.cell? ⟨b, o + j, none⟩ = some v) ∧ gK w true r d vs F ∧ ∀ b ∈ F, C.N b
 | .qb cs j, c => ∃ b vs ty, c = .pointer (some ⟨b, j, none⟩) ∧ C.N b ∧ w.heap[b]? = some (.cells ⟨vs⟩ ty (0, 0)) ∧ iY C w cs vs
 | .sb k i j, c => C.U k ∧ c.oneCell' = true ∧ ∀ f, C.hs k = some f → c = f i j
 | .f g caps, c => ∃ vs, c = .func (.func g) #[] ⟨vs⟩ ∧ iY C w caps vs
 | .io _, _ => False
 | .gl g, c => c = .pointer (some ⟨g, 0, none⟩)
 | .gq g m i, c => c = .pointer (some ⟨g, i * m, none⟩)
 | .ud, c => c = undef
 | .x, _ => True
def iY (C : Cx) (w : World) : List V → List Value → Prop
 | [], vs => vs = []
 | u :: us, vs => ∃ v vs', vs = v :: vs' ∧ VR C w u v ∧ iY C w us vs'
end
structure Cx.Le (C : Cx) (w : World) (C' : Cx) (w' : World) : Prop where
 φ : ∀ k p, C.U k → C'.φ k = some p → C.φ k = some p
 U : ∀ k, C.U k → C'.U k
 N : ∀ b, C.N b → C'.N b
 w : ∀ b, C.N b → w'.heap[b]? = w.heap[b]?
 hs : ∀ k f, C.U k → C'.hs k = some f → C.hs k = some f
theorem Cx.Le.refl (C : Cx) (w : World) : C.Le w C w := ⟨fun _ _ _ h => h, fun _ h => h, fun _ h => h, fun _ _ => rfl, fun _ _ _ h => h⟩
theorem Cx.Le.trans {C C' C'' : Cx} {w w' w'' : World} (h : C.Le w C' w') (h' : C'.Le w' C'' w'') : C.Le w C'' w'' :=
 ⟨fun k p hu hp => h.φ k p hu (h'.φ k p (h.U k hu) hp), fun k hk => h'.U k (h.U k hk), fun b hb => h'.N b (h.N b hb), fun b hb => (h'.w b (h.N b hb)).trans (h.w b hb), fun k f hu hp => h.hs k f hu (h'.hs k f (h.U k hu) hp)⟩
mutual
theorem VR.le {C C' : Cx} {w w' : World} (hl : C.Le w C' w') : (u : V) → {c : Value} → VR C w u c → VR C' w' u c
 | .s _, _, h => h
 | .a cs, _, ⟨vs, h1, h2⟩ => ⟨vs, h1, iY.le hl cs h2⟩
 | .t cs, _, ⟨vs, h1, h2⟩ => ⟨vs, h1, iY.le hl cs h2⟩
 | .nl, _, h => h
 | .l _ r xs, _, ⟨F, h1, h2⟩ => ⟨F, L8.imp (fun h => h) (.sl r) h1 (fun b hb => hl.w b (h2 b hb)), fun b hb => hl.N b (h2 b hb)⟩
 | .w k, _, ⟨h1, h0, h2⟩ => ⟨hl.U k h1, h0, fun cv n h => h2 cv n (hl.φ k _ h1 h)⟩
 | .r k off len, _, ⟨h1, h0, h2⟩ => ⟨hl.U k h1, h0, fun cv n h => h2 cv n (hl.φ k _ h1 h)⟩
 | .pb k j, _, ⟨h1, h0, h2⟩ => ⟨hl.U k h1, h0, fun b h => h2 b (hl.φ k _ h1 h)⟩
 | .pa k i j, _, ⟨h1, h0, h2⟩ => ⟨hl.U k h1, h0, fun cv n h => h2 cv n (hl.φ k _ h1 h)⟩
 | .q r d j, _, ⟨b, o, vs, F, h1, h2, h3, h4, h5, h6⟩ => ⟨b, o, vs, F, h1, hl.N b h2, h3,
   fun j v hj => (World.cell?_of_block (w := w) (a := ⟨b, o + j, none⟩) (hl.w b h2)).trans (h4 j v hj), gK.imp (fun h => h) r h5 (fun b hb => hl.w b (h6 b hb)), fun b hb => hl.N b (h6 b hb)⟩
 | .qb cs j, _, ⟨b, vs, ty, h1, h2, h3, h4⟩ => ⟨b, vs, ty, h1, hl.N b h2, (hl.w b h2).trans h3, iY.le hl cs h4⟩
 | .sb k i j, _, ⟨h1, h2, h3⟩ => ⟨hl.U k h1, h2, fun f h => h3 f (hl.hs k f h1 h)⟩
 | .f g caps, _, ⟨vs, h1, h2⟩ => ⟨vs, h1, iY.le hl caps h2⟩
 | .io _, _, h => h
 | .gl _, _, h => h
 | .gq _ _ _, _, h => h
 | .ud, _, h => h
 | .x, _, _ => trivial
theorem iY.le {C C' : Cx} {w w' : World} (hl : C.Le w C' w') : (us : List V) → {vs : List Value} → iY C w us vs → iY C' w' us vs
 | [], _, h => h
 | u :: us, _, ⟨v, vs', h1, h2, h3⟩ => ⟨v, vs', h1, VR.le hl u h2, iY.le hl us h3⟩
end
end Go.Ev
end
section
set_option linter.unusedVariables false
namespace Go.Ev
open Go.RowKit
def JM : TypeDesc → Bool
 | .struct _ | .array _ _ => true
 | _ => false
def apz (P : Program) (N : Nat) (fs : List (Nat × Nat × Bool)) (fields : Array Field) : Prop :=
 fields.size = fs.length ∧ ∀ (i off n : Nat) (g : Bool), fs[i]? = some (off, n, g) →
  ∃ f j d, fields[i]? = some f ∧ f.offset = off ∧ P.info? f.type = some j ∧ j.size = n ∧ n ≠ 0 ∧ off + n ≤ N ∧ P.underlying f.type = some d ∧ g = JM d
def atv (P : Program) (ty : Ty) (e : TypeId) : Prop :=
 ∃ j z, P.info? e = some j ∧ j.size = ty.row.n ∧ j.bytes = ty.bytes ∧ j.zero = some z ∧ z.cells.size = ty.row.n ∧ (∀ w e, gK w e ty.row ty.row.dflt z.cells.toList []) ∧ (ty.row = .one (.int .u8) → P.underlying e = some (.int .u8))
def aeG (P : Program) (ty : Ty) : Ds → TypeDesc → Prop
 | .st, .struct fields => apz P ty.n ty.fs fields
 | .sl, .slice e => atv P ty e
 | .int k, .int k' => k' = k
 | .bool, .bool => True
 | .str, .string => True
 | .arr len m, .array len' e => len' = len ∧ ∃ j, P.info? e = some j ∧ j.size = m
 | .other, d => True
 | _, _ => False
def ark (P : Program) : Nat → List Field → Prop
 | _, [] => True
 | i, f :: fs => f.name ≠ "_" ∧ f.offset = i ∧ P.underlying f.type = some (.int .i64) ∧ ark P (i + 1) fs
def arl (P : Program) (t n : Nat) : Prop := P.underlying t = some (.struct (P.fieldsOf t)) ∧ P.stoodInHeld t = false ∧ P.eqGuardType P.depth t = false ∧ ark P 0 (P.fieldsOf t).toList ∧ (P.fieldsOf t).toList.length = n
structure TK (P : Program) (t : Nat) (ty : Ty) : Prop where
 und : ∃ d, P.underlying t = some d ∧ aeG P ty ty.ds d ∧ ty.agg = JM d
 info : ∃ i z, P.info? t = some i ∧ i.size = ty.n ∧ i.zero = some z ∧ (∀ C w, iY C w ty.zero z.cells.toList) ∧ z.cells.size = ty.n
 eqv : ty.eqv = true → arl P t ty.n
def iG (P : Program) (T : Nat → Option Ty) : Prop := ∀ t ty, T t = some ty → TK P t ty
section
variable {P : Program}
theorem abL {t : TypeId} {i : TypeInfo} (h : P.info? t = some i) (w : World) : (typeInfo t).run P w = .ok i w := by simp [typeInfo, h]
theorem yu {t : TypeId} {i : TypeInfo} (h : P.info? t = some i) (w : World) : (sizeOf t).run P w = .ok i.size w := by simp [sizeOf, abL h]
theorem agv {t : TypeId} {i : TypeInfo} {z : Value} (h : P.info? t = some i) (hz : i.zero = some z) (w : World) : (zeroValue t).run P w = .ok z w := by simp [zeroValue, abL h, hz]
theorem ab2 {t : TypeId} {d : TypeDesc} (h : P.underlying t = some d) (w : World) : (isAgg t).run P w = .ok (JM d) w := by
 cases d <;> simp [isAgg, run_underlying h, JM]
theorem TK.int {t : Nat} {ty : Ty} (h : TK P t ty) {k : IntKind} (hk : ty.ds = .int k) : P.underlying t = some (.int k) := by
 obtain ⟨d, h1, h2, _⟩ := h.und
 rw [hk] at h2
 cases d <;> simp only [aeG] at h2
 rw [h1, h2]
theorem TK.bool {t : Nat} {ty : Ty} (h : TK P t ty) (hk : ty.bool = true) : P.underlying t = some .bool := by
 obtain ⟨d, h1, h2, _⟩ := h.und
 unfold Ty.bool at hk
 split at hk <;> simp at hk
 rename_i hk'
 rw [hk'] at h2
 cases d <;> simp only [aeG] at h2
 exact h1
theorem TK.str {t : Nat} {ty : Ty} (h : TK P t ty) (hk : ty.str = true) : P.underlying t = some .string := by
 obtain ⟨d, h1, h2, _⟩ := h.und
 unfold Ty.str at hk
 split at hk <;> simp at hk
 rename_i hk'
 rw [hk'] at h2
 cases d <;> simp only [aeG] at h2
 exact h1
theorem TK.arr {t : Nat} {ty : Ty} (h : TK P t ty) {len m : Nat} (hk : ty.ds = .arr len m) : ∃ e j, P.underlying t = some (.array len e) ∧ P.info? e = some j ∧ j.size = m := by
 obtain ⟨d, h1, h2, _⟩ := h.und
 rw [hk] at h2
 cases d <;> simp only [aeG] at h2
 obtain ⟨rfl, j, h3, h4⟩ := h2
 exact ⟨_, j, h1, h3, h4⟩
theorem TK.sl {t : Nat} {ty : Ty} (h : TK P t ty) (hk : ty.sl = true) : ∃ e, P.underlying t = some (.slice e) ∧ atv P ty e := by
 obtain ⟨d, h1, h2, _⟩ := h.und
 unfold Ty.sl at hk
 split at hk <;> simp at hk
 rename_i hk'
 rw [hk'] at h2
 cases d <;> simp only [aeG] at h2
 exact ⟨_, h1, h2⟩
theorem TK.st {t : Nat} {ty : Ty} (h : TK P t ty) (hk : ty.st = true) : ∃ fields, P.underlying t = some (.struct fields) ∧ apz P ty.n ty.fs fields := by
 obtain ⟨d, h1, h2, _⟩ := h.und
 unfold Ty.st at hk
 split at hk <;> simp at hk
 rename_i hk'
 rw [hk'] at h2
 cases d <;> simp only [aeG] at h2
 exact ⟨_, h1, h2⟩
end
def HsR (w : World) (r : Rw) (xs : List r.T) (cv : Value) (f : Nat → Nat → Value) : Prop :=
 ∀ b o L cap, cv = .slice (some ⟨b, o, none⟩) L cap → ∀ (i j : Nat), i < xs.length → r.aiJ j = true → w.cell? ⟨b, o + i * r.n + j, none⟩ = some (f i j)
def ObR (C : Cx) (w : World) (k : Nat) : E → List Nat → Prop
 | .no, O => O = []
 | .box cs, O => ∃ b vs ty, C.φ k = some (.box b) ∧ O = [b] ∧ w.heap[b]? = some (.cells ⟨vs⟩ ty (0, 0)) ∧ iY C w cs vs
 | .arr mu deep r xs, O => ∃ cv F, C.φ k = some (.arr cv r.n) ∧ rY (gK w (!(mu && deep)) r) w (!mu) r.n xs cv F ∧ (∀ b ∈ F.drop 1, C.N b) ∧
   (if mu then (if deep then O = F else O = F.take 1) else O = [] ∧ ∀ b ∈ F, C.N b)
 | .own st r xs, O => ∃ cv, C.φ k = some (.arr cv r.n) ∧ rY (gK w false r) w false r.n xs cv O ∧ (st = true → ∃ f, C.hs k = some f ∧ HsR w r xs cv f)
def wr : E → List Nat → Nat → Prop
 | .own _ _ _, O, b => b ∈ O
 | e, O, b => e.mu = true ∧ O.head? = some b
theorem wr.mem {e : E} {O : List Nat} {b : Nat} (h : wr e O b) : b ∈ O := by
 cases e <;> first | exact h | exact List.mem_of_mem_head? h.2
theorem wr.mk {e : E} {O : List Nat} {b : Nat} (hm : e.mu = true) (h : O.head? = some b) : wr e O b := by
 cases e <;> first | exact List.mem_of_mem_head? h | exact ⟨hm, h⟩
structure Rel (B0 : Nat) (w0 : World) (σ : St) (a : Act) (w : World) (C : Cx) (L : Nat → List Nat) : Prop where
 below : Below B0 w0 w
 hB0 : B0 ≤ w.heap.size
 defers : a.defers = []
 len : a.tmps.size = σ.tm.length
 tm : ∀ (i : Nat) (v : V), σ.tm[i]? = some v → ∃ c, a.tmps[i]? = some c ∧ VR C w v c
 ob : ∀ k, ObR C w k (σ.obj k) (L k)
 us : ∀ k, C.φ k ≠ none → C.U k
 nd : ∀ k, (L k).Nodup
 dj : ∀ k k', k ≠ k' → ∀ b ∈ L k, b ∉ L k'
 own : ∀ k, ∀ b ∈ L k, B0 ≤ b ∧ b < w.heap.size
 nw : ∀ k b, wr (σ.obj k) (L k) b → ¬ C.N b
 CS : ∀ b, C.N b → b < w.heap.size
theorem Rel.nm {B0 : Nat} {w0 : World} {σ : St} {a : Act} {w : World} {C : Cx} {L : Nat → List Nat} (h : Rel B0 w0 σ a w C L) (k b : Nat) (hm : (σ.obj k).mu = true) (hb : (L k).head? = some b) : ¬ C.N b := h.nw k b (wr.mk hm hb)
theorem asv (C : Cx) (w : World) (v : Value) : VR C w (cst v) v := by
 unfold cst
 split <;> simp [VR, Value.oneCell']
section
variable {B0 : Nat} {w0 : World} {σ : St} {a : Act} {w : World} {C : Cx} {L : Nat → List Nat}
theorem Rel.ev (h : Rel B0 w0 σ a w C L) (x : Operand) : VR C w (σ.ev x) (a.eval x) := by
 cases x with
 | tmp t =>
  simp only [St.ev, Act.eval]
  rw [List.getD_eq_getElem?_getD]
  cases e : σ.tm[t]? with
  | none => simp [VR]
  | some v =>
   obtain ⟨c, h1, h2⟩ := h.tm t v e
   rw [Array.getD_eq_getD_getElem?, h1]
   exact h2
 | const v => exact asv C w v
 | global g => rfl
 | func f => exact ⟨[], rfl, rfl⟩
theorem Rel.put (h : Rel B0 w0 σ a w C L) (d : Option Tmp) {v : V} {c : Value} (hv : VR C w v c) : Rel B0 w0 (σ.put d v) (a.put d c) w C L := by
 cases d with
 | none => exact h
 | some i =>
  refine { h with len := by simp [St.put, Act.put, h.len], tm := ?_ }
  intro j u hj
  simp only [St.put, Act.put] at hj ⊢
  rw [List.getElem?_set] at hj
  rw [Array.getElem?_setIfInBounds]
  by_cases e : i = j
  ·subst e
   simp only [if_true] at hj ⊢
   by_cases hl : i < σ.tm.length
   ·rw [if_pos hl] at hj
    rw [if_pos (by rw [h.len]; exact hl)]
    obtain rfl := Option.some.inj hj
    exact ⟨c, rfl, hv⟩
   ·rw [if_neg hl] at hj; cases hj
  ·rw [if_neg e] at hj ⊢
   exact h.tm j u hj
end
theorem iY.length {C : Cx} {w : World} : {cs : List V} → {vs : List Value} → iY C w cs vs → cs.length = vs.length
 | [], _, h => by simp only [iY] at h; subst h; rfl
 | c :: cs, _, ⟨v, vs', h1, _, h3⟩ => by subst h1; simp [iY.length h3]
theorem iY.get {C : Cx} {w : World} : {cs : List V} → {vs : List Value} → iY C w cs vs → ∀ {i : Nat} {u : V}, cs[i]? = some u → ∃ v, vs[i]? = some v ∧ VR C w u v
 | [], _, _, i, u, e => by simp at e
 | c :: cs, _, ⟨v, vs', h1, h2, h3⟩, i, u, e => by
  subst h1
  cases i with
  | zero => simp at e; subst e; exact ⟨v, rfl, h2⟩
  | succ i => simp at e; simpa using iY.get h3 e
theorem iY.append {C : Cx} {w : World} : {cs : List V} → {vs : List Value} → iY C w cs vs → ∀ {cs' vs'}, iY C w cs' vs' → iY C w (cs ++ cs') (vs ++ vs')
 | [], _, h, cs', vs', h' => by simp only [iY] at h; subst h; exact h'
 | c :: cs, _, ⟨v, vs1, h1, h2, h3⟩, _, _, h' => by subst h1; exact ⟨v, _, rfl, h2, iY.append h3 h'⟩
theorem iY.take {C : Cx} {w : World} : {cs : List V} → {vs : List Value} → iY C w cs vs → ∀ n, iY C w (cs.take n) (vs.take n)
 | [], _, h, n => by simp only [iY] at h; subst h; simp [iY]
 | c :: cs, _, ⟨v, vs1, h1, h2, h3⟩, n => by
  subst h1
  cases n with
  | zero => simp [iY]
  | succ n => exact ⟨v, _, rfl, h2, iY.take h3 n⟩
theorem iY.drop {C : Cx} {w : World} : {cs : List V} → {vs : List Value} → iY C w cs vs → ∀ n, iY C w (cs.drop n) (vs.drop n)
 | [], _, h, n => by simp only [iY] at h; subst h; simp [iY]
 | c :: cs, _, ⟨v, vs1, h1, h2, h3⟩, n => by
  subst h1
  cases n with
  | zero => exact ⟨v, _, rfl, h2, h3⟩
  | succ n => exact iY.drop h3 n
theorem kE {c : Value} (h : c.oneCell' = true) : c.cells.toList = [c] := by
 cases c <;> simp [Value.oneCell', Value.cells] at h ⊢
theorem VR.one {C : Cx} {w : World} {u : V} {c : Value} (h : VR C w u c) (hu : u.one = true) : c.oneCell' = true := by
 cases u with
 | a cs => simp [V.one] at hu
 | x => simp [V.one] at hu
 | ud => simp [V.one] at hu
 | s v => obtain ⟨rfl, h2⟩ := h; exact h2
 | t vs => simp [V.one] at hu
 | nl => rw [show c = _ from h]; rfl
 | l o r xs =>
  obtain ⟨F, h1, _⟩ := h
  rcases h1 with ⟨_, _, a, cap, rfl, _⟩ | ⟨b, o, cap, F', rfl, _⟩ <;> rfl
 | w k => exact h.2.1
 | r k off len => exact h.2.1
 | pb k j => exact h.2.1
 | pa k i j => exact h.2.1
 | q r d j => obtain ⟨b, o, vs, F, rfl, _⟩ := h; rfl
 | qb cs j => obtain ⟨b, vs, ty, rfl, _⟩ := h; rfl
 | sb k i j => exact h.2.1
 | f g caps => obtain ⟨vs, rfl, _⟩ := h; rfl
 | gl g => rw [show c = _ from h]; rfl
 | gq g m i => rw [show c = _ from h]; rfl
 | io cs => exact h.elim
theorem iY.one {C : Cx} {w : World} : {cs : List V} → {vs : List Value} → iY C w cs vs → cs.all V.one = true → ∀ v ∈ vs, v.oneCell' = true
 | [], _, h, _, v, hv => by simp only [iY] at h; subst h; cases hv
 | c :: cs, _, ⟨v, vs1, h1, h2, h3⟩, ha, u, hu => by
  subst h1
  simp only [List.all_cons, Bool.and_eq_true] at ha
  rcases List.mem_cons.1 hu with rfl | hu
  ·exact h2.one ha.1
  ·exact iY.one h3 ha.2 u hu
theorem VR.wX {C : Cx} {w : World} {u : V} {c : Value} (h : VR C w u c) {us : List V} (hu : u.wX = some us) :
  iY C w us c.cells.toList ∧ ∀ v ∈ c.cells.toList, v.oneCell' = true := by
 unfold V.wX at hu
 split at hu
 ·rename_i ha
  obtain rfl := Option.some.inj hu
  have key : iY C w u.cells c.cells.toList := by
   cases u with
   | a cs => obtain ⟨vs, rfl, h2⟩ := h; exact h2
   | x => simp [V.cells, V.one] at ha
   | ud => simp [V.cells, V.one] at ha
   | t vs => simp [V.cells, V.one] at ha
   | io cs => exact h.elim
   | s v => rw [kE (h.one rfl)]; exact ⟨_, _, rfl, h, rfl⟩
   | nl => rw [kE (h.one rfl)]; exact ⟨_, _, rfl, h, rfl⟩
   | l o r xs => rw [kE (h.one rfl)]; exact ⟨_, _, rfl, h, rfl⟩
   | w k => rw [kE (h.one rfl)]; exact ⟨_, _, rfl, h, rfl⟩
   | r k off len => rw [kE (h.one rfl)]; exact ⟨_, _, rfl, h, rfl⟩
   | pb k j => rw [kE (h.one rfl)]; exact ⟨_, _, rfl, h, rfl⟩
   | pa k i j => rw [kE (h.one rfl)]; exact ⟨_, _, rfl, h, rfl⟩
   | q r d j => rw [kE (h.one rfl)]; exact ⟨_, _, rfl, h, rfl⟩
   | qb cs j => rw [kE (h.one rfl)]; exact ⟨_, _, rfl, h, rfl⟩
   | sb k i j => rw [kE (h.one rfl)]; exact ⟨_, _, rfl, h, rfl⟩
   | f g caps => rw [kE (h.one rfl)]; exact ⟨_, _, rfl, h, rfl⟩
   | gl g => rw [kE (h.one rfl)]; exact ⟨_, _, rfl, h, rfl⟩
   | gq g m i => rw [kE (h.one rfl)]; exact ⟨_, _, rfl, h, rfl⟩
  exact ⟨key, key.one ha⟩
 ·cases hu
end Go.Ev
end
section
set_option linter.unusedVariables false
namespace Go.Ev
open Go.RowKit
theorem apA {P : Program} {op : BinOp} {v u x : Value} {c : Bool} (hb : bin op v u = some (c, x)) (hc : c = true) (t : TypeId) (y z : Operand) (w : World) :
    (do eqGuard op t y z v u; binOp op t v u : Sem Value).run P w = .ok x w ∧ x.oneCell' = true := by
  subst hc
  unfold bin at hb
  split at hb
  all_goals first
    | (split at hb
       · rename_i hk
         subst hk
         simp only [Option.some.injEq, Prod.mk.injEq, Bool.not_eq_true', beq_eq_false_iff_ne, ne_eq] at hb
         obtain ⟨hb1, rfl⟩ := hb
         refine ⟨?_, rfl⟩
         simp [eqGuard, binOp, Op.intArith, Op.intDiv, Op.intBits, Op.intCmp, hb1]
       · cases hb)
    | (simp only [Option.some.injEq, Prod.mk.injEq, decide_eq_true_eq] at hb
       obtain ⟨hb1, rfl⟩ := hb
       refine ⟨?_, rfl⟩
       first
        | (simp [eqGuard, binOp, Op.shift, Int.not_lt.2 hb1]; done)
        | (simp [eqGuard, binOp, Op.stringOp]; done)
        | (rename_i a b; have h9 : ¬ (((a.size + b.size : Nat) : Int) > IntKind.i64.max) := (by simp [IntKind.max, IntKind.signed, IntKind.bits]; omega); simp only [eqGuard, binOp, Op.stringOp]; rw [if_neg h9]; rfl))
    | cases hb
theorem amY {P : Program} {op : UnOp} {v x : Value} (hb : unop op v = some x) (w : World) : (Op.unary op v).run P w = .ok x w ∧ x.oneCell' = true := by
 unfold unop at hb
 split at hb
 ·obtain rfl := Option.some.inj hb; exact ⟨by simp [Op.unary, Op.intArith], rfl⟩
 ·obtain rfl := Option.some.inj hb; exact ⟨by simp [Op.unary], rfl⟩
 ·cases hb
theorem gJ.get {δ : Type} {R : δ → List Value → List Nat → Prop} {w : World} {n b : Nat} : ∀ {xs : List δ} {o : Nat} {F : List Nat}, gJ R w n b xs o F → ∀ {i : Nat} {x : δ}, xs[i]? = some x →
  ∃ vs F', (∀ k ∈ F', k ∈ F) ∧ vs.length = n ∧ (∀ j v, vs[j]? = some v → w.cell? ⟨b, o + i * n + j, none⟩ = some v) ∧ R x vs F'
 | [], _, _, _, i, x, e => by simp at e
 | y :: xs, o, F, ⟨vs, F1, F2, hF, hn, hc, hR, hr⟩, i, x, e => by
  cases i with
  | zero =>
   simp at e; subst e
   exact ⟨vs, F1, fun k hk => by rw [hF]; simp [hk], hn, fun j v hj => by simpa using hc j v hj, hR⟩
  | succ i =>
   simp at e
   obtain ⟨vs', F', h1, h2, h3, h4⟩ := gJ.get hr e
   refine ⟨vs', F', fun k hk => by rw [hF]; simp [h1 k hk], h2, fun j v hj => ?_, h4⟩
   rw [show o + (i + 1) * n + j = o + n + i * n + j by rw [Nat.add_mul]; omega]
   exact h3 j v hj
theorem gJ.drop {δ : Type} {R : δ → List Value → List Nat → Prop} {w : World} {n b : Nat} : ∀ {xs : List δ} {o : Nat} {F : List Nat}, gJ R w n b xs o F → ∀ (i : Nat), i ≤ xs.length →
  ∃ F', (∀ k ∈ F', k ∈ F) ∧ gJ R w n b (xs.drop i) (o + i * n) F'
 | xs, o, F, h, 0, _ => ⟨F, fun _ h => h, by simpa using h⟩
 | [], _, _, _, i + 1, hi => by simp at hi
 | y :: xs, o, F, ⟨vs, F1, F2, hF, hn, hc, hR, hr⟩, i + 1, hi => by
  obtain ⟨F', h1, h2⟩ := gJ.drop hr i (by simpa using hi)
  refine ⟨F', fun k hk => by rw [hF]; simp [h1 k hk], ?_⟩
  rw [show o + (i + 1) * n = o + n + i * n by rw [Nat.add_mul]; omega]
  exact h2
theorem gJ.take {δ : Type} {R : δ → List Value → List Nat → Prop} {w : World} {n b : Nat} : ∀ {xs : List δ} {o : Nat} {F : List Nat}, gJ R w n b xs o F → ∀ (i : Nat),
  ∃ F', (∀ k ∈ F', k ∈ F) ∧ gJ R w n b (xs.take i) o F'
 | xs, o, F, h, 0 => ⟨[], fun _ h => (nomatch h), by simp [gJ]⟩
 | [], _, _, _, i + 1 => ⟨[], fun _ h => (nomatch h), by simp [gJ]⟩
 | y :: xs, o, F, ⟨vs, F1, F2, hF, hn, hc, hR, hr⟩, i + 1 => by
  obtain ⟨F', h1, h2⟩ := gJ.take hr i
  exact ⟨F1 ++ F', fun k hk => by rw [hF]; rcases List.mem_append.1 hk with h | h <;> simp [h]; exact .inr (h1 k h), vs, F1, F', rfl, hn, hc, hR, h2⟩
theorem rY.part {δ : Type} {R : δ → List Value → List Nat → Prop} {w : World} {e : Bool} {n : Nat} {xs : List δ} {a : Option Addr} {len cap : Nat} {F : List Nat}
  (h : rY R w e n xs (.slice a len cap) F) {lo hi : Nat} (h1 : lo ≤ hi) (h2 : hi ≤ xs.length) :
  len = xs.length ∧ len ≤ cap ∧ ∃ F', (∀ k ∈ F', k ∈ F) ∧ rY R w true n ((xs.take hi).drop lo) (.slice (if cap = lo then a else a.map (·.add (lo * n))) (hi - lo) (cap - lo)) F' := by
 rcases h with ⟨rfl, rfl, a', cap', h3, h4⟩ | ⟨b, o, cap', F', h3, h4, rfl, h6, h7, h8⟩
 ·injection h3 with e1 e2 e3
  subst e2
  have : lo = 0 := by simp at h2; omega
  have : hi = 0 := by simp at h2; omega
  subst lo; subst hi
  refine ⟨rfl, Nat.zero_le _, [], fun _ h => (nomatch h), .inl ⟨by simp, rfl, _, _, rfl, fun h => (nomatch h)⟩⟩
 ·injection h3 with e1 e2 e3
  subst e1; subst e2; subst e3
  refine ⟨rfl, h4, ?_⟩
  by_cases he : lo = hi
  ·subst he
   exact ⟨[], fun _ h => (nomatch h), .inl ⟨by simp, rfl, _, _, by rw [Nat.sub_self], fun h => (nomatch h)⟩⟩
  ·obtain ⟨F1, g1, g2⟩ := h8.take hi
   obtain ⟨F2, g3, g4⟩ := g2.drop lo (by simp; omega)
   rw [if_neg (by omega)]
   refine ⟨b :: F2, fun k hk => ?_, .inr ⟨b, o + lo * n, cap - lo, F2, ?_, ?_, rfl, h6, fun h => (nomatch h), g4⟩⟩
   ·rcases List.mem_cons.1 hk with rfl | hk
    ·simp
    ·exact List.mem_cons_of_mem _ (g1 k (g3 k hk))
   ·have : ((xs.take hi).drop lo).length = hi - lo := by simp; omega
    rw [this]
    congr 1
    simp only [Option.map, Addr.add]
    by_cases hz : lo * n = 0
    ·simp [hz]
    ·simp [hz]
   ·simp; omega
theorem rY.atw {δ : Type} {R : δ → List Value → List Nat → Prop} {w : World} {e : Bool} {n : Nat} {xs : List δ} {a : Option Addr} {len cap : Nat} {F : List Nat}
  (h : rY R w e n xs (.slice a len cap) F) {lo hi m : Nat} (h1 : lo ≤ hi) (h2 : hi ≤ xs.length) (hm : hi ≤ m) :
  len = xs.length ∧ len ≤ cap ∧ ∃ F', (∀ k ∈ F', k ∈ F) ∧ rY R w true n ((xs.take hi).drop lo) (.slice (if m = lo then a else a.map (·.add (lo * n))) (hi - lo) (m - lo)) F' := by
 rcases h with ⟨rfl, rfl, a', cap', h3, h4⟩ | ⟨b, o, cap', F', h3, h4, rfl, h6, h7, h8⟩
 ·injection h3 with e1 e2 e3
  subst e2
  have : lo = 0 := by simp at h2; omega
  have : hi = 0 := by simp at h2; omega
  subst lo; subst hi
  refine ⟨rfl, Nat.zero_le _, [], fun _ h => (nomatch h), .inl ⟨by simp, rfl, _, _, rfl, fun h => (nomatch h)⟩⟩
 ·injection h3 with e1 e2 e3
  subst e1; subst e2; subst e3
  refine ⟨rfl, h4, ?_⟩
  by_cases he : lo = hi
  ·subst he
   exact ⟨[], fun _ h => (nomatch h), .inl ⟨by simp, rfl, _, _, by rw [Nat.sub_self], fun h => (nomatch h)⟩⟩
  ·obtain ⟨F1, g1, g2⟩ := h8.take hi
   obtain ⟨F2, g3, g4⟩ := g2.drop lo (by simp; omega)
   rw [if_neg (by omega)]
   refine ⟨b :: F2, fun k hk => ?_, .inr ⟨b, o + lo * n, m - lo, F2, ?_, ?_, rfl, h6, fun h => (nomatch h), g4⟩⟩
   ·rcases List.mem_cons.1 hk with rfl | hk
    ·simp
    ·exact List.mem_cons_of_mem _ (g1 k (g3 k hk))
   ·have : ((xs.take hi).drop lo).length = hi - lo := by simp; omega
    rw [this]
    congr 1
    simp only [Option.map, Addr.add]
    by_cases hz : lo * n = 0
    ·simp [hz]
    ·simp [hz]
   ·simp; omega
theorem afJ (off : Nat) : ∀ (vs : List Value) (i : Nat) (cells : Array Value), off + i + vs.length ≤ cells.size →
  ((vs.zipIdx i).foldl (fun (cs : Array Value) (x : Value × Nat) => cs.setIfInBounds (off + x.2) x.1) cells).toList = cells.toList.take (off + i) ++ vs ++ cells.toList.drop (off + i + vs.length)
 | [], i, cells, h => by simp
 | v :: vs, i, cells, h => by
  simp only [List.zipIdx_cons, List.foldl_cons]
  rw [afJ off vs (i + 1) (cells.setIfInBounds (off + i) v) (by simp at h ⊢; omega)]
  simp only [List.length_cons] at h
  have hlt : off + i < cells.toList.length := by simp; omega
  rw [Array.toList_setIfInBounds]
  rw [show off + (i + 1) = off + i + 1 by omega, List.take_set, List.take_succ_eq_append_getElem hlt]
  rw [List.set_append_right _ _ (by simp; omega)]
  simp only [List.length_take, Nat.min_eq_left (Nat.le_of_lt hlt), Nat.sub_self, List.set_cons_zero]
  rw [List.drop_set_of_lt (by omega)]
  simp only [List.append_assoc, List.cons_append, List.nil_append, List.length_cons]
  rw [show off + i + 1 + vs.length = off + i + (vs.length + 1) by omega]
theorem fill_eq (off : Nat) (v : Value) (cells : Array Value) (h : off + v.cells.size ≤ cells.size) :
  (v.cells.zipIdx.foldl (fun (cs : Array Value) (x : Value × Nat) => cs.setIfInBounds (off + x.2) x.1) cells).toList = cells.toList.take off ++ v.cells.toList ++ cells.toList.drop (off + v.cells.size) := by
 rw [← Array.foldl_toList, Array.toList_zipIdx]
 have := afJ off v.cells.toList 0 cells (by simpa using h)
 simpa using this
theorem afK {P : Program} {ty : Ty} {fields : Array Field} (hf : apz P ty.n ty.fs fields) {B0 : Nat} {w0 : World} {σ : St} {a : Act} {w : World} {C : Cx} {L : Nat → List Nat} (h : Rel B0 w0 σ a w C L)
  (place : Nat → Option (Nat × Nat)) (hp : ∀ (i off n : Nat) (g : Bool), ty.fs[i]? = some (off, n, g) → place i = some (off, n)) (hb : ∀ (i off n : Nat) (g : Bool), ty.fs[i]? = some (off, n, g) → off + n ≤ ty.n) :
  ∀ (parts : List (Nat × Operand)) (cs us : List V) (cells : Array Value), XU ty.fs σ parts cs = some us → iY C w cs cells.toList → cells.size = ty.n →
   ∃ out, Instr.fill place cells (parts.map fun (i, x) => (i, a.eval x)) = some out ∧ iY C w us out.toList
 | [], cs, us, cells, hf', hc, _ => by
  simp only [XU, Option.some.injEq] at hf'
  subst hf'
  exact ⟨cells, rfl, hc⟩
 | (i, x) :: rest, cs, us, cells, hf', hc, hn => by
  simp only [XU] at hf'
  split at hf'
  ·cases hf'
  ·rename_i off size g hi
   split at hf'
   ·cases hf'
   ·rename_i vs hvs
    split at hf'
    ·rename_i hl
     obtain ⟨k1, k2⟩ := (h.ev x).wX hvs
     have hlen := k1.length
     have hb' := hb i off size g hi
     have hsz : (a.eval x).cells.size = size := by rw [← hl, hlen]; simp
     simp only [List.map_cons, Instr.fill, hp i off size g hi]
     rw [if_neg (by simp [hsz]; omega)]
     refine afK hf h place hp hb rest _ us _ hf' ?_ ?_
     ·rw [fill_eq off (a.eval x) cells (by omega), hsz]
      exact ((hc.take off).append k1).append (hc.drop (off + size))
     ·have : (((a.eval x).cells.zipIdx.foldl (fun (cs : Array Value) (x : Value × Nat) => cs.setIfInBounds (off + x.2) x.1) cells).toList).length = ty.n := by
       rw [fill_eq off (a.eval x) cells (by omega)]
       simp
       omega
      simpa using this
    ·cases hf'
section
variable {P : Program} {Γ : Env} {B0 : Nat} {w0 : World} {σ : St} {a : Act} {w : World} {C : Cx} {L : Nat → List Nat}
theorem apz.places {N : Nat} {fs : List (Nat × Nat × Bool)} {fields : Array Field} (h : apz P N fs fields) :
  fields.toList.mapM (fun f => (P.info? f.type).map fun i => (f.offset, i.size)) = some (fs.map fun x => (x.1, x.2.1)) := by
 refine mapM_some_of_get _ _ (by simp [h.1]) ?_
 intro i f hf
 have hi : i < fs.length := by
  have : i < fields.toList.length := by
   rcases Nat.lt_or_ge i fields.toList.length with h' | h'
   ·exact h'
   ·rw [List.getElem?_eq_none h'] at hf; cases hf
  rw [← h.1]; simpa using this
 obtain ⟨f', j, d, h1, h2, h3, h4, _⟩ := h.2 i _ _ _ (List.getElem?_eq_getElem hi)
 have : f = f' := by
  have : fields[i]? = some f := by simpa using hf
  rw [h1] at this
  exact (Option.some.inj this).symm
 subst this
 rw [h3, List.getElem?_map, List.getElem?_eq_getElem hi]
 simp [h2, h4]
def Yl (P : Program) (C : Cx) (w : World) (o : Oper) (a : Act) (v : V) : Prop := ∃ cv, (∀ w', (execOp a.eval o).run P w' = .ok (.value cv) w') ∧ VR C w v cv
theorem apB (hT : iG P Γ.ty) (h : Rel B0 w0 σ a w C L) {o : Oper} {t : TypeId} {parts : Array (Nat × Operand)} (ho : o.op = .build t parts) {ty : Ty} (ht : Γ.ty t = some ty) (hs : ty.st = true)
  {cs : List V} (hf : XU ty.fs σ parts.toList ty.zero = some cs) : Yl P C w o a (.a cs) := by
 have hk := hT t ty ht
 obtain ⟨fields, h1, h2⟩ := hk.st hs
 obtain ⟨i, z, h3, h4, h5, h6, hz⟩ := hk.info
 obtain ⟨out, g1, g2⟩ := afK h2 h (fun i => ((ty.fs.map fun x => (x.1, x.2.1))[i]?)) (fun i off n g e => by simp [e])
  (fun i off n g e => by obtain ⟨_, _, _, _, _, _, _, _, h8, _⟩ := h2.2 i off n g e; exact h8) parts.toList ty.zero cs z.cells hf (h6 C w) hz
 refine ⟨.agg out, fun w' => ?_, ⟨out.toList, by simp, g2⟩⟩
 have hb : P.built t (parts.map fun (i, x) => (i, a.eval x)).toList = some out := by
  simp only [Program.built, h3, h1, h5, h2.places]
  simpa using g1
 simp [execOp, ho, run_build w' t _ out hb]
theorem Rel.box (h : Rel B0 w0 σ a w C L) {k : Nat} {cs : List V} (e : σ.obj k = .box cs) : ∃ b vs ty, C.φ k = some (.box b) ∧ L k = [b] ∧ w.heap[b]? = some (.cells ⟨vs⟩ ty (0, 0)) ∧ iY C w cs vs := by
 have := h.ob k; rw [e] at this; exact this
theorem Rel.arr (h : Rel B0 w0 σ a w C L) {k : Nat} {mu deep : Bool} {r : Rw} {xs : List r.T} (e : σ.obj k = .arr mu deep r xs) : ∃ cv F, C.φ k = some (.arr cv r.n) ∧ rY (gK w (!(mu && deep)) r) w (!mu) r.n xs cv F ∧ (∀ b ∈ F.drop 1, C.N b) ∧
   (if mu then (if deep then L k = F else L k = F.take 1) else L k = [] ∧ ∀ b ∈ F, C.N b) := by
 have := h.ob k; rw [e] at this; exact this
theorem alp {σ : St} {k : Nat} (h : σ.aiK k = true) : ∃ cs, σ.obj k = .box cs := by
 unfold St.aiK at h; split at h
 ·rename_i cs e; exact ⟨cs, e⟩
 ·cases h
theorem Rel.ab3 (h : Rel B0 w0 σ a w C L) {k : Nat} {st : Bool} {r : Rw} {xs : List r.T} (e : σ.obj k = .own st r xs) : ∃ cv, C.φ k = some (.arr cv r.n) ∧ rY (gK w false r) w false r.n xs cv (L k) ∧ (st = true → ∃ f, C.hs k = some f ∧ HsR w r xs cv f) := by
 have := h.ob k; rw [e] at this; exact this
theorem Rel.U4 (h : Rel B0 w0 σ a w C L) {k : Nat} (hk : σ.U4 k = true) : ∃ cv n, C.φ k = some (.arr cv n) := by
 unfold St.U4 at hk; split at hk
 ·rename_i mu deep r xs e
  obtain ⟨cv, F, h1, _⟩ := h.arr e; exact ⟨cv, _, h1⟩
 ·rename_i st r xs e
  obtain ⟨cv, h1, _⟩ := h.ab3 e; exact ⟨cv, _, h1⟩
 ·cases hk
theorem Rel.pb (h : Rel B0 w0 σ a w C L) {k j : Nat} {c : Value} (hc : VR C w (.pb k j) c) (hb : σ.aiK k = true) : ∃ b, C.φ k = some (.box b) ∧ c = .pointer (some ⟨b, j, none⟩) := by
 obtain ⟨cs, e⟩ := alp hb
 obtain ⟨b, vs, ty, h1, _⟩ := h.box e
 exact ⟨b, h1, hc.2.2 b h1⟩
theorem Rel.pa (h : Rel B0 w0 σ a w C L) {k i j : Nat} {c : Value} (hc : VR C w (.pa k i j) c) (hb : σ.U4 k = true) : ∃ cv n b o l cap, C.φ k = some (.arr cv n) ∧ cv = .slice (some ⟨b, o, none⟩) l cap ∧ i < l ∧ c = .pointer (some ⟨b, o + i * n + j, none⟩) := by
 obtain ⟨cv, n, h1⟩ := h.U4 hb
 obtain ⟨b, o, l, cap, h2, h3, h4⟩ := hc.2.2 cv n h1
 exact ⟨cv, n, b, o, l, cap, h1, h2, h3, h4⟩
theorem XV {u : V} {n : Int} (h : idx u = some n) {c : Value} (hc : VR C w u c) : ∃ k, c = .int k n := by
 unfold idx at h
 split at h
 ·rename_i k n'
  obtain rfl := Option.some.inj h
  exact ⟨k, hc.1⟩
 ·cases h
theorem XW (h : Rel B0 w0 σ a w C L) {x : Option Operand} {n : Option Int} (hn : Oi σ x = some n) : (x = none ∧ n = none) ∨ ∃ y m k, x = some y ∧ n = some m ∧ a.eval y = .int k m := by
 cases x with
 | none => simp [Oi] at hn; exact .inl ⟨rfl, hn.symm⟩
 | some y =>
  simp only [Oi] at hn
  cases e : idx (σ.ev y) with
  | none => rw [e] at hn; cases hn
  | some m =>
   rw [e] at hn
   obtain ⟨k, hk⟩ := XV e (h.ev y)
   simp at hn
   exact .inr ⟨y, m, k, rfl, hn.symm, hk⟩
theorem vI {k : IntKind} {m : Int} {y : Nat} {code : BoundsCode} (h0 : 0 ≤ m) (h1 : m ≤ y) (w : World) : (Instr.sliceBound (.int k m) y code).run P w = .ok m.toNat w := by
 simp [Instr.sliceBound, asIntOf, h0, h1]
theorem CY (h : Rel B0 w0 σ a w C L) {lo hi : Option Operand} {l m : Option Int} (hl : Oi σ lo = some l) (hm : Oi σ hi = some m) (isSlice : Bool) {len cap : Nat}
  (h0 : 0 ≤ l.getD 0) (h1 : l.getD 0 ≤ m.getD len) (h2 : m.getD len ≤ len) (h3 : len ≤ cap) (w' : World) :
  (Instr.sliceBounds isSlice len cap (lo.map a.eval) (hi.map a.eval) none).run P w' = .ok ((l.getD 0).toNat, (m.getD len).toNat, cap) w' := by
 unfold Instr.sliceBounds
 rcases XW h hm with ⟨rfl, rfl⟩ | ⟨y, q, k, rfl, rfl, e⟩ <;> rcases XW h hl with ⟨rfl, rfl⟩ | ⟨y', q', k', rfl, rfl, e'⟩
 ·simp
 ·simp only [Option.getD_some, Option.getD_none] at h0 h1 h2
  simp [e', vI h0 h1]
 ·simp only [Option.getD_some, Option.getD_none] at h0 h1 h2
  have hq : q ≤ (cap : Int) := by omega
  simp [e, vI h1 hq]
 ·simp only [Option.getD_some] at h0 h1 h2
  have hq : q ≤ (cap : Int) := by omega
  have hq' : q' ≤ (q.toNat : Int) := by omega
  simp [e, e', vI (show 0 ≤ q by omega) hq, vI h0 hq']
theorem run_sliceAt_slice {t e : TypeId} (hu : P.underlying t = some (.slice e)) {i : TypeInfo} (hi : P.info? e = some i) {ad : Option Addr} {len cap : Nat} {lo hi' : Option Value} {l m : Nat} {w' : World}
  (hb : (Instr.sliceBounds true len cap lo hi' none).run P w' = .ok (l, m, cap) w') :
  (Instr.sliceAt t (.slice ad len cap) lo hi' none).run P w' = .ok (.slice (if cap = l then ad else ad.map (·.add (l * i.size))) (m - l) (cap - l)) w' := by
 simp [Instr.sliceAt, run_underlying hu, Instr.slice, hb, yu hi]
theorem aaG {t : TypeId} (hu : P.underlying t = some .string) {s : ByteArray} {lo hi' : Option Value} {l m : Nat} {w' : World}
  (hb : (Instr.sliceBounds false s.size s.size lo hi' none).run P w' = .ok (l, m, s.size) w') :
  (Instr.sliceAt t (.string s) lo hi' none).run P w' = .ok (.string (s.extract l m)) w' := by
 simp [Instr.sliceAt, run_underlying hu, Instr.slice, hb]
theorem agw {t : TypeId} (hu : P.underlying t = some .bool) (b1 b2 : Bool) (d : Nat) (w' : World) : (Op.equalIn (d + 1) t (.bool b1) (.bool b2)).run P w' = .ok (b1 == b2) w' := by
 simp [Op.equalIn, run_underlying hu]
theorem ab4 {t : TypeId} (hu : P.underlying t = some .bool) (b1 b2 : Bool) (w' : World) : (Op.equal t (.bool b1) (.bool b2)).run P w' = .ok (b1 == b2) w' := agw hu b1 b2 9999 w'
theorem aiM (b1 b2 : Bool) (t : TypeId) (y z : Operand) {op : BinOp} {f : Bool → Bool} (ho : op = .eql ∧ f = id ∨ op = .neq ∧ f = (!·)) (hu : P.underlying t = some .bool) (w' : World) :
  (do eqGuard op t y z (.bool b1) (.bool b2); binOp op t (.bool b1) (.bool b2) : Sem Value).run P w' = .ok (.bool (f (b1 == b2))) w' := by
 rcases ho with ⟨rfl, rfl⟩ | ⟨rfl, rfl⟩
 ·have e : (do eqGuard .eql t y z (.bool b1) (.bool b2); binOp .eql t (.bool b1) (.bool b2) : Sem Value) = (do pure (.bool (← Op.equal t (.bool b1) (.bool b2)))) := rfl
  rw [e, Sem.run_bind, ab4 hu]; rfl
 ·have e : (do eqGuard .neq t y z (.bool b1) (.bool b2); binOp .neq t (.bool b1) (.bool b2) : Sem Value) = (do pure (.bool (!(← Op.equal t (.bool b1) (.bool b2))))) := rfl
  rw [e, Sem.run_bind, ab4 hu]; rfl
theorem Ef (s : Sem Value) {x : Value} {w' : World} (h : s.run P w' = .ok x w') : (do let r ← s; pure (.value r) : Sem Next).run P w' = .ok (.value x) w' := by
 rw [Sem.run_bind, h]; rfl
theorem ab5 {C : Cx} {w : World} : ∀ {us : List V} {vs : List Value} {ns : List Int}, afF us = some ns → iY C w us vs → vs = ns.map (Value.int .i64)
 | [], vs, ns, h, hv => by
  simp only [afF, Option.some.injEq] at h
  subst h; exact hv
 | u :: us, vs, ns, h, hv => by
  unfold afF at h
  split at h
  ·rename_i e; cases e
  ·rename_i n vs' e
   cases e
   split at h
   ·rename_i ms hm
    cases h
    obtain ⟨v, vs2, rfl, h1, h2⟩ := hv
    have : v = .int .i64 n := h1.1
    rw [this, ab5 hm h2]; rfl
   ·cases h
  ·cases h
theorem Va {t : TypeId} (hu : P.underlying t = some (.int .i64)) {vs : List Value} {off : Nat} {v : Value} (hv : vs[off]? = some v) (w' : World) : (part t ⟨vs⟩ off).run P w' = .ok v w' := by
 have e2 : (⟨vs⟩ : Array Value)[off]? = some v := by simpa using hv
 simp [part, ab2 hu, JM, e2]
theorem Vb : ∀ {fs : List Field} {i : Nat} (pa pb : List Value) (xs ys : List Int) (d : Nat) (w' : World), ark P i fs → pa.length = i → pb.length = i → xs.length = fs.length → ys.length = fs.length →
  (Op.eqFields (d + 1) ⟨pa ++ xs.map (Value.int .i64)⟩ ⟨pb ++ ys.map (Value.int .i64)⟩ fs).run P w' = .ok (eqI xs ys) w'
 | [], i, pa, pb, [], [], d, w', _, _, _, _, _ => rfl
 | f :: fs, i, pa, pb, x :: xs, y :: ys, d, w', ⟨h1, h2, h3, h4⟩, ha, hb, hx, hy => by
  have ea : (pa ++ (x :: xs).map (Value.int .i64))[f.offset]? = some (.int .i64 x) := by rw [h2, ← ha, List.getElem?_append_right (Nat.le_refl _)]; simp
  have eb : (pb ++ (y :: ys).map (Value.int .i64))[f.offset]? = some (.int .i64 y) := by rw [h2, ← hb, List.getElem?_append_right (Nat.le_refl _)]; simp
  rw [Op.eqFields, if_pos h1, Sem.run_bind, Va h3 ea, Result.andThen_ok, Sem.run_bind, Va h3 eb, Result.andThen_ok, Sem.run_bind, run_equalIn_int w' d f.type .i64 .i64 x y h3, Result.andThen_ok]
  by_cases hxy : x = y
  ·rw [if_neg (by simp [hxy])]
   have := Vb (pa ++ [.int .i64 x]) (pb ++ [.int .i64 y]) xs ys d w' h4 (by simp [ha]) (by simp [hb]) (by simpa using hx) (by simpa using hy)
   simp only [List.append_assoc, List.singleton_append] at this
   rw [List.map_cons, List.map_cons, this, hxy]
   simp [eqI]
  ·rw [if_pos (by simp [hxy])]
   simp [eqI, hxy]
theorem TL {t : TypeId} {n : Nat} (h : arl P t n) {xs ys : List Int} (hx : xs.length = n) (hy : ys.length = n) (y z : Operand) (w' : World) :
  (do eqGuard .eql t y z (.agg ⟨xs.map (Value.int .i64)⟩) (.agg ⟨ys.map (Value.int .i64)⟩); binOp .eql t (.agg ⟨xs.map (Value.int .i64)⟩) (.agg ⟨ys.map (Value.int .i64)⟩) : Sem Value).run P w' = .ok (.bool (eqI xs ys)) w' ∧
  (do eqGuard .neq t y z (.agg ⟨xs.map (Value.int .i64)⟩) (.agg ⟨ys.map (Value.int .i64)⟩); binOp .neq t (.agg ⟨xs.map (Value.int .i64)⟩) (.agg ⟨ys.map (Value.int .i64)⟩) : Sem Value).run P w' = .ok (.bool (!(eqI xs ys))) w' := by
 obtain ⟨h1, h2, h3, h4, h5⟩ := h
 have e := Vb [] [] xs ys 9998 w' h4 rfl rfl (by omega) (by omega)
 simp only [List.nil_append] at e
 constructor
 ·rw [Sem.run_bind, run_eqGuard_agg w' .eql t y z _ _ h3, Result.andThen_ok, run_eql_struct, run_equalIn_agg w' 9999 t _ _ h1 h2, e]; rfl
 ·rw [Sem.run_bind, run_eqGuard_agg w' .neq t y z _ _ h3, Result.andThen_ok, run_neq_struct, run_equalIn_agg w' 9999 t _ _ h1 h2, e]; rfl
theorem apC (hT : iG P Γ.ty) (h : Rel B0 w0 σ a w C L) {o : Oper} {op : BinOp} {t u : TypeId} {y z : Operand} (ho : o.op = .binOp op t y z u) {v : V}
  (hp : lH Γ o σ = some (true, v)) : Yl P C w o a v := by
 have hy := h.ev y
 have hz := h.ev z
 simp only [lH, ho] at hp
 split at hp
 ·rename_i b1 b2 e1 e2
  rw [e1] at hy; rw [e2] at hz
  have ey : a.eval y = .bool b1 := hy.1
  have ez : a.eval z = .bool b2 := hz.1
  split at hp
  ·rename_i ty ht
   split at hp
   ·rename_i hb
    have hu := (hT t ty ht).bool hb
    split at hp
    ·cases hp
     refine ⟨.bool (b1 == b2), fun w' => ?_, rfl, rfl⟩
     simp only [execOp, ho, ey, ez]
     exact Ef _ (aiM b1 b2 t y z (f := id) (.inl ⟨rfl, rfl⟩) hu w')
    ·cases hp
     refine ⟨.bool (!(b1 == b2)), fun w' => ?_, rfl, rfl⟩
     simp only [execOp, ho, ey, ez]
     exact Ef _ (aiM b1 b2 t y z (f := (!·)) (.inr ⟨rfl, rfl⟩) hu w')
    ·cases hp
   ·cases hp
  ·cases hp
 ·rename_i v1 v2 hns e1 e2
  rw [e1] at hy; rw [e2] at hz
  have ey : a.eval y = v1 := hy.1
  have ez : a.eval z = v2 := hz.1
  split at hp
  ·rename_i c x hb
   simp only [Option.some.injEq, Prod.mk.injEq] at hp
   obtain ⟨hc, rfl⟩ := hp
   obtain ⟨_, h2⟩ := apA (P := P) hb hc t y z w
   refine ⟨x, fun w' => ?_, rfl, h2⟩
   have h1 := (apA (P := P) hb hc t y z w').1
   simp only [execOp, ho, ey, ez]
   exact Ef _ h1
  ·cases hp
 ·rename_i as bs e1 e2
  rw [e1] at hy; rw [e2] at hz
  obtain ⟨vs, ey, hvs⟩ := hy
  obtain ⟨us, ez, hus⟩ := hz
  split at hp
  ·rename_i ty xs ys ht hx hyy
   split at hp
   ·rename_i hc
    simp only [Bool.and_eq_true] at hc
    have hE := (hT t ty ht).eqv hc.1.1
    obtain ⟨k1, k2⟩ := TL hE (Nat.eq_of_beq_eq_true hc.1.2) (Nat.eq_of_beq_eq_true hc.2) y z w
    rw [ab5 hx hvs] at ey
    rw [ab5 hyy hus] at ez
    split at hp
    ·cases hp
     refine ⟨.bool (eqI xs ys), fun w' => ?_, rfl, rfl⟩
     simp only [execOp, ho, ey, ez]
     exact Ef _ (TL hE (Nat.eq_of_beq_eq_true hc.1.2) (Nat.eq_of_beq_eq_true hc.2) y z w').1
    ·cases hp
     refine ⟨.bool (!(eqI xs ys)), fun w' => ?_, rfl, rfl⟩
     simp only [execOp, ho, ey, ez]
     exact Ef _ (TL hE (Nat.eq_of_beq_eq_true hc.1.2) (Nat.eq_of_beq_eq_true hc.2) y z w').2
    ·cases hp
   ·cases hp
  ·cases hp
 ·cases hp
theorem anU (hT : iG P Γ.ty) (h : Rel B0 w0 σ a w C L) {o : Oper} {t : TypeId} {y mx : Operand} {lo hi : Option Operand} (ho : o.op = .slice t y lo hi (some mx)) {v : V}
  (hp : lH Γ o σ = some (true, v)) : Yl P C w o a v := by
 have hy := h.ev y
 simp only [lH, ho] at hp
 split at hp
 ·rename_i ty lo' hi' m ow r xs ht hl hh hm hns
  rw [hns] at hy
  obtain ⟨F, hF, hN⟩ := hy
  split at hp
  ·rename_i hst
   obtain ⟨e, hu, i, z, auU, hn, _⟩ := (hT t ty ht).sl hst
   split at hp
   ·rename_i hr
    simp only [Option.some.injEq, Prod.mk.injEq, Bool.and_eq_true, decide_eq_true_eq] at hp
    obtain ⟨⟨⟨⟨h0, h1⟩, h2⟩, h3⟩, rfl⟩ := hp
    obtain ⟨ad, len, cap, ec⟩ : ∃ ad len cap, a.eval y = .slice ad len cap := by
     rcases hF with ⟨_, _, ad, cap, h3, _⟩ | ⟨b, o, cap, F', h3, _⟩ <;> exact ⟨_, _, _, h3⟩
    rw [ec] at hF
    obtain ⟨g1, g2, _⟩ := rY.part hF (lo := 0) (hi := 0) (by omega) (by omega)
    obtain ⟨_, _, F', g3, g4⟩ := rY.atw hF (lo := (lo'.getD 0).toNat) (hi := hi'.toNat) (m := m.toNat) (by omega) (by omega) (by omega)
    refine ⟨_, fun w' => ?_, F', g4, fun b hb => hN b (g3 b hb)⟩
    cases hi with
    | none => simp at hh
    | some hx =>
     obtain ⟨k1, e1⟩ := XV (show idx (σ.ev hx) = some hi' from hh) (h.ev hx)
     obtain ⟨k2, e2⟩ := XV hm (h.ev mx)
     have hb : (Instr.sliceBounds true len cap (lo.map a.eval) (some (a.eval hx)) (some (a.eval mx))).run P w' = .ok ((lo'.getD 0).toNat, hi'.toNat, m.toNat) w' := by
      have q1 : m ≤ (cap : Int) := by omega
      have q2 : hi' ≤ (m.toNat : Int) := by omega
      unfold Instr.sliceBounds
      rcases XW h hl with ⟨rfl, rfl⟩ | ⟨y', q', k', rfl, rfl, e'⟩
      ·simp [e1, e2, vI (show 0 ≤ m by omega) q1, vI (show 0 ≤ hi' by omega) q2]
      ·simp only [Option.getD_some] at h0 h1
       simp [e1, e2, e', vI (show 0 ≤ m by omega) q1, vI (show 0 ≤ hi' by omega) q2, vI h0 (show q' ≤ (hi'.toNat : Int) by omega)]
     simp [execOp, ho, ec, Instr.sliceAt, run_underlying hu, Instr.slice, hb, yu auU, hn, hr]
   ·cases hp
  ·cases hp
 ·cases hp
theorem apD (hT : iG P Γ.ty) (h : Rel B0 w0 σ a w C L) {o : Oper} {t : TypeId} {y : Operand} {lo hi : Option Operand} (ho : o.op = .slice t y lo hi none) {v : V}
  (hp : lH Γ o σ = some (true, v)) : Yl P C w o a v := by
 have hy := h.ev y
 simp only [lH, ho] at hp
 split at hp
 ·rename_i l m s hl hm es
  rw [es] at hy
  have ey : a.eval y = .string s := hy.1
  split at hp
  ·cases hp
  ·rename_i ty ht
   split at hp
   ·rename_i hst
    simp only [Option.some.injEq, Prod.mk.injEq, Bool.and_eq_true, decide_eq_true_eq] at hp
    obtain ⟨⟨⟨h0, h1⟩, h2⟩, rfl⟩ := hp
    have hu := (hT t ty ht).str hst
    refine ⟨_, fun w' => ?_, rfl, rfl⟩
    have := aaG hu (CY (P := P) h hl hm false h0 h1 h2 (Nat.le_refl _) w')
    simp [execOp, ho, ey, this]
   ·cases hp
 ·rename_i l m hl hm hns
  split at hp
  ·cases hp
  ·rename_i ty ht
   split at hp
   ·rename_i hst
    obtain ⟨e, hu, i, z, hi, hn, _⟩ := (hT t ty ht).sl hst
    split at hp
    ·rename_i es
     rw [es] at hy
     have ey : a.eval y = .slice none 0 0 := hy
     simp only [Option.some.injEq, Prod.mk.injEq, Bool.and_eq_true, beq_iff_eq] at hp
     obtain ⟨⟨h0, h1⟩, rfl⟩ := hp
     refine ⟨.slice none 0 0, fun w' => ?_, rfl⟩
     have := run_sliceAt_slice hu hi (ad := none) (CY (P := P) h hl hm true (len := 0) (cap := 0) (by omega) (by simp; omega) (by simp; omega) (Nat.le_refl _) w')
     simp only [Int.natCast_zero] at this
     rw [h0, h1] at this
     simp [execOp, ho, ey, this]
    ·rename_i o' r xs es
     rw [es] at hy
     obtain ⟨F, hF, hN⟩ := hy
     split at hp
     ·rename_i hr
      simp only [Option.some.injEq, Prod.mk.injEq] at hp
      obtain ⟨hsc, rfl⟩ := hp
      obtain ⟨h0, h1, h2⟩ := agu hsc
      rw [ari]
      obtain ⟨ad, len, cap, ec⟩ : ∃ ad len cap, a.eval y = .slice ad len cap := by
       rcases hF with ⟨_, _, ad, cap, h3, _⟩ | ⟨b, o, cap, F', h3, _⟩ <;> exact ⟨_, _, _, h3⟩
      rw [ec] at hF
      obtain ⟨g1, g2, F', g3, g4⟩ := rY.part hF (lo := (l.getD 0).toNat) (hi := (m.getD xs.length).toNat) (by omega) (by omega)
      refine ⟨_, fun w' => ?_, F', g4, fun b hb => hN b (g3 b hb)⟩
      have := run_sliceAt_slice hu hi (ad := ad) (CY (P := P) h hl hm true (len := len) (cap := cap) h0 (by rw [g1]; exact h1) (by rw [g1]; exact h2) g2 w')
      rw [g1] at this
      rw [hn, ← hr] at this
      simp [execOp, ho, ec, g1, this]
     ·cases hp
    ·rename_i k es
     rw [es] at hy
     split at hp
     ·rename_i mu deep r xs eo
      split at hp
      ·rename_i hr
       split at hp
       ·cases hp
       simp only [Option.some.injEq, Prod.mk.injEq] at hp
       obtain ⟨hsc, rfl⟩ := hp
       obtain ⟨h0, h1, h2⟩ := agu hsc
       obtain ⟨cv, F, hφ, hF, _⟩ := h.arr eo
       obtain ⟨ad, len, cap, ec⟩ : ∃ ad len cap, cv = .slice ad len cap := by
        rcases hF with ⟨_, _, ad, cap, h3, _⟩ | ⟨b, o, cap, F', h3, _⟩ <;> exact ⟨_, _, _, h3⟩
       have ey : a.eval y = .slice ad len cap := by rw [hy.2.2 cv r.n hφ, ec]
       rw [ec] at hF
       obtain ⟨g1, g2, F', g3, g4⟩ := rY.part hF (lo := (l.getD 0).toNat) (hi := (m.getD xs.length).toNat) (by omega) (by omega)
       refine ⟨.slice (if cap = (l.getD 0).toNat then ad else ad.map (·.add ((l.getD 0).toNat * r.n))) ((m.getD xs.length).toNat - (l.getD 0).toNat) (cap - (l.getD 0).toNat), fun w' => ?_, hy.1, rfl, fun cv' n' hφ' => ?_⟩
       ·have := run_sliceAt_slice hu hi (ad := ad) (CY (P := P) h hl hm true (len := len) (cap := cap) h0 (by rw [g1]; exact h1) (by rw [g1]; exact h2) g2 w')
        rw [g1] at this
        rw [hn, ← hr] at this
        simp [execOp, ho, ey, g1, this]
       ·rw [hφ] at hφ'
        injection hφ' with e1
        injection e1 with e1 e2
        subst e1; subst e2
        refine ⟨ad, len, cap, _, ec, by omega, _, rfl, fun hne => ?_⟩
        rcases hF with ⟨h5, _⟩ | ⟨b, o, cap', F', h5, h6, _⟩
        ·have hx : xs.length = 0 := by rw [h5]; rfl
         exact absurd hne (by omega)
        ·injection h5 with e3 e4 e5
         subst e3; subst e5
         refine ⟨b, o, rfl, ?_, rfl⟩
         rw [if_neg (by omega)]
         simp only [Option.map, Addr.add]
         by_cases hz : (l.getD 0).toNat * r.n = 0
         ·simp [hz]
         ·simp [hz]
      ·cases hp
     ·cases hp
    ·rename_i k off len0 es
     rw [es] at hy
     split at hp
     ·rename_i mu deep r xs eo
      split at hp
      ·rename_i hr
       simp only [Option.some.injEq, Prod.mk.injEq] at hp
       obtain ⟨hsc, rfl⟩ := hp
       obtain ⟨h0, h1, h2⟩ := agu hsc
       obtain ⟨cv, F, hφ, hF, _⟩ := h.arr eo
       obtain ⟨ad, Ln, cap, cap', ec, hle, a', ey, hne⟩ := hy.2.2 cv r.n hφ
       have hcap : len0 ≤ cap' ∧ (len0 ≠ 0 → off + len0 ≤ cap) := by
        by_cases hz : len0 = 0
        ·exact ⟨by omega, fun h => absurd hz h⟩
        ·obtain ⟨b, o, e3, e4, e5⟩ := hne hz
         have : Ln ≤ cap := by
          rw [ec] at hF
          rcases hF with ⟨h5, _, _, _, h6, _⟩ | ⟨b, o, cap', F', h5, h6, _⟩
          ·injection h6 with _ e6 _; omega
          ·injection h5 with _ e6 e7; omega
         exact ⟨by omega, fun _ => by omega⟩
       refine ⟨.slice (if cap' = (l.getD 0).toNat then a' else a'.map (·.add ((l.getD 0).toNat * r.n))) ((m.getD len0).toNat - (l.getD 0).toNat) (cap' - (l.getD 0).toNat), fun w' => ?_, hy.1, rfl, fun cv' n' hφ' => ?_⟩
       ·have := run_sliceAt_slice hu hi (ad := a') (CY (P := P) h hl hm true (len := len0) (cap := cap') h0 h1 h2 hcap.1 w')
        rw [hn, ← hr] at this
        simp [execOp, ho, ey, this]
       ·rw [hφ] at hφ'
        injection hφ' with e1
        injection e1 with e1 e2
        subst e1; subst e2
        refine ⟨ad, Ln, cap, _, ec, by omega, _, rfl, fun hne' => ?_⟩
        obtain ⟨b, o, e3, e4, e5⟩ := hne (by omega)
        refine ⟨b, o, e3, ?_, by omega⟩
        have := hcap.2 (by omega)
        rw [if_neg (by omega), e4]
        simp only [Option.map, Addr.add]
        rw [Nat.add_mul]
        by_cases hz : (l.getD 0).toNat * r.n = 0
        ·simp [hz]
        ·simp [hz, Nat.add_assoc]
      ·cases hp
     ·cases hp
    ·cases hp
   ·cases hp
 ·cases hp
theorem arn {t : TypeId} {d : TypeDesc} {j : TypeInfo} (hu : P.underlying t = some d) (hi : P.info? t = some j) {cs : List V} {vs : List Value} (hc : iY C w cs vs) {off n : Nat} (hn : j.size = n) {v : V}
  (hm : mk (JM d) ((cs.drop off).take n) = some v) (hn0 : n ≠ 0) (hlen : off + n ≤ cs.length) : ∃ cv, (∀ w', (part t ⟨vs⟩ off).run P w' = .ok cv w') ∧ VR C w v cv := by
 have hl := hc.length
 have hd := (hc.drop off).take n
 unfold mk at hm
 cases hg : JM d with
 | true =>
  rw [hg, if_pos rfl] at hm
  obtain rfl := Option.some.inj hm
  refine ⟨.agg ((⟨vs⟩ : Array Value).extract off (off + n)), fun w' => by simp [part, ab2 hu, hg, yu hi, hn], _, ?_, hd⟩
  congr 1
  apply Array.ext'
  simp [List.take_drop]
 | false =>
  rw [hg, if_neg (by simp)] at hm
  split at hm
  ·rename_i u e
   obtain rfl := Option.some.inj hm
   rw [e] at hd
   obtain ⟨cv, vs', e1, h2, h3⟩ := hd
   have e2 : vs[off]? = some cv := by
    have : ((vs.drop off).take n)[0]? = some cv := by rw [e1]; rfl
    rw [List.getElem?_take] at this
    split at this
    ·simpa using this
    ·cases this
   exact ⟨cv, fun w' => by simp [part, ab2 hu, hg, e2], h2⟩
  ·cases hm
theorem apE (hT : iG P Γ.ty) (h : Rel B0 w0 σ a w C L) {o : Oper} {t : TypeId} {y : Operand} {i : Nat} (ho : o.op = .field t y i) {v : V} (hp : lH Γ o σ = some (true, v)) : Yl P C w o a v := by
 have hy := h.ev y
 simp only [lH, ho] at hp
 split at hp
 ·cases hp
 ·rename_i ty ht
  split at hp
  ·rename_i hs
   obtain ⟨fields, hu, hf⟩ := (hT t ty ht).st hs
   split at hp
   ·rename_i off n g cs e1 e2
    rw [e2] at hy
    obtain ⟨vs, ey, hc⟩ := hy
    obtain ⟨f, j, d, k1, k2, k3, k4, k5, k6, k7, k8⟩ := hf.2 i off n g e1
    split at hp
    ·rename_i hlen
     split at hp
     ·rename_i u hm
      cases hp
      obtain ⟨cv, g1, g2⟩ := arn k7 k3 hc k4 (k8 ▸ hm) k5 hlen
      refine ⟨cv, fun w' => ?_, g2⟩
      have g1' := g1 w'
      simp [execOp, ho, ey, Instr.field, run_underlying hu, k1, asAgg, k2, g1']
     ·cases hp
    ·cases hp
   ·cases hp
  ·cases hp
theorem agx (hT : iG P Γ.ty) (h : Rel B0 w0 σ a w C L) {o : Oper} {t : TypeId} {y : Operand} {i : Nat} (ho : o.op = .fieldAddr t y i) {v : V} (hp : lH Γ o σ = some (true, v)) : Yl P C w o a v := by
 have hy := h.ev y
 simp only [lH, ho] at hp
 split at hp
 ·cases hp
 ·rename_i ty ht
  split at hp
  ·rename_i hs
   obtain ⟨fields, hu, hf⟩ := (hT t ty ht).st hs
   have key : ∀ (off n : Nat) (g : Bool), ty.fs[i]? = some (off, n, g) → ∀ b x w', a.eval y = .pointer (some ⟨b, x, none⟩) → (execOp a.eval o).run P w' = .ok (.value (.pointer (some ⟨b, x + off, none⟩))) w' := by
    intro off n g e b x w' ey
    obtain ⟨f, j, d, k1, k2, k3, k4, k5, k6, k7, k8⟩ := hf.2 i off n g e
    have ha : (⟨b, x, none⟩ : Addr).add f.offset = ⟨b, x + off, none⟩ := by
     rw [k2]; unfold Addr.add; split <;> simp_all
    simp [execOp, ho, ey, Instr.fieldAt, run_underlying hu, k1, Instr.sureAddr, fieldPlace, yu k3, k4, k5, ha]
   split at hp
   ·rename_i off n g k c e1 e2
    rw [e2] at hy
    split at hp
    ·rename_i hb
     cases hp
     obtain ⟨b, g1, g2⟩ := h.pb hy hb
     exact ⟨_, fun w' => key off n g e1 b c w' g2, hy.1, rfl, fun b' hb' => by rw [g1] at hb'; cases hb'; rfl⟩
    ·cases hp
   ·rename_i off n g k j c e1 e2
    rw [e2] at hy
    split at hp
    ·rename_i hb
     cases hp
     obtain ⟨cv, n', b, x, l, cap, g1, g2, g3, g4⟩ := h.pa hy hb
     refine ⟨_, fun w' => key off n g e1 b _ w' g4, hy.1, rfl, fun cv' n'' hb' => ?_⟩
     rw [g1] at hb'; cases hb'
     exact ⟨b, x, l, cap, g2, g3, by rw [Nat.add_assoc]⟩
    ·cases hp
   ·rename_i off n g r d c e1 e2
    rw [e2] at hy
    cases hp
    obtain ⟨b, x, vs, F, g1, g2⟩ := hy
    exact ⟨_, fun w' => key off n g e1 b _ w' g1, b, x, vs, F, by rw [Nat.add_assoc], g2⟩
   ·rename_i off n g cs c e1 e2
    rw [e2] at hy
    cases hp
    obtain ⟨b, vs, ty', g1, g2⟩ := hy
    exact ⟨_, fun w' => key off n g e1 b _ w' g1, b, vs, ty', rfl, g2⟩
   ·cases hp
  ·cases hp
theorem KD {δ : Type} {R : δ → List Value → List Nat → Prop} {w : World} {e : Bool} {n : Nat} {xs : List δ} {v : Value} {F : List Nat} (h : rY R w e n xs v F) : ∃ ad cap, v = .slice ad xs.length cap := by
 rcases h with ⟨rfl, _, ad, cap, h3, _⟩ | ⟨b, o, cap, F', h3, _⟩
 ·exact ⟨ad, cap, h3⟩
 ·exact ⟨_, cap, h3⟩
theorem run_indexAt {t e : TypeId} (hu : P.underlying t = some (.slice e)) {i : TypeInfo} (hi : P.info? e = some i) {ad : Addr} {len cap : Nat} {k : IntKind} {n : Int} (h0 : 0 ≤ n) (h1 : n < len) (w' : World) :
  (Instr.indexAt t (.slice (some ad) len cap) (.int k n)).run P w' = .ok (.pointer (some (ad.add (n.toNat * i.size)))) w' := by
 simp [Instr.indexAt, asIntOf, run_underlying hu, h0, h1, yu hi]
theorem JO (b o m : Nat) : (⟨b, o, none⟩ : Addr).add m = ⟨b, o + m, none⟩ := by
 unfold Addr.add; split <;> simp_all
theorem agy (hT : iG P Γ.ty) (h : Rel B0 w0 σ a w C L) {o : Oper} {t : TypeId} {y i : Operand} (ho : o.op = .indexAddr t y i) {v : V} (hp : lH Γ o σ = some (true, v)) : Yl P C w o a v := by
 have hy := h.ev y
 simp only [lH, ho] at hp
 split at hp
 ·rename_i ty n ht hn
  obtain ⟨kk, ei⟩ := XV hn (h.ev i)
  split at hp
  ·rename_i hst
   obtain ⟨e, hu, ie, z, hi, hsz, _⟩ := (hT t ty ht).sl hst
   split at hp
   ·rename_i o' r xs es
    rw [es] at hy
    obtain ⟨F, hF, hN⟩ := hy
    split at hp
    ·rename_i hr
     simp only [Option.some.injEq, Prod.mk.injEq, Bool.and_eq_true, decide_eq_true_eq] at hp
     obtain ⟨⟨h0, h1⟩, rfl⟩ := hp
     rcases hF with ⟨h5, _⟩ | ⟨b, x, cap, F', h5, h6, rfl, h7, h8, h9⟩
     ·subst h5; simp at h1; omega
     ·have hlt : n.toNat < xs.length := by omega
      obtain ⟨vs, F1, g1, g2, g3, g4⟩ := h9.get (List.getElem?_eq_getElem hlt)
      refine ⟨_, fun w' => ?_, b, x + n.toNat * r.n, vs, F1, rfl, hN b (by simp), g2, g3, ?_, fun k hk => hN k (by simp [g1 k hk])⟩
      ·have := run_indexAt hu hi (ad := ⟨b, x, none⟩) (cap := cap) (k := kk) h0 h1 w'
       rw [hsz, ← hr, JO] at this
       simp [execOp, ho, ei, h5, this]
      ·rw [List.getD_eq_getElem?_getD, List.getElem?_eq_getElem hlt]; exact g4
    ·cases hp
   ·rename_i k es
    rw [es] at hy
    split at hp
    ·rename_i mu deep r xs eo
     split at hp
     ·rename_i hr
      simp only [Option.some.injEq, Prod.mk.injEq, Bool.and_eq_true, decide_eq_true_eq] at hp
      obtain ⟨⟨h0, h1⟩, rfl⟩ := hp
      obtain ⟨cv, F, hφ, hF, _⟩ := h.arr eo
      rcases hF with ⟨h5, _⟩ | ⟨b, x, cap, F', h5, h6, _⟩
      ·subst h5; simp at h1; omega
      ·have ey := hy.2.2 cv r.n hφ
       rw [h5] at ey
       refine ⟨.pointer (some ⟨b, x + n.toNat * r.n, none⟩), fun w' => ?_, hy.1, rfl, fun cv' n' hφ' => ?_⟩
       ·have := run_indexAt hu hi (ad := ⟨b, x, none⟩) (cap := cap) (k := kk) h0 h1 w'
        rw [hsz, ← hr, JO] at this
        simp [execOp, ho, ei, ey, this]
       ·rw [hφ] at hφ'; cases hφ'
        exact ⟨b, x, xs.length, cap, h5, by omega, by simp⟩
     ·cases hp
    ·rename_i st r xs eo
     split at hp
     ·rename_i hr
      simp only [Option.some.injEq, Prod.mk.injEq, Bool.and_eq_true, decide_eq_true_eq] at hp
      obtain ⟨⟨h0, h1⟩, rfl⟩ := hp
      obtain ⟨cv, hφ, hF, _⟩ := h.ab3 eo
      rcases hF with ⟨h5, _⟩ | ⟨b, x, cap, F', h5, h6, _⟩
      ·subst h5; simp at h1; omega
      ·have ey := hy.2.2 cv r.n hφ
       rw [h5] at ey
       refine ⟨.pointer (some ⟨b, x + n.toNat * r.n, none⟩), fun w' => ?_, hy.1, rfl, fun cv' n' hφ' => ?_⟩
       ·have := run_indexAt hu hi (ad := ⟨b, x, none⟩) (cap := cap) (k := kk) h0 h1 w'
        rw [hsz, ← hr, JO] at this
        simp [execOp, ho, ei, ey, this]
       ·rw [hφ] at hφ'; cases hφ'
        exact ⟨b, x, xs.length, cap, h5, by omega, by simp⟩
     ·cases hp
    ·cases hp
   ·rename_i k off len es
    rw [es] at hy
    split at hp
    ·rename_i mu deep r xs eo
     split at hp
     ·rename_i hr
      simp only [Option.some.injEq, Prod.mk.injEq, Bool.and_eq_true, decide_eq_true_eq] at hp
      obtain ⟨⟨h0, h1⟩, rfl⟩ := hp
      obtain ⟨cv, F, hφ, hF, _⟩ := h.arr eo
      obtain ⟨ad, l, cap, cap', e1, e2, a', e3, e4⟩ := hy.2.2 cv r.n hφ
      obtain ⟨b, x, g1, g2, g3⟩ := e4 (by omega)
      subst g1; subst g2
      refine ⟨.pointer (some ⟨b, x + (off + n.toNat) * r.n, none⟩), fun w' => ?_, hy.1, rfl, fun cv' n' hφ' => ?_⟩
      ·have := run_indexAt hu hi (ad := ⟨b, x + off * r.n, none⟩) (cap := cap') (k := kk) h0 h1 w'
       rw [hsz, ← hr, JO] at this
       simp [execOp, ho, ei, e3, this, Nat.add_mul, Nat.add_assoc]
      ·rw [hφ] at hφ'; cases hφ'
       exact ⟨b, x, l, cap, e1, by omega, by simp⟩
     ·cases hp
    ·cases hp
   ·cases hp
  ·cases hp
 ·cases hp
theorem apF (hT : iG P Γ.ty) (h : Rel B0 w0 σ a w C L) {o : Oper} {t : TypeId} {y i : Operand} (ho : o.op = .index t y i) {v : V} (hp : lH Γ o σ = some (true, v)) : Yl P C w o a v := by
 have hy := h.ev y
 simp only [lH, ho] at hp
 split at hp
 ·rename_i ty n s ht hn es
  obtain ⟨kk, ei⟩ := XV hn (h.ev i)
  rw [es] at hy
  have ey : a.eval y = .string s := hy.1
  split at hp
  ·rename_i hst
   have hu := (hT t ty ht).str hst
   simp only [Option.some.injEq, Prod.mk.injEq, Bool.and_eq_true, decide_eq_true_eq] at hp
   obtain ⟨⟨h0, h1⟩, rfl⟩ := hp
   have hlt : n.toNat < s.size := by omega
   refine ⟨.int .u8 (s.data.toList.getD n.toNat 0).toNat, fun w' => ?_, rfl, rfl⟩
   have e1 : s[n.toNat]? = some s[n.toNat] := by simp [hlt]
   have e2 : s.data.toList.getD n.toNat 0 = s[n.toNat] := by
    rw [List.getD_eq_getElem?_getD, Array.getElem?_toList, Array.getElem?_eq_getElem (by exact hlt)]; rfl
   simp only [execOp, ho, ei, ey]
   refine Ef _ ?_
   rw [e2]
   simp [Instr.index, asIntOf, run_underlying hu, h0, e1]
  ·cases hp
 ·cases hp
theorem aro (h : Rel B0 w0 σ a w C L) {u : V} {n : Nat} (hs : slen σ u = some n) {c : Value} (hc : VR C w u c) : ∃ ad cap, c = .slice ad n cap := by
 unfold slen at hs
 split at hs
 ·cases hs; exact ⟨_, _, hc⟩
 ·cases hs; obtain ⟨F, hF, _⟩ := hc; exact KD hF
 ·rename_i k
  split at hs
  ·rename_i mu deep r xs e
   cases hs
   obtain ⟨cv, F, hφ, hF, _⟩ := h.arr e
   rw [hc.2.2 cv r.n hφ]; exact KD hF
  ·rename_i st r xs e
   cases hs
   obtain ⟨cv, hφ, hF, _⟩ := h.ab3 e
   rw [hc.2.2 cv r.n hφ]; exact KD hF
  ·cases hs
 ·rename_i k off len
  split at hs
  ·rename_i hb
   cases hs
   obtain ⟨cv, n', hφ⟩ := h.U4 hb
   obtain ⟨_, _, _, cap', _, _, a', e3, _⟩ := hc.2.2 cv n' hφ
   exact ⟨a', cap', e3⟩
  ·cases hs
 ·cases hs
theorem XY (h : Rel B0 w0 σ a w C L) : ∀ (xs : List Operand), iY C w (xs.map σ.ev) (xs.map a.eval)
 | [] => rfl
 | x :: xs => ⟨_, _, rfl, h.ev x, XY h xs⟩
theorem arp (hT : iG P Γ.ty) (h : Rel B0 w0 σ a w C L) {o : Oper} {c : Call} (ho : o.op = .call c) {v : V} (hp : lH Γ o σ = some (true, v)) : Yl P C w o a v := by
 simp only [lH, ho] at hp
 split at hp
 ·rename_i anV
  split at hp
  ·rename_i y t e1 e2
   have hy := h.ev y
   have a1 : c.args = #[y] := by rw [← Array.toList_inj, e1]
   have a2 : c.argTypes = #[t] := by rw [← Array.toList_inj, e2]
   split at hp
   ·rename_i ty s ht es
    rw [es] at hy
    have ey : a.eval y = .string s := hy.1
    split at hp
    ·rename_i hst
     have hu := (hT t ty ht).str hst
     cases hp
     exact ⟨.int .i64 s.size, fun w' => by simp [execOp, ho, resolve, anV, a1, a2, invoke, builtin, Builtin.len_, run_underlying hu, ey, goInt], rfl, rfl⟩
    ·cases hp
   ·rename_i ty ht hns
    split at hp
    ·rename_i hst
     obtain ⟨e, hu, _⟩ := (hT t ty ht).sl hst
     split at hp
     ·rename_i n hs
      cases hp
      obtain ⟨ad, cap, ey⟩ := aro h hs hy
      exact ⟨.int .i64 n, fun w' => by simp [execOp, ho, resolve, anV, a1, a2, invoke, builtin, Builtin.len_, run_underlying hu, ey, goInt], rfl, rfl⟩
     ·cases hp
    ·cases hp
   ·cases hp
  ·cases hp
 ·rename_i anV
  split at hp
  ·rename_i k p k' q e1
   have hv := XY h c.args.toList
   rw [e1] at hv
   obtain ⟨v1, vs1, g1, ⟨g2, _⟩, v2, vs2, g3, ⟨g4, _⟩, g5⟩ := hv
   simp only [iY] at g5
   subst g2; subst g4; subst g5; subst g3
   cases hp
   have e2 : (Array.map a.eval c.args).toList = [.int k p, .int k' q] := by rw [Array.toList_map]; exact g1
   refine ⟨.int k (if q < p then q else p), fun w' => ?_, rfl, rfl⟩
   simp [execOp, ho, resolve, anV, invoke, builtin, Builtin.min_]
   rw [← Array.toList_map, e2]
   simp [Builtin.min2]
  ·cases hp
 ·rename_i anV
  split at hp
  ·rename_i k p k' q e1
   have hv := XY h c.args.toList
   rw [e1] at hv
   obtain ⟨v1, vs1, g1, ⟨g2, _⟩, v2, vs2, g3, ⟨g4, _⟩, g5⟩ := hv
   simp only [iY] at g5
   subst g2; subst g4; subst g5; subst g3
   cases hp
   have e2 : (Array.map a.eval c.args).toList = [.int k p, .int k' q] := by rw [Array.toList_map]; exact g1
   refine ⟨.int k (if q > p then q else p), fun w' => ?_, rfl, rfl⟩
   simp [execOp, ho, resolve, anV, invoke, builtin, Builtin.max_]
   rw [← Array.toList_map, e2]
   simp [Builtin.max2]
  ·cases hp
 ·cases hp
theorem yl (hT : iG P Γ.ty) (h : Rel B0 w0 σ a w C L) {o : Oper} {v : V} (hp : lH Γ o σ = some (true, v)) : Yl P C w o a v := by
 cases ho : o.op with
 | move y => simp only [lH, ho] at hp; cases hp; exact ⟨_, fun w' => by simp only [execOp, ho]; rfl, h.ev y⟩
 | assign y => simp only [lH, ho] at hp; cases hp; exact ⟨_, fun w' => by simp only [execOp, ho]; rfl, h.ev y⟩
 | build t parts =>
  simp only [lH, ho] at hp
  split at hp
  ·rename_i ty ht
   split at hp
   ·rename_i hs
    split at hp
    ·rename_i cs hf
     cases hp
     exact apB hT h ho ht hs hf
    ·cases hp
   ·cases hp
  ·cases hp
 | nilCheck y =>
  have hy := h.ev y
  simp only [lH, ho] at hp
  split at hp
  ·rename_i k c e
   rw [e] at hy
   split at hp
   ·rename_i hb
    cases hp
    obtain ⟨b, g1, g2⟩ := h.pb hy hb
    exact ⟨_, fun w' => by simp only [execOp, ho, g2]; rfl, g2 ▸ hy⟩
   ·cases hp
  ·rename_i k i c e
   rw [e] at hy
   split at hp
   ·rename_i hb
    cases hp
    obtain ⟨cv, n', b, x, l, cap, g1, g2, g3, g4⟩ := h.pa hy hb
    exact ⟨_, fun w' => by simp only [execOp, ho, g4]; rfl, g4 ▸ hy⟩
   ·cases hp
  ·rename_i r d c e
   rw [e] at hy
   cases hp
   have hy' := hy
   obtain ⟨b, x, vs, F, g1, g2⟩ := hy
   exact ⟨_, fun w' => by simp only [execOp, ho, g1]; rfl, g1 ▸ hy'⟩
  ·rename_i cs c e
   rw [e] at hy
   cases hp
   have hy' := hy
   obtain ⟨b, vs, ty, g1, g2⟩ := hy
   exact ⟨_, fun w' => by simp only [execOp, ho, g1]; rfl, g1 ▸ hy'⟩
  ·cases hp
 | binOp op t y z u => exact apC hT h ho hp
 | unOp op t y =>
  have hy := h.ev y
  simp only [lH, ho] at hp
  split at hp
  ·rename_i v1 e
   rw [e] at hy
   have ey : a.eval y = v1 := hy.1
   split at hp
   ·rename_i x hb
    cases hp
    refine ⟨x, fun w' => ?_, rfl, (amY (P := P) hb default).2⟩
    simp only [execOp, ho, ey]
    exact Ef _ (amY hb w').1
   ·cases hp
  ·cases hp
 | convert u t y =>
  have hy := h.ev y
  simp only [lH, ho] at hp
  split at hp
  ·rename_i tu ty k n h1 h2 e
   rw [e] at hy
   have ey : a.eval y = .int k n := hy.1
   split at hp
   ·rename_i k' hk
    cases hp
    have hu := (hT t ty h2).int hk
    obtain ⟨d, hd, _⟩ := (hT u tu h1).und
    refine ⟨.int k' (k'.wrap n), fun w' => ?_, rfl, rfl⟩
    simp only [execOp, ho, ey]
    refine Ef _ ?_
    simp [convert, run_underlying hd, run_underlying hu, Conv.intToInt]
   ·cases hp
  ·cases hp
 | makeFunc f first caps =>
  cases f with
  | func g =>
   simp only [lH, ho] at hp
   split at hp
   ·rename_i hf
    cases hp
    have : first = #[] := by simpa using hf
    subst this
    refine ⟨.func (.func g) #[] (caps.map a.eval), fun w' => by simp [execOp, ho, Instr.makeFunc], (caps.toList.map a.eval), ?_, XY h _⟩
    congr 1
    apply Array.ext'
    simp
   ·cases hp
  | _ => simp [lH, ho] at hp
 | slice t y lo hi mx =>
  cases mx with
  | none => exact apD hT h ho hp
  | some mx => exact anU hT h ho hp
 | fieldAddr t y i => exact agx hT h ho hp
 | field t y i => exact apE hT h ho hp
 | indexAddr t y i => exact agy hT h ho hp
 | index t y i => exact apF hT h ho hp
 | extract y i =>
  have hy := h.ev y
  simp only [lH, ho] at hp
  split at hp
  ·rename_i vs e
   rw [e] at hy
   obtain ⟨cs, ey, hc⟩ := hy
   split at hp
   ·rename_i u hu
    cases hp
    obtain ⟨cv, g1, g2⟩ := hc.get hu
    exact ⟨cv, fun w' => by simp [execOp, ho, ey, Instr.extract, g1], g2⟩
   ·cases hp
  ·cases hp
 | call c => exact arp hT h ho hp
 | _ => simp [lH, ho] at hp
end
end Go.Ev
end
section
set_option linter.unusedVariables false
namespace Go.Ev
open Go.RowKit
theorem L8.vr {C : Cx} {w : World} {e : Bool} : (c : Cc) → {d : c.T} → {v : Value} → {F : List Nat} → L8 w e c d v F → (∀ b ∈ F, C.N b) → VR C w (c.cell .no d) v
 | .int k, _, _, _, ⟨h1, _⟩, _ => ⟨h1, rfl⟩
 | .bool, _, _, _, ⟨h1, _⟩, _ => ⟨h1, rfl⟩
 | .str, _, _, _, ⟨h1, _⟩, _ => ⟨h1, rfl⟩
 | .sl r, d, v, F, h, hN => ⟨F, L8.imp (e' := true) (fun h => by cases h) (.sl r) h (fun _ _ => rfl), hN⟩
theorem gK.vs {C : Cx} {w : World} {e : Bool} : (r : Rw) → {d : r.T} → {vs : List Value} → {F : List Nat} → gK w e r d vs F → (∀ b ∈ F, C.N b) → iY C w (r.cells .no d) vs
 | .one c, _, _, _, ⟨v, h1, h2⟩, hN => ⟨v, [], h1, L8.vr c h2 hN, rfl⟩
 | .cons c r, _, _, _, ⟨v, vs', F1, F2, h1, h2, h3, h4⟩, hN => ⟨v, vs', h1, L8.vr c h3 (fun b hb => hN b (by rw [h2]; simp [hb])), gK.vs r h4 (fun b hb => hN b (by rw [h2]; simp [hb]))⟩
theorem gK.len {w : World} {e : Bool} : (r : Rw) → {d : r.T} → {vs : List Value} → {F : List Nat} → gK w e r d vs F → vs.length = r.n
 | .one c, _, _, _, ⟨v, h1, h2⟩ => by rw [h1]; rfl
 | .cons c r, _, _, _, ⟨v, vs', F1, F2, h1, h2, h3, h4⟩ => by rw [h1]; simp [Rw.n, gK.len r h4]
theorem Rw.agz {o : Ow} : (r : Rw) → {d : r.T} → {c : Nat} → {u : V} → (r.cells o d)[c]? = some u → (∀ o' r' xs, u = .l o' r' xs → r.aiJ c = true) ∧ c < r.n
 | .one cc, d, c, u, h => by
  cases c with
  | zero =>
   simp only [Rw.cells, List.getElem?_cons_zero, Option.some.injEq] at h
   subst h
   refine ⟨fun o' r' xs hx => ?_, by simp [Rw.n]⟩
   cases cc <;> simp [Cc.cell] at hx
   rfl
  | succ c => simp [Rw.cells] at h
 | .cons cc r, d, c, u, h => by
  cases c with
  | zero =>
   simp only [Rw.cells, List.getElem?_cons_zero, Option.some.injEq] at h
   subst h
   refine ⟨fun o' r' xs hx => ?_, by simp [Rw.n]⟩
   cases cc <;> simp [Cc.cell] at hx
   rfl
  | succ c =>
   simp only [Rw.cells, List.getElem?_cons_succ] at h
   obtain ⟨h1, h2⟩ := Rw.agz r h
   exact ⟨fun o' r' xs hx => h1 o' r' xs hx, by simp [Rw.n]; omega⟩
theorem Rw.amZ {o : Ow} : (r : Rw) → {d : r.T} → {c : Nat} → {o' : Ow} → {r' : Rw} → {ys : List r'.T} → (r.cells o d)[c]? = some (.l o' r' ys) → o' = o
 | .one cc, d, c, o', r', ys, h => by
  cases c with
  | zero =>
   simp only [Rw.cells, List.getElem?_cons_zero, Option.some.injEq] at h
   cases cc <;> simp only [Cc.cell, reduceCtorEq] at h
   injection h with h1 _ _
   exact h1.symm
  | succ c => simp [Rw.cells] at h
 | .cons cc r, d, c, o', r', ys, h => by
  cases c with
  | zero =>
   simp only [Rw.cells, List.getElem?_cons_zero, Option.some.injEq] at h
   cases cc <;> simp only [Cc.cell, reduceCtorEq] at h
   injection h with h1 _ _
   exact h1.symm
  | succ c =>
   simp only [Rw.cells, List.getElem?_cons_succ] at h
   exact Rw.amZ r h
theorem gK.sc {w : World} {e : Bool} : (r : Rw) → {d : r.T} → {vs : List Value} → {F : List Nat} → gK w e r d vs F → ∀ {c : Nat} {o : Ow} {v : Value}, (r.cells o d)[c]? = some (.s v) → vs[c]? = some v ∧ v.oneCell' = true
 | .one cc, d, vs, F, ⟨u, h1, h2⟩, c, o, v, hc => by
  cases c with
  | zero =>
   simp only [Rw.cells, List.getElem?_cons_zero, Option.some.injEq] at hc
   subst h1
   cases cc <;> simp only [Cc.cell, V.s.injEq, reduceCtorEq] at hc <;> (subst hc; obtain ⟨rfl, _⟩ := h2; exact ⟨rfl, rfl⟩)
  | succ c => simp [Rw.cells] at hc
 | .cons cc r, d, vs, F, ⟨u, vs', F1, F2, h1, h2, h3, h4⟩, c, o, v, hc => by
  subst h1
  cases c with
  | zero =>
   simp only [Rw.cells, List.getElem?_cons_zero, Option.some.injEq] at hc
   cases cc <;> simp only [Cc.cell, V.s.injEq, reduceCtorEq] at hc <;> (subst hc; obtain ⟨rfl, _⟩ := h3; exact ⟨rfl, rfl⟩)
  | succ c =>
   simp only [Rw.cells, List.getElem?_cons_succ] at hc
   exact gK.sc r h4 hc
section
variable {P : Program} {Γ : Env} {B0 : Nat} {w0 : World} {σ : St} {a : Act} {w : World} {C : Cx} {L : Nat → List Nat}
theorem jU {t : TypeId} {ty : Ty} (ht : TK P t ty) {b o : Nat} {us : List Value} {w' : World} (hl : us.length = ty.n) (hc : ∀ j v, us[j]? = some v → w'.cell? ⟨b, o + j, none⟩ = some v)
  {cs : List V} (hv : iY C w cs us) {u : V} (hm : mk ty.agg cs = some u) : ∃ cv, (Instr.loadAt t (.pointer (some ⟨b, o, none⟩))).run P w' = .ok cv w' ∧ VR C w u cv ∧ cv = (if ty.agg then .agg ⟨us⟩ else us.headD undef) := by
 obtain ⟨d, hu, _, hg⟩ := ht.und
 obtain ⟨i, z, hi, hn, _⟩ := ht.info
 unfold mk at hm
 cases e : ty.agg with
 | true =>
  rw [e, if_pos rfl] at hm
  obtain rfl := Option.some.inj hm
  refine ⟨.agg ⟨us⟩, ?_, ⟨us, rfl, hv⟩, by simp⟩
  have h1 := run_loadCells_list (P := P) w' ⟨b, o, none⟩ us (fun j v hj => by rw [JO]; exact hc j v hj)
  rw [hl] at h1
  simp [Instr.loadAt, Instr.sureAddr, loadVar, ab2 hu, ← hg, e, yu hi, hn, h1]
 | false =>
  rw [e, if_neg (by simp)] at hm
  split at hm
  ·rename_i v
   obtain rfl := Option.some.inj hm
   obtain ⟨cv, us', g1, g2, g3⟩ := hv
   simp only [iY] at g3
   subst g3; subst g1
   refine ⟨cv, ?_, g2, by simp⟩
   have this : w'.cell? ⟨b, o, none⟩ = some cv := hc 0 cv rfl
   simp [Instr.loadAt, Instr.sureAddr, loadVar, ab2 hu, ← hg, e, this]
  ·cases hm
theorem ld (hT : iG P Γ.ty) (h : Rel B0 w0 σ a w C L) {o : Oper} {v : V} (hp : afI Γ o σ = some v) :
  ∃ cv b, VR C w v cv ∧ (C.N b ∨ ∃ k, (σ.obj k).mu = true ∧ (L k).head? = some b ∧ ∃ t p, o.op = .load t p ∧ ((∃ c, σ.ev p = .pb k c) ∨ ∃ i c, σ.ev p = .pa k i c)) ∧ ∀ w', w'.heap[b]? = w.heap[b]? → (execOp a.eval o).run P w' = .ok (.value cv) w' := by
 unfold afI at hp
 split at hp
 ·rename_i t p ho
  have hy := h.ev p
  split at hp
  ·cases hp
  ·rename_i ty ht
   have hk := hT t ty ht
   split at hp
   ·rename_i k c ep
    rw [ep] at hy
    split at hp
    ·rename_i cs eo
     split at hp
     ·rename_i hlen
      obtain ⟨b, vs, ty0, hφ, hL, hb, hcs⟩ := h.box eo
      have ey := hy.2.2 b hφ
      have hl := hcs.length
      have hvs := (hcs.drop c).take ty.n
      have key : ∀ w' : World, w'.heap[b]? = w.heap[b]? → ∀ j v, ((vs.drop c).take ty.n)[j]? = some v → w'.cell? ⟨b, c + j, none⟩ = some v := by
       intro w' hw j v hj
       rw [World.cell?_of_block (w := w) (a := ⟨b, c + j, none⟩) hw]
       rw [List.getElem?_take] at hj
       split at hj
       ·rw [List.getElem?_drop] at hj
        simp [World.cell?, hb, hj]
       ·cases hj
      obtain ⟨cv, g1, g2, g3⟩ := jU (P := P) hk (b := b) (o := c) (w' := w) (by simp; omega) (key w rfl) hvs hp
      refine ⟨cv, b, g2, .inr ⟨k, by rw [eo]; rfl, by rw [hL]; rfl, t, p, ho, .inl ⟨c, ep⟩⟩, fun w' hw => ?_⟩
      obtain ⟨cv', k1, _, k3⟩ := jU (P := P) hk (b := b) (o := c) (w' := w') (by simp; omega) (key w' hw) hvs hp
      rw [← g3] at k3
      subst k3
      simp only [execOp, ho, ey]
      exact Ef _ k1
     ·cases hp
    ·cases hp
   ·rename_i k i c ep
    rw [ep] at hy
    split at hp
    ·rename_i mu deep r xs eo
     split at hp
     ·rename_i hlen
      obtain ⟨cv0, F, hφ, hF, hN, hO⟩ := h.arr eo
      obtain ⟨b, x, l, cap, e1, e2, ey⟩ := hy.2.2 cv0 r.n hφ
      rcases hF with ⟨h5, _, ad, cap', h6, _⟩ | ⟨b', x', cap', F', h5, h6, rfl, h7, h8, h9⟩
      ·rw [e1] at h6; injection h6 with _ e6 _; omega
      ·rw [e1] at h5
       injection h5 with e3 e4 e5
       injection e3 with e3
       injection e3 with e3 e6
       subst e3; subst e4; subst e5; subst e6
       obtain ⟨vs, F1, g1, g2, g3, g4⟩ := h9.get (List.getElem?_eq_getElem e2)
       have hd : xs.getD i r.dflt = xs[i] := by rw [List.getD_eq_getElem?_getD, List.getElem?_eq_getElem e2]; rfl
       rw [hd] at hp
       have hvs := ((gK.vs (C := C) r g4 (fun b hb => hN b (by simpa using g1 b hb))).drop c).take ty.n
       have key : ∀ w' : World, w'.heap[b]? = w.heap[b]? → ∀ j v, ((vs.drop c).take ty.n)[j]? = some v → w'.cell? ⟨b, x + i * r.n + c + j, none⟩ = some v := by
        intro w' hw j v hj
        rw [World.cell?_of_block (w := w) (a := ⟨b, x + i * r.n + c + j, none⟩) hw]
        rw [List.getElem?_take] at hj
        split at hj
        ·rw [List.getElem?_drop] at hj
         have := g3 _ _ hj
         rwa [← Nat.add_assoc] at this
        ·cases hj
       have hl2 := gK.len r g4
       obtain ⟨cv, k1, k2, k3⟩ := jU (P := P) hk (b := b) (o := x + i * r.n + c) (w' := w) (by simp; omega) (key w rfl) hvs hp
       refine ⟨cv, b, k2, ?_, fun w' hw => ?_⟩
       ·cases mu with
        | true =>
         refine .inr ⟨k, by rw [eo]; rfl, ?_, t, p, ho, .inr ⟨i, c, ep⟩⟩
         rw [if_pos rfl] at hO
         split at hO <;> rw [hO] <;> rfl
        | false =>
         rw [if_neg (by simp)] at hO
         exact .inl (hO.2 b (by simp))
       ·obtain ⟨cv', q1, _, q3⟩ := jU (P := P) hk (b := b) (o := x + i * r.n + c) (w' := w') (by simp; omega) (key w' hw) hvs hp
        rw [← k3] at q3
        subst q3
        simp only [execOp, ho, ey]
        exact Ef _ q1
     ·cases hp
    ·rename_i st r xs eo
     split at hp
     ·rename_i hn1
      split at hp
      ·cases hp
      ·rename_i hag
       have hag' : ty.agg = false := by simpa using hag
       obtain ⟨cv0, hφ, hF, hHs⟩ := h.ab3 eo
       obtain ⟨b, x, l, cap, e1, e2, ey⟩ := hy.2.2 cv0 r.n hφ
       rcases hF with ⟨h5, _, ad, cap', h6, _⟩ | ⟨b', x', cap', F', h5, h6, hLk, h7, h8, h9⟩
       ·rw [e1] at h6; injection h6 with _ e6 _; omega
       ·rw [e1] at h5
        injection h5 with e3 e4 e5
        injection e3 with e3
        injection e3 with e3 e6
        subst e3; subst e4; subst e5; subst e6
        obtain ⟨vs, F1, g1, g2, g3, g4⟩ := h9.get (List.getElem?_eq_getElem e2)
        have hd : xs.getD i r.dflt = xs[i] := by rw [List.getD_eq_getElem?_getD, List.getElem?_eq_getElem e2]; rfl
        rw [hd] at hp
        have fin : ∀ {u : V} {cu : Value}, vs[c]? = some cu → VR C w u cu → ∃ cv bb, VR C w u cv ∧ (C.N bb ∨ ∃ k, (σ.obj k).mu = true ∧ (L k).head? = some bb ∧ ∃ t p, o.op = .load t p ∧ ((∃ c, σ.ev p = .pb k c) ∨ ∃ i c, σ.ev p = .pa k i c)) ∧ ∀ w', w'.heap[bb]? = w.heap[bb]? → (execOp a.eval o).run P w' = .ok (.value cv) w' := by
         intro u cu hcu hu
         refine ⟨cu, b, hu, .inr ⟨k, by rw [eo]; rfl, by rw [hLk]; rfl, t, p, ho, .inr ⟨i, c, ep⟩⟩, fun w' hw => ?_⟩
         have hcell : w'.cell? ⟨b, x + i * r.n + c, none⟩ = some cu := by
          rw [World.cell?_of_block (w := w) (a := ⟨b, x + i * r.n + c, none⟩) hw]
          exact g3 _ _ hcu
         obtain ⟨cv, q1, _, q3⟩ := jU (P := P) hk (b := b) (o := x + i * r.n + c) (us := [cu]) (w' := w') (by simp [hn1]) (fun j v hj => by
          cases j with
          | zero => simp at hj; subst hj; exact hcell
          | succ j => simp at hj) (cs := [u]) (C := C) (w := w) ⟨cu, [], rfl, hu, rfl⟩ (u := u) (by rw [hag']; rfl)
         rw [hag'] at q3
         have q3' : cv = cu := q3
         subst q3'
         simp only [execOp, ho, ey]
         exact Ef _ q1
        split at hp
        ·rename_i v hcs
         cases hp
         obtain ⟨k1, k2⟩ := gK.sc r g4 hcs
         exact fin k1 ⟨rfl, k2⟩
        ·rename_i o' r' ys hcs
         split at hp
         ·rename_i hst
          cases hp
          obtain ⟨f, hf, hH⟩ := hHs hst
          have hcl := (Rw.agz r hcs)
          obtain ⟨cu, hcu⟩ : ∃ cu, vs[c]? = some cu := ⟨_, List.getElem?_eq_getElem (by rw [gK.len r g4]; exact hcl.2)⟩
          have hm := hH b x _ _ e1 i c e2 (hcl.1 _ _ _ rfl)
          have arq := g3 _ _ hcu
          rw [hm] at arq
          have hone : cu.oneCell' = true := by
           have hvs := gK.vs (C := ⟨fun _ => none, fun _ => False, fun _ => True, fun _ => none⟩) r g4 (fun _ _ => trivial)
           obtain ⟨cu2, z1, z2⟩ := hvs.get (i := c) (u := .l .no r' ys) (by
            have : (r.cells .no xs[i])[c]? = some (.l o' r' ys) := hcs
            rw [this]
            have ho' : o' = .no := Rw.amZ r this
            rw [ho'])
           rw [hcu] at z1
           cases z1
           obtain ⟨F, hF, _⟩ := z2
           rcases hF with ⟨_, _, a', cap'', rfl, _⟩ | ⟨_, _, _, _, rfl, _⟩ <;> rfl
          exact fin hcu ⟨hy.1, hone, fun f' hf' => by rw [hf] at hf'; cases hf'; injection arq with arq; exact arq.symm⟩
         ·cases hp
        ·cases hp
     ·cases hp
    ·cases hp
   ·rename_i cs c ep
    rw [ep] at hy
    obtain ⟨b, vs, ty0, ey, hNb, hb, hcs⟩ := hy
    split at hp
    ·rename_i hlen
     have hl := hcs.length
     have hvs := (hcs.drop c).take ty.n
     have key : ∀ w' : World, w'.heap[b]? = w.heap[b]? → ∀ j v, ((vs.drop c).take ty.n)[j]? = some v → w'.cell? ⟨b, c + j, none⟩ = some v := by
      intro w' hw j v hj
      rw [World.cell?_of_block (w := w) (a := ⟨b, c + j, none⟩) hw]
      rw [List.getElem?_take] at hj
      split at hj
      ·rw [List.getElem?_drop] at hj
       simp [World.cell?, hb, hj]
      ·cases hj
     obtain ⟨cv, g1, g2, g3⟩ := jU (P := P) hk (b := b) (o := c) (w' := w) (by simp; omega) (key w rfl) hvs hp
     refine ⟨cv, b, g2, .inl hNb, fun w' hw => ?_⟩
     obtain ⟨cv', k1, _, k3⟩ := jU (P := P) hk (b := b) (o := c) (w' := w') (by simp; omega) (key w' hw) hvs hp
     rw [← g3] at k3
     subst k3
     simp only [execOp, ho, ey]
     exact Ef _ k1
    ·cases hp
   ·rename_i r d c ep
    rw [ep] at hy
    obtain ⟨b, x, vs, F, ey, hNb, hl, hcell, hR, hN⟩ := hy
    split at hp
    ·rename_i hlen
     have hvs := ((gK.vs (C := C) r hR hN).drop c).take ty.n
     have key : ∀ w' : World, w'.heap[b]? = w.heap[b]? → ∀ j v, ((vs.drop c).take ty.n)[j]? = some v → w'.cell? ⟨b, x + c + j, none⟩ = some v := by
      intro w' hw j v hj
      rw [World.cell?_of_block (w := w) (a := ⟨b, x + c + j, none⟩) hw]
      rw [List.getElem?_take] at hj
      split at hj
      ·rw [List.getElem?_drop] at hj
       have := hcell _ _ hj
       rwa [← Nat.add_assoc] at this
      ·cases hj
     obtain ⟨cv, k1, k2, k3⟩ := jU (P := P) hk (b := b) (o := x + c) (w' := w) (by simp; omega) (key w rfl) hvs hp
     refine ⟨cv, b, k2, .inl hNb, fun w' hw => ?_⟩
     obtain ⟨cv', q1, _, q3⟩ := jU (P := P) hk (b := b) (o := x + c) (w' := w') (by simp; omega) (key w' hw) hvs hp
     rw [← k3] at q3
     subst q3
     simp only [execOp, ho, ey]
     exact Ef _ q1
    ·cases hp
   ·cases hp
 ·cases hp
def agA (I : Nat → World → Prop) (Γ : Env) : Prop := ∀ B0 w0, I B0 w0 → ∀ g r (xs : List r.T), Γ.glob g = some ⟨r, xs⟩ → g < B0 ∧
 ∀ (i : Nat) (d : r.T), xs[i]? = some d → ∃ vs : List Value, vs.length = r.n ∧ (∀ (j : Nat) (v : Value), vs[j]? = some v → w0.cell? ⟨g, i * r.n + j, none⟩ = some v) ∧ ∀ C w, iY C w (r.cells .no d) vs
theorem agB {t e : TypeId} {len : Nat} (hu : P.underlying t = some (.array len e)) {i : TypeInfo} (hi : P.info? e = some i) {ad : Addr} {k : IntKind} {n : Int} (h0 : 0 ≤ n) (h1 : n < len) (w' : World) :
  (Instr.indexAt t (.pointer (some ad)) (.int k n)).run P w' = .ok (.pointer (some (ad.add (n.toNat * i.size)))) w' := by
 simp [Instr.indexAt, asIntOf, run_underlying hu, h0, h1, yu hi, Instr.sureAddr]
theorem glb {I : Nat → World → Prop} (hT : iG P Γ.ty) (hI : I B0 w0) (hG : agA I Γ) (h : Rel B0 w0 σ a w C L) {o : Oper} {v : V} (hp : amX Γ o σ = some (true, v)) :
  ∃ cv, VR C w v cv ∧ ((∃ t y i, o.op = .indexAddr t y i ∧ ∀ w', (execOp a.eval o).run P w' = .ok (.value cv) w') ∨
   (∃ t p, o.op = .load t p ∧ ∃ blk, blk < B0 ∧ ∀ w', w'.heap[blk]? = w.heap[blk]? → (execOp a.eval o).run P w' = .ok (.value cv) w')) := by
 unfold amX at hp
 split at hp
 ·rename_i t y i ho
  split at hp
  ·rename_i ty g n ht ey hn
   have hy := h.ev y
   rw [ey] at hy
   obtain ⟨kk, ei⟩ := XV hn (h.ev i)
   split at hp
   ·rename_i len m hd
    simp only [Option.some.injEq, Prod.mk.injEq, Bool.and_eq_true, decide_eq_true_eq] at hp
    obtain ⟨⟨h0, h1⟩, rfl⟩ := hp
    obtain ⟨e, j, hu, hj, hm⟩ := (hT t ty ht).arr hd
    refine ⟨.pointer (some ⟨g, n.toNat * m, none⟩), rfl, .inl ⟨t, y, i, ho, fun w' => ?_⟩⟩
    have := agB hu hj (ad := ⟨g, 0, none⟩) (k := kk) h0 h1 w'
    rw [hm, JO, Nat.zero_add] at this
    have hy' : a.eval y = .pointer (some ⟨g, 0, none⟩) := hy
    simp [execOp, ho, ei, hy', this]
   ·cases hp
  ·cases hp
 ·rename_i t p ho
  split at hp
  ·rename_i ty g m i ht ep
   have hy := h.ev p
   rw [ep] at hy
   have hy' : a.eval p = .pointer (some ⟨g, i * m, none⟩) := hy
   split at hp
   ·rename_i r xs hg
    split at hp
    ·rename_i hn
     split at hp
     ·rename_i u hu
      simp only [Option.some.injEq, Prod.mk.injEq] at hp
      obtain ⟨hlt, rfl⟩ := hp
      have hlt' : i < xs.length := by simpa [Nat.blt_eq] using hlt
      obtain ⟨hgB, hcells⟩ := hG B0 w0 hI g r xs hg
      obtain ⟨vs, k1, k2, k3⟩ := hcells i xs[i] (List.getElem?_eq_getElem hlt')
      rw [show xs.getD i r.dflt = xs[i] by rw [List.getD_eq_getElem?_getD, List.getElem?_eq_getElem hlt']; rfl] at hu
      have key : ∀ w' : World, w'.heap[g]? = w.heap[g]? → ∀ j v, vs[j]? = some v → w'.cell? ⟨g, i * m + j, none⟩ = some v := by
       intro w' hw j v hj
       rw [World.cell?_of_block (w := w) (a := ⟨g, i * m + j, none⟩) hw]
       rw [World.cell?_of_block (w := w0) (a := ⟨g, i * m + j, none⟩) (h.below.block g hgB)]
       have := k2 j v hj
       rwa [hn.1] at this
      obtain ⟨cv, g1, g2, g3⟩ := jU (P := P) (hT t ty ht) (b := g) (o := i * m) (w' := w) (by rw [k1, hn.1, hn.2]) (key w rfl) (k3 C w) hu
      refine ⟨cv, g2, .inr ⟨t, p, ho, g, hgB, fun w' hw => ?_⟩⟩
      obtain ⟨cv', q1, _, q3⟩ := jU (P := P) (hT t ty ht) (b := g) (o := i * m) (w' := w') (by rw [k1, hn.1, hn.2]) (key w' hw) (k3 C w) hu
      rw [← g3] at q3
      subst q3
      simp only [execOp, ho, hy']
      exact Ef _ q1
     ·cases hp
    ·cases hp
   ·cases hp
  ·cases hp
 ·cases hp
end
end Go.Ev
end
section
set_option linter.unusedVariables false
namespace Go.Ev
open Go.RowKit
theorem ObR.le {C C' : Cx} {w w' : World} (hl : C.Le w C' w') {k : Nat} {e : E} {O : List Nat} (h : ObR C w k e O) (hφ : C'.φ k = C.φ k) (hhs : C'.hs k = C.hs k) (hb : ∀ b ∈ O, w'.heap[b]? = w.heap[b]?) : ObR C' w' k e O := by
 cases e with
 | no => exact h
 | box cs =>
  obtain ⟨b, vs, ty, h1, h2, h3, h4⟩ := h
  exact ⟨b, vs, ty, hφ.trans h1, h2, (hb b (by rw [h2]; simp)).trans h3, h4.le hl⟩
 | arr mu deep r xs =>
  obtain ⟨cv, F, h1, h2, h3, h4⟩ := h
  have hF : ∀ b ∈ F, w'.heap[b]? = w.heap[b]? := by
   intro b hb'
   cases F with
   | nil => cases hb'
   | cons f F =>
    rcases List.mem_cons.1 hb' with rfl | hb'
    ·cases mu with
     | true =>
      rw [if_pos rfl] at h4
      split at h4 <;> exact hb _ (by rw [h4]; simp)
     | false =>
      rw [if_neg (by simp)] at h4
      exact hl.w _ (h4.2 _ (by simp))
    ·exact hl.w _ (h3 _ (by simpa using hb'))
  refine ⟨cv, F, hφ.trans h1, h2.imp (fun h => h) hF (fun x vs F' hk hR => gK.imp (fun h => h) r hR (fun b hb' => hF b (hk b hb'))), fun b hb' => hl.N b (h3 b hb'), ?_⟩
  split
  ·rename_i hm; rw [if_pos hm] at h4; exact h4
  ·rename_i hm; rw [if_neg hm] at h4; exact ⟨h4.1, fun b hb' => hl.N b (h4.2 b hb')⟩
 | own st r xs =>
  obtain ⟨cv, h1, h2, h3⟩ := h
  refine ⟨cv, hφ.trans h1, h2.imp (fun h => h) hb (fun x vs F' hk hR => gK.imp (fun h => h) r hR (fun b hb' => hb b (hk b hb'))), fun hst => ?_⟩
  obtain ⟨f, g1, g2⟩ := h3 hst
  refine ⟨f, hhs.trans g1, fun b o L' cap e i j hi hj => ?_⟩
  have hbO : b ∈ O := by
   rcases h2 with ⟨h5, _⟩ | ⟨b', o', cap', F', h5, _, h6, _⟩
   ·subst h5; exact absurd hi (Nat.not_lt_zero _)
   ·rw [e] at h5
    injection h5 with h5
    injection h5 with h5
    injection h5 with h5
    rw [h6, h5]; simp
  exact (World.cell?_of_block (w := w) (a := ⟨b, o + i * r.n + j, none⟩) (hb b hbO)).trans (g2 b o L' cap e i j hi hj)
section
variable {P : Program} {Γ : Env} {B0 : Nat} {w0 : World} {σ : St} {a : Act} {w : World} {C : Cx} {L : Nat → List Nat}
theorem Rel.freeze (h : Rel B0 w0 σ a w C L) {k : Nat} {mu deep : Bool} {r : Rw} {xs : List r.T} (e : σ.obj k = .arr mu deep r xs) :
  ∃ C' L', Rel B0 w0 (σ.Jf k (.arr false deep r xs)) a w C' L' ∧ C.Le w C' w ∧ C'.U = C.U ∧ C'.φ = C.φ ∧ (∀ j, j ≠ k → L' j = L j) ∧ L' k = [] ∧
   ∃ cv F, C.φ k = some (.arr cv r.n) ∧ rY (gK w (!(mu && deep)) r) w (!mu) r.n xs cv F ∧ (∀ b ∈ F, C'.N b) ∧ ((mu && deep) = true → F = L k) ∧ (∀ x, C'.N x → C.N x ∨ x ∈ L k) := by
 obtain ⟨cv, F, hφ, hF, hN, hO⟩ := h.arr e
 let C' : Cx := { C with N := fun b => C.N b ∨ b ∈ F }
 let L' : Nat → List Nat := fun j => if j = k then [] else L j
 have hle : C.Le w C' w := ⟨fun _ _ _ h => h, fun _ h => h, fun _ h => .inl h, fun _ _ => rfl, fun _ _ _ h => h⟩
 have ars : ∀ b ∈ F, b < w.heap.size := by
  intro b hb
  rcases hF with ⟨_, h2, _⟩ | ⟨b', x, cap, F', h1, h2, h3, h4, h5, h6⟩
  ·rw [h2] at hb; cases hb
  ·rw [h3] at hb
   rcases List.mem_cons.1 hb with rfl | hb
   ·exact h4
   ·exact h.CS b (hN b (by rw [h3]; simpa using hb))
 refine ⟨C', L', ?_, hle, rfl, rfl, fun j hj => by simp [L', hj], by simp [L'], cv, F, hφ, hF, fun b hb => .inr hb, fun hmd => ?_, fun x hx => ?_⟩
 ·refine { below := h.below, hB0 := h.hB0, defers := h.defers, len := h.len, tm := fun i v hv => ?_, ob := fun j => ?_, us := h.us, nd := fun j => ?_, dj := fun j j' hj b hb => ?_, own := fun j b hb => ?_, nw := fun j b hwr => ?_, CS := fun b hb => ?_ }
  ·obtain ⟨c, h1, h2⟩ := h.tm i v hv
   exact ⟨c, h1, h2.le hle⟩
  ·show ObR C' w j ((σ.ob.put k _).get j) (L' j)
   rw [dO.get_put]
   by_cases hj : j = k
   ·subst hj
    rw [if_pos rfl]
    refine ⟨cv, F, hφ, hF.imp (fun h => by simp at h) (fun _ _ => rfl) (fun x vs F' hk hR => gK.imp (fun h => by simp at h) r hR (fun _ _ => rfl)), fun b hb => .inr (List.mem_of_mem_drop hb), ?_⟩
    rw [if_neg (by simp)]
    exact ⟨by simp [L'], fun b hb => .inr hb⟩
   ·rw [if_neg hj]
    have := (h.ob j).le hle rfl rfl (fun _ _ => rfl)
    show ObR C' w j (σ.obj j) (L' j)
    simpa [L', hj] using this
  ·by_cases hj : j = k
   ·simp [L', hj]
   ·simpa [L', hj] using h.nd j
  ·by_cases h1 : j = k
   ·simp [L', h1] at hb
   ·by_cases h2 : j' = k
    ·simp [L', h2]
    ·simp only [L', h1, h2, if_false] at hb ⊢
     exact h.dj j j' hj b hb
  ·by_cases hj : j = k
   ·simp [L', hj] at hb
   ·simp only [L', hj, if_false] at hb; exact h.own j b hb
  ·have hb0 := hwr.mem
   by_cases hj : j = k
   ·simp [L', hj] at hb0
   ·simp only [L', hj, if_false] at hb0
    have hg : (σ.Jf k (.arr false deep r xs)).obj j = σ.obj j := by
     show (σ.ob.put k _).get j = _
     rw [dO.get_put, if_neg hj]; rfl
    rw [hg, show L' j = L j by simp [L', hj]] at hwr
    have hbL : b ∈ L j := hb0
    rintro (hN' | hF')
    ·exact h.nw j b hwr hN'
    ·cases mu with
     | true =>
      rw [if_pos rfl] at hO
      cases hFe : F with
      | nil => rw [hFe] at hF'; cases hF'
      | cons f F1 =>
       rw [hFe] at hF'
       rcases List.mem_cons.1 hF' with rfl | hF'
       ·refine h.dj j k hj b hbL ?_
        split at hO <;> rw [hO, hFe] <;> simp
       ·exact h.nw j b hwr (hN b (by rw [hFe]; simpa using hF'))
     | false =>
      rw [if_neg (by simp)] at hO
      exact h.nw j b hwr (hO.2 b hF')
  ·rcases hb with hb | hb
   ·exact h.CS b hb
   ·exact ars b hb
 ·simp only [Bool.and_eq_true] at hmd
  rw [if_pos hmd.1, if_pos hmd.2] at hO
  exact hO.symm
 ·rcases hx with hx | hx
  ·exact .inl hx
  ·cases mu with
   | true =>
    rw [if_pos rfl] at hO
    cases deep with
    | true => rw [if_pos rfl] at hO; exact .inr (by rw [hO]; exact hx)
    | false =>
     rw [if_neg (by simp)] at hO
     cases hFe : F with
     | nil => rw [hFe] at hx; cases hx
     | cons f F1 =>
      rw [hFe] at hx
      rcases List.mem_cons.1 hx with rfl | hx
      ·exact .inr (by rw [hO, hFe]; simp)
      ·exact .inl (hN x (by rw [hFe]; simpa using hx))
   | false =>
    rw [if_neg (by simp)] at hO
    exact .inl (hO.2 x hx)
structure L9 (w : World) (C : Cx) (L : Nat → List Nat) (T : List Nat) (C' : Cx) (L' : Nat → List Nat) : Prop where
 hd : ∀ k x, x ∈ L' k → ¬ C'.N x → x ∈ L k ∨ w.heap.size ≤ x ∨ ∃ j ∈ T, x ∈ L j
 ow : ∀ k x, x ∈ L' k → (∃ j, x ∈ L j) ∨ w.heap.size ≤ x
 nn : ∀ x, C'.N x → C.N x ∨ (∃ j, x ∈ L j) ∨ w.heap.size ≤ x
theorem L9.same {w : World} {C : Cx} {L : Nat → List Nat} {T : List Nat} {C' : Cx} {L' : Nat → List Nat} (hL : ∀ k, L' k = L k ∨ L' k = []) (hN : ∀ x, C'.N x → C.N x ∨ ∃ j, x ∈ L j) : L9 w C L T C' L' :=
 by
 refine ⟨fun k x hx _ => ?_, fun k x hx => ?_, fun x hx => (hN x hx).imp id .inl⟩
 ·rcases hL k with h | h
  ·rw [h] at hx; exact .inl hx
  ·rw [h] at hx; cases hx
 ·rcases hL k with h | h
  ·rw [h] at hx; exact .inl ⟨k, hx⟩
  ·rw [h] at hx; cases hx
theorem L9.refl (w : World) (C : Cx) (L : Nat → List Nat) (T : List Nat) : L9 w C L T C L := L9.same (fun _ => .inl rfl) (fun _ h => .inl h)
theorem L9.trans {w w' : World} {C C' C2 : Cx} {L L' L2 : Nat → List Nat} {T : List Nat} (hw : w.heap.size ≤ w'.heap.size) (h : L9 w C L T C' L') (h' : L9 w' C' L' [] C2 L2) (hN : ∀ x, C'.N x → C2.N x) : L9 w C L T C2 L2 :=
 by
 refine ⟨fun k x hx hn => ?_, fun k x hx => ?_, fun x hx => ?_⟩
 ·rcases h'.hd k x hx hn with h1 | h1 | ⟨j, hj, _⟩
  ·exact h.hd k x h1 (fun h2 => hn (hN x h2))
  ·exact .inr (.inl (Nat.le_trans hw h1))
  ·cases hj
 ·rcases h'.ow k x hx with ⟨j, h1⟩ | h1
  ·exact h.ow j x h1
  ·exact .inr (Nat.le_trans hw h1)
 ·rcases h'.nn x hx with h1 | ⟨j, h1⟩ | h1
  ·exact h.nn x h1
  ·exact .inr (h.ow j x h1)
  ·exact .inr (.inr (Nat.le_trans hw h1))
structure FD (B0 : Nat) (w0 : World) (σ : St) (a : Act) (w : World) (C : Cx) (L : Nat → List Nat) (ob' : dO) (p : Bool) (F : List Nat) (C' : Cx) (L' : Nat → List Nat) : Prop where
 rel : Rel B0 w0 { σ with ob := ob' } a w C' L'
 le : C.Le w C' w
 U : C'.U = C.U
 φ : C'.φ = C.φ
 sub : ∀ k, ∀ b ∈ L' k, b ∈ L k
 N : ∀ b ∈ F, C'.N b
 nd : p = true → F.Nodup
 from_ : p = true → ∀ b ∈ F, ∃ k, b ∈ L k
 off : p = true → ∀ b ∈ F, ∀ k, b ∉ L' k
 mus : ∀ k, (St.obj { σ with ob := ob' } k).mu = true → σ.obj k = St.obj { σ with ob := ob' } k ∧ L' k = L k
 boxes : ∀ k cs, σ.obj k = .box cs → St.obj { σ with ob := ob' } k = .box cs
 eqn : ∀ k, L' k = L k ∨ L' k = []
 nn : ∀ x, C'.N x → C.N x ∨ ∃ j, x ∈ L j
theorem FD.org {ob' : dO} {p : Bool} {F : List Nat} {C' : Cx} {L' : Nat → List Nat} (h : FD B0 w0 σ a w C L ob' p F C' L') (T : List Nat) : L9 w C L T C' L' := L9.same h.eqn h.nn
theorem FD.refl (h : Rel B0 w0 σ a w C L) (p : Bool) : FD B0 w0 σ a w C L σ.ob p [] C L :=
 ⟨h, Cx.Le.refl C w, rfl, rfl, fun _ _ h => h, fun _ h => (nomatch h), fun _ => List.nodup_nil, fun _ _ h => (nomatch h), fun _ _ h => (nomatch h), fun _ _ => ⟨rfl, rfl⟩, fun _ _ h => h, fun _ => .inl rfl, fun _ h => .inl h⟩
theorem rY.loose {w : World} {e e' : Bool} {r : Rw} {xs : List r.T} {v : Value} {F : List Nat} (h : rY (gK w e r) w e' r.n xs v F) : rY (gK w true r) w true r.n xs v F :=
 h.imp (fun h => by cases h) (fun _ _ => rfl) (fun x vs F' hk hR => gK.imp (e := e) (e' := true) (fun h => by cases h) r hR (fun _ _ => rfl))
theorem Rel.XZ (h : Rel B0 w0 σ a w C L) {k : Nat} {st : Bool} {r : Rw} {xs : List r.T} (e : σ.obj k = .own st r xs) :
  ∃ C' L', Rel B0 w0 (σ.Jf k (.arr false true r xs)) a w C' L' ∧ C.Le w C' w ∧ C'.U = C.U ∧ C'.φ = C.φ ∧ (∀ j, j ≠ k → L' j = L j) ∧ L' k = [] ∧ (∀ x, C'.N x → C.N x ∨ x ∈ L k) := by
 obtain ⟨cv, hφ, hF, _⟩ := h.ab3 e
 let C' : Cx := { C with N := fun b => C.N b ∨ b ∈ L k }
 let L' : Nat → List Nat := fun j => if j = k then [] else L j
 have hle : C.Le w C' w := ⟨fun _ _ _ h => h, fun _ h => h, fun _ h => .inl h, fun _ _ => rfl, fun _ _ _ h => h⟩
 refine ⟨C', L', ?_, hle, rfl, rfl, fun j hj => by simp [L', hj], by simp [L'], fun x hx => hx⟩
 refine { below := h.below, hB0 := h.hB0, defers := h.defers, len := h.len, tm := fun i v hv => ?_, ob := fun j => ?_, us := h.us, nd := fun j => ?_, dj := fun j j' hj b hb => ?_, own := fun j b hb => ?_, nw := fun j b hwr => ?_, CS := fun b hb => ?_ }
 ·obtain ⟨c, h1, h2⟩ := h.tm i v hv
  exact ⟨c, h1, h2.le hle⟩
 ·show ObR C' w j ((σ.ob.put k _).get j) (L' j)
  rw [dO.get_put]
  by_cases hj : j = k
  ·subst hj
   rw [if_pos rfl]
   refine ⟨cv, L j, hφ, hF.loose, fun b hb => .inr (List.mem_of_mem_drop hb), ?_⟩
   rw [if_neg (by simp)]
   exact ⟨by simp [L'], fun b hb => .inr hb⟩
  ·rw [if_neg hj]
   have := (h.ob j).le hle rfl rfl (fun _ _ => rfl)
   show ObR C' w j (σ.obj j) (L' j)
   simpa [L', hj] using this
 ·by_cases hj : j = k
  ·simp [L', hj]
  ·simpa [L', hj] using h.nd j
 ·by_cases h1 : j = k
  ·simp [L', h1] at hb
  ·by_cases h2 : j' = k
   ·simp [L', h2]
   ·simp only [L', h1, h2, if_false] at hb ⊢
    exact h.dj j j' hj b hb
 ·by_cases hj : j = k
  ·simp [L', hj] at hb
  ·simp only [L', hj, if_false] at hb; exact h.own j b hb
 ·have hb0 := hwr.mem
  by_cases hj : j = k
  ·simp [L', hj] at hb0
  ·simp only [L', hj, if_false] at hb0
   have hg : (σ.Jf k (.arr false true r xs)).obj j = σ.obj j := by
    show (σ.ob.put k _).get j = _
    rw [dO.get_put, if_neg hj]; rfl
   rw [hg, show L' j = L j by simp [L', hj]] at hwr
   rintro (hN' | hF')
   ·exact h.nw j b hwr hN'
   ·exact h.dj j k hj b hb0 hF'
 ·rcases hb with hb | hb
  ·exact h.CS b hb
  ·exact (h.own k b hb).2
theorem FD.freeze (h : Rel B0 w0 σ a w C L) {k : Nat} {mu deep : Bool} {r : Rw} {xs : List r.T} (e : σ.obj k = .arr mu deep r xs) (p : Bool) (hp : p = true → (mu && deep) = true) :
  ∃ cv F C' L', C.φ k = some (.arr cv r.n) ∧ rY (gK w (!(mu && deep)) r) w (!mu) r.n xs cv F ∧ FD B0 w0 σ a w C L (σ.ob.put k (.arr false deep r xs)) p F C' L' := by
 obtain ⟨C', L', h1, h2, h3, h4, h5, h6, cv, F, h7, h8, h9, h10, h11⟩ := h.freeze e
 refine ⟨cv, F, C', L', h7, h8, h1, h2, h3, h4, fun j b hb => ?_, h9, fun hp' => ?_, fun hp' b hb => ?_, fun hp' b hb j hj => ?_, fun j hm => ?_, fun j cs hj => ?_, fun j => ?_, fun x hx => (h11 x hx).imp id (fun h => ⟨k, h⟩)⟩
 ·by_cases hj : j = k
  ·subst hj; rw [h6] at hb; cases hb
  ·rw [h5 j hj] at hb; exact hb
 ·rw [h10 (hp hp')]; exact h.nd k
 ·exact ⟨k, by rw [← h10 (hp hp')]; exact hb⟩
 ·by_cases hjk : j = k
  ·subst hjk; rw [h6] at hj; cases hj
  ·rw [h5 j hjk] at hj
   rw [h10 (hp hp')] at hb
   exact h.dj k j (Ne.symm hjk) b hb hj
 ·have hg : St.obj { σ with ob := σ.ob.put k (.arr false deep r xs) } j = if j = k then .arr false deep r xs else σ.obj j := by
   show (σ.ob.put k _).get j = _
   rw [dO.get_put]; rfl
  rw [hg] at hm ⊢
  by_cases hjk : j = k
  ·rw [if_pos hjk] at hm; simp [E.mu] at hm
  ·rw [if_neg hjk]; exact ⟨rfl, h5 j hjk⟩
 ·show (σ.ob.put k _).get j = _
  rw [dO.get_put, if_neg (fun hjk => by subst hjk; rw [e] at hj; cases hj)]; exact hj
 ·by_cases hjk : j = k
  ·subst hjk; exact .inr h6
  ·exact .inl (h5 j hjk)
theorem FD.trans {kN zV : dO} {p1 p2 : Bool} {F1 F2 : List Nat} {C1 C2 : Cx} {L1 L2 : Nat → List Nat} (h1 : FD B0 w0 σ a w C L kN p1 F1 C1 L1) (h2 : FD B0 w0 { σ with ob := kN } a w C1 L1 zV p2 F2 C2 L2) :
  FD B0 w0 σ a w C L zV (p1 && p2) (F1 ++ F2) C2 L2 := by
 refine ⟨h2.rel, h1.le.trans h2.le, h2.U.trans h1.U, h2.φ.trans h1.φ, fun k b hb => h1.sub k b (h2.sub k b hb), fun b hb => ?_, fun hp => ?_, fun hp b hb => ?_, fun hp b hb k hk => ?_, fun k hm => ?_, fun k cs hk => h2.boxes k cs (h1.boxes k cs hk), fun k => ?_, fun x hx => ?_⟩
 ·rcases List.mem_append.1 hb with hb | hb
  ·exact h2.le.N b (h1.N b hb)
  ·exact h2.N b hb
 ·simp only [Bool.and_eq_true] at hp
  rw [List.nodup_append]
  refine ⟨h1.nd hp.1, h2.nd hp.2, fun b hb b' hb' e => ?_⟩
  subst e
  obtain ⟨k, hk⟩ := h2.from_ hp.2 b hb'
  exact h1.off hp.1 b hb k hk
 ·simp only [Bool.and_eq_true] at hp
  rcases List.mem_append.1 hb with hb | hb
  ·exact h1.from_ hp.1 b hb
  ·obtain ⟨k, hk⟩ := h2.from_ hp.2 b hb
   exact ⟨k, h1.sub k b hk⟩
 ·simp only [Bool.and_eq_true] at hp
  rcases List.mem_append.1 hb with hb | hb
  ·exact h1.off hp.1 b hb k (h2.sub k b hk)
  ·exact h2.off hp.2 b hb k hk
 ·obtain ⟨e1, e2⟩ := h2.mus k hm
  rw [← e1] at hm
  obtain ⟨e3, e4⟩ := h1.mus k hm
  exact ⟨e3.trans e1, e2.trans e4⟩
 ·rcases h2.eqn k with h | h
  ·rw [h]; exact h1.eqn k
  ·exact .inr h
 ·rcases h2.nn x hx with h | ⟨j, h⟩
  ·exact h1.nn x h
  ·exact .inr ⟨j, h1.sub j x h⟩
theorem Cc.Mc (h : Rel B0 w0 σ a w C L) : (c : Cc) → {u : V} → {cv : Value} → VR C w u cv → {d : c.T} → {p : Bool} → {ob' : dO} → c.give u σ.ob = some (d, p, ob') →
  ∃ F C' L', L8 w (!p) c d cv F ∧ FD B0 w0 σ a w C L ob' p F C' L'
 | .int k, u, cv, hv, d, p, ob', hg => by
  cases u with
  | s v =>
   cases v with
   | int k' n =>
    simp only [Cc.give] at hg
    split at hg
    ·rename_i hk
     subst hk
     cases hg
     exact ⟨[], C, L, ⟨hv.1, rfl⟩, FD.refl h _⟩
    ·cases hg
   | _ => simp [Cc.give] at hg
  | _ => simp [Cc.give] at hg
 | .bool, u, cv, hv, d, p, ob', hg => by
  cases u with
  | s v =>
   cases v with
   | bool b => simp only [Cc.give] at hg; cases hg; exact ⟨[], C, L, ⟨hv.1, rfl⟩, FD.refl h _⟩
   | _ => simp [Cc.give] at hg
  | _ => simp [Cc.give] at hg
 | .str, u, cv, hv, d, p, ob', hg => by
  cases u with
  | s v =>
   cases v with
   | string b => simp only [Cc.give] at hg; cases hg; exact ⟨[], C, L, ⟨hv.1, rfl⟩, FD.refl h _⟩
   | _ => simp [Cc.give] at hg
  | _ => simp [Cc.give] at hg
 | .sl r, u, cv, hv, d, p, ob', hg => by
  cases u with
  | nl =>
   simp only [Cc.give] at hg; cases hg
   exact ⟨[], C, L, .inl ⟨rfl, rfl, none, 0, hv, fun _ => ⟨rfl, rfl⟩⟩, FD.refl h _⟩
  | l o r' xs =>
   simp only [Cc.give] at hg
   split at hg
   ·rename_i hr
    subst hr
    cases hg
    obtain ⟨F, hF, hN⟩ := hv
    exact ⟨F, C, L, hF, h, Cx.Le.refl C w, rfl, rfl, fun _ _ h => h, hN, fun h => (nomatch h), fun h => (nomatch h), fun h => (nomatch h), fun _ _ => ⟨rfl, rfl⟩, fun _ _ h => h, fun _ => .inl rfl, fun _ h => .inl h⟩
   ·cases hg
  | w k =>
   simp only [Cc.give] at hg
   split at hg
   ·rename_i mu deep r' xs e
    split at hg
    ·rename_i hr
     subst hr
     cases hg
     obtain ⟨cv', F, C', L', h1, h2, h3⟩ := FD.freeze h e (mu && deep) (fun h => h)
     refine ⟨F, C', L', ?_, h3⟩
     rw [hv.2.2 cv' _ h1]
     cases hmd : (mu && deep) with
     | true =>
      have hm : mu = true := by cases mu <;> simp_all
      rw [hmd, hm] at h2
      exact h2
     | false => exact h2.loose
    ·cases hg
   ·cases hg
  | r k off len =>
   simp only [Cc.give] at hg
   split at hg
   ·rename_i mu deep r' xs e
    split at hg
    ·rename_i hr
     subst hr
     cases hg
     obtain ⟨cv', F, C', L', h1, h2, h3⟩ := FD.freeze h e false (fun h => (nomatch h))
     obtain ⟨ad, l, cap, cap', e1, e2, a', e3, e4⟩ := hv.2.2 cv' _ h1
     subst e1
     have h2' := h2.loose
     by_cases hz : len = 0
     ·refine ⟨[], C', L', .inl ⟨by simp [hz], rfl, a', cap', by rw [e3, hz], fun h => (nomatch h)⟩, ?_⟩
      exact { h3 with N := fun _ h => (nomatch h), nd := fun h => (nomatch h), from_ := fun h => (nomatch h), off := fun h => (nomatch h) }
     ·obtain ⟨b, x, g1, g2, g3⟩ := e4 hz
      rcases h2' with ⟨h5, _, ad', cap'', h6, _⟩ | ⟨b', x', cap'', F', h5, h6, h7, h8, h9, h10⟩
      ·subst h5; injection h6 with _ e6 _; omega
      ·injection h5 with q1 q2 q3
       rw [g1] at q1
       injection q1 with q1
       injection q1 with q1 q4
       subst q1; subst q4; subst q3
       obtain ⟨F1, k1, k2⟩ := h10.drop off (by omega)
       obtain ⟨F2, k3, k4⟩ := k2.take len
       have hlen : ((xs.drop off).take len).length = len := by simp; omega
       refine ⟨b :: F2, C', L', .inr ⟨b, x + off * r'.n, cap', F2, by rw [e3, g2, hlen], by rw [hlen]; omega, rfl, h8, fun h => (nomatch h), k4⟩, ?_⟩
       have hNN : ∀ j ∈ b :: F2, C'.N j := by
        intro j hj
        rcases List.mem_cons.1 hj with rfl | hj
        ·exact h3.N _ (by rw [h7]; simp)
        ·exact h3.N _ (by rw [h7]; exact List.mem_cons_of_mem _ (k1 _ (k3 _ hj)))
       exact { h3 with N := hNN, nd := fun h => (nomatch h), from_ := fun h => (nomatch h), off := fun h => (nomatch h) }
    ·cases hg
   ·cases hg
  | _ => simp [Cc.give] at hg
theorem Rw.Mc : (r : Rw) → {σ : St} → {C : Cx} → {L : Nat → List Nat} → (h : Rel B0 w0 σ a w C L) → {us : List V} → {EM : List Value} → iY C w us EM → {d : r.T} → {p : Bool} → {ob' : dO} → r.give us σ.ob = some (d, p, ob') →
  ∃ F C' L', gK w (!p) r d EM F ∧ FD B0 w0 σ a w C L ob' p F C' L'
 | .one c, σ, C, L, h, us, EM, hv, d, p, ob', hg => by
  cases us with
  | nil => simp [Rw.give] at hg
  | cons u us =>
   cases us with
   | nil =>
    simp only [Rw.give] at hg
    obtain ⟨v, vs', h1, h2, h3⟩ := hv
    simp only [iY] at h3
    subst h3
    obtain ⟨F, C', L', g1, g2⟩ := Cc.Mc h c h2 hg
    exact ⟨F, C', L', ⟨v, h1, g1⟩, g2⟩
   | cons _ _ => simp [Rw.give] at hg
 | .cons c r, σ, C, L, h, us, EM, hv, d, p, ob', hg => by
  cases us with
  | nil => simp [Rw.give] at hg
  | cons u us =>
   simp only [Rw.give] at hg
   obtain ⟨v, vs', h1, h2, h3⟩ := hv
   split at hg
   ·rename_i d1 p1 kN e1
    split at hg
    ·rename_i ds p2 zV e2
     cases hg
     obtain ⟨F1, C1, L1, g1, g2⟩ := Cc.Mc h c h2 e1
     obtain ⟨F2, C2, L2, g3, g4⟩ := Rw.Mc r g2.rel (h3.le g2.le) e2
     refine ⟨F1 ++ F2, C2, L2, ⟨v, vs', F1, F2, h1, rfl, ?_, ?_⟩, g2.trans g4⟩
     ·exact L8.imp (by cases p1 <;> cases p2 <;> simp) c g1 (fun _ _ => rfl)
     ·exact gK.imp (by cases p1 <;> cases p2 <;> simp) r g3 (fun _ _ => rfl)
    ·cases hg
   ·cases hg
end
end Go.Ev
end
section
set_option linter.unusedVariables false
namespace Go.Ev
open Go.RowKit
def Cx.add (C : Cx) (b : Nat) (p : Pl) (f : Option (Nat → Nat → Value) := none) : Cx := { φ := fun k => if k = b then some p else C.φ k, U := fun k => C.U k ∨ k = b, N := C.N, hs := fun k => if k = b then f else C.hs k }
theorem Cx.alq {C : Cx} {b : Nat} (hb : ¬ C.U b) (p : Pl) (f : Option (Nat → Nat → Value)) {w w1 : World} (hw : ∀ x, C.N x → w1.heap[x]? = w.heap[x]?) : C.Le w (C.add b p f) w1 :=
 ⟨fun k q hu hq => by
   have : k ≠ b := fun e => hb (e ▸ hu)
   simpa [Cx.add, this] using hq, fun _ h => .inl h, fun _ h => h, hw, fun k q hu hq => by
   have : k ≠ b := fun e => hb (e ▸ hu)
   simpa [Cx.add, this] using hq⟩
section
variable {P : Program} {Γ : Env} {B0 : Nat} {w0 : World} {σ : St} {a : Act} {w : World} {C : Cx} {L : Nat → List Nat}
theorem Rel.newObj (h : Rel B0 w0 σ a w C L) {b : Nat} (hb : ¬ C.U b) {w1 : World} (hsz : w.heap.size ≤ w1.heap.size) (hold : ∀ k, k < w.heap.size → w1.heap[k]? = w.heap[k]?) (hbel : Below B0 w0 w1)
  {e : E} {p : Pl} {f : Option (Nat → Nat → Value)} {O : List Nat} (hO : ObR (C.add b p f) w1 b e O) (hown : ∀ x ∈ O, B0 ≤ x ∧ x < w1.heap.size) (hnd : O.Nodup) (hdj : ∀ k, ∀ x ∈ O, x ∉ L k) (hnm : ∀ x, wr e O x → ¬ C.N x) :
  Rel B0 w0 (σ.Jf b e) a w1 (C.add b p f) (fun k => if k = b then O else L k) ∧ C.Le w (C.add b p f) w1 := by
 have hle : C.Le w (C.add b p f) w1 := Cx.alq hb p f (fun x hx => hold x (h.CS x hx))
 refine ⟨?_, hle⟩
 refine { below := hbel, hB0 := Nat.le_trans h.hB0 hsz, defers := h.defers, len := h.len, tm := fun i v hv => ?_, ob := fun j => ?_, us := fun k hk => ?_, nd := fun j => ?_, dj := fun j j' hj x hx => ?_, own := fun j x hx => ?_, nw := fun j x hwr => ?_, CS := fun x hx => Nat.lt_of_lt_of_le (h.CS x hx) hsz }
 ·obtain ⟨c, h1, h2⟩ := h.tm i v hv
  exact ⟨c, h1, h2.le hle⟩
 ·show ObR _ w1 j ((σ.ob.put b e).get j) _
  rw [dO.get_put]
  by_cases hj : j = b
  ·subst hj; simpa using hO
  ·rw [if_neg hj, if_neg hj]
   exact (h.ob j).le hle (by simp [Cx.add, hj]) (by simp [Cx.add, hj]) (fun x hx => hold x (h.own j x hx).2)
 ·by_cases hj : k = b
  ·exact .inr hj
  ·exact .inl (h.us k (by simpa [Cx.add, hj] using hk))
 ·by_cases hj : j = b
  ·simpa [hj] using hnd
  ·simpa [hj] using h.nd j
 ·by_cases h1 : j = b
  ·subst h1
   have h2 : j' ≠ j := Ne.symm hj
   simp only [if_true, h2, if_false] at hx ⊢
   exact hdj j' x hx
  ·by_cases h2 : j' = b
   ·subst h2
    simp only [h1, if_false, if_true] at hx ⊢
    exact fun hx' => hdj j x hx' hx
   ·simp only [h1, h2, if_false] at hx ⊢
    exact h.dj j j' hj x hx
 ·by_cases hj : j = b
  ·subst hj; simp only [if_true] at hx; exact hown x hx
  ·simp only [hj, if_false] at hx
   exact ⟨(h.own j x hx).1, Nat.lt_of_lt_of_le (h.own j x hx).2 hsz⟩
 ·have hg : (σ.Jf b e).obj j = if j = b then e else σ.obj j := by
   show (σ.ob.put b e).get j = _
   rw [dO.get_put]; rfl
  rw [hg] at hwr
  by_cases hj : j = b
  ·subst hj
   simp only [if_true] at hwr
   exact hnm x hwr
  ·simp only [hj, if_false] at hwr
   exact h.nw j x hwr
theorem L9.add {w : World} {C : Cx} {L : Nat → List Nat} {T : List Nat} {C1 : Cx} {L1 : Nat → List Nat} {b : Nat} {O : List Nat} (h : L9 w C L T C1 L1) {C' : Cx} (hC : ∀ x, C'.N x ↔ C1.N x) (h1 : ∀ x ∈ O, ¬ C'.N x → w.heap.size ≤ x ∨ ∃ j ∈ T, x ∈ L j)
  (h2 : ∀ x ∈ O, (∃ j, x ∈ L j) ∨ w.heap.size ≤ x) : L9 w C L T C' (fun k => if k = b then O else L1 k) := by
 refine ⟨fun k x hx hn => ?_, fun k x hx => ?_, fun x hx => h.nn x ((hC x).1 hx)⟩
 ·by_cases hk : k = b
  ·simp only [hk, if_true] at hx; exact .inr (h1 x hx hn)
  ·simp only [hk, if_false] at hx; exact h.hd k x hx (fun h2 => hn ((hC x).2 h2))
 ·by_cases hk : k = b
  ·simp only [hk, if_true] at hx; exact h2 x hx
  ·simp only [hk, if_false] at hx; exact h.ow k x hx
theorem L9.wid {w : World} {C : Cx} {L : Nat → List Nat} {T : List Nat} {C1 : Cx} {L1 : Nat → List Nat} (h : L9 w C L [] C1 L1) : L9 w C L T C1 L1 :=
 ⟨fun k x hx hn => (h.hd k x hx hn).imp id (fun h => h.imp id (fun ⟨_, hj, _⟩ => (nomatch hj))), h.ow, h.nn⟩
structure U3 (ld : Ld) (B0 : Nat) (w0 : World) (o : Oper) (σ : St) (w : World) (C : Cx) (L : Nat → List Nat) (b : Nat) (K : St → Option aj) (r : aj) (a' : Act) (w' : World) : Prop where
 ex : ∃ σ' C' L', K σ' = some r ∧ Rel B0 w0 σ' a' w' C' L' ∧ C.Le w C' w' ∧ (∀ k, C'.U k → C.U k ∨ (b ≤ k ∧ k < b + 256)) ∧ σ'.nx = σ.nx ∧ σ'.tm.length = σ.tm.length ∧ σ'.io = σ.io ∧ L9 w C L (touched ld o σ) C' L'
 fr : ∀ x, x < w.heap.size → (C.N x ∨ ∀ k ∈ touched ld o σ, x ∉ L k) → w'.heap[x]? = w.heap[x]?
 sz : w.heap.size ≤ w'.heap.size
theorem gQ (σ : St) (d : Option Tmp) (v : V) : (σ.put d v).tm.length = σ.tm.length := by cases d <;> simp [St.put]
theorem kT (σ : St) (d : Option Tmp) (v : V) : (σ.put d v).io = σ.io := by cases d <;> rfl
theorem jV (σ : St) (d : Option Tmp) (v : V) : (σ.put d v).nx = σ.nx := by cases d <;> rfl
theorem ug {o : Oper} {a : Act} {w w' : World} {next : Act → World → Prop} {Q : Exit → Act → World → Prop} {c : Value} (h : (execOp a.eval o).run P w = .ok (.value c) w') (hn : next (a.put o.dst c) w') : o.wp P a w next Q := by
 unfold Oper.wp; rw [h]; exact hn
theorem Vd {o : Oper} {a : Act} {w w' : World} {next : Act → World → Prop} {Q : Exit → Act → World → Prop} (h : (execOp a.eval o).run P w = .ok .skip w') (hn : next (a.put o.dst undef) w') : o.wp P a w next Q := by
 unfold Oper.wp; rw [h]; exact hn
theorem alloc_old (w : World) (o : Obj) (k : Nat) (h : k < w.heap.size) : (w.alloc o).heap[k]? = w.heap[k]? := Below.heap_alloc w o k h
theorem CZ (w : World) (o : Obj) : (w.alloc o).heap[w.heap.size]? = some o := by show (w.heap.push o)[w.heap.size]? = _; simp
theorem dZ (w : World) (o : Obj) : (w.alloc o).heap.size = w.heap.size + 1 := by show (w.heap.push o).size = _; simp
theorem Rel.apG (h : Rel B0 w0 σ a w C L) {b : Nat} (hb : ¬ C.U b) {cs : List V} {vs : List Value} (hv : iY C w cs vs) (ty : TypeId) :
  ∃ C' L', Rel B0 w0 (σ.Jf b (.box cs)) a (w.alloc (.cells ⟨vs⟩ ty (0, 0))) C' L' ∧ C.Le w C' (w.alloc (.cells ⟨vs⟩ ty (0, 0))) ∧ (∀ k, C'.U k → C.U k ∨ k = b) ∧ C'.φ b = some (.box w.heap.size) ∧ C'.U b ∧ L9 w C L [] C' L' := by
 have hold := fun k hk => alloc_old w (.cells ⟨vs⟩ ty (0, 0)) k hk
 have hle : C.Le w (C.add b (.box w.heap.size)) (w.alloc (.cells ⟨vs⟩ ty (0, 0))) := Cx.alq hb _ _ (fun x hx => hold x (h.CS x hx))
 obtain ⟨h1, h2⟩ := h.newObj hb (f := none) (w1 := w.alloc (.cells ⟨vs⟩ ty (0, 0))) (by rw [dZ]; omega) hold (h.below.alloc h.hB0 _) (e := .box cs) (p := .box w.heap.size) (O := [w.heap.size])
  ⟨w.heap.size, vs, ty, by simp [Cx.add], rfl, CZ w _, hv.le hle⟩ (by simp [h.hB0]) (by simp) (fun k x hx hk => by simp at hx; subst hx; exact Nat.lt_irrefl _ (h.own k _ hk).2)
  (fun x hx => by have hx := hx.mem; simp at hx; subst hx; exact fun hn => Nat.lt_irrefl _ (h.CS _ hn))
 exact ⟨_, _, h1, h2, fun k hk => hk, by simp [Cx.add], .inr rfl, L9.add (L9.refl w C L []) (fun _ => Iff.rfl) (fun x hx _ => by simp at hx; exact .inl (by omega)) (fun x hx => by simp at hx; exact .inr (by omega))⟩
theorem anW (hT : iG P Γ.ty) (h : Rel B0 w0 σ a w C L) {o : Oper} {t : TypeId} (ho : o.op = .alloc t) {b : Nat} (hb : ∀ k, b ≤ k → k < b + 256 → ¬ C.U k) {K : St → Option aj} {r : aj} (hp : effect Γ b o σ K = some r) {Q : Exit → Act → World → Prop} :
  o.wp P a w (U3 Γ.lend B0 w0 o σ w C L b K r) Q := by
 simp only [effect, ho] at hp
 split at hp
 ·rename_i ty ht
  obtain ⟨i, z, h1, h2, h3, h4, h5⟩ := (hT t ty ht).info
  obtain ⟨C', L', g1, g2, g3, g4, g5, g6⟩ := h.apG (hb b (Nat.le_refl _) (by omega)) (h4 C w) t
  refine ug (c := .pointer (some ⟨w.heap.size, 0, none⟩)) (w' := w.alloc (.cells z.cells t (0, 0))) ?_ ⟨⟨_, C', L', hp, g1.put o.dst ?_, g2, fun k hk => ?_, jV .., gQ .., kT .., g6.wid⟩, fun x hx _ => alloc_old w _ x hx, by rw [dZ]; exact Nat.le_succ _⟩
  ·simp [execOp, ho, Instr.alloc, agv h1 h3, newVar, newRow]
  ·exact ⟨g5, rfl, fun b' hb' => by rw [g4] at hb'; cases hb'; rfl⟩
  ·rcases g3 k hk with h | rfl
   ·exact .inl h
   ·exact .inr ⟨Nat.le_refl _, by omega⟩
 ·cases hp
theorem aru (h : Rel B0 w0 σ a w C L) {o : Oper} {t : TypeId} {y : Operand} (ho : o.op = .box t y) {b : Nat} (hb : ∀ k, b ≤ k → k < b + 256 → ¬ C.U k) {K : St → Option aj} {r : aj} (hp : effect Γ b o σ K = some r) {Q : Exit → Act → World → Prop} :
  o.wp P a w (U3 Γ.lend B0 w0 o σ w C L b K r) Q := by
 simp only [effect, ho] at hp
 split at hp
 ·cases hp
 ·rename_i vs hvs
  obtain ⟨k1, k2⟩ := (h.ev y).wX hvs
  obtain ⟨C', L', g1, g2, g3, g4, g5, g6⟩ := h.apG (hb b (Nat.le_refl _) (by omega)) k1 t
  refine ug (c := .pointer (some ⟨w.heap.size, 0, none⟩)) (w' := w.alloc (.cells ⟨(a.eval y).cells.toList⟩ t (0, 0))) ?_ ⟨⟨_, C', L', hp, g1.put o.dst ?_, g2, fun k hk => ?_, jV .., gQ .., kT .., g6.wid⟩, fun x hx _ => alloc_old w _ x hx, by rw [dZ]; exact Nat.le_succ _⟩
  ·simp [execOp, ho, Instr.box, newVar, newRow]
  ·exact ⟨g5, rfl, fun b' hb' => by rw [g4] at hb'; cases hb'; rfl⟩
  ·rcases g3 k hk with h | rfl
   ·exact .inl h
   ·exact .inr ⟨Nat.le_refl _, by omega⟩
theorem Rel.apH (h : Rel B0 w0 σ a w C L) {b : Nat} (hb : ¬ C.U b) {w1 : World} {c : Array Value} {e : TypeId} (hw1 : w1.heap = w.heap.push (.cells c e (0, 0))) (hbel : Below B0 w0 w1) {deep : Bool} {r : Rw} {xs : List r.T} {n cap : Nat} {F : List Nat}
  (hn : n = xs.length) (hcap : n ≤ cap) (hsz : cap * r.n ≤ c.size) (hrow : ∀ w2 : World, w2.heap[w.heap.size]? = some (.cells c e (0, 0)) → (∀ k, k < w.heap.size → w2.heap[k]? = w.heap[k]?) → gJ (gK w2 (!deep) r) w2 r.n w.heap.size xs 0 F)
  (hN : ∀ x ∈ F, C.N x) (hF : deep = true → F.Nodup ∧ (∀ x ∈ F, B0 ≤ x) ∧ ∀ k, ∀ x ∈ F, x ∉ L k) :
  ∃ C' L', Rel B0 w0 (σ.Jf b (.arr true deep r xs)) a w1 C' L' ∧ C.Le w C' w1 ∧ (∀ k, C'.U k → C.U k ∨ k = b) ∧ C'.φ b = some (.arr (.slice (some ⟨w.heap.size, 0, none⟩) n cap) r.n) ∧ C'.U b ∧ ∀ {w2 : World} {C0 : Cx} {L0 : Nat → List Nat}, w2.heap.size = w.heap.size → L9 w2 C0 L0 [] C L → (∀ x ∈ F, deep = true → ∃ j, x ∈ L0 j) → L9 w2 C0 L0 [] C' L' := by
 subst hn
 have hold : ∀ k, k < w.heap.size → w1.heap[k]? = w.heap[k]? := fun k hk => by rw [hw1, Array.getElem?_push, if_neg (by omega)]
 have hnew : w1.heap[w.heap.size]? = some (.cells c e (0, 0)) := by rw [hw1]; simp
 have hs1 : w1.heap.size = w.heap.size + 1 := by rw [hw1]; simp
 have ars : ∀ x ∈ F, x < w.heap.size := fun x hx => h.CS x (hN x hx)
 let O : List Nat := if deep then w.heap.size :: F else [w.heap.size]
 have hO : ∀ x ∈ O, x = w.heap.size ∨ (deep = true ∧ x ∈ F) := by
  intro x hx
  cases deep with
  | true => simp only [O, if_true] at hx; rcases List.mem_cons.1 hx with hx | hx; exact .inl hx; exact .inr ⟨rfl, hx⟩
  | false => simp [O] at hx; exact .inl hx
 obtain ⟨h1, h2⟩ := h.newObj hb (f := none) (w1 := w1) (by omega) hold hbel (e := .arr true deep r xs) (p := .arr (.slice (some ⟨w.heap.size, 0, none⟩) xs.length cap) r.n) (O := O)
  ⟨_, w.heap.size :: F, by simp [Cx.add], .inr ⟨w.heap.size, 0, cap, F, rfl, hcap, rfl, by omega, fun _ => ⟨c, e, hnew, by omega⟩, by simpa using hrow w1 hnew hold⟩, fun x hx => hN x (by simpa using hx), by
   rw [if_pos rfl]; cases deep <;> simp [O]⟩
  (fun x hx => by rcases hO x hx with rfl | ⟨hd, hx⟩; exact ⟨h.hB0, by omega⟩; exact ⟨(hF hd).2.1 x hx, by have := ars x hx; omega⟩)
  (by
   cases deep with
   | true => simp only [O, if_true]; exact List.nodup_cons.2 ⟨fun hx => Nat.lt_irrefl _ (ars _ hx), (hF rfl).1⟩
   | false => simp [O])
  (fun k x hx hk => by rcases hO x hx with rfl | ⟨hd, hx⟩; exact Nat.lt_irrefl _ (h.own k _ hk).2; exact (hF hd).2.2 k x hx hk)
  (fun x hx hn' => by
   have hx := hx.2
   have : x = w.heap.size := by cases deep <;> simp [O] at hx <;> exact hx.symm
   subst this
   exact Nat.lt_irrefl _ (h.CS _ hn'))
 refine ⟨_, _, h1, h2, fun k hk => hk, by simp [Cx.add], .inr rfl, fun {w2 C0 L0} hs2 hO2 hF2 => L9.add hO2 (fun _ => Iff.rfl) (fun x hx hn => ?_) (fun x hx => ?_)⟩
 ·rcases hO x hx with h | ⟨h, hx⟩
  ·exact .inl (by omega)
  ·exact absurd (hN x hx) hn
 ·rcases hO x hx with h | ⟨h, hx⟩
  ·exact .inr (by omega)
  ·exact .inl (hF2 x hx h)
end
end Go.Ev
end
section
set_option linter.unusedVariables false
namespace Go.Ev
open Go.RowKit
def iO {δ : Type} (R : δ → List Value → List Nat → Prop) (n : Nat) : List δ → List Value → List Nat → Prop
 | [], vs, F => vs = [] ∧ F = []
 | x :: xs, vs, F => ∃ v1 v2 F1 F2, vs = v1 ++ v2 ∧ F = F1 ++ F2 ∧ v1.length = n ∧ R x v1 F1 ∧ iO R n xs v2 F2
theorem iO.len {δ : Type} {R : δ → List Value → List Nat → Prop} {n : Nat} : {xs : List δ} → {vs : List Value} → {F : List Nat} → iO R n xs vs F → vs.length = xs.length * n
 | [], _, _, h => by rw [h.1]; simp
 | x :: xs, _, _, ⟨v1, v2, F1, F2, h1, h2, h3, h4, h5⟩ => by rw [h1, List.length_append, h3, iO.len h5, List.length_cons, Nat.add_mul]; omega
theorem iO.append {δ : Type} {R : δ → List Value → List Nat → Prop} {n : Nat} : {xs : List δ} → {vs : List Value} → {F : List Nat} → iO R n xs vs F → {ys : List δ} → {us : List Value} → {G : List Nat} → iO R n ys us G → iO R n (xs ++ ys) (vs ++ us) (F ++ G)
 | [], _, _, h, ys, us, G, h' => by rw [h.1, h.2]; exact h'
 | x :: xs, _, _, ⟨v1, v2, F1, F2, h1, h2, h3, h4, h5⟩, ys, us, G, h' => ⟨v1, v2 ++ us, F1, F2 ++ G, by rw [h1, List.append_assoc], by rw [h2, List.append_assoc], h3, h4, iO.append h5 h'⟩
theorem iO.imp {δ : Type} {R R' : δ → List Value → List Nat → Prop} {n : Nat} : {xs : List δ} → {vs : List Value} → {F : List Nat} → iO R n xs vs F → (∀ x vs F', (∀ k ∈ F', k ∈ F) → R x vs F' → R' x vs F') → iO R' n xs vs F
 | [], _, _, h, _ => h
 | x :: xs, _, _, ⟨v1, v2, F1, F2, h1, h2, h3, h4, h5⟩, hi => ⟨v1, v2, F1, F2, h1, h2, h3, hi _ _ _ (fun k hk => by rw [h2]; simp [hk]) h4, iO.imp h5 (fun x vs F' hk => hi x vs F' (fun k h => by rw [h2]; simp [hk k h]))⟩
theorem iO.rows {δ : Type} {R : δ → List Value → List Nat → Prop} {w : World} {n b : Nat} : {xs : List δ} → {vs : List Value} → {F : List Nat} → iO R n xs vs F → ∀ {o : Nat}, (∀ q v, vs[q]? = some v → w.cell? ⟨b, o + q, none⟩ = some v) → gJ R w n b xs o F
 | [], _, _, h, _, _ => h.2
 | x :: xs, _, _, ⟨v1, v2, F1, F2, h1, h2, h3, h4, h5⟩, o, hc => ⟨v1, F1, F2, h2, h3, fun j v hj => hc j v (by
   have hlt : j < v1.length := by
    rcases Nat.lt_or_ge j v1.length with h | h
    ·exact h
    ·rw [List.getElem?_eq_none h] at hj; cases hj
   rw [h1, List.getElem?_append_left hlt]; exact hj), h4, iO.rows h5 (fun q v hq => by
   have := hc (n + q) v (by rw [h1, List.getElem?_append_right (by omega), h3, Nat.add_sub_cancel_left]; exact hq)
   rwa [← Nat.add_assoc] at this)⟩
theorem gJ.data {δ : Type} {R : δ → List Value → List Nat → Prop} {w : World} {n b : Nat} : {xs : List δ} → {o : Nat} → {F : List Nat} → gJ R w n b xs o F → ∃ vs, iO R n xs vs F ∧ ∀ q v, vs[q]? = some v → w.cell? ⟨b, o + q, none⟩ = some v
 | [], _, _, h => ⟨[], ⟨rfl, h⟩, fun q v hq => by simp at hq⟩
 | x :: xs, o, _, ⟨vs, F1, F2, hF, hn, hc, hR, hr⟩ => by
  obtain ⟨us, h1, h2⟩ := gJ.data hr
  refine ⟨vs ++ us, ⟨vs, us, F1, F2, rfl, hF, hn, hR, h1⟩, fun q v hq => ?_⟩
  by_cases hlt : q < vs.length
  ·rw [List.getElem?_append_left hlt] at hq; exact hc q v hq
  ·rw [List.getElem?_append_right (by omega)] at hq
   have := h2 _ _ hq
   rwa [show o + n + (q - vs.length) = o + q by omega] at this
theorem iO.rep {δ : Type} {R : δ → List Value → List Nat → Prop} {d : δ} {zs : List Value} (h : R d zs []) : ∀ k, iO R zs.length (List.replicate k d) (List.replicate k zs).flatten []
 | 0 => ⟨rfl, rfl⟩
 | k + 1 => ⟨zs, (List.replicate k zs).flatten, [], [], by simp [List.replicate_succ], rfl, rfl, h, iO.rep h k⟩
theorem ab6 (zs : Array Value) : ∀ k, ((Array.range (k * zs.size)).map (zs[· % zs.size]!)).toList = (List.replicate k zs.toList).flatten := by
 intro k
 apply List.ext_getElem?
 intro q
 by_cases hz : zs.size = 0
 ·have : zs = #[] := Array.eq_empty_of_size_eq_zero hz
  subst this
  simp
 induction k generalizing q with
 | zero => simp
 | succ k ih =>
  rw [List.replicate_succ, List.flatten_cons]
  by_cases hq : q < zs.size
  ·rw [List.getElem?_append_left (by simpa using hq)]
   have : q < (k + 1) * zs.size := by rw [Nat.add_mul]; omega
   simp [this, Nat.mod_eq_of_lt hq, hq, getElem!_pos]
  ·rw [List.getElem?_append_right (by simp; omega)]
   have := ih (q - zs.toList.length)
   rw [← this]
   simp only [Array.toList_map, Array.toList_range, List.getElem?_map, Array.length_toList]
   by_cases hq2 : q < (k + 1) * zs.size
   ·have h3 : q - zs.size < k * zs.size := by rw [Nat.add_mul] at hq2; omega
    rw [List.getElem?_range hq2, List.getElem?_range h3]
    simp only [Option.map_some]
    congr 2
    rw [← Nat.mod_eq_sub_mod (by omega)]
   ·rw [List.getElem?_eq_none (by simpa using hq2), List.getElem?_eq_none (by simp; rw [Nat.add_mul] at hq2; omega)]
section
variable {P : Program} {Γ : Env} {B0 : Nat} {w0 : World} {σ : St} {a : Act} {w : World} {C : Cx} {L : Nat → List Nat}
theorem ab7 (s : Sem Value) {x : Value} {w' w2 : World} (h : s.run P w' = .ok x w2) : (do let r ← s; pure (.value r) : Sem Next).run P w' = .ok (.value x) w2 := by
 rw [Sem.run_bind, h]; rfl
theorem aeI (hT : iG P Γ.ty) (h : Rel B0 w0 σ a w C L) {o : Oper} {t : TypeId} {l c : Operand} (ho : o.op = .makeSlice t l c) {b : Nat} (hb : ∀ k, b ≤ k → k < b + 256 → ¬ C.U k) {K : St → Option aj} {r : aj} (hp : effect Γ b o σ K = some r) {Q : Exit → Act → World → Prop} :
  o.wp P a w (U3 Γ.lend B0 w0 o σ w C L b K r) Q := by
 have hl := h.ev l
 have hc := h.ev c
 simp only [effect, ho] at hp
 split at hp
 ·rename_i ty n m ht e1 e2
  rw [e1] at hl; rw [e2] at hc
  have el : a.eval l = .int .i64 n := hl.1
  have ec : a.eval c = .int .i64 m := hc.1
  split at hp
  ·rename_i hst
   obtain ⟨e, hu, i, z, hi, hn, hby, hz, hzs, hzR⟩ := (hT t ty ht).sl hst
   cases hcnd : (n == m && decide (0 ≤ n) && decide (n.toNat * ty.bytes ≤ zq) && decide (n ≤ 4611686018427387904)) with
   | false => rw [hcnd] at hp; cases hp
   | true =>
    rw [hcnd] at hp
    simp only [Bool.and_eq_true, beq_iff_eq, decide_eq_true_eq, zq] at hcnd
    obtain ⟨⟨⟨rfl, h0⟩, h1⟩, h2⟩ := hcnd
    have hw : IntKind.i64.wrap n = n := by
     have : IntKind.i64.wrap n = Go.RowKit.wrap64 n := by
      simp only [IntKind.wrap, IntKind.bits, IntKind.signed, Go.RowKit.wrap64, Bool.true_and]
      split <;> simp_all <;> omega
     rw [this]; unfold Go.RowKit.wrap64; omega
    have hbig : ¬ ((i.bytes : Int) * n > 281474976710656) := by
     rw [hby]
     have h1' : n.toNat * ty.bytes ≤ 140737488355328 := of_decide_eq_true h1
     have : ((n.toNat * ty.bytes : Nat) : Int) ≤ ((140737488355328 : Nat) : Int) := Int.ofNat_le.2 h1'
     rw [Int.natCast_mul, Int.toNat_of_nonneg h0, Int.mul_comm] at this
     omega
    have hcells : ((Array.range (n.toNat * i.size)).map (((if n.toNat * i.size = 0 then #[] else z.cells) : Array Value)[· % ((if n.toNat * i.size = 0 then #[] else z.cells) : Array Value).size]!)).toList = (List.replicate n.toNat z.cells.toList).flatten := by
     by_cases hz0 : n.toNat * i.size = 0
     ·rw [hz0]
      simp only [if_true]
      rcases Nat.mul_eq_zero.1 hz0 with hz1 | hz1
      ·rw [hz1]; simp
      ·have : z.cells.toList = [] := List.eq_nil_of_length_eq_zero (by rw [Array.length_toList, hzs, ← hn, hz1])
       rw [this]; simp
     ·rw [if_neg hz0, hn, ← hzs]
      exact ab6 z.cells n.toNat
    obtain ⟨C', L', g1, g2, g3, g4, g5, g6⟩ := h.apH (hb b (Nat.le_refl _) (by omega)) (w1 := w.alloc (.cells ((Array.range (n.toNat * i.size)).map (((if n.toNat * i.size = 0 then #[] else z.cells) : Array Value)[· % ((if n.toNat * i.size = 0 then #[] else z.cells) : Array Value).size]!)) e (0, 0)))
     (c := (Array.range (n.toNat * i.size)).map (((if n.toNat * i.size = 0 then #[] else z.cells) : Array Value)[· % ((if n.toNat * i.size = 0 then #[] else z.cells) : Array Value).size]!)) (e := e) rfl (h.below.alloc h.hB0 _)
     (deep := true) (r := ty.row) (xs := List.replicate n.toNat ty.row.dflt) (n := n.toNat) (cap := n.toNat) (F := []) (by simp) (Nat.le_refl _) (by simp [hn])
     (fun w2 hnew hold => by
      have hD := iO.rep (R := gK w2 (!true) ty.row) (d := ty.row.dflt) (zs := z.cells.toList) (hzR.1 w2 _) n.toNat
      rw [show z.cells.toList.length = ty.row.n by simp [hzs]] at hD
      refine hD.rows (fun q v hq => ?_)
      rw [← hcells] at hq
      simp only [World.cell?, hnew, Nat.zero_add]
      rw [Array.getElem?_toList] at hq
      exact hq)
     (fun _ h => (nomatch h)) (fun _ => ⟨List.nodup_nil, fun _ h => (nomatch h), fun _ _ h => (nomatch h)⟩)
    refine ug (c := .slice (some ⟨w.heap.size, 0, none⟩) n.toNat n.toNat) (w' := w.alloc (.cells ((Array.range (n.toNat * i.size)).map (((if n.toNat * i.size = 0 then #[] else z.cells) : Array Value)[· % ((if n.toNat * i.size = 0 then #[] else z.cells) : Array Value).size]!)) e (0, 0))) ?_ ⟨⟨_, C', L', hp, g1.put o.dst ?_, g2, fun k hk => ?_, jV .., gQ .., kT .., (g6 rfl (L9.refl w C L []) (fun _ h => (nomatch h))).wid⟩, fun x hx _ => alloc_old w _ x hx, by rw [dZ]; exact Nat.le_succ _⟩
    ·have h3 : ¬ (n < 0) := by omega
     simp only [execOp, ho, el, ec]
     refine ab7 _ ?_
     unfold Instr.makeSlice
     by_cases hz0 : n.toNat * i.size = 0
     ·simp [run_underlying hu, asInt, asIntOf, abL hi, hw, hbig, h3, yu hi, hz0, newRow]
     ·simp [run_underlying hu, asInt, asIntOf, abL hi, hw, hbig, h3, yu hi, hz0, agv hi hz, newRow]
    ·exact ⟨g5, rfl, fun cv n' hb' => by rw [g4] at hb'; cases hb'; rfl⟩
    ·rcases g3 k hk with h | rfl
     ·exact .inl h
     ·exact .inr ⟨Nat.le_refl _, by omega⟩
  ·cases hp
 ·cases hp
theorem afL {ty : Ty} : ∀ (parts : List (Nat × Operand)) (i : Nat) {σ1 : St} {C1 : Cx} {L1 : Nat → List Nat} (h : Rel B0 w0 σ1 a w C1 L1) {xs : List ty.row.T} {p : Bool} {ob' : dO} (cells : Array Value),
  LY ty.row σ1 i parts σ1.ob = some (xs, p, ob') → (i + parts.length) * ty.row.n ≤ cells.size →
  ∃ out F C' L' vs, Instr.fill (fun j => some (j * ty.row.n, ty.row.n)) cells (parts.map fun (j, x) => (j, a.eval x)) = some out ∧ out.toList = cells.toList.take (i * ty.row.n) ++ vs ++ cells.toList.drop ((i + parts.length) * ty.row.n) ∧
   iO (gK w (!p) ty.row) ty.row.n xs vs F ∧ xs.length = parts.length ∧ FD B0 w0 σ1 a w C1 L1 ob' p F C' L'
 | [], i, σ1, C1, L1, h, xs, p, ob', cells, hf, hs => by
  simp only [LY, Option.some.injEq, Prod.mk.injEq] at hf
  obtain ⟨rfl, rfl, rfl⟩ := hf
  exact ⟨cells, [], C1, L1, [], rfl, by simp, ⟨rfl, rfl⟩, rfl, FD.refl h _⟩
 | (j, x) :: rest, i, σ1, C1, L1, h, xs, p, ob', cells, hf, hs => by
  simp only [LY] at hf
  split at hf
  ·rename_i hij
   subst hij
   split at hf
   ·cases hf
   ·rename_i d p1 kN hg
    split at hf
    ·cases hf
    ·rename_i ds p2 zV hr
     cases hf
     obtain ⟨us, hus, hg⟩ := Option.bind_eq_some_iff.1 hg
     obtain ⟨k1, k2⟩ := (h.ev x).wX hus
     obtain ⟨F1, C2, L2, g1, g2⟩ := Rw.Mc ty.row h k1 hg
     have hlen := gK.len ty.row g1
     have hsz : (a.eval x).cells.size = ty.row.n := by rw [← hlen]; simp
     simp only [List.length_cons] at hs
     have hs1 : i * ty.row.n + ty.row.n ≤ cells.size := Nat.le_trans (by rw [← Nat.succ_mul]; exact Nat.mul_le_mul_right _ (by omega)) hs
     have hfe := fill_eq (i * ty.row.n) (a.eval x) cells (by omega)
     rw [hsz] at hfe
     have hr' : LY ty.row { σ1 with ob := kN } (i + 1) rest kN = some (ds, p2, ob') := by
      have key : ∀ (ps : List (Nat × Operand)) (q : Nat) (ob : dO), LY ty.row { σ1 with ob := kN } q ps ob = LY ty.row σ1 q ps ob := by
       intro ps
       induction ps with
       | nil => intro q ob; rfl
       | cons y ps ih =>
        intro q ob
        obtain ⟨y1, y2⟩ := y
        simp only [LY, ih]
        rfl
      rw [key]; exact hr
     have hsz2 : ((a.eval x).cells.zipIdx.foldl (fun (cs : Array Value) (x : Value × Nat) => cs.setIfInBounds (i * ty.row.n + x.2) x.1) cells).size = cells.size := by
      rw [← Array.length_toList, hfe]; simp; omega
     obtain ⟨out, F2, C3, L3, vs, q1, q2, q3, q4, q5⟩ := afL rest (i + 1) g2.rel (xs := ds) (p := p2) (ob' := ob') ((a.eval x).cells.zipIdx.foldl (fun (cs : Array Value) (x : Value × Nat) => cs.setIfInBounds (i * ty.row.n + x.2) x.1) cells) hr' (by rw [hsz2]; exact Nat.le_trans (by rw [show i + 1 + rest.length = i + (rest.length + 1) by omega]; exact Nat.le_refl _) hs)
     refine ⟨out, F1 ++ F2, C3, L3, (a.eval x).cells.toList ++ vs, ?_, ?_, ?_, by simp [q4], g2.trans q5⟩
     ·simp only [List.map_cons, Instr.fill]
      rw [if_neg (by simp [hsz]; omega)]
      exact q1
     ·rw [q2, hfe]
      have hA : (cells.toList.take (i * ty.row.n) ++ (a.eval x).cells.toList).length = (i + 1) * ty.row.n := by
       simp [hsz, Nat.succ_mul]; omega
      rw [List.take_append_of_le_length (by rw [hA]; exact Nat.le_refl _), ← hA, List.take_length]
      rw [List.drop_append, hA, List.drop_eq_nil_of_le (by rw [hA]; exact Nat.mul_le_mul_right _ (by omega))]
      simp only [List.nil_append, List.append_assoc, List.drop_drop]
      congr 4
      simp only [List.length_cons]
      rw [show i + 1 + rest.length = i + (rest.length + 1) by omega, show i * ty.row.n + ty.row.n = (i + 1) * ty.row.n by rw [Nat.succ_mul]]
      have : (i + 1) * ty.row.n ≤ (i + (rest.length + 1)) * ty.row.n := Nat.mul_le_mul_right _ (by omega)
      omega
     ·refine ⟨_, _, F1, F2, rfl, rfl, by simpa using hsz, gK.imp (by cases p1 <;> cases p2 <;> simp) ty.row g1 (fun _ _ => rfl), q3.imp (fun x vs F' hk hR => gK.imp (by cases p1 <;> cases p2 <;> simp) ty.row hR (fun _ _ => rfl))⟩
  ·cases hf
theorem ab8 (hT : iG P Γ.ty) (h : Rel B0 w0 σ a w C L) {o : Oper} {t : TypeId} {len : Nat} {parts : Array (Nat × Operand)} (ho : o.op = .buildSlice t len parts) {b : Nat} (hb : ∀ k, b ≤ k → k < b + 256 → ¬ C.U k) {K : St → Option aj} {r : aj} (hp : effect Γ b o σ K = some r) {Q : Exit → Act → World → Prop} :
  o.wp P a w (U3 Γ.lend B0 w0 o σ w C L b K r) Q := by
 simp only [effect, ho] at hp
 split at hp
 ·rename_i ty ht
  split at hp
  ·rename_i hst
   obtain ⟨e, hu, i, z, hi, hn, hby, hz, hzs, hzR⟩ := (hT t ty ht).sl hst
   split at hp
   ·rename_i xs deep ob' hf
    split at hp
    ·rename_i hlen
     split at hp
     ·rename_i hbig
      have hlen' : parts.toList.length = len := by simpa using hlen
      have hcs0 : ((Array.range (len * i.size)).map (((if len * i.size = 0 then #[] else z.cells) : Array Value)[· % ((if len * i.size = 0 then #[] else z.cells) : Array Value).size]!)).size = len * ty.row.n := by simp [hn]
      obtain ⟨out, F, C1, L1, vs, q1, q2, q3, q4, q5⟩ := afL parts.toList 0 h ((Array.range (len * i.size)).map (((if len * i.size = 0 then #[] else z.cells) : Array Value)[· % ((if len * i.size = 0 then #[] else z.cells) : Array Value).size]!)) hf (by rw [hcs0, hlen']; simp)
      have hout : out.toList = vs := by
       rw [q2, hlen']
       have hl0 : (((Array.range (len * i.size)).map (((if len * i.size = 0 then #[] else z.cells) : Array Value)[· % ((if len * i.size = 0 then #[] else z.cells) : Array Value).size]!)).toList).length = len * ty.row.n := by rw [Array.length_toList, hcs0]
       rw [List.drop_eq_nil_of_le (by rw [hl0]; simp)]
       simp
      have hvl := q3.len
      rw [q4, hlen'] at hvl
      have hb1 : ∀ k, b ≤ k → k < b + 256 → ¬ C1.U k := by rw [q5.U]; exact hb
      obtain ⟨C', L', g1, g2, g3, g4, g5, g6⟩ := q5.rel.apH (hb1 b (Nat.le_refl _) (by omega)) (w1 := w.alloc (.cells out e (0, 0))) (c := out) (e := e) rfl (q5.rel.below.alloc h.hB0 _)
       (deep := deep) (r := ty.row) (xs := xs) (n := len) (cap := len) (F := F) (by rw [q4, hlen']) (Nat.le_refl _) (by rw [← Array.length_toList, hout, hvl]; exact Nat.le_refl _)
       (fun w2 hnew hold => by
        refine (q3.imp (R' := gK w2 (!deep) ty.row) (fun x vs F' hk hR => gK.imp (fun h => h) ty.row hR (fun k hk' => hold k (q5.rel.CS k (q5.N k (hk k hk')))))).rows (fun q v hq => ?_)
        rw [← hout] at hq
        simp only [World.cell?, hnew, Nat.zero_add]
        rw [Array.getElem?_toList] at hq
        exact hq)
       q5.N (fun hd => ⟨q5.nd hd, fun x hx => by obtain ⟨k, hk⟩ := q5.from_ hd x hx; exact (h.own k x hk).1, fun k x hx => q5.off hd x hx k⟩)
      refine ug (c := .slice (some ⟨w.heap.size, 0, none⟩) len len) (w' := w.alloc (.cells out e (0, 0))) ?_ ⟨⟨_, C', L', hp, g1.put o.dst ?_, q5.le.trans g2, fun k hk => ?_, jV .., gQ .., kT .., (g6 rfl (q5.org []) (fun x hx hd => q5.from_ hd x hx)).wid⟩, fun x hx _ => alloc_old w _ x hx, by rw [dZ]; exact Nat.le_succ _⟩
      ·simp only [execOp, ho]
       refine ab7 _ ?_
       unfold Instr.buildSlice
       have hbig' : ¬ (16777216 < len * i.size) := by rw [hn]; omega
       have q1' : Instr.fill (fun j => some (j * i.size, i.size)) ((Array.range (len * i.size)).map (((if len * i.size = 0 then #[] else z.cells) : Array Value)[· % ((if len * i.size = 0 then #[] else z.cells) : Array Value).size]!)) (parts.map fun (j, x) => (j, a.eval x)).toList = some out := by
        rw [Array.toList_map, hn]
        rw [hn] at q1
        exact q1
       by_cases hz0 : len * i.size = 0
       ·simp only [hz0, if_true] at q1'
        simp at q1'
        simp [run_underlying hu, yu hi, hz0, newRow, q1']
       ·simp only [if_neg hz0] at q1'
        simp at q1'
        simp [run_underlying hu, yu hi, hz0, hbig', agv hi hz, newRow, q1']
      ·exact ⟨g5, rfl, fun cv n' hb' => by rw [g4] at hb'; cases hb'; rfl⟩
      ·rcases g3 k hk with h | rfl
       ·rw [q5.U] at h; exact .inl h
       ·exact .inr ⟨Nat.le_refl _, by omega⟩
     ·cases hp
    ·cases hp
   ·cases hp
  ·cases hp
 ·cases hp
end
end Go.Ev
end
