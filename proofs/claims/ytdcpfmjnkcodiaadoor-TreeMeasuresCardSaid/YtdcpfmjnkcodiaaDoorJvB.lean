/- The abstract machine's operations. -/
import Derived.Test.YtdcpfmjnkcodiaaDoorJvA
namespace Go.Jv

abbrev Hs := Nat → Home
abbrev R1 := Option (AV × Hs × Nat)

/-- two trees that '==' tells apart by sight: bools (0), numbers (1), strings (2) -/
def eqD : Nat → Dat → Dat → Option Bool
  | 1, .int k a, .int k' b => if k = k' then some (decide (a = b)) else none
  | 0, .bool a, .bool b => some (decide (a = b))
  | 2, .str a, .str b => some (decide (a = b))
  | _, _, _ => none
def eqAll : List Nat → List Dat → List Dat → Option Bool
  | [], [], [] => some true
  | q :: qs, x :: xs, y :: ys => match eqD q x y, eqAll qs xs ys with | some a, some b => some (a && b) | _, _ => none
  | _, _, _ => none

def binI (op : BinOp) (k : IntKind) (a b : Int) : Option Dat :=
  match op with
  | .add => some (.int k (k.wrap (a + b)))
  | .sub => some (.int k (k.wrap (a - b)))
  | .mul => some (.int k (k.wrap (a * b)))
  | .quo => if b = 0 then none else some (.int k (k.wrap (a.tdiv b)))
  | .rem => if b = 0 then none else some (.int k (a.tmod b))
  | .and => some (.int k (k.wrap (BitVec.ofInt k.bits a &&& BitVec.ofInt k.bits b).toNat))
  | .or => some (.int k (k.wrap (BitVec.ofInt k.bits a ||| BitVec.ofInt k.bits b).toNat))
  | .xor => some (.int k (k.wrap (BitVec.ofInt k.bits a ^^^ BitVec.ofInt k.bits b).toNat))
  | .andNot => some (.int k (k.wrap (BitVec.ofInt k.bits a &&& ~~~ BitVec.ofInt k.bits b).toNat))
  | .eql => some (.bool (decide (a = b)))
  | .neq => some (.bool (!decide (a = b)))
  | .lss => some (.bool (decide (a < b)))
  | .leq => some (.bool (decide (a ≤ b)))
  | .gtr => some (.bool (decide (a > b)))
  | .geq => some (.bool (decide (a ≥ b)))
  | _ => none

def binD (op : BinOp) (x y : Dat) : Option Dat :=
  match x, y with
  | .int k a, .int k' b =>
    match op with
    | .shl => if b < 0 then none else some (.int k (k.wrap (a * 2 ^ (min b.toNat k.bits))))
    | .shr => if b < 0 then none else some (.int k (a.fdiv (2 ^ (min b.toNat k.bits))))
    | _ => if k = k' then binI op k a b else none
  | .str a, .str b =>
    match op with
    | .add => if a.size + b.size ≤ 9223372036854775807 then some (.str (a ++ b)) else none
    | .eql => some (.bool (decide (a = b)))
    | .neq => some (.bool (!decide (a = b)))
    | .lss => some (.bool (Op.bytesLess a.toList b.toList))
    | .geq => some (.bool (!Op.bytesLess a.toList b.toList))
    | _ => none
  | _, _ => none

/-- '==' of bools, of structs of a listed type -/
def eqlD (C : Cfg) (t : TypeId) (x y : Dat) : Option Bool :=
  match C.ty t, x, y with
  | some i, .bool a, .bool b => match i.desc with | .bool => some (decide (a = b)) | _ => none
  | some i, .agg xs, .agg ys => match i.desc, C.eqs t with | .struct _, some qs => eqAll qs xs ys | _, _ => none
  | _, _, _ => none

def datA : AV → Option Dat
  | .d x => some x
  | .agg cs => (seeAll (fun | .d x => some x | .nil => some (.lst []) | _ => none) cs).map .agg
  | .nil => some (.lst [])
  | _ => none

def binA (C : Cfg) (op : BinOp) (t : TypeId) (x y : AV) : Option Dat :=
  match datA x, datA y with
  | some a, some b =>
    match op with
    | .eql => match binD .eql a b with | some r => some r | none => (eqlD C t a b).map .bool
    | .neq => match binD .neq a b with | some r => some r | none => (eqlD C t a b).map fun r => .bool (!r)
    | _ => binD op a b
  | _, _ => none

def unD (op : UnOp) (x : Dat) : Option Dat :=
  match op, x with
  | .neg, .int k n => some (.int k (k.wrap (0 - n)))
  | .not, .bool b => some (.bool !b)
  | _, _ => none

def fieldOf (C : Cfg) (t : TypeId) (i : Nat) : Option Field :=
  match C.ty t with
  | some y => match y.desc with | .struct fs => fs[i]? | _ => none
  | none => none
def sizeT (C : Cfg) (t : TypeId) : Option Nat := (C.ty t).map (·.size)
def aggT (C : Cfg) (t : TypeId) : Option Bool := (C.ty t).map fun y => isAgg y.desc
def elemT (C : Cfg) (t : TypeId) : Option TypeId :=
  match C.ty t with
  | some y => match y.desc with | .slice e => some e | _ => none
  | none => none
def arrT (C : Cfg) (t : TypeId) : Option (Nat × TypeId) :=
  match C.ty t with
  | some y => match y.desc with | .array n e => some (n, e) | _ => none
  | none => none

/-- n cells from off on -/
def cutA (cs : List AV) (off n : Nat) : Option (List AV) := if off + n ≤ cs.length then some ((cs.drop off).take n) else none
def cutD (cs : List Dat) (off n : Nat) : Option (List Dat) := if off + n ≤ cs.length then some ((cs.drop off).take n) else none

def loadA (C : Cfg) (H : Hs) (t : TypeId) (p : AV) : Option AV :=
  match sizeT C t, aggT C t with
  | some n, some g =>
    match p with
    | .pt id off =>
      match H id with
      | .box cs => (cutA cs off n).bind (mkA g)
      | .immb cs => ((cutD cs off n).bind (mkD g)).map .d
      | _ => none
    | .pe id i j =>
      match H id with
      | .own _ xs => match xs[i]? with | some x => ((cutD x.cells j n).bind (mkD g)).map .d | none => none
      | .imm _ xs => match xs[i]? with | some x => ((cutD x.cells j n).bind (mkD g)).map .d | none => none
      | _ => none
    | .d (.ptr cs) => ((cutD cs 0 n).bind (mkD g)).map .d
    | _ => none
  | _, _ => none

/-- new cells from off on -/
def putA {α : Type} (cs : List α) (off : Nat) (new : List α) : List α := cs.take off ++ new ++ cs.drop (off + new.length)

/-- a value of one cell, that may be stored -/
def okC : AV → Bool
  | .d (.agg _) => false
  | .agg _ => false
  | .tup _ => false
  | .bad => false
  | .undef => false
  | _ => true

def storeA (C : Cfg) (H : Hs) (t : TypeId) (p v : AV) : Option Hs :=
  match sizeT C t with
  | some n =>
    match p with
    | .pt id off =>
      match H id with
      | .box cs => if v.cells.length = n ∧ v.cells.all okC ∧ off + n ≤ cs.length then some (upd H id (.box (putA cs off v.cells))) else none
      | _ => none
    | .pe id i j =>
      match datA v, H id with
      | some x, .own z xs =>
        match xs[i]? with
        | some y => if x.cells.length = n ∧ (x.cells.map AV.d).all okC ∧ j + n ≤ y.cells.length then
            (match y with
             | .agg cs => some (upd H id (.own z (xs.set i (.agg (putA cs j x.cells)))))
             | _ => (match x.cells with | [c] => some (upd H id (.own z (xs.set i c))) | _ => none))
          else none
        | none => none
      | _, _ => none
    | _ => none
  | none => none

def natOf : AV → Option Nat
  | .d (.int .i64 n) => if 0 ≤ n then some n.toNat else none
  | _ => none
def intOfA : AV → Option Int
  | .d (.int _ n) => some n
  | _ => none

def szOf : Home → Option (Row × List Dat)
  | .own z xs => some (z, xs)
  | .imm z xs => some (z, xs)
  | _ => none

def szIs (h : Home) (n : Option Nat) : Bool :=
  match szOf h, n with
  | some r, some m => decide (r.1.sz = m)
  | _, _ => false

def indexAddrA (C : Cfg) (H : Hs) (t : TypeId) (x i : AV) : Option AV :=
  match intOfA i with
  | none => none
  | some n =>
    if n < 0 then none else
    match elemT C t with
    | some el =>
      (match x with
       | .sl id lo hi => if n < ((hi - lo : Nat) : Int) ∧ szIs (H id) (sizeT C el) = true then some (.pe id (lo + n.toNat) 0) else none
       | .d (.lst xs) => match xs[n.toNat]? with | some y => if sizeT C el = some y.cells.length then some (.d (.ptr y.cells)) else none | none => none
       | _ => none)
    | none =>
      match arrT C t with
      | some (len, e) =>
        (match sizeT C e with
         | some z =>
           if n < (len : Int) then
             (match x with
              | .pt id off => some (.pt id (off + n.toNat * z))
              | .pe id i j => some (.pe id i (j + n.toNat * z))
              | .d (.ptr cs) => some (.d (.ptr (cs.drop (n.toNat * z))))
              | _ => none)
           else none
         | none => none)
      | none => none

/-- a part of a struct, of an array -/
def partA (x : AV) (off n : Nat) (g : Bool) : Option AV :=
  match x with
  | .agg cs => (cutA cs off n).bind (mkA g)
  | .d (.agg cs) => ((cutD cs off n).bind (mkD g)).map .d
  | _ => none

/-- a place's part -/
def addA (x : AV) (k : Nat) : Option AV :=
  match x with
  | .pt id o => some (.pt id (o + k))
  | .pe id i j => some (.pe id i (j + k))
  | .d (.ptr cs) => some (.d (.ptr (cs.drop k)))
  | _ => none

def indexA (C : Cfg) (t : TypeId) (x i : AV) : Option AV :=
  match intOfA i with
  | none => none
  | some n =>
    if n < 0 then none else
    match x with
    | .d (.str s) => (match C.ty t with
        | some y => (match y.desc with | .string => (s[n.toNat]?).map fun b => .d (.int .u8 b.toNat) | _ => none)
        | none => none)
    | _ =>
      match arrT C t with
      | some (len, e) =>
        (match sizeT C e, aggT C e with
         | some z, some g =>
           if n < (len : Int) then
             partA x (n.toNat * z) z g
           else none
         | _, _ => none)
      | none => none

def loHi (n : Nat) (lo hi : Option AV) : Option (Nat × Nat) :=
  match (match lo with | none => some 0 | some v => natOf v), (match hi with | none => some n | some v => natOf v) with
  | some l, some h => if l ≤ h ∧ h ≤ n then some (l, h) else none
  | _, _ => none

def sliceA (C : Cfg) (H : Hs) (t : TypeId) (x : AV) (lo hi : Option AV) (mx : Bool) : Option AV :=
  if mx then none else
  match C.ty t with
  | none => none
  | some y =>
    match y.desc, x with
    | .string, .d (.str s) => (loHi s.size lo hi).map fun (l, h) => .d (.str (s.extract l h))
    | .slice el, .sl id a b =>
      if szIs (H id) (sizeT C el) = true then (loHi (b - a) lo hi).map fun (l, h) => .sl id (a + l) (a + h) else none
    | .slice el, .nil => if (sizeT C el).isSome then (loHi 0 lo hi).map fun _ => .nil else none
    | .slice el, .d (.lst xs) =>
      match loHi xs.length lo hi, sizeT C el with
      | some (l, h), some z => if l = 0 ∨ xs.all (fun y => decide (y.cells.length = z)) then some (.d (.lst (win xs l h))) else none
      | _, _ => none
    | _, _ => none

/-- parts put into cells, each at its place: as the machine fills -/
def fillA {α : Type} (cellsOf : AV → Option (List α)) (place : Nat → Option (Nat × Nat)) (cells : List α) : List (Nat × AV) → Option (List α)
  | [] => some cells
  | (i, v) :: rest =>
    match place i, cellsOf v with
    | some (off, size), some new => if new.length = size ∧ off + new.length ≤ cells.length then fillA cellsOf place (putA cells off new) rest else none
    | _, _ => none

def okCells (v : AV) : Option (List AV) := if v.cells.all okC then some v.cells else none

def buildA (C : Cfg) (t : TypeId) (parts : List (Nat × AV)) : Option AV :=
  match C.ty t with
  | none => none
  | some y =>
    match y.desc with
    | .struct fs => (fillA okCells (fun i => match fs[i]? with | some f => (sizeT C f.type).map fun z => (f.offset, z) | none => none) y.zero parts).map .agg
    | .array _ e => (match sizeT C e with
        | some z => (fillA okCells (fun i => some (i * z, z)) y.zero parts).map .agg
        | none => none)
    | _ => none

def zeroD (C : Cfg) (e : TypeId) : Option Dat :=
  match C.ty e with
  | some y => (match seeAll (fun | .d x => some x | .nil => some (.lst []) | _ => none) y.zero with
      | some cs => mkD (isAgg y.desc) cs
      | none => none)
  | none => none

/-- the elements of a literal slice, what they lead to being fixed -/
def partsD (sz : Nat) (H : Hs) : List Dat → List (Nat × AV) → Option (List Dat × Hs)
  | xs, [] => some (xs, H)
  | xs, (i, v) :: rest =>
    match frz 4 H v with
    | some (x, H1) => if i < xs.length ∧ x.cells.length = sz ∧ (x.cells.map AV.d).all okC = true then partsD sz H1 (xs.set i x) rest else none
    | none => none

def lenA (C : Cfg) (t : TypeId) (x : AV) : Option Int :=
  match C.ty t with
  | none => none
  | some y =>
    match y.desc, x with
    | .string, .d (.str s) => some s.size
    | .slice _, .d (.lst xs) => some xs.length
    | .slice _, .sl _ lo hi => some ((hi - lo : Nat) : Int)
    | .slice _, .nil => some 0
    | .array n _, _ => some n
    | _, _ => none

/-- what the base of an 'append' holds; its home is given up -/
def baseA (H : Hs) (r : Row) (s : AV) : Option (List Dat × Hs) :=
  match s with
  | .nil => some ([], H)
  | .sl id lo hi =>
    (match H id with
     | .own z xs => if lo = 0 ∧ hi ≤ xs.length ∧ z = r then some (xs.take hi, upd H id .dead) else none
     | _ => none)
  | _ => none

def appendA (C : Cfg) (H : Hs) (nx : Nat) (ts tx : TypeId) (s x : AV) : R1 :=
  if ts = tx then
    match elemT C ts with
    | none => none
    | some e =>
      match C.ty e with
      | none => none
      | some ye =>
        match baseA H ⟨e, ye.size⟩ s, see 1 H x with
        | some (xs, H1), some (.lst new) =>
          if new.all (fun y => decide (y.cells.length = ye.size)) ∧ 0 < ye.size ∧ 0 < ye.bytes ∧ (xs.length + new.length) * ye.bytes ≤ 140737488355328 then
            some (.sl nx 0 (xs.length + new.length), upd H1 nx (.own ⟨e, ye.size⟩ (xs ++ new)), nx + 1)
          else none
        | _, _ => none
  else none

def maxA (xs : List AV) : Option AV :=
  match xs with
  | [.d (.int k a), .d (.int k' b)] => if k = k' then some (.d (.int k (if b > a then b else a))) else none
  | _ => none
def minA (xs : List AV) : Option AV :=
  match xs with
  | [.d (.int k a), .d (.int k' b)] => if k = k' then some (.d (.int k (if b < a then b else a))) else none
  | _ => none

def convA (C : Cfg) (src dst : TypeId) (x : AV) : Option AV :=
  match C.ty src, C.ty dst, x with
  | some a, some b, .d (.int _ n) => (match a.desc, b.desc with | .int _, .int k => some (.d (.int k (k.wrap n))) | _, _ => none)
  | some a, some b, .d (.str s) => (match a.desc, b.desc with | .string, .string => some (.d (.str s)) | _, _ => none)
  | _, _, _ => none

/-- An operation that calls no function. -/
def act (C : Cfg) (H : Hs) (nx : Nat) (e : Operand → AV) (o : Op) : R1 :=
  let pure (v : Option AV) : R1 := v.map fun v => (v, H, nx)
  match o with
  | .move x => pure (some (e x))
  | .assign x => pure (some (e x))
  | .pick c a b => (match e c with | .d (.bool true) => pure (some (e a)) | .d (.bool false) => pure (some (e b)) | _ => none)
  | .alloc t => (C.ty t).bind fun y => some (.pt nx 0, upd H nx (.box y.zero), nx + 1)
  | .box t x => (sizeT C t).bind fun n => if (e x).cells.length = n ∧ (e x).cells.all okC then some (.pt nx 0, upd H nx (.box (e x).cells), nx + 1) else none
  | .build t ps => pure (buildA C t (ps.toList.map fun (i, x) => (i, e x)))
  | .buildSlice t len ps =>
    (match elemT C t with
     | some el => (match zeroD C el, C.ty el with
        | some z, some ye =>
          if z.cells.length = ye.size ∧ (z.cells.map AV.d).all okC = true ∧ 0 < ye.size ∧ len * ye.size ≤ 16777216 then
            (match partsD ye.size H (List.replicate len z) (ps.toList.map fun (i, x) => (i, e x)) with
             | some (xs, H1) => some (.sl nx 0 len, upd H1 nx (.own ⟨el, ye.size⟩ xs), nx + 1)
             | none => none)
          else none
        | _, _ => none)
     | none => none)
  | .load t p => pure (loadA C H t (e p))
  | .store t p v => (storeA C H t (e p) (e v)).map fun H1 => (.undef, H1, nx)
  | .nilCheck x => (match e x with | .pt id o => pure (some (.pt id o)) | .pe id i j => pure (some (.pe id i j)) | .d (.ptr cs) => pure (some (.d (.ptr cs))) | _ => none)
  | .binOp op t x y _ => pure ((binA C op t (e x) (e y)).map .d)
  | .unOp op _ x => pure ((match e x with | .d v => unD op v | _ => none).map .d)
  | .convert src dst x => pure (convA C src dst (e x))
  | .slice t x lo hi mx => pure (sliceA C H t (e x) (lo.map e) (hi.map e) mx.isSome)
  | .fieldAddr t x f =>
    (match fieldOf C t f with
     | some fd => if sizeT C fd.type = some 0 ∨ sizeT C fd.type = none then none else pure (addA (e x) fd.offset)
     | none => none)
  | .field t x f =>
    (match fieldOf C t f with
     | some fd => (match sizeT C fd.type, aggT C fd.type with
        | some n, some g => pure (partA (e x) fd.offset n g)
        | _, _ => none)
     | none => none)
  | .indexAddr t x i => pure (indexAddrA C H t (e x) (e i))
  | .index t x i => pure (indexA C t (e x) (e i))
  | .extract t i => (match e t with | .tup vs => pure vs[i]? | _ => none)
  | .call c =>
    (match c.callee with
     | .builtin .len => (match c.args.toList, c.argTypes.toList with | [x], [t] => pure ((lenA C t (e x)).map fun n => .d (.int .i64 n)) | _, _ => none)
     | .builtin .append => (match c.args.toList, c.argTypes.toList with | [s, x], [ts, tx] => appendA C H nx ts tx (e s) (e x) | _, _ => none)
     | .builtin .max => pure (maxA (c.args.toList.map e))
     | .builtin .min => pure (minA (c.args.toList.map e))
     | _ => none)
  | _ => none

end Go.Jv
