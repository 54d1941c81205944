/- The abstract machine: code, calls. What it answers is unique: a function of its arguments. -/
import Derived.Test.YtdcpfmjnkcodiaaDoorJvB
namespace Go.Jv

inductive Ex where
  | normal
  | exit (id : Nat)
  | ret
  deriving Inhabited, DecidableEq

def wantedA (ops : Array Oper) (regs : Nat → AV) (o : Oper) : Option Bool :=
  match o.guard with
  | none => some true
  | some (j, b) =>
    match (ops[j]?).bind (·.dst) with
    | some t => (match regs t with | .d (.bool c) => some (c == b) | .undef => some false | _ => none)
    | none => none

def putR (regs : Nat → AV) (dst : Option Tmp) (v : AV) : Nat → AV :=
  match dst with
  | some t => upd regs t v
  | none => regs

/-- results of several cells: of none, one, many -/
def tupA : List AV → AV
  | [v] => v
  | vs => .tup vs

/-- the function that a value names, and what it has captured -/
def fnOf : AV → Option (FuncId × List AV)
  | .d (.fn f cs) => some (f, cs.map .d)
  | .fn f cs => some (f, cs)
  | _ => none

def resultsA (C : Cfg) (s : St) : List ResultVar → Option (List AV)
  | [] => some []
  | .tmp t :: rest => (resultsA C s rest).map (s.regs t :: ·)
  | .cell a t :: rest => match loadA C s.homes t (s.regs a), resultsA C s rest with | some v, some vs => some (v :: vs) | _, _ => none

def plainD : Dat → Bool
  | .int _ _ | .bool _ | .str _ => true
  | .agg cs => cs.all fun | .int _ _ | .bool _ | .str _ => true | _ => false
  | _ => false

/-- what an operation may look at, what it may change: of none, every home -/
structure Ft where
  rd : Option (List Nat)
  md : Option (List Nat)

def idOf : AV → List Nat
  | .sl id _ _ => [id]
  | .pt id _ => [id]
  | .pe id _ _ => [id]
  | _ => []

def noFt : Ft := ⟨some [], some []⟩

def footA (C : Cfg) (nx : Nat) (e : Operand → AV) (o : Op) : Ft :=
  match o with
  | .move _ | .assign _ | .pick .. | .build .. | .nilCheck _ | .binOp .. | .unOp .. | .convert .. | .fieldAddr .. | .field .. | .index .. | .extract .. => noFt
  | .alloc _ | .box .. => ⟨some [], some [nx]⟩
  | .buildSlice _ _ ps => if ps.toList.all fun (_, x) => (datA (e x)).isSome then ⟨some [], some [nx]⟩ else ⟨none, none⟩
  | .load _ p => ⟨some (idOf (e p)), some []⟩
  | .store _ p _ => ⟨some (idOf (e p)), some (idOf (e p))⟩
  | .slice _ x .. => ⟨some (idOf (e x)), some []⟩
  | .indexAddr _ x _ => ⟨some (idOf (e x)), some []⟩
  | .call c =>
    (match c.callee with
     | .builtin .len | .builtin .max | .builtin .min => noFt
     | .builtin .append => (match c.args.toList with | [s, x] => ⟨some (idOf (e s) ++ idOf (e x)), some (nx :: idOf (e s))⟩ | _ => ⟨none, none⟩)
     | .value fv =>
       (match fnOf (e fv) with
        | none => ⟨none, none⟩
        | some (f, caps) =>
          match C.sig f with
          | .scal => ⟨none, some []⟩
          | .dat => if (c.args.toList.map e ++ caps).all fun x => (datA x).isSome then noFt else ⟨none, none⟩
          | .raw => ⟨none, none⟩)
     | _ => ⟨none, none⟩)
  | _ => ⟨none, none⟩

/-- an operation that looks at no home, changes none, whatever its operands -/
def quietOp : Op → Bool
  | .move _ | .assign _ | .pick .. | .build .. | .nilCheck _ | .binOp .. | .unOp .. | .convert .. | .fieldAddr .. | .field .. | .index .. | .extract .. => true
  | .call c => (match c.callee with | .builtin .len | .builtin .max | .builtin .min => true | _ => false)
  | _ => false

def meets : Option (List Nat) → Option (List Nat) → Bool
  | some [], _ => false
  | _, some [] => false
  | some a, some b => a.any fun x => b.any fun y => decide (x = y)
  | _, _ => true

/-- may one change what the other looks at or changes? -/
def clash (f g : Ft) : Bool := meets f.md g.rd || meets f.md g.md || meets f.rd g.md

/-- for each operation those that come ahead of it in whatever order -/
def preds (ops : List Oper) : List (List Nat) :=
  ops.foldl (init := []) fun acc o => acc ++ [o.after.toList.flatMap fun e => if Region.binds .any e then e.on :: acc.getD e.on [] else []]

/-- pairs of operations that no edge orders and that may both touch homes -/
def unord (ops : List Oper) : List (Nat × Nat) :=
  let pr := preds ops
  (List.range ops.length).flatMap fun i => (List.range i).filterMap fun j =>
    if (pr.getD i []).contains j || quietOp ((ops.map (·.op)).getD i (.move (.const (.bool true)))) || quietOp ((ops.map (·.op)).getD j (.move (.const (.bool true)))) then none else some (j, i)

/-- temporaries are written and looked at in one order alone -/
def tmpsApart (ops : Array Oper) : Bool :=
  let pr := preds ops.toList
  (List.range ops.size).all fun i => (List.range i).all fun j =>
    (pr.getD i []).contains j ||
    match ops[i]?, ops[j]? with
    | some x, some y => x.apart ops y && y.apart ops x
    | _, _ => false

def edgesBack (ops : Array Oper) : Bool :=
  ops.toList.zipIdx.all fun (o, i) => o.after.toList.all fun e => !Region.binds .any e || decide (e.on < i)

def drawStat (ops : Array Oper) : Bool := edgesBack ops && tmpsApart ops

def pairsOk (fs : List Ft) (ps : List (Nat × Nat)) : Bool :=
  ps.all fun (j, i) => match fs[j]?, fs[i]? with | some f, some g => !clash f g | _, _ => false

mutual
/-- A call with trees alone. -/
def callD (C : Cfg) (f : FuncId) (xs : List Dat) : Option (List Dat) :=
  match C.ext f xs with
  | some rs => some rs
  | none =>
    match C.fn f with
    | none => none
    | some F =>
      match F.body with
      | none => none
      | some code => do
        let (e, s) ← runC C code { regs := fun i => if i < xs.length then .d (xs.getD i default) else .undef, homes := fun _ => .dead, next := 0 }
        match e with
        | .exit _ => none
        | _ =>
          match resultsA C s F.results.toList with
          | none => none
          | some vs => (frzAll s.homes vs).map (·.1)
  partial_fixpoint

/-- A call that takes the homes along. -/
def callR (C : Cfg) (f : FuncId) (vs : List AV) (H : Hs) (nx : Nat) : Option (List AV × Hs × Nat) :=
  match C.fn f with
  | none => none
  | some F =>
    match F.body with
    | none => none
    | some code => do
      let (e, s) ← runC C code { regs := fun i => if i < vs.length then vs.getD i default else .undef, homes := H, next := nx }
      match e with
      | .exit _ => none
      | _ => (resultsA C s F.results.toList).map fun rs => (rs, s.homes, s.next)
  partial_fixpoint

/-- An operation. -/
def opV (C : Cfg) (e : Operand → AV) (o : Op) (H : Hs) (nx : Nat) : Option (AV × Hs × Nat) :=
  match o with
  | .call { callee := .value fv, args, .. } =>
    match fnOf (e fv) with
    | none => none
    | some (f, caps) =>
      match C.sig f with
      | .raw => do
        let (vs, H1, n1) ← callR C f (args.toList.map e ++ caps) H nx
        some (tupA vs, H1, n1)
      | .dat =>
        match frzAll H (args.toList.map e ++ caps) with
        | none => none
        | some (xs, H1) => do
          let ds ← callD C f xs
          some (tupA (ds.map .d), H1, nx)
      | .scal =>
        match seeAll (see 4 H) (args.toList.map e ++ caps) with
        | none => none
        | some xs => do
          let ds ← callD C f xs
          if ds.all plainD then some (tupA (ds.map .d), H, nx) else none
  | o => act C H nx e o
  partial_fixpoint

def runOps (C : Cfg) (ops : Array Oper) (l : List Oper) (s : St) : Option St :=
  match l with
  | [] => some s
  | o :: rest =>
    match wantedA ops s.regs o with
    | none => none
    | some false => runOps C ops rest { s with regs := putR s.regs o.dst .undef }
    | some true => do
      let (v, H1, n1) ← opV C (ev C s) o.op s.homes s.next
      runOps C ops rest { regs := putR s.regs o.dst v, homes := H1, next := n1 }
  partial_fixpoint

/-- the same, with what each operation may look at and change -/
def runFts (C : Cfg) (ops : Array Oper) (l : List Oper) (s : St) : Option (List Ft × St) :=
  match l with
  | [] => some ([], s)
  | o :: rest =>
    match wantedA ops s.regs o with
    | none => none
    | some false => do
      let (fs, s') ← runFts C ops rest { s with regs := putR s.regs o.dst .undef }
      some (noFt :: fs, s')
    | some true => do
      let (v, H1, n1) ← opV C (ev C s) o.op s.homes s.next
      let (fs, s') ← runFts C ops rest { regs := putR s.regs o.dst v, homes := H1, next := n1 }
      some (footA C s.next (ev C s) o.op :: fs, s')
  partial_fixpoint

def runC (C : Cfg) (c : Code) (s : St) : Option (Ex × St) :=
  match c with
  | .skip => some (.normal, s)
  | .ret => some (.ret, s)
  | .exit id => some (.exit id, s)
  | .region _ ops draw =>
    if draw then
      if drawStat ops then
        if (unord ops.toList).isEmpty then do
          let s' ← runOps C ops ops.toList s
          some (.normal, s')
        else do
          let (fs, s') ← runFts C ops ops.toList s
          if pairsOk fs (unord ops.toList) then some (.normal, s') else none
      else none
    else do
      let s' ← runOps C ops ops.toList s
      some (.normal, s')
  | .seq a b => do
    let (e, s1) ← runC C a s
    match e with
    | .normal => runC C b s1
    | e => some (e, s1)
  | .cond x a b =>
    match ev C s x with
    | .d (.bool true) => runC C a s
    | .d (.bool false) => runC C b s
    | _ => none
  | .block id a => do
    let (e, s1) ← runC C a s
    match e with
    | .exit id' => if id' = id then some (.normal, s1) else some (.exit id', s1)
    | e => some (e, s1)
  | .loop a => do
    let (e, s1) ← runC C a s
    match e with
    | .normal => runC C (.loop a) s1
    | e => some (e, s1)
  | _ => none
  partial_fixpoint
end

end Go.Jv
