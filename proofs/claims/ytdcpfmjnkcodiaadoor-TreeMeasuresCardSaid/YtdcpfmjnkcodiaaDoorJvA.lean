/- An abstract machine for loaded Go code: values as trees, the function's own memory as numbered homes. Definitions alone; the texts behind it show that what it answers the real run comes to. -/
import Derived.Orders
namespace Go.Jv

/-- What is read and never changed again: a tree. -/
inductive Dat where
  | int (k : IntKind) (n : Int)
  | bool (b : Bool)
  | str (s : ByteArray)
  | cst (v : Value)
  | lst (xs : List Dat)
  | ptr (cs : List Dat)
  | agg (cs : List Dat)
  | ifc (t : TypeId) (x : Dat)
  | fn (f : FuncId) (cs : List Dat)
  deriving Inhabited

def Dat.cells : Dat → List Dat
  | .agg cs => cs
  | x => [x]

/-- A value in a slot: a tree, or a place in one of the homes. -/
inductive AV where
  | d (x : Dat)
  | nil
  | undef
  | sl (id lo hi : Nat)
  | pt (id off : Nat)
  | pe (id i j : Nat)
  | agg (cs : List AV)
  | tup (vs : List AV)
  | fn (f : FuncId) (cs : List AV)
  | bad
  deriving Inhabited

def AV.cells : AV → List AV
  | .agg cs => cs
  | .d x => x.cells.map .d
  | v => [v]

/-- a slice's elements: their type, how many cells each has -/
structure Row where
  e : TypeId
  sz : Nat
  deriving DecidableEq, Inhabited

/-- A piece of the function's own memory: a slice's array (its elements), a variable (its cells), or such memory that stays as it is from now on. -/
inductive Home where
  | own (z : Row) (xs : List Dat)
  | box (cs : List AV)
  | imm (z : Row) (xs : List Dat)
  | immb (cs : List Dat)
  | dead
  deriving Inhabited

def upd {α : Type} (f : Nat → α) (i : Nat) (v : α) : Nat → α := fun j => if j = i then v else f j

structure St where
  regs : Nat → AV
  homes : Nat → Home
  next : Nat

structure Ty where
  desc : TypeDesc
  size : Nat
  bytes : Nat
  zero : List AV

/-- How a call hands its arguments over. raw: the homes go along. dat: each argument becomes a tree for good, and so does each result. scal: each argument is shown as a tree for the call alone: the results are plain. -/
inductive Sig where
  | raw
  | dat
  | scal
  deriving DecidableEq, Inhabited

structure Cfg where
  ty : TypeId → Option Ty
  glob : Nat → Option (List Dat)
  fn : FuncId → Option Func
  sig : FuncId → Sig
  eqs : TypeId → Option (List Nat)
  ext : FuncId → List Dat → Option (List Dat)

def cav : Value → AV
  | .int k n => .d (.int k n)
  | .bool b => .d (.bool b)
  | .string s => .d (.str s)
  | .slice none 0 0 => .nil
  | v => .d (.cst v)

def ev (C : Cfg) (s : St) : Operand → AV
  | .tmp t => s.regs t
  | .const v => cav v
  | .global g => match C.glob g with | some cs => .d (.ptr cs) | none => .bad
  | .func f => .d (.fn f [])

def isAgg : TypeDesc → Bool
  | .struct _ | .array _ _ => true
  | _ => false

/-- cells read as one value -/
def mkD (a : Bool) (cs : List Dat) : Option Dat :=
  if a then some (.agg cs) else match cs with | [c] => some c | _ => none
def mkA (a : Bool) (cs : List AV) : Option AV :=
  if a then some (.agg cs) else match cs with | [c] => some c | _ => none

def win (xs : List Dat) (lo hi : Nat) : List Dat := (xs.drop lo).take (hi - lo)

def seeAll (f : AV → Option Dat) : List AV → Option (List Dat)
  | [] => some []
  | c :: cs => match f c, seeAll f cs with | some x, some xs => some (x :: xs) | _, _ => none

/-- A value as a tree, as it now stands. n: how deep. -/
def see : Nat → (Nat → Home) → AV → Option Dat
  | 0, _, _ => none
  | n + 1, H, v =>
    match v with
    | .d x => some x
    | .nil => some (.lst [])
    | .sl id lo hi =>
      match H id with
      | .own _ xs => if lo ≤ hi ∧ hi ≤ xs.length then some (.lst (win xs lo hi)) else none
      | .imm _ xs => if lo ≤ hi ∧ hi ≤ xs.length then some (.lst (win xs lo hi)) else none
      | _ => none
    | .pt id off =>
      match H id with
      | .immb cs => some (.ptr (cs.drop off))
      | .box cs => (seeAll (see n H) cs).map fun xs => .ptr (xs.drop off)
      | _ => none
    | .agg cs => (seeAll (see n H) cs).map .agg
    | .fn f cs => (seeAll (see n H) cs).map (.fn f)
    | _ => none

def frzL (f : (Nat → Home) → AV → Option (Dat × (Nat → Home))) : (Nat → Home) → List AV → Option (List Dat × (Nat → Home))
  | H, [] => some ([], H)
  | H, v :: vs =>
    match f H v with
    | none => none
    | some (x, H1) => match frzL f H1 vs with | some (xs, H2) => some (x :: xs, H2) | none => none

/-- A value as a tree for good: what it leads to stays as it is from now on. -/
def frz : Nat → (Nat → Home) → AV → Option (Dat × (Nat → Home))
  | 0, _, _ => none
  | n + 1, H, v =>
    match v with
    | .d x => some (x, H)
    | .nil => some (.lst [], H)
    | .sl id lo hi =>
      match H id with
      | .own z xs => if lo ≤ hi ∧ hi ≤ xs.length then some (.lst (win xs lo hi), upd H id (.imm z xs)) else none
      | .imm _ xs => if lo ≤ hi ∧ hi ≤ xs.length then some (.lst (win xs lo hi), H) else none
      | _ => none
    | .pt id off =>
      match H id with
      | .immb cs => some (.ptr (cs.drop off), H)
      | .box cs =>
        match frzL (frz n) H cs with
        | some (xs, H1) => (match H1 id with | .box _ => some (.ptr (xs.drop off), upd H1 id (.immb xs)) | _ => none)
        | none => none
      | _ => none
    | .agg cs => (frzL (frz n) H cs).map fun r => (.agg r.1, r.2)
    | .fn f cs => (frzL (frz n) H cs).map fun r => (.fn f r.1, r.2)
    | _ => none

def frzAll (H : Nat → Home) (vs : List AV) : Option (List Dat × (Nat → Home)) := frzL (frz 4) H vs

end Go.Jv
