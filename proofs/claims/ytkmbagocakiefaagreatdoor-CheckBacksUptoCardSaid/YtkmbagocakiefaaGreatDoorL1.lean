/- An abstract machine for loaded Go code: values as trees, the function's own memory as numbered homes. Definitions alone; the texts behind it show that what it answers the real run comes to. -/
import Derived.Orders
import Derived.Laws.World
import Derived.Deep.Slices
namespace Go.Jv
inductive Dat where
 | int (k : IntKind) (n : Int)
 | bool (b : Bool)
 | str (s : ByteArray)
 | cst (v : Value)
 | lst (xs : List Dat)
 | ptr (cs : List Dat)
 | agg (cs : List Dat)
 | ifc (t : TypeId) (x : Dat)
 | fn (f : FuncId) (cs : List Dat)
 deriving Inhabited
def Dat.cells : Dat → List Dat
 | .agg cs => cs
 | x => [x]
inductive AV where
 | d (x : Dat)
 | nil
 | undef
 | sl (id lo hi : Nat)
 | pt (id off : Nat)
 | pe (id i j : Nat)
 | agg (cs : List AV)
 | tup (vs : List AV)
 | fn (f : FuncId) (cs : List AV)
 | mp (id : Nat)
 | bad
 deriving Inhabited
def AV.cells : AV → List AV
 | .agg cs => cs
 | .d x => x.cells.map .d
 | v => [v]
structure Row where
 e : TypeId
 sz : Nat
 deriving DecidableEq, Inhabited
inductive dq where
 | own (z : Row) (xs : List Dat)
 | box (cs : List AV)
 | imm (z : Row) (xs : List Dat)
 | immb (cs : List Dat)
 | map (es : List (Dat × Dat))
 | dead
 deriving Inhabited
def upd {α : Type} (f : Nat → α) (i : Nat) (v : α) : Nat → α := fun j => if j = i then v else f j
structure St where
 regs : Nat → AV
 homes : Nat → dq
 next : Nat
structure Ty where
 desc : TypeDesc
 size : Nat
 bytes : Nat
 zero : List AV
inductive Sig where
 | raw
 | dat
 | scal
 deriving DecidableEq, Inhabited
structure Cfg where
 ty : TypeId → Option Ty
 glob : Nat → Option (List Dat)
 fn : FuncId → Option Func
 sig : FuncId → Sig
 eqs : TypeId → Option (List Nat)
 ext : FuncId → List Dat → Option (List Dat)
def cav : Value → AV
 | .int k n => .d (.int k n)
 | .bool b => .d (.bool b)
 | .string s => .d (.str s)
 | .slice none 0 0 => .nil
 | v => .d (.cst v)
def ev (C : Cfg) (s : St) : Operand → AV
 | .tmp t => s.regs t
 | .const v => cav v
 | .global g => match C.glob g with | some cs => .d (.ptr cs) | none => .bad
 | .func f => .d (.fn f [])
def isAgg : TypeDesc → Bool
 | .struct _ | .array _ _ => true
 | _ => false
def mkD (a : Bool) (cs : List Dat) : Option Dat :=
 if a then some (.agg cs) else match cs with | [c] => some c | _ => none
def mkA (a : Bool) (cs : List AV) : Option AV :=
 if a then some (.agg cs) else match cs with | [c] => some c | _ => none
def win (xs : List Dat) (lo hi : Nat) : List Dat := (xs.drop lo).take (hi - lo)
def ck (f : AV → Option Dat) : List AV → Option (List Dat)
 | [] => some []
 | c :: cs => match f c, ck f cs with | some x, some xs => some (x :: xs) | _, _ => none
def see : Nat → (Nat → dq) → AV → Option Dat
 | 0, _, _ => none
 | n + 1, H, v =>
  match v with
  | .d x => some x
  | .nil => some (.lst [])
  | .sl id lo hi =>
   match H id with
   | .own _ xs => if lo ≤ hi ∧ hi ≤ xs.length then some (.lst (win xs lo hi)) else none
   | .imm _ xs => if lo ≤ hi ∧ hi ≤ xs.length then some (.lst (win xs lo hi)) else none
   | _ => none
  | .pt id off =>
   match H id with
   | .immb cs => some (.ptr (cs.drop off))
   | .box cs => (ck (see n H) cs).map fun xs => .ptr (xs.drop off)
   | _ => none
  | .agg cs => (ck (see n H) cs).map .agg
  | .fn f cs => (ck (see n H) cs).map (.fn f)
  | _ => none
def cg (f : (Nat → dq) → AV → Option (Dat × (Nat → dq))) : (Nat → dq) → List AV → Option (List Dat × (Nat → dq))
 | H, [] => some ([], H)
 | H, v :: vs =>
  match f H v with
  | none => none
  | some (x, H1) => match cg f H1 vs with | some (xs, H2) => some (x :: xs, H2) | none => none
def frz : Nat → (Nat → dq) → AV → Option (Dat × (Nat → dq))
 | 0, _, _ => none
 | n + 1, H, v =>
  match v with
  | .d x => some (x, H)
  | .nil => some (.lst [], H)
  | .sl id lo hi =>
   match H id with
   | .own z xs => if lo ≤ hi ∧ hi ≤ xs.length then some (.lst (win xs lo hi), upd H id (.imm z xs)) else none
   | .imm _ xs => if lo ≤ hi ∧ hi ≤ xs.length then some (.lst (win xs lo hi), H) else none
   | _ => none
  | .pt id off =>
   match H id with
   | .immb cs => some (.ptr (cs.drop off), H)
   | .box cs =>
    match cg (frz n) H cs with
    | some (xs, H1) => (match H1 id with | .box _ => some (.ptr (xs.drop off), upd H1 id (.immb xs)) | _ => none)
    | none => none
   | _ => none
  | .agg cs => (cg (frz n) H cs).map fun r => (.agg r.1, r.2)
  | .fn f cs => (cg (frz n) H cs).map fun r => (.fn f r.1, r.2)
  | _ => none
def gU (H : Nat → dq) (vs : List AV) : Option (List Dat × (Nat → dq)) := cg (frz 4) H vs
end Go.Jv
namespace Go.Jv
abbrev Hs := Nat → dq
abbrev R1 := Option (AV × Hs × Nat)
def eqD : Nat → Dat → Dat → Option Bool
 | 1, .int k a, .int k' b => if k = k' then some (decide (a = b)) else none
 | 0, .bool a, .bool b => some (decide (a = b))
 | 2, .str a, .str b => some (decide (a = b))
 | _, _, _ => none
def cM : List Nat → List Dat → List Dat → Option Bool
 | [], [], [] => some true
 | q :: qs, x :: xs, y :: ys => match eqD q x y, cM qs xs ys with | some a, some b => some (a && b) | _, _ => none
 | _, _, _ => none
def Ht (op : BinOp) (k : IntKind) (a b : Int) : Option Dat :=
 match op with
 | .add => some (.int k (k.wrap (a + b)))
 | .sub => some (.int k (k.wrap (a - b)))
 | .mul => some (.int k (k.wrap (a * b)))
 | .quo => if b = 0 then none else some (.int k (k.wrap (a.tdiv b)))
 | .rem => if b = 0 then none else some (.int k (a.tmod b))
 | .and => some (.int k (k.wrap (BitVec.ofInt k.bits a &&& BitVec.ofInt k.bits b).toNat))
 | .or => some (.int k (k.wrap (BitVec.ofInt k.bits a ||| BitVec.ofInt k.bits b).toNat))
 | .xor => some (.int k (k.wrap (BitVec.ofInt k.bits a ^^^ BitVec.ofInt k.bits b).toNat))
 | .andNot => some (.int k (k.wrap (BitVec.ofInt k.bits a &&& ~~~ BitVec.ofInt k.bits b).toNat))
 | .eql => some (.bool (decide (a = b)))
 | .neq => some (.bool (!decide (a = b)))
 | .lss => some (.bool (decide (a < b)))
 | .leq => some (.bool (decide (a ≤ b)))
 | .gtr => some (.bool (decide (a > b)))
 | .geq => some (.bool (decide (a ≥ b)))
 | _ => none
def uc (op : BinOp) (x y : Dat) : Option Dat :=
 match x, y with
 | .int k a, .int k' b =>
  match op with
  | .shl => if b < 0 then none else some (.int k (k.wrap (a * 2 ^ (min b.toNat k.bits))))
  | .shr => if b < 0 then none else some (.int k (a.fdiv (2 ^ (min b.toNat k.bits))))
  | _ => if k = k' then Ht op k a b else none
 | .str a, .str b =>
  match op with
  | .add => if a.size + b.size ≤ 9223372036854775807 then some (.str (a ++ b)) else none
  | .eql => some (.bool (decide (a = b)))
  | .neq => some (.bool (!decide (a = b)))
  | .lss => some (.bool (Op.bytesLess a.toList b.toList))
  | .geq => some (.bool (!Op.bytesLess a.toList b.toList))
  | _ => none
 | _, _ => none
def CQ (C : Cfg) (t : TypeId) (x y : Dat) : Option Bool :=
 match C.ty t, x, y with
 | some i, .bool a, .bool b => match i.desc with | .bool => some (decide (a = b)) | _ => none
 | some i, .agg xs, .agg ys => if isAgg i.desc then (match C.eqs t with | some qs => cM qs xs ys | none => none) else none
 | _, _, _ => none
def dN : AV → Option Dat
 | .d x => some x
 | .agg cs => (ck (fun | .d x => some x | .nil => some (.lst []) | _ => none) cs).map .agg
 | .nil => some (.lst [])
 | _ => none
def qA (C : Cfg) (op : BinOp) (t : TypeId) (x y : AV) : Option Dat :=
 match dN x, dN y with
 | some a, some b =>
  match op with
  | .eql => match uc .eql a b with | some r => some r | none => (CQ C t a b).map .bool
  | .neq => match uc .neq a b with | some r => some r | none => (CQ C t a b).map fun r => .bool (!r)
  | _ => uc op a b
 | _, _ => none
def unD (op : UnOp) (x : Dat) : Option Dat :=
 match op, x with
 | .neg, .int k n => some (.int k (k.wrap (0 - n)))
 | .not, .bool b => some (.bool !b)
 | _, _ => none
def nw (C : Cfg) (t : TypeId) (i : Nat) : Option Field :=
 match C.ty t with
 | some y => match y.desc with | .struct fs => fs[i]? | _ => none
 | none => none
def bP (C : Cfg) (t : TypeId) : Option Nat := (C.ty t).map (·.size)
def lP (C : Cfg) (t : TypeId) : Option Bool := (C.ty t).map fun y => isAgg y.desc
def cd (C : Cfg) (t : TypeId) : Option TypeId :=
 match C.ty t with
 | some y => match y.desc with | .slice e => some e | _ => none
 | none => none
def iq (C : Cfg) (t : TypeId) : Option (Nat × TypeId) :=
 match C.ty t with
 | some y => match y.desc with | .array n e => some (n, e) | _ => none
 | none => none
def gq (cs : List AV) (off n : Nat) : Option (List AV) := if off + n ≤ cs.length then some ((cs.drop off).take n) else none
def jO (cs : List Dat) (off n : Nat) : Option (List Dat) := if off + n ≤ cs.length then some ((cs.drop off).take n) else none
def iQ (C : Cfg) (H : Hs) (t : TypeId) (p : AV) : Option AV :=
 match bP C t, lP C t with
 | some n, some g =>
  match p with
  | .pt id off =>
   match H id with
   | .box cs => (gq cs off n).bind (mkA g)
   | .immb cs => ((jO cs off n).bind (mkD g)).map .d
   | _ => none
  | .pe id i j =>
   match H id with
   | .own _ xs => match xs[i]? with | some x => ((jO x.cells j n).bind (mkD g)).map .d | none => none
   | .imm _ xs => match xs[i]? with | some x => ((jO x.cells j n).bind (mkD g)).map .d | none => none
   | _ => none
  | .d (.ptr cs) => ((jO cs 0 n).bind (mkD g)).map .d
  | _ => none
 | _, _ => none
def cC {α : Type} (cs : List α) (off : Nat) (new : List α) : List α := cs.take off ++ new ++ cs.drop (off + new.length)
def okC : AV → Bool
 | .d (.agg _) => false
 | .agg _ => false
 | .tup _ => false
 | .bad => false
 | .undef => false
 | _ => true
def ke (C : Cfg) (H : Hs) (t : TypeId) (p v : AV) : Option Hs :=
 match bP C t with
 | some n =>
  match p with
  | .pt id off =>
   match H id with
   | .box cs => if v.cells.length = n ∧ v.cells.all okC ∧ off + n ≤ cs.length then some (upd H id (.box (cC cs off v.cells))) else none
   | _ => none
  | .pe id i j =>
   match dN v, H id with
   | some x, .own z xs =>
    match xs[i]? with
    | some y => if x.cells.length = n ∧ (x.cells.map AV.d).all okC ∧ j + n ≤ y.cells.length then
      (match y with
       | .agg cs => some (upd H id (.own z (xs.set i (.agg (cC cs j x.cells)))))
       | _ => (match x.cells with | [c] => some (upd H id (.own z (xs.set i c))) | _ => none))
     else none
    | none => none
   | _, _ => none
  | _ => none
 | none => none
def ri : AV → Option Nat
 | .d (.int .i64 n) => if 0 ≤ n then some n.toNat else none
 | _ => none
def iR : AV → Option Int
 | .d (.int _ n) => some n
 | _ => none
def ud : dq → Option (Row × List Dat)
 | .own z xs => some (z, xs)
 | .imm z xs => some (z, xs)
 | _ => none
def nR (h : dq) (n : Option Nat) : Bool :=
 match ud h, n with
 | some r, some m => decide (r.1.sz = m)
 | _, _ => false
def dJ (C : Cfg) (H : Hs) (t : TypeId) (x i : AV) : Option AV :=
 match iR i with
 | none => none
 | some n =>
  if n < 0 then none else
  match cd C t with
  | some el =>
   (match x with
    | .sl id lo hi => if n < ((hi - lo : Nat) : Int) ∧ nR (H id) (bP C el) = true then some (.pe id (lo + n.toNat) 0) else none
    | .d (.lst xs) => match xs[n.toNat]? with | some y => if bP C el = some y.cells.length then some (.d (.ptr y.cells)) else none | none => none
    | _ => none)
  | none =>
   match iq C t with
   | some (len, e) =>
    (match bP C e with
     | some z =>
      if n < (len : Int) then
       (match x with
        | .pt id off => some (.pt id (off + n.toNat * z))
        | .pe id i j => some (.pe id i (j + n.toNat * z))
        | .d (.ptr cs) => some (.d (.ptr (cs.drop (n.toNat * z))))
        | _ => none)
      else none
     | none => none)
   | none => none
def jP (x : AV) (off n : Nat) (g : Bool) : Option AV :=
 match x with
 | .agg cs => (gq cs off n).bind (mkA g)
 | .d (.agg cs) => ((jO cs off n).bind (mkD g)).map .d
 | _ => none
def vE (x : AV) (k : Nat) : Option AV :=
 match x with
 | .pt id o => some (.pt id (o + k))
 | .pe id i j => some (.pe id i (j + k))
 | .d (.ptr cs) => some (.d (.ptr (cs.drop k)))
 | _ => none
def xS (C : Cfg) (t : TypeId) (x i : AV) : Option AV :=
 match iR i with
 | none => none
 | some n =>
  if n < 0 then none else
  match x with
  | .d (.str s) => (match C.ty t with
    | some y => (match y.desc with | .string => (s[n.toNat]?).map fun b => .d (.int .u8 b.toNat) | _ => none)
    | none => none)
  | _ =>
   match iq C t with
   | some (len, e) =>
    (match bP C e, lP C e with
     | some z, some g =>
      if n < (len : Int) then
       jP x (n.toNat * z) z g
      else none
     | _, _ => none)
   | none => none
def ue (n : Nat) (lo hi : Option AV) : Option (Nat × Nat) :=
 match (match lo with | none => some 0 | some v => ri v), (match hi with | none => some n | some v => ri v) with
 | some l, some h => if l ≤ h ∧ h ≤ n then some (l, h) else none
 | _, _ => none
def gr (C : Cfg) (H : Hs) (t : TypeId) (x : AV) (lo hi : Option AV) (mx : Bool) : Option AV :=
 if mx then none else
 match C.ty t with
 | none => none
 | some y =>
  match y.desc, x with
  | .string, .d (.str s) => (ue s.size lo hi).map fun (l, h) => .d (.str (s.extract l h))
  | .slice el, .sl id a b =>
   if nR (H id) (bP C el) = true then (ue (b - a) lo hi).map fun (l, h) => .sl id (a + l) (a + h) else none
  | .slice el, .nil => if (bP C el).isSome then (ue 0 lo hi).map fun _ => .nil else none
  | .slice el, .d (.lst xs) =>
   match ue xs.length lo hi, bP C el with
   | some (l, h), some z => if l = 0 ∨ xs.all (fun y => decide (y.cells.length = z)) then some (.d (.lst (win xs l h))) else none
   | _, _ => none
  | _, _ => none
def er {α : Type} (cellsOf : AV → Option (List α)) (place : Nat → Option (Nat × Nat)) (cells : List α) : List (Nat × AV) → Option (List α)
 | [] => some cells
 | (i, v) :: rest =>
  match place i, cellsOf v with
  | some (off, size), some new => if new.length = size ∧ off + new.length ≤ cells.length then er cellsOf place (cC cells off new) rest else none
  | _, _ => none
def dD (v : AV) : Option (List AV) := if v.cells.all okC then some v.cells else none
def rX (C : Cfg) (t : TypeId) (parts : List (Nat × AV)) : Option AV :=
 match C.ty t with
 | none => none
 | some y =>
  match y.desc with
  | .struct fs => (er dD (fun i => match fs[i]? with | some f => (bP C f.type).map fun z => (f.offset, z) | none => none) y.zero parts).map .agg
  | .array _ e => (match bP C e with
    | some z => (er dD (fun i => some (i * z, z)) y.zero parts).map .agg
    | none => none)
  | _ => none
def cw (C : Cfg) (e : TypeId) : Option Dat :=
 match C.ty e with
 | some y => (match ck (fun | .d x => some x | .nil => some (.lst []) | _ => none) y.zero with
   | some cs => mkD (isAgg y.desc) cs
   | none => none)
 | none => none
def dy (sz : Nat) (H : Hs) : List Dat → List (Nat × AV) → Option (List Dat × Hs)
 | xs, [] => some (xs, H)
 | xs, (i, v) :: rest =>
  match frz 4 H v with
  | some (x, H1) => if i < xs.length ∧ x.cells.length = sz ∧ (x.cells.map AV.d).all okC = true then dy sz H1 (xs.set i x) rest else none
  | none => none
def nc (C : Cfg) (t : TypeId) (x : AV) : Option Int :=
 match C.ty t with
 | none => none
 | some y =>
  match y.desc, x with
  | .string, .d (.str s) => some s.size
  | .slice _, .d (.lst xs) => some xs.length
  | .slice _, .sl _ lo hi => some ((hi - lo : Nat) : Int)
  | .slice _, .nil => some 0
  | .array n _, _ => some n
  | _, _ => none
def pH (H : Hs) (r : Row) (s : AV) : Option (List Dat × Hs) :=
 match s with
 | .nil => some ([], H)
 | .sl id lo hi =>
  (match H id with
   | .own z xs => if lo = 0 ∧ hi ≤ xs.length ∧ z = r then some (xs.take hi, upd H id .dead) else none
   | _ => none)
 | _ => none
def ky (C : Cfg) (H : Hs) (nx : Nat) (ts tx : TypeId) (s x : AV) : R1 :=
 if ts = tx then
  match cd C ts with
  | none => none
  | some e =>
   match C.ty e with
   | none => none
   | some ye =>
    match pH H ⟨e, ye.size⟩ s, see 1 H x with
    | some (xs, H1), some (.lst new) =>
     if new.all (fun y => decide (y.cells.length = ye.size)) ∧ 0 < ye.size ∧ 0 < ye.bytes ∧ (xs.length + new.length) * ye.bytes ≤ 140737488355328 then
      some (.sl nx 0 (xs.length + new.length), upd H1 nx (.own ⟨e, ye.size⟩ (xs ++ new)), nx + 1)
     else none
    | _, _ => none
 else none
def Hu (C : Cfg) (t : TypeId) (l c : AV) : Option (Row × List Dat) :=
 match cd C t, ri l, ri c with
 | some el, some n, some m =>
  (match cw C el, C.ty el with
   | some z, some ye => if n = m ∧ z.cells.length = ye.size ∧ (z.cells.map AV.d).all okC = true ∧ 0 < ye.size ∧ 0 < ye.bytes ∧ n * ye.bytes ≤ 140737488355328 then some (⟨el, ye.size⟩, List.replicate n z) else none
   | _, _ => none)
 | _, _, _ => none
def Fd (xs : List AV) : Option AV :=
 match xs with
 | [.d (.int k a), .d (.int k' b)] => if k = k' then some (.d (.int k (if b > a then b else a))) else none
 | _ => none
def Fe (xs : List AV) : Option AV :=
 match xs with
 | [.d (.int k a), .d (.int k' b)] => if k = k' then some (.d (.int k (if b < a then b else a))) else none
 | _ => none
def vF (C : Cfg) (src dst : TypeId) (x : AV) : Option AV :=
 match C.ty src, C.ty dst, x with
 | some a, some b, .d (.int _ n) => (match a.desc, b.desc with | .int _, .int k => some (.d (.int k (k.wrap n))) | _, _ => none)
 | some a, some b, .d (.str s) => (match a.desc, b.desc with | .string, .string => some (.d (.str s)) | _, _ => none)
 | _, _, _ => none
def qB (C : Cfg) (t : TypeId) : Option (TypeId × TypeId) :=
 match C.ty t with
 | some y => match y.desc with | .map k e => some (k, e) | _ => none
 | none => none
def rj (C : Cfg) (k : TypeId) (x : Dat) : Bool :=
 match (match C.ty k with | some y => some y.desc | none => none : Option TypeDesc), x with
 | some (.int _), .int _ _ => true
 | some .string, .str _ => true
 | some .bool, .bool _ => true
 | _, _ => false
def lq : Dat → Dat → Option Bool
 | .int k a, .int k' b => if k = k' then some (a == b) else none
 | .str a, .str b => some (a == b)
 | .bool a, .bool b => some (a == b)
 | _, _ => none
def tm (k : Dat) : List (Dat × Dat) → Nat → Option (Option (Nat × Dat))
 | [], _ => some none
 | (q, v) :: es, i =>
  match lq k q with
  | some true => some (some (i, v))
  | some false => tm k es (i + 1)
  | none => none
def oZ (C : Cfg) (H : Hs) (t : TypeId) (m x : AV) (ok : Bool) : Option AV :=
 match m, dN x, qB C t with
 | .mp id, some key, some (k, e) =>
  (match H id with
   | .map es =>
    if rj C k key = true then
     (match tm key es 0, cw C e with
      | some (some (_, v)), _ => some (if ok then .tup [.d v, .d (.bool true)] else .d v)
      | some none, some z => some (if ok then .tup [.d z, .d (.bool false)] else .d z)
      | _, _ => none)
    else none
   | _ => none)
 | _, _, _ => none
def BO (es : List (Dat × Dat)) (key v : Dat) : Option (List (Dat × Dat)) :=
 match tm key es 0 with
 | some (some (i, _)) => some (es.set i (key, v))
 | some none => some (es ++ [(key, v)])
 | none => none
def rB (C : Cfg) (H : Hs) (t : TypeId) (m x v : AV) : Option Hs :=
 match m, dN x, qB C t, frz 4 H v with
 | .mp id, some key, some (k, _), some (d, H1) =>
  (match H1 id with
   | .map es => if rj C k key = true then (BO es key d).map fun es1 => upd H1 id (.map es1) else none
   | _ => none)
 | _, _, _, _ => none
def act (C : Cfg) (H : Hs) (nx : Nat) (e : Operand → AV) (o : Op) : R1 :=
 let pure (v : Option AV) : R1 := v.map fun v => (v, H, nx)
 match o with
 | .move x => pure (some (e x))
 | .assign x => pure (some (e x))
 | .pick c a b => (match e c with | .d (.bool true) => pure (some (e a)) | .d (.bool false) => pure (some (e b)) | _ => none)
 | .alloc t => (C.ty t).bind fun y => some (.pt nx 0, upd H nx (.box y.zero), nx + 1)
 | .box t x => (bP C t).bind fun n => if (e x).cells.length = n ∧ (e x).cells.all okC then some (.pt nx 0, upd H nx (.box (e x).cells), nx + 1) else none
 | .build t ps => pure (rX C t (ps.toList.map fun (i, x) => (i, e x)))
 | .buildSlice t len ps =>
  (match cd C t with
   | some el => (match cw C el, C.ty el with
     | some z, some ye =>
      if z.cells.length = ye.size ∧ (z.cells.map AV.d).all okC = true ∧ 0 < ye.size ∧ len * ye.size ≤ 16777216 then
       (match dy ye.size H (List.replicate len z) (ps.toList.map fun (i, x) => (i, e x)) with
        | some (xs, H1) => some (.sl nx 0 len, upd H1 nx (.own ⟨el, ye.size⟩ xs), nx + 1)
        | none => none)
      else none
     | _, _ => none)
   | none => none)
 | .load t p => pure (iQ C H t (e p))
 | .store t p v => (ke C H t (e p) (e v)).map fun H1 => (.undef, H1, nx)
 | .nilCheck x => (match e x with | .pt id o => pure (some (.pt id o)) | .pe id i j => pure (some (.pe id i j)) | .d (.ptr cs) => pure (some (.d (.ptr cs))) | _ => none)
 | .binOp op t x y _ => pure ((qA C op t (e x) (e y)).map .d)
 | .unOp op _ x => pure ((match e x with | .d v => unD op v | _ => none).map .d)
 | .convert src dst x => pure (vF C src dst (e x))
 | .slice t x lo hi mx => pure (gr C H t (e x) (lo.map e) (hi.map e) mx.isSome)
 | .fieldAddr t x f =>
  (match nw C t f with
   | some fd => if bP C fd.type = some 0 ∨ bP C fd.type = none then none else pure (vE (e x) fd.offset)
   | none => none)
 | .field t x f =>
  (match nw C t f with
   | some fd => (match bP C fd.type, lP C fd.type with
     | some n, some g => pure (jP (e x) fd.offset n g)
     | _, _ => none)
   | none => none)
 | .indexAddr t x i => pure (dJ C H t (e x) (e i))
 | .index t x i => pure (xS C t (e x) (e i))
 | .makeFunc fn first caps => pure (match fn with | .func f => if first.isEmpty then some (.fn f (caps.toList.map e)) else none | _ => none)
 | .makeSlice t l c => (Hu C t (e l) (e c)).map fun r => (.sl nx 0 r.2.length, upd H nx (.own r.1 r.2), nx + 1)
 | .makeMap t r => (match r, qB C t with | none, some _ => some (.mp nx, upd H nx (.map []), nx + 1) | _, _ => none)
 | .lookup t m x ok => pure (oZ C H t (e m) (e x) ok)
 | .mapUpdate t m x v => (rB C H t (e m) (e x) (e v)).map fun H1 => (.undef, H1, nx)
 | .extract t i => (match e t with | .tup vs => pure vs[i]? | _ => none)
 | .call c =>
  (match c.callee with
   | .builtin .len => (match c.args.toList, c.argTypes.toList with | [x], [t] => pure ((nc C t (e x)).map fun n => .d (.int .i64 n)) | _, _ => none)
   | .builtin .append => (match c.args.toList, c.argTypes.toList with | [s, x], [ts, tx] => ky C H nx ts tx (e s) (e x) | _, _ => none)
   | .builtin .max => pure (Fd (c.args.toList.map e))
   | .builtin .min => pure (Fe (c.args.toList.map e))
   | _ => none)
 | _ => none
end Go.Jv
namespace Go.Jv
inductive Ex where
 | normal
 | exit (id : Nat)
 | ret
 deriving Inhabited, DecidableEq
def am (ops : Array Oper) (regs : Nat → AV) (o : Oper) : Option Bool :=
 match o.guard with
 | none => some true
 | some (j, b) =>
  match (ops[j]?).bind (·.dst) with
  | some t => (match regs t with | .d (.bool c) => some (c == b) | .undef => some false | _ => none)
  | none => none
def aK (regs : Nat → AV) (dst : Option Tmp) (v : AV) : Nat → AV :=
 match dst with
 | some t => upd regs t v
 | none => regs
def dv : List AV → AV
 | [v] => v
 | vs => .tup vs
def gP : AV → Option (FuncId × List AV)
 | .d (.fn f cs) => some (f, cs.map .d)
 | .fn f cs => some (f, cs)
 | _ => none
def cF (C : Cfg) (s : St) : List ResultVar → Option (List AV)
 | [] => some []
 | .tmp t :: rest => (cF C s rest).map (s.regs t :: ·)
 | .cell a t :: rest => match iQ C s.homes t (s.regs a), cF C s rest with | some v, some vs => some (v :: vs) | _, _ => none
def kU : Dat → Bool
 | .int _ _ | .bool _ | .str _ => true
 | .agg cs => cs.all fun | .int _ _ | .bool _ | .str _ => true | _ => false
 | _ => false
inductive fT (i : Nat) : AV → Prop where
 | sl (lo hi : Nat) : fT i (.sl i lo hi)
 | pt (off : Nat) : fT i (.pt i off)
 | pe (a b : Nat) : fT i (.pe i a b)
 | mp : fT i (.mp i)
 | agg (cs : List AV) (c : AV) (h : c ∈ cs) (hm : fT i c) : fT i (.agg cs)
 | tup (cs : List AV) (c : AV) (h : c ∈ cs) (hm : fT i c) : fT i (.tup cs)
 | fn (f : FuncId) (cs : List AV) (c : AV) (h : c ∈ cs) (hm : fT i c) : fT i (.fn f cs)
inductive aX (H : Hs) (vs : List AV) : Nat → Prop where
 | arg {i : Nat} (v : AV) (h : v ∈ vs) (hm : fT i v) : aX H vs i
 | box {i : Nat} (j : Nat) (cs : List AV) (c : AV) (hj : aX H vs j) (hb : H j = .box cs) (h : c ∈ cs) (hm : fT i c) : aX H vs i
open Classical in
noncomputable def ml (p : Prop) : Option Unit := if p then some () else none
theorem vQ {p : Prop} (h : p) : ml p = some () := by simp [ml, h]
theorem AL {p : Prop} {u : Unit} (h : ml p = some u) : p := by
 unfold ml at h; split at h
 ·assumption
 ·cases h
open Classical in
noncomputable def restr (R : Nat → Prop) (H : Hs) : Hs := fun i => if R i then H i else .dead
open Classical in
noncomputable def iC (R : Nat → Prop) (nx n1 : Nat) (H H1 : Hs) : Hs := fun i => if R i ∨ (nx ≤ i ∧ i < n1) then H1 i else H i
structure Ft where
 rd : Nat → Prop
 md : Nat → Prop
def aH : AV → List Nat
 | .sl id _ _ => [id]
 | .pt id _ => [id]
 | .pe id _ _ => [id]
 | .mp id => [id]
 | _ => []
def Ft.of (a b : List Nat) : Ft := ⟨fun i => i ∈ a, fun i => i ∈ b⟩
def az : Ft := .of [] []
def bE (C : Cfg) (H : Hs) (nx n1 : Nat) (e : Operand → AV) (o : Op) : Ft :=
 match o with
 | .move _ | .assign _ | .pick .. | .build .. | .nilCheck _ | .binOp .. | .unOp .. | .convert .. | .fieldAddr .. | .field .. | .index .. | .extract .. | .makeFunc .. => az
 | .alloc _ | .box .. | .makeSlice .. | .makeMap .. => .of [] [nx]
 | .buildSlice _ _ ps => if ps.toList.all fun (_, x) => (dN (e x)).isSome then .of [] [nx] else ⟨aX H (ps.toList.map fun (_, x) => e x), fun i => i = nx ∨ aX H (ps.toList.map fun (_, x) => e x) i⟩
 | .load _ p => .of (aH (e p)) []
 | .store _ p _ => .of (aH (e p)) (aH (e p))
 | .slice _ x .. => .of (aH (e x)) []
 | .indexAddr _ x _ => .of (aH (e x)) []
 | .lookup _ m _ _ => .of (aH (e m)) []
 | .mapUpdate _ m _ v => if (dN (e v)).isSome then .of (aH (e m)) (aH (e m)) else ⟨aX H [e m, e v], aX H [e m, e v]⟩
 | .call c =>
  (match c.callee with
   | .builtin .len | .builtin .max | .builtin .min => az
   | .builtin .append => (match c.args.toList with | [s, x] => .of (aH (e s) ++ aH (e x)) (nx :: aH (e s)) | _ => ⟨fun _ => True, fun _ => True⟩)
   | .value fv =>
    (match gP (e fv) with
     | none => ⟨fun _ => True, fun _ => True⟩
     | some (f, caps) =>
      match C.sig f with
      | .scal => ⟨aX H (c.args.toList.map e ++ caps), az.md⟩
      | .dat => if (c.args.toList.map e ++ caps).all fun x => (dN x).isSome then az else ⟨aX H (c.args.toList.map e ++ caps), aX H (c.args.toList.map e ++ caps)⟩
      | .raw => ⟨aX H (c.args.toList.map e ++ caps), fun i => aX H (c.args.toList.map e ++ caps) i ∨ (nx ≤ i ∧ i < n1)⟩)
   | _ => ⟨fun _ => True, fun _ => True⟩)
 | _ => ⟨fun _ => True, fun _ => True⟩
def jv (C : Cfg) (e : Operand → AV) (o : Op) : Option (List AV) :=
 match o with
 | .call c =>
  (match c.callee with
   | .value fv =>
    (match gP (e fv) with
     | some (f, caps) => (match C.sig f with | .raw => some (c.args.toList.map e ++ caps) | _ => none)
     | none => none)
   | _ => none)
 | _ => none
def jp (C : Cfg) (H : Hs) (nx n1 : Nat) (H1 : Hs) (e : Operand → AV) (o : Op) : Ft :=
 match jv C e o with
 | some vs => ⟨aX H vs, fun i => (aX H vs i ∧ H1 i ≠ H i) ∨ (nx ≤ i ∧ i < n1)⟩
 | none => bE C H nx n1 e o
theorem rD {C : Cfg} {H : Hs} {nx n1 : Nat} {H1 : Hs} {e : Operand → AV} {o : Op} (h : jv C e o = none) : jp C H nx n1 H1 e o = bE C H nx n1 e o := by rw [jp, h]
def bH : Op → Bool
 | .move _ | .assign _ | .pick .. | .build .. | .nilCheck _ | .binOp .. | .unOp .. | .convert .. | .fieldAddr .. | .field .. | .index .. | .extract .. | .makeFunc .. => true
 | .call c => (match c.callee with | .builtin .len | .builtin .max | .builtin .min => true | _ => false)
 | _ => false
def fj (f g : Ft) : Prop := ∃ i, (f.md i ∧ (g.rd i ∨ g.md i)) ∨ (f.rd i ∧ g.md i)
def dP (ops : List Oper) : List (List Nat) :=
 ops.foldl (init := []) fun acc o => acc ++ [(o.after.toList.flatMap fun e => if Region.binds .any e then e.on :: acc.getD e.on [] else []).eraseDups]
def iU (ops : List Oper) : List (Nat × Nat) :=
 let pr := dP ops
 (List.range ops.length).flatMap fun i => (List.range i).filterMap fun j =>
  if (pr.getD i []).contains j || bH ((ops.map (·.op)).getD i (.move (.const (.bool true)))) || bH ((ops.map (·.op)).getD j (.move (.const (.bool true)))) then none else some (j, i)
def tw (ops : Array Oper) : Bool :=
 let pr := dP ops.toList
 (List.range ops.size).all fun i => (List.range i).all fun j =>
  (pr.getD i []).contains j ||
  match ops[i]?, ops[j]? with
  | some x, some y => x.apart ops y && y.apart ops x
  | _, _ => false
def tz (ops : Array Oper) : Bool :=
 ops.toList.zipIdx.all fun (o, i) => o.after.toList.all fun e => !Region.binds .any e || decide (e.on < i)
def jQ (ops : Array Oper) : Bool := tz ops && tw ops
def gL (fs : List Ft) (ps : List (Nat × Nat)) : Prop :=
 ∀ p ∈ ps, ∀ f g, fs[p.1]? = some f → fs[p.2]? = some g → ¬ fj f g
mutual
noncomputable def aL (C : Cfg) (f : FuncId) (xs : List Dat) : Option (List Dat) :=
 match C.ext f xs with
 | some rs => some rs
 | none =>
  match C.fn f with
  | none => none
  | some F =>
   match F.body with
   | none => none
   | some code => do
    let (e, s) ← dk C code { regs := fun i => if i < xs.length then .d (xs.getD i default) else .undef, homes := fun _ => .dead, next := 0 }
    match e with
    | .exit _ => none
    | _ =>
     match cF C s F.results.toList with
     | none => none
     | some vs => (gU s.homes vs).map (·.1)
 partial_fixpoint
noncomputable def nW (C : Cfg) (f : FuncId) (vs : List AV) (H : Hs) (nx : Nat) : Option (List AV × Hs × Nat) :=
 match C.fn f with
 | none => none
 | some F =>
  match F.body with
  | none => none
  | some code => do
   let (e, s) ← dk C code { regs := fun i => if i < vs.length then vs.getD i default else .undef, homes := H, next := nx }
   match e with
   | .exit _ => none
   | _ => (cF C s F.results.toList).map fun rs => (rs, s.homes, s.next)
 partial_fixpoint
noncomputable def opV (C : Cfg) (e : Operand → AV) (o : Op) (H : Hs) (nx : Nat) : Option (AV × Hs × Nat) :=
 match o with
 | .call { callee := .value fv, args, .. } =>
  match gP (e fv) with
  | none => none
  | some (f, caps) =>
   match C.sig f with
   | .raw => do
    let (vs, H1, n1) ← nW C f (args.toList.map e ++ caps) H nx
    some (dv vs, H1, n1)
   | .dat =>
    match gU H (args.toList.map e ++ caps) with
    | none => none
    | some (xs, H1) => do
     let ds ← aL C f xs
     some (dv (ds.map .d), H1, nx)
   | .scal =>
    match ck (see 4 H) (args.toList.map e ++ caps) with
    | none => none
    | some xs => do
     let ds ← aL C f xs
     if ds.all kU then some (dv (ds.map .d), H, nx) else none
 | o => act C H nx e o
 partial_fixpoint
noncomputable def opF (C : Cfg) (e : Operand → AV) (o : Op) (H : Hs) (nx : Nat) : Option (AV × Hs × Nat) :=
 match o with
 | .call { callee := .value fv, args, .. } =>
  match gP (e fv) with
  | none => none
  | some (f, caps) =>
   match C.sig f with
   | .raw => do
    ml (∀ i, aX H (args.toList.map e ++ caps) i → i < nx)
    let (vs, H1, n1) ← nW C f (args.toList.map e ++ caps) (restr (aX H (args.toList.map e ++ caps)) H) nx
    some (dv vs, iC (aX H (args.toList.map e ++ caps)) nx n1 H H1, n1)
   | .dat =>
    match gU H (args.toList.map e ++ caps) with
    | none => none
    | some (xs, H1) => do
     let ds ← aL C f xs
     some (dv (ds.map .d), H1, nx)
   | .scal =>
    match ck (see 4 H) (args.toList.map e ++ caps) with
    | none => none
    | some xs => do
     let ds ← aL C f xs
     if ds.all kU then some (dv (ds.map .d), H, nx) else none
 | o => act C H nx e o
 partial_fixpoint
noncomputable def fV (C : Cfg) (ops : Array Oper) (l : List Oper) (s : St) : Option St :=
 match l with
 | [] => some s
 | o :: rest =>
  match am ops s.regs o with
  | none => none
  | some false => fV C ops rest { s with regs := aK s.regs o.dst .undef }
  | some true => do
   let (v, H1, n1) ← opV C (ev C s) o.op s.homes s.next
   fV C ops rest { regs := aK s.regs o.dst v, homes := H1, next := n1 }
 partial_fixpoint
noncomputable def jw (C : Cfg) (ops : Array Oper) (l : List Oper) (s : St) : Option (List Ft × St) :=
 match l with
 | [] => some ([], s)
 | o :: rest =>
  match am ops s.regs o with
  | none => none
  | some false => do
   let (fs, s') ← jw C ops rest { s with regs := aK s.regs o.dst .undef }
   some (az :: fs, s')
  | some true => do
   let (v, H1, n1) ← opF C (ev C s) o.op s.homes s.next
   let (fs, s') ← jw C ops rest { regs := aK s.regs o.dst v, homes := H1, next := n1 }
   some (jp C s.homes s.next n1 H1 (ev C s) o.op :: fs, s')
 partial_fixpoint
noncomputable def dk (C : Cfg) (c : Code) (s : St) : Option (Ex × St) :=
 match c with
 | .skip => some (.normal, s)
 | .ret => some (.ret, s)
 | .exit id => some (.exit id, s)
 | .region _ ops draw =>
  if draw then
   if jQ ops then
    if (iU ops.toList).isEmpty then do
     let s' ← fV C ops ops.toList s
     some (.normal, s')
    else do
     let (fs, s') ← jw C ops ops.toList s
     ml (gL fs (iU ops.toList))
     some (.normal, s')
   else none
  else do
   let s' ← fV C ops ops.toList s
   some (.normal, s')
 | .seq a b => do
  let (e, s1) ← dk C a s
  match e with
  | .normal => dk C b s1
  | e => some (e, s1)
 | .cond x a b =>
  match ev C s x with
  | .d (.bool true) => dk C a s
  | .d (.bool false) => dk C b s
  | _ => none
 | .block id a => do
  let (e, s1) ← dk C a s
  match e with
  | .exit id' => if id' = id then some (.normal, s1) else some (.exit id', s1)
  | e => some (e, s1)
 | .loop a => do
  let (e, s1) ← dk C a s
  match e with
  | .normal => dk C (.loop a) s1
  | e => some (e, s1)
 | _ => none
 partial_fixpoint
end
end Go.Jv
namespace Go.Jv
inductive VR (S : Nat → Prop) (w : World) : Dat → Value → Prop where
 | int (k : IntKind) (n : Int) : VR S w (.int k n) (.int k n)
 | bool (b : Bool) : VR S w (.bool b) (.bool b)
 | str (s : ByteArray) : VR S w (.str s) (.string s)
 | cst (v : Value) (h : v.oneCell' = true) : VR S w (.cst v) v
 | nil : VR S w (.lst []) (.slice none 0 0)
 | emp (a : Addr) (cap : Nat) (hm : cap ≤ maxLen) : VR S w (.lst []) (.slice (some a) 0 cap)
 | lst (xs : List Dat) (b off cap sz : Nat) (us : Nat → Nat → Value) (hS : S b) (hl : xs.length ≤ cap) (hm : cap ≤ maxLen)
   (hz : ∀ (i : Nat) x, xs[i]? = some x → x.cells.length = sz)
   (hc : ∀ i j, i < xs.length → j < sz → w.cell? ⟨b, off + (i * sz + j), none⟩ = some (us i j))
   (ho : ∀ i j, i < xs.length → j < sz → (us i j).oneCell' = true)
   (hv : ∀ (i : Nat) x (j : Nat) c, xs[i]? = some x → x.cells[j]? = some c → VR S w c (us i j)) :
   VR S w (.lst xs) (.slice (some ⟨b, off, none⟩) xs.length cap)
 | ptr (cs : List Dat) (b off : Nat) (us : Nat → Value) (hS : S b)
   (hc : ∀ j, j < cs.length → w.cell? ⟨b, off + j, none⟩ = some (us j))
   (ho : ∀ j, j < cs.length → (us j).oneCell' = true)
   (hv : ∀ (j : Nat) c, cs[j]? = some c → VR S w c (us j)) : VR S w (.ptr cs) (.pointer (some ⟨b, off, none⟩))
 | agg (cs : List Dat) (vs : Array Value) (hl : cs.length = vs.size) (ho : ∀ u ∈ vs, u.oneCell' = true)
   (hv : ∀ (j : Nat) c u, cs[j]? = some c → vs[j]? = some u → VR S w c u) : VR S w (.agg cs) (.agg vs)
 | ifc (t : TypeId) (x : Dat) (v : Value) (hv : VR S w x v) : VR S w (.ifc t x) (.iface t v)
 | fn (f : FuncId) (cs : List Dat) (vs : Array Value) (hl : cs.length = vs.size)
   (hv : ∀ (j : Nat) c u, cs[j]? = some c → vs[j]? = some u → VR S w c u) : VR S w (.fn f cs) (.func (.func f) #[] vs)
def gn (S : Nat → Prop) (w w' : World) : Prop := ∀ b, S b → w'.heap[b]? = w.heap[b]?
theorem gn.cell {S : Nat → Prop} {w w' : World} (h : gn S w w') {b o : Nat} (hb : S b) : w'.cell? ⟨b, o, none⟩ = w.cell? ⟨b, o, none⟩ := by
 simp [World.cell?, h b hb]
theorem VR.mono {S S' : Nat → Prop} {w w' : World} {x : Dat} {v : Value} (h : VR S w x v) (hS : ∀ b, S b → S' b) (hw : gn S w w') : VR S' w' x v := by
 induction h with
 | int k n => exact .int k n
 | bool b => exact .bool b
 | str s => exact .str s
 | cst v h => exact .cst v h
 | nil => exact .nil
 | emp a cap hm => exact .emp a cap hm
 | lst xs b off cap sz us hb hl hm hz hc ho _ ih => exact .lst xs b off cap sz us (hS b hb) hl hm hz (fun i j hi hj => (hw.cell hb).trans (hc i j hi hj)) ho ih
 | ptr cs b off us hb hc ho _ ih => exact .ptr cs b off us (hS b hb) (fun j hj => (hw.cell hb).trans (hc j hj)) ho ih
 | agg cs vs hl ho _ ih => exact .agg cs vs hl ho ih
 | ifc t x v _ ih => exact .ifc t x v ih
 | fn f cs vs hl _ ih => exact .fn f cs vs hl ih
structure Pl where
 blk : Nat
 sz : Nat
 cap : Nat
inductive AVR (S : Nat → Prop) (w : World) (B : Nat → Option Pl) : AV → Value → Prop where
 | d (x : Dat) (v : Value) (h : VR S w x v) : AVR S w B (.d x) v
 | nil : AVR S w B .nil (.slice none 0 0)
 | slz (id : Nat) : AVR S w B (.sl id 0 0) (.slice none 0 0)
 | undef : AVR S w B .undef Go.undef
 | sl (id lo hi : Nat) (p : Pl) (hp : B id = some p) (h1 : lo ≤ hi) (h2 : hi ≤ p.cap) (h3 : lo = 0 ∨ lo < p.cap) (hm : p.cap ≤ maxLen) :
   AVR S w B (.sl id lo hi) (.slice (some ⟨p.blk, lo * p.sz, none⟩) (hi - lo) (p.cap - lo))
 | sle (id lo off c : Nat) (p : Pl) (hp : B id = some p) (h : 0 < lo) (hm : c ≤ maxLen) : AVR S w B (.sl id lo lo) (.slice (some ⟨p.blk, off, none⟩) 0 c)
 | pt (id off : Nat) (p : Pl) (hp : B id = some p) : AVR S w B (.pt id off) (.pointer (some ⟨p.blk, off, none⟩))
 | pe (id i j : Nat) (p : Pl) (hp : B id = some p) : AVR S w B (.pe id i j) (.pointer (some ⟨p.blk, i * p.sz + j, none⟩))
 | agg (cs : List AV) (vs : Array Value) (hl : cs.length = vs.size) (ho : ∀ u ∈ vs, u.oneCell' = true)
   (hv : ∀ (j : Nat) c u, cs[j]? = some c → vs[j]? = some u → AVR S w B c u) : AVR S w B (.agg cs) (.agg vs)
 | tup (cs : List AV) (vs : Array Value) (hl : cs.length = vs.size)
   (hv : ∀ (j : Nat) c u, cs[j]? = some c → vs[j]? = some u → AVR S w B c u) : AVR S w B (.tup cs) (.tuple vs)
 | fn (f : FuncId) (cs : List AV) (vs : Array Value) (hl : cs.length = vs.size)
   (hv : ∀ (j : Nat) c u, cs[j]? = some c → vs[j]? = some u → AVR S w B c u) : AVR S w B (.fn f cs) (.func (.func f) #[] vs)
 | mp (id : Nat) (p : Pl) (hp : B id = some p) : AVR S w B (.mp id) (.map (some p.blk))
 | bad (v : Value) : AVR S w B .bad v
def Ext (B B' : Nat → Option Pl) : Prop := ∀ id p, B id = some p → B' id = some p
theorem Ext.refl (B : Nat → Option Pl) : Ext B B := fun _ _ h => h
theorem Ext.trans {B B' B'' : Nat → Option Pl} (h : Ext B B') (k : Ext B' B'') : Ext B B'' := fun id p hp => k id p (h id p hp)
theorem AVR.mono {S S' : Nat → Prop} {w w' : World} {B B' : Nat → Option Pl} {x : AV} {v : Value} (h : AVR S w B x v)
  (hS : ∀ b, S b → S' b) (hw : gn S w w') (hB : Ext B B') : AVR S' w' B' x v := by
 induction h with
 | d x v h => exact .d x v (h.mono hS hw)
 | nil => exact .nil
 | slz id => exact .slz id
 | undef => exact .undef
 | sl id lo hi p hp h1 h2 h3 hm => exact .sl id lo hi p (hB id p hp) h1 h2 h3 hm
 | sle id lo off c p hp h hm => exact .sle id lo off c p (hB id p hp) h hm
 | pt id off p hp => exact .pt id off p (hB id p hp)
 | pe id i j p hp => exact .pe id i j p (hB id p hp)
 | agg cs vs hl ho _ ih => exact .agg cs vs hl ho ih
 | tup cs vs hl _ ih => exact .tup cs vs hl ih
 | fn f cs vs hl _ ih => exact .fn f cs vs hl ih
 | mp id p hp => exact .mp id p (hB id p hp)
 | bad v => exact .bad v
def kB (S : Nat → Prop) (w : World) (p : Pl) (arr : Array Value) (xs : List Dat) : Prop :=
 arr.size = p.cap * p.sz ∧ xs.length ≤ p.cap ∧ p.cap ≤ maxLen ∧ (∀ (i : Nat) x, xs[i]? = some x → x.cells.length = p.sz) ∧
 ∀ (i : Nat) x (j : Nat) c, xs[i]? = some x → x.cells[j]? = some c → ∃ u, arr[i * p.sz + j]? = some u ∧ u.oneCell' = true ∧ VR S w c u
def keyV : Dat → Option Value
 | .int k n => some (.int k n)
 | .str s => some (.string s)
 | .bool b => some (.bool b)
 | _ => none
inductive HR (S : Nat → Prop) (w : World) (B : Nat → Option Pl) (id : Nat) : dq → Prop where
 | own (xs : List Dat) (p : Pl) (arr : Array Value) (e : TypeId) (hp : B id = some p) (hb : w.heap[p.blk]? = some (.cells arr e (0, 0))) (hr : kB S w p arr xs) : HR S w B id (.own ⟨e, p.sz⟩ xs)
 | ownz (z : Row) (hp : B id = none) : HR S w B id (.own z [])
 | box (cs : List AV) (p : Pl) (arr : Array Value) (e : TypeId) (hp : B id = some p) (hb : w.heap[p.blk]? = some (.cells arr e (0, 0))) (hl : arr.size = cs.length)
   (hv : ∀ (j : Nat) c, cs[j]? = some c → ∃ u, arr[j]? = some u ∧ u.oneCell' = true ∧ AVR S w B c u) : HR S w B id (.box cs)
 | imm (xs : List Dat) (p : Pl) (arr : Array Value) (e : TypeId) (fr : Nat × Nat) (hp : B id = some p) (hS : S p.blk) (hb : w.heap[p.blk]? = some (.cells arr e fr)) (hr : kB S w p arr xs) : HR S w B id (.imm ⟨e, p.sz⟩ xs)
 | immz (z : Row) (hp : B id = none) : HR S w B id (.imm z [])
 | immb (cs : List Dat) (p : Pl) (arr : Array Value) (e : TypeId) (fr : Nat × Nat) (hp : B id = some p) (hS : S p.blk) (hb : w.heap[p.blk]? = some (.cells arr e fr)) (hl : arr.size = cs.length)
   (hv : ∀ (j : Nat) c, cs[j]? = some c → ∃ u, arr[j]? = some u ∧ u.oneCell' = true ∧ VR S w c u) : HR S w B id (.immb cs)
 | map (es : List (Dat × Dat)) (p : Pl) (arr : Array MapEntry) (clock : Nat) (hp : B id = some p) (hb : w.heap[p.blk]? = some (.map arr clock)) (hl : arr.size = es.length)
   (hv : ∀ (j : Nat) k v, es[j]? = some (k, v) → ∃ a, arr[j]? = some a ∧ keyV k = some a.key ∧ VR S w v a.val) : HR S w B id (.map es)
 | dead : HR S w B id .dead
def dq.live : dq → Bool
 | .own _ _ | .box _ | .map _ => true
 | _ => false
theorem kB.mono {S S' : Nat → Prop} {w w' : World} {p : Pl} {arr : Array Value} {xs : List Dat} (h : kB S w p arr xs) (hS : ∀ b, S b → S' b) (hw : gn S w w') : kB S' w' p arr xs :=
 ⟨h.1, h.2.1, h.2.2.1, h.2.2.2.1, fun i x j c hi hj => let ⟨u, h1, h2, h3⟩ := h.2.2.2.2 i x j c hi hj; ⟨u, h1, h2, h3.mono hS hw⟩⟩
theorem HR.mono {S S' : Nat → Prop} {w w' : World} {B B' : Nat → Option Pl} {id : Nat} {h : dq} (hr : HR S w B id h)
  (hS : ∀ b, S b → S' b) (hw : gn S w w') (hB : Ext B B') (hz : h ≠ .dead → B id = none → B' id = none) (hl : h.live = true → ∀ p, B id = some p → w'.heap[p.blk]? = w.heap[p.blk]?) : HR S' w' B' id h := by
 cases hr with
 | own xs p arr e hp hb hr => exact .own xs p arr e (hB id p hp) ((hl rfl p hp).trans hb) (hr.mono hS hw)
 | ownz z hp => exact .ownz z (hz (by simp) hp)
 | immz z hp => exact .immz z (hz (by simp) hp)
 | box cs p arr e hp hb hsz hv => exact .box cs p arr e (hB id p hp) ((hl rfl p hp).trans hb) hsz (fun j c hj => let ⟨u, h1, h2, h3⟩ := hv j c hj; ⟨u, h1, h2, h3.mono hS hw hB⟩)
 | imm xs p arr e fr hp hs hb hr => exact .imm xs p arr e fr (hB id p hp) (hS _ hs) ((hw _ hs).trans hb) (hr.mono hS hw)
 | immb cs p arr e fr hp hs hb hsz hv => exact .immb cs p arr e fr (hB id p hp) (hS _ hs) ((hw _ hs).trans hb) hsz (fun j c hj => let ⟨u, h1, h2, h3⟩ := hv j c hj; ⟨u, h1, h2, h3.mono hS hw⟩)
 | map es p arr clock hp hb hsz hv => exact .map es p arr clock (hB id p hp) ((hl rfl p hp).trans hb) hsz (fun j k v hj => let ⟨a, h1, h2, h3⟩ := hv j k v hj; ⟨a, h1, h2, h3.mono hS hw⟩)
 | dead => exact .dead
def AF (F : Nat → Prop) (nx n1 : Nat) (id : Nat) : Prop := F id ∧ (id < nx ∨ n1 ≤ id)
structure Lz where
 on : Nat → Prop
 b0 : Nat → Option (Option Pl)
instance : CoeFun Lz (fun _ => Nat → Prop) := ⟨Lz.on⟩
structure Mem (C : Cfg) (S0 : Nat → Prop) (L0 : Lz) (w0 : World) (S : Nat → Prop) (B : Nat → Option Pl) (H : Hs) (F : Nat → Prop) (w : World) : Prop where
 homes : ∀ id, HR S w B id (H id)
 fresh : ∀ id, F id → H id = .dead
 freshB : ∀ id, F id → B id = none
 inj : ∀ id id' p p', (H id).live = true → (H id').live = true → B id = some p → B id' = some p' → id ≠ id' → p.blk ≠ p'.blk
 off : ∀ id p, (H id).live = true → B id = some p → ¬ S p.blk
 lt : ∀ b, S b → b < w.heap.size
 glob : ∀ g cs, C.glob g = some cs → VR S w (.ptr cs) (.pointer (some ⟨g, 0, none⟩))
 os : w.os = w0.os
 tape : w.tape = w0.tape
 output : w.output = w0.output
 size : w0.heap.size ≤ w.heap.size
 keep : ∀ b, b < w0.heap.size → ¬ L0 b → w.heap[b]? = w0.heap[b]?
 sub : ∀ b, S0 b → S b
 liveIn : ∀ id p, (H id).live = true → B id = some p → L0 p.blk ∨ w0.heap.size ≤ p.blk
 sIn : ∀ b, S b → S0 b ∨ L0 b ∨ w0.heap.size ≤ b
 b0 : ∀ id q, L0.b0 id = some q → B id = q
 b0F : ∀ id, F id → L0.b0 id = none
def ln (S : Nat → Prop) (w : World) (B : Nat → Option Pl) (regs : Nat → AV) (tmps : Array Value) : Prop :=
 ∀ i, i < tmps.size → AVR S w B (regs i) (tmps.getD i Go.undef)
theorem ln.mono {S S' : Nat → Prop} {w w' : World} {B B' : Nat → Option Pl} {regs : Nat → AV} {tmps : Array Value} (h : ln S w B regs tmps)
  (hS : ∀ b, S b → S' b) (hw : gn S w w') (hB : Ext B B') : ln S' w' B' regs tmps := fun i hi => (h i hi).mono hS hw hB
theorem ln.put {S : Nat → Prop} {w : World} {B : Nat → Option Pl} {regs : Nat → AV} {a : Act} (h : ln S w B regs a.tmps) (dst : Option Tmp) {x : AV} {v : Value} (hv : AVR S w B x v) :
  ln S w B (aK regs dst x) (a.put dst v).tmps := by
 cases dst with
 | none => exact h
 | some t =>
  intro i hi
  simp only [Act.put, Array.size_setIfInBounds] at hi
  simp only [aK, upd, Act.put]
  by_cases e : i = t
  ·subst e
   simpa [hi] using hv
  ·have : (a.tmps.setIfInBounds t v).getD i Go.undef = a.tmps.getD i Go.undef := by
    simp [Array.getD_eq_getD_getElem?, Array.getElem?_setIfInBounds_ne (Ne.symm e)]
   rw [this]
   simpa [e] using h i hi
end Go.Jv
