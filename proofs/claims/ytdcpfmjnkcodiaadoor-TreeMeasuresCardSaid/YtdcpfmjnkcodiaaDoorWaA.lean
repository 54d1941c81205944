/- What functions of the program compute, as plain Lean. Printed by decomp.py. -/
import Derived.Test.YtdcpfmjnkcodiaaDoorJwE
namespace Go.Proofs.YtdcpfmjnkcodiaaDoor.W
open Go Go.Jv
structure PosT where
  Line : Int
  Col : Int
  deriving Inhabited, DecidableEq
def PosT.enc (x : PosT) : Dat := .agg [(.int .i64 x.Line), (.int .i64 x.Col)]
structure NodeT where
  Op : Int
  Val : Int
  Name : ByteArray
  At : PosT
  deriving Inhabited, DecidableEq
def NodeT.enc (x : NodeT) : Dat := .agg [(.int .i64 x.Op), (.int .i32 x.Val), (.str x.Name), (.int .i64 x.At.Line), (.int .i64 x.At.Col)]
structure Tree_deepT where
  op : Int
  nest : Int
  deriving Inhabited, DecidableEq
def Tree_deepT.enc (x : Tree_deepT) : Dat := .agg [(.int .i64 x.op), (.int .i64 x.nest)]
def operandsTab : List Int := [0, 0, 0, 0, 0, 0, 0, 0, 0, 0, 0, 0, 0, 0, 0, 0, 0, 0, 0, 0, 1, 1, 1, 0, 0, 0, 0, 0, 0, 0, 2, 2, 2, 2, 2, 2, 2, 0, 0, 0, 2, 2, 2, 2, 2, 2, 0, 0, 0, 0, 2, 2]
def junctionlaw3_copyNodes (e : List NodeT) : Option (List NodeT) :=
  (app 48 [] e) >>= fun t4 => some t4
def junctionlaw3_roomy (e : List NodeT) : Option (List NodeT) :=
  (junctionlaw3_copyNodes e) >>= fun t4 => (app 48 t4 [(⟨0, 55, ⟨#[114, 111, 111, 109]⟩, (⟨0, 0⟩ : PosT)⟩ : NodeT), (⟨0, 56, ⟨#[114, 111, 111, 109]⟩, (⟨0, 0⟩ : PosT)⟩ : NodeT)]) >>= fun t8 => some t8
def arith_Arity_k1 (op : Int) : Option Int :=
  if op ≥ 0 then (if op < 52 then (idx operandsTab op) >>= fun t19 => (if t19 > 0 then (idx operandsTab op) >>= fun t24 => some t24 else some (-1)) else some (-1)) else some (-1)
def arith_Arity (op : Int) : Option Int :=
  if op ≥ 1 then (if op ≤ 10 then some 0 else arith_Arity_k1 op) else arith_Arity_k1 op
def tree_Span_L1 (e : List NodeT) (wanted : Int) (j : Int) : Option Int :=
  if j ≥ 0 then (idx e j) >>= fun t23 => (arith_Arity t23.Op) >>= fun t26 => (if t26 < 0 then some (-1) else (if (w64 (wanted + (w64 (t26 - 1)))) = 0 then some j else tree_Span_L1 e (w64 (wanted + (w64 (t26 - 1)))) (w64 (j - 1)))) else some (-1)
  partial_fixpoint
def tree_Span (e : List NodeT) (i : Int) : Option Int :=
  if i < 0 then some (-1) else (if i ≥ (e.length : Int) then some (-1) else tree_Span_L1 e 1 i)
def tree_level_k1 (op : Int) : Option Int :=
  if op = 30 then some 5 else (if op = 31 then some 5 else (if op = 32 then some 6 else (if op = 33 then some 6 else (if op = 34 then some 6 else (if op = 20 then some 7 else some 8)))))
def tree_level (op : Int) : Option Int :=
  if op = 51 then some 1 else (if op = 50 then some 2 else (if op = 21 then some 3 else (if op ≥ 40 then (if op ≤ 45 then some 4 else tree_level_k1 op) else tree_level_k1 op)))
def tree_asks_k1 (op : Int) (t2 : A2 Int) : Option (A2 Int) :=
  (tree_level op) >>= fun t11 => some (⟨t11, 0⟩ : (A2 Int))
def tree_asks_k2 (t2 : A2 Int) : Option (A2 Int) :=
  some (⟨1, 1⟩ : (A2 Int))
def tree_asks_k3 (op : Int) (t2 : A2 Int) : Option (A2 Int) :=
  if op = 22 then tree_asks_k2 t2 else (if op = 35 then tree_asks_k2 t2 else (if op = 36 then tree_asks_k2 t2 else (tree_level op) >>= fun t34 => (tree_level op) >>= fun t36 => some (⟨t34, (w64 (t36 + 1))⟩ : (A2 Int))))
def tree_asks (op : Int) : Option (A2 Int) :=
  if op = 21 then tree_asks_k1 op (⟨0, 0⟩ : (A2 Int)) else (if op = 20 then tree_asks_k1 op (⟨0, 0⟩ : (A2 Int)) else (if op ≥ 40 then (if op ≤ 45 then some (⟨5, 5⟩ : (A2 Int)) else tree_asks_k3 op (⟨0, 0⟩ : (A2 Int))) else tree_asks_k3 op (⟨0, 0⟩ : (A2 Int))))
inductive tree_Nest_L1_S where
  | c0 (stack : List Tree_deepT) (t20 : Int)
  | c1 (stack : List Tree_deepT) (n_ : NodeT) (k : Int) (d : Tree_deepT) (want : A2 Int) (t20 : Int) (t38lo : Int) (t39 : Int) (t40 : Int)
  | c2 (stack : List Tree_deepT) (n_ : NodeT) (k : Int) (d : Tree_deepT) (want : A2 Int) (nest : Int) (t20 : Int) (t38lo : Int) (t39 : Int) (t40 : Int)
  | c3 (stack : List Tree_deepT) (d : Tree_deepT) (t20 : Int)
  | c4 (stack : List Tree_deepT) (d : Tree_deepT) (t20 : Int)
def tree_Nest_L1_run (t18F : List NodeT) (t19F : Int) (st : tree_Nest_L1_S) : Option Int :=
  match st with
  | .c0 stack t20 => if t20 < t19F then (idx t18F t20) >>= fun t22 => (arith_Arity t22.Op) >>= fun t26 => (tree_asks t22.Op) >>= fun t32 => (cut stack (w64 ((stack.length : Int) - t26)) stack.length) >>= fun _ => tree_Nest_L1_run t18F t19F (.c1 stack t22 t26 (⟨t22.Op, 0⟩ : Tree_deepT) t32 t20 (w64 ((stack.length : Int) - t26)) ((stack.drop (w64 ((stack.length : Int) - t26)).toNat).length : Int) 0) else (idx stack 0) >>= fun t86 => some t86.nest
  | .c1 stack n_ k d want t20 t38lo t39 t40 => if t40 < t39 then (idx (stack.drop t38lo.toNat) t40) >>= fun t43 => (tree_level t43.op) >>= fun t49 => (A2.get want t40) >>= fun t51 => (if t49 < t51 then tree_Nest_L1_run t18F t19F (.c2 stack n_ k d want (w64 (t43.nest + 1)) t20 t38lo t39 t40) else tree_Nest_L1_run t18F t19F (.c2 stack n_ k d want t43.nest t20 t38lo t39 t40)) else (cut stack 0 (w64 ((stack.length : Int) - k))) >>= fun t67 => (if n_.Op = 20 then tree_Nest_L1_run t18F t19F (.c3 t67 d t20) else (if n_.Op = 21 then tree_Nest_L1_run t18F t19F (.c3 t67 d t20) else (if n_.Op = 22 then tree_Nest_L1_run t18F t19F (.c3 t67 d t20) else (if n_.Op = 35 then tree_Nest_L1_run t18F t19F (.c3 t67 d t20) else (if n_.Op = 36 then tree_Nest_L1_run t18F t19F (.c3 t67 d t20) else tree_Nest_L1_run t18F t19F (.c4 t67 d t20))))))
  | .c2 stack n_ k d want nest t20 t38lo t39 t40 => tree_Nest_L1_run t18F t19F (.c1 stack n_ k (⟨d.op, (if nest > d.nest then nest else d.nest)⟩ : Tree_deepT) want t20 t38lo t39 (w64 (t40 + 1)))
  | .c3 stack d t20 => tree_Nest_L1_run t18F t19F (.c4 stack (⟨d.op, (w64 (d.nest + 1))⟩ : Tree_deepT) t20)
  | .c4 stack d t20 => (app 16 stack [d]) >>= fun t83 => tree_Nest_L1_run t18F t19F (.c0 t83 (w64 (t20 + 1)))
  partial_fixpoint
def tree_Nest_L1 (stack : List Tree_deepT) (t18F : List NodeT) (t19F : Int) (t20 : Int) : Option Int := tree_Nest_L1_run t18F t19F (.c0 stack t20)
def tree_Nest_L2 (stack : List Tree_deepT) (n_ : NodeT) (k : Int) (d : Tree_deepT) (want : A2 Int) (t18F : List NodeT) (t19F : Int) (t20 : Int) (t38lo : Int) (t39 : Int) (t40 : Int) : Option Int := tree_Nest_L1_run t18F t19F (.c1 stack n_ k d want t20 t38lo t39 t40)
def tree_Nest_k3 (stack : List Tree_deepT) (n_ : NodeT) (k : Int) (d : Tree_deepT) (want : A2 Int) (nest : Int) (t18F : List NodeT) (t19F : Int) (t20 : Int) (t38lo : Int) (t39 : Int) (t40 : Int) : Option Int := tree_Nest_L1_run t18F t19F (.c2 stack n_ k d want nest t20 t38lo t39 t40)
def tree_Nest_k4 (stack : List Tree_deepT) (d : Tree_deepT) (t18F : List NodeT) (t19F : Int) (t20 : Int) : Option Int := tree_Nest_L1_run t18F t19F (.c3 stack d t20)
def tree_Nest_k5 (stack : List Tree_deepT) (d : Tree_deepT) (t18F : List NodeT) (t19F : Int) (t20 : Int) : Option Int := tree_Nest_L1_run t18F t19F (.c4 stack d t20)
theorem tree_Nest_L1_eq (stack : List Tree_deepT) (t18F : List NodeT) (t19F : Int) (t20 : Int) : tree_Nest_L1 stack t18F t19F t20 = (if t20 < t19F then (idx t18F t20) >>= fun t22 => (arith_Arity t22.Op) >>= fun t26 => (tree_asks t22.Op) >>= fun t32 => (cut stack (w64 ((stack.length : Int) - t26)) stack.length) >>= fun _ => tree_Nest_L2 stack t22 t26 (⟨t22.Op, 0⟩ : Tree_deepT) t32 t18F t19F t20 (w64 ((stack.length : Int) - t26)) ((stack.drop (w64 ((stack.length : Int) - t26)).toNat).length : Int) 0 else (idx stack 0) >>= fun t86 => some t86.nest) := by
  rw [tree_Nest_L1, tree_Nest_L1_run]; rfl
theorem tree_Nest_L2_eq (stack : List Tree_deepT) (n_ : NodeT) (k : Int) (d : Tree_deepT) (want : A2 Int) (t18F : List NodeT) (t19F : Int) (t20 : Int) (t38lo : Int) (t39 : Int) (t40 : Int) : tree_Nest_L2 stack n_ k d want t18F t19F t20 t38lo t39 t40 = (if t40 < t39 then (idx (stack.drop t38lo.toNat) t40) >>= fun t43 => (tree_level t43.op) >>= fun t49 => (A2.get want t40) >>= fun t51 => (if t49 < t51 then tree_Nest_k3 stack n_ k d want (w64 (t43.nest + 1)) t18F t19F t20 t38lo t39 t40 else tree_Nest_k3 stack n_ k d want t43.nest t18F t19F t20 t38lo t39 t40) else (cut stack 0 (w64 ((stack.length : Int) - k))) >>= fun t67 => (if n_.Op = 20 then tree_Nest_k4 t67 d t18F t19F t20 else (if n_.Op = 21 then tree_Nest_k4 t67 d t18F t19F t20 else (if n_.Op = 22 then tree_Nest_k4 t67 d t18F t19F t20 else (if n_.Op = 35 then tree_Nest_k4 t67 d t18F t19F t20 else (if n_.Op = 36 then tree_Nest_k4 t67 d t18F t19F t20 else tree_Nest_k5 t67 d t18F t19F t20)))))) := by
  rw [tree_Nest_L2, tree_Nest_L1_run]; rfl
theorem tree_Nest_k3_eq (stack : List Tree_deepT) (n_ : NodeT) (k : Int) (d : Tree_deepT) (want : A2 Int) (nest : Int) (t18F : List NodeT) (t19F : Int) (t20 : Int) (t38lo : Int) (t39 : Int) (t40 : Int) : tree_Nest_k3 stack n_ k d want nest t18F t19F t20 t38lo t39 t40 = tree_Nest_L2 stack n_ k (⟨d.op, (if nest > d.nest then nest else d.nest)⟩ : Tree_deepT) want t18F t19F t20 t38lo t39 (w64 (t40 + 1)) := by
  rw [tree_Nest_k3, tree_Nest_L1_run]; rfl
theorem tree_Nest_k4_eq (stack : List Tree_deepT) (d : Tree_deepT) (t18F : List NodeT) (t19F : Int) (t20 : Int) : tree_Nest_k4 stack d t18F t19F t20 = tree_Nest_k5 stack (⟨d.op, (w64 (d.nest + 1))⟩ : Tree_deepT) t18F t19F t20 := by
  rw [tree_Nest_k4, tree_Nest_L1_run]; rfl
theorem tree_Nest_k5_eq (stack : List Tree_deepT) (d : Tree_deepT) (t18F : List NodeT) (t19F : Int) (t20 : Int) : tree_Nest_k5 stack d t18F t19F t20 = (app 16 stack [d]) >>= fun t83 => tree_Nest_L1 t83 t18F t19F (w64 (t20 + 1)) := by
  rw [tree_Nest_k5, tree_Nest_L1_run]; rfl
def tree_Nest (e : List NodeT) : Option Int :=
  (tree_Span e (w64 ((e.length : Int) - 1))) >>= fun t16 => (if t16 = 0 then tree_Nest_L1 [] e (e.length : Int) 0 else some (-1))
def junctionref3_Arity_k1 (op : Int) : Option Int :=
  if op = 50 then some 2 else (if op = 51 then some 2 else some (-1))
def junctionref3_Arity_k2 (op : Int) : Option Int :=
  if op ≥ 40 then (if op ≤ 45 then some 2 else junctionref3_Arity_k1 op) else junctionref3_Arity_k1 op
def junctionref3_Arity_k3 (op : Int) : Option Int :=
  if op ≥ 30 then (if op ≤ 36 then some 2 else junctionref3_Arity_k2 op) else junctionref3_Arity_k2 op
def junctionref3_Arity_k4 (op : Int) : Option Int :=
  if op ≥ 20 then (if op ≤ 22 then some 1 else junctionref3_Arity_k3 op) else junctionref3_Arity_k3 op
def junctionref3_Arity (op : Int) : Option Int :=
  if op ≥ 1 then (if op ≤ 10 then some 0 else junctionref3_Arity_k4 op) else junctionref3_Arity_k4 op
def junctionref3_Span_L1 (e : List NodeT) (wanted : Int) (j : Int) : Option Int :=
  if j ≥ 0 then (idx e j) >>= fun t23 => (junctionref3_Arity t23.Op) >>= fun t26 => (if t26 < 0 then some (-1) else (if (w64 ((w64 (wanted - 1)) + t26)) = 0 then some j else junctionref3_Span_L1 e (w64 ((w64 (wanted - 1)) + t26)) (w64 (j - 1)))) else some (-1)
  partial_fixpoint
def junctionref3_Span (e : List NodeT) (i : Int) : Option Int :=
  if i < 0 then some (-1) else (if i ≥ (e.length : Int) then some (-1) else junctionref3_Span_L1 e 1 i)
def junctionref3_One (e : List NodeT) : Option Bool :=
  if (e.length : Int) = 0 then some false else (junctionref3_Span e (w64 ((e.length : Int) - 1))) >>= fun t11 => some (decide (t11 = 0))
def junctionref3_Asked (op : Int) : Option (Int × Int) :=
  if op = 51 then some (1, 2) else (if op = 50 then some (2, 3) else (if op = 21 then some (3, 3) else (if op = 40 then some (5, 5) else (if op = 41 then some (5, 5) else (if op = 42 then some (5, 5) else (if op = 43 then some (5, 5) else (if op = 44 then some (5, 5) else (if op = 45 then some (5, 5) else (if op = 30 then some (5, 6) else (if op = 31 then some (5, 6) else (if op = 32 then some (6, 7) else (if op = 33 then some (6, 7) else (if op = 34 then some (6, 7) else (if op = 20 then some (7, 7) else some (1, 1)))))))))))))))
def junctionref3_Level (op : Int) : Option Int :=
  if op = 51 then some 1 else (if op = 50 then some 2 else (if op = 21 then some 3 else (if op = 40 then some 4 else (if op = 41 then some 4 else (if op = 42 then some 4 else (if op = 43 then some 4 else (if op = 44 then some 4 else (if op = 45 then some 4 else (if op = 30 then some 5 else (if op = 31 then some 5 else (if op = 32 then some 6 else (if op = 33 then some 6 else (if op = 34 then some 6 else (if op = 20 then some 7 else some 8))))))))))))))
inductive junctionref3_Nest_L1_S where
  | c0 (nests : List Int) (ops : List Int) (i : Int)
  | c1 (nests : List Int) (ops : List Int) (i : Int) (op : Int) (a : Int) (x : Int) (y : Int) (own : Int) (k : Int)
  | c2 (nests : List Int) (ops : List Int) (i : Int) (op : Int) (a : Int) (x : Int) (y : Int) (own : Int) (k : Int) (n_ : Int) (asked : Int)
  | c3 (nests : List Int) (ops : List Int) (i : Int) (op : Int) (a : Int) (x : Int) (y : Int) (own : Int) (k : Int) (v : Int)
  | c4 (nests : List Int) (ops : List Int) (i : Int) (op : Int) (a : Int) (x : Int) (y : Int) (own : Int) (k : Int)
  | c5 (nests : List Int) (ops : List Int) (i : Int) (op : Int) (a : Int) (own : Int)
  | c6 (nests : List Int) (ops : List Int) (i : Int) (op : Int) (a : Int) (own : Int)
def junctionref3_Nest_L1_run (eF : List NodeT) (st : junctionref3_Nest_L1_S) : Option Int :=
  match st with
  | .c0 nests ops i => if i < (eF.length : Int) then (idx eF i) >>= fun t28 => (junctionref3_Arity t28.Op) >>= fun t32 => (junctionref3_Asked t28.Op) >>= fun t35 => junctionref3_Nest_L1_run eF (.c1 nests ops i t28.Op t32 t35.1 t35.2 0 0) else (idx nests 0) >>= fun t105 => some t105
  | .c1 nests ops i op a x y own k => if k < a then (if k = 1 then junctionref3_Nest_L1_run eF (.c2 nests ops i op a x y own k (w64 ((w64 ((nests.length : Int) - a)) + k)) y) else junctionref3_Nest_L1_run eF (.c2 nests ops i op a x y own k (w64 ((w64 ((nests.length : Int) - a)) + k)) x)) else (if op ≥ 20 then (if op ≤ 22 then junctionref3_Nest_L1_run eF (.c5 nests ops i op a own) else (if op = 35 then junctionref3_Nest_L1_run eF (.c5 nests ops i op a own) else (if op = 36 then junctionref3_Nest_L1_run eF (.c5 nests ops i op a own) else junctionref3_Nest_L1_run eF (.c6 nests ops i op a own)))) else (if op = 35 then junctionref3_Nest_L1_run eF (.c5 nests ops i op a own) else (if op = 36 then junctionref3_Nest_L1_run eF (.c5 nests ops i op a own) else junctionref3_Nest_L1_run eF (.c6 nests ops i op a own))))
  | .c2 nests ops i op a x y own k n_ asked => (idx nests n_) >>= fun t55 => (idx ops n_) >>= fun t59 => (junctionref3_Level t59) >>= fun t61 => (if t61 < asked then junctionref3_Nest_L1_run eF (.c3 nests ops i op a x y own k (w64 (t55 + 1))) else junctionref3_Nest_L1_run eF (.c3 nests ops i op a x y own k t55))
  | .c3 nests ops i op a x y own k v => if v > own then junctionref3_Nest_L1_run eF (.c4 nests ops i op a x y v k) else junctionref3_Nest_L1_run eF (.c4 nests ops i op a x y own k)
  | .c4 nests ops i op a x y own k => junctionref3_Nest_L1_run eF (.c1 nests ops i op a x y own (w64 (k + 1)))
  | .c5 nests ops i op a own => junctionref3_Nest_L1_run eF (.c6 nests ops i op a (w64 (own + 1)))
  | .c6 nests ops i op a own => (cut nests 0 (w64 ((nests.length : Int) - a))) >>= fun t91 => (app 8 t91 [own]) >>= fun t94 => (cut ops 0 (w64 ((ops.length : Int) - a))) >>= fun t100 => (app 8 t100 [op]) >>= fun t103 => junctionref3_Nest_L1_run eF (.c0 t94 t103 (w64 (i + 1)))
  partial_fixpoint
def junctionref3_Nest_L1 (eF : List NodeT) (nests : List Int) (ops : List Int) (i : Int) : Option Int := junctionref3_Nest_L1_run eF (.c0 nests ops i)
def junctionref3_Nest_L3 (eF : List NodeT) (nests : List Int) (ops : List Int) (i : Int) (op : Int) (a : Int) (x : Int) (y : Int) (own : Int) (k : Int) : Option Int := junctionref3_Nest_L1_run eF (.c1 nests ops i op a x y own k)
def junctionref3_Nest_k4 (eF : List NodeT) (nests : List Int) (ops : List Int) (i : Int) (op : Int) (a : Int) (x : Int) (y : Int) (own : Int) (k : Int) (n_ : Int) (asked : Int) : Option Int := junctionref3_Nest_L1_run eF (.c2 nests ops i op a x y own k n_ asked)
def junctionref3_Nest_k8 (eF : List NodeT) (nests : List Int) (ops : List Int) (i : Int) (op : Int) (a : Int) (x : Int) (y : Int) (own : Int) (k : Int) (v : Int) : Option Int := junctionref3_Nest_L1_run eF (.c3 nests ops i op a x y own k v)
def junctionref3_Nest_k7 (eF : List NodeT) (nests : List Int) (ops : List Int) (i : Int) (op : Int) (a : Int) (x : Int) (y : Int) (own : Int) (k : Int) : Option Int := junctionref3_Nest_L1_run eF (.c4 nests ops i op a x y own k)
def junctionref3_Nest_k5 (eF : List NodeT) (nests : List Int) (ops : List Int) (i : Int) (op : Int) (a : Int) (own : Int) : Option Int := junctionref3_Nest_L1_run eF (.c5 nests ops i op a own)
def junctionref3_Nest_k6 (eF : List NodeT) (nests : List Int) (ops : List Int) (i : Int) (op : Int) (a : Int) (own : Int) : Option Int := junctionref3_Nest_L1_run eF (.c6 nests ops i op a own)
theorem junctionref3_Nest_L1_eq (eF : List NodeT) (nests : List Int) (ops : List Int) (i : Int) : junctionref3_Nest_L1 eF nests ops i = (if i < (eF.length : Int) then (idx eF i) >>= fun t28 => (junctionref3_Arity t28.Op) >>= fun t32 => (junctionref3_Asked t28.Op) >>= fun t35 => junctionref3_Nest_L3 eF nests ops i t28.Op t32 t35.1 t35.2 0 0 else (idx nests 0) >>= fun t105 => some t105) := by
  rw [junctionref3_Nest_L1, junctionref3_Nest_L1_run]; rfl
theorem junctionref3_Nest_L3_eq (eF : List NodeT) (nests : List Int) (ops : List Int) (i : Int) (op : Int) (a : Int) (x : Int) (y : Int) (own : Int) (k : Int) : junctionref3_Nest_L3 eF nests ops i op a x y own k = (if k < a then (if k = 1 then junctionref3_Nest_k4 eF nests ops i op a x y own k (w64 ((w64 ((nests.length : Int) - a)) + k)) y else junctionref3_Nest_k4 eF nests ops i op a x y own k (w64 ((w64 ((nests.length : Int) - a)) + k)) x) else (if op ≥ 20 then (if op ≤ 22 then junctionref3_Nest_k5 eF nests ops i op a own else (if op = 35 then junctionref3_Nest_k5 eF nests ops i op a own else (if op = 36 then junctionref3_Nest_k5 eF nests ops i op a own else junctionref3_Nest_k6 eF nests ops i op a own))) else (if op = 35 then junctionref3_Nest_k5 eF nests ops i op a own else (if op = 36 then junctionref3_Nest_k5 eF nests ops i op a own else junctionref3_Nest_k6 eF nests ops i op a own)))) := by
  rw [junctionref3_Nest_L3, junctionref3_Nest_L1_run]; rfl
theorem junctionref3_Nest_k4_eq (eF : List NodeT) (nests : List Int) (ops : List Int) (i : Int) (op : Int) (a : Int) (x : Int) (y : Int) (own : Int) (k : Int) (n_ : Int) (asked : Int) : junctionref3_Nest_k4 eF nests ops i op a x y own k n_ asked = (idx nests n_) >>= fun t55 => (idx ops n_) >>= fun t59 => (junctionref3_Level t59) >>= fun t61 => (if t61 < asked then junctionref3_Nest_k8 eF nests ops i op a x y own k (w64 (t55 + 1)) else junctionref3_Nest_k8 eF nests ops i op a x y own k t55) := by
  rw [junctionref3_Nest_k4, junctionref3_Nest_L1_run]; rfl
theorem junctionref3_Nest_k8_eq (eF : List NodeT) (nests : List Int) (ops : List Int) (i : Int) (op : Int) (a : Int) (x : Int) (y : Int) (own : Int) (k : Int) (v : Int) : junctionref3_Nest_k8 eF nests ops i op a x y own k v = (if v > own then junctionref3_Nest_k7 eF nests ops i op a x y v k else junctionref3_Nest_k7 eF nests ops i op a x y own k) := by
  rw [junctionref3_Nest_k8, junctionref3_Nest_L1_run]; rfl
theorem junctionref3_Nest_k7_eq (eF : List NodeT) (nests : List Int) (ops : List Int) (i : Int) (op : Int) (a : Int) (x : Int) (y : Int) (own : Int) (k : Int) : junctionref3_Nest_k7 eF nests ops i op a x y own k = junctionref3_Nest_L3 eF nests ops i op a x y own (w64 (k + 1)) := by
  rw [junctionref3_Nest_k7, junctionref3_Nest_L1_run]; rfl
theorem junctionref3_Nest_k5_eq (eF : List NodeT) (nests : List Int) (ops : List Int) (i : Int) (op : Int) (a : Int) (own : Int) : junctionref3_Nest_k5 eF nests ops i op a own = junctionref3_Nest_k6 eF nests ops i op a (w64 (own + 1)) := by
  rw [junctionref3_Nest_k5, junctionref3_Nest_L1_run]; rfl
theorem junctionref3_Nest_k6_eq (eF : List NodeT) (nests : List Int) (ops : List Int) (i : Int) (op : Int) (a : Int) (own : Int) : junctionref3_Nest_k6 eF nests ops i op a own = (cut nests 0 (w64 ((nests.length : Int) - a))) >>= fun t91 => (app 8 t91 [own]) >>= fun t94 => (cut ops 0 (w64 ((ops.length : Int) - a))) >>= fun t100 => (app 8 t100 [op]) >>= fun t103 => junctionref3_Nest_L1 eF t94 t103 (w64 (i + 1)) := by
  rw [junctionref3_Nest_k6, junctionref3_Nest_L1_run]; rfl
def junctionref3_Nest_k2 (e : List NodeT) (ok : Bool) : Option Int :=
  if (!ok) = true then some (-1) else junctionref3_Nest_L1 e [] [] 0
def junctionref3_Nest (e : List NodeT) : Option Int :=
  (junctionref3_One e) >>= fun t17 => (if t17 = true then junctionref3_Nest_k2 e true else junctionref3_Nest_k2 e false)
def junctionlaw3_nodes_L1 (a : List NodeT) (b : List NodeT) (i : Int) : Option Bool :=
  if i < (a.length : Int) then (idx a i) >>= fun t19 => (idx b i) >>= fun t23 => (if (!(decide (t19.Op = t23.Op) && (decide (t19.Val = t23.Val) && (decide (t19.Name = t23.Name) && (decide (t19.At.Line = t23.At.Line) && (decide (t19.At.Col = t23.At.Col) && true)))))) = true then some false else junctionlaw3_nodes_L1 a b (w64 (i + 1))) else some true
  partial_fixpoint
def junctionlaw3_nodes (a : List NodeT) (b : List NodeT) : Option Bool :=
  if (a.length : Int) = (b.length : Int) then junctionlaw3_nodes_L1 a b 0 else some false
def junctionlaw3_TreeMeasures (e : List NodeT) (i : Int) : Option Bool :=
  (junctionlaw3_roomy e) >>= fun t9 => (cut t9 0 (e.length : Int)) >>= fun t13 => (tree_Span t13 i) >>= fun t15 => (cut t9 0 (e.length : Int)) >>= fun t19 => (tree_Nest t19) >>= fun t20 => (junctionref3_Span e i) >>= fun t24 => (if t15 = t24 then (junctionref3_Nest e) >>= fun t29 => (if t20 = t29 then (junctionlaw3_roomy e) >>= fun t35 => (junctionlaw3_nodes t9 t35) >>= fun t36 => some t36 else some false) else some false)
end Go.Proofs.YtdcpfmjnkcodiaaDoor.W
